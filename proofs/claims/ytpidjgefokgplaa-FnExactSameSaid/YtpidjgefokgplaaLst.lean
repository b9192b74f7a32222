/- Rows of data that mean no place: what the machine makes of them. -/
import Derived.Test.YtpidjgefokgplaaData
set_option linter.unusedVariables false
set_option linter.unusedSimpArgs false
set_option linter.unnecessarySimpa false
namespace Go.DM
open Go

/-- data of one make that mean no place -/
class Pl {α : Type} (g : α → D) : Prop where
  lt : ∀ n x, D.lt n (g x) = true
  frz : ∀ n σ x, DM.frz (n + 2) σ (g x) = some (g x, σ)
  vw : ∀ n σ x, DM.vw (n + 2) σ (g x) = some (g x)
/-- and nothing frozen -/
class Sf {α : Type} (g : α → D) : Prop where
  sf : ∀ x, D.sfree (g x) = true
instance : Pl D.str := ⟨fun _ _ => rfl, fun _ _ _ => rfl, fun _ _ _ => rfl⟩
instance : Sf D.str := ⟨fun _ => rfl⟩
instance {k : IntKind} : Pl (D.int k) := ⟨fun _ _ => rfl, fun _ _ _ => rfl, fun _ _ _ => rfl⟩
instance {k : IntKind} : Sf (D.int k) := ⟨fun _ => rfl⟩
instance : Pl Xp.d := ⟨fun n x => Xp.d_lt n x, fun n σ x => Xp.d_frz n σ x, fun n σ x => Xp.d_vw n σ x⟩
instance : Pl Ty.d := ⟨fun n x => Ty.d_lt n x, fun n σ x => Ty.d_frz n σ x, fun n σ x => Ty.d_vw n σ x⟩
instance : Pl Col.d := ⟨fun n x => Col.d_lt n x, fun n σ x => Col.d_frz n σ x, fun n σ x => Col.d_vw n σ x⟩
instance : Pl Labels.d := ⟨fun n x => Labels.d_lt n x, fun n σ x => Labels.d_frz n σ x, fun n σ x => Labels.d_vw n σ x⟩
instance : Pl Seq.d := ⟨fun n x => Seq.d_lt n x, fun n σ x => Seq.d_frz n σ x, fun n σ x => Seq.d_vw n σ x⟩
instance : Pl Rule.d := ⟨fun n x => Rule.d_lt n x, fun n σ x => Rule.d_frz n σ x, fun n σ x => Rule.d_vw n σ x⟩
instance : Pl Table.d := ⟨fun n x => Table.d_lt n x, fun n σ x => Table.d_frz n σ x, fun n σ x => Table.d_vw n σ x⟩
instance : Pl Index.d := ⟨fun n x => Index.d_lt n x, fun n σ x => Index.d_frz n σ x, fun n σ x => Index.d_vw n σ x⟩
instance : Pl View.d := ⟨fun n x => View.d_lt n x, fun n σ x => View.d_frz n σ x, fun n σ x => View.d_vw n σ x⟩
instance : Pl Plan.d := ⟨fun n x => Plan.d_lt n x, fun n σ x => Plan.d_frz n σ x, fun n σ x => Plan.d_vw n σ x⟩
instance : Pl Stmt.d := ⟨fun n x => Stmt.d_lt n x, fun n σ x => Stmt.d_frz n σ x, fun n σ x => Stmt.d_vw n σ x⟩
instance : Pl Kept1.d := ⟨fun n x => Kept1.d_lt n x, fun n σ x => Kept1.d_frz n σ x, fun n σ x => Kept1.d_vw n σ x⟩
instance : Pl Desk.d := ⟨fun n x => Desk.d_lt n x, fun n σ x => Desk.d_frz n σ x, fun n σ x => Desk.d_vw n σ x⟩
instance : Pl Token.d := ⟨fun n x => Token.d_lt n x, fun n σ x => Token.d_frz n σ x, fun n σ x => Token.d_vw n σ x⟩
instance : Pl Val.d := ⟨fun n x => Val.d_lt n x, fun n σ x => Val.d_frz n σ x, fun n σ x => Val.d_vw n σ x⟩
instance : Pl Srt.d := ⟨fun n x => Srt.d_lt n x, fun n σ x => Srt.d_frz n σ x, fun n σ x => Srt.d_vw n σ x⟩
instance : Sf Ty.d := ⟨fun x => by rw [Ty.d_def]; rfl⟩
instance : Sf Token.d := ⟨fun x => by rw [Token.d_def]; rfl⟩
instance : Sf Val.d := ⟨fun x => by rw [Val.d_def]; rfl⟩
instance : Sf Srt.d := ⟨fun x => by rw [Srt.d_def]; rfl⟩
instance : Sf Seq.d := ⟨fun x => by rw [Seq.d_def]; rfl⟩
instance : Sf Kept1.d := ⟨fun x => by rw [Kept1.d_def]; rfl⟩
def byD (b : UInt8) : D := .int .u8 b.toNat
instance : Pl byD := ⟨fun _ _ => rfl, fun _ _ _ => rfl, fun _ _ _ => rfl⟩
instance : Sf byD := ⟨fun _ => rfl⟩
theorem bytesD_eq (s : List UInt8) : bytesD s = s.map byD := rfl
@[simp] theorem byD_eq (b : UInt8) : byD b = .int .u8 b.toNat := rfl

section
variable {α : Type} {g : α → D} {xs : List α}
@[simp] theorem refsL_append (as bs : List D) : D.refsL (as ++ bs) = D.refsL as ++ D.refsL bs := by
  induction as with
  | nil => simp
  | cons a as ih => simp [ih]
@[simp] theorem ltL_append (n : Nat) (as bs : List D) : D.ltL n (as ++ bs) = (D.ltL n as && D.ltL n bs) := by
  induction as with
  | nil => simp
  | cons a as ih => simp [ih, Bool.and_assoc]
@[simp] theorem ltL_map [Pl g] {n : Nat} : D.ltL n (xs.map g) = true := by
  induction xs with
  | nil => simp
  | cons x xs ih => simp [Pl.lt, ih]
@[simp] theorem refsL_map [Pl g] : D.refsL (xs.map g) = [] := (D.free_renL (fun _ => none) _ ltL_map).1
@[simp] theorem renL_map [Pl g] {f : Nat → Option Nat} : D.renL f (xs.map g) = some (xs.map g) := (D.free_renL f _ ltL_map).2
@[simp] theorem sfreeL_app (as bs : List D) : D.sfreeL (as ++ bs) = (D.sfreeL as && D.sfreeL bs) := by
  induction as with
  | nil => simp
  | cons a as ih => simp [ih, Bool.and_assoc]
@[simp] theorem sfreeL_map [Sf g] : D.sfreeL (xs.map g) = true := by
  induction xs with
  | nil => simp
  | cons x xs ih => simp [Sf.sf, ih]
def appO (x : Option (List D)) (y : Option (List D)) : Option (List D) :=
  match x, y with
  | some a, some b => some (a ++ b)
  | _, _ => none
@[simp] theorem appO_some (a b : List D) : appO (some a) (some b) = some (a ++ b) := rfl
@[simp] theorem renL_app (f : Nat → Option Nat) (as bs : List D) : D.renL f (as ++ bs) = appO (D.renL f as) (D.renL f bs) := by
  induction as with
  | nil => simp; cases D.renL f bs <;> rfl
  | cons a as ih =>
    simp only [List.cons_append, renL_cons, ih]
    cases D.ren f a <;> cases D.renL f as <;> cases D.renL f bs <;> rfl
@[simp] theorem mapV_map [Pl g] {n : Nat} {σ : Store} : mapV (vw (n + 2) σ) (xs.map g) = some (xs.map g) := by
  induction xs with
  | nil => simp
  | cons x xs ih => simp [Pl.vw, ih]
@[simp] theorem mapS_map [Pl g] {n : Nat} {σ : Store} : mapS (frz (n + 2)) σ (xs.map g) = some (xs.map g, σ) := by
  induction xs with
  | nil => simp
  | cons x xs ih => simp [Pl.frz, ih]
end

/-! rows that are frozen already -/
section
variable {n : Nat} {σ : Store}
def Frzs (n : Nat) (xs : List D) : Prop := ∀ x ∈ xs, D.lt 0 x = true ∧ ∀ σ, frz n σ x = some (x, σ)
@[simp] theorem Frzs_nil : Frzs n [] ↔ True := by simp [Frzs]
@[simp] theorem Frzs_cons {d : D} {ds : List D} : Frzs n (d :: ds) ↔ (D.lt 0 d = true ∧ ∀ σ, frz n σ d = some (d, σ)) ∧ Frzs n ds := by simp [Frzs]
@[simp] theorem Frzs_app {as bs : List D} : Frzs n (as ++ bs) ↔ Frzs n as ∧ Frzs n bs := by
  simp only [Frzs, List.mem_append]
  exact ⟨fun h => ⟨fun x hx => h x (.inl hx), fun x hx => h x (.inr hx)⟩, fun h x hx => hx.elim (h.1 x) (h.2 x)⟩
@[simp] theorem Frzs_map {α : Type} {g : α → D} [Pl g] {xs : List α} : Frzs (n + 2) (xs.map g) ↔ True := by
  simp only [Frzs, List.mem_map, iff_true]
  rintro _ ⟨x, _, rfl⟩
  exact ⟨Pl.lt 0 x, fun σ => Pl.frz n σ x⟩
theorem Frzs.to {xs : List D} (h : Frzs n xs) : Frzn n xs := by
  induction xs with
  | nil => exact ⟨rfl, fun _ => rfl⟩
  | cons x xs ih =>
    rw [Frzs_cons] at h
    have := ih h.2
    exact ⟨by simp [h.1.1, this.1], fun σ => by simp [h.1.2, this.2]⟩
@[simp] theorem frzB_of {l m e : Nat} {xs : List D} (h : Frzs n xs) (hm : xs.length = m) : frzB n σ l m (some (.arr e xs)) = some (.list xs, (σ.set l .dead).set l (.frz e xs)) := frzB_arr n h.to hm

/-! a row that is filled from its beginning -/
def fill {α : Type} (g : α → D) (z : D) (xs : List α) (i : Nat) : List D := (xs.take i).map g ++ List.replicate (xs.length - i) z
section
variable {α : Type} {g : α → D} {z : D} {xs : List α} {i : Nat}
theorem fill_zero : List.replicate xs.length z = fill g z xs 0 := by simp [fill]
theorem fill_full : fill g z xs xs.length = xs.map g := by simp [fill]
theorem fill_len (h : i ≤ xs.length) : (fill g z xs i).length = xs.length := by simp [fill]; omega
theorem fill_get (h : i < xs.length) : (fill g z xs i)[i]? = some z := by
  unfold fill
  have e1 : ((xs.take i).map g).length = i := by simp; omega
  rw [List.getElem?_append_right (by omega), e1, Nat.sub_self, List.getElem?_replicate, if_pos (by omega)]
theorem fill_set {x : α} (h : i < xs.length) (hx : xs[i]? = some x) : (fill g z xs i).set i (g x) = fill g z xs (i + 1) := by
  unfold fill
  have e : xs.length - i = (xs.length - (i + 1)) + 1 := by omega
  have e1 : ((xs.take i).map g).length = i := by simp; omega
  rw [List.set_append_right _ _ (by omega), e1, e, List.replicate_succ, Nat.sub_self, List.set_cons_zero, List.take_add_one, hx]
  simp
end
def wrY (n : Nat) (σ : Store) (l i off e : Nat) (xs cs' : List D) (y : Option D) : Option Store :=
  match y with
  | some y => if off + n ≤ y.cells.length then some (σ.set l (.arr e (xs.set i (reElem y (splice y.cells off cs'))))) else none
  | none => none
@[simp] theorem wrY_some (m : Nat) (l i off e : Nat) (xs cs' : List D) (y : D) : wrY m σ l i off e xs cs' (some y) = if off + m ≤ y.cells.length then some (σ.set l (.arr e (xs.set i (reElem y (splice y.cells off cs'))))) else none := rfl
@[simp] theorem wrEl_arr (k l m i off e : Nat) (xs cs' : List D) : wrEl k σ l m i off (some (.arr e xs)) cs' = if xs.length = m then wrY k σ l i off e xs cs' (xs[i]?) else none := by
  simp only [wrEl, wrY]
  split
  · cases xs[i]? <;> rfl
  · rfl
@[simp] theorem reElem_agg (as cs : List D) : reElem (.agg as) cs = .agg cs := rfl
@[simp] theorem reElem_str (s : List UInt8) (cs : List D) : reElem (.str s) cs = cs.headD .bot := rfl
@[simp] theorem reElem_int (k : IntKind) (i : Int) (cs : List D) : reElem (.int k i) cs = cs.headD .bot := rfl

/-! bytes -/
@[simp] theorem bytesD_nil : bytesD [] = [] := rfl
@[simp] theorem bytesD_app (a b : List UInt8) : bytesD (a ++ b) = bytesD a ++ bytesD b := by simp [bytesD]
@[simp] theorem bytesD_len (a : List UInt8) : (bytesD a).length = a.length := by simp [bytesD]
@[simp] theorem bytesD_refs (a : List UInt8) : D.refsL (bytesD a) = [] := by rw [bytesD_eq, refsL_map]
@[simp] theorem bytesD_lt (n : Nat) (a : List UInt8) : D.ltL n (bytesD a) = true := by rw [bytesD_eq, ltL_map]
@[simp] theorem bytesD_sfree (a : List UInt8) : D.sfreeL (bytesD a) = true := by rw [bytesD_eq, sfreeL_map]
@[simp] theorem bytesD_ren (f : Nat → Option Nat) (a : List UInt8) : D.renL f (bytesD a) = some (bytesD a) := by rw [bytesD_eq, renL_map]
@[simp] theorem bytesD_vw (a : List UInt8) : mapV (vw (n + 2) σ) (bytesD a) = some (bytesD a) := by rw [bytesD_eq, mapV_map]
@[simp] theorem bytesD_frzs (a : List UInt8) : Frzs (n + 2) (bytesD a) ↔ True := by rw [bytesD_eq, Frzs_map]
@[simp] theorem bytesD_okEl (a : List UInt8) : (bytesD a).all (okEl 1) = true := by
  simp [bytesD, okEl]
theorem byteD_byte (b : UInt8) : byteD (.int .u8 b.toNat) = some b := by
  have : (b.toNat : Int) < 256 := by have := b.toNat_lt; omega
  simp only [byteD]
  rw [if_pos ⟨by omega, this⟩]
  simp
def lowB (x : Int) : UInt8 := UInt8.ofNat (IntKind.wrap .u8 x).toNat
theorem byteD_wrap (x : Int) : byteD (.int .u8 (IntKind.wrap .u8 x)) = some (lowB x) := by
  have h : 0 ≤ IntKind.wrap .u8 x ∧ IntKind.wrap .u8 x < 256 := by
    unfold IntKind.wrap
    simp [IntKind.bits, IntKind.signed]
    omega
  simp only [byteD, if_pos h, lowB]
end
/-! looking for one in a row -/
section
variable {α S : Type}
def scan (p : α → S → Bool × S) : List α → Nat → S → Option Nat × S
  | [], _, s => (none, s)
  | x :: r, i, s => if (p x s).1 = true then (some i, (p x s).2) else scan p r (i + 1) (p x s).2
def idxI : Option Nat → Int
  | some i => i
  | none => -1
def foundO (T : S → Store) (q : Option Nat × S) : Out :=
  match q.1 with
  | some j => some (.ret, [(4, .int .i64 j)], T q.2)
  | none => some (.norm, [], T q.2)
theorem scan_unit (p : α → Bool) : ∀ (xs : List α) (i : Nat), scan (fun x (_ : Unit) => (p x, ())) xs i () = ((xs.findIdx? p).map (· + i), ())
  | [], i => rfl
  | x :: r, i => by
    rw [List.findIdx?_cons]
    cases h : p x with
    | true => simp [scan, h]
    | false =>
      simp only [scan, h, Bool.false_eq_true, if_false, scan_unit p r (i + 1), Option.map_map]
      congr 2
      funext a
      simp only [Function.comp]
      omega
theorem idxI_some (p : α → Bool) (xs : List α) : decide (0 ≤ idxI (xs.findIdx? p)) = xs.any p := by
  cases h : xs.findIdx? p with
  | none =>
    rw [List.findIdx?_eq_none_iff] at h
    have : xs.any p = false := by
      rw [List.any_eq_false]
      intro x hx
      simp [h x hx]
    rw [this]
    rfl
  | some i =>
    rw [List.findIdx?_eq_some_iff_getElem] at h
    obtain ⟨hi, hp, _⟩ := h
    have : xs.any p = true := List.any_eq_true.2 ⟨xs[i], List.getElem_mem hi, hp⟩
    simp [idxI, this]
theorem all_eq [DecidableEq α] : ∀ (xs ys : List α), (decide (xs.length = ys.length) && (xs.zip ys).all fun q => decide (q.1 = q.2)) = decide (xs = ys)
  | [], [] => by simp
  | [], y :: ys => by simp
  | x :: xs, [] => by simp
  | x :: xs, y :: ys => by
    have := all_eq xs ys
    by_cases h : x = y <;> simp [h] at * <;> simpa using this
end
noncomputable instance : DecidableEq Xp := fun a b => Classical.propDecidable (a = b)
noncomputable instance : DecidableEq Col := fun a b => Classical.propDecidable (a = b)
noncomputable instance : DecidableEq Rule := fun a b => Classical.propDecidable (a = b)
noncomputable instance : DecidableEq Table := fun a b => Classical.propDecidable (a = b)
noncomputable instance : DecidableEq View := fun a b => Classical.propDecidable (a = b)
noncomputable instance : DecidableEq Plan := fun a b => Classical.propDecidable (a = b)
noncomputable instance : DecidableEq Stmt := fun a b => Classical.propDecidable (a = b)
noncomputable instance : DecidableEq Desk := fun a b => Classical.propDecidable (a = b)
/-- what is left of a room when something of a size has been taken from it -/
def szR (left : Int) (z : Nat) : Int := if (z : Int) ≤ left then left - z else -1
def szL {α : Type} (f : α → Nat) (xs : List α) : Nat := (xs.map f).sum
@[simp] theorem szL_nil {α : Type} (f : α → Nat) : szL f [] = 0 := rfl
@[simp] theorem szL_cons {α : Type} (f : α → Nat) (x : α) (xs : List α) : szL f (x :: xs) = f x + szL f xs := by simp [szL]
theorem szL_mem {α : Type} (f : α → Nat) {x : α} {xs : List α} (h : x ∈ xs) : f x ≤ szL f xs := by
  induction xs with
  | nil => cases h
  | cons y ys ih =>
    rcases List.mem_cons.1 h with rfl | h
    · simp
    · have := ih h; simp; omega
end Go.DM
