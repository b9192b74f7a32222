/- Reading and writing cells: the machine's way is the model's. -/
import Derived.Test.YtpidjgefokgplaaInv
import Derived.Laws.Sem
import Derived.Laws.Cells
import Derived.Laws.Entries
set_option linter.unnecessarySimpa false
set_option linter.unusedVariables false
set_option linter.unusedSimpArgs false
set_option linter.unusedSectionVars false
namespace Go.DM
open Go

section
variable {num : Cfg} {S S' : Mem} {I I' : Inf} {σ σ' : Store} {w w' : World} {P : Program}

/-! ### lists of data -/

theorem repL_length {ds : List D} {vs : List Value} (h : RepL num S I ds vs) : vs.length = ds.length := by
  induction ds generalizing vs with
  | nil => rw [repL_nil] at h; subst h; rfl
  | cons d ds ih => rw [repL_cons] at h; obtain ⟨v, vs', rfl, _, h⟩ := h; simp [ih h]

theorem repL_append {as bs : List D} {vs : List Value} : RepL num S I (as ++ bs) vs ↔ ∃ v1 v2, vs = v1 ++ v2 ∧ RepL num S I as v1 ∧ RepL num S I bs v2 := by
  induction as generalizing vs with
  | nil =>
    constructor
    · intro h; exact ⟨[], vs, rfl, by simp, h⟩
    · rintro ⟨v1, v2, rfl, h1, h2⟩; rw [repL_nil] at h1; subst h1; exact h2
  | cons d ds ih =>
    rw [List.cons_append, repL_cons]
    constructor
    · rintro ⟨v, vs', rfl, h1, h2⟩
      obtain ⟨v1, v2, rfl, h3, h4⟩ := ih.1 h2
      exact ⟨v :: v1, v2, rfl, repL_cons.2 ⟨v, v1, rfl, h1, h3⟩, h4⟩
    · rintro ⟨v1, v2, rfl, h1, h2⟩
      rw [repL_cons] at h1
      obtain ⟨v, vs', rfl, h3, h4⟩ := h1
      exact ⟨v, vs' ++ v2, rfl, h3, ih.2 ⟨vs', v2, rfl, h4, h2⟩⟩

theorem repL_get {ds : List D} {vs : List Value} (h : RepL num S I ds vs) {i : Nat} {d : D} (hd : ds[i]? = some d) : ∃ v, vs[i]? = some v ∧ Rep num S I d v := by
  induction ds generalizing vs i with
  | nil => simp at hd
  | cons e ds ih =>
    rw [repL_cons] at h
    obtain ⟨v, vs', rfl, h1, h2⟩ := h
    cases i with
    | zero => simp at hd; subst hd; exact ⟨v, rfl, h1⟩
    | succ i => simp at hd; obtain ⟨u, h3, h4⟩ := ih h2 hd; exact ⟨u, by simpa using h3, h4⟩

theorem repL_drop {ds : List D} {vs : List Value} (h : RepL num S I ds vs) (n : Nat) : RepL num S I (ds.drop n) (vs.drop n) := by
  induction ds generalizing vs n with
  | nil => rw [repL_nil] at h; subst h; simp
  | cons d ds ih =>
    rw [repL_cons] at h
    obtain ⟨v, vs', rfl, h1, h2⟩ := h
    cases n with
    | zero => exact repL_cons.2 ⟨v, vs', rfl, h1, h2⟩
    | succ n => simpa using ih h2 n

theorem repL_take {ds : List D} {vs : List Value} (h : RepL num S I ds vs) (n : Nat) : RepL num S I (ds.take n) (vs.take n) := by
  induction ds generalizing vs n with
  | nil => rw [repL_nil] at h; subst h; simp
  | cons d ds ih =>
    rw [repL_cons] at h
    obtain ⟨v, vs', rfl, h1, h2⟩ := h
    cases n with
    | zero => simp
    | succ n => simp only [List.take_succ_cons]; exact repL_cons.2 ⟨v, vs'.take n, rfl, h1, ih h2 n⟩

theorem repL_set {ds : List D} {vs : List Value} (h : RepL num S I ds vs) (n : Nat) {d : D} {v : Value} (hd : Rep num S I d v) : RepL num S I (ds.set n d) (vs.set n v) := by
  induction ds generalizing vs n with
  | nil => rw [repL_nil] at h; subst h; simp
  | cons e ds ih =>
    rw [repL_cons] at h
    obtain ⟨u, vs', rfl, h1, h2⟩ := h
    cases n with
    | zero => exact repL_cons.2 ⟨v, vs', rfl, hd, h2⟩
    | succ n => simp only [List.set_cons_succ]; exact repL_cons.2 ⟨u, vs'.set n v, rfl, h1, ih h2 n⟩

theorem repL_splice {ds ns : List D} {vs us : List Value} (h : RepL num S I ds vs) (k : RepL num S I ns us) (off : Nat) :
    RepL num S I (splice ds off ns) (vs.take off ++ us ++ vs.drop (off + us.length)) := by
  unfold splice
  rw [← repL_length k]
  exact repL_append.2 ⟨_, _, rfl, repL_append.2 ⟨_, _, rfl, repL_take h off, k⟩, repL_drop h _⟩

/-- the value's cells are the datum's -/
theorem rep_cells {d : D} {v : Value} (h : Rep num S I d v) (hd : d.cells.all D.atom = true) : RepL num S I d.cells v.cells.toList := by
  cases d with
  | agg cs => rw [rep_agg] at h; obtain ⟨vs, rfl, h⟩ := h; simpa [D.cells, Value.cells] using h
  | tup cs => simp [D.cells, D.atom] at hd
  | bot => simp [D.cells, D.atom] at hd
  | int k n => simp at h; subst h; exact repL_cons.2 ⟨_, [], rfl, by simp, by simp⟩
  | bool b => simp at h; subst h; exact repL_cons.2 ⟨_, [], rfl, by simp, by simp⟩
  | str s => simp at h; subst h; exact repL_cons.2 ⟨_, [], rfl, by simp, by simp⟩
  | nilp => simp at h; subst h; exact repL_cons.2 ⟨_, [], rfl, by simp, by simp⟩
  | nils => simp at h; obtain ⟨a, rfl⟩ := h; exact repL_cons.2 ⟨_, [], rfl, by simp, by simp⟩
  | nilf => simp at h; subst h; exact repL_cons.2 ⟨_, [], rfl, by simp, by simp⟩
  | ptr l o =>
    have h' := h; rw [rep_ptr] at h; obtain ⟨li, _, _, rfl⟩ := h
    exact repL_cons.2 ⟨_, [], rfl, h', by simp⟩
  | eptr l n i o =>
    have h' := h; rw [rep_eptr] at h; obtain ⟨li, a, _, _, _, rfl, _⟩ := h
    exact repL_cons.2 ⟨_, [], rfl, h', by simp⟩
  | fptr e o => have h' := h; rw [rep_fptr] at h; obtain ⟨b, o', rfl, _⟩ := h; exact repL_cons.2 ⟨_, [], rfl, h', by simp⟩
  | list xs => have h' := h; rw [rep_list] at h; obtain ⟨a, c, rfl, _⟩ := h; exact repL_cons.2 ⟨_, [], rfl, h', by simp⟩
  | sl l n =>
    have h' := h; rw [rep_sl] at h; obtain ⟨li, a, c, _, _, _, rfl, _⟩ := h
    exact repL_cons.2 ⟨_, [], rfl, h', by simp⟩
  | fn g cs => have h' := h; rw [rep_fn] at h; obtain ⟨vs, rfl, _⟩ := h; exact repL_cons.2 ⟨_, [], rfl, h', by simp⟩

/-- one cell's value -/
theorem rep_one {d : D} {v : Value} (h : Rep num S I d v) (hd : d.atom = true) : v.oneCell' = true ∧ v.cells = #[v] := by
  cases d <;> simp [D.atom] at hd <;> (try simp at h) <;> first
    | (subst h; exact ⟨rfl, rfl⟩)
    | (obtain ⟨a, rfl⟩ := h; exact ⟨rfl, rfl⟩)
    | (rw [rep_ptr] at h; obtain ⟨li, _, _, rfl⟩ := h; exact ⟨rfl, rfl⟩)
    | (rw [rep_eptr] at h; obtain ⟨li, a, _, _, _, rfl, _⟩ := h; exact ⟨rfl, rfl⟩)
    | (rw [rep_fptr] at h; obtain ⟨b, o', rfl, _⟩ := h; exact ⟨rfl, rfl⟩)
    | (rw [rep_list] at h; obtain ⟨a, c, rfl, _⟩ := h; exact ⟨rfl, rfl⟩)
    | (rw [rep_sl] at h; obtain ⟨li, a, c, _, _, _, rfl, _⟩ := h; exact ⟨rfl, rfl⟩)
    | (rw [rep_fn] at h; obtain ⟨vs, rfl, _⟩ := h; exact ⟨rfl, rfl⟩)

theorem repL_one {ds : List D} {vs : List Value} (h : RepL num S I ds vs) (hd : ds.all D.atom = true) : ∀ v ∈ vs, v.oneCell' = true := by
  induction ds generalizing vs with
  | nil => rw [repL_nil] at h; subst h; intro v hv; cases hv
  | cons d ds ih =>
    rw [repL_cons] at h
    obtain ⟨v, vs', rfl, h1, h2⟩ := h
    simp only [List.all_cons, Bool.and_eq_true] at hd
    intro u hu
    rcases List.mem_cons.1 hu with rfl | hu
    · exact (rep_one h1 hd.1).1
    · exact ih h2 hd.2 u hu

/-! ### frozen cells -/

/-- the world's cells at b from o on are these -/
def CellsAt (w : World) (b o : Nat) (vs : List Value) : Prop := ∀ j v, vs[j]? = some v → w.cell? ⟨b, o + j, none⟩ = some v

theorem repM_cells {b o : Nat} {ds : List D} (h : RepM num S b o ds) : ∃ vs, RepL num S noInf ds vs ∧ ∀ j v, vs[j]? = some v → S b (o + j) = some v := by
  induction ds generalizing o with
  | nil => exact ⟨[], by simp, by simp⟩
  | cons d ds ih =>
    rw [repM_cons] at h
    obtain ⟨⟨v, h1, h2⟩, h3⟩ := h
    obtain ⟨vs, h4, h5⟩ := ih h3
    refine ⟨v :: vs, repL_cons.2 ⟨v, vs, rfl, h2, h4⟩, fun j u hj => ?_⟩
    cases j with
    | zero => simp at hj; subst hj; simpa using h1
    | succ j => simp at hj; have := h5 j u hj; rwa [show o + (j + 1) = o + 1 + j by omega]

theorem repM_of_cells {b o : Nat} {ds : List D} {vs : List Value} (h : RepL num S noInf ds vs) (k : ∀ j v, vs[j]? = some v → S b (o + j) = some v) : RepM num S b o ds := by
  induction ds generalizing o vs with
  | nil => simp
  | cons d ds ih =>
    rw [repL_cons] at h
    obtain ⟨v, vs', rfl, h1, h2⟩ := h
    refine repM_cons.2 ⟨⟨v, by simpa using k 0 v rfl, h1⟩, ih h2 fun j u hj => ?_⟩
    have := k (j + 1) u (by simpa using hj)
    rwa [show o + 1 + j = o + (j + 1) by omega]

theorem frozen_cells (hv : Inv num S I σ w) {b o : Nat} {d : D} (h : RepD num S b o d) : ∃ vs, RepL num S I d.cells vs ∧ CellsAt w b o vs := by
  rw [repD_cells] at h
  obtain ⟨vs, h1, h2⟩ := repM_cells h
  exact ⟨vs, RepL.mono (SLe.refl S) (ILe.noInf I) _ _ h1, fun j v hj => hv.mem _ _ _ (h2 j v hj)⟩

theorem repE_get {b o e : Nat} {xs : List D} (h : RepE num S b o e xs) {i : Nat} {x : D} (hx : xs[i]? = some x) : x.cells.length = e ∧ RepD num S b (o + i * e) x := by
  induction xs generalizing o i with
  | nil => simp at hx
  | cons y ys ih =>
    rw [repE_cons] at h
    obtain ⟨h1, h2, h3⟩ := h
    cases i with
    | zero => simp at hx; subst hx; exact ⟨h1, by simpa using h2⟩
    | succ i =>
      simp at hx
      obtain ⟨h4, h5⟩ := ih h3 hx
      exact ⟨h4, by rwa [show o + (i + 1) * e = o + e + i * e by rw [Nat.succ_mul]; omega]⟩

theorem repE_drop {b o e : Nat} {xs : List D} (h : RepE num S b o e xs) (n : Nat) (hn : n ≤ xs.length) : RepE num S b (o + n * e) e (xs.drop n) := by
  induction xs generalizing o n with
  | nil => simp
  | cons y ys ih =>
    cases n with
    | zero => simpa using h
    | succ n =>
      rw [repE_cons] at h
      obtain ⟨h1, h2, h3⟩ := h
      have := ih h3 n (by simpa using hn)
      rwa [show o + (n + 1) * e = o + e + n * e by rw [Nat.succ_mul]; omega]

theorem repE_take {b o e : Nat} {xs : List D} (h : RepE num S b o e xs) (n : Nat) : RepE num S b o e (xs.take n) := by
  induction xs generalizing o n with
  | nil => simp
  | cons y ys ih =>
    cases n with
    | zero => simp
    | succ n =>
      rw [repE_cons] at h
      obtain ⟨h1, h2, h3⟩ := h
      exact repE_cons.2 ⟨h1, h2, ih h3 n⟩

theorem repE_flat {b o e : Nat} {xs : List D} : RepE num S b o e xs ↔ RepM num S b o (xs.flatMap D.cells) ∧ ∀ x ∈ xs, x.cells.length = e := by
  induction xs generalizing o with
  | nil => simp
  | cons y ys ih =>
    rw [repE_cons, List.flatMap_cons, repD_cells, ih]
    have split : ∀ (as bs : List D) (o : Nat), RepM num S b o (as ++ bs) ↔ RepM num S b o as ∧ RepM num S b (o + as.length) bs := by
      intro as
      induction as with
      | nil => simp
      | cons a as ih2 => intro bs o; rw [List.cons_append, repM_cons, repM_cons, ih2]; simp [and_assoc, Nat.add_assoc, Nat.add_comm 1]
    rw [split]
    constructor
    · rintro ⟨h1, h2, h3, h4⟩
      exact ⟨⟨h2, by rw [h1]; exact h3⟩, fun x hx => (List.mem_cons.1 hx).elim (fun q => q ▸ h1) (h4 x)⟩
    · rintro ⟨⟨h1, h2⟩, h3⟩
      have h4 := h3 y (by simp)
      exact ⟨h4, h1, by rw [← h4]; exact h2, fun x hx => h3 x (by simp [hx])⟩

/-! ### rows of elements -/

theorem flat_length {e : Nat} {xs : List D} (h : ∀ x ∈ xs, x.cells.length = e) : (xs.flatMap D.cells).length = xs.length * e := by
  induction xs with
  | nil => simp
  | cons x xs ih => rw [List.flatMap_cons, List.length_append, h x (by simp), ih fun y hy => h y (by simp [hy]), List.length_cons, Nat.succ_mul, Nat.add_comm]

theorem flat_get {e : Nat} {xs : List D} (h : ∀ x ∈ xs, x.cells.length = e) {i : Nat} {x : D} (hx : xs[i]? = some x) :
    ∃ pre post, xs.flatMap D.cells = pre ++ (x.cells ++ post) ∧ pre.length = i * e ∧ ∀ y : D, (xs.set i y).flatMap D.cells = pre ++ (y.cells ++ post) := by
  induction xs generalizing i with
  | nil => simp at hx
  | cons z zs ih =>
    cases i with
    | zero =>
      simp at hx; subst hx
      exact ⟨[], zs.flatMap D.cells, by simp, by simp, by simp⟩
    | succ i =>
      simp at hx
      obtain ⟨pre, post, h1, h2, h3⟩ := ih (fun y hy => h y (by simp [hy])) hx
      refine ⟨z.cells ++ pre, post, by simp [h1], ?_, fun y => by simp [h3]⟩
      rw [List.length_append, h z (by simp), h2, Nat.succ_mul, Nat.add_comm]

theorem addr_add (b o n : Nat) : Addr.add ⟨b, o, none⟩ n = ⟨b, o + n, none⟩ := Addr.add_lit b o n

theorem run_isAgg_of {T : TypeId} {d : TypeDesc} (h : P.underlying T = some d) (w : World) : (isAgg T).run P w = .ok (isAggD d) w := by
  cases d <;> simp [isAgg, run_underlying h, isAggD]

theorem run_isAgg_some {T : TypeId} {n : Nat} (h : aggOf P T = some (some n)) (w : World) : (isAgg T).run P w = .ok true w ∧ (sizeOf T).run P w = .ok n w := by
  unfold aggOf at h
  split at h
  · rename_i d i h1 h2
    by_cases hd : isAggD d = true
    · simp [hd] at h; subst h
      exact ⟨by rw [run_isAgg_of h1, hd], by simp [sizeOf, typeInfo, h2]⟩
    · simp [hd] at h
  · cases h

theorem run_isAgg_none {T : TypeId} (h : aggOf P T = some none) (w : World) : (isAgg T).run P w = .ok false w := by
  unfold aggOf at h
  split at h
  · rename_i d i h1 h2
    by_cases hd : isAggD d = true
    · simp [hd] at h
    · rw [run_isAgg_of h1]; simp at hd; rw [hd]
  · cases h

/-- a variable's value, out of its cells -/
theorem run_loadVar {T : TypeId} {g : Option Nat} (hT : aggOf P T = some g) {cs : List D} {vs : List Value} {b o off : Nat} (hr : RepL num S I cs vs) (hc : CellsAt w b o vs)
    {r : D} (h : readCells g cs off = some r) : ∃ u, (loadVar T ⟨b, o + off, none⟩).run P w = .ok u w ∧ Rep num S I r u := by
  unfold readCells at h
  cases g with
  | none =>
    simp only at h
    cases hd : cs[off]? with
    | none => simp [hd] at h
    | some d =>
      simp only [hd] at h
      split at h
      · cases h
        obtain ⟨v, h1, h2⟩ := repL_get hr hd
        refine ⟨v, ?_, h2⟩
        simp [loadVar, run_isAgg_none hT, hc off v h1]
      · cases h
  | some n =>
    simp only at h
    split at h
    · rename_i hle
      cases h
      have hl := repL_length hr
      refine ⟨.agg ((vs.drop off).take n).toArray, ?_, rep_agg.2 ⟨_, rfl, repL_take (repL_drop hr off) n⟩⟩
      have hn : ((vs.drop off).take n).length = n := by simp; omega
      have := run_loadCells_list (P := P) w ⟨b, o + off, none⟩ ((vs.drop off).take n) (fun j v hj => by
        rw [addr_add]
        have hj' : vs[off + j]? = some v := by
          have hjn : j < n := by
            rcases Nat.lt_or_ge j n with q | q
            · exact q
            · rw [List.getElem?_eq_none (by omega)] at hj; cases hj
          rw [List.getElem?_take_of_lt hjn, List.getElem?_drop] at hj
          exact hj
        have := hc (off + j) v hj'
        rwa [show o + off + j = o + (off + j) by omega])
      rw [hn] at this
      simp [loadVar, run_isAgg_some hT, this]
    · cases h

/-- the cells behind a pointer -/
theorem box_cells (hv : Inv num S I σ w) {l : Nat} {cs : List D} {li : LI} (hl : σ[l]? = some (.box cs)) (hi : I l = some li) :
    ∃ vs ty, w.heap[li.b]? = some (.cells vs.toArray ty (0, 0)) ∧ RepL num S I cs vs ∧ CellsAt w li.b 0 vs := by
  obtain ⟨li', h1, h2, h3, vs, ty, h4, h5⟩ := hv.blk l _ hl (.inl rfl)
  rw [hi] at h1; cases h1
  exact ⟨vs, ty, h4, h5, fun j v hj => by simp [World.cell?, h4, hj]⟩

theorem arr_cells (hv : Inv num S I σ w) {l e : Nat} {xs : List D} {li : LI} (hl : σ[l]? = some (.arr e xs)) (hi : I l = some li) :
    ∃ vs, RepL num S I (xs.flatMap D.cells) vs ∧ CellsAt w li.b 0 vs ∧ li.esz = e ∧ li.n = xs.length ∧ (∀ x ∈ xs, x.cells.length = e) ∧ 0 < e := by
  obtain ⟨li', h1, h2, h3, h4, h5, h6, vs, sp, ty, fr, h7, h8, h9, h10⟩ := hv.blk l _ hl (.inl rfl)
  rw [hi] at h1; cases h1
  refine ⟨vs, h8, fun j v hj => ?_, h3, h5, fun x hx => (h6 x hx).1, h4⟩
  have : (vs ++ sp)[j]? = some v := by
    rw [List.getElem?_append_left]
    · exact hj
    · rcases Nat.lt_or_ge j vs.length with q | q
      · exact q
      · rw [List.getElem?_eq_none q] at hj; cases hj
  simp only [World.cell?, h7]
  simpa using this

theorem frz_cells (hv : Inv num S I σ w) {l e : Nat} {xs : List D} {li : LI} (hl : σ[l]? = some (.frz e xs)) (hi : I l = some li) :
    ∃ vs, RepL num S I (xs.flatMap D.cells) vs ∧ CellsAt w li.b 0 vs ∧ li.esz = e ∧ li.n = xs.length ∧ (∀ x ∈ xs, x.cells.length = e) ∧ 0 < e := by
  obtain ⟨li', h1, h2, h3, h4, h5, h6, h7, h8⟩ := hv.blk l _ hl (.inr ⟨e, xs, rfl⟩)
  rw [hi] at h1; cases h1
  rw [repE_flat] at h8
  obtain ⟨vs, h9, h10⟩ := repM_cells h8.1
  exact ⟨vs, RepL.mono (SLe.refl S) (ILe.noInf I) _ _ h9, fun j v hj => hv.mem _ _ _ (h10 j v hj), h3, h5, h8.2, h4⟩

theorem load_sound (hv : Inv num S I σ w) {T : TypeId} {g : Option Nat} (hT : aggOf P T = some g) {d r : D} {v : Value} (hr : Rep num S I d v) (h : loadAt g σ d = some r) :
    ∃ u, (Instr.loadAt T v).run P w = .ok u w ∧ Rep num S I r u := by
  have elem : ∀ {l n i off e : Nat} {xs : List D} {a : Addr} {li : LI} {vs : List Value}, RepL num S I (xs.flatMap D.cells) vs → CellsAt w li.b 0 vs → li.esz = e → li.n = xs.length → (∀ x ∈ xs, x.cells.length = e) →
      (li.n = n → a = ⟨li.b, i * li.esz + off, none⟩) → (if xs.length = n then (xs[i]?).bind fun x => readCells g x.cells off else none) = some r →
      ∃ u, (Instr.loadAt T (.pointer (some a))).run P w = .ok u w ∧ Rep num S I r u := by
    intro l n i off e xs a li vs h1 h2 h3 h4 h5 h6 h
    split at h
    · rename_i hn
      cases hx : xs[i]? with
      | none => simp [hx] at h
      | some x =>
        simp only [hx, Option.bind_some] at h
        obtain ⟨pre, post, h7, h8, _⟩ := flat_get h5 hx
        rw [h7, repL_append] at h1
        obtain ⟨v1, v2, rfl, h9, h10⟩ := h1
        rw [repL_append] at h10
        obtain ⟨v3, v4, rfl, h11, h12⟩ := h10
        have hl1 := repL_length h9
        have hc : CellsAt w li.b (i * e) v3 := fun j u hj => by
          have := h2 (v1.length + j) u (by
            rw [List.getElem?_append_right (by omega), Nat.add_sub_cancel_left, List.getElem?_append_left]
            · exact hj
            · rcases Nat.lt_or_ge j v3.length with q | q
              · exact q
              · rw [List.getElem?_eq_none q] at hj; cases hj)
          rwa [hl1, h8, Nat.zero_add] at this
        obtain ⟨u, h13, h14⟩ := run_loadVar hT h11 hc h
        refine ⟨u, ?_, h14⟩
        rw [h6 (by omega), h3]
        simpa [Instr.loadAt, Instr.sureAddr] using h13
    · cases h
  unfold loadAt at h
  split at h
  · rename_i l off
    rw [rep_ptr] at hr
    obtain ⟨li, h1, h2, rfl⟩ := hr
    split at h
    · rename_i cs hl
      obtain ⟨vs, ty, h3, h4, h5⟩ := box_cells hv hl h1
      obtain ⟨u, h6, h7⟩ := run_loadVar hT h4 h5 h
      exact ⟨u, by simpa [Instr.loadAt, Instr.sureAddr] using h6, h7⟩
    · cases h
  · rename_i l n i off
    rw [rep_eptr] at hr
    obtain ⟨li, a, h1, h2, h3, rfl, h4⟩ := hr
    split at h
    · rename_i e xs hl
      obtain ⟨vs, k1, k2, k3, k4, k5, _⟩ := arr_cells hv hl h1
      exact elem (l := l) k1 k2 k3 k4 k5 h4 h
    · rename_i e xs hl
      obtain ⟨vs, k1, k2, k3, k4, k5, _⟩ := frz_cells hv hl h1
      exact elem (l := l) k1 k2 k3 k4 k5 h4 h
    · cases h
  · rename_i e off
    rw [rep_fptr] at hr
    obtain ⟨b, o, rfl, h1⟩ := hr
    obtain ⟨vs, h2, h3⟩ := frozen_cells hv h1
    obtain ⟨u, h4, h5⟩ := run_loadVar hT h2 h3 h
    exact ⟨u, by simpa [Instr.loadAt, Instr.sureAddr] using h4, h5⟩
  · cases h
end
end Go.DM
