/- How a datum lies in a world: values, frozen cells, the call's own blocks. -/
import Derived.Test.YtpidjgefokgplaaMach
set_option linter.unnecessarySimpa false
set_option linter.unusedVariables false
set_option linter.unusedSimpArgs false
set_option linter.unusedSectionVars false
namespace Go.DM
open Go

structure LI where
  box : Bool
  b : Nat
  esz : Nat
  n : Nat
  cap : Nat

abbrev Inf := Nat → Option LI
abbrev Mem := Nat → Nat → Option Value

def noInf : Inf := fun _ => none

/-- the functions by their numbers; what was there when the law was called, and stays -/
structure Cfg where
  f : Nat → FuncId
  G : Mem
instance : CoeFun Cfg (fun _ => Nat → FuncId) := ⟨Cfg.f⟩
def SLe (S S' : Mem) : Prop := ∀ b o v, S b o = some v → S' b o = some v

section
variable (num : Cfg)

mutual
def Rep (S : Mem) (I : Inf) (d : D) (v : Value) : Prop :=
  match d with
  | .int k n => v = .int k n
  | .bool b => v = .bool b
  | .str s => v = .string ⟨s.toArray⟩
  | .nilp => v = .pointer none
  | .nils => ∃ a, v = .slice a 0 0
  | .nilf => v = .nilFunc
  | .ptr l off => ∃ li, I l = some li ∧ li.box = true ∧ v = .pointer (some ⟨li.b, off, none⟩)
  | .eptr l n i off => ∃ li a, I l = some li ∧ li.box = false ∧ n ≤ li.n ∧ v = .pointer (some a) ∧ (li.n = n → a = ⟨li.b, i * li.esz + off, none⟩)
  | .sl l n => ∃ li a c, I l = some li ∧ li.box = false ∧ n ≤ li.n ∧ v = .slice a n c ∧ (li.n = n → a = some ⟨li.b, 0, none⟩ ∧ c = li.cap)
  | .fptr d off => ∃ b o, v = .pointer (some ⟨b, o + off, none⟩) ∧ RepD S b o d
  | .list xs => ∃ a cap, v = .slice a xs.length cap ∧ xs.length ≤ cap ∧ (xs = [] ∨ ∃ b o e, a = some ⟨b, o, none⟩ ∧ 0 < e ∧ RepE S b o e xs)
  | .fn g caps => ∃ vs, v = .func (.func (num g)) #[] vs.toArray ∧ RepL S I caps vs
  | .agg cs => ∃ vs, v = .agg vs.toArray ∧ RepL S I cs vs
  | .tup ds => ∃ vs, v = .tuple vs.toArray ∧ RepL S I ds vs
  | .bot => True
termination_by 3 * SizeOf.sizeOf d + 1
def RepL (S : Mem) (I : Inf) (ds : List D) (vs : List Value) : Prop :=
  match ds with
  | [] => vs = []
  | d :: ds => ∃ v vs', vs = v :: vs' ∧ Rep S I d v ∧ RepL S I ds vs'
termination_by 3 * SizeOf.sizeOf ds
/-- cells frozen at b, from o on -/
def RepM (S : Mem) (b o : Nat) (ds : List D) : Prop :=
  match ds with
  | [] => True
  | d :: ds => (∃ v, S b o = some v ∧ Rep S noInf d v) ∧ RepM S b (o + 1) ds
termination_by 3 * SizeOf.sizeOf ds
/-- a datum's cells frozen at b, from o on -/
def RepD (S : Mem) (b o : Nat) (d : D) : Prop :=
  match d with
  | .agg cs => RepM S b o cs
  | d => ∃ v, S b o = some v ∧ Rep S noInf d v
termination_by 3 * SizeOf.sizeOf d + 2
def RepE (S : Mem) (b o e : Nat) (ds : List D) : Prop :=
  match ds with
  | [] => True
  | d :: ds => d.cells.length = e ∧ RepD S b o d ∧ RepE S b (o + e) e ds
termination_by 3 * SizeOf.sizeOf ds
end
end
end Go.DM
namespace Go.DM
open Go
section
variable {num : Cfg} {S S' : Mem} {I I' : Inf}

/-! ### the equations -/
section
variable {v : Value}
@[simp] theorem rep_int {k n} : Rep num S I (.int k n) v ↔ v = .int k n := by rw [Rep]
@[simp] theorem rep_bool {b} : Rep num S I (.bool b) v ↔ v = .bool b := by rw [Rep]
@[simp] theorem rep_str {s} : Rep num S I (.str s) v ↔ v = .string ⟨s.toArray⟩ := by rw [Rep]
@[simp] theorem rep_nilp : Rep num S I .nilp v ↔ v = .pointer none := by rw [Rep]
@[simp] theorem rep_nils : Rep num S I .nils v ↔ ∃ a, v = .slice a 0 0 := by rw [Rep]
@[simp] theorem rep_nilf : Rep num S I .nilf v ↔ v = .nilFunc := by rw [Rep]
theorem rep_ptr {l off} : Rep num S I (.ptr l off) v ↔ ∃ li, I l = some li ∧ li.box = true ∧ v = .pointer (some ⟨li.b, off, none⟩) := by rw [Rep]
theorem rep_eptr {l n i off} : Rep num S I (.eptr l n i off) v ↔ ∃ li a, I l = some li ∧ li.box = false ∧ n ≤ li.n ∧ v = .pointer (some a) ∧ (li.n = n → a = ⟨li.b, i * li.esz + off, none⟩) := by rw [Rep]
theorem rep_sl {l n} : Rep num S I (.sl l n) v ↔ ∃ li a c, I l = some li ∧ li.box = false ∧ n ≤ li.n ∧ v = .slice a n c ∧ (li.n = n → a = some ⟨li.b, 0, none⟩ ∧ c = li.cap) := by rw [Rep]
theorem rep_fptr {d off} : Rep num S I (.fptr d off) v ↔ ∃ b o, v = .pointer (some ⟨b, o + off, none⟩) ∧ RepD num S b o d := by rw [Rep]
theorem rep_list {xs} : Rep num S I (.list xs) v ↔ ∃ a cap, v = .slice a xs.length cap ∧ xs.length ≤ cap ∧ (xs = [] ∨ ∃ b o e, a = some ⟨b, o, none⟩ ∧ 0 < e ∧ RepE num S b o e xs) := by rw [Rep]
theorem rep_fn {g caps} : Rep num S I (.fn g caps) v ↔ ∃ vs, v = .func (.func (num g)) #[] vs.toArray ∧ RepL num S I caps vs := by rw [Rep]
theorem rep_agg {cs} : Rep num S I (.agg cs) v ↔ ∃ vs, v = .agg vs.toArray ∧ RepL num S I cs vs := by rw [Rep]
theorem rep_tup {cs} : Rep num S I (.tup cs) v ↔ ∃ vs, v = .tuple vs.toArray ∧ RepL num S I cs vs := by rw [Rep]
@[simp] theorem rep_bot : Rep num S I .bot v := by rw [Rep]; trivial
end
@[simp] theorem repL_nil {vs} : RepL num S I [] vs ↔ vs = [] := by rw [RepL]
theorem repL_cons {d ds vs} : RepL num S I (d :: ds) vs ↔ ∃ v vs', vs = v :: vs' ∧ Rep num S I d v ∧ RepL num S I ds vs' := by rw [RepL]
@[simp] theorem repM_nil {b o} : RepM num S b o [] := by rw [RepM]; trivial
theorem repM_cons {b o d ds} : RepM num S b o (d :: ds) ↔ (∃ v, S b o = some v ∧ Rep num S noInf d v) ∧ RepM num S b (o + 1) ds := by rw [RepM]
@[simp] theorem repE_nil {b o e} : RepE num S b o e [] := by rw [RepE]; trivial
theorem repE_cons {b o e d ds} : RepE num S b o e (d :: ds) ↔ d.cells.length = e ∧ RepD num S b o d ∧ RepE num S b (o + e) e ds := by rw [RepE]
theorem repD_cells {b o d} : RepD num S b o d ↔ RepM num S b o d.cells := by
  cases d <;> rw [RepD] <;> first | rfl | (simp only [D.cells]; rw [repM_cons]; simp) | (intro cs h; cases h)

/-- what is stable grows; places keep their blocks, or grow -/
def Grows (li li' : LI) : Prop := li'.box = li.box ∧ (li.box = true → li' = li) ∧ (li'.n = li.n → li' = li) ∧ li.n ≤ li'.n
def ILe (I I' : Inf) : Prop := ∀ l li, I l = some li → ∃ li', I' l = some li' ∧ Grows li li'

theorem SLe.refl (S : Mem) : SLe S S := fun _ _ _ h => h
theorem SLe.trans {A B C : Mem} (h : SLe A B) (k : SLe B C) : SLe A C := fun b o v e => k b o v (h b o v e)
theorem Grows.refl (li : LI) : Grows li li := ⟨rfl, fun _ => rfl, fun _ => rfl, Nat.le_refl _⟩
theorem Grows.trans {a b c : LI} (h : Grows a b) (k : Grows b c) : Grows a c := by
  obtain ⟨h1, h2, h3, h4⟩ := h
  obtain ⟨k1, k2, k3, k4⟩ := k
  refine ⟨k1.trans h1, fun e => ?_, fun e => ?_, Nat.le_trans h4 k4⟩
  · rw [k2 (h1.trans e), h2 e]
  · have e1 : b.n = a.n := by omega
    have e2 : c.n = b.n := by omega
    rw [k3 e2, h3 e1]
theorem ILe.refl (I : Inf) : ILe I I := fun _ li h => ⟨li, h, Grows.refl li⟩
theorem ILe.trans {A B C : Inf} (h : ILe A B) (k : ILe B C) : ILe A C := fun l li e =>
  let ⟨li1, e1, g1⟩ := h l li e
  let ⟨li2, e2, g2⟩ := k l li1 e1
  ⟨li2, e2, g1.trans g2⟩
theorem ILe.noInf (I : Inf) : ILe noInf I := fun _ _ h => by simp [DM.noInf] at h

mutual
theorem Rep.mono (hS : SLe S S') {I I' : Inf} (hI : ILe I I') (d : D) (v : Value) (h : Rep num S I d v) : Rep num S' I' d v := by
  match d with
  | .int .. | .bool .. | .str .. | .nilp | .nils | .nilf | .bot => simpa using h
  | .ptr l off =>
    rw [rep_ptr] at *
    obtain ⟨li, h1, h2, h3⟩ := h
    obtain ⟨li', k1, k2⟩ := hI l li h1
    rw [k2.2.1 h2] at k1
    exact ⟨li, k1, h2, h3⟩
  | .eptr l n i off =>
    rw [rep_eptr] at *
    obtain ⟨li, a, h1, h2, h3, h4, h5⟩ := h
    obtain ⟨li', k1, k2, k3, k4, k5⟩ := hI l li h1
    refine ⟨li', a, k1, k2.trans h2, Nat.le_trans h3 k5, h4, fun e => ?_⟩
    have e1 : li.n = n := by omega
    rw [k4 (by omega)]
    exact h5 e1
  | .sl l n =>
    rw [rep_sl] at *
    obtain ⟨li, a, c, h1, h2, h3, h4, h5⟩ := h
    obtain ⟨li', k1, k2, k3, k4, k5⟩ := hI l li h1
    refine ⟨li', a, c, k1, k2.trans h2, Nat.le_trans h3 k5, h4, fun e => ?_⟩
    have e1 : li.n = n := by omega
    rw [k4 (by omega)]
    exact h5 e1
  | .fptr d off =>
    rw [rep_fptr] at *
    obtain ⟨b, o, h1, h2⟩ := h
    exact ⟨b, o, h1, RepD.mono hS b o d h2⟩
  | .list xs =>
    rw [rep_list] at *
    obtain ⟨a, cap, h1, h2, h3⟩ := h
    refine ⟨a, cap, h1, h2, h3.imp id ?_⟩
    rintro ⟨b, o, e, h4, h5, h6⟩
    exact ⟨b, o, e, h4, h5, RepE.mono hS b o e xs h6⟩
  | .fn g caps =>
    rw [rep_fn] at *
    obtain ⟨vs, h1, h2⟩ := h
    exact ⟨vs, h1, RepL.mono hS hI caps vs h2⟩
  | .agg cs =>
    rw [rep_agg] at *
    obtain ⟨vs, h1, h2⟩ := h
    exact ⟨vs, h1, RepL.mono hS hI cs vs h2⟩
  | .tup cs =>
    rw [rep_tup] at *
    obtain ⟨vs, h1, h2⟩ := h
    exact ⟨vs, h1, RepL.mono hS hI cs vs h2⟩
termination_by 3 * SizeOf.sizeOf d + 1
theorem RepL.mono (hS : SLe S S') {I I' : Inf} (hI : ILe I I') (ds : List D) (vs : List Value) (h : RepL num S I ds vs) : RepL num S' I' ds vs := by
  match ds with
  | [] => simpa using h
  | d :: ds =>
    rw [repL_cons] at *
    obtain ⟨v, vs', h1, h2, h3⟩ := h
    exact ⟨v, vs', h1, Rep.mono hS hI d v h2, RepL.mono hS hI ds vs' h3⟩
termination_by 3 * SizeOf.sizeOf ds
theorem RepM.mono (hS : SLe S S') (b o : Nat) (ds : List D) (h : RepM num S b o ds) : RepM num S' b o ds := by
  match ds with
  | [] => simp
  | d :: ds =>
    rw [repM_cons] at *
    obtain ⟨⟨v, h1, h2⟩, h3⟩ := h
    exact ⟨⟨v, hS _ _ _ h1, Rep.mono hS (ILe.refl _) d v h2⟩, RepM.mono hS b (o + 1) ds h3⟩
termination_by 3 * SizeOf.sizeOf ds
theorem RepD.mono (hS : SLe S S') (b o : Nat) (d : D) (h : RepD num S b o d) : RepD num S' b o d := by
  match d with
  | .agg cs =>
    rw [RepD] at *
    exact RepM.mono hS b o cs h
  | .int .. | .bool .. | .str .. | .nilp | .nils | .nilf | .bot | .ptr .. | .eptr .. | .sl .. | .fptr .. | .list .. | .fn .. | .tup .. =>
    rw [RepD] at * <;> (try (intro cs h; cases h)) <;> (try (obtain ⟨v, h1, h2⟩ := h; exact ⟨v, hS _ _ _ h1, Rep.mono hS (ILe.refl _) _ v h2⟩))
termination_by 3 * SizeOf.sizeOf d + 2
theorem RepE.mono (hS : SLe S S') (b o e : Nat) (ds : List D) (h : RepE num S b o e ds) : RepE num S' b o e ds := by
  match ds with
  | [] => simp
  | d :: ds =>
    rw [repE_cons] at *
    obtain ⟨h1, h2, h3⟩ := h
    exact ⟨h1, RepD.mono hS b o d h2, RepE.mono hS b (o + e) e ds h3⟩
termination_by 3 * SizeOf.sizeOf ds
end
end
end Go.DM
