/- Names and types: the equations of the functions that tell whether they are right. -/
import Derived.Test.YtpidjgefokgplaaA1

set_option linter.unusedVariables false
set_option linter.unusedSimpArgs false
namespace Go.DM
open Go
variable {Γ : Tab}
theorem idx_one : ∀ (s : Str) (c : UInt8), Lib.contains s [c] = s.contains c
  | [], c => rfl
  | b :: l, c => by
    have ih := idx_one l c
    have e : ([c].isPrefixOf (b :: l)) = (b == c) := by
      by_cases h : c = b
      · simp [List.isPrefixOf, h]
      · have h1 : (c == b) = false := by simpa using h
        have h2 : (b == c) = false := by simpa using fun e : b = c => h e.symm
        simp [List.isPrefixOf, h1, h2]
    unfold Lib.contains at ih ⊢
    unfold Lib.index
    rw [e, List.contains_cons]
    by_cases h : b = c
    · simp [h]
    · have h' : (c == b) = false := by simp; exact fun e => h e.symm
      have h2 : (b == c) = false := by simpa using h
      rw [h', h2, Bool.false_or, ← ih]
      simp only [Bool.false_eq_true, if_false]
      by_cases hm : Lib.index l [c] = -1
      · simp [hm]
      · have h0 : (Lib.index l [c] == -1) = false := by simpa using hm
        have hge : -1 ≤ Lib.index l [c] := by
          rcases Lib.index_spec l [c] with ⟨q, _⟩ | ⟨i, q, _⟩ <;> omega
        simp only [h0, Bool.false_eq_true, if_false]
        congr 1
        apply propext
        omega
def nameOk (s : Str) : Bool := decide (1 ≤ s.length) && decide (s.length ≤ 40) && !(s.contains 0)
theorem cont_ev (h : H83 Γ) (s t : Str) (hs : s.length < 4294967281) : EvF Γ 83 [.str s, .str t] [] = some (.bool (Lib.contains s t), []) := by
  rw [EvF_law h.e83]
  simp [lawContains, hs]
theorem implName_ev (h : H44 Γ) (s : Str) : EvF Γ 44 [.str s] [] = some (.bool (nameOk s), []) := by
  rw [EvF_run h.e44 rfl]
  by_cases h1 : 1 ≤ s.length
  · by_cases h2 : s.length ≤ 40
    · have h1' : (1 : Int) ≤ s.length := by omega
      have h2' : (s.length : Int) ≤ 40 := by omega
      have hc := cont_ev h.c83 s [0] (by omega)
      rw [idx_one] at hc
      simp [f44, callIn_pure, within_ev h.c29, hc, h1', h2', h1, h2, nameOk]
    · have h2' : ¬ (s.length : Int) ≤ 40 := by omega
      simp [f44, callIn_pure, within_ev h.c29, h2', h2, nameOk]
  · have h1' : ¬ (1 : Int) ≤ s.length := by omega
    simp [f44, callIn_pure, within_ev h.c29, h1', h1, nameOk]
theorem L82 (s : Str) (hl : s.length ≤ 9223372036854775807) {ρ : Env} (hρ : keepOnly [0, 3] ρ = [(0, .str s), (3, .int .i64 0)]) :
    inBlk 0 [0] (EvC Γ f82L1 ρ []) = if s.contains 0 = true then some (.ret, [(2, .bool false)], []) else some (.norm, [(0, .str s)], []) := by
  refine loop_list (L := f82L1) rfl (inBlk 0 [0]) s (fun i (_ : Unit) => [(0, .str s), (3, .int .i64 i)]) (fun _ _ => []) (fun _ r _ => if r.contains 0 = true then some (.ret, [(2, .bool false)], []) else some (.norm, [(0, .str s)], [])) ?_ ?_ () ρ hρ
  · intro _; simp [f82l1]
  · intro i x r _ hx hi hr ih
    have hw := wrap64_succ hi hl
    have hi' : (i : Int) < s.length := by omega
    by_cases hb : x = 0
    · simp [f82l1, hi', hx, hb]
    · have hb' : ¬ x.toNat = 0 := fun e => hb (UInt8.toNat_inj.1 e)
      have hb2 : ¬ (0 : UInt8) = x := fun e => hb e.symm
      have ih := ih ()
      have e : ((x :: r).contains 0) = r.contains 0 := by simp [hb2]
      rw [e]
      simp [f82l1, hi', hw, hx, hb', ih]
theorem l02Name_ev (h : H82 Γ) (s : Str) (hl : s.length ≤ 9223372036854775807) : EvF Γ 82 [.str s] [] = some (.bool (nameOk s), []) := by
  rw [EvF_run h.e82 rfl]
  have hL := fun ρ hρ => L82 (Γ := Γ) s hl (ρ := ρ) hρ
  cases hc : s.contains 0 with
  | true =>
    simp only [hc, if_true] at hL
    have e : nameOk s = false := by simp only [nameOk, hc]; simp
    rw [e]
    simp [f82, hL]
  | false =>
    simp only [hc, Bool.false_eq_true, if_false] at hL
    have e : nameOk s = (decide (1 ≤ s.length) && decide (s.length ≤ 40)) := by simp only [nameOk, hc]; simp
    rw [e]
    have e1 : decide ((1 : Int) ≤ s.length) = decide (1 ≤ s.length) := decide_eq_decide.2 (by omega)
    have e2 : decide ((s.length : Int) ≤ 40) = decide (s.length ≤ 40) := decide_eq_decide.2 (by omega)
    simp [f82, hL, callIn_pure, l01In_ev h.c28, e1, e2]
theorem specName_ev (h : H43 Γ) (s : Str) (hl : s.length ≤ 9223372036854775807) : EvF Γ 43 [.str s] [] = some (.bool (nameOk s), []) := by
  rw [EvF_run h.e43 rfl]
  simp [f43, callIn_pure, l02Name_ev h.c82 s hl]
def typeOk (t : Ty) : Bool :=
  if t.kind = 0 ∨ t.kind = 1 ∨ t.kind = 2 then decide (t.len = 0) && decide (t.name = [])
  else if t.kind = 3 then (decide (1 ≤ t.len) && decide (t.len ≤ 100)) && decide (t.name = [])
  else if t.kind = 4 then decide (t.len = 0) && nameOk t.name else false
theorem implType_ev (h : H18 Γ) (t : Ty) : EvF Γ 18 [t.d] [] = some (.bool (typeOk t), []) := by
  rw [EvF_run h.e18 rfl]
  have hn := implName_ev h.c44 t.name
  by_cases h0 : t.kind = 0
  · by_cases hl : t.len = 0 <;> simp [f18, h0, hl, typeOk]
  by_cases h1 : t.kind = 1
  · by_cases hl : t.len = 0 <;> simp [f18, h1, hl, typeOk]
  by_cases h2 : t.kind = 2
  · by_cases hl : t.len = 0 <;> simp [f18, h2, hl, typeOk]
  by_cases h3 : t.kind = 3
  · by_cases hl : 1 ≤ t.len ∧ t.len ≤ 100
    · simp [f18, h3, callIn_pure, within_ev h.c29, hl.1, hl.2, typeOk]
    · have hb : (decide (1 ≤ t.len) && decide (t.len ≤ 100)) = false := by simpa using hl
      simp [f18, h3, callIn_pure, within_ev h.c29, hb, typeOk]
  by_cases h4 : t.kind = 4
  · by_cases hl : t.len = 0 <;> simp [f18, h4, hl, callIn_pure, hn, typeOk]
  simp [f18, h0, h1, h2, h3, h4, typeOk]
theorem specType_ev (h : H21 Γ) (t : Ty) (hl : t.name.length ≤ 9223372036854775807) : EvF Γ 21 [t.d] [] = some (.bool (typeOk t), []) := by
  rw [EvF_run h.e21 rfl]
  have hn := specName_ev h.c43 t.name hl
  by_cases hk : 0 ≤ t.kind ∧ t.kind ≤ 4
  · by_cases h3 : t.kind = 3
    · cases hb : (decide (1 ≤ t.len) && decide (t.len ≤ 100)) <;> cases hm : decide (t.name = []) <;> simp at hm <;> simp [f21, h3, callIn_pure, l01In_ev h.c28, hb, hm, typeOk]
    · by_cases h4 : t.kind = 4
      · by_cases hz : t.len = 0 <;> simp [f21, h4, hz, callIn_pure, l01In_ev h.c28, hn, typeOk]
        cases nameOk t.name <;> simp [h4]
      · have hc : t.kind = 0 ∨ t.kind = 1 ∨ t.kind = 2 := by omega
        have hb : (decide (0 ≤ t.kind) && decide (t.kind ≤ 4)) = true := by simpa using hk
        by_cases hz : t.len = 0 <;> by_cases hm : t.name = [] <;> simp [f21, h3, h4, hz, callIn_pure, l01In_ev h.c28, hb, hm, typeOk, hc]
  · have hb : (decide (0 ≤ t.kind) && decide (t.kind ≤ 4)) = false := by simpa using hk
    have e : typeOk t = false := by
      unfold typeOk
      rw [if_neg (by omega), if_neg (by omega), if_neg (by omega)]
    rw [e]
    simp [f21, callIn_pure, l01In_ev h.c28, hb]
end Go.DM
