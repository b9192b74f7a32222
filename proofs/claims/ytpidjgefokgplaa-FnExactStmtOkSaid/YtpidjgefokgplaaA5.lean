/- Parts of statements: the equations of the functions that tell whether a column or a rule is right. -/
import Derived.Test.YtpidjgefokgplaaA4
set_option linter.unusedVariables false
set_option linter.unusedSimpArgs false
namespace Go.DM
open Go
variable {Γ : Tab}
def namesOk (xs : List Str) (n : Nat) : Bool := decide (1 ≤ xs.length) && decide (xs.length ≤ n) && xs.all nameOk
def exprsOk (xs : List Xp) (a n : Nat) : Bool := decide (a ≤ xs.length) && decide (xs.length ≤ n) && xs.all exprOk
theorem L90 (h : H90 Γ) (xs : List Str) (hok : LOk StrOk xs) (N : Nat) (hN : N ≤ 1000000) {ρ : Env} (hρ : keepOnly [0, 1, 5] ρ = [(0, .list (xs.map .str)), (1, .int .i64 N), (5, .int .i64 0)]) :
    inBlk 0 [0, 1] (EvC Γ f90L1 ρ []) = if ((xs.take (N + 1)).all nameOk) = true then some (.norm, [(0, .list (xs.map .str)), (1, .int .i64 N)], []) else some (.ret, [(4, .bool false)], []) := by
  refine loop_list (L := f90L1) rfl (inBlk 0 [0, 1]) (xs.take (N + 1)) (fun i (_ : Unit) => [(0, .list (xs.map .str)), (1, .int .i64 N), (5, .int .i64 i)]) (fun _ _ => []) (fun _ r _ => if (r.all nameOk) = true then some (.norm, [(0, .list (xs.map .str)), (1, .int .i64 N)], []) else some (.ret, [(4, .bool false)], [])) ?_ ?_ () ρ hρ
  · intro _
    by_cases hl : xs.length ≤ N
    · have e : (xs.take (N + 1)).length = xs.length := by rw [List.length_take]; omega
      rw [e]
      simp [f90l1]
    · have e : (xs.take (N + 1)).length = N + 1 := by rw [List.length_take]; omega
      rw [e]
      have h2 : ¬ ((N + 1 : Nat) : Int) ≤ N := by omega
      by_cases h1 : ((N + 1 : Nat) : Int) < xs.length
      · simp only [List.all_nil, if_true]
        have h1 : (N : Int) + 1 < xs.length := by omega
        have h2 : ¬ ((N : Int) + 1 ≤ N) := by omega
        simp [f90l1, h1, h2]
      · have h1 : ¬ (N : Int) + 1 < xs.length := by omega
        simp [f90l1, h1]
  · intro i x r _ hx hi hr ih
    have hi2 : i < xs.length ∧ i ≤ N := by rw [List.length_take] at hi; omega
    have hx' : xs[i]? = some x := by
      rw [List.getElem?_take] at hx
      rw [if_pos (by omega)] at hx
      exact hx
    have hw : IntKind.wrap .i64 ((i : Int) + 1) = (i : Int) + 1 := wrap64 (by omega) (by omega)
    have h1 : (i : Int) < xs.length := by omega
    have h2 : (i : Int) ≤ N := by omega
    have hn := specName_ev h.c43 x (hok.2 x (List.mem_of_getElem? hx'))
    cases hb : nameOk x with
    | true =>
      have ih := ih ()
      simp only [List.all_cons, hb, Bool.true_and]
      simp [f90l1, h1, h2, hw, hx', callIn_pure, hn, hb, ih]
    | false =>
      simp only [List.all_cons, hb, Bool.false_and]
      simp [f90l1, h1, h2, hx', callIn_pure, hn, hb]
theorem names_ev (h : H90 Γ) (xs : List Str) (hok : LOk StrOk xs) (N : Nat) (hN : N ≤ 1000000) : EvF Γ 90 [.list (xs.map .str), .int .i64 N] [] = some (.bool (namesOk xs N), []) := by
  rw [EvF_run h.e90 rfl]
  have hL := fun ρ hρ => L90 h xs hok N hN (ρ := ρ) hρ
  have e1 : decide ((1 : Int) ≤ xs.length) = decide (1 ≤ xs.length) := decide_eq_decide.2 (by omega)
  have e2 : decide ((xs.length : Int) ≤ N) = decide (xs.length ≤ N) := decide_eq_decide.2 (by omega)
  cases ha : (xs.take (N + 1)).all nameOk with
  | true =>
    simp only [ha, if_true] at hL
    by_cases hl : xs.length ≤ N
    · rw [List.take_of_length_le (by omega)] at ha
      simp [f90, hL, callIn_pure, l01In_ev h.c28, namesOk, ha, e1, e2]
    · simp [f90, hL, callIn_pure, l01In_ev h.c28, namesOk, hl, e1, e2]
  | false =>
    simp only [ha, Bool.false_eq_true, if_false] at hL
    have : namesOk xs N = false := by
      by_cases hl : xs.length ≤ N
      · rw [List.take_of_length_le (by omega)] at ha
        unfold namesOk
        rw [ha, Bool.and_false]
      · simp [namesOk, hl]
    rw [this]
    simp [f90, hL]
theorem L89 (h : H89 Γ) (xs : List Xp) (hok : LOk Xp.Ok xs) (hn : ∀ e ∈ xs, e.nodes ≤ 4611686018427387904) (a N : Nat) (hN : N ≤ 1000000) {ρ : Env} (hρ : keepOnly [0, 1, 2, 7] ρ = [(0, .list (xs.map Xp.d)), (1, .int .i64 a), (2, .int .i64 N), (7, .int .i64 0)]) :
    inBlk 0 [0, 1, 2] (EvC Γ f89L1 ρ []) = if ((xs.take (N + 1)).all exprOk) = true then some (.norm, [(0, .list (xs.map Xp.d)), (1, .int .i64 a), (2, .int .i64 N)], []) else some (.ret, [(6, .bool false)], []) := by
  refine loop_list (L := f89L1) rfl (inBlk 0 [0, 1, 2]) (xs.take (N + 1)) (fun i (_ : Unit) => [(0, .list (xs.map Xp.d)), (1, .int .i64 a), (2, .int .i64 N), (7, .int .i64 i)]) (fun _ _ => []) (fun _ r _ => if (r.all exprOk) = true then some (.norm, [(0, .list (xs.map Xp.d)), (1, .int .i64 a), (2, .int .i64 N)], []) else some (.ret, [(6, .bool false)], [])) ?_ ?_ () ρ hρ
  · intro _
    by_cases hl : xs.length ≤ N
    · have e : (xs.take (N + 1)).length = xs.length := by rw [List.length_take]; omega
      rw [e]
      simp [f89l1]
    · have e : (xs.take (N + 1)).length = N + 1 := by rw [List.length_take]; omega
      rw [e]
      by_cases h1 : (N : Int) + 1 < xs.length
      · simp only [List.all_nil, if_true]
        have h2 : ¬ ((N : Int) + 1 ≤ N) := by omega
        simp [f89l1, h1, h2]
      · simp [f89l1, h1]
  · intro i x r _ hx hi hr ih
    have hi2 : i < xs.length ∧ i ≤ N := by rw [List.length_take] at hi; omega
    have hx' : xs[i]? = some x := by
      rw [List.getElem?_take] at hx
      rw [if_pos (by omega)] at hx
      exact hx
    have hw : IntKind.wrap .i64 ((i : Int) + 1) = (i : Int) + 1 := wrap64 (by omega) (by omega)
    have h1 : (i : Int) < xs.length := by omega
    have h2 : (i : Int) ≤ N := by omega
    have hm := List.mem_of_getElem? hx'
    have hn := specExpr_ev h.c111 x (hok.2 x hm) (hn x hm)
    cases hb : exprOk x with
    | true =>
      have ih := ih ()
      simp only [List.all_cons, hb, Bool.true_and]
      simp [f89l1, h1, h2, hw, hx', callIn_pure, hn, hb, ih]
    | false =>
      simp only [List.all_cons, hb, Bool.false_and]
      simp [f89l1, h1, h2, hx', callIn_pure, hn, hb]
theorem exprs_ev (h : H89 Γ) (xs : List Xp) (hok : LOk Xp.Ok xs) (hn : ∀ e ∈ xs, e.nodes ≤ 4611686018427387904) (a N : Nat) (hN : N ≤ 1000000) : EvF Γ 89 [.list (xs.map Xp.d), .int .i64 a, .int .i64 N] [] = some (.bool (exprsOk xs a N), []) := by
  rw [EvF_run h.e89 rfl]
  have hL := fun ρ hρ => L89 h xs hok hn a N hN (ρ := ρ) hρ
  have e1 : decide ((a : Int) ≤ xs.length) = decide (a ≤ xs.length) := decide_eq_decide.2 (by omega)
  have e2 : decide ((xs.length : Int) ≤ N) = decide (xs.length ≤ N) := decide_eq_decide.2 (by omega)
  cases ha : (xs.take (N + 1)).all exprOk with
  | true =>
    simp only [ha, if_true] at hL
    by_cases hl : xs.length ≤ N
    · rw [List.take_of_length_le (by omega)] at ha
      simp [f89, hL, callIn_pure, l01In_ev h.c28, exprsOk, ha, e1, e2]
    · simp [f89, hL, callIn_pure, l01In_ev h.c28, exprsOk, hl, e1, e2]
  | false =>
    simp only [ha, Bool.false_eq_true, if_false] at hL
    have : exprsOk xs a N = false := by
      by_cases hl : xs.length ≤ N
      · rw [List.take_of_length_le (by omega)] at ha
        unfold exprsOk
        rw [ha, Bool.and_false]
      · simp [exprsOk, hl]
    rw [this]
    simp [f89, hL]
theorem areIds_ev (h : H60 Γ) (xs : List Str) (hl : xs.length ≤ 9223372036854775807) : EvF Γ 60 [.list (xs.map .str)] [] = some (.bool (xs.all nameOk), []) := by
  rw [EvF_run h.e60 rfl]
  have h1 := any104_ev h.c104 103 [] (fun s => !nameOk s) xs hl (fun x hx => by
    have hc := h.c103
    rw [EvF_run hc.e103 rfl]
    simp [f103, callIn_pure, implName_ev hc.c44 x])
  have e : xs.any (fun s => !nameOk s) = !xs.all nameOk := by simp [List.any_eq_not_all_not]
  rw [e] at h1
  simp [f60, callIn_pure, h1]
def colOk (c : Col) : Bool := nameOk c.name && typeOk c.ty && exprsOk c.dflt 0 1
theorem specCol_ev (h : H87 Γ) (c : Col) (hok : c.Ok) (hn : ∀ e ∈ c.dflt, e.nodes ≤ 4611686018427387904) : EvF Γ 87 [c.d] [] = some (.bool (colOk c), []) := by
  rw [EvF_run h.e87 rfl]
  have h1 := specName_ev h.c43 c.name hok.name
  have h2 := specType_ev h.c21 c.ty hok.ty.name
  have h3 := exprs_ev h.c89 c.dflt hok.dflt hn 0 1 (by omega)
  simp only [Int.ofNat_zero, Int.ofNat_one, Int.natCast_zero, Int.natCast_one] at h3
  cases b1 : nameOk c.name <;> cases b2 : typeOk c.ty <;> simp [f87, callIn_pure, h1, h2, h3, b1, b2, colOk]
theorem implCol_ev (h : H96 Γ) (c : Col) (hok : c.Ok) : EvF Γ 96 [c.d] [] = some (.bool (colOk c), []) := by
  rw [EvF_run h.e96 rfl]
  have h1 := implName_ev h.c44 c.name
  have h2 := implType_ev h.c18 c.ty
  have h3 := any64_ev h.c64 97 [] (fun e => !exprOk e) c.dflt hok.dflt.1 (fun x hx => by
    have hc := h.c97
    rw [EvF_run hc.e97 rfl]
    simp [f97, callIn_pure, implExpr_ev hc.c100 x (hok.dflt.2 x hx)])
  have e : c.dflt.any (fun s => !exprOk s) = !c.dflt.all exprOk := by simp [List.any_eq_not_all_not]
  rw [e] at h3
  have e2 : decide ((c.dflt.length : Int) ≤ 1) = decide (c.dflt.length ≤ 1) := decide_eq_decide.2 (by omega)
  cases b1 : nameOk c.name <;> cases b2 : typeOk c.ty <;> cases b3 : decide (c.dflt.length ≤ 1) <;> simp [f96, callIn_pure, h1, h2, h3, b1, b2, b3, e2, colOk, exprsOk]
end Go.DM
