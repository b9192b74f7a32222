/- Statements: how many columns and rules there may be. -/
import Derived.Test.YtpidjgefokgplaaA6
set_option linter.unusedVariables false
set_option linter.unusedSimpArgs false
namespace Go.DM
open Go
variable {Γ : Tab}
theorem L50a (h : H50 Γ) (s : Stmt) (hok : s.Ok) (hn : ∀ c ∈ s.cols, ∀ e ∈ c.dflt, e.nodes ≤ 4611686018427387904) (d4 d5 : D) (N : Nat) (hN : N ≤ 1000000) {ρ : Env} (hρ : keepOnly [1, 3, 4, 5, 6] ρ = [(1, .fptr s.d 0), (3, .int .i64 N), (4, d4), (5, d5), (6, .int .i64 0)]) :
    inBlk 1 [1, 3, 4, 5] (EvC Γ f50L1 ρ []) = if ((s.cols.take (N + 1)).all colOk) = true then some (.norm, [(1, .fptr s.d 0), (3, .int .i64 N), (4, d4), (5, d5)], []) else some (.ret, [(2, .bool false)], []) := by
  refine loop_list (L := f50L1) rfl (inBlk 1 [1, 3, 4, 5]) (s.cols.take (N + 1)) (fun i (_ : Unit) => [(1, .fptr s.d 0), (3, .int .i64 N), (4, d4), (5, d5), (6, .int .i64 i)]) (fun _ _ => []) (fun _ r _ => if (r.all colOk) = true then some (.norm, [(1, .fptr s.d 0), (3, .int .i64 N), (4, d4), (5, d5)], []) else some (.ret, [(2, .bool false)], [])) ?_ ?_ () ρ hρ
  · intro _
    by_cases hl : s.cols.length ≤ N
    · have e : (s.cols.take (N + 1)).length = s.cols.length := by rw [List.length_take]; omega
      rw [e]
      simp [f50l1]
    · have e : (s.cols.take (N + 1)).length = N + 1 := by rw [List.length_take]; omega
      rw [e]
      by_cases h1 : (N : Int) + 1 < s.cols.length
      · simp only [List.all_nil, if_true]
        have h2 : ¬ ((N : Int) + 1 ≤ N) := by omega
        simp [f50l1, h1, h2]
      · simp [f50l1, h1]
  · intro i x r _ hx hi hr ih
    have hi2 : i < s.cols.length ∧ i ≤ N := by rw [List.length_take] at hi; omega
    have hx' : s.cols[i]? = some x := by
      rw [List.getElem?_take] at hx
      rw [if_pos (by omega)] at hx
      exact hx
    have hw : IntKind.wrap .i64 ((i : Int) + 1) = (i : Int) + 1 := wrap64 (by omega) (by omega)
    have h1 : (i : Int) < s.cols.length := by omega
    have h2 : (i : Int) ≤ N := by omega
    have hm := List.mem_of_getElem? hx'
    have hc := specCol_ev h.c87 x (hok.cols.2 x hm) (hn x hm)
    cases hb : colOk x with
    | true =>
      have ih := ih ()
      simp only [List.all_cons, hb, Bool.true_and]
      simp [f50l1, h1, h2, hw, hx', callIn_pure, hc, hb, ih]
    | false =>
      simp only [List.all_cons, hb, Bool.false_and]
      simp [f50l1, h1, h2, hx', callIn_pure, hc, hb]
theorem L50b (h : H50 Γ) (s : Stmt) (hok : s.Ok) (hn : ∀ c ∈ s.rules, ∀ e ∈ c.expr, e.nodes ≤ 4611686018427387904) (d3 d5 : D) (N : Nat) (hN : N ≤ 1000000) {ρ : Env} (hρ : keepOnly [1, 3, 4, 5, 7] ρ = [(1, .fptr s.d 0), (3, d3), (4, .int .i64 N), (5, d5), (7, .int .i64 0)]) :
    inBlk 3 [1, 3, 4, 5] (EvC Γ f50L2 ρ []) = if ((s.rules.take (N + 1)).all ruleOk) = true then some (.norm, [(1, .fptr s.d 0), (3, d3), (4, .int .i64 N), (5, d5)], []) else some (.ret, [(2, .bool false)], []) := by
  refine loop_list (L := f50L2) rfl (inBlk 3 [1, 3, 4, 5]) (s.rules.take (N + 1)) (fun i (_ : Unit) => [(1, .fptr s.d 0), (3, d3), (4, .int .i64 N), (5, d5), (7, .int .i64 i)]) (fun _ _ => []) (fun _ r _ => if (r.all ruleOk) = true then some (.norm, [(1, .fptr s.d 0), (3, d3), (4, .int .i64 N), (5, d5)], []) else some (.ret, [(2, .bool false)], [])) ?_ ?_ () ρ hρ
  · intro _
    by_cases hl : s.rules.length ≤ N
    · have e : (s.rules.take (N + 1)).length = s.rules.length := by rw [List.length_take]; omega
      rw [e]
      simp [f50l2]
    · have e : (s.rules.take (N + 1)).length = N + 1 := by rw [List.length_take]; omega
      rw [e]
      by_cases h1 : (N : Int) + 1 < s.rules.length
      · simp only [List.all_nil, if_true]
        have h2 : ¬ ((N : Int) + 1 ≤ N) := by omega
        simp [f50l2, h1, h2]
      · simp [f50l2, h1]
  · intro i x r _ hx hi hr ih
    have hi2 : i < s.rules.length ∧ i ≤ N := by rw [List.length_take] at hi; omega
    have hx' : s.rules[i]? = some x := by
      rw [List.getElem?_take] at hx
      rw [if_pos (by omega)] at hx
      exact hx
    have hw : IntKind.wrap .i64 ((i : Int) + 1) = (i : Int) + 1 := wrap64 (by omega) (by omega)
    have h1 : (i : Int) < s.rules.length := by omega
    have h2 : (i : Int) ≤ N := by omega
    have hm := List.mem_of_getElem? hx'
    have hc := specRule_ev h.c88 x (hok.rules.2 x hm) (hn x hm)
    cases hb : ruleOk x with
    | true =>
      have ih := ih ()
      simp only [List.all_cons, hb, Bool.true_and]
      simp [f50l2, h1, h2, hw, hx', callIn_pure, hc, hb, ih]
    | false =>
      simp only [List.all_cons, hb, Bool.false_and]
      simp [f50l2, h1, h2, hx', callIn_pure, hc, hb]
def colMax (k : Int) : Nat := if k = 4 then 12 else if k = 6 then 1 else 0
def ruleMax (k : Int) : Nat := if k = 4 then 8 else if k = 11 then 1 else 0
def least (k : Int) : Nat := if k = 6 ∨ k = 11 then 1 else 0
def partsOk (s : Stmt) : Bool := s.cols.all colOk && s.rules.all ruleOk && decide (s.cols.length ≤ colMax s.kind) && decide (s.rules.length ≤ ruleMax s.kind) && decide (least s.kind ≤ s.cols.length + s.rules.length)
theorem take_all {α : Type} (p : α → Bool) (xs : List α) (N : Nat) : (xs.all p && decide (xs.length ≤ N)) = ((xs.take (N + 1)).all p && decide (xs.length ≤ N)) := by
  by_cases hl : xs.length ≤ N
  · rw [List.take_of_length_le (by omega)]
  · simp [hl]
set_option maxHeartbeats 4000000 in
theorem parts_ev (h : H50 Γ) (s : Stmt) (hok : s.Ok) (hn : ∀ c ∈ s.cols, ∀ e ∈ c.dflt, e.nodes ≤ 4611686018427387904) (hn2 : ∀ c ∈ s.rules, ∀ e ∈ c.expr, e.nodes ≤ 4611686018427387904) : EvF Γ 50 [s.d] [] = some (.bool (partsOk s), []) := by
  have eq : partsOk s = ((s.cols.take (colMax s.kind + 1)).all colOk && (s.rules.take (ruleMax s.kind + 1)).all ruleOk && decide (s.cols.length ≤ colMax s.kind) && decide (s.rules.length ≤ ruleMax s.kind) && decide (least s.kind ≤ s.cols.length + s.rules.length)) := by
    have a := take_all colOk s.cols (colMax s.kind)
    have b := take_all ruleOk s.rules (ruleMax s.kind)
    unfold partsOk
    revert a b
    cases s.cols.all colOk <;> cases s.rules.all ruleOk <;> cases (s.cols.take (colMax s.kind + 1)).all colOk <;> cases (s.rules.take (ruleMax s.kind + 1)).all ruleOk <;> cases decide (s.cols.length ≤ colMax s.kind) <;> cases decide (s.rules.length ≤ ruleMax s.kind) <;> simp
  rw [EvF_run h.e50 rfl, eq]
  have ha := fun d4 d5 N hN ρ hρ => L50a h s hok hn d4 d5 N hN (ρ := ρ) hρ
  have hb := fun d3 d5 N hN ρ hρ => L50b h s hok hn2 d3 d5 N hN (ρ := ρ) hρ
  by_cases k4 : s.kind = 4
  · have ha := ha (.int .i64 8) (.int .i64 0) 12 (by omega)
    have hb := hb (.int .i64 12) (.int .i64 0) 8 (by omega)
    have e1 : colMax s.kind = 12 := by simp [colMax, k4]
    have e2 : ruleMax s.kind = 8 := by simp [ruleMax, k4]
    have e3 : least s.kind = 0 := by simp [least, k4]
    rw [e1, e2, e3]
    cases b1 : (s.cols.take (12 + 1)).all colOk
    · simp only [b1, Bool.false_eq_true, if_false] at ha
      simp [f50, k4, ha]
    · simp only [b1, if_true] at ha
      cases b2 : (s.rules.take (8 + 1)).all ruleOk
      · simp only [b2, Bool.false_eq_true, if_false] at hb
        simp [f50, k4, ha, hb]
      · simp only [b2, if_true] at hb
        by_cases b3 : s.cols.length ≤ 12
        · by_cases b4 : s.rules.length ≤ 8
          · have q3 : s.cols.length ≤ 12 := by exact b3
            have q4 : s.rules.length ≤ 8 := by exact b4
            have hw : IntKind.wrap .i64 ((s.cols.length : Int) + s.rules.length) = s.cols.length + s.rules.length := wrap64 (by omega) (by omega)
            have z0 : (s.cols.length : Int) ≤ 12 := by omega
            have z1 : (s.rules.length : Int) ≤ 8 := by omega
            simp [f50, k4, ha, hb, b3, b4, hw, z0, z1]
            omega
          · have z0 : (s.cols.length : Int) ≤ 12 := by omega
            have z1 : ¬ (s.rules.length : Int) ≤ 8 := by omega
            simp [f50, k4, ha, hb, b3, b4, z0, z1]
        · have z0 : ¬ (s.cols.length : Int) ≤ 12 := by omega
          simp [f50, k4, ha, hb, b3, z0]
  by_cases k6 : s.kind = 6
  · have ha := ha (.int .i64 0) (.int .i64 1) 1 (by omega)
    have hb := hb (.int .i64 1) (.int .i64 1) 0 (by omega)
    have e1 : colMax s.kind = 1 := by simp [colMax, k6]
    have e2 : ruleMax s.kind = 0 := by simp [ruleMax, k6]
    have e3 : least s.kind = 1 := by simp [least, k6]
    rw [e1, e2, e3]
    cases b1 : (s.cols.take (1 + 1)).all colOk
    · simp only [b1, Bool.false_eq_true, if_false] at ha
      simp [f50, k6, ha]
    · simp only [b1, if_true] at ha
      cases b2 : (s.rules.take (0 + 1)).all ruleOk
      · simp only [b2, Bool.false_eq_true, if_false] at hb
        simp [f50, k6, ha, hb]
      · simp only [b2, if_true] at hb
        by_cases b3 : s.cols.length ≤ 1
        · by_cases b4 : s.rules = []
          · have q3 : s.cols.length ≤ 1 := by exact b3
            have q4 : s.rules.length ≤ 0 := by simp [b4]
            have hw : IntKind.wrap .i64 ((s.cols.length : Int) + s.rules.length) = s.cols.length + s.rules.length := wrap64 (by omega) (by omega)
            by_cases b5 : 1 ≤ s.cols.length + s.rules.length
            · have b5' : (1 : Int) ≤ (s.cols.length : Int) + s.rules.length := by omega
              have e : (decide (1 ≤ s.cols.length + s.rules.length)) = true := by simpa using b5
              rw [e]
              simp only [b3, b4, List.length_nil, Int.natCast_zero, Int.zero_add, Int.add_zero] at b5' hw
              have z0 : (s.cols.length : Int) ≤ 1 := by omega
              simp [f50, k6, ha, hb, b3, b4, hw, b5', z0]
            · have b5' : ¬ (1 : Int) ≤ (s.cols.length : Int) + s.rules.length := by omega
              have e : (decide (1 ≤ s.cols.length + s.rules.length)) = false := by simpa using b5
              rw [e]
              simp only [b3, b4, List.length_nil, Int.natCast_zero, Int.zero_add, Int.add_zero] at b5' hw
              have z0 : (s.cols.length : Int) ≤ 1 := by omega
              simp [f50, k6, ha, hb, b3, b4, hw, b5', z0]
          · have z0 : (s.cols.length : Int) ≤ 1 := by omega
            simp [f50, k6, ha, hb, b3, b4, z0]
        · have z0 : ¬ (s.cols.length : Int) ≤ 1 := by omega
          simp [f50, k6, ha, hb, b3, z0]
  by_cases k11 : s.kind = 11
  · have ha := ha (.int .i64 1) (.int .i64 1) 0 (by omega)
    have hb := hb (.int .i64 0) (.int .i64 1) 1 (by omega)
    have e1 : colMax s.kind = 0 := by simp [colMax, k11]
    have e2 : ruleMax s.kind = 1 := by simp [ruleMax, k11]
    have e3 : least s.kind = 1 := by simp [least, k11]
    rw [e1, e2, e3]
    cases b1 : (s.cols.take (0 + 1)).all colOk
    · simp only [b1, Bool.false_eq_true, if_false] at ha
      simp [f50, k11, ha]
    · simp only [b1, if_true] at ha
      cases b2 : (s.rules.take (1 + 1)).all ruleOk
      · simp only [b2, Bool.false_eq_true, if_false] at hb
        simp [f50, k11, ha, hb]
      · simp only [b2, if_true] at hb
        by_cases b3 : s.cols = []
        · by_cases b4 : s.rules.length ≤ 1
          · have q3 : s.cols.length ≤ 0 := by simp [b3]
            have q4 : s.rules.length ≤ 1 := by exact b4
            have hw : IntKind.wrap .i64 ((s.cols.length : Int) + s.rules.length) = s.cols.length + s.rules.length := wrap64 (by omega) (by omega)
            by_cases b5 : 1 ≤ s.cols.length + s.rules.length
            · have b5' : (1 : Int) ≤ (s.cols.length : Int) + s.rules.length := by omega
              have e : (decide (1 ≤ s.cols.length + s.rules.length)) = true := by simpa using b5
              rw [e]
              simp only [b3, b4, List.length_nil, Int.natCast_zero, Int.zero_add, Int.add_zero] at b5' hw
              have z0 : (s.rules.length : Int) ≤ 1 := by omega
              simp [f50, k11, ha, hb, b3, b4, hw, b5', z0]
            · have b5' : ¬ (1 : Int) ≤ (s.cols.length : Int) + s.rules.length := by omega
              have e : (decide (1 ≤ s.cols.length + s.rules.length)) = false := by simpa using b5
              rw [e]
              simp only [b3, b4, List.length_nil, Int.natCast_zero, Int.zero_add, Int.add_zero] at b5' hw
              have z0 : (s.rules.length : Int) ≤ 1 := by omega
              simp [f50, k11, ha, hb, b3, b4, hw, b5', z0]
          · have z0 : ¬ (s.rules.length : Int) ≤ 1 := by omega
            simp [f50, k11, ha, hb, b3, b4, z0]
        · simp [f50, k11, ha, hb, b3]
  · have ha := ha (.int .i64 0) (.int .i64 0) 0 (by omega)
    have hb := hb (.int .i64 0) (.int .i64 0) 0 (by omega)
    have e1 : colMax s.kind = 0 := by simp [colMax, k4, k6, k11]
    have e2 : ruleMax s.kind = 0 := by simp [ruleMax, k4, k6, k11]
    have e3 : least s.kind = 0 := by simp [least, k4, k6, k11]
    rw [e1, e2, e3]
    cases b1 : (s.cols.take (0 + 1)).all colOk
    · simp only [b1, Bool.false_eq_true, if_false] at ha
      simp [f50, k4, k6, k11, ha]
    · simp only [b1, if_true] at ha
      cases b2 : (s.rules.take (0 + 1)).all ruleOk
      · simp only [b2, Bool.false_eq_true, if_false] at hb
        simp [f50, k4, k6, k11, ha, hb]
      · simp only [b2, if_true] at hb
        by_cases b3 : s.cols = []
        · by_cases b4 : s.rules = []
          · have q3 : s.cols.length ≤ 0 := by simp [b3]
            have q4 : s.rules.length ≤ 0 := by simp [b4]
            have hw : IntKind.wrap .i64 ((s.cols.length : Int) + s.rules.length) = s.cols.length + s.rules.length := wrap64 (by omega) (by omega)
            simp [f50, k4, k6, k11, ha, hb, b3, b4, (by decide : IntKind.wrap .i64 0 = 0)]
          · simp [f50, k4, k6, k11, ha, hb, b3, b4]
        · simp [f50, k4, k6, k11, ha, hb, b3]
end Go.DM
