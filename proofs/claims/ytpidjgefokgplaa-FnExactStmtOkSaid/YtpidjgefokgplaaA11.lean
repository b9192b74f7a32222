/- FnExactStmtOk: both answer alike. -/
import Derived.Test.YtpidjgefokgplaaA10
set_option linter.unusedVariables false
set_option linter.unusedSimpArgs false
namespace Go.DM
open Go
variable {Γ : Tab}
theorem nodes_sz (e : Xp) : e.nodes ≤ 1 + e.sz := by
  induction e using Xp.ind with
  | h e ih =>
    rw [Xp.nodes_def, Xp.sz_def]
    have key : ∀ ks : List Xp, (∀ k ∈ ks, k ∈ e.kids) → szL Xp.nodes ks ≤ ks.length + szL Xp.sz ks := by
      intro ks
      induction ks with
      | nil => simp
      | cons k ks ihk =>
        intro hm
        have h1 := ih k (hm k (by simp))
        have h2 := ihk fun x hx => hm x (by simp [hx])
        simp only [szL_cons, List.length_cons]
        omega
    have := key e.kids fun k h => h
    omega
theorem same_0 (s : Stmt) (k : s.kind = 0) : implOk s = stmtOk s := by
  have hu : usedS s.kind = [108, 105, 115, 116] := by simp [usedS, k]
  have c_on : has s.kind [111, 110] = false := by unfold has; rw [hu]; decide
  have c_list : has s.kind [108, 105, 115, 116] = true := by unfold has; rw [hu]; decide
  have c_num : has s.kind [110, 117, 109] = false := by unfold has; rw [hu]; decide
  have c_flag : has s.kind [102, 108, 97, 103] = false := by unfold has; rw [hu]; decide
  have c_type : has s.kind [116, 121, 112, 101] = false := by unfold has; rw [hu]; decide
  have c_cols : has s.kind [99, 111, 108, 115] = false := by unfold has; rw [hu]; decide
  have c_rules : has s.kind [114, 117, 108, 101, 115] = false := by unfold has; rw [hu]; decide
  have c_exprs : has s.kind [101, 120, 112, 114, 115] = false := by unfold has; rw [hu]; decide
  rw [Bool.eq_iff_iff]
  simp [implOk, stmtOk, onlyOk, partsOk, restOk, onC, listC, flagC, typeC, numC, hiC, onK, swOk, colMax, ruleMax, least, exprsOk, c_on, c_list, c_num, c_flag, c_type, c_cols, c_rules, c_exprs, k]
  try grind
theorem same_2 (s : Stmt) (k : s.kind = 2) : implOk s = stmtOk s := by
  have hu : usedS s.kind = [110, 117, 109] := by simp [usedS, k]
  have c_on : has s.kind [111, 110] = false := by unfold has; rw [hu]; decide
  have c_list : has s.kind [108, 105, 115, 116] = false := by unfold has; rw [hu]; decide
  have c_num : has s.kind [110, 117, 109] = true := by unfold has; rw [hu]; decide
  have c_flag : has s.kind [102, 108, 97, 103] = false := by unfold has; rw [hu]; decide
  have c_type : has s.kind [116, 121, 112, 101] = false := by unfold has; rw [hu]; decide
  have c_cols : has s.kind [99, 111, 108, 115] = false := by unfold has; rw [hu]; decide
  have c_rules : has s.kind [114, 117, 108, 101, 115] = false := by unfold has; rw [hu]; decide
  have c_exprs : has s.kind [101, 120, 112, 114, 115] = false := by unfold has; rw [hu]; decide
  rw [Bool.eq_iff_iff]
  simp [implOk, stmtOk, onlyOk, partsOk, restOk, onC, listC, flagC, typeC, numC, hiC, onK, swOk, colMax, ruleMax, least, exprsOk, c_on, c_list, c_num, c_flag, c_type, c_cols, c_rules, c_exprs, k]
  try grind
theorem same_4 (s : Stmt) (k : s.kind = 4) : implOk s = stmtOk s := by
  have hu : usedS s.kind = [99, 111, 108, 115, 32, 114, 117, 108, 101, 115] := by simp [usedS, k]
  have c_on : has s.kind [111, 110] = false := by unfold has; rw [hu]; decide
  have c_list : has s.kind [108, 105, 115, 116] = false := by unfold has; rw [hu]; decide
  have c_num : has s.kind [110, 117, 109] = false := by unfold has; rw [hu]; decide
  have c_flag : has s.kind [102, 108, 97, 103] = false := by unfold has; rw [hu]; decide
  have c_type : has s.kind [116, 121, 112, 101] = false := by unfold has; rw [hu]; decide
  have c_cols : has s.kind [99, 111, 108, 115] = true := by unfold has; rw [hu]; decide
  have c_rules : has s.kind [114, 117, 108, 101, 115] = true := by unfold has; rw [hu]; decide
  have c_exprs : has s.kind [101, 120, 112, 114, 115] = false := by unfold has; rw [hu]; decide
  rw [Bool.eq_iff_iff]
  simp [implOk, stmtOk, onlyOk, partsOk, restOk, onC, listC, flagC, typeC, numC, hiC, onK, swOk, colMax, ruleMax, least, exprsOk, c_on, c_list, c_num, c_flag, c_type, c_cols, c_rules, c_exprs, k]
  try grind
theorem same_6 (s : Stmt) (k : s.kind = 6) : implOk s = stmtOk s := by
  have hu : usedS s.kind = [99, 111, 108, 115] := by simp [usedS, k]
  have c_on : has s.kind [111, 110] = false := by unfold has; rw [hu]; decide
  have c_list : has s.kind [108, 105, 115, 116] = false := by unfold has; rw [hu]; decide
  have c_num : has s.kind [110, 117, 109] = false := by unfold has; rw [hu]; decide
  have c_flag : has s.kind [102, 108, 97, 103] = false := by unfold has; rw [hu]; decide
  have c_type : has s.kind [116, 121, 112, 101] = false := by unfold has; rw [hu]; decide
  have c_cols : has s.kind [99, 111, 108, 115] = true := by unfold has; rw [hu]; decide
  have c_rules : has s.kind [114, 117, 108, 101, 115] = false := by unfold has; rw [hu]; decide
  have c_exprs : has s.kind [101, 120, 112, 114, 115] = false := by unfold has; rw [hu]; decide
  rw [Bool.eq_iff_iff]
  simp [implOk, stmtOk, onlyOk, partsOk, restOk, onC, listC, flagC, typeC, numC, hiC, onK, swOk, colMax, ruleMax, least, exprsOk, c_on, c_list, c_num, c_flag, c_type, c_cols, c_rules, c_exprs, k]
  try grind
theorem same_11 (s : Stmt) (k : s.kind = 11) : implOk s = stmtOk s := by
  have hu : usedS s.kind = [114, 117, 108, 101, 115] := by simp [usedS, k]
  have c_on : has s.kind [111, 110] = false := by unfold has; rw [hu]; decide
  have c_list : has s.kind [108, 105, 115, 116] = false := by unfold has; rw [hu]; decide
  have c_num : has s.kind [110, 117, 109] = false := by unfold has; rw [hu]; decide
  have c_flag : has s.kind [102, 108, 97, 103] = false := by unfold has; rw [hu]; decide
  have c_type : has s.kind [116, 121, 112, 101] = false := by unfold has; rw [hu]; decide
  have c_cols : has s.kind [99, 111, 108, 115] = false := by unfold has; rw [hu]; decide
  have c_rules : has s.kind [114, 117, 108, 101, 115] = true := by unfold has; rw [hu]; decide
  have c_exprs : has s.kind [101, 120, 112, 114, 115] = false := by unfold has; rw [hu]; decide
  rw [Bool.eq_iff_iff]
  simp [implOk, stmtOk, onlyOk, partsOk, restOk, onC, listC, flagC, typeC, numC, hiC, onK, swOk, colMax, ruleMax, least, exprsOk, c_on, c_list, c_num, c_flag, c_type, c_cols, c_rules, c_exprs, k]
  try grind
theorem same_7 (s : Stmt) (k : s.kind = 7) : implOk s = stmtOk s := by
  have hu : usedS s.kind = [111, 110] := by simp [usedS, k]
  have c_on : has s.kind [111, 110] = true := by unfold has; rw [hu]; decide
  have c_list : has s.kind [108, 105, 115, 116] = false := by unfold has; rw [hu]; decide
  have c_num : has s.kind [110, 117, 109] = false := by unfold has; rw [hu]; decide
  have c_flag : has s.kind [102, 108, 97, 103] = false := by unfold has; rw [hu]; decide
  have c_type : has s.kind [116, 121, 112, 101] = false := by unfold has; rw [hu]; decide
  have c_cols : has s.kind [99, 111, 108, 115] = false := by unfold has; rw [hu]; decide
  have c_rules : has s.kind [114, 117, 108, 101, 115] = false := by unfold has; rw [hu]; decide
  have c_exprs : has s.kind [101, 120, 112, 114, 115] = false := by unfold has; rw [hu]; decide
  rw [Bool.eq_iff_iff]
  simp [implOk, stmtOk, onlyOk, partsOk, restOk, onC, listC, flagC, typeC, numC, hiC, onK, swOk, colMax, ruleMax, least, exprsOk, c_on, c_list, c_num, c_flag, c_type, c_cols, c_rules, c_exprs, k]
  try grind
theorem same_12 (s : Stmt) (k : s.kind = 12) : implOk s = stmtOk s := by
  have hu : usedS s.kind = [111, 110] := by simp [usedS, k]
  have c_on : has s.kind [111, 110] = true := by unfold has; rw [hu]; decide
  have c_list : has s.kind [108, 105, 115, 116] = false := by unfold has; rw [hu]; decide
  have c_num : has s.kind [110, 117, 109] = false := by unfold has; rw [hu]; decide
  have c_flag : has s.kind [102, 108, 97, 103] = false := by unfold has; rw [hu]; decide
  have c_type : has s.kind [116, 121, 112, 101] = false := by unfold has; rw [hu]; decide
  have c_cols : has s.kind [99, 111, 108, 115] = false := by unfold has; rw [hu]; decide
  have c_rules : has s.kind [114, 117, 108, 101, 115] = false := by unfold has; rw [hu]; decide
  have c_exprs : has s.kind [101, 120, 112, 114, 115] = false := by unfold has; rw [hu]; decide
  rw [Bool.eq_iff_iff]
  simp [implOk, stmtOk, onlyOk, partsOk, restOk, onC, listC, flagC, typeC, numC, hiC, onK, swOk, colMax, ruleMax, least, exprsOk, c_on, c_list, c_num, c_flag, c_type, c_cols, c_rules, c_exprs, k]
  try grind
theorem same_8 (s : Stmt) (k : s.kind = 8) : implOk s = stmtOk s := by
  have hu : usedS s.kind = [111, 110, 32, 116, 121, 112, 101] := by simp [usedS, k]
  have c_on : has s.kind [111, 110] = true := by unfold has; rw [hu]; decide
  have c_list : has s.kind [108, 105, 115, 116] = false := by unfold has; rw [hu]; decide
  have c_num : has s.kind [110, 117, 109] = false := by unfold has; rw [hu]; decide
  have c_flag : has s.kind [102, 108, 97, 103] = false := by unfold has; rw [hu]; decide
  have c_type : has s.kind [116, 121, 112, 101] = true := by unfold has; rw [hu]; decide
  have c_cols : has s.kind [99, 111, 108, 115] = false := by unfold has; rw [hu]; decide
  have c_rules : has s.kind [114, 117, 108, 101, 115] = false := by unfold has; rw [hu]; decide
  have c_exprs : has s.kind [101, 120, 112, 114, 115] = false := by unfold has; rw [hu]; decide
  rw [Bool.eq_iff_iff]
  simp [implOk, stmtOk, onlyOk, partsOk, restOk, onC, listC, flagC, typeC, numC, hiC, onK, swOk, colMax, ruleMax, least, exprsOk, c_on, c_list, c_num, c_flag, c_type, c_cols, c_rules, c_exprs, k]
  try grind
theorem same_9 (s : Stmt) (k : s.kind = 9) : implOk s = stmtOk s := by
  have hu : usedS s.kind = [111, 110, 32, 102, 108, 97, 103] := by simp [usedS, k]
  have c_on : has s.kind [111, 110] = true := by unfold has; rw [hu]; decide
  have c_list : has s.kind [108, 105, 115, 116] = false := by unfold has; rw [hu]; decide
  have c_num : has s.kind [110, 117, 109] = false := by unfold has; rw [hu]; decide
  have c_flag : has s.kind [102, 108, 97, 103] = true := by unfold has; rw [hu]; decide
  have c_type : has s.kind [116, 121, 112, 101] = false := by unfold has; rw [hu]; decide
  have c_cols : has s.kind [99, 111, 108, 115] = false := by unfold has; rw [hu]; decide
  have c_rules : has s.kind [114, 117, 108, 101, 115] = false := by unfold has; rw [hu]; decide
  have c_exprs : has s.kind [101, 120, 112, 114, 115] = false := by unfold has; rw [hu]; decide
  rw [Bool.eq_iff_iff]
  simp [implOk, stmtOk, onlyOk, partsOk, restOk, onC, listC, flagC, typeC, numC, hiC, onK, swOk, colMax, ruleMax, least, exprsOk, c_on, c_list, c_num, c_flag, c_type, c_cols, c_rules, c_exprs, k]
  try grind
theorem same_10 (s : Stmt) (k : s.kind = 10) : implOk s = stmtOk s := by
  have hu : usedS s.kind = [111, 110, 32, 101, 120, 112, 114, 115] := by simp [usedS, k]
  have c_on : has s.kind [111, 110] = true := by unfold has; rw [hu]; decide
  have c_list : has s.kind [108, 105, 115, 116] = false := by unfold has; rw [hu]; decide
  have c_num : has s.kind [110, 117, 109] = false := by unfold has; rw [hu]; decide
  have c_flag : has s.kind [102, 108, 97, 103] = false := by unfold has; rw [hu]; decide
  have c_type : has s.kind [116, 121, 112, 101] = false := by unfold has; rw [hu]; decide
  have c_cols : has s.kind [99, 111, 108, 115] = false := by unfold has; rw [hu]; decide
  have c_rules : has s.kind [114, 117, 108, 101, 115] = false := by unfold has; rw [hu]; decide
  have c_exprs : has s.kind [101, 120, 112, 114, 115] = true := by unfold has; rw [hu]; decide
  rw [Bool.eq_iff_iff]
  simp [implOk, stmtOk, onlyOk, partsOk, restOk, onC, listC, flagC, typeC, numC, hiC, onK, swOk, colMax, ruleMax, least, exprsOk, c_on, c_list, c_num, c_flag, c_type, c_cols, c_rules, c_exprs, k]
  try grind
theorem same_13 (s : Stmt) (k : s.kind = 13) : implOk s = stmtOk s := by
  have hu : usedS s.kind = [111, 110, 32, 108, 105, 115, 116, 32, 102, 108, 97, 103] := by simp [usedS, k]
  have c_on : has s.kind [111, 110] = true := by unfold has; rw [hu]; decide
  have c_list : has s.kind [108, 105, 115, 116] = true := by unfold has; rw [hu]; decide
  have c_num : has s.kind [110, 117, 109] = false := by unfold has; rw [hu]; decide
  have c_flag : has s.kind [102, 108, 97, 103] = true := by unfold has; rw [hu]; decide
  have c_type : has s.kind [116, 121, 112, 101] = false := by unfold has; rw [hu]; decide
  have c_cols : has s.kind [99, 111, 108, 115] = false := by unfold has; rw [hu]; decide
  have c_rules : has s.kind [114, 117, 108, 101, 115] = false := by unfold has; rw [hu]; decide
  have c_exprs : has s.kind [101, 120, 112, 114, 115] = false := by unfold has; rw [hu]; decide
  rw [Bool.eq_iff_iff]
  simp [implOk, stmtOk, onlyOk, partsOk, restOk, onC, listC, flagC, typeC, numC, hiC, onK, swOk, colMax, ruleMax, least, exprsOk, c_on, c_list, c_num, c_flag, c_type, c_cols, c_rules, c_exprs, k]
  try grind
theorem same_15 (s : Stmt) (k : s.kind = 15) : implOk s = stmtOk s := by
  have hu : usedS s.kind = [111, 110, 32, 108, 105, 115, 116, 32, 101, 120, 112, 114, 115] := by simp [usedS, k]
  have c_on : has s.kind [111, 110] = true := by unfold has; rw [hu]; decide
  have c_list : has s.kind [108, 105, 115, 116] = true := by unfold has; rw [hu]; decide
  have c_num : has s.kind [110, 117, 109] = false := by unfold has; rw [hu]; decide
  have c_flag : has s.kind [102, 108, 97, 103] = false := by unfold has; rw [hu]; decide
  have c_type : has s.kind [116, 121, 112, 101] = false := by unfold has; rw [hu]; decide
  have c_cols : has s.kind [99, 111, 108, 115] = false := by unfold has; rw [hu]; decide
  have c_rules : has s.kind [114, 117, 108, 101, 115] = false := by unfold has; rw [hu]; decide
  have c_exprs : has s.kind [101, 120, 112, 114, 115] = true := by unfold has; rw [hu]; decide
  rw [Bool.eq_iff_iff]
  simp [implOk, stmtOk, onlyOk, partsOk, restOk, onC, listC, flagC, typeC, numC, hiC, onK, swOk, colMax, ruleMax, least, exprsOk, c_on, c_list, c_num, c_flag, c_type, c_cols, c_rules, c_exprs, k]
  try grind
theorem same_o (s : Stmt) (k0 : ¬ s.kind = 0) (k2 : ¬ s.kind = 2) (k4 : ¬ s.kind = 4) (k6 : ¬ s.kind = 6) (k11 : ¬ s.kind = 11) (k7 : ¬ s.kind = 7) (k12 : ¬ s.kind = 12) (k8 : ¬ s.kind = 8) (k9 : ¬ s.kind = 9) (k10 : ¬ s.kind = 10) (k13 : ¬ s.kind = 13) (k15 : ¬ s.kind = 15) : implOk s = stmtOk s := by
  have hu : usedS s.kind = [] := by simp [usedS, k0, k2, k4, k6, k11, k7, k12, k8, k9, k10, k13, k15]
  have c_on : has s.kind [111, 110] = false := by unfold has; rw [hu]; decide
  have c_list : has s.kind [108, 105, 115, 116] = false := by unfold has; rw [hu]; decide
  have c_num : has s.kind [110, 117, 109] = false := by unfold has; rw [hu]; decide
  have c_flag : has s.kind [102, 108, 97, 103] = false := by unfold has; rw [hu]; decide
  have c_type : has s.kind [116, 121, 112, 101] = false := by unfold has; rw [hu]; decide
  have c_cols : has s.kind [99, 111, 108, 115] = false := by unfold has; rw [hu]; decide
  have c_rules : has s.kind [114, 117, 108, 101, 115] = false := by unfold has; rw [hu]; decide
  have c_exprs : has s.kind [101, 120, 112, 114, 115] = false := by unfold has; rw [hu]; decide
  rw [Bool.eq_iff_iff]
  simp [implOk, stmtOk, onlyOk, partsOk, restOk, onC, listC, flagC, typeC, numC, hiC, onK, swOk, colMax, ruleMax, least, exprsOk, c_on, c_list, c_num, c_flag, c_type, c_cols, c_rules, c_exprs, k0, k2, k4, k6, k11, k7, k12, k8, k9, k10, k13, k15]
  try grind
theorem stmt_same (s : Stmt) : implOk s = stmtOk s := by
  by_cases k0 : s.kind = 0
  · exact same_0 s k0
  by_cases k2 : s.kind = 2
  · exact same_2 s k2
  by_cases k4 : s.kind = 4
  · exact same_4 s k4
  by_cases k6 : s.kind = 6
  · exact same_6 s k6
  by_cases k11 : s.kind = 11
  · exact same_11 s k11
  by_cases k7 : s.kind = 7
  · exact same_7 s k7
  by_cases k12 : s.kind = 12
  · exact same_12 s k12
  by_cases k8 : s.kind = 8
  · exact same_8 s k8
  by_cases k9 : s.kind = 9
  · exact same_9 s k9
  by_cases k10 : s.kind = 10
  · exact same_10 s k10
  by_cases k13 : s.kind = 13
  · exact same_13 s k13
  by_cases k15 : s.kind = 15
  · exact same_15 s k15
  exact same_o s k0 k2 k4 k6 k11 k7 k12 k8 k9 k10 k13 k15
theorem fnExactStmtOk_ev (h : H22 Γ) (s : Stmt) (hok : s.Ok) : EvF Γ 22 [s.d] [] = some (.bool true, []) := by
  have hz := szStmt_ev h.c25 s hok 1048576 (by omega) (by omega)
  rw [EvF_run h.e22 rfl]
  by_cases hs : s.sz ≤ 1048576
  · have m : szR 1048576 s.sz = 1048576 - (s.sz : Int) := by simp only [szR]; rw [if_pos (by omega)]
    have n : ¬ 1048576 - (s.sz : Int) < 0 := by omega
    rw [m] at hz
    have ht := toStmt_ev h.c26 s hs
    have hd := s.sz_def
    have b3 : ∀ e ∈ s.exprs, e.nodes ≤ 4611686018427387904 := fun e he => by
      have h1 := szL_mem Xp.sz he
      have h2 := nodes_sz e
      omega
    have b1 : ∀ c ∈ s.cols, ∀ e ∈ c.dflt, e.nodes ≤ 4611686018427387904 := fun c hc e he => by
      have h0 := szL_mem Col.sz hc
      have h1 := szL_mem Xp.sz he
      have h2 := nodes_sz e
      have h3 := c.sz_def
      omega
    have b2 : ∀ c ∈ s.rules, ∀ e ∈ c.expr, e.nodes ≤ 4611686018427387904 := fun c hc e he => by
      have h0 := szL_mem Rule.sz hc
      have h1 := szL_mem Xp.sz he
      have h2 := nodes_sz e
      have h3 := c.sz_def
      omega
    have hi := implStmt_ev h.c23 s hok
    rw [stmt_same] at hi
    have he := eqStmt_ev h.c24 s hok s
    simp [f22, callIn_pure, hz, n, ht, specStmt_ev h.c27 s hok b1 b2 b3, hi, he]
  · have m : szR 1048576 s.sz = -1 := by simp only [szR]; rw [if_neg (by omega)]
    rw [m] at hz
    simp [f22, callIn_pure, hz]
end Go.DM
