/- The laws' own sz, to and eq on the program's structs (printed by a program). -/
import Derived.Test.YtpidjgefokgplaaA10
import Derived.Test.YtpidjgefokgplaaGen1
set_option linter.unusedVariables false
set_option linter.unusedSimpArgs false
set_option linter.unnecessarySimpa false
namespace Go.DM
open Go
variable {Γ : Tab}
def Labels.sz (x : Labels) : Nat := x.name.length + (x.list.length + szL List.length x.list)
theorem Labels.sz_def (x : Labels) : x.sz = x.name.length + (x.list.length + szL List.length x.list) := rfl
set_option maxHeartbeats 4000000 in
theorem szLabels_ev (h : H156 Γ) (x : Labels) : x.Ok → ∀ l : Int, 0 ≤ l → l ≤ 1048576 → EvF Γ 156 [x.d, .int .i64 l] [] = some (.int .i64 (szR l x.sz), []) := by
  intro hok l hl0 hl1
  have hd := x.sz_def
  rw [EvF_run h.e156 rfl]
  have ok0 := hok.name
  unfold StrOk at ok0
  have w0 : IntKind.wrap .i64 (l - (x.name.length : Int)) = l - (x.name.length : Int) := wrap64 (by omega) (by omega)
  by_cases p0 : ((x.name.length : Nat) : Int) ≤ l
  rotate_left
  · have hz : szR l x.sz = -1 := by
      simp only [szR]
      rw [if_neg (by omega)]
    rw [hz]
    have m0 : l - (x.name.length : Int) < 0 := by omega
    simp [f156, callIn_pure, w0, m0]
  have m0 : ¬ l - (x.name.length : Int) < 0 := by omega
  have w1 := sz48_ev h.c48 x.list hok.list.1 hok.list.2 (l - (x.name.length : Int)) (by omega) (by omega)
  obtain ⟨A1, hA1⟩ : ∃ A : Nat, A = x.list.length + szL List.length x.list := ⟨_, rfl⟩
  rw [← hA1] at w1
  by_cases p1 : ((A1 : Nat) : Int) ≤ l - (x.name.length : Int)
  rotate_left
  · have hz : szR l x.sz = -1 := by
      simp only [szR]
      rw [if_neg (by omega)]
    rw [hz]
    have m1 : szR (l - (x.name.length : Int)) (A1) = -1 := by simp only [szR]; rw [if_neg p1]
    rw [m1] at w1
    simp [f156, callIn_pure, w0, m0, w1]
  have m1 : szR (l - (x.name.length : Int)) (A1) = l - (x.name.length : Int) - ((A1 : Nat) : Int) := by simp only [szR]; rw [if_pos p1]
  rw [m1] at w1
  have q1 : ¬ l - (x.name.length : Int) - ((A1 : Nat) : Int) < 0 := by omega
  have hz : szR l x.sz = l - (x.name.length : Int) - ((A1 : Nat) : Int) := by
    simp only [szR]
    rw [if_pos (by omega)]
    omega
  rw [hz]
  simp [f156, callIn_pure, w0, m0, w1, q1]
set_option maxHeartbeats 4000000 in
theorem toLabels_ev (h : H164 Γ) (x : Labels) : x.sz ≤ 1048576 → EvF Γ 164 [x.d] [] = some (x.d, []) := by
  intro hs
  have hd := x.sz_def
  have t1 := to55_ev h.c55 x.list (by omega)
  rw [EvF_run h.e164 rfl]
  simp [f164, callIn_pure, t1]
set_option maxHeartbeats 4000000 in
theorem eqLabels_ev (h : H175 Γ) (x : Labels) : x.Ok → ∀ y : Labels, EvF Γ 175 [x.d, y.d] [] = some (.bool (decide (x = y)), []) := by
  intro hok y
  rw [EvF_run h.e175 rfl]
  by_cases q0 : x.name = y.name
  rotate_left
  · have hne : ¬ x = y := fun e => q0 (by rw [e])
    rw [decide_eq_false hne]
    simp [f175, callIn_pure, q0]
  have g1 := eqs69_ev h.c69 x.list y.list hok.list.1
  by_cases q1 : x.list = y.list
  rotate_left
  · have hne : ¬ x = y := fun e => q1 (by rw [e])
    rw [decide_eq_false hne]
    rw [decide_eq_false q1] at g1
    simp [f175, callIn_pure, q0, g1]
  rw [decide_eq_true q1] at g1
  have he : x = y := by
    cases x; cases y
    simp at q0 q1
    simp [q0, q1]
  rw [decide_eq_true he]
  simp [f175, callIn_pure, q0, g1]
def Seq.sz (x : Seq) : Nat := x.name.length
theorem Seq.sz_def (x : Seq) : x.sz = x.name.length := rfl
set_option maxHeartbeats 4000000 in
theorem szSeq_ev (h : H157 Γ) (x : Seq) : x.Ok → ∀ l : Int, 0 ≤ l → l ≤ 1048576 → EvF Γ 157 [x.d, .int .i64 l] [] = some (.int .i64 (szR l x.sz), []) := by
  intro hok l hl0 hl1
  have hd := x.sz_def
  rw [EvF_run h.e157 rfl]
  have ok0 := hok.name
  unfold StrOk at ok0
  have w0 : IntKind.wrap .i64 (l - (x.name.length : Int)) = l - (x.name.length : Int) := wrap64 (by omega) (by omega)
  by_cases p0 : ((x.name.length : Nat) : Int) ≤ l
  rotate_left
  · have hz : szR l x.sz = -1 := by
      simp only [szR]
      rw [if_neg (by omega)]
    rw [hz]
    have m0 : l - (x.name.length : Int) < 0 := by omega
    simp [f157, callIn_pure, w0, m0]
  have m0 : ¬ l - (x.name.length : Int) < 0 := by omega
  have hz : szR l x.sz = l - (x.name.length : Int) := by
    simp only [szR]
    rw [if_pos (by omega)]
    omega
  rw [hz]
  simp [f157, callIn_pure, w0, m0]
set_option maxHeartbeats 4000000 in
theorem toSeq_ev (h : H165 Γ) (x : Seq) : x.sz ≤ 1048576 → EvF Γ 165 [x.d] [] = some (x.d, []) := by
  intro hs
  have hd := x.sz_def
  rw [EvF_run h.e165 rfl]
  simp [f165, callIn_pure]
set_option maxHeartbeats 4000000 in
theorem eqSeq_ev (h : H176 Γ) (x : Seq) : x.Ok → ∀ y : Seq, EvF Γ 176 [x.d, y.d] [] = some (.bool (decide (x = y)), []) := by
  intro hok y
  rw [EvF_run h.e176 rfl]
  by_cases q0 : x.name = y.name
  rotate_left
  · have hne : ¬ x = y := fun e => q0 (by rw [e])
    rw [decide_eq_false hne]
    simp [f176, callIn_pure, q0]
  by_cases q1 : x.start = y.start
  rotate_left
  · have hne : ¬ x = y := fun e => q1 (by rw [e])
    rw [decide_eq_false hne]
    simp [f176, callIn_pure, q0, q1]
  have he : x = y := by
    cases x; cases y
    simp at q0 q1
    simp [q0, q1]
  rw [decide_eq_true he]
  simp [f176, callIn_pure, q0, q1]
def Table.sz (x : Table) : Nat := x.name.length + (x.cols.length + szL Col.sz x.cols) + (x.rules.length + szL Rule.sz x.rules)
theorem Table.sz_def (x : Table) : x.sz = x.name.length + (x.cols.length + szL Col.sz x.cols) + (x.rules.length + szL Rule.sz x.rules) := rfl
set_option maxHeartbeats 4000000 in
theorem szTable_ev (h : H158 Γ) (x : Table) : x.Ok → ∀ l : Int, 0 ≤ l → l ≤ 1048576 → EvF Γ 158 [x.d, .int .i64 l] [] = some (.int .i64 (szR l x.sz), []) := by
  intro hok l hl0 hl1
  have hd := x.sz_def
  rw [EvF_run h.e158 rfl]
  have ok0 := hok.name
  unfold StrOk at ok0
  have w0 : IntKind.wrap .i64 (l - (x.name.length : Int)) = l - (x.name.length : Int) := wrap64 (by omega) (by omega)
  by_cases p0 : ((x.name.length : Nat) : Int) ≤ l
  rotate_left
  · have hz : szR l x.sz = -1 := by
      simp only [szR]
      rw [if_neg (by omega)]
    rw [hz]
    have m0 : l - (x.name.length : Int) < 0 := by omega
    simp [f158, callIn_pure, w0, m0]
  have m0 : ¬ l - (x.name.length : Int) < 0 := by omega
  have w1 := sz45_ev h.c45 x.cols hok.cols.1 Col.sz (fun y hy l h0 h1 => szCol_ev h.c45.c84 y (hok.cols.2 y hy) l h0 h1) (l - (x.name.length : Int)) (by omega) (by omega)
  obtain ⟨A1, hA1⟩ : ∃ A : Nat, A = x.cols.length + szL Col.sz x.cols := ⟨_, rfl⟩
  rw [← hA1] at w1
  by_cases p1 : ((A1 : Nat) : Int) ≤ l - (x.name.length : Int)
  rotate_left
  · have hz : szR l x.sz = -1 := by
      simp only [szR]
      rw [if_neg (by omega)]
    rw [hz]
    have m1 : szR (l - (x.name.length : Int)) (A1) = -1 := by simp only [szR]; rw [if_neg p1]
    rw [m1] at w1
    simp [f158, callIn_pure, w0, m0, w1]
  have m1 : szR (l - (x.name.length : Int)) (A1) = l - (x.name.length : Int) - ((A1 : Nat) : Int) := by simp only [szR]; rw [if_pos p1]
  rw [m1] at w1
  have q1 : ¬ l - (x.name.length : Int) - ((A1 : Nat) : Int) < 0 := by omega
  have w2 := sz47_ev h.c47 x.rules hok.rules.1 Rule.sz (fun y hy l h0 h1 => szRule_ev h.c47.c85 y (hok.rules.2 y hy) l h0 h1) (l - (x.name.length : Int) - ((A1 : Nat) : Int)) (by omega) (by omega)
  obtain ⟨A2, hA2⟩ : ∃ A : Nat, A = x.rules.length + szL Rule.sz x.rules := ⟨_, rfl⟩
  rw [← hA2] at w2
  by_cases p2 : ((A2 : Nat) : Int) ≤ l - (x.name.length : Int) - ((A1 : Nat) : Int)
  rotate_left
  · have hz : szR l x.sz = -1 := by
      simp only [szR]
      rw [if_neg (by omega)]
    rw [hz]
    have m2 : szR (l - (x.name.length : Int) - ((A1 : Nat) : Int)) (A2) = -1 := by simp only [szR]; rw [if_neg p2]
    rw [m2] at w2
    simp [f158, callIn_pure, w0, m0, w1, q1, w2]
  have m2 : szR (l - (x.name.length : Int) - ((A1 : Nat) : Int)) (A2) = l - (x.name.length : Int) - ((A1 : Nat) : Int) - ((A2 : Nat) : Int) := by simp only [szR]; rw [if_pos p2]
  rw [m2] at w2
  have q2 : ¬ l - (x.name.length : Int) - ((A1 : Nat) : Int) - ((A2 : Nat) : Int) < 0 := by omega
  have hz : szR l x.sz = l - (x.name.length : Int) - ((A1 : Nat) : Int) - ((A2 : Nat) : Int) := by
    simp only [szR]
    rw [if_pos (by omega)]
    omega
  rw [hz]
  simp [f158, callIn_pure, w0, m0, w1, q1, w2, q2]
set_option maxHeartbeats 4000000 in
theorem toTable_ev (h : H166 Γ) (x : Table) : x.sz ≤ 1048576 → EvF Γ 166 [x.d] [] = some (x.d, []) := by
  intro hs
  have hd := x.sz_def
  have t1 := to52_ev h.c52 x.cols (by omega) (fun y hy => toCol_ev h.c52.c91 y (by have := szL_mem Col.sz hy; omega))
  have t2 := to54_ev h.c54 x.rules (by omega) (fun y hy => toRule_ev h.c54.c92 y (by have := szL_mem Rule.sz hy; omega))
  rw [EvF_run h.e166 rfl]
  simp [f166, callIn_pure, t1, t2]
set_option maxHeartbeats 4000000 in
theorem eqTable_ev (h : H177 Γ) (x : Table) : x.Ok → ∀ y : Table, EvF Γ 177 [x.d, y.d] [] = some (.bool (decide (x = y)), []) := by
  intro hok y
  rw [EvF_run h.e177 rfl]
  by_cases q0 : x.name = y.name
  rotate_left
  · have hne : ¬ x = y := fun e => q0 (by rw [e])
    rw [decide_eq_false hne]
    simp [f177, callIn_pure, q0]
  have g1 := eqs66_ev h.c66 x.cols y.cols hok.cols.1 (fun a ha b hb => eqCol_ev h.c66.c105 a (hok.cols.2 a ha) b)
  by_cases q1 : x.cols = y.cols
  rotate_left
  · have hne : ¬ x = y := fun e => q1 (by rw [e])
    rw [decide_eq_false hne]
    rw [decide_eq_false q1] at g1
    simp [f177, callIn_pure, q0, g1]
  rw [decide_eq_true q1] at g1
  have g2 := eqs68_ev h.c68 x.rules y.rules hok.rules.1 (fun a ha b hb => eqRule_ev h.c68.c106 a (hok.rules.2 a ha) b)
  by_cases q2 : x.rules = y.rules
  rotate_left
  · have hne : ¬ x = y := fun e => q2 (by rw [e])
    rw [decide_eq_false hne]
    rw [decide_eq_false q2] at g2
    simp [f177, callIn_pure, q0, g1, g2]
  rw [decide_eq_true q2] at g2
  by_cases q3 : x.token = y.token
  rotate_left
  · have hne : ¬ x = y := fun e => q3 (by rw [e])
    rw [decide_eq_false hne]
    simp [f177, callIn_pure, q0, g1, g2, q3]
  have he : x = y := by
    cases x; cases y
    simp at q0 q1 q2 q3
    simp [q0, q1, q2, q3]
  rw [decide_eq_true he]
  simp [f177, callIn_pure, q0, g1, g2, q3]
def Index.sz (x : Index) : Nat := x.name.length + x.table.length + (x.cols.length + szL List.length x.cols)
theorem Index.sz_def (x : Index) : x.sz = x.name.length + x.table.length + (x.cols.length + szL List.length x.cols) := rfl
set_option maxHeartbeats 4000000 in
theorem szIndex_ev (h : H159 Γ) (x : Index) : x.Ok → ∀ l : Int, 0 ≤ l → l ≤ 1048576 → EvF Γ 159 [x.d, .int .i64 l] [] = some (.int .i64 (szR l x.sz), []) := by
  intro hok l hl0 hl1
  have hd := x.sz_def
  rw [EvF_run h.e159 rfl]
  have ok0 := hok.name
  unfold StrOk at ok0
  have w0 : IntKind.wrap .i64 (l - (x.name.length : Int)) = l - (x.name.length : Int) := wrap64 (by omega) (by omega)
  by_cases p0 : ((x.name.length : Nat) : Int) ≤ l
  rotate_left
  · have hz : szR l x.sz = -1 := by
      simp only [szR]
      rw [if_neg (by omega)]
    rw [hz]
    have m0 : l - (x.name.length : Int) < 0 := by omega
    simp [f159, callIn_pure, w0, m0]
  have m0 : ¬ l - (x.name.length : Int) < 0 := by omega
  have ok1 := hok.table
  unfold StrOk at ok1
  have w1 : IntKind.wrap .i64 (l - (x.name.length : Int) - (x.table.length : Int)) = l - (x.name.length : Int) - (x.table.length : Int) := wrap64 (by omega) (by omega)
  by_cases p1 : ((x.table.length : Nat) : Int) ≤ l - (x.name.length : Int)
  rotate_left
  · have hz : szR l x.sz = -1 := by
      simp only [szR]
      rw [if_neg (by omega)]
    rw [hz]
    have m1 : l - (x.name.length : Int) - (x.table.length : Int) < 0 := by omega
    simp [f159, callIn_pure, w0, m0, w1, m1]
  have m1 : ¬ l - (x.name.length : Int) - (x.table.length : Int) < 0 := by omega
  have w2 := sz48_ev h.c48 x.cols hok.cols.1 hok.cols.2 (l - (x.name.length : Int) - (x.table.length : Int)) (by omega) (by omega)
  obtain ⟨A2, hA2⟩ : ∃ A : Nat, A = x.cols.length + szL List.length x.cols := ⟨_, rfl⟩
  rw [← hA2] at w2
  by_cases p2 : ((A2 : Nat) : Int) ≤ l - (x.name.length : Int) - (x.table.length : Int)
  rotate_left
  · have hz : szR l x.sz = -1 := by
      simp only [szR]
      rw [if_neg (by omega)]
    rw [hz]
    have m2 : szR (l - (x.name.length : Int) - (x.table.length : Int)) (A2) = -1 := by simp only [szR]; rw [if_neg p2]
    rw [m2] at w2
    simp [f159, callIn_pure, w0, m0, w1, m1, w2]
  have m2 : szR (l - (x.name.length : Int) - (x.table.length : Int)) (A2) = l - (x.name.length : Int) - (x.table.length : Int) - ((A2 : Nat) : Int) := by simp only [szR]; rw [if_pos p2]
  rw [m2] at w2
  have q2 : ¬ l - (x.name.length : Int) - (x.table.length : Int) - ((A2 : Nat) : Int) < 0 := by omega
  have hz : szR l x.sz = l - (x.name.length : Int) - (x.table.length : Int) - ((A2 : Nat) : Int) := by
    simp only [szR]
    rw [if_pos (by omega)]
    omega
  rw [hz]
  simp [f159, callIn_pure, w0, m0, w1, m1, w2, q2]
set_option maxHeartbeats 4000000 in
theorem toIndex_ev (h : H167 Γ) (x : Index) : x.sz ≤ 1048576 → EvF Γ 167 [x.d] [] = some (x.d, []) := by
  intro hs
  have hd := x.sz_def
  have t2 := to55_ev h.c55 x.cols (by omega)
  rw [EvF_run h.e167 rfl]
  simp [f167, callIn_pure, t2]
set_option maxHeartbeats 4000000 in
theorem eqIndex_ev (h : H178 Γ) (x : Index) : x.Ok → ∀ y : Index, EvF Γ 178 [x.d, y.d] [] = some (.bool (decide (x = y)), []) := by
  intro hok y
  rw [EvF_run h.e178 rfl]
  by_cases q0 : x.name = y.name
  rotate_left
  · have hne : ¬ x = y := fun e => q0 (by rw [e])
    rw [decide_eq_false hne]
    simp [f178, callIn_pure, q0]
  by_cases q1 : x.table = y.table
  rotate_left
  · have hne : ¬ x = y := fun e => q1 (by rw [e])
    rw [decide_eq_false hne]
    simp [f178, callIn_pure, q0, q1]
  have g2 := eqs69_ev h.c69 x.cols y.cols hok.cols.1
  by_cases q2 : x.cols = y.cols
  rotate_left
  · have hne : ¬ x = y := fun e => q2 (by rw [e])
    rw [decide_eq_false hne]
    rw [decide_eq_false q2] at g2
    simp [f178, callIn_pure, q0, q1, g2]
  rw [decide_eq_true q2] at g2
  by_cases q3 : x.unique = y.unique
  rotate_left
  · have hne : ¬ x = y := fun e => q3 (by rw [e])
    rw [decide_eq_false hne]
    simp [f178, callIn_pure, q0, q1, g2, q3]
  have he : x = y := by
    cases x; cases y
    simp at q0 q1 q2 q3
    simp [q0, q1, q2, q3]
  rw [decide_eq_true he]
  simp [f178, callIn_pure, q0, q1, g2, q3]
def View.sz (x : View) : Nat := x.name.length + x.table.length + (x.cols.length + szL List.length x.cols) + (x.cond.length + szL Xp.sz x.cond)
theorem View.sz_def (x : View) : x.sz = x.name.length + x.table.length + (x.cols.length + szL List.length x.cols) + (x.cond.length + szL Xp.sz x.cond) := rfl
set_option maxHeartbeats 4000000 in
theorem szView_ev (h : H160 Γ) (x : View) : x.Ok → ∀ l : Int, 0 ≤ l → l ≤ 1048576 → EvF Γ 160 [x.d, .int .i64 l] [] = some (.int .i64 (szR l x.sz), []) := by
  intro hok l hl0 hl1
  have hd := x.sz_def
  rw [EvF_run h.e160 rfl]
  have ok0 := hok.name
  unfold StrOk at ok0
  have w0 : IntKind.wrap .i64 (l - (x.name.length : Int)) = l - (x.name.length : Int) := wrap64 (by omega) (by omega)
  by_cases p0 : ((x.name.length : Nat) : Int) ≤ l
  rotate_left
  · have hz : szR l x.sz = -1 := by
      simp only [szR]
      rw [if_neg (by omega)]
    rw [hz]
    have m0 : l - (x.name.length : Int) < 0 := by omega
    simp [f160, callIn_pure, w0, m0]
  have m0 : ¬ l - (x.name.length : Int) < 0 := by omega
  have ok1 := hok.table
  unfold StrOk at ok1
  have w1 : IntKind.wrap .i64 (l - (x.name.length : Int) - (x.table.length : Int)) = l - (x.name.length : Int) - (x.table.length : Int) := wrap64 (by omega) (by omega)
  by_cases p1 : ((x.table.length : Nat) : Int) ≤ l - (x.name.length : Int)
  rotate_left
  · have hz : szR l x.sz = -1 := by
      simp only [szR]
      rw [if_neg (by omega)]
    rw [hz]
    have m1 : l - (x.name.length : Int) - (x.table.length : Int) < 0 := by omega
    simp [f160, callIn_pure, w0, m0, w1, m1]
  have m1 : ¬ l - (x.name.length : Int) - (x.table.length : Int) < 0 := by omega
  have w2 := sz48_ev h.c48 x.cols hok.cols.1 hok.cols.2 (l - (x.name.length : Int) - (x.table.length : Int)) (by omega) (by omega)
  obtain ⟨A2, hA2⟩ : ∃ A : Nat, A = x.cols.length + szL List.length x.cols := ⟨_, rfl⟩
  rw [← hA2] at w2
  by_cases p2 : ((A2 : Nat) : Int) ≤ l - (x.name.length : Int) - (x.table.length : Int)
  rotate_left
  · have hz : szR l x.sz = -1 := by
      simp only [szR]
      rw [if_neg (by omega)]
    rw [hz]
    have m2 : szR (l - (x.name.length : Int) - (x.table.length : Int)) (A2) = -1 := by simp only [szR]; rw [if_neg p2]
    rw [m2] at w2
    simp [f160, callIn_pure, w0, m0, w1, m1, w2]
  have m2 : szR (l - (x.name.length : Int) - (x.table.length : Int)) (A2) = l - (x.name.length : Int) - (x.table.length : Int) - ((A2 : Nat) : Int) := by simp only [szR]; rw [if_pos p2]
  rw [m2] at w2
  have q2 : ¬ l - (x.name.length : Int) - (x.table.length : Int) - ((A2 : Nat) : Int) < 0 := by omega
  have w3 := sz46_ev h.c46 x.cond hok.cond.1 Xp.sz (fun y hy l h0 h1 => szXp_ev h.c46 y (hok.cond.2 y hy) l h0 h1) (l - (x.name.length : Int) - (x.table.length : Int) - ((A2 : Nat) : Int)) (by omega) (by omega)
  obtain ⟨A3, hA3⟩ : ∃ A : Nat, A = x.cond.length + szL Xp.sz x.cond := ⟨_, rfl⟩
  rw [← hA3] at w3
  by_cases p3 : ((A3 : Nat) : Int) ≤ l - (x.name.length : Int) - (x.table.length : Int) - ((A2 : Nat) : Int)
  rotate_left
  · have hz : szR l x.sz = -1 := by
      simp only [szR]
      rw [if_neg (by omega)]
    rw [hz]
    have m3 : szR (l - (x.name.length : Int) - (x.table.length : Int) - ((A2 : Nat) : Int)) (A3) = -1 := by simp only [szR]; rw [if_neg p3]
    rw [m3] at w3
    simp [f160, callIn_pure, w0, m0, w1, m1, w2, q2, w3]
  have m3 : szR (l - (x.name.length : Int) - (x.table.length : Int) - ((A2 : Nat) : Int)) (A3) = l - (x.name.length : Int) - (x.table.length : Int) - ((A2 : Nat) : Int) - ((A3 : Nat) : Int) := by simp only [szR]; rw [if_pos p3]
  rw [m3] at w3
  have q3 : ¬ l - (x.name.length : Int) - (x.table.length : Int) - ((A2 : Nat) : Int) - ((A3 : Nat) : Int) < 0 := by omega
  have hz : szR l x.sz = l - (x.name.length : Int) - (x.table.length : Int) - ((A2 : Nat) : Int) - ((A3 : Nat) : Int) := by
    simp only [szR]
    rw [if_pos (by omega)]
    omega
  rw [hz]
  simp [f160, callIn_pure, w0, m0, w1, m1, w2, q2, w3, q3]
set_option maxHeartbeats 4000000 in
theorem toView_ev (h : H168 Γ) (x : View) : x.sz ≤ 1048576 → EvF Γ 168 [x.d] [] = some (x.d, []) := by
  intro hs
  have hd := x.sz_def
  have t2 := to55_ev h.c55 x.cols (by omega)
  have t3 := to53_ev h.c53 x.cond (by omega) (fun y hy => toXp_ev h.c53 y (by have := szL_mem Xp.sz hy; omega))
  rw [EvF_run h.e168 rfl]
  simp [f168, callIn_pure, t2, t3]
set_option maxHeartbeats 4000000 in
theorem eqView_ev (h : H179 Γ) (x : View) : x.Ok → ∀ y : View, EvF Γ 179 [x.d, y.d] [] = some (.bool (decide (x = y)), []) := by
  intro hok y
  rw [EvF_run h.e179 rfl]
  by_cases q0 : x.name = y.name
  rotate_left
  · have hne : ¬ x = y := fun e => q0 (by rw [e])
    rw [decide_eq_false hne]
    simp [f179, callIn_pure, q0]
  by_cases q1 : x.table = y.table
  rotate_left
  · have hne : ¬ x = y := fun e => q1 (by rw [e])
    rw [decide_eq_false hne]
    simp [f179, callIn_pure, q0, q1]
  have g2 := eqs69_ev h.c69 x.cols y.cols hok.cols.1
  by_cases q2 : x.cols = y.cols
  rotate_left
  · have hne : ¬ x = y := fun e => q2 (by rw [e])
    rw [decide_eq_false hne]
    rw [decide_eq_false q2] at g2
    simp [f179, callIn_pure, q0, q1, g2]
  rw [decide_eq_true q2] at g2
  have g3 := eqs67_ev h.c67 x.cond y.cond hok.cond.1 (fun a ha b hb => eqXp_ev h.c67 a (hok.cond.2 a ha) b)
  by_cases q3 : x.cond = y.cond
  rotate_left
  · have hne : ¬ x = y := fun e => q3 (by rw [e])
    rw [decide_eq_false hne]
    rw [decide_eq_false q3] at g3
    simp [f179, callIn_pure, q0, q1, g2, g3]
  rw [decide_eq_true q3] at g3
  have he : x = y := by
    cases x; cases y
    simp at q0 q1 q2 q3
    simp [q0, q1, q2, q3]
  rw [decide_eq_true he]
  simp [f179, callIn_pure, q0, q1, g2, g3]
def Plan.sz (x : Plan) : Nat := (x.enums.length + szL Labels.sz x.enums) + (x.seqs.length + szL Seq.sz x.seqs) + (x.tables.length + szL Table.sz x.tables) + (x.indexes.length + szL Index.sz x.indexes) + (x.views.length + szL View.sz x.views)
theorem Plan.sz_def (x : Plan) : x.sz = (x.enums.length + szL Labels.sz x.enums) + (x.seqs.length + szL Seq.sz x.seqs) + (x.tables.length + szL Table.sz x.tables) + (x.indexes.length + szL Index.sz x.indexes) + (x.views.length + szL View.sz x.views) := rfl
set_option maxHeartbeats 4000000 in
theorem szPlan_ev (h : H125 Γ) (x : Plan) : x.Ok → ∀ l : Int, 0 ≤ l → l ≤ 1048576 → EvF Γ 125 [x.d, .int .i64 l] [] = some (.int .i64 (szR l x.sz), []) := by
  intro hok l hl0 hl1
  have hd := x.sz_def
  rw [EvF_run h.e125 rfl]
  have w0 := sz129_ev h.c129 x.enums hok.enums.1 Labels.sz (fun y hy l h0 h1 => szLabels_ev h.c129.c156 y (hok.enums.2 y hy) l h0 h1) (l) (by omega) (by omega)
  obtain ⟨A0, hA0⟩ : ∃ A : Nat, A = x.enums.length + szL Labels.sz x.enums := ⟨_, rfl⟩
  rw [← hA0] at w0
  by_cases p0 : ((A0 : Nat) : Int) ≤ l
  rotate_left
  · have hz : szR l x.sz = -1 := by
      simp only [szR]
      rw [if_neg (by omega)]
    rw [hz]
    have m0 : szR (l) (A0) = -1 := by simp only [szR]; rw [if_neg p0]
    rw [m0] at w0
    simp [f125, callIn_pure, w0]
  have m0 : szR (l) (A0) = l - ((A0 : Nat) : Int) := by simp only [szR]; rw [if_pos p0]
  rw [m0] at w0
  have q0 : ¬ l - ((A0 : Nat) : Int) < 0 := by omega
  have w1 := sz130_ev h.c130 x.seqs hok.seqs.1 Seq.sz (fun y hy l h0 h1 => szSeq_ev h.c130.c157 y (hok.seqs.2 y hy) l h0 h1) (l - ((A0 : Nat) : Int)) (by omega) (by omega)
  obtain ⟨A1, hA1⟩ : ∃ A : Nat, A = x.seqs.length + szL Seq.sz x.seqs := ⟨_, rfl⟩
  rw [← hA1] at w1
  by_cases p1 : ((A1 : Nat) : Int) ≤ l - ((A0 : Nat) : Int)
  rotate_left
  · have hz : szR l x.sz = -1 := by
      simp only [szR]
      rw [if_neg (by omega)]
    rw [hz]
    have m1 : szR (l - ((A0 : Nat) : Int)) (A1) = -1 := by simp only [szR]; rw [if_neg p1]
    rw [m1] at w1
    simp [f125, callIn_pure, w0, q0, w1]
  have m1 : szR (l - ((A0 : Nat) : Int)) (A1) = l - ((A0 : Nat) : Int) - ((A1 : Nat) : Int) := by simp only [szR]; rw [if_pos p1]
  rw [m1] at w1
  have q1 : ¬ l - ((A0 : Nat) : Int) - ((A1 : Nat) : Int) < 0 := by omega
  have w2 := sz131_ev h.c131 x.tables hok.tables.1 Table.sz (fun y hy l h0 h1 => szTable_ev h.c131.c158 y (hok.tables.2 y hy) l h0 h1) (l - ((A0 : Nat) : Int) - ((A1 : Nat) : Int)) (by omega) (by omega)
  obtain ⟨A2, hA2⟩ : ∃ A : Nat, A = x.tables.length + szL Table.sz x.tables := ⟨_, rfl⟩
  rw [← hA2] at w2
  by_cases p2 : ((A2 : Nat) : Int) ≤ l - ((A0 : Nat) : Int) - ((A1 : Nat) : Int)
  rotate_left
  · have hz : szR l x.sz = -1 := by
      simp only [szR]
      rw [if_neg (by omega)]
    rw [hz]
    have m2 : szR (l - ((A0 : Nat) : Int) - ((A1 : Nat) : Int)) (A2) = -1 := by simp only [szR]; rw [if_neg p2]
    rw [m2] at w2
    simp [f125, callIn_pure, w0, q0, w1, q1, w2]
  have m2 : szR (l - ((A0 : Nat) : Int) - ((A1 : Nat) : Int)) (A2) = l - ((A0 : Nat) : Int) - ((A1 : Nat) : Int) - ((A2 : Nat) : Int) := by simp only [szR]; rw [if_pos p2]
  rw [m2] at w2
  have q2 : ¬ l - ((A0 : Nat) : Int) - ((A1 : Nat) : Int) - ((A2 : Nat) : Int) < 0 := by omega
  have w3 := sz128_ev h.c128 x.indexes hok.indexes.1 Index.sz (fun y hy l h0 h1 => szIndex_ev h.c128.c159 y (hok.indexes.2 y hy) l h0 h1) (l - ((A0 : Nat) : Int) - ((A1 : Nat) : Int) - ((A2 : Nat) : Int)) (by omega) (by omega)
  obtain ⟨A3, hA3⟩ : ∃ A : Nat, A = x.indexes.length + szL Index.sz x.indexes := ⟨_, rfl⟩
  rw [← hA3] at w3
  by_cases p3 : ((A3 : Nat) : Int) ≤ l - ((A0 : Nat) : Int) - ((A1 : Nat) : Int) - ((A2 : Nat) : Int)
  rotate_left
  · have hz : szR l x.sz = -1 := by
      simp only [szR]
      rw [if_neg (by omega)]
    rw [hz]
    have m3 : szR (l - ((A0 : Nat) : Int) - ((A1 : Nat) : Int) - ((A2 : Nat) : Int)) (A3) = -1 := by simp only [szR]; rw [if_neg p3]
    rw [m3] at w3
    simp [f125, callIn_pure, w0, q0, w1, q1, w2, q2, w3]
  have m3 : szR (l - ((A0 : Nat) : Int) - ((A1 : Nat) : Int) - ((A2 : Nat) : Int)) (A3) = l - ((A0 : Nat) : Int) - ((A1 : Nat) : Int) - ((A2 : Nat) : Int) - ((A3 : Nat) : Int) := by simp only [szR]; rw [if_pos p3]
  rw [m3] at w3
  have q3 : ¬ l - ((A0 : Nat) : Int) - ((A1 : Nat) : Int) - ((A2 : Nat) : Int) - ((A3 : Nat) : Int) < 0 := by omega
  have w4 := sz132_ev h.c132 x.views hok.views.1 View.sz (fun y hy l h0 h1 => szView_ev h.c132.c160 y (hok.views.2 y hy) l h0 h1) (l - ((A0 : Nat) : Int) - ((A1 : Nat) : Int) - ((A2 : Nat) : Int) - ((A3 : Nat) : Int)) (by omega) (by omega)
  obtain ⟨A4, hA4⟩ : ∃ A : Nat, A = x.views.length + szL View.sz x.views := ⟨_, rfl⟩
  rw [← hA4] at w4
  by_cases p4 : ((A4 : Nat) : Int) ≤ l - ((A0 : Nat) : Int) - ((A1 : Nat) : Int) - ((A2 : Nat) : Int) - ((A3 : Nat) : Int)
  rotate_left
  · have hz : szR l x.sz = -1 := by
      simp only [szR]
      rw [if_neg (by omega)]
    rw [hz]
    have m4 : szR (l - ((A0 : Nat) : Int) - ((A1 : Nat) : Int) - ((A2 : Nat) : Int) - ((A3 : Nat) : Int)) (A4) = -1 := by simp only [szR]; rw [if_neg p4]
    rw [m4] at w4
    simp [f125, callIn_pure, w0, q0, w1, q1, w2, q2, w3, q3, w4]
  have m4 : szR (l - ((A0 : Nat) : Int) - ((A1 : Nat) : Int) - ((A2 : Nat) : Int) - ((A3 : Nat) : Int)) (A4) = l - ((A0 : Nat) : Int) - ((A1 : Nat) : Int) - ((A2 : Nat) : Int) - ((A3 : Nat) : Int) - ((A4 : Nat) : Int) := by simp only [szR]; rw [if_pos p4]
  rw [m4] at w4
  have q4 : ¬ l - ((A0 : Nat) : Int) - ((A1 : Nat) : Int) - ((A2 : Nat) : Int) - ((A3 : Nat) : Int) - ((A4 : Nat) : Int) < 0 := by omega
  have hz : szR l x.sz = l - ((A0 : Nat) : Int) - ((A1 : Nat) : Int) - ((A2 : Nat) : Int) - ((A3 : Nat) : Int) - ((A4 : Nat) : Int) := by
    simp only [szR]
    rw [if_pos (by omega)]
    omega
  rw [hz]
  simp [f125, callIn_pure, w0, q0, w1, q1, w2, q2, w3, q3, w4, q4]
set_option maxHeartbeats 4000000 in
theorem toPlan_ev (h : H126 Γ) (x : Plan) : x.sz ≤ 1048576 → EvF Γ 126 [x.d] [] = some (x.d, []) := by
  intro hs
  have hd := x.sz_def
  have t0 := to138_ev h.c138 x.enums (by omega) (fun y hy => toLabels_ev h.c138.c164 y (by have := szL_mem Labels.sz hy; omega))
  have t1 := to139_ev h.c139 x.seqs (by omega) (fun y hy => toSeq_ev h.c139.c165 y (by have := szL_mem Seq.sz hy; omega))
  have t2 := to140_ev h.c140 x.tables (by omega) (fun y hy => toTable_ev h.c140.c166 y (by have := szL_mem Table.sz hy; omega))
  have t3 := to137_ev h.c137 x.indexes (by omega) (fun y hy => toIndex_ev h.c137.c167 y (by have := szL_mem Index.sz hy; omega))
  have t4 := to141_ev h.c141 x.views (by omega) (fun y hy => toView_ev h.c141.c168 y (by have := szL_mem View.sz hy; omega))
  rw [EvF_run h.e126 rfl]
  simp [f126, callIn_pure, t0, t1, t2, t3, t4]
set_option maxHeartbeats 4000000 in
theorem eqPlan_ev (h : H124 Γ) (x : Plan) : x.Ok → ∀ y : Plan, EvF Γ 124 [x.d, y.d] [] = some (.bool (decide (x = y)), []) := by
  intro hok y
  rw [EvF_run h.e124 rfl]
  have g0 := eqs152_ev h.c152 x.enums y.enums hok.enums.1 (fun a ha b hb => eqLabels_ev h.c152.c175 a (hok.enums.2 a ha) b)
  by_cases q0 : x.enums = y.enums
  rotate_left
  · have hne : ¬ x = y := fun e => q0 (by rw [e])
    rw [decide_eq_false hne]
    rw [decide_eq_false q0] at g0
    simp [f124, callIn_pure, g0]
  rw [decide_eq_true q0] at g0
  have g1 := eqs153_ev h.c153 x.seqs y.seqs hok.seqs.1 (fun a ha b hb => eqSeq_ev h.c153.c176 a (hok.seqs.2 a ha) b)
  by_cases q1 : x.seqs = y.seqs
  rotate_left
  · have hne : ¬ x = y := fun e => q1 (by rw [e])
    rw [decide_eq_false hne]
    rw [decide_eq_false q1] at g1
    simp [f124, callIn_pure, g0, g1]
  rw [decide_eq_true q1] at g1
  have g2 := eqs154_ev h.c154 x.tables y.tables hok.tables.1 (fun a ha b hb => eqTable_ev h.c154.c177 a (hok.tables.2 a ha) b)
  by_cases q2 : x.tables = y.tables
  rotate_left
  · have hne : ¬ x = y := fun e => q2 (by rw [e])
    rw [decide_eq_false hne]
    rw [decide_eq_false q2] at g2
    simp [f124, callIn_pure, g0, g1, g2]
  rw [decide_eq_true q2] at g2
  have g3 := eqs151_ev h.c151 x.indexes y.indexes hok.indexes.1 (fun a ha b hb => eqIndex_ev h.c151.c178 a (hok.indexes.2 a ha) b)
  by_cases q3 : x.indexes = y.indexes
  rotate_left
  · have hne : ¬ x = y := fun e => q3 (by rw [e])
    rw [decide_eq_false hne]
    rw [decide_eq_false q3] at g3
    simp [f124, callIn_pure, g0, g1, g2, g3]
  rw [decide_eq_true q3] at g3
  have g4 := eqs155_ev h.c155 x.views y.views hok.views.1 (fun a ha b hb => eqView_ev h.c155.c179 a (hok.views.2 a ha) b)
  by_cases q4 : x.views = y.views
  rotate_left
  · have hne : ¬ x = y := fun e => q4 (by rw [e])
    rw [decide_eq_false hne]
    rw [decide_eq_false q4] at g4
    simp [f124, callIn_pure, g0, g1, g2, g3, g4]
  rw [decide_eq_true q4] at g4
  by_cases q5 : x.next = y.next
  rotate_left
  · have hne : ¬ x = y := fun e => q5 (by rw [e])
    rw [decide_eq_false hne]
    simp [f124, callIn_pure, g0, g1, g2, g3, g4, q5]
  have he : x = y := by
    cases x; cases y
    simp at q0 q1 q2 q3 q4 q5
    simp [q0, q1, q2, q3, q4, q5]
  rw [decide_eq_true he]
  simp [f124, callIn_pure, g0, g1, g2, g3, g4, q5]
end Go.DM
