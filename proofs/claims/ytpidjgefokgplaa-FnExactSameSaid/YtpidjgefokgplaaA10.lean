/- The laws' own sz, to and eq on the program's structs (printed by a program). -/
import Derived.Test.YtpidjgefokgplaaA4
set_option linter.unusedVariables false
set_option linter.unusedSimpArgs false
set_option linter.unnecessarySimpa false
namespace Go.DM
open Go
variable {Γ : Tab}
def Ty.sz (x : Ty) : Nat := x.name.length
theorem Ty.sz_def (x : Ty) : x.sz = x.name.length := rfl
set_option maxHeartbeats 4000000 in
theorem szTy_ev (h : H49 Γ) (x : Ty) : x.Ok → ∀ l : Int, 0 ≤ l → l ≤ 1048576 → EvF Γ 49 [x.d, .int .i64 l] [] = some (.int .i64 (szR l x.sz), []) := by
  intro hok l hl0 hl1
  have hd := x.sz_def
  rw [EvF_run h.e49 rfl]
  have ok0 := hok.name
  unfold StrOk at ok0
  have w0 : IntKind.wrap .i64 (l - (x.name.length : Int)) = l - (x.name.length : Int) := wrap64 (by omega) (by omega)
  by_cases p0 : ((x.name.length : Nat) : Int) ≤ l
  rotate_left
  · have hz : szR l x.sz = -1 := by
      simp only [szR]
      rw [if_neg (by omega)]
    rw [hz]
    have m0 : l - (x.name.length : Int) < 0 := by omega
    simp [f49, callIn_pure, w0, m0]
  have m0 : ¬ l - (x.name.length : Int) < 0 := by omega
  have hz : szR l x.sz = l - (x.name.length : Int) := by
    simp only [szR]
    rw [if_pos (by omega)]
    omega
  rw [hz]
  simp [f49, callIn_pure, w0, m0]
set_option maxHeartbeats 4000000 in
theorem toTy_ev (h : H56 Γ) (x : Ty) : x.sz ≤ 1048576 → EvF Γ 56 [x.d] [] = some (x.d, []) := by
  intro hs
  have hd := x.sz_def
  rw [EvF_run h.e56 rfl]
  simp [f56, callIn_pure]
set_option maxHeartbeats 4000000 in
theorem eqTy_ev (h : H70 Γ) (x : Ty) : x.Ok → ∀ y : Ty, EvF Γ 70 [x.d, y.d] [] = some (.bool (decide (x = y)), []) := by
  intro hok y
  rw [EvF_run h.e70 rfl]
  by_cases q0 : x.kind = y.kind
  rotate_left
  · have hne : ¬ x = y := fun e => q0 (by rw [e])
    rw [decide_eq_false hne]
    simp [f70, callIn_pure, q0]
  by_cases q1 : x.len = y.len
  rotate_left
  · have hne : ¬ x = y := fun e => q1 (by rw [e])
    rw [decide_eq_false hne]
    simp [f70, callIn_pure, q0, q1]
  by_cases q2 : x.name = y.name
  rotate_left
  · have hne : ¬ x = y := fun e => q2 (by rw [e])
    rw [decide_eq_false hne]
    simp [f70, callIn_pure, q0, q1, q2]
  have he : x = y := by
    cases x; cases y
    simp at q0 q1 q2
    simp [q0, q1, q2]
  rw [decide_eq_true he]
  simp [f70, callIn_pure, q0, q1, q2]
mutual
def Xp.sz : Xp → Nat
  | .mk _ t _ ks => t.length + (ks.length + Xp.szs ks)
def Xp.szs : List Xp → Nat
  | [] => 0
  | e :: es => Xp.sz e + Xp.szs es
end
theorem Xp.szs_eq (es : List Xp) : Xp.szs es = szL Xp.sz es := by
  induction es with
  | nil => rfl
  | cons e es ih => simp [Xp.szs, ih]
theorem Xp.sz_def (x : Xp) : x.sz = x.text.length + (x.kids.length + szL Xp.sz x.kids) := by cases x; simp [Xp.sz, Xp.szs_eq]
set_option maxHeartbeats 4000000 in
theorem szXp_ev (h : H86 Γ) (x : Xp) : x.Ok → ∀ l : Int, 0 ≤ l → l ≤ 1048576 → EvF Γ 86 [x.d, .int .i64 l] [] = some (.int .i64 (szR l x.sz), []) := by
  induction x using Xp.ind with
  | h x ih =>
  intro hok l hl0 hl1
  have hd := x.sz_def
  rw [EvF_run h.e86 rfl]
  have ok0 := hok.text
  unfold StrOk at ok0
  have w0 : IntKind.wrap .i64 (l - (x.text.length : Int)) = l - (x.text.length : Int) := wrap64 (by omega) (by omega)
  by_cases p0 : ((x.text.length : Nat) : Int) ≤ l
  rotate_left
  · have hz : szR l x.sz = -1 := by
      simp only [szR]
      rw [if_neg (by omega)]
    rw [hz]
    have m0 : l - (x.text.length : Int) < 0 := by omega
    simp [f86, callIn_pure, w0, m0]
  have m0 : ¬ l - (x.text.length : Int) < 0 := by omega
  have w1 := sz46_ev h x.kids hok.kids.1 Xp.sz (fun y hy l h0 h1 => ih y hy (hok.kids.2 y hy) l h0 h1) (l - (x.text.length : Int)) (by omega) (by omega)
  obtain ⟨A1, hA1⟩ : ∃ A : Nat, A = x.kids.length + szL Xp.sz x.kids := ⟨_, rfl⟩
  rw [← hA1] at w1
  by_cases p1 : ((A1 : Nat) : Int) ≤ l - (x.text.length : Int)
  rotate_left
  · have hz : szR l x.sz = -1 := by
      simp only [szR]
      rw [if_neg (by omega)]
    rw [hz]
    have m1 : szR (l - (x.text.length : Int)) (A1) = -1 := by simp only [szR]; rw [if_neg p1]
    rw [m1] at w1
    simp [f86, callIn_pure, w0, m0, w1]
  have m1 : szR (l - (x.text.length : Int)) (A1) = l - (x.text.length : Int) - ((A1 : Nat) : Int) := by simp only [szR]; rw [if_pos p1]
  rw [m1] at w1
  have q1 : ¬ l - (x.text.length : Int) - ((A1 : Nat) : Int) < 0 := by omega
  have hz : szR l x.sz = l - (x.text.length : Int) - ((A1 : Nat) : Int) := by
    simp only [szR]
    rw [if_pos (by omega)]
    omega
  rw [hz]
  simp [f86, callIn_pure, w0, m0, w1, q1]
set_option maxHeartbeats 4000000 in
theorem toXp_ev (h : H93 Γ) (x : Xp) : x.sz ≤ 1048576 → EvF Γ 93 [x.d] [] = some (x.d, []) := by
  induction x using Xp.ind with
  | h x ih =>
  intro hs
  have hd := x.sz_def
  have t3 := to53_ev h x.kids (by omega) (fun y hy => ih y hy (by have := szL_mem Xp.sz hy; omega))
  rw [EvF_run h.e93 rfl]
  simp [f93, callIn_pure, t3]
set_option maxHeartbeats 4000000 in
theorem eqXp_ev (h : H107 Γ) (x : Xp) : x.Ok → ∀ y : Xp, EvF Γ 107 [x.d, y.d] [] = some (.bool (decide (x = y)), []) := by
  induction x using Xp.ind with
  | h x ih =>
  intro hok y
  rw [EvF_run h.e107 rfl]
  by_cases q0 : x.kind = y.kind
  rotate_left
  · have hne : ¬ x = y := fun e => q0 (by rw [e])
    rw [decide_eq_false hne]
    simp [f107, callIn_pure, q0]
  by_cases q1 : x.text = y.text
  rotate_left
  · have hne : ¬ x = y := fun e => q1 (by rw [e])
    rw [decide_eq_false hne]
    simp [f107, callIn_pure, q0, q1]
  by_cases q2 : x.num = y.num
  rotate_left
  · have hne : ¬ x = y := fun e => q2 (by rw [e])
    rw [decide_eq_false hne]
    simp [f107, callIn_pure, q0, q1, q2]
  have g3 := eqs67_ev h x.kids y.kids hok.kids.1 (fun a ha b hb => ih a ha (hok.kids.2 a ha) b)
  by_cases q3 : x.kids = y.kids
  rotate_left
  · have hne : ¬ x = y := fun e => q3 (by rw [e])
    rw [decide_eq_false hne]
    rw [decide_eq_false q3] at g3
    simp [f107, callIn_pure, q0, q1, q2, g3]
  rw [decide_eq_true q3] at g3
  have he : x = y := by
    cases x; cases y
    simp at q0 q1 q2 q3
    simp [q0, q1, q2, q3]
  rw [decide_eq_true he]
  simp [f107, callIn_pure, q0, q1, q2, g3]
def Col.sz (x : Col) : Nat := x.name.length + x.ty.sz + (x.dflt.length + szL Xp.sz x.dflt)
theorem Col.sz_def (x : Col) : x.sz = x.name.length + x.ty.sz + (x.dflt.length + szL Xp.sz x.dflt) := rfl
set_option maxHeartbeats 4000000 in
theorem szCol_ev (h : H84 Γ) (x : Col) : x.Ok → ∀ l : Int, 0 ≤ l → l ≤ 1048576 → EvF Γ 84 [x.d, .int .i64 l] [] = some (.int .i64 (szR l x.sz), []) := by
  intro hok l hl0 hl1
  have hd := x.sz_def
  rw [EvF_run h.e84 rfl]
  have ok0 := hok.name
  unfold StrOk at ok0
  have w0 : IntKind.wrap .i64 (l - (x.name.length : Int)) = l - (x.name.length : Int) := wrap64 (by omega) (by omega)
  by_cases p0 : ((x.name.length : Nat) : Int) ≤ l
  rotate_left
  · have hz : szR l x.sz = -1 := by
      simp only [szR]
      rw [if_neg (by omega)]
    rw [hz]
    have m0 : l - (x.name.length : Int) < 0 := by omega
    simp [f84, callIn_pure, w0, m0]
  have m0 : ¬ l - (x.name.length : Int) < 0 := by omega
  have w1 := szTy_ev h.c49 x.ty hok.ty (l - (x.name.length : Int)) (by omega) (by omega)
  by_cases p1 : ((x.ty.sz : Nat) : Int) ≤ l - (x.name.length : Int)
  rotate_left
  · have hz : szR l x.sz = -1 := by
      simp only [szR]
      rw [if_neg (by omega)]
    rw [hz]
    have m1 : szR (l - (x.name.length : Int)) (x.ty.sz) = -1 := by simp only [szR]; rw [if_neg p1]
    rw [m1] at w1
    simp [f84, callIn_pure, w0, m0, w1]
  have m1 : szR (l - (x.name.length : Int)) (x.ty.sz) = l - (x.name.length : Int) - ((x.ty.sz : Nat) : Int) := by simp only [szR]; rw [if_pos p1]
  rw [m1] at w1
  have q1 : ¬ l - (x.name.length : Int) - ((x.ty.sz : Nat) : Int) < 0 := by omega
  have w2 := sz46_ev h.c46 x.dflt hok.dflt.1 Xp.sz (fun y hy l h0 h1 => szXp_ev h.c46 y (hok.dflt.2 y hy) l h0 h1) (l - (x.name.length : Int) - ((x.ty.sz : Nat) : Int)) (by omega) (by omega)
  obtain ⟨A2, hA2⟩ : ∃ A : Nat, A = x.dflt.length + szL Xp.sz x.dflt := ⟨_, rfl⟩
  rw [← hA2] at w2
  by_cases p2 : ((A2 : Nat) : Int) ≤ l - (x.name.length : Int) - ((x.ty.sz : Nat) : Int)
  rotate_left
  · have hz : szR l x.sz = -1 := by
      simp only [szR]
      rw [if_neg (by omega)]
    rw [hz]
    have m2 : szR (l - (x.name.length : Int) - ((x.ty.sz : Nat) : Int)) (A2) = -1 := by simp only [szR]; rw [if_neg p2]
    rw [m2] at w2
    simp [f84, callIn_pure, w0, m0, w1, q1, w2]
  have m2 : szR (l - (x.name.length : Int) - ((x.ty.sz : Nat) : Int)) (A2) = l - (x.name.length : Int) - ((x.ty.sz : Nat) : Int) - ((A2 : Nat) : Int) := by simp only [szR]; rw [if_pos p2]
  rw [m2] at w2
  have q2 : ¬ l - (x.name.length : Int) - ((x.ty.sz : Nat) : Int) - ((A2 : Nat) : Int) < 0 := by omega
  have hz : szR l x.sz = l - (x.name.length : Int) - ((x.ty.sz : Nat) : Int) - ((A2 : Nat) : Int) := by
    simp only [szR]
    rw [if_pos (by omega)]
    omega
  rw [hz]
  simp [f84, callIn_pure, w0, m0, w1, q1, w2, q2]
set_option maxHeartbeats 4000000 in
theorem toCol_ev (h : H91 Γ) (x : Col) : x.sz ≤ 1048576 → EvF Γ 91 [x.d] [] = some (x.d, []) := by
  intro hs
  have hd := x.sz_def
  have t1 := toTy_ev h.c56 x.ty (by omega)
  have t3 := to53_ev h.c53 x.dflt (by omega) (fun y hy => toXp_ev h.c53 y (by have := szL_mem Xp.sz hy; omega))
  rw [EvF_run h.e91 rfl]
  simp [f91, callIn_pure, t1, t3]
set_option maxHeartbeats 4000000 in
theorem eqCol_ev (h : H105 Γ) (x : Col) : x.Ok → ∀ y : Col, EvF Γ 105 [x.d, y.d] [] = some (.bool (decide (x = y)), []) := by
  intro hok y
  rw [EvF_run h.e105 rfl]
  by_cases q0 : x.name = y.name
  rotate_left
  · have hne : ¬ x = y := fun e => q0 (by rw [e])
    rw [decide_eq_false hne]
    simp [f105, callIn_pure, q0]
  have g1 := eqTy_ev h.c70 x.ty hok.ty y.ty
  by_cases q1 : x.ty = y.ty
  rotate_left
  · have hne : ¬ x = y := fun e => q1 (by rw [e])
    rw [decide_eq_false hne]
    rw [decide_eq_false q1] at g1
    simp [f105, callIn_pure, q0, g1]
  rw [decide_eq_true q1] at g1
  by_cases q2 : x.notNull = y.notNull
  rotate_left
  · have hne : ¬ x = y := fun e => q2 (by rw [e])
    rw [decide_eq_false hne]
    simp [f105, callIn_pure, q0, g1, q2]
  have g3 := eqs67_ev h.c67 x.dflt y.dflt hok.dflt.1 (fun a ha b hb => eqXp_ev h.c67 a (hok.dflt.2 a ha) b)
  by_cases q3 : x.dflt = y.dflt
  rotate_left
  · have hne : ¬ x = y := fun e => q3 (by rw [e])
    rw [decide_eq_false hne]
    rw [decide_eq_false q3] at g3
    simp [f105, callIn_pure, q0, g1, q2, g3]
  rw [decide_eq_true q3] at g3
  have he : x = y := by
    cases x; cases y
    simp at q0 q1 q2 q3
    simp [q0, q1, q2, q3]
  rw [decide_eq_true he]
  simp [f105, callIn_pure, q0, g1, q2, g3]
def Rule.sz (x : Rule) : Nat := x.name.length + (x.cols.length + szL List.length x.cols) + (x.expr.length + szL Xp.sz x.expr) + x.table.length + (x.to.length + szL List.length x.to)
theorem Rule.sz_def (x : Rule) : x.sz = x.name.length + (x.cols.length + szL List.length x.cols) + (x.expr.length + szL Xp.sz x.expr) + x.table.length + (x.to.length + szL List.length x.to) := rfl
set_option maxHeartbeats 4000000 in
theorem szRule_ev (h : H85 Γ) (x : Rule) : x.Ok → ∀ l : Int, 0 ≤ l → l ≤ 1048576 → EvF Γ 85 [x.d, .int .i64 l] [] = some (.int .i64 (szR l x.sz), []) := by
  intro hok l hl0 hl1
  have hd := x.sz_def
  rw [EvF_run h.e85 rfl]
  have ok0 := hok.name
  unfold StrOk at ok0
  have w0 : IntKind.wrap .i64 (l - (x.name.length : Int)) = l - (x.name.length : Int) := wrap64 (by omega) (by omega)
  by_cases p0 : ((x.name.length : Nat) : Int) ≤ l
  rotate_left
  · have hz : szR l x.sz = -1 := by
      simp only [szR]
      rw [if_neg (by omega)]
    rw [hz]
    have m0 : l - (x.name.length : Int) < 0 := by omega
    simp [f85, callIn_pure, w0, m0]
  have m0 : ¬ l - (x.name.length : Int) < 0 := by omega
  have w1 := sz48_ev h.c48 x.cols hok.cols.1 hok.cols.2 (l - (x.name.length : Int)) (by omega) (by omega)
  obtain ⟨A1, hA1⟩ : ∃ A : Nat, A = x.cols.length + szL List.length x.cols := ⟨_, rfl⟩
  rw [← hA1] at w1
  by_cases p1 : ((A1 : Nat) : Int) ≤ l - (x.name.length : Int)
  rotate_left
  · have hz : szR l x.sz = -1 := by
      simp only [szR]
      rw [if_neg (by omega)]
    rw [hz]
    have m1 : szR (l - (x.name.length : Int)) (A1) = -1 := by simp only [szR]; rw [if_neg p1]
    rw [m1] at w1
    simp [f85, callIn_pure, w0, m0, w1]
  have m1 : szR (l - (x.name.length : Int)) (A1) = l - (x.name.length : Int) - ((A1 : Nat) : Int) := by simp only [szR]; rw [if_pos p1]
  rw [m1] at w1
  have q1 : ¬ l - (x.name.length : Int) - ((A1 : Nat) : Int) < 0 := by omega
  have w2 := sz46_ev h.c46 x.expr hok.expr.1 Xp.sz (fun y hy l h0 h1 => szXp_ev h.c46 y (hok.expr.2 y hy) l h0 h1) (l - (x.name.length : Int) - ((A1 : Nat) : Int)) (by omega) (by omega)
  obtain ⟨A2, hA2⟩ : ∃ A : Nat, A = x.expr.length + szL Xp.sz x.expr := ⟨_, rfl⟩
  rw [← hA2] at w2
  by_cases p2 : ((A2 : Nat) : Int) ≤ l - (x.name.length : Int) - ((A1 : Nat) : Int)
  rotate_left
  · have hz : szR l x.sz = -1 := by
      simp only [szR]
      rw [if_neg (by omega)]
    rw [hz]
    have m2 : szR (l - (x.name.length : Int) - ((A1 : Nat) : Int)) (A2) = -1 := by simp only [szR]; rw [if_neg p2]
    rw [m2] at w2
    simp [f85, callIn_pure, w0, m0, w1, q1, w2]
  have m2 : szR (l - (x.name.length : Int) - ((A1 : Nat) : Int)) (A2) = l - (x.name.length : Int) - ((A1 : Nat) : Int) - ((A2 : Nat) : Int) := by simp only [szR]; rw [if_pos p2]
  rw [m2] at w2
  have q2 : ¬ l - (x.name.length : Int) - ((A1 : Nat) : Int) - ((A2 : Nat) : Int) < 0 := by omega
  have ok3 := hok.table
  unfold StrOk at ok3
  have w3 : IntKind.wrap .i64 (l - (x.name.length : Int) - ((A1 : Nat) : Int) - ((A2 : Nat) : Int) - (x.table.length : Int)) = l - (x.name.length : Int) - ((A1 : Nat) : Int) - ((A2 : Nat) : Int) - (x.table.length : Int) := wrap64 (by omega) (by omega)
  by_cases p3 : ((x.table.length : Nat) : Int) ≤ l - (x.name.length : Int) - ((A1 : Nat) : Int) - ((A2 : Nat) : Int)
  rotate_left
  · have hz : szR l x.sz = -1 := by
      simp only [szR]
      rw [if_neg (by omega)]
    rw [hz]
    have m3 : l - (x.name.length : Int) - ((A1 : Nat) : Int) - ((A2 : Nat) : Int) - (x.table.length : Int) < 0 := by omega
    simp [f85, callIn_pure, w0, m0, w1, q1, w2, q2, w3, m3]
  have m3 : ¬ l - (x.name.length : Int) - ((A1 : Nat) : Int) - ((A2 : Nat) : Int) - (x.table.length : Int) < 0 := by omega
  have w4 := sz48_ev h.c48 x.to hok.to.1 hok.to.2 (l - (x.name.length : Int) - ((A1 : Nat) : Int) - ((A2 : Nat) : Int) - (x.table.length : Int)) (by omega) (by omega)
  obtain ⟨A4, hA4⟩ : ∃ A : Nat, A = x.to.length + szL List.length x.to := ⟨_, rfl⟩
  rw [← hA4] at w4
  by_cases p4 : ((A4 : Nat) : Int) ≤ l - (x.name.length : Int) - ((A1 : Nat) : Int) - ((A2 : Nat) : Int) - (x.table.length : Int)
  rotate_left
  · have hz : szR l x.sz = -1 := by
      simp only [szR]
      rw [if_neg (by omega)]
    rw [hz]
    have m4 : szR (l - (x.name.length : Int) - ((A1 : Nat) : Int) - ((A2 : Nat) : Int) - (x.table.length : Int)) (A4) = -1 := by simp only [szR]; rw [if_neg p4]
    rw [m4] at w4
    simp [f85, callIn_pure, w0, m0, w1, q1, w2, q2, w3, m3, w4]
  have m4 : szR (l - (x.name.length : Int) - ((A1 : Nat) : Int) - ((A2 : Nat) : Int) - (x.table.length : Int)) (A4) = l - (x.name.length : Int) - ((A1 : Nat) : Int) - ((A2 : Nat) : Int) - (x.table.length : Int) - ((A4 : Nat) : Int) := by simp only [szR]; rw [if_pos p4]
  rw [m4] at w4
  have q4 : ¬ l - (x.name.length : Int) - ((A1 : Nat) : Int) - ((A2 : Nat) : Int) - (x.table.length : Int) - ((A4 : Nat) : Int) < 0 := by omega
  have hz : szR l x.sz = l - (x.name.length : Int) - ((A1 : Nat) : Int) - ((A2 : Nat) : Int) - (x.table.length : Int) - ((A4 : Nat) : Int) := by
    simp only [szR]
    rw [if_pos (by omega)]
    omega
  rw [hz]
  simp [f85, callIn_pure, w0, m0, w1, q1, w2, q2, w3, m3, w4, q4]
set_option maxHeartbeats 4000000 in
theorem toRule_ev (h : H92 Γ) (x : Rule) : x.sz ≤ 1048576 → EvF Γ 92 [x.d] [] = some (x.d, []) := by
  intro hs
  have hd := x.sz_def
  have t2 := to55_ev h.c55 x.cols (by omega)
  have t3 := to53_ev h.c53 x.expr (by omega) (fun y hy => toXp_ev h.c53 y (by have := szL_mem Xp.sz hy; omega))
  have t5 := to55_ev h.c55 x.to (by omega)
  rw [EvF_run h.e92 rfl]
  simp [f92, callIn_pure, t2, t3, t5]
set_option maxHeartbeats 4000000 in
theorem eqRule_ev (h : H106 Γ) (x : Rule) : x.Ok → ∀ y : Rule, EvF Γ 106 [x.d, y.d] [] = some (.bool (decide (x = y)), []) := by
  intro hok y
  rw [EvF_run h.e106 rfl]
  by_cases q0 : x.name = y.name
  rotate_left
  · have hne : ¬ x = y := fun e => q0 (by rw [e])
    rw [decide_eq_false hne]
    simp [f106, callIn_pure, q0]
  by_cases q1 : x.kind = y.kind
  rotate_left
  · have hne : ¬ x = y := fun e => q1 (by rw [e])
    rw [decide_eq_false hne]
    simp [f106, callIn_pure, q0, q1]
  have g2 := eqs69_ev h.c69 x.cols y.cols hok.cols.1
  by_cases q2 : x.cols = y.cols
  rotate_left
  · have hne : ¬ x = y := fun e => q2 (by rw [e])
    rw [decide_eq_false hne]
    rw [decide_eq_false q2] at g2
    simp [f106, callIn_pure, q0, q1, g2]
  rw [decide_eq_true q2] at g2
  have g3 := eqs67_ev h.c67 x.expr y.expr hok.expr.1 (fun a ha b hb => eqXp_ev h.c67 a (hok.expr.2 a ha) b)
  by_cases q3 : x.expr = y.expr
  rotate_left
  · have hne : ¬ x = y := fun e => q3 (by rw [e])
    rw [decide_eq_false hne]
    rw [decide_eq_false q3] at g3
    simp [f106, callIn_pure, q0, q1, g2, g3]
  rw [decide_eq_true q3] at g3
  by_cases q4 : x.table = y.table
  rotate_left
  · have hne : ¬ x = y := fun e => q4 (by rw [e])
    rw [decide_eq_false hne]
    simp [f106, callIn_pure, q0, q1, g2, g3, q4]
  have g5 := eqs69_ev h.c69 x.to y.to hok.to.1
  by_cases q5 : x.to = y.to
  rotate_left
  · have hne : ¬ x = y := fun e => q5 (by rw [e])
    rw [decide_eq_false hne]
    rw [decide_eq_false q5] at g5
    simp [f106, callIn_pure, q0, q1, g2, g3, q4, g5]
  rw [decide_eq_true q5] at g5
  have he : x = y := by
    cases x; cases y
    simp at q0 q1 q2 q3 q4 q5
    simp [q0, q1, q2, q3, q4, q5]
  rw [decide_eq_true he]
  simp [f106, callIn_pure, q0, q1, g2, g3, q4, g5]
def Stmt.sz (x : Stmt) : Nat := x.name.length + x.on.length + (x.list.length + szL List.length x.list) + x.ty.sz + (x.cols.length + szL Col.sz x.cols) + (x.rules.length + szL Rule.sz x.rules) + (x.exprs.length + szL Xp.sz x.exprs)
theorem Stmt.sz_def (x : Stmt) : x.sz = x.name.length + x.on.length + (x.list.length + szL List.length x.list) + x.ty.sz + (x.cols.length + szL Col.sz x.cols) + (x.rules.length + szL Rule.sz x.rules) + (x.exprs.length + szL Xp.sz x.exprs) := rfl
set_option maxHeartbeats 4000000 in
theorem szStmt_ev (h : H25 Γ) (x : Stmt) : x.Ok → ∀ l : Int, 0 ≤ l → l ≤ 1048576 → EvF Γ 25 [x.d, .int .i64 l] [] = some (.int .i64 (szR l x.sz), []) := by
  intro hok l hl0 hl1
  have hd := x.sz_def
  rw [EvF_run h.e25 rfl]
  have ok0 := hok.name
  unfold StrOk at ok0
  have w0 : IntKind.wrap .i64 (l - (x.name.length : Int)) = l - (x.name.length : Int) := wrap64 (by omega) (by omega)
  by_cases p0 : ((x.name.length : Nat) : Int) ≤ l
  rotate_left
  · have hz : szR l x.sz = -1 := by
      simp only [szR]
      rw [if_neg (by omega)]
    rw [hz]
    have m0 : l - (x.name.length : Int) < 0 := by omega
    simp [f25, callIn_pure, w0, m0]
  have m0 : ¬ l - (x.name.length : Int) < 0 := by omega
  have ok1 := hok.on
  unfold StrOk at ok1
  have w1 : IntKind.wrap .i64 (l - (x.name.length : Int) - (x.on.length : Int)) = l - (x.name.length : Int) - (x.on.length : Int) := wrap64 (by omega) (by omega)
  by_cases p1 : ((x.on.length : Nat) : Int) ≤ l - (x.name.length : Int)
  rotate_left
  · have hz : szR l x.sz = -1 := by
      simp only [szR]
      rw [if_neg (by omega)]
    rw [hz]
    have m1 : l - (x.name.length : Int) - (x.on.length : Int) < 0 := by omega
    simp [f25, callIn_pure, w0, m0, w1, m1]
  have m1 : ¬ l - (x.name.length : Int) - (x.on.length : Int) < 0 := by omega
  have w2 := sz48_ev h.c48 x.list hok.list.1 hok.list.2 (l - (x.name.length : Int) - (x.on.length : Int)) (by omega) (by omega)
  obtain ⟨A2, hA2⟩ : ∃ A : Nat, A = x.list.length + szL List.length x.list := ⟨_, rfl⟩
  rw [← hA2] at w2
  by_cases p2 : ((A2 : Nat) : Int) ≤ l - (x.name.length : Int) - (x.on.length : Int)
  rotate_left
  · have hz : szR l x.sz = -1 := by
      simp only [szR]
      rw [if_neg (by omega)]
    rw [hz]
    have m2 : szR (l - (x.name.length : Int) - (x.on.length : Int)) (A2) = -1 := by simp only [szR]; rw [if_neg p2]
    rw [m2] at w2
    simp [f25, callIn_pure, w0, m0, w1, m1, w2]
  have m2 : szR (l - (x.name.length : Int) - (x.on.length : Int)) (A2) = l - (x.name.length : Int) - (x.on.length : Int) - ((A2 : Nat) : Int) := by simp only [szR]; rw [if_pos p2]
  rw [m2] at w2
  have q2 : ¬ l - (x.name.length : Int) - (x.on.length : Int) - ((A2 : Nat) : Int) < 0 := by omega
  have w3 := szTy_ev h.c49 x.ty hok.ty (l - (x.name.length : Int) - (x.on.length : Int) - ((A2 : Nat) : Int)) (by omega) (by omega)
  by_cases p3 : ((x.ty.sz : Nat) : Int) ≤ l - (x.name.length : Int) - (x.on.length : Int) - ((A2 : Nat) : Int)
  rotate_left
  · have hz : szR l x.sz = -1 := by
      simp only [szR]
      rw [if_neg (by omega)]
    rw [hz]
    have m3 : szR (l - (x.name.length : Int) - (x.on.length : Int) - ((A2 : Nat) : Int)) (x.ty.sz) = -1 := by simp only [szR]; rw [if_neg p3]
    rw [m3] at w3
    simp [f25, callIn_pure, w0, m0, w1, m1, w2, q2, w3]
  have m3 : szR (l - (x.name.length : Int) - (x.on.length : Int) - ((A2 : Nat) : Int)) (x.ty.sz) = l - (x.name.length : Int) - (x.on.length : Int) - ((A2 : Nat) : Int) - ((x.ty.sz : Nat) : Int) := by simp only [szR]; rw [if_pos p3]
  rw [m3] at w3
  have q3 : ¬ l - (x.name.length : Int) - (x.on.length : Int) - ((A2 : Nat) : Int) - ((x.ty.sz : Nat) : Int) < 0 := by omega
  have w4 := sz45_ev h.c45 x.cols hok.cols.1 Col.sz (fun y hy l h0 h1 => szCol_ev h.c45.c84 y (hok.cols.2 y hy) l h0 h1) (l - (x.name.length : Int) - (x.on.length : Int) - ((A2 : Nat) : Int) - ((x.ty.sz : Nat) : Int)) (by omega) (by omega)
  obtain ⟨A4, hA4⟩ : ∃ A : Nat, A = x.cols.length + szL Col.sz x.cols := ⟨_, rfl⟩
  rw [← hA4] at w4
  by_cases p4 : ((A4 : Nat) : Int) ≤ l - (x.name.length : Int) - (x.on.length : Int) - ((A2 : Nat) : Int) - ((x.ty.sz : Nat) : Int)
  rotate_left
  · have hz : szR l x.sz = -1 := by
      simp only [szR]
      rw [if_neg (by omega)]
    rw [hz]
    have m4 : szR (l - (x.name.length : Int) - (x.on.length : Int) - ((A2 : Nat) : Int) - ((x.ty.sz : Nat) : Int)) (A4) = -1 := by simp only [szR]; rw [if_neg p4]
    rw [m4] at w4
    simp [f25, callIn_pure, w0, m0, w1, m1, w2, q2, w3, q3, w4]
  have m4 : szR (l - (x.name.length : Int) - (x.on.length : Int) - ((A2 : Nat) : Int) - ((x.ty.sz : Nat) : Int)) (A4) = l - (x.name.length : Int) - (x.on.length : Int) - ((A2 : Nat) : Int) - ((x.ty.sz : Nat) : Int) - ((A4 : Nat) : Int) := by simp only [szR]; rw [if_pos p4]
  rw [m4] at w4
  have q4 : ¬ l - (x.name.length : Int) - (x.on.length : Int) - ((A2 : Nat) : Int) - ((x.ty.sz : Nat) : Int) - ((A4 : Nat) : Int) < 0 := by omega
  have w5 := sz47_ev h.c47 x.rules hok.rules.1 Rule.sz (fun y hy l h0 h1 => szRule_ev h.c47.c85 y (hok.rules.2 y hy) l h0 h1) (l - (x.name.length : Int) - (x.on.length : Int) - ((A2 : Nat) : Int) - ((x.ty.sz : Nat) : Int) - ((A4 : Nat) : Int)) (by omega) (by omega)
  obtain ⟨A5, hA5⟩ : ∃ A : Nat, A = x.rules.length + szL Rule.sz x.rules := ⟨_, rfl⟩
  rw [← hA5] at w5
  by_cases p5 : ((A5 : Nat) : Int) ≤ l - (x.name.length : Int) - (x.on.length : Int) - ((A2 : Nat) : Int) - ((x.ty.sz : Nat) : Int) - ((A4 : Nat) : Int)
  rotate_left
  · have hz : szR l x.sz = -1 := by
      simp only [szR]
      rw [if_neg (by omega)]
    rw [hz]
    have m5 : szR (l - (x.name.length : Int) - (x.on.length : Int) - ((A2 : Nat) : Int) - ((x.ty.sz : Nat) : Int) - ((A4 : Nat) : Int)) (A5) = -1 := by simp only [szR]; rw [if_neg p5]
    rw [m5] at w5
    simp [f25, callIn_pure, w0, m0, w1, m1, w2, q2, w3, q3, w4, q4, w5]
  have m5 : szR (l - (x.name.length : Int) - (x.on.length : Int) - ((A2 : Nat) : Int) - ((x.ty.sz : Nat) : Int) - ((A4 : Nat) : Int)) (A5) = l - (x.name.length : Int) - (x.on.length : Int) - ((A2 : Nat) : Int) - ((x.ty.sz : Nat) : Int) - ((A4 : Nat) : Int) - ((A5 : Nat) : Int) := by simp only [szR]; rw [if_pos p5]
  rw [m5] at w5
  have q5 : ¬ l - (x.name.length : Int) - (x.on.length : Int) - ((A2 : Nat) : Int) - ((x.ty.sz : Nat) : Int) - ((A4 : Nat) : Int) - ((A5 : Nat) : Int) < 0 := by omega
  have w6 := sz46_ev h.c46 x.exprs hok.exprs.1 Xp.sz (fun y hy l h0 h1 => szXp_ev h.c46 y (hok.exprs.2 y hy) l h0 h1) (l - (x.name.length : Int) - (x.on.length : Int) - ((A2 : Nat) : Int) - ((x.ty.sz : Nat) : Int) - ((A4 : Nat) : Int) - ((A5 : Nat) : Int)) (by omega) (by omega)
  obtain ⟨A6, hA6⟩ : ∃ A : Nat, A = x.exprs.length + szL Xp.sz x.exprs := ⟨_, rfl⟩
  rw [← hA6] at w6
  by_cases p6 : ((A6 : Nat) : Int) ≤ l - (x.name.length : Int) - (x.on.length : Int) - ((A2 : Nat) : Int) - ((x.ty.sz : Nat) : Int) - ((A4 : Nat) : Int) - ((A5 : Nat) : Int)
  rotate_left
  · have hz : szR l x.sz = -1 := by
      simp only [szR]
      rw [if_neg (by omega)]
    rw [hz]
    have m6 : szR (l - (x.name.length : Int) - (x.on.length : Int) - ((A2 : Nat) : Int) - ((x.ty.sz : Nat) : Int) - ((A4 : Nat) : Int) - ((A5 : Nat) : Int)) (A6) = -1 := by simp only [szR]; rw [if_neg p6]
    rw [m6] at w6
    simp [f25, callIn_pure, w0, m0, w1, m1, w2, q2, w3, q3, w4, q4, w5, q5, w6]
  have m6 : szR (l - (x.name.length : Int) - (x.on.length : Int) - ((A2 : Nat) : Int) - ((x.ty.sz : Nat) : Int) - ((A4 : Nat) : Int) - ((A5 : Nat) : Int)) (A6) = l - (x.name.length : Int) - (x.on.length : Int) - ((A2 : Nat) : Int) - ((x.ty.sz : Nat) : Int) - ((A4 : Nat) : Int) - ((A5 : Nat) : Int) - ((A6 : Nat) : Int) := by simp only [szR]; rw [if_pos p6]
  rw [m6] at w6
  have q6 : ¬ l - (x.name.length : Int) - (x.on.length : Int) - ((A2 : Nat) : Int) - ((x.ty.sz : Nat) : Int) - ((A4 : Nat) : Int) - ((A5 : Nat) : Int) - ((A6 : Nat) : Int) < 0 := by omega
  have hz : szR l x.sz = l - (x.name.length : Int) - (x.on.length : Int) - ((A2 : Nat) : Int) - ((x.ty.sz : Nat) : Int) - ((A4 : Nat) : Int) - ((A5 : Nat) : Int) - ((A6 : Nat) : Int) := by
    simp only [szR]
    rw [if_pos (by omega)]
    omega
  rw [hz]
  simp [f25, callIn_pure, w0, m0, w1, m1, w2, q2, w3, q3, w4, q4, w5, q5, w6, q6]
set_option maxHeartbeats 4000000 in
theorem toStmt_ev (h : H26 Γ) (x : Stmt) : x.sz ≤ 1048576 → EvF Γ 26 [x.d] [] = some (x.d, []) := by
  intro hs
  have hd := x.sz_def
  have t3 := to55_ev h.c55 x.list (by omega)
  have t6 := toTy_ev h.c56 x.ty (by omega)
  have t7 := to52_ev h.c52 x.cols (by omega) (fun y hy => toCol_ev h.c52.c91 y (by have := szL_mem Col.sz hy; omega))
  have t8 := to54_ev h.c54 x.rules (by omega) (fun y hy => toRule_ev h.c54.c92 y (by have := szL_mem Rule.sz hy; omega))
  have t9 := to53_ev h.c53 x.exprs (by omega) (fun y hy => toXp_ev h.c53 y (by have := szL_mem Xp.sz hy; omega))
  rw [EvF_run h.e26 rfl]
  simp [f26, callIn_pure, t3, t6, t7, t8, t9]
set_option maxHeartbeats 4000000 in
theorem eqStmt_ev (h : H24 Γ) (x : Stmt) : x.Ok → ∀ y : Stmt, EvF Γ 24 [x.d, y.d] [] = some (.bool (decide (x = y)), []) := by
  intro hok y
  rw [EvF_run h.e24 rfl]
  by_cases q0 : x.kind = y.kind
  rotate_left
  · have hne : ¬ x = y := fun e => q0 (by rw [e])
    rw [decide_eq_false hne]
    simp [f24, callIn_pure, q0]
  by_cases q1 : x.name = y.name
  rotate_left
  · have hne : ¬ x = y := fun e => q1 (by rw [e])
    rw [decide_eq_false hne]
    simp [f24, callIn_pure, q0, q1]
  by_cases q2 : x.on = y.on
  rotate_left
  · have hne : ¬ x = y := fun e => q2 (by rw [e])
    rw [decide_eq_false hne]
    simp [f24, callIn_pure, q0, q1, q2]
  have g3 := eqs69_ev h.c69 x.list y.list hok.list.1
  by_cases q3 : x.list = y.list
  rotate_left
  · have hne : ¬ x = y := fun e => q3 (by rw [e])
    rw [decide_eq_false hne]
    rw [decide_eq_false q3] at g3
    simp [f24, callIn_pure, q0, q1, q2, g3]
  rw [decide_eq_true q3] at g3
  by_cases q4 : x.num = y.num
  rotate_left
  · have hne : ¬ x = y := fun e => q4 (by rw [e])
    rw [decide_eq_false hne]
    simp [f24, callIn_pure, q0, q1, q2, g3, q4]
  by_cases q5 : x.flag = y.flag
  rotate_left
  · have hne : ¬ x = y := fun e => q5 (by rw [e])
    rw [decide_eq_false hne]
    simp [f24, callIn_pure, q0, q1, q2, g3, q4, q5]
  have g6 := eqTy_ev h.c70 x.ty hok.ty y.ty
  by_cases q6 : x.ty = y.ty
  rotate_left
  · have hne : ¬ x = y := fun e => q6 (by rw [e])
    rw [decide_eq_false hne]
    rw [decide_eq_false q6] at g6
    simp [f24, callIn_pure, q0, q1, q2, g3, q4, q5, g6]
  rw [decide_eq_true q6] at g6
  have g7 := eqs66_ev h.c66 x.cols y.cols hok.cols.1 (fun a ha b hb => eqCol_ev h.c66.c105 a (hok.cols.2 a ha) b)
  by_cases q7 : x.cols = y.cols
  rotate_left
  · have hne : ¬ x = y := fun e => q7 (by rw [e])
    rw [decide_eq_false hne]
    rw [decide_eq_false q7] at g7
    simp [f24, callIn_pure, q0, q1, q2, g3, q4, q5, g6, g7]
  rw [decide_eq_true q7] at g7
  have g8 := eqs68_ev h.c68 x.rules y.rules hok.rules.1 (fun a ha b hb => eqRule_ev h.c68.c106 a (hok.rules.2 a ha) b)
  by_cases q8 : x.rules = y.rules
  rotate_left
  · have hne : ¬ x = y := fun e => q8 (by rw [e])
    rw [decide_eq_false hne]
    rw [decide_eq_false q8] at g8
    simp [f24, callIn_pure, q0, q1, q2, g3, q4, q5, g6, g7, g8]
  rw [decide_eq_true q8] at g8
  have g9 := eqs67_ev h.c67 x.exprs y.exprs hok.exprs.1 (fun a ha b hb => eqXp_ev h.c67 a (hok.exprs.2 a ha) b)
  by_cases q9 : x.exprs = y.exprs
  rotate_left
  · have hne : ¬ x = y := fun e => q9 (by rw [e])
    rw [decide_eq_false hne]
    rw [decide_eq_false q9] at g9
    simp [f24, callIn_pure, q0, q1, q2, g3, q4, q5, g6, g7, g8, g9]
  rw [decide_eq_true q9] at g9
  have he : x = y := by
    cases x; cases y
    simp at q0 q1 q2 q3 q4 q5 q6 q7 q8 q9
    simp [q0, q1, q2, q3, q4, q5, q6, q7, q8, q9]
  rw [decide_eq_true he]
  simp [f24, callIn_pure, q0, q1, q2, g3, q4, q5, g6, g7, g8, g9]
end Go.DM
