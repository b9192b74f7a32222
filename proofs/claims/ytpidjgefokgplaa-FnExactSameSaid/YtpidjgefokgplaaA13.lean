/- Same: both tell whether two plans are alike (printed by a program). -/
import Derived.Test.YtpidjgefokgplaaA12
set_option linter.unusedVariables false
set_option linter.unusedSimpArgs false
set_option linter.unnecessarySimpa false
namespace Go.DM
open Go
variable {Γ : Tab}
theorem L133_1 (xs ys : List Str) (hl : xs.length ≤ 9223372036854775807) (hxy : xs.length = ys.length) {ρ : Env} (hρ : keepOnly [0, 1, 5] ρ = [(0, .list (xs.map .str)), (1, .list (ys.map .str)), (5, .int .i64 0)]) :
    inBlk 0 [] (EvC Γ f133L1 ρ []) = if ((xs.zip ys).all fun q => decide (q.1 = q.2)) = true then some (.norm, [], []) else some (.ret, [(4, .bool false)], []) := by
  have hzl : (xs.zip ys).length = xs.length := by simp [hxy]
  have key := loop_list (Γ := Γ) (L := f133L1) rfl (inBlk 0 []) (xs.zip ys) (fun i (_ : Unit) => [(0, .list (xs.map .str)), (1, .list (ys.map .str)), (5, .int .i64 i)]) (fun _ _ => ([] : Store)) (fun _ r _ => if (r.all fun q => decide (q.1 = q.2)) = true then some (.norm, [], []) else some (.ret, [(4, .bool false)], [])) ?_ ?_ () ρ hρ
  · exact key
  · intro _; simp [f133l1, hzl]
  · intro i q r _ hx hi hr ih
    have hix : i < xs.length := by omega
    have hw := wrap64_succ hix hl
    have hi' : (i : Int) < xs.length := by omega
    have hx1 : xs[i]? = some q.1 := by
      have := congrArg (Option.map Prod.fst) hx
      rw [← List.getElem?_map, List.map_fst_zip (by omega)] at this
      simpa using this
    have hy1 : ys[i]? = some q.2 := by
      have := congrArg (Option.map Prod.snd) hx
      rw [← List.getElem?_map, List.map_snd_zip (by omega)] at this
      simpa using this
    by_cases hb : q.1 = q.2
    · have ih := ih ()
      simp only [List.all_cons, hb, decide_true, Bool.true_and]
      simp [f133l1, hi', hw, hx1, hy1, hb, ih]
    · simp only [List.all_cons, hb, decide_false, Bool.false_and]
      simp [f133l1, hi', hx1, hy1, hb]
theorem l06Same_ev (h : H133 Γ) (xs ys : List Str) (hl : xs.length ≤ 9223372036854775807) : EvF Γ 133 [.list (xs.map .str), .list (ys.map .str)] [] = some (.bool (decide (xs = ys)), []) := by
  rw [EvF_run h.e133 rfl, ← all_eq]
  by_cases hxy : xs.length = ys.length
  · by_cases ha : ((xs.zip ys).all fun q => decide (q.1 = q.2)) = true
    · have hL := fun ρ hρ => L133_1 (Γ := Γ) xs ys hl hxy (ρ := ρ) hρ
      simp only [ha, if_true] at hL
      rw [ha]
      simp [f133, hxy, hL]
    · have hL := fun ρ hρ => L133_1 (Γ := Γ) xs ys hl hxy (ρ := ρ) hρ
      simp only [ha, if_false] at hL
      rw [Bool.not_eq_true] at ha
      rw [ha]
      simp [f133, hxy, hL]
  · have : ¬ (xs.length : Int) = ys.length := by omega
    simp [f133, hxy, this]
theorem L163_1 (xs ys : List Xp) (hl : xs.length ≤ 9223372036854775807) (hxy : xs.length = ys.length) (p : Xp → Xp → Bool) (hp : ∀ a ∈ xs, ∀ b ∈ ys, EvF Γ 180 [Xp.d a, Xp.d b] [] = some (.bool (p a b), [])) {ρ : Env} (hρ : keepOnly [0, 1, 5] ρ = [(0, .list (xs.map Xp.d)), (1, .list (ys.map Xp.d)), (5, .int .i64 0)]) :
    inBlk 0 [] (EvC Γ f163L1 ρ []) = if ((xs.zip ys).all fun q => p q.1 q.2) = true then some (.norm, [], []) else some (.ret, [(4, .bool false)], []) := by
  have hzl : (xs.zip ys).length = xs.length := by simp [hxy]
  have key := loop_list (Γ := Γ) (L := f163L1) rfl (inBlk 0 []) (xs.zip ys) (fun i (_ : Unit) => [(0, .list (xs.map Xp.d)), (1, .list (ys.map Xp.d)), (5, .int .i64 i)]) (fun _ _ => ([] : Store)) (fun _ r _ => if (r.all fun q => p q.1 q.2) = true then some (.norm, [], []) else some (.ret, [(4, .bool false)], [])) ?_ ?_ () ρ hρ
  · exact key
  · intro _; simp [f163l1, hzl]
  · intro i q r _ hx hi hr ih
    have hix : i < xs.length := by omega
    have hw := wrap64_succ hix hl
    have hi' : (i : Int) < xs.length := by omega
    have hx1 : xs[i]? = some q.1 := by
      have := congrArg (Option.map Prod.fst) hx
      rw [← List.getElem?_map, List.map_fst_zip (by omega)] at this
      simpa using this
    have hy1 : ys[i]? = some q.2 := by
      have := congrArg (Option.map Prod.snd) hx
      rw [← List.getElem?_map, List.map_snd_zip (by omega)] at this
      simpa using this
    have h1 := hp _ (List.mem_of_getElem? hx1) _ (List.mem_of_getElem? hy1)
    cases hb : p q.1 q.2 with
    | true =>
      have ih := ih ()
      simp only [List.all_cons, hb, Bool.true_and]
      simp [f163l1, hi', hw, hx1, hy1, h1, hb, callIn_pure, ih]
    | false =>
      simp only [List.all_cons, hb, Bool.false_and]
      simp [f163l1, hi', hx1, hy1, h1, hb, callIn_pure]
theorem l12Exprs_of (h : H163 Γ) (xs ys : List Xp) (hl : xs.length ≤ 9223372036854775807) (hp : ∀ x ∈ xs, ∀ y ∈ ys, EvF Γ 180 [Xp.d x, Xp.d y] [] = some (.bool (decide (x = y)), [])) : EvF Γ 163 [.list (xs.map Xp.d), .list (ys.map Xp.d)] [] = some (.bool (decide (xs = ys)), []) := by
  rw [EvF_run h.e163 rfl, ← all_eq]
  by_cases hxy : xs.length = ys.length
  · by_cases ha : ((xs.zip ys).all fun q => decide (q.1 = q.2)) = true
    · have hL := fun ρ hρ => L163_1 (Γ := Γ) xs ys hl hxy (fun a b => decide (a = b)) hp (ρ := ρ) hρ
      simp only [ha, if_true] at hL
      rw [ha]
      simp [f163, hxy, hL]
    · have hL := fun ρ hρ => L163_1 (Γ := Γ) xs ys hl hxy (fun a b => decide (a = b)) hp (ρ := ρ) hρ
      simp only [ha, if_false] at hL
      rw [Bool.not_eq_true] at ha
      rw [ha]
      simp [f163, hxy, hL]
  · have : ¬ (xs.length : Int) = ys.length := by omega
    simp [f163, hxy, this]
set_option maxHeartbeats 4000000 in
theorem l12Expr_ev (h : H180 Γ) (x : Xp) : x.Ok → ∀ y : Xp, EvF Γ 180 [x.d, y.d] [] = some (.bool (decide (x = y)), []) := by
  induction x using Xp.ind with
  | h x ih =>
  intro hok y
  rw [EvF_run h.e180 rfl]
  by_cases q0 : x.kind = y.kind
  rotate_left
  · have hne : ¬ x = y := fun e => q0 (by rw [e])
    rw [decide_eq_false hne]
    simp [f180, callIn_pure, q0]
  by_cases q1 : x.text = y.text
  rotate_left
  · have hne : ¬ x = y := fun e => q1 (by rw [e])
    rw [decide_eq_false hne]
    simp [f180, callIn_pure, q0, q1]
  by_cases q2 : x.num = y.num
  rotate_left
  · have hne : ¬ x = y := fun e => q2 (by rw [e])
    rw [decide_eq_false hne]
    simp [f180, callIn_pure, q0, q1, q2]
  have g3 := l12Exprs_of h x.kids y.kids hok.kids.1 (fun a ha b _ => ih a ha (hok.kids.2 a ha) b)
  by_cases q3 : x.kids = y.kids
  rotate_left
  · have hne : ¬ x = y := fun e => q3 (by rw [e])
    rw [decide_eq_false hne]
    rw [decide_eq_false q3] at g3
    simp [f180, callIn_pure, q0, q1, q2, g3]
  rw [decide_eq_true q3] at g3
  have he : x = y := by
    cases x; cases y
    simp at q0 q1 q2 q3
    simp [q0, q1, q2, q3]
  rw [decide_eq_true he]
  simp [f180, callIn_pure, q0, q1, q2, g3]
theorem l12Exprs_ev (h : H163 Γ) (xs ys : List Xp) (hok : LOk Xp.Ok xs) : EvF Γ 163 [.list (xs.map Xp.d), .list (ys.map Xp.d)] [] = some (.bool (decide (xs = ys)), []) :=
  l12Exprs_of h xs ys hok.1 fun a ha b _ => l12Expr_ev h a (hok.2 a ha) b
set_option maxHeartbeats 4000000 in
theorem l12Col_ev (h : H161 Γ) (x : Col) : x.Ok → ∀ y : Col, EvF Γ 161 [x.d, y.d] [] = some (.bool (decide (x = y)), []) := by
  intro hok y
  rw [EvF_run h.e161 rfl]
  by_cases q0 : x.name = y.name
  rotate_left
  · have hne : ¬ x = y := fun e => q0 (by rw [e])
    rw [decide_eq_false hne]
    simp [f161, callIn_pure, q0]
  by_cases q1 : x.ty = y.ty
  rotate_left
  · have hne : ¬ x = y := fun e => q1 (by rw [e])
    rw [decide_eq_false hne]
    have z : ¬ (x.ty.kind = y.ty.kind ∧ x.ty.len = y.ty.len ∧ x.ty.name = y.ty.name) := fun e => q1 (by
      obtain ⟨e1, e2, e3⟩ := e
      cases hx : x.ty; cases hy : y.ty
      rw [hx, hy] at e1 e2 e3
      simp at e1 e2 e3
      simp [e1, e2, e3])
    simp [f161, callIn_pure, q0, z]
  by_cases q2 : x.notNull = y.notNull
  rotate_left
  · have hne : ¬ x = y := fun e => q2 (by rw [e])
    rw [decide_eq_false hne]
    simp [f161, callIn_pure, q0, q1, q2]
  have g3 := l12Exprs_ev h.c163 x.dflt y.dflt hok.dflt
  by_cases q3 : x.dflt = y.dflt
  rotate_left
  · have hne : ¬ x = y := fun e => q3 (by rw [e])
    rw [decide_eq_false hne]
    rw [decide_eq_false q3] at g3
    simp [f161, callIn_pure, q0, q1, q2, g3]
  rw [decide_eq_true q3] at g3
  have he : x = y := by
    cases x; cases y
    simp at q0 q1 q2 q3
    simp [q0, q1, q2, q3]
  rw [decide_eq_true he]
  simp [f161, callIn_pure, q0, q1, q2, g3]
set_option maxHeartbeats 4000000 in
theorem l12One_ev (h : H162 Γ) (x : Rule) : x.Ok → ∀ y : Rule, EvF Γ 162 [x.d, y.d] [] = some (.bool (decide (x = y)), []) := by
  intro hok y
  rw [EvF_run h.e162 rfl]
  by_cases q0 : x.name = y.name
  rotate_left
  · have hne : ¬ x = y := fun e => q0 (by rw [e])
    rw [decide_eq_false hne]
    simp [f162, callIn_pure, q0]
  by_cases q1 : x.kind = y.kind
  rotate_left
  · have hne : ¬ x = y := fun e => q1 (by rw [e])
    rw [decide_eq_false hne]
    simp [f162, callIn_pure, q0, q1]
  have g2 := l06Same_ev h.c133 x.cols y.cols hok.cols.1
  by_cases q2 : x.cols = y.cols
  rotate_left
  · have hne : ¬ x = y := fun e => q2 (by rw [e])
    rw [decide_eq_false hne]
    rw [decide_eq_false q2] at g2
    simp [f162, callIn_pure, q0, q1, g2]
  rw [decide_eq_true q2] at g2
  have g3 := l12Exprs_ev h.c163 x.expr y.expr hok.expr
  by_cases q3 : x.expr = y.expr
  rotate_left
  · have hne : ¬ x = y := fun e => q3 (by rw [e])
    rw [decide_eq_false hne]
    rw [decide_eq_false q3] at g3
    simp [f162, callIn_pure, q0, q1, g2, g3]
  rw [decide_eq_true q3] at g3
  by_cases q4 : x.table = y.table
  rotate_left
  · have hne : ¬ x = y := fun e => q4 (by rw [e])
    rw [decide_eq_false hne]
    simp [f162, callIn_pure, q0, q1, g2, g3, q4]
  have g5 := l06Same_ev h.c133 x.to y.to hok.to.1
  by_cases q5 : x.to = y.to
  rotate_left
  · have hne : ¬ x = y := fun e => q5 (by rw [e])
    rw [decide_eq_false hne]
    rw [decide_eq_false q5] at g5
    simp [f162, callIn_pure, q0, q1, g2, g3, q4, g5]
  rw [decide_eq_true q5] at g5
  have he : x = y := by
    cases x; cases y
    simp at q0 q1 q2 q3 q4 q5
    simp [q0, q1, q2, q3, q4, q5]
  rw [decide_eq_true he]
  simp [f162, callIn_pure, q0, q1, g2, g3, q4, g5]
set_option maxHeartbeats 4000000 in
theorem l12By_ev (h : H134 Γ) (x : Index) : x.Ok → ∀ y : Index, EvF Γ 134 [x.d, y.d] [] = some (.bool (decide (x = y)), []) := by
  intro hok y
  rw [EvF_run h.e134 rfl]
  by_cases q0 : x.name = y.name
  rotate_left
  · have hne : ¬ x = y := fun e => q0 (by rw [e])
    rw [decide_eq_false hne]
    simp [f134, callIn_pure, q0]
  by_cases q1 : x.table = y.table
  rotate_left
  · have hne : ¬ x = y := fun e => q1 (by rw [e])
    rw [decide_eq_false hne]
    simp [f134, callIn_pure, q0, q1]
  have g2 := l06Same_ev h.c133 x.cols y.cols hok.cols.1
  by_cases q2 : x.cols = y.cols
  rotate_left
  · have hne : ¬ x = y := fun e => q2 (by rw [e])
    rw [decide_eq_false hne]
    rw [decide_eq_false q2] at g2
    simp [f134, callIn_pure, q0, q1, g2]
  rw [decide_eq_true q2] at g2
  by_cases q3 : x.unique = y.unique
  rotate_left
  · have hne : ¬ x = y := fun e => q3 (by rw [e])
    rw [decide_eq_false hne]
    simp [f134, callIn_pure, q0, q1, g2, q3]
  have he : x = y := by
    cases x; cases y
    simp at q0 q1 q2 q3
    simp [q0, q1, q2, q3]
  rw [decide_eq_true he]
  simp [f134, callIn_pure, q0, q1, g2, q3]
set_option maxHeartbeats 4000000 in
theorem l12Look_ev (h : H135 Γ) (x : View) : x.Ok → ∀ y : View, EvF Γ 135 [x.d, y.d] [] = some (.bool (decide (x = y)), []) := by
  intro hok y
  rw [EvF_run h.e135 rfl]
  by_cases q0 : x.name = y.name
  rotate_left
  · have hne : ¬ x = y := fun e => q0 (by rw [e])
    rw [decide_eq_false hne]
    simp [f135, callIn_pure, q0]
  by_cases q1 : x.table = y.table
  rotate_left
  · have hne : ¬ x = y := fun e => q1 (by rw [e])
    rw [decide_eq_false hne]
    simp [f135, callIn_pure, q0, q1]
  have g2 := l06Same_ev h.c133 x.cols y.cols hok.cols.1
  by_cases q2 : x.cols = y.cols
  rotate_left
  · have hne : ¬ x = y := fun e => q2 (by rw [e])
    rw [decide_eq_false hne]
    rw [decide_eq_false q2] at g2
    simp [f135, callIn_pure, q0, q1, g2]
  rw [decide_eq_true q2] at g2
  have g3 := l12Exprs_ev h.c163 x.cond y.cond hok.cond
  by_cases q3 : x.cond = y.cond
  rotate_left
  · have hne : ¬ x = y := fun e => q3 (by rw [e])
    rw [decide_eq_false hne]
    rw [decide_eq_false q3] at g3
    simp [f135, callIn_pure, q0, q1, g2, g3]
  rw [decide_eq_true q3] at g3
  have he : x = y := by
    cases x; cases y
    simp at q0 q1 q2 q3
    simp [q0, q1, q2, q3]
  rw [decide_eq_true he]
  simp [f135, callIn_pure, q0, q1, g2, g3]
set_option maxHeartbeats 4000000 in
theorem sameExpr_ev (h : H181 Γ) (x : Xp) : x.Ok → ∀ y : Xp, EvF Γ 181 [x.d, y.d] [] = some (.bool (decide (x = y)), []) := by
  induction x using Xp.ind with
  | h x ih =>
  intro hok y
  rw [EvF_run h.e181 rfl]
  by_cases q0 : x.kind = y.kind
  rotate_left
  · have hne : ¬ x = y := fun e => q0 (by rw [e])
    rw [decide_eq_false hne]
    simp [f181, callIn_pure, q0]
  by_cases q1 : x.text = y.text
  rotate_left
  · have hne : ¬ x = y := fun e => q1 (by rw [e])
    rw [decide_eq_false hne]
    simp [f181, callIn_pure, q0, q1]
  by_cases q2 : x.num = y.num
  rotate_left
  · have hne : ¬ x = y := fun e => q2 (by rw [e])
    rw [decide_eq_false hne]
    simp [f181, callIn_pure, q0, q1, q2]
  have g3 := (by have := eqf182_ev h.c182 181 [] (fun a b => decide (a = b)) x.kids y.kids hok.kids.1 rfl (fun a ha b _ => ih a ha (hok.kids.2 a ha) b); rw [all_eq] at this; exact this : EvF Γ 182 [.list (x.kids.map Xp.d), .list (y.kids.map Xp.d), .fn 181 []] [] = some (.bool (decide (x.kids = y.kids)), []))
  by_cases q3 : x.kids = y.kids
  rotate_left
  · have hne : ¬ x = y := fun e => q3 (by rw [e])
    rw [decide_eq_false hne]
    rw [decide_eq_false q3] at g3
    simp [f181, callIn_pure, q0, q1, q2, g3]
  rw [decide_eq_true q3] at g3
  have he : x = y := by
    cases x; cases y
    simp at q0 q1 q2 q3
    simp [q0, q1, q2, q3]
  rw [decide_eq_true he]
  simp [f181, callIn_pure, q0, q1, q2, g3]
theorem sameExprs_ev (h : H174 Γ) (xs ys : List Xp) (hok : LOk Xp.Ok xs) : EvF Γ 174 [.list (xs.map Xp.d), .list (ys.map Xp.d)] [] = some (.bool (decide (xs = ys)), []) := by
  rw [EvF_run h.e174 rfl]
  have h1 := eqf182_ev h.c182 181 [] (fun a b => decide (a = b)) xs ys hok.1 rfl (fun a ha b _ => sameExpr_ev h.c181 a (hok.2 a ha) b)
  rw [all_eq] at h1
  simp [f174, callIn_pure, h1]
set_option maxHeartbeats 4000000 in
theorem sameCol_ev (h : H170 Γ) (x : Col) : x.Ok → ∀ y : Col, EvF Γ 170 [x.d, y.d] [] = some (.bool (decide (x = y)), []) := by
  intro hok y
  rw [EvF_run h.e170 rfl]
  by_cases q0 : x.name = y.name
  rotate_left
  · have hne : ¬ x = y := fun e => q0 (by rw [e])
    rw [decide_eq_false hne]
    simp [f170, callIn_pure, q0]
  by_cases q1 : x.ty = y.ty
  rotate_left
  · have hne : ¬ x = y := fun e => q1 (by rw [e])
    rw [decide_eq_false hne]
    have z : ¬ (x.ty.kind = y.ty.kind ∧ x.ty.len = y.ty.len ∧ x.ty.name = y.ty.name) := fun e => q1 (by
      obtain ⟨e1, e2, e3⟩ := e
      cases hx : x.ty; cases hy : y.ty
      rw [hx, hy] at e1 e2 e3
      simp at e1 e2 e3
      simp [e1, e2, e3])
    simp [f170, callIn_pure, q0, z]
  by_cases q2 : x.notNull = y.notNull
  rotate_left
  · have hne : ¬ x = y := fun e => q2 (by rw [e])
    rw [decide_eq_false hne]
    simp [f170, callIn_pure, q0, q1, q2]
  have g3 := sameExprs_ev h.c174 x.dflt y.dflt hok.dflt
  by_cases q3 : x.dflt = y.dflt
  rotate_left
  · have hne : ¬ x = y := fun e => q3 (by rw [e])
    rw [decide_eq_false hne]
    rw [decide_eq_false q3] at g3
    simp [f170, callIn_pure, q0, q1, q2, g3]
  rw [decide_eq_true q3] at g3
  have he : x = y := by
    cases x; cases y
    simp at q0 q1 q2 q3
    simp [q0, q1, q2, q3]
  rw [decide_eq_true he]
  simp [f170, callIn_pure, q0, q1, q2, g3]
set_option maxHeartbeats 4000000 in
theorem sameRule_ev (h : H171 Γ) (x : Rule) : x.Ok → ∀ y : Rule, EvF Γ 171 [x.d, y.d] [] = some (.bool (decide (x = y)), []) := by
  intro hok y
  rw [EvF_run h.e171 rfl]
  by_cases q0 : x.name = y.name
  rotate_left
  · have hne : ¬ x = y := fun e => q0 (by rw [e])
    rw [decide_eq_false hne]
    simp [f171, callIn_pure, q0]
  by_cases q1 : x.kind = y.kind
  rotate_left
  · have hne : ¬ x = y := fun e => q1 (by rw [e])
    rw [decide_eq_false hne]
    simp [f171, callIn_pure, q0, q1]
  have g2 := eq169_ev h.c169 x.cols y.cols hok.cols.1
  by_cases q2 : x.cols = y.cols
  rotate_left
  · have hne : ¬ x = y := fun e => q2 (by rw [e])
    rw [decide_eq_false hne]
    rw [decide_eq_false q2] at g2
    simp [f171, callIn_pure, q0, q1, g2]
  rw [decide_eq_true q2] at g2
  have g3 := sameExprs_ev h.c174 x.expr y.expr hok.expr
  by_cases q3 : x.expr = y.expr
  rotate_left
  · have hne : ¬ x = y := fun e => q3 (by rw [e])
    rw [decide_eq_false hne]
    rw [decide_eq_false q3] at g3
    simp [f171, callIn_pure, q0, q1, g2, g3]
  rw [decide_eq_true q3] at g3
  by_cases q4 : x.table = y.table
  rotate_left
  · have hne : ¬ x = y := fun e => q4 (by rw [e])
    rw [decide_eq_false hne]
    simp [f171, callIn_pure, q0, q1, g2, g3, q4]
  have g5 := eq169_ev h.c169 x.to y.to hok.to.1
  by_cases q5 : x.to = y.to
  rotate_left
  · have hne : ¬ x = y := fun e => q5 (by rw [e])
    rw [decide_eq_false hne]
    rw [decide_eq_false q5] at g5
    simp [f171, callIn_pure, q0, q1, g2, g3, q4, g5]
  rw [decide_eq_true q5] at g5
  have he : x = y := by
    cases x; cases y
    simp at q0 q1 q2 q3 q4 q5
    simp [q0, q1, q2, q3, q4, q5]
  rw [decide_eq_true he]
  simp [f171, callIn_pure, q0, q1, g2, g3, q4, g5]
set_option maxHeartbeats 4000000 in
theorem sameIndex_ev (h : H142 Γ) (x : Index) : x.Ok → ∀ y : Index, EvF Γ 142 [x.d, y.d] [] = some (.bool (decide (x = y)), []) := by
  intro hok y
  rw [EvF_run h.e142 rfl]
  by_cases q0 : x.name = y.name
  rotate_left
  · have hne : ¬ x = y := fun e => q0 (by rw [e])
    rw [decide_eq_false hne]
    simp [f142, callIn_pure, q0]
  by_cases q1 : x.table = y.table
  rotate_left
  · have hne : ¬ x = y := fun e => q1 (by rw [e])
    rw [decide_eq_false hne]
    simp [f142, callIn_pure, q0, q1]
  have g2 := eq169_ev h.c169 x.cols y.cols hok.cols.1
  by_cases q2 : x.cols = y.cols
  rotate_left
  · have hne : ¬ x = y := fun e => q2 (by rw [e])
    rw [decide_eq_false hne]
    rw [decide_eq_false q2] at g2
    simp [f142, callIn_pure, q0, q1, g2]
  rw [decide_eq_true q2] at g2
  by_cases q3 : x.unique = y.unique
  rotate_left
  · have hne : ¬ x = y := fun e => q3 (by rw [e])
    rw [decide_eq_false hne]
    simp [f142, callIn_pure, q0, q1, g2, q3]
  have he : x = y := by
    cases x; cases y
    simp at q0 q1 q2 q3
    simp [q0, q1, q2, q3]
  rw [decide_eq_true he]
  simp [f142, callIn_pure, q0, q1, g2, q3]
set_option maxHeartbeats 4000000 in
theorem sameView_ev (h : H145 Γ) (x : View) : x.Ok → ∀ y : View, EvF Γ 145 [x.d, y.d] [] = some (.bool (decide (x = y)), []) := by
  intro hok y
  rw [EvF_run h.e145 rfl]
  by_cases q0 : x.name = y.name
  rotate_left
  · have hne : ¬ x = y := fun e => q0 (by rw [e])
    rw [decide_eq_false hne]
    simp [f145, callIn_pure, q0]
  by_cases q1 : x.table = y.table
  rotate_left
  · have hne : ¬ x = y := fun e => q1 (by rw [e])
    rw [decide_eq_false hne]
    simp [f145, callIn_pure, q0, q1]
  have g2 := eq169_ev h.c169 x.cols y.cols hok.cols.1
  by_cases q2 : x.cols = y.cols
  rotate_left
  · have hne : ¬ x = y := fun e => q2 (by rw [e])
    rw [decide_eq_false hne]
    rw [decide_eq_false q2] at g2
    simp [f145, callIn_pure, q0, q1, g2]
  rw [decide_eq_true q2] at g2
  have g3 := sameExprs_ev h.c174 x.cond y.cond hok.cond
  by_cases q3 : x.cond = y.cond
  rotate_left
  · have hne : ¬ x = y := fun e => q3 (by rw [e])
    rw [decide_eq_false hne]
    rw [decide_eq_false q3] at g3
    simp [f145, callIn_pure, q0, q1, g2, g3]
  rw [decide_eq_true q3] at g3
  have he : x = y := by
    cases x; cases y
    simp at q0 q1 q2 q3
    simp [q0, q1, q2, q3]
  rw [decide_eq_true he]
  simp [f145, callIn_pure, q0, q1, g2, g3]
set_option maxHeartbeats 4000000 in
theorem sameLabels_ev (h : H143 Γ) (x : Labels) : x.Ok → ∀ y : Labels, EvF Γ 143 [x.d, y.d] [] = some (.bool (decide (x = y)), []) := by
  intro hok y
  rw [EvF_run h.e143 rfl]
  by_cases q0 : x.name = y.name
  rotate_left
  · have hne : ¬ x = y := fun e => q0 (by rw [e])
    rw [decide_eq_false hne]
    simp [f143, callIn_pure, q0]
  have g1 := eq169_ev h.c169 x.list y.list hok.list.1
  by_cases q1 : x.list = y.list
  rotate_left
  · have hne : ¬ x = y := fun e => q1 (by rw [e])
    rw [decide_eq_false hne]
    rw [decide_eq_false q1] at g1
    simp [f143, callIn_pure, q0, g1]
  rw [decide_eq_true q1] at g1
  have he : x = y := by
    cases x; cases y
    simp at q0 q1
    simp [q0, q1]
  rw [decide_eq_true he]
  simp [f143, callIn_pure, q0, g1]
end Go.DM
