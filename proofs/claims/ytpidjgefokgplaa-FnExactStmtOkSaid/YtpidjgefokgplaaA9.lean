/- Statements: StmtOk of both (printed by a program, kind by kind). -/
import Derived.Test.YtpidjgefokgplaaA8
set_option linter.unusedVariables false
set_option linter.unusedSimpArgs false
namespace Go.DM
open Go
variable {Γ : Tab}
def stmtOk (s : Stmt) : Bool := (decide (0 ≤ s.kind) && decide (s.kind ≤ 16)) && nameOk s.name && partsOk s && restOk s
theorem specStmt_ev (h : H27 Γ) (s : Stmt) (hok : s.Ok) (hn : ∀ c ∈ s.cols, ∀ e ∈ c.dflt, e.nodes ≤ 4611686018427387904) (hn2 : ∀ c ∈ s.rules, ∀ e ∈ c.expr, e.nodes ≤ 4611686018427387904) (hn3 : ∀ e ∈ s.exprs, e.nodes ≤ 4611686018427387904) : EvF Γ 27 [s.d] [] = some (.bool (stmtOk s), []) := by
  have h1 := specName_ev h.c43 s.name hok.name
  have h2 := parts_ev h.c50 s hok hn hn2
  have h3 := rest_ev h.c51 s hok hn3
  rw [EvF_run h.e27 rfl]
  cases b1 : (decide (0 ≤ s.kind) && decide (s.kind ≤ 16))
  · simp [f27, callIn_pure, l01In_ev h.c28, b1, stmtOk]
  cases b2 : nameOk s.name
  · simp [f27, callIn_pure, l01In_ev h.c28, h1, b1, b2, stmtOk]
  cases b3 : partsOk s
  · simp [f27, callIn_pure, l01In_ev h.c28, h1, h2, b1, b2, b3, stmtOk]
  simp [f27, callIn_pure, l01In_ev h.c28, h1, h2, h3, b1, b2, b3, stmtOk]
def usedS (k : Int) : Str :=
  if k = 0 then [108, 105, 115, 116] else if k = 2 then [110, 117, 109] else if k = 4 then [99, 111, 108, 115, 32, 114, 117, 108, 101, 115] else if k = 6 then [99, 111, 108, 115] else if k = 11 then [114, 117, 108, 101, 115] else if k = 7 then [111, 110] else if k = 12 then [111, 110] else if k = 8 then [111, 110, 32, 116, 121, 112, 101] else if k = 9 then [111, 110, 32, 102, 108, 97, 103] else if k = 10 then [111, 110, 32, 101, 120, 112, 114, 115] else if k = 13 then [111, 110, 32, 108, 105, 115, 116, 32, 102, 108, 97, 103] else if k = 15 then [111, 110, 32, 108, 105, 115, 116, 32, 101, 120, 112, 114, 115] else []
theorem used_ev (h : H62 Γ) (k : Int) : EvF Γ 62 [.int .i64 k] [] = some (.str (usedS k), []) := by
  rw [EvF_run h.e62 rfl]
  by_cases k0 : k = 0
  · subst k0; simp [f62, usedS]
  by_cases k2 : k = 2
  · subst k2; simp [f62, usedS]
  by_cases k4 : k = 4
  · subst k4; simp [f62, usedS]
  by_cases k6 : k = 6
  · subst k6; simp [f62, usedS]
  by_cases k11 : k = 11
  · subst k11; simp [f62, usedS]
  by_cases k7 : k = 7
  · subst k7; simp [f62, usedS]
  by_cases k12 : k = 12
  · subst k12; simp [f62, usedS]
  by_cases k8 : k = 8
  · subst k8; simp [f62, usedS]
  by_cases k9 : k = 9
  · subst k9; simp [f62, usedS]
  by_cases k10 : k = 10
  · subst k10; simp [f62, usedS]
  by_cases k13 : k = 13
  · subst k13; simp [f62, usedS]
  by_cases k15 : k = 15
  · subst k15; simp [f62, usedS]
  simp [f62, usedS, k0, k2, k4, k6, k11, k7, k12, k8, k9, k10, k13, k15]
theorem used_len (k : Int) : (usedS k).length < 4294967281 := by
  by_cases k0 : k = 0
  · subst k0; decide
  by_cases k2 : k = 2
  · subst k2; decide
  by_cases k4 : k = 4
  · subst k4; decide
  by_cases k6 : k = 6
  · subst k6; decide
  by_cases k11 : k = 11
  · subst k11; decide
  by_cases k7 : k = 7
  · subst k7; decide
  by_cases k12 : k = 12
  · subst k12; decide
  by_cases k8 : k = 8
  · subst k8; decide
  by_cases k9 : k = 9
  · subst k9; decide
  by_cases k10 : k = 10
  · subst k10; decide
  by_cases k13 : k = 13
  · subst k13; decide
  by_cases k15 : k = 15
  · subst k15; decide
  simp [usedS, k0, k2, k4, k6, k11, k7, k12, k8, k9, k10, k13, k15]
def has (k : Int) (w : Str) : Bool := Lib.contains (usedS k) w
theorem only1_ev (h : H94 Γ) (s : Stmt) (w : Str) (b : Bool) : EvF Γ 94 [.str w, .bool b, .fptr s.d 0] [] = some (.bool (b || has s.kind w), []) := by
  rw [EvF_run h.e94 rfl]
  have h1 := used_ev h.c62 s.kind
  have h2 := cont_ev h.c83 (usedS s.kind) w (used_len _)
  cases b <;> simp [f94, callIn_pure, h1, h2, has]
def onlyOk (s : Stmt) : Bool := (decide (s.on = []) || has s.kind [111, 110]) && (decide (s.list = []) || has s.kind [108, 105, 115, 116]) && (decide (s.num = 0) || has s.kind [110, 117, 109]) && (!s.flag || has s.kind [102, 108, 97, 103]) && ((decide (s.ty.kind = 0) && (decide (s.ty.len = 0) && decide (s.ty.name = []))) || has s.kind [116, 121, 112, 101]) && (decide (s.cols = []) || has s.kind [99, 111, 108, 115]) && (decide (s.rules = []) || has s.kind [114, 117, 108, 101, 115]) && (decide (s.exprs = []) || has s.kind [101, 120, 112, 114, 115])
set_option maxHeartbeats 40000000 in
theorem isOnly_ev (h : H61 Γ) (s : Stmt) : EvF Γ 61 [s.d] [] = some (.bool (onlyOk s), []) := by
  rw [EvF_run h.e61 rfl]
  have h1 := only1_ev h.c94 s
  cases b0 : (decide (s.on = []) || has s.kind [111, 110])
  · simp [f61, callIn_pure, h1, onlyOk, b0]
  cases b1 : (decide (s.list = []) || has s.kind [108, 105, 115, 116])
  · simp [f61, callIn_pure, h1, onlyOk, b0, b1]
  cases b2 : (decide (s.num = 0) || has s.kind [110, 117, 109])
  · simp [f61, callIn_pure, h1, onlyOk, b0, b1, b2]
  cases b3 : (!s.flag || has s.kind [102, 108, 97, 103])
  · simp [f61, callIn_pure, h1, onlyOk, b0, b1, b2, b3]
  cases b4 : ((decide (s.ty.kind = 0) && (decide (s.ty.len = 0) && decide (s.ty.name = []))) || has s.kind [116, 121, 112, 101])
  · simp [f61, callIn_pure, h1, onlyOk, b0, b1, b2, b3, b4]
  cases b5 : (decide (s.cols = []) || has s.kind [99, 111, 108, 115])
  · simp [f61, callIn_pure, h1, onlyOk, b0, b1, b2, b3, b4, b5]
  cases b6 : (decide (s.rules = []) || has s.kind [114, 117, 108, 101, 115])
  · simp [f61, callIn_pure, h1, onlyOk, b0, b1, b2, b3, b4, b5, b6]
  cases b7 : (decide (s.exprs = []) || has s.kind [101, 120, 112, 114, 115])
  · simp [f61, callIn_pure, h1, onlyOk, b0, b1, b2, b3, b4, b5, b6, b7]
  simp [f61, callIn_pure, h1, onlyOk, b0, b1, b2, b3, b4, b5, b6, b7]
def onK (k : Int) : Bool := decide (k = 7 ∨ k = 8 ∨ k = 9 ∨ k = 10 ∨ k = 12 ∨ k = 13 ∨ k = 15)
def swOk (s : Stmt) : Bool :=
  if s.kind = 0 ∨ s.kind = 13 then namesOk s.list 12
  else if s.kind = 2 then decide (0 ≤ s.num) && decide (s.num ≤ 999999999)
  else if s.kind = 4 then decide (s.cols.length ≤ 12) && decide (s.rules.length ≤ 8)
  else if s.kind = 6 then decide (s.cols.length = 1)
  else if s.kind = 11 then decide (s.rules.length = 1)
  else if s.kind = 8 then typeOk s.ty
  else if s.kind = 10 then decide (s.exprs.length ≤ 1)
  else if s.kind = 15 then namesOk s.list 12 && decide (s.exprs.length ≤ 1)
  else true
def implOk (s : Stmt) : Bool := (decide (0 ≤ s.kind) && decide (s.kind ≤ 16)) && nameOk s.name && onlyOk s && (!onK s.kind || nameOk s.on) && s.cols.all colOk && s.rules.all ruleOk && s.exprs.all exprOk && swOk s
set_option maxHeartbeats 40000000 in
theorem impl_0 (h : H23 Γ) (s : Stmt) (hok : s.Ok) (k0 : s.kind = 0) : EvF Γ 23 [s.d] [] = some (.bool (implOk s), []) := by
  have h1 := implName_ev h.c44 s.name
  have h2 := isOnly_ev h.c61 s
  have h3 := used_ev h.c62 s.kind
  have hu : usedS s.kind = [108, 105, 115, 116] := by simp [usedS, k0]
  rw [hu] at h3
  have kr : (decide (0 ≤ s.kind) && decide (s.kind ≤ 16)) = true := by simp [k0]
  have f_0 : (s.kind = 0) = True := by simp [k0]
  have f_2 : (s.kind = 2) = False := by simp [k0]
  have f_4 : (s.kind = 4) = False := by simp [k0]
  have f_6 : (s.kind = 6) = False := by simp [k0]
  have f_11 : (s.kind = 11) = False := by simp [k0]
  have f_7 : (s.kind = 7) = False := by simp [k0]
  have f_12 : (s.kind = 12) = False := by simp [k0]
  have f_8 : (s.kind = 8) = False := by simp [k0]
  have f_9 : (s.kind = 9) = False := by simp [k0]
  have f_10 : (s.kind = 10) = False := by simp [k0]
  have f_13 : (s.kind = 13) = False := by simp [k0]
  have f_15 : (s.kind = 15) = False := by simp [k0]
  have hp : EvF Γ 32 [.str [108, 105, 115, 116], .str [111, 110]] [] = some (.bool false, []) := by
    rw [prefix_ev h.c32]
    simp
  have h4 := implName_ev h.c44 s.on
  have h5 := any63_ev h.c63 57 [] (fun c => !colOk c) s.cols hok.cols.1 (fun x hx => by
    rw [EvF_run h.c57.e57 rfl]
    simp [f57, callIn_pure, implCol_ev h.c57.c96 x (hok.cols.2 x hx)])
  have h6 := any65_ev h.c65 58 [] (fun c => !ruleOk c) s.rules hok.rules.1 (fun x hx => by
    rw [EvF_run h.c58.e58 rfl]
    simp [f58, callIn_pure, implRule_ev h.c58.c99 x (hok.rules.2 x hx)])
  have h7 := any64_ev h.c64 59 [] (fun c => !exprOk c) s.exprs hok.exprs.1 (fun x hx => by
    rw [EvF_run h.c59.e59 rfl]
    simp [f59, callIn_pure, implExpr_ev h.c59.c100 x (hok.exprs.2 x hx)])
  have n5 : s.cols.any (fun c => !colOk c) = !s.cols.all colOk := by simp [List.any_eq_not_all_not]
  have n6 : s.rules.any (fun c => !ruleOk c) = !s.rules.all ruleOk := by simp [List.any_eq_not_all_not]
  have n7 : s.exprs.any (fun c => !exprOk c) = !s.exprs.all exprOk := by simp [List.any_eq_not_all_not]
  rw [n5] at h5
  rw [n6] at h6
  rw [n7] at h7
  have h8 := areIds_ev h.c60 s.list hok.list.1
  rw [EvF_run h.e23 rfl]
  cases b1 : nameOk s.name
  · simp [f23, callIn_pure, kr, f_0, f_2, f_4, f_6, f_11, f_7, f_12, f_8, f_9, f_10, f_13, f_15, h1, h2, h3, h4, h5, h6, h7, h8, hp, within_ev h.c29, implOk, onK, swOk, b1]
  cases b2 : onlyOk s
  · simp [f23, callIn_pure, kr, f_0, f_2, f_4, f_6, f_11, f_7, f_12, f_8, f_9, f_10, f_13, f_15, h1, h2, h3, h4, h5, h6, h7, h8, hp, within_ev h.c29, implOk, onK, swOk, b1, b2]
  cases b4 : s.cols.all colOk
  · simp [f23, callIn_pure, kr, f_0, f_2, f_4, f_6, f_11, f_7, f_12, f_8, f_9, f_10, f_13, f_15, h1, h2, h3, h4, h5, h6, h7, h8, hp, within_ev h.c29, implOk, onK, swOk, b1, b2, b4]
  cases b5 : s.rules.all ruleOk
  · simp [f23, callIn_pure, kr, f_0, f_2, f_4, f_6, f_11, f_7, f_12, f_8, f_9, f_10, f_13, f_15, h1, h2, h3, h4, h5, h6, h7, h8, hp, within_ev h.c29, implOk, onK, swOk, b1, b2, b4, b5]
  cases b6 : s.exprs.all exprOk
  · simp [f23, callIn_pure, kr, f_0, f_2, f_4, f_6, f_11, f_7, f_12, f_8, f_9, f_10, f_13, f_15, h1, h2, h3, h4, h5, h6, h7, h8, hp, within_ev h.c29, implOk, onK, swOk, b1, b2, b4, b5, b6]
  have q : namesOk s.list 12 = ((decide (1 ≤ s.list.length) && decide (s.list.length ≤ 12)) && s.list.all nameOk) := rfl
  have c1 : decide ((1 : Int) ≤ s.list.length) = decide (1 ≤ s.list.length) := decide_eq_decide.2 (by omega)
  have c2 : decide ((s.list.length : Int) ≤ 12) = decide (s.list.length ≤ 12) := decide_eq_decide.2 (by omega)
  have c3 : decide ((s.exprs.length : Int) ≤ 1) = decide (s.exprs.length ≤ 1) := decide_eq_decide.2 (by omega)
  cases d1 : (decide (1 ≤ s.list.length) && decide (s.list.length ≤ 12))
  · rw [d1] at q
    simp [f23, callIn_pure, kr, f_0, f_2, f_4, f_6, f_11, f_7, f_12, f_8, f_9, f_10, f_13, f_15, h1, h2, h3, h4, h5, h6, h7, h8, hp, within_ev h.c29, implOk, onK, swOk, b1, b2, b4, b5, b6, c1, c2, d1, q]
  rw [d1, Bool.true_and] at q
  cases d2 : s.list.all nameOk
  · simp [f23, callIn_pure, kr, f_0, f_2, f_4, f_6, f_11, f_7, f_12, f_8, f_9, f_10, f_13, f_15, h1, h2, h3, h4, h5, h6, h7, h8, hp, within_ev h.c29, implOk, onK, swOk, b1, b2, b4, b5, b6, c1, c2, d1, d2, q]
  simp [f23, callIn_pure, kr, f_0, f_2, f_4, f_6, f_11, f_7, f_12, f_8, f_9, f_10, f_13, f_15, h1, h2, h3, h4, h5, h6, h7, h8, hp, within_ev h.c29, implOk, onK, swOk, b1, b2, b4, b5, b6, c1, c2, c3, d1, d2, q]
set_option maxHeartbeats 40000000 in
theorem impl_2 (h : H23 Γ) (s : Stmt) (hok : s.Ok) (k2 : s.kind = 2) : EvF Γ 23 [s.d] [] = some (.bool (implOk s), []) := by
  have h1 := implName_ev h.c44 s.name
  have h2 := isOnly_ev h.c61 s
  have h3 := used_ev h.c62 s.kind
  have hu : usedS s.kind = [110, 117, 109] := by simp [usedS, k2]
  rw [hu] at h3
  have kr : (decide (0 ≤ s.kind) && decide (s.kind ≤ 16)) = true := by simp [k2]
  have f_0 : (s.kind = 0) = False := by simp [k2]
  have f_2 : (s.kind = 2) = True := by simp [k2]
  have f_4 : (s.kind = 4) = False := by simp [k2]
  have f_6 : (s.kind = 6) = False := by simp [k2]
  have f_11 : (s.kind = 11) = False := by simp [k2]
  have f_7 : (s.kind = 7) = False := by simp [k2]
  have f_12 : (s.kind = 12) = False := by simp [k2]
  have f_8 : (s.kind = 8) = False := by simp [k2]
  have f_9 : (s.kind = 9) = False := by simp [k2]
  have f_10 : (s.kind = 10) = False := by simp [k2]
  have f_13 : (s.kind = 13) = False := by simp [k2]
  have f_15 : (s.kind = 15) = False := by simp [k2]
  have hp : EvF Γ 32 [.str [110, 117, 109], .str [111, 110]] [] = some (.bool false, []) := by
    rw [prefix_ev h.c32]
    simp
  have h4 := implName_ev h.c44 s.on
  have h5 := any63_ev h.c63 57 [] (fun c => !colOk c) s.cols hok.cols.1 (fun x hx => by
    rw [EvF_run h.c57.e57 rfl]
    simp [f57, callIn_pure, implCol_ev h.c57.c96 x (hok.cols.2 x hx)])
  have h6 := any65_ev h.c65 58 [] (fun c => !ruleOk c) s.rules hok.rules.1 (fun x hx => by
    rw [EvF_run h.c58.e58 rfl]
    simp [f58, callIn_pure, implRule_ev h.c58.c99 x (hok.rules.2 x hx)])
  have h7 := any64_ev h.c64 59 [] (fun c => !exprOk c) s.exprs hok.exprs.1 (fun x hx => by
    rw [EvF_run h.c59.e59 rfl]
    simp [f59, callIn_pure, implExpr_ev h.c59.c100 x (hok.exprs.2 x hx)])
  have n5 : s.cols.any (fun c => !colOk c) = !s.cols.all colOk := by simp [List.any_eq_not_all_not]
  have n6 : s.rules.any (fun c => !ruleOk c) = !s.rules.all ruleOk := by simp [List.any_eq_not_all_not]
  have n7 : s.exprs.any (fun c => !exprOk c) = !s.exprs.all exprOk := by simp [List.any_eq_not_all_not]
  rw [n5] at h5
  rw [n6] at h6
  rw [n7] at h7
  have h8 := areIds_ev h.c60 s.list hok.list.1
  rw [EvF_run h.e23 rfl]
  cases b1 : nameOk s.name
  · simp [f23, callIn_pure, kr, f_0, f_2, f_4, f_6, f_11, f_7, f_12, f_8, f_9, f_10, f_13, f_15, h1, h2, h3, h4, h5, h6, h7, h8, hp, within_ev h.c29, implOk, onK, swOk, b1]
  cases b2 : onlyOk s
  · simp [f23, callIn_pure, kr, f_0, f_2, f_4, f_6, f_11, f_7, f_12, f_8, f_9, f_10, f_13, f_15, h1, h2, h3, h4, h5, h6, h7, h8, hp, within_ev h.c29, implOk, onK, swOk, b1, b2]
  cases b4 : s.cols.all colOk
  · simp [f23, callIn_pure, kr, f_0, f_2, f_4, f_6, f_11, f_7, f_12, f_8, f_9, f_10, f_13, f_15, h1, h2, h3, h4, h5, h6, h7, h8, hp, within_ev h.c29, implOk, onK, swOk, b1, b2, b4]
  cases b5 : s.rules.all ruleOk
  · simp [f23, callIn_pure, kr, f_0, f_2, f_4, f_6, f_11, f_7, f_12, f_8, f_9, f_10, f_13, f_15, h1, h2, h3, h4, h5, h6, h7, h8, hp, within_ev h.c29, implOk, onK, swOk, b1, b2, b4, b5]
  cases b6 : s.exprs.all exprOk
  · simp [f23, callIn_pure, kr, f_0, f_2, f_4, f_6, f_11, f_7, f_12, f_8, f_9, f_10, f_13, f_15, h1, h2, h3, h4, h5, h6, h7, h8, hp, within_ev h.c29, implOk, onK, swOk, b1, b2, b4, b5, b6]
  simp [f23, callIn_pure, kr, f_0, f_2, f_4, f_6, f_11, f_7, f_12, f_8, f_9, f_10, f_13, f_15, h1, h2, h3, h4, h5, h6, h7, h8, hp, within_ev h.c29, implOk, onK, swOk, b1, b2, b4, b5, b6]
set_option maxHeartbeats 40000000 in
theorem impl_4 (h : H23 Γ) (s : Stmt) (hok : s.Ok) (k4 : s.kind = 4) : EvF Γ 23 [s.d] [] = some (.bool (implOk s), []) := by
  have h1 := implName_ev h.c44 s.name
  have h2 := isOnly_ev h.c61 s
  have h3 := used_ev h.c62 s.kind
  have hu : usedS s.kind = [99, 111, 108, 115, 32, 114, 117, 108, 101, 115] := by simp [usedS, k4]
  rw [hu] at h3
  have kr : (decide (0 ≤ s.kind) && decide (s.kind ≤ 16)) = true := by simp [k4]
  have f_0 : (s.kind = 0) = False := by simp [k4]
  have f_2 : (s.kind = 2) = False := by simp [k4]
  have f_4 : (s.kind = 4) = True := by simp [k4]
  have f_6 : (s.kind = 6) = False := by simp [k4]
  have f_11 : (s.kind = 11) = False := by simp [k4]
  have f_7 : (s.kind = 7) = False := by simp [k4]
  have f_12 : (s.kind = 12) = False := by simp [k4]
  have f_8 : (s.kind = 8) = False := by simp [k4]
  have f_9 : (s.kind = 9) = False := by simp [k4]
  have f_10 : (s.kind = 10) = False := by simp [k4]
  have f_13 : (s.kind = 13) = False := by simp [k4]
  have f_15 : (s.kind = 15) = False := by simp [k4]
  have hp : EvF Γ 32 [.str [99, 111, 108, 115, 32, 114, 117, 108, 101, 115], .str [111, 110]] [] = some (.bool false, []) := by
    rw [prefix_ev h.c32]
    simp
  have h4 := implName_ev h.c44 s.on
  have h5 := any63_ev h.c63 57 [] (fun c => !colOk c) s.cols hok.cols.1 (fun x hx => by
    rw [EvF_run h.c57.e57 rfl]
    simp [f57, callIn_pure, implCol_ev h.c57.c96 x (hok.cols.2 x hx)])
  have h6 := any65_ev h.c65 58 [] (fun c => !ruleOk c) s.rules hok.rules.1 (fun x hx => by
    rw [EvF_run h.c58.e58 rfl]
    simp [f58, callIn_pure, implRule_ev h.c58.c99 x (hok.rules.2 x hx)])
  have h7 := any64_ev h.c64 59 [] (fun c => !exprOk c) s.exprs hok.exprs.1 (fun x hx => by
    rw [EvF_run h.c59.e59 rfl]
    simp [f59, callIn_pure, implExpr_ev h.c59.c100 x (hok.exprs.2 x hx)])
  have n5 : s.cols.any (fun c => !colOk c) = !s.cols.all colOk := by simp [List.any_eq_not_all_not]
  have n6 : s.rules.any (fun c => !ruleOk c) = !s.rules.all ruleOk := by simp [List.any_eq_not_all_not]
  have n7 : s.exprs.any (fun c => !exprOk c) = !s.exprs.all exprOk := by simp [List.any_eq_not_all_not]
  rw [n5] at h5
  rw [n6] at h6
  rw [n7] at h7
  have h8 := areIds_ev h.c60 s.list hok.list.1
  rw [EvF_run h.e23 rfl]
  cases b1 : nameOk s.name
  · simp [f23, callIn_pure, kr, f_0, f_2, f_4, f_6, f_11, f_7, f_12, f_8, f_9, f_10, f_13, f_15, h1, h2, h3, h4, h5, h6, h7, h8, hp, within_ev h.c29, implOk, onK, swOk, b1]
  cases b2 : onlyOk s
  · simp [f23, callIn_pure, kr, f_0, f_2, f_4, f_6, f_11, f_7, f_12, f_8, f_9, f_10, f_13, f_15, h1, h2, h3, h4, h5, h6, h7, h8, hp, within_ev h.c29, implOk, onK, swOk, b1, b2]
  cases b4 : s.cols.all colOk
  · simp [f23, callIn_pure, kr, f_0, f_2, f_4, f_6, f_11, f_7, f_12, f_8, f_9, f_10, f_13, f_15, h1, h2, h3, h4, h5, h6, h7, h8, hp, within_ev h.c29, implOk, onK, swOk, b1, b2, b4]
  cases b5 : s.rules.all ruleOk
  · simp [f23, callIn_pure, kr, f_0, f_2, f_4, f_6, f_11, f_7, f_12, f_8, f_9, f_10, f_13, f_15, h1, h2, h3, h4, h5, h6, h7, h8, hp, within_ev h.c29, implOk, onK, swOk, b1, b2, b4, b5]
  cases b6 : s.exprs.all exprOk
  · simp [f23, callIn_pure, kr, f_0, f_2, f_4, f_6, f_11, f_7, f_12, f_8, f_9, f_10, f_13, f_15, h1, h2, h3, h4, h5, h6, h7, h8, hp, within_ev h.c29, implOk, onK, swOk, b1, b2, b4, b5, b6]
  have c1 : decide ((s.cols.length : Int) ≤ 12) = decide (s.cols.length ≤ 12) := decide_eq_decide.2 (by omega)
  have c2 : decide ((s.rules.length : Int) ≤ 8) = decide (s.rules.length ≤ 8) := decide_eq_decide.2 (by omega)
  cases d1 : decide (s.cols.length ≤ 12)
  · simp [f23, callIn_pure, kr, f_0, f_2, f_4, f_6, f_11, f_7, f_12, f_8, f_9, f_10, f_13, f_15, h1, h2, h3, h4, h5, h6, h7, h8, hp, within_ev h.c29, implOk, onK, swOk, b1, b2, b4, b5, b6, c1, c2, d1]
  simp [f23, callIn_pure, kr, f_0, f_2, f_4, f_6, f_11, f_7, f_12, f_8, f_9, f_10, f_13, f_15, h1, h2, h3, h4, h5, h6, h7, h8, hp, within_ev h.c29, implOk, onK, swOk, b1, b2, b4, b5, b6, c1, c2, d1]
set_option maxHeartbeats 40000000 in
theorem impl_6 (h : H23 Γ) (s : Stmt) (hok : s.Ok) (k6 : s.kind = 6) : EvF Γ 23 [s.d] [] = some (.bool (implOk s), []) := by
  have h1 := implName_ev h.c44 s.name
  have h2 := isOnly_ev h.c61 s
  have h3 := used_ev h.c62 s.kind
  have hu : usedS s.kind = [99, 111, 108, 115] := by simp [usedS, k6]
  rw [hu] at h3
  have kr : (decide (0 ≤ s.kind) && decide (s.kind ≤ 16)) = true := by simp [k6]
  have f_0 : (s.kind = 0) = False := by simp [k6]
  have f_2 : (s.kind = 2) = False := by simp [k6]
  have f_4 : (s.kind = 4) = False := by simp [k6]
  have f_6 : (s.kind = 6) = True := by simp [k6]
  have f_11 : (s.kind = 11) = False := by simp [k6]
  have f_7 : (s.kind = 7) = False := by simp [k6]
  have f_12 : (s.kind = 12) = False := by simp [k6]
  have f_8 : (s.kind = 8) = False := by simp [k6]
  have f_9 : (s.kind = 9) = False := by simp [k6]
  have f_10 : (s.kind = 10) = False := by simp [k6]
  have f_13 : (s.kind = 13) = False := by simp [k6]
  have f_15 : (s.kind = 15) = False := by simp [k6]
  have hp : EvF Γ 32 [.str [99, 111, 108, 115], .str [111, 110]] [] = some (.bool false, []) := by
    rw [prefix_ev h.c32]
    simp
  have h4 := implName_ev h.c44 s.on
  have h5 := any63_ev h.c63 57 [] (fun c => !colOk c) s.cols hok.cols.1 (fun x hx => by
    rw [EvF_run h.c57.e57 rfl]
    simp [f57, callIn_pure, implCol_ev h.c57.c96 x (hok.cols.2 x hx)])
  have h6 := any65_ev h.c65 58 [] (fun c => !ruleOk c) s.rules hok.rules.1 (fun x hx => by
    rw [EvF_run h.c58.e58 rfl]
    simp [f58, callIn_pure, implRule_ev h.c58.c99 x (hok.rules.2 x hx)])
  have h7 := any64_ev h.c64 59 [] (fun c => !exprOk c) s.exprs hok.exprs.1 (fun x hx => by
    rw [EvF_run h.c59.e59 rfl]
    simp [f59, callIn_pure, implExpr_ev h.c59.c100 x (hok.exprs.2 x hx)])
  have n5 : s.cols.any (fun c => !colOk c) = !s.cols.all colOk := by simp [List.any_eq_not_all_not]
  have n6 : s.rules.any (fun c => !ruleOk c) = !s.rules.all ruleOk := by simp [List.any_eq_not_all_not]
  have n7 : s.exprs.any (fun c => !exprOk c) = !s.exprs.all exprOk := by simp [List.any_eq_not_all_not]
  rw [n5] at h5
  rw [n6] at h6
  rw [n7] at h7
  have h8 := areIds_ev h.c60 s.list hok.list.1
  rw [EvF_run h.e23 rfl]
  cases b1 : nameOk s.name
  · simp [f23, callIn_pure, kr, f_0, f_2, f_4, f_6, f_11, f_7, f_12, f_8, f_9, f_10, f_13, f_15, h1, h2, h3, h4, h5, h6, h7, h8, hp, within_ev h.c29, implOk, onK, swOk, b1]
  cases b2 : onlyOk s
  · simp [f23, callIn_pure, kr, f_0, f_2, f_4, f_6, f_11, f_7, f_12, f_8, f_9, f_10, f_13, f_15, h1, h2, h3, h4, h5, h6, h7, h8, hp, within_ev h.c29, implOk, onK, swOk, b1, b2]
  cases b4 : s.cols.all colOk
  · simp [f23, callIn_pure, kr, f_0, f_2, f_4, f_6, f_11, f_7, f_12, f_8, f_9, f_10, f_13, f_15, h1, h2, h3, h4, h5, h6, h7, h8, hp, within_ev h.c29, implOk, onK, swOk, b1, b2, b4]
  cases b5 : s.rules.all ruleOk
  · simp [f23, callIn_pure, kr, f_0, f_2, f_4, f_6, f_11, f_7, f_12, f_8, f_9, f_10, f_13, f_15, h1, h2, h3, h4, h5, h6, h7, h8, hp, within_ev h.c29, implOk, onK, swOk, b1, b2, b4, b5]
  cases b6 : s.exprs.all exprOk
  · simp [f23, callIn_pure, kr, f_0, f_2, f_4, f_6, f_11, f_7, f_12, f_8, f_9, f_10, f_13, f_15, h1, h2, h3, h4, h5, h6, h7, h8, hp, within_ev h.c29, implOk, onK, swOk, b1, b2, b4, b5, b6]
  have c1 : decide ((s.cols.length : Int) = 1) = decide (s.cols.length = 1) := decide_eq_decide.2 (by omega)
  simp [f23, callIn_pure, kr, f_0, f_2, f_4, f_6, f_11, f_7, f_12, f_8, f_9, f_10, f_13, f_15, h1, h2, h3, h4, h5, h6, h7, h8, hp, within_ev h.c29, implOk, onK, swOk, b1, b2, b4, b5, b6, c1]
set_option maxHeartbeats 40000000 in
theorem impl_11 (h : H23 Γ) (s : Stmt) (hok : s.Ok) (k11 : s.kind = 11) : EvF Γ 23 [s.d] [] = some (.bool (implOk s), []) := by
  have h1 := implName_ev h.c44 s.name
  have h2 := isOnly_ev h.c61 s
  have h3 := used_ev h.c62 s.kind
  have hu : usedS s.kind = [114, 117, 108, 101, 115] := by simp [usedS, k11]
  rw [hu] at h3
  have kr : (decide (0 ≤ s.kind) && decide (s.kind ≤ 16)) = true := by simp [k11]
  have f_0 : (s.kind = 0) = False := by simp [k11]
  have f_2 : (s.kind = 2) = False := by simp [k11]
  have f_4 : (s.kind = 4) = False := by simp [k11]
  have f_6 : (s.kind = 6) = False := by simp [k11]
  have f_11 : (s.kind = 11) = True := by simp [k11]
  have f_7 : (s.kind = 7) = False := by simp [k11]
  have f_12 : (s.kind = 12) = False := by simp [k11]
  have f_8 : (s.kind = 8) = False := by simp [k11]
  have f_9 : (s.kind = 9) = False := by simp [k11]
  have f_10 : (s.kind = 10) = False := by simp [k11]
  have f_13 : (s.kind = 13) = False := by simp [k11]
  have f_15 : (s.kind = 15) = False := by simp [k11]
  have hp : EvF Γ 32 [.str [114, 117, 108, 101, 115], .str [111, 110]] [] = some (.bool false, []) := by
    rw [prefix_ev h.c32]
    simp
  have h4 := implName_ev h.c44 s.on
  have h5 := any63_ev h.c63 57 [] (fun c => !colOk c) s.cols hok.cols.1 (fun x hx => by
    rw [EvF_run h.c57.e57 rfl]
    simp [f57, callIn_pure, implCol_ev h.c57.c96 x (hok.cols.2 x hx)])
  have h6 := any65_ev h.c65 58 [] (fun c => !ruleOk c) s.rules hok.rules.1 (fun x hx => by
    rw [EvF_run h.c58.e58 rfl]
    simp [f58, callIn_pure, implRule_ev h.c58.c99 x (hok.rules.2 x hx)])
  have h7 := any64_ev h.c64 59 [] (fun c => !exprOk c) s.exprs hok.exprs.1 (fun x hx => by
    rw [EvF_run h.c59.e59 rfl]
    simp [f59, callIn_pure, implExpr_ev h.c59.c100 x (hok.exprs.2 x hx)])
  have n5 : s.cols.any (fun c => !colOk c) = !s.cols.all colOk := by simp [List.any_eq_not_all_not]
  have n6 : s.rules.any (fun c => !ruleOk c) = !s.rules.all ruleOk := by simp [List.any_eq_not_all_not]
  have n7 : s.exprs.any (fun c => !exprOk c) = !s.exprs.all exprOk := by simp [List.any_eq_not_all_not]
  rw [n5] at h5
  rw [n6] at h6
  rw [n7] at h7
  have h8 := areIds_ev h.c60 s.list hok.list.1
  rw [EvF_run h.e23 rfl]
  cases b1 : nameOk s.name
  · simp [f23, callIn_pure, kr, f_0, f_2, f_4, f_6, f_11, f_7, f_12, f_8, f_9, f_10, f_13, f_15, h1, h2, h3, h4, h5, h6, h7, h8, hp, within_ev h.c29, implOk, onK, swOk, b1]
  cases b2 : onlyOk s
  · simp [f23, callIn_pure, kr, f_0, f_2, f_4, f_6, f_11, f_7, f_12, f_8, f_9, f_10, f_13, f_15, h1, h2, h3, h4, h5, h6, h7, h8, hp, within_ev h.c29, implOk, onK, swOk, b1, b2]
  cases b4 : s.cols.all colOk
  · simp [f23, callIn_pure, kr, f_0, f_2, f_4, f_6, f_11, f_7, f_12, f_8, f_9, f_10, f_13, f_15, h1, h2, h3, h4, h5, h6, h7, h8, hp, within_ev h.c29, implOk, onK, swOk, b1, b2, b4]
  cases b5 : s.rules.all ruleOk
  · simp [f23, callIn_pure, kr, f_0, f_2, f_4, f_6, f_11, f_7, f_12, f_8, f_9, f_10, f_13, f_15, h1, h2, h3, h4, h5, h6, h7, h8, hp, within_ev h.c29, implOk, onK, swOk, b1, b2, b4, b5]
  cases b6 : s.exprs.all exprOk
  · simp [f23, callIn_pure, kr, f_0, f_2, f_4, f_6, f_11, f_7, f_12, f_8, f_9, f_10, f_13, f_15, h1, h2, h3, h4, h5, h6, h7, h8, hp, within_ev h.c29, implOk, onK, swOk, b1, b2, b4, b5, b6]
  have c1 : decide ((s.rules.length : Int) = 1) = decide (s.rules.length = 1) := decide_eq_decide.2 (by omega)
  simp [f23, callIn_pure, kr, f_0, f_2, f_4, f_6, f_11, f_7, f_12, f_8, f_9, f_10, f_13, f_15, h1, h2, h3, h4, h5, h6, h7, h8, hp, within_ev h.c29, implOk, onK, swOk, b1, b2, b4, b5, b6, c1]
set_option maxHeartbeats 40000000 in
theorem impl_7 (h : H23 Γ) (s : Stmt) (hok : s.Ok) (k7 : s.kind = 7) : EvF Γ 23 [s.d] [] = some (.bool (implOk s), []) := by
  have h1 := implName_ev h.c44 s.name
  have h2 := isOnly_ev h.c61 s
  have h3 := used_ev h.c62 s.kind
  have hu : usedS s.kind = [111, 110] := by simp [usedS, k7]
  rw [hu] at h3
  have kr : (decide (0 ≤ s.kind) && decide (s.kind ≤ 16)) = true := by simp [k7]
  have f_0 : (s.kind = 0) = False := by simp [k7]
  have f_2 : (s.kind = 2) = False := by simp [k7]
  have f_4 : (s.kind = 4) = False := by simp [k7]
  have f_6 : (s.kind = 6) = False := by simp [k7]
  have f_11 : (s.kind = 11) = False := by simp [k7]
  have f_7 : (s.kind = 7) = True := by simp [k7]
  have f_12 : (s.kind = 12) = False := by simp [k7]
  have f_8 : (s.kind = 8) = False := by simp [k7]
  have f_9 : (s.kind = 9) = False := by simp [k7]
  have f_10 : (s.kind = 10) = False := by simp [k7]
  have f_13 : (s.kind = 13) = False := by simp [k7]
  have f_15 : (s.kind = 15) = False := by simp [k7]
  have hp : EvF Γ 32 [.str [111, 110], .str [111, 110]] [] = some (.bool true, []) := by
    rw [prefix_ev h.c32]
    simp
  have h4 := implName_ev h.c44 s.on
  have h5 := any63_ev h.c63 57 [] (fun c => !colOk c) s.cols hok.cols.1 (fun x hx => by
    rw [EvF_run h.c57.e57 rfl]
    simp [f57, callIn_pure, implCol_ev h.c57.c96 x (hok.cols.2 x hx)])
  have h6 := any65_ev h.c65 58 [] (fun c => !ruleOk c) s.rules hok.rules.1 (fun x hx => by
    rw [EvF_run h.c58.e58 rfl]
    simp [f58, callIn_pure, implRule_ev h.c58.c99 x (hok.rules.2 x hx)])
  have h7 := any64_ev h.c64 59 [] (fun c => !exprOk c) s.exprs hok.exprs.1 (fun x hx => by
    rw [EvF_run h.c59.e59 rfl]
    simp [f59, callIn_pure, implExpr_ev h.c59.c100 x (hok.exprs.2 x hx)])
  have n5 : s.cols.any (fun c => !colOk c) = !s.cols.all colOk := by simp [List.any_eq_not_all_not]
  have n6 : s.rules.any (fun c => !ruleOk c) = !s.rules.all ruleOk := by simp [List.any_eq_not_all_not]
  have n7 : s.exprs.any (fun c => !exprOk c) = !s.exprs.all exprOk := by simp [List.any_eq_not_all_not]
  rw [n5] at h5
  rw [n6] at h6
  rw [n7] at h7
  have h8 := areIds_ev h.c60 s.list hok.list.1
  rw [EvF_run h.e23 rfl]
  cases b1 : nameOk s.name
  · simp [f23, callIn_pure, kr, f_0, f_2, f_4, f_6, f_11, f_7, f_12, f_8, f_9, f_10, f_13, f_15, h1, h2, h3, h4, h5, h6, h7, h8, hp, within_ev h.c29, implOk, onK, swOk, b1]
  cases b2 : onlyOk s
  · simp [f23, callIn_pure, kr, f_0, f_2, f_4, f_6, f_11, f_7, f_12, f_8, f_9, f_10, f_13, f_15, h1, h2, h3, h4, h5, h6, h7, h8, hp, within_ev h.c29, implOk, onK, swOk, b1, b2]
  cases b3 : nameOk s.on
  · simp [f23, callIn_pure, kr, f_0, f_2, f_4, f_6, f_11, f_7, f_12, f_8, f_9, f_10, f_13, f_15, h1, h2, h3, h4, h5, h6, h7, h8, hp, within_ev h.c29, implOk, onK, swOk, b1, b2, b3]
  cases b4 : s.cols.all colOk
  · simp [f23, callIn_pure, kr, f_0, f_2, f_4, f_6, f_11, f_7, f_12, f_8, f_9, f_10, f_13, f_15, h1, h2, h3, h4, h5, h6, h7, h8, hp, within_ev h.c29, implOk, onK, swOk, b1, b2, b3, b4]
  cases b5 : s.rules.all ruleOk
  · simp [f23, callIn_pure, kr, f_0, f_2, f_4, f_6, f_11, f_7, f_12, f_8, f_9, f_10, f_13, f_15, h1, h2, h3, h4, h5, h6, h7, h8, hp, within_ev h.c29, implOk, onK, swOk, b1, b2, b3, b4, b5]
  cases b6 : s.exprs.all exprOk
  · simp [f23, callIn_pure, kr, f_0, f_2, f_4, f_6, f_11, f_7, f_12, f_8, f_9, f_10, f_13, f_15, h1, h2, h3, h4, h5, h6, h7, h8, hp, within_ev h.c29, implOk, onK, swOk, b1, b2, b3, b4, b5, b6]
  simp [f23, callIn_pure, kr, f_0, f_2, f_4, f_6, f_11, f_7, f_12, f_8, f_9, f_10, f_13, f_15, h1, h2, h3, h4, h5, h6, h7, h8, hp, within_ev h.c29, implOk, onK, swOk, b1, b2, b3, b4, b5, b6]
set_option maxHeartbeats 40000000 in
theorem impl_12 (h : H23 Γ) (s : Stmt) (hok : s.Ok) (k12 : s.kind = 12) : EvF Γ 23 [s.d] [] = some (.bool (implOk s), []) := by
  have h1 := implName_ev h.c44 s.name
  have h2 := isOnly_ev h.c61 s
  have h3 := used_ev h.c62 s.kind
  have hu : usedS s.kind = [111, 110] := by simp [usedS, k12]
  rw [hu] at h3
  have kr : (decide (0 ≤ s.kind) && decide (s.kind ≤ 16)) = true := by simp [k12]
  have f_0 : (s.kind = 0) = False := by simp [k12]
  have f_2 : (s.kind = 2) = False := by simp [k12]
  have f_4 : (s.kind = 4) = False := by simp [k12]
  have f_6 : (s.kind = 6) = False := by simp [k12]
  have f_11 : (s.kind = 11) = False := by simp [k12]
  have f_7 : (s.kind = 7) = False := by simp [k12]
  have f_12 : (s.kind = 12) = True := by simp [k12]
  have f_8 : (s.kind = 8) = False := by simp [k12]
  have f_9 : (s.kind = 9) = False := by simp [k12]
  have f_10 : (s.kind = 10) = False := by simp [k12]
  have f_13 : (s.kind = 13) = False := by simp [k12]
  have f_15 : (s.kind = 15) = False := by simp [k12]
  have hp : EvF Γ 32 [.str [111, 110], .str [111, 110]] [] = some (.bool true, []) := by
    rw [prefix_ev h.c32]
    simp
  have h4 := implName_ev h.c44 s.on
  have h5 := any63_ev h.c63 57 [] (fun c => !colOk c) s.cols hok.cols.1 (fun x hx => by
    rw [EvF_run h.c57.e57 rfl]
    simp [f57, callIn_pure, implCol_ev h.c57.c96 x (hok.cols.2 x hx)])
  have h6 := any65_ev h.c65 58 [] (fun c => !ruleOk c) s.rules hok.rules.1 (fun x hx => by
    rw [EvF_run h.c58.e58 rfl]
    simp [f58, callIn_pure, implRule_ev h.c58.c99 x (hok.rules.2 x hx)])
  have h7 := any64_ev h.c64 59 [] (fun c => !exprOk c) s.exprs hok.exprs.1 (fun x hx => by
    rw [EvF_run h.c59.e59 rfl]
    simp [f59, callIn_pure, implExpr_ev h.c59.c100 x (hok.exprs.2 x hx)])
  have n5 : s.cols.any (fun c => !colOk c) = !s.cols.all colOk := by simp [List.any_eq_not_all_not]
  have n6 : s.rules.any (fun c => !ruleOk c) = !s.rules.all ruleOk := by simp [List.any_eq_not_all_not]
  have n7 : s.exprs.any (fun c => !exprOk c) = !s.exprs.all exprOk := by simp [List.any_eq_not_all_not]
  rw [n5] at h5
  rw [n6] at h6
  rw [n7] at h7
  have h8 := areIds_ev h.c60 s.list hok.list.1
  rw [EvF_run h.e23 rfl]
  cases b1 : nameOk s.name
  · simp [f23, callIn_pure, kr, f_0, f_2, f_4, f_6, f_11, f_7, f_12, f_8, f_9, f_10, f_13, f_15, h1, h2, h3, h4, h5, h6, h7, h8, hp, within_ev h.c29, implOk, onK, swOk, b1]
  cases b2 : onlyOk s
  · simp [f23, callIn_pure, kr, f_0, f_2, f_4, f_6, f_11, f_7, f_12, f_8, f_9, f_10, f_13, f_15, h1, h2, h3, h4, h5, h6, h7, h8, hp, within_ev h.c29, implOk, onK, swOk, b1, b2]
  cases b3 : nameOk s.on
  · simp [f23, callIn_pure, kr, f_0, f_2, f_4, f_6, f_11, f_7, f_12, f_8, f_9, f_10, f_13, f_15, h1, h2, h3, h4, h5, h6, h7, h8, hp, within_ev h.c29, implOk, onK, swOk, b1, b2, b3]
  cases b4 : s.cols.all colOk
  · simp [f23, callIn_pure, kr, f_0, f_2, f_4, f_6, f_11, f_7, f_12, f_8, f_9, f_10, f_13, f_15, h1, h2, h3, h4, h5, h6, h7, h8, hp, within_ev h.c29, implOk, onK, swOk, b1, b2, b3, b4]
  cases b5 : s.rules.all ruleOk
  · simp [f23, callIn_pure, kr, f_0, f_2, f_4, f_6, f_11, f_7, f_12, f_8, f_9, f_10, f_13, f_15, h1, h2, h3, h4, h5, h6, h7, h8, hp, within_ev h.c29, implOk, onK, swOk, b1, b2, b3, b4, b5]
  cases b6 : s.exprs.all exprOk
  · simp [f23, callIn_pure, kr, f_0, f_2, f_4, f_6, f_11, f_7, f_12, f_8, f_9, f_10, f_13, f_15, h1, h2, h3, h4, h5, h6, h7, h8, hp, within_ev h.c29, implOk, onK, swOk, b1, b2, b3, b4, b5, b6]
  simp [f23, callIn_pure, kr, f_0, f_2, f_4, f_6, f_11, f_7, f_12, f_8, f_9, f_10, f_13, f_15, h1, h2, h3, h4, h5, h6, h7, h8, hp, within_ev h.c29, implOk, onK, swOk, b1, b2, b3, b4, b5, b6]
set_option maxHeartbeats 40000000 in
theorem impl_8 (h : H23 Γ) (s : Stmt) (hok : s.Ok) (k8 : s.kind = 8) : EvF Γ 23 [s.d] [] = some (.bool (implOk s), []) := by
  have h1 := implName_ev h.c44 s.name
  have h2 := isOnly_ev h.c61 s
  have h3 := used_ev h.c62 s.kind
  have hu : usedS s.kind = [111, 110, 32, 116, 121, 112, 101] := by simp [usedS, k8]
  rw [hu] at h3
  have kr : (decide (0 ≤ s.kind) && decide (s.kind ≤ 16)) = true := by simp [k8]
  have f_0 : (s.kind = 0) = False := by simp [k8]
  have f_2 : (s.kind = 2) = False := by simp [k8]
  have f_4 : (s.kind = 4) = False := by simp [k8]
  have f_6 : (s.kind = 6) = False := by simp [k8]
  have f_11 : (s.kind = 11) = False := by simp [k8]
  have f_7 : (s.kind = 7) = False := by simp [k8]
  have f_12 : (s.kind = 12) = False := by simp [k8]
  have f_8 : (s.kind = 8) = True := by simp [k8]
  have f_9 : (s.kind = 9) = False := by simp [k8]
  have f_10 : (s.kind = 10) = False := by simp [k8]
  have f_13 : (s.kind = 13) = False := by simp [k8]
  have f_15 : (s.kind = 15) = False := by simp [k8]
  have hp : EvF Γ 32 [.str [111, 110, 32, 116, 121, 112, 101], .str [111, 110]] [] = some (.bool true, []) := by
    rw [prefix_ev h.c32]
    simp
  have h4 := implName_ev h.c44 s.on
  have h5 := any63_ev h.c63 57 [] (fun c => !colOk c) s.cols hok.cols.1 (fun x hx => by
    rw [EvF_run h.c57.e57 rfl]
    simp [f57, callIn_pure, implCol_ev h.c57.c96 x (hok.cols.2 x hx)])
  have h6 := any65_ev h.c65 58 [] (fun c => !ruleOk c) s.rules hok.rules.1 (fun x hx => by
    rw [EvF_run h.c58.e58 rfl]
    simp [f58, callIn_pure, implRule_ev h.c58.c99 x (hok.rules.2 x hx)])
  have h7 := any64_ev h.c64 59 [] (fun c => !exprOk c) s.exprs hok.exprs.1 (fun x hx => by
    rw [EvF_run h.c59.e59 rfl]
    simp [f59, callIn_pure, implExpr_ev h.c59.c100 x (hok.exprs.2 x hx)])
  have n5 : s.cols.any (fun c => !colOk c) = !s.cols.all colOk := by simp [List.any_eq_not_all_not]
  have n6 : s.rules.any (fun c => !ruleOk c) = !s.rules.all ruleOk := by simp [List.any_eq_not_all_not]
  have n7 : s.exprs.any (fun c => !exprOk c) = !s.exprs.all exprOk := by simp [List.any_eq_not_all_not]
  rw [n5] at h5
  rw [n6] at h6
  rw [n7] at h7
  have h8 := implType_ev h.c18 s.ty
  rw [EvF_run h.e23 rfl]
  cases b1 : nameOk s.name
  · simp [f23, callIn_pure, kr, f_0, f_2, f_4, f_6, f_11, f_7, f_12, f_8, f_9, f_10, f_13, f_15, h1, h2, h3, h4, h5, h6, h7, h8, hp, within_ev h.c29, implOk, onK, swOk, b1]
  cases b2 : onlyOk s
  · simp [f23, callIn_pure, kr, f_0, f_2, f_4, f_6, f_11, f_7, f_12, f_8, f_9, f_10, f_13, f_15, h1, h2, h3, h4, h5, h6, h7, h8, hp, within_ev h.c29, implOk, onK, swOk, b1, b2]
  cases b3 : nameOk s.on
  · simp [f23, callIn_pure, kr, f_0, f_2, f_4, f_6, f_11, f_7, f_12, f_8, f_9, f_10, f_13, f_15, h1, h2, h3, h4, h5, h6, h7, h8, hp, within_ev h.c29, implOk, onK, swOk, b1, b2, b3]
  cases b4 : s.cols.all colOk
  · simp [f23, callIn_pure, kr, f_0, f_2, f_4, f_6, f_11, f_7, f_12, f_8, f_9, f_10, f_13, f_15, h1, h2, h3, h4, h5, h6, h7, h8, hp, within_ev h.c29, implOk, onK, swOk, b1, b2, b3, b4]
  cases b5 : s.rules.all ruleOk
  · simp [f23, callIn_pure, kr, f_0, f_2, f_4, f_6, f_11, f_7, f_12, f_8, f_9, f_10, f_13, f_15, h1, h2, h3, h4, h5, h6, h7, h8, hp, within_ev h.c29, implOk, onK, swOk, b1, b2, b3, b4, b5]
  cases b6 : s.exprs.all exprOk
  · simp [f23, callIn_pure, kr, f_0, f_2, f_4, f_6, f_11, f_7, f_12, f_8, f_9, f_10, f_13, f_15, h1, h2, h3, h4, h5, h6, h7, h8, hp, within_ev h.c29, implOk, onK, swOk, b1, b2, b3, b4, b5, b6]
  simp [f23, callIn_pure, kr, f_0, f_2, f_4, f_6, f_11, f_7, f_12, f_8, f_9, f_10, f_13, f_15, h1, h2, h3, h4, h5, h6, h7, h8, hp, within_ev h.c29, implOk, onK, swOk, b1, b2, b3, b4, b5, b6]
set_option maxHeartbeats 40000000 in
theorem impl_9 (h : H23 Γ) (s : Stmt) (hok : s.Ok) (k9 : s.kind = 9) : EvF Γ 23 [s.d] [] = some (.bool (implOk s), []) := by
  have h1 := implName_ev h.c44 s.name
  have h2 := isOnly_ev h.c61 s
  have h3 := used_ev h.c62 s.kind
  have hu : usedS s.kind = [111, 110, 32, 102, 108, 97, 103] := by simp [usedS, k9]
  rw [hu] at h3
  have kr : (decide (0 ≤ s.kind) && decide (s.kind ≤ 16)) = true := by simp [k9]
  have f_0 : (s.kind = 0) = False := by simp [k9]
  have f_2 : (s.kind = 2) = False := by simp [k9]
  have f_4 : (s.kind = 4) = False := by simp [k9]
  have f_6 : (s.kind = 6) = False := by simp [k9]
  have f_11 : (s.kind = 11) = False := by simp [k9]
  have f_7 : (s.kind = 7) = False := by simp [k9]
  have f_12 : (s.kind = 12) = False := by simp [k9]
  have f_8 : (s.kind = 8) = False := by simp [k9]
  have f_9 : (s.kind = 9) = True := by simp [k9]
  have f_10 : (s.kind = 10) = False := by simp [k9]
  have f_13 : (s.kind = 13) = False := by simp [k9]
  have f_15 : (s.kind = 15) = False := by simp [k9]
  have hp : EvF Γ 32 [.str [111, 110, 32, 102, 108, 97, 103], .str [111, 110]] [] = some (.bool true, []) := by
    rw [prefix_ev h.c32]
    simp
  have h4 := implName_ev h.c44 s.on
  have h5 := any63_ev h.c63 57 [] (fun c => !colOk c) s.cols hok.cols.1 (fun x hx => by
    rw [EvF_run h.c57.e57 rfl]
    simp [f57, callIn_pure, implCol_ev h.c57.c96 x (hok.cols.2 x hx)])
  have h6 := any65_ev h.c65 58 [] (fun c => !ruleOk c) s.rules hok.rules.1 (fun x hx => by
    rw [EvF_run h.c58.e58 rfl]
    simp [f58, callIn_pure, implRule_ev h.c58.c99 x (hok.rules.2 x hx)])
  have h7 := any64_ev h.c64 59 [] (fun c => !exprOk c) s.exprs hok.exprs.1 (fun x hx => by
    rw [EvF_run h.c59.e59 rfl]
    simp [f59, callIn_pure, implExpr_ev h.c59.c100 x (hok.exprs.2 x hx)])
  have n5 : s.cols.any (fun c => !colOk c) = !s.cols.all colOk := by simp [List.any_eq_not_all_not]
  have n6 : s.rules.any (fun c => !ruleOk c) = !s.rules.all ruleOk := by simp [List.any_eq_not_all_not]
  have n7 : s.exprs.any (fun c => !exprOk c) = !s.exprs.all exprOk := by simp [List.any_eq_not_all_not]
  rw [n5] at h5
  rw [n6] at h6
  rw [n7] at h7
  have h8 := areIds_ev h.c60 s.list hok.list.1
  rw [EvF_run h.e23 rfl]
  cases b1 : nameOk s.name
  · simp [f23, callIn_pure, kr, f_0, f_2, f_4, f_6, f_11, f_7, f_12, f_8, f_9, f_10, f_13, f_15, h1, h2, h3, h4, h5, h6, h7, h8, hp, within_ev h.c29, implOk, onK, swOk, b1]
  cases b2 : onlyOk s
  · simp [f23, callIn_pure, kr, f_0, f_2, f_4, f_6, f_11, f_7, f_12, f_8, f_9, f_10, f_13, f_15, h1, h2, h3, h4, h5, h6, h7, h8, hp, within_ev h.c29, implOk, onK, swOk, b1, b2]
  cases b3 : nameOk s.on
  · simp [f23, callIn_pure, kr, f_0, f_2, f_4, f_6, f_11, f_7, f_12, f_8, f_9, f_10, f_13, f_15, h1, h2, h3, h4, h5, h6, h7, h8, hp, within_ev h.c29, implOk, onK, swOk, b1, b2, b3]
  cases b4 : s.cols.all colOk
  · simp [f23, callIn_pure, kr, f_0, f_2, f_4, f_6, f_11, f_7, f_12, f_8, f_9, f_10, f_13, f_15, h1, h2, h3, h4, h5, h6, h7, h8, hp, within_ev h.c29, implOk, onK, swOk, b1, b2, b3, b4]
  cases b5 : s.rules.all ruleOk
  · simp [f23, callIn_pure, kr, f_0, f_2, f_4, f_6, f_11, f_7, f_12, f_8, f_9, f_10, f_13, f_15, h1, h2, h3, h4, h5, h6, h7, h8, hp, within_ev h.c29, implOk, onK, swOk, b1, b2, b3, b4, b5]
  cases b6 : s.exprs.all exprOk
  · simp [f23, callIn_pure, kr, f_0, f_2, f_4, f_6, f_11, f_7, f_12, f_8, f_9, f_10, f_13, f_15, h1, h2, h3, h4, h5, h6, h7, h8, hp, within_ev h.c29, implOk, onK, swOk, b1, b2, b3, b4, b5, b6]
  simp [f23, callIn_pure, kr, f_0, f_2, f_4, f_6, f_11, f_7, f_12, f_8, f_9, f_10, f_13, f_15, h1, h2, h3, h4, h5, h6, h7, h8, hp, within_ev h.c29, implOk, onK, swOk, b1, b2, b3, b4, b5, b6]
set_option maxHeartbeats 40000000 in
theorem impl_10 (h : H23 Γ) (s : Stmt) (hok : s.Ok) (k10 : s.kind = 10) : EvF Γ 23 [s.d] [] = some (.bool (implOk s), []) := by
  have h1 := implName_ev h.c44 s.name
  have h2 := isOnly_ev h.c61 s
  have h3 := used_ev h.c62 s.kind
  have hu : usedS s.kind = [111, 110, 32, 101, 120, 112, 114, 115] := by simp [usedS, k10]
  rw [hu] at h3
  have kr : (decide (0 ≤ s.kind) && decide (s.kind ≤ 16)) = true := by simp [k10]
  have f_0 : (s.kind = 0) = False := by simp [k10]
  have f_2 : (s.kind = 2) = False := by simp [k10]
  have f_4 : (s.kind = 4) = False := by simp [k10]
  have f_6 : (s.kind = 6) = False := by simp [k10]
  have f_11 : (s.kind = 11) = False := by simp [k10]
  have f_7 : (s.kind = 7) = False := by simp [k10]
  have f_12 : (s.kind = 12) = False := by simp [k10]
  have f_8 : (s.kind = 8) = False := by simp [k10]
  have f_9 : (s.kind = 9) = False := by simp [k10]
  have f_10 : (s.kind = 10) = True := by simp [k10]
  have f_13 : (s.kind = 13) = False := by simp [k10]
  have f_15 : (s.kind = 15) = False := by simp [k10]
  have hp : EvF Γ 32 [.str [111, 110, 32, 101, 120, 112, 114, 115], .str [111, 110]] [] = some (.bool true, []) := by
    rw [prefix_ev h.c32]
    simp
  have h4 := implName_ev h.c44 s.on
  have h5 := any63_ev h.c63 57 [] (fun c => !colOk c) s.cols hok.cols.1 (fun x hx => by
    rw [EvF_run h.c57.e57 rfl]
    simp [f57, callIn_pure, implCol_ev h.c57.c96 x (hok.cols.2 x hx)])
  have h6 := any65_ev h.c65 58 [] (fun c => !ruleOk c) s.rules hok.rules.1 (fun x hx => by
    rw [EvF_run h.c58.e58 rfl]
    simp [f58, callIn_pure, implRule_ev h.c58.c99 x (hok.rules.2 x hx)])
  have h7 := any64_ev h.c64 59 [] (fun c => !exprOk c) s.exprs hok.exprs.1 (fun x hx => by
    rw [EvF_run h.c59.e59 rfl]
    simp [f59, callIn_pure, implExpr_ev h.c59.c100 x (hok.exprs.2 x hx)])
  have n5 : s.cols.any (fun c => !colOk c) = !s.cols.all colOk := by simp [List.any_eq_not_all_not]
  have n6 : s.rules.any (fun c => !ruleOk c) = !s.rules.all ruleOk := by simp [List.any_eq_not_all_not]
  have n7 : s.exprs.any (fun c => !exprOk c) = !s.exprs.all exprOk := by simp [List.any_eq_not_all_not]
  rw [n5] at h5
  rw [n6] at h6
  rw [n7] at h7
  have h8 := areIds_ev h.c60 s.list hok.list.1
  rw [EvF_run h.e23 rfl]
  cases b1 : nameOk s.name
  · simp [f23, callIn_pure, kr, f_0, f_2, f_4, f_6, f_11, f_7, f_12, f_8, f_9, f_10, f_13, f_15, h1, h2, h3, h4, h5, h6, h7, h8, hp, within_ev h.c29, implOk, onK, swOk, b1]
  cases b2 : onlyOk s
  · simp [f23, callIn_pure, kr, f_0, f_2, f_4, f_6, f_11, f_7, f_12, f_8, f_9, f_10, f_13, f_15, h1, h2, h3, h4, h5, h6, h7, h8, hp, within_ev h.c29, implOk, onK, swOk, b1, b2]
  cases b3 : nameOk s.on
  · simp [f23, callIn_pure, kr, f_0, f_2, f_4, f_6, f_11, f_7, f_12, f_8, f_9, f_10, f_13, f_15, h1, h2, h3, h4, h5, h6, h7, h8, hp, within_ev h.c29, implOk, onK, swOk, b1, b2, b3]
  cases b4 : s.cols.all colOk
  · simp [f23, callIn_pure, kr, f_0, f_2, f_4, f_6, f_11, f_7, f_12, f_8, f_9, f_10, f_13, f_15, h1, h2, h3, h4, h5, h6, h7, h8, hp, within_ev h.c29, implOk, onK, swOk, b1, b2, b3, b4]
  cases b5 : s.rules.all ruleOk
  · simp [f23, callIn_pure, kr, f_0, f_2, f_4, f_6, f_11, f_7, f_12, f_8, f_9, f_10, f_13, f_15, h1, h2, h3, h4, h5, h6, h7, h8, hp, within_ev h.c29, implOk, onK, swOk, b1, b2, b3, b4, b5]
  cases b6 : s.exprs.all exprOk
  · simp [f23, callIn_pure, kr, f_0, f_2, f_4, f_6, f_11, f_7, f_12, f_8, f_9, f_10, f_13, f_15, h1, h2, h3, h4, h5, h6, h7, h8, hp, within_ev h.c29, implOk, onK, swOk, b1, b2, b3, b4, b5, b6]
  have c3 : decide ((s.exprs.length : Int) ≤ 1) = decide (s.exprs.length ≤ 1) := decide_eq_decide.2 (by omega)
  simp [f23, callIn_pure, kr, f_0, f_2, f_4, f_6, f_11, f_7, f_12, f_8, f_9, f_10, f_13, f_15, h1, h2, h3, h4, h5, h6, h7, h8, hp, within_ev h.c29, implOk, onK, swOk, b1, b2, b3, b4, b5, b6, c3]
set_option maxHeartbeats 40000000 in
theorem impl_13 (h : H23 Γ) (s : Stmt) (hok : s.Ok) (k13 : s.kind = 13) : EvF Γ 23 [s.d] [] = some (.bool (implOk s), []) := by
  have h1 := implName_ev h.c44 s.name
  have h2 := isOnly_ev h.c61 s
  have h3 := used_ev h.c62 s.kind
  have hu : usedS s.kind = [111, 110, 32, 108, 105, 115, 116, 32, 102, 108, 97, 103] := by simp [usedS, k13]
  rw [hu] at h3
  have kr : (decide (0 ≤ s.kind) && decide (s.kind ≤ 16)) = true := by simp [k13]
  have f_0 : (s.kind = 0) = False := by simp [k13]
  have f_2 : (s.kind = 2) = False := by simp [k13]
  have f_4 : (s.kind = 4) = False := by simp [k13]
  have f_6 : (s.kind = 6) = False := by simp [k13]
  have f_11 : (s.kind = 11) = False := by simp [k13]
  have f_7 : (s.kind = 7) = False := by simp [k13]
  have f_12 : (s.kind = 12) = False := by simp [k13]
  have f_8 : (s.kind = 8) = False := by simp [k13]
  have f_9 : (s.kind = 9) = False := by simp [k13]
  have f_10 : (s.kind = 10) = False := by simp [k13]
  have f_13 : (s.kind = 13) = True := by simp [k13]
  have f_15 : (s.kind = 15) = False := by simp [k13]
  have hp : EvF Γ 32 [.str [111, 110, 32, 108, 105, 115, 116, 32, 102, 108, 97, 103], .str [111, 110]] [] = some (.bool true, []) := by
    rw [prefix_ev h.c32]
    simp
  have h4 := implName_ev h.c44 s.on
  have h5 := any63_ev h.c63 57 [] (fun c => !colOk c) s.cols hok.cols.1 (fun x hx => by
    rw [EvF_run h.c57.e57 rfl]
    simp [f57, callIn_pure, implCol_ev h.c57.c96 x (hok.cols.2 x hx)])
  have h6 := any65_ev h.c65 58 [] (fun c => !ruleOk c) s.rules hok.rules.1 (fun x hx => by
    rw [EvF_run h.c58.e58 rfl]
    simp [f58, callIn_pure, implRule_ev h.c58.c99 x (hok.rules.2 x hx)])
  have h7 := any64_ev h.c64 59 [] (fun c => !exprOk c) s.exprs hok.exprs.1 (fun x hx => by
    rw [EvF_run h.c59.e59 rfl]
    simp [f59, callIn_pure, implExpr_ev h.c59.c100 x (hok.exprs.2 x hx)])
  have n5 : s.cols.any (fun c => !colOk c) = !s.cols.all colOk := by simp [List.any_eq_not_all_not]
  have n6 : s.rules.any (fun c => !ruleOk c) = !s.rules.all ruleOk := by simp [List.any_eq_not_all_not]
  have n7 : s.exprs.any (fun c => !exprOk c) = !s.exprs.all exprOk := by simp [List.any_eq_not_all_not]
  rw [n5] at h5
  rw [n6] at h6
  rw [n7] at h7
  have h8 := areIds_ev h.c60 s.list hok.list.1
  rw [EvF_run h.e23 rfl]
  cases b1 : nameOk s.name
  · simp [f23, callIn_pure, kr, f_0, f_2, f_4, f_6, f_11, f_7, f_12, f_8, f_9, f_10, f_13, f_15, h1, h2, h3, h4, h5, h6, h7, h8, hp, within_ev h.c29, implOk, onK, swOk, b1]
  cases b2 : onlyOk s
  · simp [f23, callIn_pure, kr, f_0, f_2, f_4, f_6, f_11, f_7, f_12, f_8, f_9, f_10, f_13, f_15, h1, h2, h3, h4, h5, h6, h7, h8, hp, within_ev h.c29, implOk, onK, swOk, b1, b2]
  cases b3 : nameOk s.on
  · simp [f23, callIn_pure, kr, f_0, f_2, f_4, f_6, f_11, f_7, f_12, f_8, f_9, f_10, f_13, f_15, h1, h2, h3, h4, h5, h6, h7, h8, hp, within_ev h.c29, implOk, onK, swOk, b1, b2, b3]
  cases b4 : s.cols.all colOk
  · simp [f23, callIn_pure, kr, f_0, f_2, f_4, f_6, f_11, f_7, f_12, f_8, f_9, f_10, f_13, f_15, h1, h2, h3, h4, h5, h6, h7, h8, hp, within_ev h.c29, implOk, onK, swOk, b1, b2, b3, b4]
  cases b5 : s.rules.all ruleOk
  · simp [f23, callIn_pure, kr, f_0, f_2, f_4, f_6, f_11, f_7, f_12, f_8, f_9, f_10, f_13, f_15, h1, h2, h3, h4, h5, h6, h7, h8, hp, within_ev h.c29, implOk, onK, swOk, b1, b2, b3, b4, b5]
  cases b6 : s.exprs.all exprOk
  · simp [f23, callIn_pure, kr, f_0, f_2, f_4, f_6, f_11, f_7, f_12, f_8, f_9, f_10, f_13, f_15, h1, h2, h3, h4, h5, h6, h7, h8, hp, within_ev h.c29, implOk, onK, swOk, b1, b2, b3, b4, b5, b6]
  have q : namesOk s.list 12 = ((decide (1 ≤ s.list.length) && decide (s.list.length ≤ 12)) && s.list.all nameOk) := rfl
  have c1 : decide ((1 : Int) ≤ s.list.length) = decide (1 ≤ s.list.length) := decide_eq_decide.2 (by omega)
  have c2 : decide ((s.list.length : Int) ≤ 12) = decide (s.list.length ≤ 12) := decide_eq_decide.2 (by omega)
  have c3 : decide ((s.exprs.length : Int) ≤ 1) = decide (s.exprs.length ≤ 1) := decide_eq_decide.2 (by omega)
  cases d1 : (decide (1 ≤ s.list.length) && decide (s.list.length ≤ 12))
  · rw [d1] at q
    simp [f23, callIn_pure, kr, f_0, f_2, f_4, f_6, f_11, f_7, f_12, f_8, f_9, f_10, f_13, f_15, h1, h2, h3, h4, h5, h6, h7, h8, hp, within_ev h.c29, implOk, onK, swOk, b1, b2, b3, b4, b5, b6, c1, c2, d1, q]
  rw [d1, Bool.true_and] at q
  cases d2 : s.list.all nameOk
  · simp [f23, callIn_pure, kr, f_0, f_2, f_4, f_6, f_11, f_7, f_12, f_8, f_9, f_10, f_13, f_15, h1, h2, h3, h4, h5, h6, h7, h8, hp, within_ev h.c29, implOk, onK, swOk, b1, b2, b3, b4, b5, b6, c1, c2, d1, d2, q]
  simp [f23, callIn_pure, kr, f_0, f_2, f_4, f_6, f_11, f_7, f_12, f_8, f_9, f_10, f_13, f_15, h1, h2, h3, h4, h5, h6, h7, h8, hp, within_ev h.c29, implOk, onK, swOk, b1, b2, b3, b4, b5, b6, c1, c2, c3, d1, d2, q]
set_option maxHeartbeats 40000000 in
theorem impl_15 (h : H23 Γ) (s : Stmt) (hok : s.Ok) (k15 : s.kind = 15) : EvF Γ 23 [s.d] [] = some (.bool (implOk s), []) := by
  have h1 := implName_ev h.c44 s.name
  have h2 := isOnly_ev h.c61 s
  have h3 := used_ev h.c62 s.kind
  have hu : usedS s.kind = [111, 110, 32, 108, 105, 115, 116, 32, 101, 120, 112, 114, 115] := by simp [usedS, k15]
  rw [hu] at h3
  have kr : (decide (0 ≤ s.kind) && decide (s.kind ≤ 16)) = true := by simp [k15]
  have f_0 : (s.kind = 0) = False := by simp [k15]
  have f_2 : (s.kind = 2) = False := by simp [k15]
  have f_4 : (s.kind = 4) = False := by simp [k15]
  have f_6 : (s.kind = 6) = False := by simp [k15]
  have f_11 : (s.kind = 11) = False := by simp [k15]
  have f_7 : (s.kind = 7) = False := by simp [k15]
  have f_12 : (s.kind = 12) = False := by simp [k15]
  have f_8 : (s.kind = 8) = False := by simp [k15]
  have f_9 : (s.kind = 9) = False := by simp [k15]
  have f_10 : (s.kind = 10) = False := by simp [k15]
  have f_13 : (s.kind = 13) = False := by simp [k15]
  have f_15 : (s.kind = 15) = True := by simp [k15]
  have hp : EvF Γ 32 [.str [111, 110, 32, 108, 105, 115, 116, 32, 101, 120, 112, 114, 115], .str [111, 110]] [] = some (.bool true, []) := by
    rw [prefix_ev h.c32]
    simp
  have h4 := implName_ev h.c44 s.on
  have h5 := any63_ev h.c63 57 [] (fun c => !colOk c) s.cols hok.cols.1 (fun x hx => by
    rw [EvF_run h.c57.e57 rfl]
    simp [f57, callIn_pure, implCol_ev h.c57.c96 x (hok.cols.2 x hx)])
  have h6 := any65_ev h.c65 58 [] (fun c => !ruleOk c) s.rules hok.rules.1 (fun x hx => by
    rw [EvF_run h.c58.e58 rfl]
    simp [f58, callIn_pure, implRule_ev h.c58.c99 x (hok.rules.2 x hx)])
  have h7 := any64_ev h.c64 59 [] (fun c => !exprOk c) s.exprs hok.exprs.1 (fun x hx => by
    rw [EvF_run h.c59.e59 rfl]
    simp [f59, callIn_pure, implExpr_ev h.c59.c100 x (hok.exprs.2 x hx)])
  have n5 : s.cols.any (fun c => !colOk c) = !s.cols.all colOk := by simp [List.any_eq_not_all_not]
  have n6 : s.rules.any (fun c => !ruleOk c) = !s.rules.all ruleOk := by simp [List.any_eq_not_all_not]
  have n7 : s.exprs.any (fun c => !exprOk c) = !s.exprs.all exprOk := by simp [List.any_eq_not_all_not]
  rw [n5] at h5
  rw [n6] at h6
  rw [n7] at h7
  have h8 := areIds_ev h.c60 s.list hok.list.1
  rw [EvF_run h.e23 rfl]
  cases b1 : nameOk s.name
  · simp [f23, callIn_pure, kr, f_0, f_2, f_4, f_6, f_11, f_7, f_12, f_8, f_9, f_10, f_13, f_15, h1, h2, h3, h4, h5, h6, h7, h8, hp, within_ev h.c29, implOk, onK, swOk, b1]
  cases b2 : onlyOk s
  · simp [f23, callIn_pure, kr, f_0, f_2, f_4, f_6, f_11, f_7, f_12, f_8, f_9, f_10, f_13, f_15, h1, h2, h3, h4, h5, h6, h7, h8, hp, within_ev h.c29, implOk, onK, swOk, b1, b2]
  cases b3 : nameOk s.on
  · simp [f23, callIn_pure, kr, f_0, f_2, f_4, f_6, f_11, f_7, f_12, f_8, f_9, f_10, f_13, f_15, h1, h2, h3, h4, h5, h6, h7, h8, hp, within_ev h.c29, implOk, onK, swOk, b1, b2, b3]
  cases b4 : s.cols.all colOk
  · simp [f23, callIn_pure, kr, f_0, f_2, f_4, f_6, f_11, f_7, f_12, f_8, f_9, f_10, f_13, f_15, h1, h2, h3, h4, h5, h6, h7, h8, hp, within_ev h.c29, implOk, onK, swOk, b1, b2, b3, b4]
  cases b5 : s.rules.all ruleOk
  · simp [f23, callIn_pure, kr, f_0, f_2, f_4, f_6, f_11, f_7, f_12, f_8, f_9, f_10, f_13, f_15, h1, h2, h3, h4, h5, h6, h7, h8, hp, within_ev h.c29, implOk, onK, swOk, b1, b2, b3, b4, b5]
  cases b6 : s.exprs.all exprOk
  · simp [f23, callIn_pure, kr, f_0, f_2, f_4, f_6, f_11, f_7, f_12, f_8, f_9, f_10, f_13, f_15, h1, h2, h3, h4, h5, h6, h7, h8, hp, within_ev h.c29, implOk, onK, swOk, b1, b2, b3, b4, b5, b6]
  have q : namesOk s.list 12 = ((decide (1 ≤ s.list.length) && decide (s.list.length ≤ 12)) && s.list.all nameOk) := rfl
  have c1 : decide ((1 : Int) ≤ s.list.length) = decide (1 ≤ s.list.length) := decide_eq_decide.2 (by omega)
  have c2 : decide ((s.list.length : Int) ≤ 12) = decide (s.list.length ≤ 12) := decide_eq_decide.2 (by omega)
  have c3 : decide ((s.exprs.length : Int) ≤ 1) = decide (s.exprs.length ≤ 1) := decide_eq_decide.2 (by omega)
  cases d1 : (decide (1 ≤ s.list.length) && decide (s.list.length ≤ 12))
  · rw [d1] at q
    simp [f23, callIn_pure, kr, f_0, f_2, f_4, f_6, f_11, f_7, f_12, f_8, f_9, f_10, f_13, f_15, h1, h2, h3, h4, h5, h6, h7, h8, hp, within_ev h.c29, implOk, onK, swOk, b1, b2, b3, b4, b5, b6, c1, c2, d1, q]
  rw [d1, Bool.true_and] at q
  cases d2 : s.list.all nameOk
  · simp [f23, callIn_pure, kr, f_0, f_2, f_4, f_6, f_11, f_7, f_12, f_8, f_9, f_10, f_13, f_15, h1, h2, h3, h4, h5, h6, h7, h8, hp, within_ev h.c29, implOk, onK, swOk, b1, b2, b3, b4, b5, b6, c1, c2, d1, d2, q]
  simp [f23, callIn_pure, kr, f_0, f_2, f_4, f_6, f_11, f_7, f_12, f_8, f_9, f_10, f_13, f_15, h1, h2, h3, h4, h5, h6, h7, h8, hp, within_ev h.c29, implOk, onK, swOk, b1, b2, b3, b4, b5, b6, c1, c2, c3, d1, d2, q]
set_option maxHeartbeats 40000000 in
theorem impl_o (h : H23 Γ) (s : Stmt) (hok : s.Ok) (kr : (decide (0 ≤ s.kind) && decide (s.kind ≤ 16)) = true) (k0 : ¬ s.kind = 0) (k2 : ¬ s.kind = 2) (k4 : ¬ s.kind = 4) (k6 : ¬ s.kind = 6) (k11 : ¬ s.kind = 11) (k7 : ¬ s.kind = 7) (k12 : ¬ s.kind = 12) (k8 : ¬ s.kind = 8) (k9 : ¬ s.kind = 9) (k10 : ¬ s.kind = 10) (k13 : ¬ s.kind = 13) (k15 : ¬ s.kind = 15) : EvF Γ 23 [s.d] [] = some (.bool (implOk s), []) := by
  have h1 := implName_ev h.c44 s.name
  have h2 := isOnly_ev h.c61 s
  have h3 := used_ev h.c62 s.kind
  have hu : usedS s.kind = [] := by simp [usedS, kr, k0, k2, k4, k6, k11, k7, k12, k8, k9, k10, k13, k15]
  rw [hu] at h3
  have f_0 : (s.kind = 0) = False := by simp [k0]
  have f_2 : (s.kind = 2) = False := by simp [k2]
  have f_4 : (s.kind = 4) = False := by simp [k4]
  have f_6 : (s.kind = 6) = False := by simp [k6]
  have f_11 : (s.kind = 11) = False := by simp [k11]
  have f_7 : (s.kind = 7) = False := by simp [k7]
  have f_12 : (s.kind = 12) = False := by simp [k12]
  have f_8 : (s.kind = 8) = False := by simp [k8]
  have f_9 : (s.kind = 9) = False := by simp [k9]
  have f_10 : (s.kind = 10) = False := by simp [k10]
  have f_13 : (s.kind = 13) = False := by simp [k13]
  have f_15 : (s.kind = 15) = False := by simp [k15]
  have hp : EvF Γ 32 [.str [], .str [111, 110]] [] = some (.bool false, []) := by
    rw [prefix_ev h.c32]
    simp
  have h4 := implName_ev h.c44 s.on
  have h5 := any63_ev h.c63 57 [] (fun c => !colOk c) s.cols hok.cols.1 (fun x hx => by
    rw [EvF_run h.c57.e57 rfl]
    simp [f57, callIn_pure, implCol_ev h.c57.c96 x (hok.cols.2 x hx)])
  have h6 := any65_ev h.c65 58 [] (fun c => !ruleOk c) s.rules hok.rules.1 (fun x hx => by
    rw [EvF_run h.c58.e58 rfl]
    simp [f58, callIn_pure, implRule_ev h.c58.c99 x (hok.rules.2 x hx)])
  have h7 := any64_ev h.c64 59 [] (fun c => !exprOk c) s.exprs hok.exprs.1 (fun x hx => by
    rw [EvF_run h.c59.e59 rfl]
    simp [f59, callIn_pure, implExpr_ev h.c59.c100 x (hok.exprs.2 x hx)])
  have n5 : s.cols.any (fun c => !colOk c) = !s.cols.all colOk := by simp [List.any_eq_not_all_not]
  have n6 : s.rules.any (fun c => !ruleOk c) = !s.rules.all ruleOk := by simp [List.any_eq_not_all_not]
  have n7 : s.exprs.any (fun c => !exprOk c) = !s.exprs.all exprOk := by simp [List.any_eq_not_all_not]
  rw [n5] at h5
  rw [n6] at h6
  rw [n7] at h7
  have h8 := areIds_ev h.c60 s.list hok.list.1
  rw [EvF_run h.e23 rfl]
  cases b1 : nameOk s.name
  · simp [f23, callIn_pure, kr, f_0, f_2, f_4, f_6, f_11, f_7, f_12, f_8, f_9, f_10, f_13, f_15, h1, h2, h3, h4, h5, h6, h7, h8, hp, within_ev h.c29, implOk, onK, swOk, b1]
  cases b2 : onlyOk s
  · simp [f23, callIn_pure, kr, f_0, f_2, f_4, f_6, f_11, f_7, f_12, f_8, f_9, f_10, f_13, f_15, h1, h2, h3, h4, h5, h6, h7, h8, hp, within_ev h.c29, implOk, onK, swOk, b1, b2]
  cases b4 : s.cols.all colOk
  · simp [f23, callIn_pure, kr, f_0, f_2, f_4, f_6, f_11, f_7, f_12, f_8, f_9, f_10, f_13, f_15, h1, h2, h3, h4, h5, h6, h7, h8, hp, within_ev h.c29, implOk, onK, swOk, b1, b2, b4]
  cases b5 : s.rules.all ruleOk
  · simp [f23, callIn_pure, kr, f_0, f_2, f_4, f_6, f_11, f_7, f_12, f_8, f_9, f_10, f_13, f_15, h1, h2, h3, h4, h5, h6, h7, h8, hp, within_ev h.c29, implOk, onK, swOk, b1, b2, b4, b5]
  cases b6 : s.exprs.all exprOk
  · simp [f23, callIn_pure, kr, f_0, f_2, f_4, f_6, f_11, f_7, f_12, f_8, f_9, f_10, f_13, f_15, h1, h2, h3, h4, h5, h6, h7, h8, hp, within_ev h.c29, implOk, onK, swOk, b1, b2, b4, b5, b6]
  simp [f23, callIn_pure, kr, f_0, f_2, f_4, f_6, f_11, f_7, f_12, f_8, f_9, f_10, f_13, f_15, h1, h2, h3, h4, h5, h6, h7, h8, hp, within_ev h.c29, implOk, onK, swOk, b1, b2, b4, b5, b6]
theorem implStmt_ev (h : H23 Γ) (s : Stmt) (hok : s.Ok) : EvF Γ 23 [s.d] [] = some (.bool (implOk s), []) := by
  cases kr : (decide (0 ≤ s.kind) && decide (s.kind ≤ 16))
  · rw [EvF_run h.e23 rfl]
    simp [f23, callIn_pure, within_ev h.c29, kr, implOk]
  by_cases k0 : s.kind = 0
  · exact impl_0 h s hok k0
  by_cases k2 : s.kind = 2
  · exact impl_2 h s hok k2
  by_cases k4 : s.kind = 4
  · exact impl_4 h s hok k4
  by_cases k6 : s.kind = 6
  · exact impl_6 h s hok k6
  by_cases k11 : s.kind = 11
  · exact impl_11 h s hok k11
  by_cases k7 : s.kind = 7
  · exact impl_7 h s hok k7
  by_cases k12 : s.kind = 12
  · exact impl_12 h s hok k12
  by_cases k8 : s.kind = 8
  · exact impl_8 h s hok k8
  by_cases k9 : s.kind = 9
  · exact impl_9 h s hok k9
  by_cases k10 : s.kind = 10
  · exact impl_10 h s hok k10
  by_cases k13 : s.kind = 13
  · exact impl_13 h s hok k13
  by_cases k15 : s.kind = 15
  · exact impl_15 h s hok k15
  exact impl_o h s hok kr k0 k2 k4 k6 k11 k7 k12 k8 k9 k10 k13 k15
end Go.DM
