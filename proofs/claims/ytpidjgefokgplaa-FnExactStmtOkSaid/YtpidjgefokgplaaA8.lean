/- Statements: what else they may say (printed by a program, kind by kind). -/
import Derived.Test.YtpidjgefokgplaaA7
set_option linter.unusedVariables false
set_option linter.unusedSimpArgs false
namespace Go.DM
open Go
variable {Γ : Tab}
theorem L51 (h : H51 Γ) (s : Stmt) (hok : s.Ok) (d3 d4 d5 d7 d8 : D) (b : Bool) {ρ : Env} (hρ : keepOnly [1, 3, 4, 5, 6, 7, 8, 9] ρ = [(1, .fptr s.d 0), (3, d3), (4, d4), (5, d5), (6, .bool b), (7, d7), (8, d8), (9, .int .i64 0)]) :
    inBlk 1 [1, 3, 4, 5, 6, 7, 8] (EvC Γ f51L1 ρ []) = some (.norm, [(1, .fptr s.d 0), (3, d3), (4, d4), (5, d5), (6, .bool (b && s.list.all nameOk)), (7, d7), (8, d8)], []) := by
  refine loop_list (L := f51L1) rfl (inBlk 1 [1, 3, 4, 5, 6, 7, 8]) s.list (fun i (b : Bool) => [(1, .fptr s.d 0), (3, d3), (4, d4), (5, d5), (6, .bool b), (7, d7), (8, d8), (9, .int .i64 i)]) (fun _ _ => []) (fun _ r b => some (.norm, [(1, .fptr s.d 0), (3, d3), (4, d4), (5, d5), (6, .bool (b && r.all nameOk)), (7, d7), (8, d8)], [])) ?_ ?_ b ρ hρ
  · intro b; simp [f51l1]
  · intro i x r b hx hi hr ih
    have hl := hok.list.1
    have hw := wrap64_succ hi hl
    have h1 : (i : Int) < s.list.length := by omega
    have hn := l02Name_ev h.c82 x (hok.list.2 x (List.mem_of_getElem? hx))
    cases b with
    | true =>
      have ih := ih (nameOk x)
      simp [f51l1, h1, hw, hx, callIn_pure, hn, ih]
    | false => simp [f51l1, h1]
def onC (k : Int) (on : Str) : Bool := if k = 7 ∨ k = 8 ∨ k = 9 ∨ k = 10 ∨ k = 12 ∨ k = 13 ∨ k = 15 then nameOk on else decide (on = [])
def listC (k : Int) (l : List Str) : Bool := if k = 0 ∨ k = 13 ∨ k = 15 then namesOk l 12 else decide (l = [])
def flagC (k : Int) (f : Bool) : Bool := if k = 9 ∨ k = 13 then true else !f
def typeC (k : Int) (t : Ty) : Bool := if k = 8 then typeOk t else decide (t.kind = 0 ∧ t.len = 0 ∧ t.name = [])
def numC (k n : Int) : Bool := if n = 0 then true else if k = 2 then decide (0 ≤ n) && decide (n ≤ 999999999) else false
def hiC (k : Int) : Nat := if k = 10 ∨ k = 15 then 1 else 0
def restOk (s : Stmt) : Bool := onC s.kind s.on && listC s.kind s.list && flagC s.kind s.flag && typeC s.kind s.ty && numC s.kind s.num && exprsOk s.exprs 0 (hiC s.kind)
set_option maxHeartbeats 40000000 in
theorem rest_0 (h : H51 Γ) (s : Stmt) (hok : s.Ok) (hn : ∀ e ∈ s.exprs, e.nodes ≤ 4611686018427387904) (k0 : s.kind = 0) : EvF Γ 51 [s.d] [] = some (.bool (restOk s), []) := by
  have h1 := specName_ev h.c43 s.on hok.on
  have h2 : EvF Γ 90 [.list (s.list.map .str), .int .i64 12] [] = _ := names_ev h.c90 s.list hok.list 12 (by omega)
  have h4 := specType_ev h.c21 s.ty hok.ty.name
  have h50 : EvF Γ 89 [.list (s.exprs.map Xp.d), .int .i64 0, .int .i64 0] [] = _ := exprs_ev h.c89 s.exprs hok.exprs hn 0 0 (by omega)
  have h51 : EvF Γ 89 [.list (s.exprs.map Xp.d), .int .i64 0, .int .i64 1] [] = _ := exprs_ev h.c89 s.exprs hok.exprs hn 0 1 (by omega)
  have hL := fun (b : Bool) (ρ : Env) (hρ : keepOnly [1, 3, 4, 5, 6, 7, 8, 9] ρ = [(1, .fptr s.d 0), (3, get ρ 3), (4, get ρ 4), (5, get ρ 5), (6, .bool b), (7, get ρ 7), (8, get ρ 8), (9, .int .i64 0)]) => L51 h s hok (get ρ 3) (get ρ 4) (get ρ 5) (get ρ 7) (get ρ 8) b hρ
  have hL1 := hL true
  have hL2 := hL false
  have hL3 := hL (decide (1 ≤ s.list.length) && decide (s.list.length ≤ 12))
  have c1 : decide ((1 : Int) ≤ s.list.length) = decide (1 ≤ s.list.length) := decide_eq_decide.2 (by omega)
  have c2 : decide ((s.list.length : Int) ≤ 12) = decide (s.list.length ≤ 12) := decide_eq_decide.2 (by omega)
  rw [EvF_run h.e51 rfl]
  by_cases b5 : s.num = 0
  · by_cases b1 : s.on = []
    rotate_left
    · simp [f51, callIn_pure, k0, h1, h2, h4, h50, h51, l01In_ev h.c28, restOk, onC, listC, flagC, typeC, numC, hiC, hL1, hL2, hL3, c1, c2, b5, b1]
    have q : namesOk s.list 12 = ((decide (1 ≤ s.list.length) && decide (s.list.length ≤ 12)) && s.list.all nameOk) := rfl
    cases b2 : (decide (1 ≤ s.list.length) && decide (s.list.length ≤ 12))
    · rw [b2] at q
      simp [f51, callIn_pure, k0, h1, h2, h4, h50, h51, l01In_ev h.c28, restOk, onC, listC, flagC, typeC, numC, hiC, hL1, hL2, hL3, c1, c2, b5, b1, b2, q]
    rw [b2, Bool.true_and] at q
    cases b8 : s.list.all nameOk
    · simp [f51, callIn_pure, k0, h1, h2, h4, h50, h51, l01In_ev h.c28, restOk, onC, listC, flagC, typeC, numC, hiC, hL1, hL2, hL3, c1, c2, b5, b1, b2, q, b8]
    cases b3 : s.flag
    rotate_left
    · simp [f51, callIn_pure, k0, h1, h2, h4, h50, h51, l01In_ev h.c28, restOk, onC, listC, flagC, typeC, numC, hiC, hL1, hL2, hL3, c1, c2, b5, b1, b2, q, b8, b3]
    by_cases b4 : s.ty.kind = 0 ∧ s.ty.len = 0 ∧ s.ty.name = []
    rotate_left
    · simp [f51, callIn_pure, k0, h1, h2, h4, h50, h51, l01In_ev h.c28, restOk, onC, listC, flagC, typeC, numC, hiC, hL1, hL2, hL3, c1, c2, b5, b1, b2, q, b8, b3, b4]
    simp [f51, callIn_pure, k0, h1, h2, h4, h50, h51, l01In_ev h.c28, restOk, onC, listC, flagC, typeC, numC, hiC, hL1, hL2, hL3, c1, c2, b5, b1, b2, q, b8, b3, b4]
  · by_cases b1 : s.on = []
    rotate_left
    · simp [f51, callIn_pure, k0, h1, h2, h4, h50, h51, l01In_ev h.c28, restOk, onC, listC, flagC, typeC, numC, hiC, hL1, hL2, hL3, c1, c2, b5, b1]
    have q : namesOk s.list 12 = ((decide (1 ≤ s.list.length) && decide (s.list.length ≤ 12)) && s.list.all nameOk) := rfl
    cases b2 : (decide (1 ≤ s.list.length) && decide (s.list.length ≤ 12))
    · rw [b2] at q
      simp [f51, callIn_pure, k0, h1, h2, h4, h50, h51, l01In_ev h.c28, restOk, onC, listC, flagC, typeC, numC, hiC, hL1, hL2, hL3, c1, c2, b5, b1, b2, q]
    rw [b2, Bool.true_and] at q
    cases b8 : s.list.all nameOk
    · simp [f51, callIn_pure, k0, h1, h2, h4, h50, h51, l01In_ev h.c28, restOk, onC, listC, flagC, typeC, numC, hiC, hL1, hL2, hL3, c1, c2, b5, b1, b2, q, b8]
    cases b3 : s.flag
    rotate_left
    · simp [f51, callIn_pure, k0, h1, h2, h4, h50, h51, l01In_ev h.c28, restOk, onC, listC, flagC, typeC, numC, hiC, hL1, hL2, hL3, c1, c2, b5, b1, b2, q, b8, b3]
    by_cases b4 : s.ty.kind = 0 ∧ s.ty.len = 0 ∧ s.ty.name = []
    rotate_left
    · simp [f51, callIn_pure, k0, h1, h2, h4, h50, h51, l01In_ev h.c28, restOk, onC, listC, flagC, typeC, numC, hiC, hL1, hL2, hL3, c1, c2, b5, b1, b2, q, b8, b3, b4]
    simp [f51, callIn_pure, k0, h1, h2, h4, h50, h51, l01In_ev h.c28, restOk, onC, listC, flagC, typeC, numC, hiC, hL1, hL2, hL3, c1, c2, b5, b1, b2, q, b8, b3, b4]
set_option maxHeartbeats 40000000 in
theorem rest_7 (h : H51 Γ) (s : Stmt) (hok : s.Ok) (hn : ∀ e ∈ s.exprs, e.nodes ≤ 4611686018427387904) (k7 : s.kind = 7) : EvF Γ 51 [s.d] [] = some (.bool (restOk s), []) := by
  have h1 := specName_ev h.c43 s.on hok.on
  have h2 : EvF Γ 90 [.list (s.list.map .str), .int .i64 12] [] = _ := names_ev h.c90 s.list hok.list 12 (by omega)
  have h4 := specType_ev h.c21 s.ty hok.ty.name
  have h50 : EvF Γ 89 [.list (s.exprs.map Xp.d), .int .i64 0, .int .i64 0] [] = _ := exprs_ev h.c89 s.exprs hok.exprs hn 0 0 (by omega)
  have h51 : EvF Γ 89 [.list (s.exprs.map Xp.d), .int .i64 0, .int .i64 1] [] = _ := exprs_ev h.c89 s.exprs hok.exprs hn 0 1 (by omega)
  rw [EvF_run h.e51 rfl]
  by_cases b5 : s.num = 0
  · cases b1 : nameOk s.on
    · simp [f51, callIn_pure, k7, h1, h2, h4, h50, h51, l01In_ev h.c28, restOk, onC, listC, flagC, typeC, numC, hiC, b5, b1]
    by_cases b2 : s.list = []
    rotate_left
    · simp [f51, callIn_pure, k7, h1, h2, h4, h50, h51, l01In_ev h.c28, restOk, onC, listC, flagC, typeC, numC, hiC, b5, b1, b2]
    cases b3 : s.flag
    rotate_left
    · simp [f51, callIn_pure, k7, h1, h2, h4, h50, h51, l01In_ev h.c28, restOk, onC, listC, flagC, typeC, numC, hiC, b5, b1, b2, b3]
    by_cases b4 : s.ty.kind = 0 ∧ s.ty.len = 0 ∧ s.ty.name = []
    rotate_left
    · simp [f51, callIn_pure, k7, h1, h2, h4, h50, h51, l01In_ev h.c28, restOk, onC, listC, flagC, typeC, numC, hiC, b5, b1, b2, b3, b4]
    simp [f51, callIn_pure, k7, h1, h2, h4, h50, h51, l01In_ev h.c28, restOk, onC, listC, flagC, typeC, numC, hiC, b5, b1, b2, b3, b4]
  · cases b1 : nameOk s.on
    · simp [f51, callIn_pure, k7, h1, h2, h4, h50, h51, l01In_ev h.c28, restOk, onC, listC, flagC, typeC, numC, hiC, b5, b1]
    by_cases b2 : s.list = []
    rotate_left
    · simp [f51, callIn_pure, k7, h1, h2, h4, h50, h51, l01In_ev h.c28, restOk, onC, listC, flagC, typeC, numC, hiC, b5, b1, b2]
    cases b3 : s.flag
    rotate_left
    · simp [f51, callIn_pure, k7, h1, h2, h4, h50, h51, l01In_ev h.c28, restOk, onC, listC, flagC, typeC, numC, hiC, b5, b1, b2, b3]
    by_cases b4 : s.ty.kind = 0 ∧ s.ty.len = 0 ∧ s.ty.name = []
    rotate_left
    · simp [f51, callIn_pure, k7, h1, h2, h4, h50, h51, l01In_ev h.c28, restOk, onC, listC, flagC, typeC, numC, hiC, b5, b1, b2, b3, b4]
    simp [f51, callIn_pure, k7, h1, h2, h4, h50, h51, l01In_ev h.c28, restOk, onC, listC, flagC, typeC, numC, hiC, b5, b1, b2, b3, b4]
set_option maxHeartbeats 40000000 in
theorem rest_12 (h : H51 Γ) (s : Stmt) (hok : s.Ok) (hn : ∀ e ∈ s.exprs, e.nodes ≤ 4611686018427387904) (k12 : s.kind = 12) : EvF Γ 51 [s.d] [] = some (.bool (restOk s), []) := by
  have h1 := specName_ev h.c43 s.on hok.on
  have h2 : EvF Γ 90 [.list (s.list.map .str), .int .i64 12] [] = _ := names_ev h.c90 s.list hok.list 12 (by omega)
  have h4 := specType_ev h.c21 s.ty hok.ty.name
  have h50 : EvF Γ 89 [.list (s.exprs.map Xp.d), .int .i64 0, .int .i64 0] [] = _ := exprs_ev h.c89 s.exprs hok.exprs hn 0 0 (by omega)
  have h51 : EvF Γ 89 [.list (s.exprs.map Xp.d), .int .i64 0, .int .i64 1] [] = _ := exprs_ev h.c89 s.exprs hok.exprs hn 0 1 (by omega)
  rw [EvF_run h.e51 rfl]
  by_cases b5 : s.num = 0
  · cases b1 : nameOk s.on
    · simp [f51, callIn_pure, k12, h1, h2, h4, h50, h51, l01In_ev h.c28, restOk, onC, listC, flagC, typeC, numC, hiC, b5, b1]
    by_cases b2 : s.list = []
    rotate_left
    · simp [f51, callIn_pure, k12, h1, h2, h4, h50, h51, l01In_ev h.c28, restOk, onC, listC, flagC, typeC, numC, hiC, b5, b1, b2]
    cases b3 : s.flag
    rotate_left
    · simp [f51, callIn_pure, k12, h1, h2, h4, h50, h51, l01In_ev h.c28, restOk, onC, listC, flagC, typeC, numC, hiC, b5, b1, b2, b3]
    by_cases b4 : s.ty.kind = 0 ∧ s.ty.len = 0 ∧ s.ty.name = []
    rotate_left
    · simp [f51, callIn_pure, k12, h1, h2, h4, h50, h51, l01In_ev h.c28, restOk, onC, listC, flagC, typeC, numC, hiC, b5, b1, b2, b3, b4]
    simp [f51, callIn_pure, k12, h1, h2, h4, h50, h51, l01In_ev h.c28, restOk, onC, listC, flagC, typeC, numC, hiC, b5, b1, b2, b3, b4]
  · cases b1 : nameOk s.on
    · simp [f51, callIn_pure, k12, h1, h2, h4, h50, h51, l01In_ev h.c28, restOk, onC, listC, flagC, typeC, numC, hiC, b5, b1]
    by_cases b2 : s.list = []
    rotate_left
    · simp [f51, callIn_pure, k12, h1, h2, h4, h50, h51, l01In_ev h.c28, restOk, onC, listC, flagC, typeC, numC, hiC, b5, b1, b2]
    cases b3 : s.flag
    rotate_left
    · simp [f51, callIn_pure, k12, h1, h2, h4, h50, h51, l01In_ev h.c28, restOk, onC, listC, flagC, typeC, numC, hiC, b5, b1, b2, b3]
    by_cases b4 : s.ty.kind = 0 ∧ s.ty.len = 0 ∧ s.ty.name = []
    rotate_left
    · simp [f51, callIn_pure, k12, h1, h2, h4, h50, h51, l01In_ev h.c28, restOk, onC, listC, flagC, typeC, numC, hiC, b5, b1, b2, b3, b4]
    simp [f51, callIn_pure, k12, h1, h2, h4, h50, h51, l01In_ev h.c28, restOk, onC, listC, flagC, typeC, numC, hiC, b5, b1, b2, b3, b4]
set_option maxHeartbeats 40000000 in
theorem rest_8 (h : H51 Γ) (s : Stmt) (hok : s.Ok) (hn : ∀ e ∈ s.exprs, e.nodes ≤ 4611686018427387904) (k8 : s.kind = 8) : EvF Γ 51 [s.d] [] = some (.bool (restOk s), []) := by
  have h1 := specName_ev h.c43 s.on hok.on
  have h2 : EvF Γ 90 [.list (s.list.map .str), .int .i64 12] [] = _ := names_ev h.c90 s.list hok.list 12 (by omega)
  have h4 := specType_ev h.c21 s.ty hok.ty.name
  have h50 : EvF Γ 89 [.list (s.exprs.map Xp.d), .int .i64 0, .int .i64 0] [] = _ := exprs_ev h.c89 s.exprs hok.exprs hn 0 0 (by omega)
  have h51 : EvF Γ 89 [.list (s.exprs.map Xp.d), .int .i64 0, .int .i64 1] [] = _ := exprs_ev h.c89 s.exprs hok.exprs hn 0 1 (by omega)
  rw [EvF_run h.e51 rfl]
  by_cases b5 : s.num = 0
  · cases b1 : nameOk s.on
    · simp [f51, callIn_pure, k8, h1, h2, h4, h50, h51, l01In_ev h.c28, restOk, onC, listC, flagC, typeC, numC, hiC, b5, b1]
    by_cases b2 : s.list = []
    rotate_left
    · simp [f51, callIn_pure, k8, h1, h2, h4, h50, h51, l01In_ev h.c28, restOk, onC, listC, flagC, typeC, numC, hiC, b5, b1, b2]
    cases b3 : s.flag
    rotate_left
    · simp [f51, callIn_pure, k8, h1, h2, h4, h50, h51, l01In_ev h.c28, restOk, onC, listC, flagC, typeC, numC, hiC, b5, b1, b2, b3]
    cases b4 : typeOk s.ty
    · simp [f51, callIn_pure, k8, h1, h2, h4, h50, h51, l01In_ev h.c28, restOk, onC, listC, flagC, typeC, numC, hiC, b5, b1, b2, b3, b4]
    simp [f51, callIn_pure, k8, h1, h2, h4, h50, h51, l01In_ev h.c28, restOk, onC, listC, flagC, typeC, numC, hiC, b5, b1, b2, b3, b4]
  · cases b1 : nameOk s.on
    · simp [f51, callIn_pure, k8, h1, h2, h4, h50, h51, l01In_ev h.c28, restOk, onC, listC, flagC, typeC, numC, hiC, b5, b1]
    by_cases b2 : s.list = []
    rotate_left
    · simp [f51, callIn_pure, k8, h1, h2, h4, h50, h51, l01In_ev h.c28, restOk, onC, listC, flagC, typeC, numC, hiC, b5, b1, b2]
    cases b3 : s.flag
    rotate_left
    · simp [f51, callIn_pure, k8, h1, h2, h4, h50, h51, l01In_ev h.c28, restOk, onC, listC, flagC, typeC, numC, hiC, b5, b1, b2, b3]
    cases b4 : typeOk s.ty
    · simp [f51, callIn_pure, k8, h1, h2, h4, h50, h51, l01In_ev h.c28, restOk, onC, listC, flagC, typeC, numC, hiC, b5, b1, b2, b3, b4]
    simp [f51, callIn_pure, k8, h1, h2, h4, h50, h51, l01In_ev h.c28, restOk, onC, listC, flagC, typeC, numC, hiC, b5, b1, b2, b3, b4]
set_option maxHeartbeats 40000000 in
theorem rest_9 (h : H51 Γ) (s : Stmt) (hok : s.Ok) (hn : ∀ e ∈ s.exprs, e.nodes ≤ 4611686018427387904) (k9 : s.kind = 9) : EvF Γ 51 [s.d] [] = some (.bool (restOk s), []) := by
  have h1 := specName_ev h.c43 s.on hok.on
  have h2 : EvF Γ 90 [.list (s.list.map .str), .int .i64 12] [] = _ := names_ev h.c90 s.list hok.list 12 (by omega)
  have h4 := specType_ev h.c21 s.ty hok.ty.name
  have h50 : EvF Γ 89 [.list (s.exprs.map Xp.d), .int .i64 0, .int .i64 0] [] = _ := exprs_ev h.c89 s.exprs hok.exprs hn 0 0 (by omega)
  have h51 : EvF Γ 89 [.list (s.exprs.map Xp.d), .int .i64 0, .int .i64 1] [] = _ := exprs_ev h.c89 s.exprs hok.exprs hn 0 1 (by omega)
  rw [EvF_run h.e51 rfl]
  by_cases b5 : s.num = 0
  · cases b1 : nameOk s.on
    · simp [f51, callIn_pure, k9, h1, h2, h4, h50, h51, l01In_ev h.c28, restOk, onC, listC, flagC, typeC, numC, hiC, b5, b1]
    by_cases b2 : s.list = []
    rotate_left
    · simp [f51, callIn_pure, k9, h1, h2, h4, h50, h51, l01In_ev h.c28, restOk, onC, listC, flagC, typeC, numC, hiC, b5, b1, b2]
    by_cases b4 : s.ty.kind = 0 ∧ s.ty.len = 0 ∧ s.ty.name = []
    rotate_left
    · simp [f51, callIn_pure, k9, h1, h2, h4, h50, h51, l01In_ev h.c28, restOk, onC, listC, flagC, typeC, numC, hiC, b5, b1, b2, b4]
    simp [f51, callIn_pure, k9, h1, h2, h4, h50, h51, l01In_ev h.c28, restOk, onC, listC, flagC, typeC, numC, hiC, b5, b1, b2, b4]
  · cases b1 : nameOk s.on
    · simp [f51, callIn_pure, k9, h1, h2, h4, h50, h51, l01In_ev h.c28, restOk, onC, listC, flagC, typeC, numC, hiC, b5, b1]
    by_cases b2 : s.list = []
    rotate_left
    · simp [f51, callIn_pure, k9, h1, h2, h4, h50, h51, l01In_ev h.c28, restOk, onC, listC, flagC, typeC, numC, hiC, b5, b1, b2]
    by_cases b4 : s.ty.kind = 0 ∧ s.ty.len = 0 ∧ s.ty.name = []
    rotate_left
    · simp [f51, callIn_pure, k9, h1, h2, h4, h50, h51, l01In_ev h.c28, restOk, onC, listC, flagC, typeC, numC, hiC, b5, b1, b2, b4]
    simp [f51, callIn_pure, k9, h1, h2, h4, h50, h51, l01In_ev h.c28, restOk, onC, listC, flagC, typeC, numC, hiC, b5, b1, b2, b4]
set_option maxHeartbeats 40000000 in
theorem rest_10 (h : H51 Γ) (s : Stmt) (hok : s.Ok) (hn : ∀ e ∈ s.exprs, e.nodes ≤ 4611686018427387904) (k10 : s.kind = 10) : EvF Γ 51 [s.d] [] = some (.bool (restOk s), []) := by
  have h1 := specName_ev h.c43 s.on hok.on
  have h2 : EvF Γ 90 [.list (s.list.map .str), .int .i64 12] [] = _ := names_ev h.c90 s.list hok.list 12 (by omega)
  have h4 := specType_ev h.c21 s.ty hok.ty.name
  have h50 : EvF Γ 89 [.list (s.exprs.map Xp.d), .int .i64 0, .int .i64 0] [] = _ := exprs_ev h.c89 s.exprs hok.exprs hn 0 0 (by omega)
  have h51 : EvF Γ 89 [.list (s.exprs.map Xp.d), .int .i64 0, .int .i64 1] [] = _ := exprs_ev h.c89 s.exprs hok.exprs hn 0 1 (by omega)
  rw [EvF_run h.e51 rfl]
  by_cases b5 : s.num = 0
  · cases b1 : nameOk s.on
    · simp [f51, callIn_pure, k10, h1, h2, h4, h50, h51, l01In_ev h.c28, restOk, onC, listC, flagC, typeC, numC, hiC, b5, b1]
    by_cases b2 : s.list = []
    rotate_left
    · simp [f51, callIn_pure, k10, h1, h2, h4, h50, h51, l01In_ev h.c28, restOk, onC, listC, flagC, typeC, numC, hiC, b5, b1, b2]
    cases b3 : s.flag
    rotate_left
    · simp [f51, callIn_pure, k10, h1, h2, h4, h50, h51, l01In_ev h.c28, restOk, onC, listC, flagC, typeC, numC, hiC, b5, b1, b2, b3]
    by_cases b4 : s.ty.kind = 0 ∧ s.ty.len = 0 ∧ s.ty.name = []
    rotate_left
    · simp [f51, callIn_pure, k10, h1, h2, h4, h50, h51, l01In_ev h.c28, restOk, onC, listC, flagC, typeC, numC, hiC, b5, b1, b2, b3, b4]
    simp [f51, callIn_pure, k10, h1, h2, h4, h50, h51, l01In_ev h.c28, restOk, onC, listC, flagC, typeC, numC, hiC, b5, b1, b2, b3, b4]
  · cases b1 : nameOk s.on
    · simp [f51, callIn_pure, k10, h1, h2, h4, h50, h51, l01In_ev h.c28, restOk, onC, listC, flagC, typeC, numC, hiC, b5, b1]
    by_cases b2 : s.list = []
    rotate_left
    · simp [f51, callIn_pure, k10, h1, h2, h4, h50, h51, l01In_ev h.c28, restOk, onC, listC, flagC, typeC, numC, hiC, b5, b1, b2]
    cases b3 : s.flag
    rotate_left
    · simp [f51, callIn_pure, k10, h1, h2, h4, h50, h51, l01In_ev h.c28, restOk, onC, listC, flagC, typeC, numC, hiC, b5, b1, b2, b3]
    by_cases b4 : s.ty.kind = 0 ∧ s.ty.len = 0 ∧ s.ty.name = []
    rotate_left
    · simp [f51, callIn_pure, k10, h1, h2, h4, h50, h51, l01In_ev h.c28, restOk, onC, listC, flagC, typeC, numC, hiC, b5, b1, b2, b3, b4]
    simp [f51, callIn_pure, k10, h1, h2, h4, h50, h51, l01In_ev h.c28, restOk, onC, listC, flagC, typeC, numC, hiC, b5, b1, b2, b3, b4]
set_option maxHeartbeats 40000000 in
theorem rest_13 (h : H51 Γ) (s : Stmt) (hok : s.Ok) (hn : ∀ e ∈ s.exprs, e.nodes ≤ 4611686018427387904) (k13 : s.kind = 13) : EvF Γ 51 [s.d] [] = some (.bool (restOk s), []) := by
  have h1 := specName_ev h.c43 s.on hok.on
  have h2 : EvF Γ 90 [.list (s.list.map .str), .int .i64 12] [] = _ := names_ev h.c90 s.list hok.list 12 (by omega)
  have h4 := specType_ev h.c21 s.ty hok.ty.name
  have h50 : EvF Γ 89 [.list (s.exprs.map Xp.d), .int .i64 0, .int .i64 0] [] = _ := exprs_ev h.c89 s.exprs hok.exprs hn 0 0 (by omega)
  have h51 : EvF Γ 89 [.list (s.exprs.map Xp.d), .int .i64 0, .int .i64 1] [] = _ := exprs_ev h.c89 s.exprs hok.exprs hn 0 1 (by omega)
  rw [EvF_run h.e51 rfl]
  by_cases b5 : s.num = 0
  · cases b1 : nameOk s.on
    · simp [f51, callIn_pure, k13, h1, h2, h4, h50, h51, l01In_ev h.c28, restOk, onC, listC, flagC, typeC, numC, hiC, b5, b1]
    cases b2 : namesOk s.list 12
    · simp [f51, callIn_pure, k13, h1, h2, h4, h50, h51, l01In_ev h.c28, restOk, onC, listC, flagC, typeC, numC, hiC, b5, b1, b2]
    by_cases b4 : s.ty.kind = 0 ∧ s.ty.len = 0 ∧ s.ty.name = []
    rotate_left
    · simp [f51, callIn_pure, k13, h1, h2, h4, h50, h51, l01In_ev h.c28, restOk, onC, listC, flagC, typeC, numC, hiC, b5, b1, b2, b4]
    simp [f51, callIn_pure, k13, h1, h2, h4, h50, h51, l01In_ev h.c28, restOk, onC, listC, flagC, typeC, numC, hiC, b5, b1, b2, b4]
  · cases b1 : nameOk s.on
    · simp [f51, callIn_pure, k13, h1, h2, h4, h50, h51, l01In_ev h.c28, restOk, onC, listC, flagC, typeC, numC, hiC, b5, b1]
    cases b2 : namesOk s.list 12
    · simp [f51, callIn_pure, k13, h1, h2, h4, h50, h51, l01In_ev h.c28, restOk, onC, listC, flagC, typeC, numC, hiC, b5, b1, b2]
    by_cases b4 : s.ty.kind = 0 ∧ s.ty.len = 0 ∧ s.ty.name = []
    rotate_left
    · simp [f51, callIn_pure, k13, h1, h2, h4, h50, h51, l01In_ev h.c28, restOk, onC, listC, flagC, typeC, numC, hiC, b5, b1, b2, b4]
    simp [f51, callIn_pure, k13, h1, h2, h4, h50, h51, l01In_ev h.c28, restOk, onC, listC, flagC, typeC, numC, hiC, b5, b1, b2, b4]
set_option maxHeartbeats 40000000 in
theorem rest_15 (h : H51 Γ) (s : Stmt) (hok : s.Ok) (hn : ∀ e ∈ s.exprs, e.nodes ≤ 4611686018427387904) (k15 : s.kind = 15) : EvF Γ 51 [s.d] [] = some (.bool (restOk s), []) := by
  have h1 := specName_ev h.c43 s.on hok.on
  have h2 : EvF Γ 90 [.list (s.list.map .str), .int .i64 12] [] = _ := names_ev h.c90 s.list hok.list 12 (by omega)
  have h4 := specType_ev h.c21 s.ty hok.ty.name
  have h50 : EvF Γ 89 [.list (s.exprs.map Xp.d), .int .i64 0, .int .i64 0] [] = _ := exprs_ev h.c89 s.exprs hok.exprs hn 0 0 (by omega)
  have h51 : EvF Γ 89 [.list (s.exprs.map Xp.d), .int .i64 0, .int .i64 1] [] = _ := exprs_ev h.c89 s.exprs hok.exprs hn 0 1 (by omega)
  rw [EvF_run h.e51 rfl]
  by_cases b5 : s.num = 0
  · cases b1 : nameOk s.on
    · simp [f51, callIn_pure, k15, h1, h2, h4, h50, h51, l01In_ev h.c28, restOk, onC, listC, flagC, typeC, numC, hiC, b5, b1]
    cases b2 : namesOk s.list 12
    · simp [f51, callIn_pure, k15, h1, h2, h4, h50, h51, l01In_ev h.c28, restOk, onC, listC, flagC, typeC, numC, hiC, b5, b1, b2]
    cases b3 : s.flag
    rotate_left
    · simp [f51, callIn_pure, k15, h1, h2, h4, h50, h51, l01In_ev h.c28, restOk, onC, listC, flagC, typeC, numC, hiC, b5, b1, b2, b3]
    by_cases b4 : s.ty.kind = 0 ∧ s.ty.len = 0 ∧ s.ty.name = []
    rotate_left
    · simp [f51, callIn_pure, k15, h1, h2, h4, h50, h51, l01In_ev h.c28, restOk, onC, listC, flagC, typeC, numC, hiC, b5, b1, b2, b3, b4]
    simp [f51, callIn_pure, k15, h1, h2, h4, h50, h51, l01In_ev h.c28, restOk, onC, listC, flagC, typeC, numC, hiC, b5, b1, b2, b3, b4]
  · cases b1 : nameOk s.on
    · simp [f51, callIn_pure, k15, h1, h2, h4, h50, h51, l01In_ev h.c28, restOk, onC, listC, flagC, typeC, numC, hiC, b5, b1]
    cases b2 : namesOk s.list 12
    · simp [f51, callIn_pure, k15, h1, h2, h4, h50, h51, l01In_ev h.c28, restOk, onC, listC, flagC, typeC, numC, hiC, b5, b1, b2]
    cases b3 : s.flag
    rotate_left
    · simp [f51, callIn_pure, k15, h1, h2, h4, h50, h51, l01In_ev h.c28, restOk, onC, listC, flagC, typeC, numC, hiC, b5, b1, b2, b3]
    by_cases b4 : s.ty.kind = 0 ∧ s.ty.len = 0 ∧ s.ty.name = []
    rotate_left
    · simp [f51, callIn_pure, k15, h1, h2, h4, h50, h51, l01In_ev h.c28, restOk, onC, listC, flagC, typeC, numC, hiC, b5, b1, b2, b3, b4]
    simp [f51, callIn_pure, k15, h1, h2, h4, h50, h51, l01In_ev h.c28, restOk, onC, listC, flagC, typeC, numC, hiC, b5, b1, b2, b3, b4]
set_option maxHeartbeats 40000000 in
theorem rest_2 (h : H51 Γ) (s : Stmt) (hok : s.Ok) (hn : ∀ e ∈ s.exprs, e.nodes ≤ 4611686018427387904) (k2 : s.kind = 2) : EvF Γ 51 [s.d] [] = some (.bool (restOk s), []) := by
  have h1 := specName_ev h.c43 s.on hok.on
  have h2 : EvF Γ 90 [.list (s.list.map .str), .int .i64 12] [] = _ := names_ev h.c90 s.list hok.list 12 (by omega)
  have h4 := specType_ev h.c21 s.ty hok.ty.name
  have h50 : EvF Γ 89 [.list (s.exprs.map Xp.d), .int .i64 0, .int .i64 0] [] = _ := exprs_ev h.c89 s.exprs hok.exprs hn 0 0 (by omega)
  have h51 : EvF Γ 89 [.list (s.exprs.map Xp.d), .int .i64 0, .int .i64 1] [] = _ := exprs_ev h.c89 s.exprs hok.exprs hn 0 1 (by omega)
  rw [EvF_run h.e51 rfl]
  by_cases b5 : s.num = 0
  · by_cases b1 : s.on = []
    rotate_left
    · simp [f51, callIn_pure, k2, h1, h2, h4, h50, h51, l01In_ev h.c28, restOk, onC, listC, flagC, typeC, numC, hiC, b5, b1]
    by_cases b2 : s.list = []
    rotate_left
    · simp [f51, callIn_pure, k2, h1, h2, h4, h50, h51, l01In_ev h.c28, restOk, onC, listC, flagC, typeC, numC, hiC, b5, b1, b2]
    cases b3 : s.flag
    rotate_left
    · simp [f51, callIn_pure, k2, h1, h2, h4, h50, h51, l01In_ev h.c28, restOk, onC, listC, flagC, typeC, numC, hiC, b5, b1, b2, b3]
    by_cases b4 : s.ty.kind = 0 ∧ s.ty.len = 0 ∧ s.ty.name = []
    rotate_left
    · simp [f51, callIn_pure, k2, h1, h2, h4, h50, h51, l01In_ev h.c28, restOk, onC, listC, flagC, typeC, numC, hiC, b5, b1, b2, b3, b4]
    simp [f51, callIn_pure, k2, h1, h2, h4, h50, h51, l01In_ev h.c28, restOk, onC, listC, flagC, typeC, numC, hiC, b5, b1, b2, b3, b4]
  · cases b6 : (decide (0 ≤ s.num) && decide (s.num ≤ 999999999))
    · by_cases b1 : s.on = []
      rotate_left
      · simp [f51, callIn_pure, k2, h1, h2, h4, h50, h51, l01In_ev h.c28, restOk, onC, listC, flagC, typeC, numC, hiC, b5, b6, b1]
      by_cases b2 : s.list = []
      rotate_left
      · simp [f51, callIn_pure, k2, h1, h2, h4, h50, h51, l01In_ev h.c28, restOk, onC, listC, flagC, typeC, numC, hiC, b5, b6, b1, b2]
      cases b3 : s.flag
      rotate_left
      · simp [f51, callIn_pure, k2, h1, h2, h4, h50, h51, l01In_ev h.c28, restOk, onC, listC, flagC, typeC, numC, hiC, b5, b6, b1, b2, b3]
      by_cases b4 : s.ty.kind = 0 ∧ s.ty.len = 0 ∧ s.ty.name = []
      rotate_left
      · simp [f51, callIn_pure, k2, h1, h2, h4, h50, h51, l01In_ev h.c28, restOk, onC, listC, flagC, typeC, numC, hiC, b5, b6, b1, b2, b3, b4]
      simp [f51, callIn_pure, k2, h1, h2, h4, h50, h51, l01In_ev h.c28, restOk, onC, listC, flagC, typeC, numC, hiC, b5, b6, b1, b2, b3, b4]
    · by_cases b1 : s.on = []
      rotate_left
      · simp [f51, callIn_pure, k2, h1, h2, h4, h50, h51, l01In_ev h.c28, restOk, onC, listC, flagC, typeC, numC, hiC, b5, b6, b1]
      by_cases b2 : s.list = []
      rotate_left
      · simp [f51, callIn_pure, k2, h1, h2, h4, h50, h51, l01In_ev h.c28, restOk, onC, listC, flagC, typeC, numC, hiC, b5, b6, b1, b2]
      cases b3 : s.flag
      rotate_left
      · simp [f51, callIn_pure, k2, h1, h2, h4, h50, h51, l01In_ev h.c28, restOk, onC, listC, flagC, typeC, numC, hiC, b5, b6, b1, b2, b3]
      by_cases b4 : s.ty.kind = 0 ∧ s.ty.len = 0 ∧ s.ty.name = []
      rotate_left
      · simp [f51, callIn_pure, k2, h1, h2, h4, h50, h51, l01In_ev h.c28, restOk, onC, listC, flagC, typeC, numC, hiC, b5, b6, b1, b2, b3, b4]
      simp [f51, callIn_pure, k2, h1, h2, h4, h50, h51, l01In_ev h.c28, restOk, onC, listC, flagC, typeC, numC, hiC, b5, b6, b1, b2, b3, b4]
set_option maxHeartbeats 40000000 in
theorem rest_o (h : H51 Γ) (s : Stmt) (hok : s.Ok) (hn : ∀ e ∈ s.exprs, e.nodes ≤ 4611686018427387904) (k0 : ¬ s.kind = 0) (k7 : ¬ s.kind = 7) (k8 : ¬ s.kind = 8) (k9 : ¬ s.kind = 9) (k10 : ¬ s.kind = 10) (k12 : ¬ s.kind = 12) (k13 : ¬ s.kind = 13) (k15 : ¬ s.kind = 15) (k2 : ¬ s.kind = 2) : EvF Γ 51 [s.d] [] = some (.bool (restOk s), []) := by
  have h1 := specName_ev h.c43 s.on hok.on
  have h2 : EvF Γ 90 [.list (s.list.map .str), .int .i64 12] [] = _ := names_ev h.c90 s.list hok.list 12 (by omega)
  have h4 := specType_ev h.c21 s.ty hok.ty.name
  have h50 : EvF Γ 89 [.list (s.exprs.map Xp.d), .int .i64 0, .int .i64 0] [] = _ := exprs_ev h.c89 s.exprs hok.exprs hn 0 0 (by omega)
  have h51 : EvF Γ 89 [.list (s.exprs.map Xp.d), .int .i64 0, .int .i64 1] [] = _ := exprs_ev h.c89 s.exprs hok.exprs hn 0 1 (by omega)
  rw [EvF_run h.e51 rfl]
  by_cases b5 : s.num = 0
  · by_cases b1 : s.on = []
    rotate_left
    · simp [f51, callIn_pure, k0, k7, k8, k9, k10, k12, k13, k15, k2, h1, h2, h4, h50, h51, l01In_ev h.c28, restOk, onC, listC, flagC, typeC, numC, hiC, b5, b1]
    by_cases b2 : s.list = []
    rotate_left
    · simp [f51, callIn_pure, k0, k7, k8, k9, k10, k12, k13, k15, k2, h1, h2, h4, h50, h51, l01In_ev h.c28, restOk, onC, listC, flagC, typeC, numC, hiC, b5, b1, b2]
    cases b3 : s.flag
    rotate_left
    · simp [f51, callIn_pure, k0, k7, k8, k9, k10, k12, k13, k15, k2, h1, h2, h4, h50, h51, l01In_ev h.c28, restOk, onC, listC, flagC, typeC, numC, hiC, b5, b1, b2, b3]
    by_cases b4 : s.ty.kind = 0 ∧ s.ty.len = 0 ∧ s.ty.name = []
    rotate_left
    · simp [f51, callIn_pure, k0, k7, k8, k9, k10, k12, k13, k15, k2, h1, h2, h4, h50, h51, l01In_ev h.c28, restOk, onC, listC, flagC, typeC, numC, hiC, b5, b1, b2, b3, b4]
    simp [f51, callIn_pure, k0, k7, k8, k9, k10, k12, k13, k15, k2, h1, h2, h4, h50, h51, l01In_ev h.c28, restOk, onC, listC, flagC, typeC, numC, hiC, b5, b1, b2, b3, b4]
  · by_cases b1 : s.on = []
    rotate_left
    · simp [f51, callIn_pure, k0, k7, k8, k9, k10, k12, k13, k15, k2, h1, h2, h4, h50, h51, l01In_ev h.c28, restOk, onC, listC, flagC, typeC, numC, hiC, b5, b1]
    by_cases b2 : s.list = []
    rotate_left
    · simp [f51, callIn_pure, k0, k7, k8, k9, k10, k12, k13, k15, k2, h1, h2, h4, h50, h51, l01In_ev h.c28, restOk, onC, listC, flagC, typeC, numC, hiC, b5, b1, b2]
    cases b3 : s.flag
    rotate_left
    · simp [f51, callIn_pure, k0, k7, k8, k9, k10, k12, k13, k15, k2, h1, h2, h4, h50, h51, l01In_ev h.c28, restOk, onC, listC, flagC, typeC, numC, hiC, b5, b1, b2, b3]
    by_cases b4 : s.ty.kind = 0 ∧ s.ty.len = 0 ∧ s.ty.name = []
    rotate_left
    · simp [f51, callIn_pure, k0, k7, k8, k9, k10, k12, k13, k15, k2, h1, h2, h4, h50, h51, l01In_ev h.c28, restOk, onC, listC, flagC, typeC, numC, hiC, b5, b1, b2, b3, b4]
    simp [f51, callIn_pure, k0, k7, k8, k9, k10, k12, k13, k15, k2, h1, h2, h4, h50, h51, l01In_ev h.c28, restOk, onC, listC, flagC, typeC, numC, hiC, b5, b1, b2, b3, b4]
theorem rest_ev (h : H51 Γ) (s : Stmt) (hok : s.Ok) (hn : ∀ e ∈ s.exprs, e.nodes ≤ 4611686018427387904) : EvF Γ 51 [s.d] [] = some (.bool (restOk s), []) := by
  by_cases k0 : s.kind = 0
  · exact rest_0 h s hok hn k0
  by_cases k7 : s.kind = 7
  · exact rest_7 h s hok hn k7
  by_cases k12 : s.kind = 12
  · exact rest_12 h s hok hn k12
  by_cases k8 : s.kind = 8
  · exact rest_8 h s hok hn k8
  by_cases k9 : s.kind = 9
  · exact rest_9 h s hok hn k9
  by_cases k10 : s.kind = 10
  · exact rest_10 h s hok hn k10
  by_cases k13 : s.kind = 13
  · exact rest_13 h s hok hn k13
  by_cases k15 : s.kind = 15
  · exact rest_15 h s hok hn k15
  by_cases k2 : s.kind = 2
  · exact rest_2 h s hok hn k2
  exact rest_o h s hok hn k0 k7 k8 k9 k10 k12 k13 k15 k2
end Go.DM
