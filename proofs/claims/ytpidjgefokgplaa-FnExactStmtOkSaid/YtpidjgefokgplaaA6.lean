/- Rules: the equations of the functions that tell whether one is right. -/
import Derived.Test.YtpidjgefokgplaaA5
set_option linter.unusedVariables false
set_option linter.unusedSimpArgs false
namespace Go.DM
open Go
variable {Γ : Tab}
def ruleOk (r : Rule) : Bool := nameOk r.name && (
  if r.kind = 0 ∨ r.kind = 1 then namesOk r.cols 4 && decide (r.expr = []) && decide (r.table = []) && decide (r.to = [])
  else if r.kind = 2 then decide (r.cols = []) && exprsOk r.expr 1 1 && decide (r.table = []) && decide (r.to = [])
  else if r.kind = 3 then namesOk r.cols 4 && decide (r.expr = []) && nameOk r.table && namesOk r.to 4 && decide (r.to.length = r.cols.length)
  else false)
set_option maxHeartbeats 4000000 in
theorem specRule_ev (h : H88 Γ) (r : Rule) (hok : r.Ok) (hn : ∀ e ∈ r.expr, e.nodes ≤ 4611686018427387904) : EvF Γ 88 [r.d] [] = some (.bool (ruleOk r), []) := by
  rw [EvF_run h.e88 rfl]
  have h1 := specName_ev h.c43 r.name hok.name
  have h2 : EvF Γ 90 [.list (r.cols.map .str), .int .i64 4] [] = _ := names_ev h.c90 r.cols hok.cols 4 (by omega)
  have h3 : EvF Γ 89 [.list (r.expr.map Xp.d), .int .i64 1, .int .i64 1] [] = _ := exprs_ev h.c89 r.expr hok.expr hn 1 1 (by omega)
  have h4 := specName_ev h.c43 r.table hok.table
  have h5 : EvF Γ 90 [.list (r.to.map .str), .int .i64 4] [] = _ := names_ev h.c90 r.to hok.to 4 (by omega)
  have e5 : decide ((r.to.length : Int) = r.cols.length) = decide (r.to.length = r.cols.length) := decide_eq_decide.2 (by omega)
  cases b1 : nameOk r.name
  · simp [f88, callIn_pure, h1, b1, ruleOk]
  by_cases k0 : r.kind = 0
  · cases b2 : namesOk r.cols 4 <;> by_cases b3 : r.expr = [] <;> by_cases b4 : r.table = [] <;> simp [f88, callIn_pure, h1, h2, k0, b1, b2, b3, b4, ruleOk]
  by_cases k1 : r.kind = 1
  · cases b2 : namesOk r.cols 4 <;> by_cases b3 : r.expr = [] <;> by_cases b4 : r.table = [] <;> simp [f88, callIn_pure, h1, h2, k1, b1, b2, b3, b4, ruleOk]
  by_cases k2 : r.kind = 2
  · by_cases b2 : r.cols = [] <;> cases b3 : exprsOk r.expr 1 1 <;> by_cases b4 : r.table = [] <;> simp [f88, callIn_pure, h1, h3, k2, b1, b2, b3, b4, ruleOk]
  by_cases k3 : r.kind = 3
  · cases b2 : namesOk r.cols 4 <;> by_cases b3 : r.expr = [] <;> cases b4 : nameOk r.table <;> cases b5 : namesOk r.to 4 <;> simp [f88, callIn_pure, h1, h2, h4, h5, k3, b1, b2, b3, b4, b5, e5, ruleOk]
  simp [f88, callIn_pure, h1, k0, k1, k2, k3, b1, ruleOk]
theorem exprs11 (xs : List Xp) : exprsOk xs 1 1 = match xs with
    | [e] => exprOk e
    | _ => false := by
  match xs with
  | [] => simp [exprsOk]
  | [e] => simp [exprsOk]
  | a :: b :: r => simp [exprsOk]
set_option maxHeartbeats 4000000 in
theorem implRule_ev (h : H99 Γ) (r : Rule) (hok : r.Ok) : EvF Γ 99 [r.d] [] = some (.bool (ruleOk r), []) := by
  rw [EvF_run h.e99 rfl]
  have h1 := implName_ev h.c44 r.name
  have h2 := areIds_ev h.c60 r.cols hok.cols.1
  have h4 := implName_ev h.c44 r.table
  have h5 := areIds_ev h.c60 r.to hok.to.1
  have hw := within_ev h.c29
  have c1 : decide ((1 : Int) ≤ r.cols.length) = decide (1 ≤ r.cols.length) := decide_eq_decide.2 (by omega)
  have c2 : decide ((r.cols.length : Int) ≤ 4) = decide (r.cols.length ≤ 4) := decide_eq_decide.2 (by omega)
  have e5 : decide ((r.to.length : Int) = r.cols.length) = decide (r.to.length = r.cols.length) := decide_eq_decide.2 (by omega)
  have p1 : 0 < r.expr.length ↔ ¬ r.expr = [] := by cases r.expr <;> simp
  have p2 : 0 < r.to.length ↔ ¬ r.to = [] := by cases r.to <;> simp
  have p3 : ∀ n, namesOk r.cols n = (decide (1 ≤ r.cols.length) && decide (r.cols.length ≤ n) && r.cols.all nameOk) := fun _ => rfl
  cases b1 : nameOk r.name
  · simp [f99, callIn_pure, h1, b1, ruleOk]
  by_cases k0 : r.kind = 0
  · by_cases b3 : r.expr = []
    · by_cases b4 : r.table = []
      · by_cases b5 : r.to = []
        · cases d1 : (decide (1 ≤ r.cols.length) && decide (r.cols.length ≤ 4)) <;> simp [f99, callIn_pure, h1, h2, hw, c1, c2, p1, p2, k0, b1, b3, b4, b5, d1, ruleOk, p3]
        · simp [f99, callIn_pure, h1, p1, p2, k0, b1, b3, b4, b5, ruleOk]
      · simp [f99, callIn_pure, h1, p1, p2, k0, b1, b3, b4, ruleOk]
    · simp [f99, callIn_pure, h1, p1, p2, k0, b1, b3, ruleOk]
  by_cases k1 : r.kind = 1
  · by_cases b3 : r.expr = []
    · by_cases b4 : r.table = []
      · by_cases b5 : r.to = []
        · cases d1 : (decide (1 ≤ r.cols.length) && decide (r.cols.length ≤ 4)) <;> simp [f99, callIn_pure, h1, h2, hw, c1, c2, p1, p2, k1, b1, b3, b4, b5, d1, ruleOk, p3]
        · simp [f99, callIn_pure, h1, p1, p2, k1, b1, b3, b4, b5, ruleOk]
      · simp [f99, callIn_pure, h1, p1, p2, k1, b1, b3, b4, ruleOk]
    · simp [f99, callIn_pure, h1, p1, p2, k1, b1, b3, ruleOk]
  by_cases k2 : r.kind = 2
  · by_cases b4 : r.table = []
    · by_cases b5 : r.to = []
      · by_cases b2 : r.cols = []
        · have he := hok.expr
          cases hx : r.expr with
          | nil => simp [f99, callIn_pure, h1, p1, p2, k2, b1, b2, b4, b5, hx, ruleOk, exprs11]
          | cons e es =>
            rw [hx] at he
            have h3 := implExpr_ev h.c100 e (he.2 e (by simp))
            cases es with
            | nil => simp [f99, callIn_pure, h1, p1, p2, k2, b1, b2, b4, b5, hx, h3, ruleOk, exprs11]
            | cons e2 es =>
              have hne : ¬ (es.length : Int) + 1 + 1 = 1 := by omega
              simp [f99, callIn_pure, h1, p1, p2, k2, b1, b2, b4, b5, hx, hne, ruleOk, exprs11]
        · simp [f99, callIn_pure, h1, p1, p2, k2, b1, b2, b4, b5, ruleOk]
      · simp [f99, callIn_pure, h1, p1, p2, k2, b1, b4, b5, ruleOk]
    · simp [f99, callIn_pure, h1, p1, p2, k2, b1, b4, ruleOk]
  by_cases k3 : r.kind = 3
  · by_cases b3 : r.expr = []
    · have q : namesOk r.to 4 = (decide (1 ≤ r.to.length) && decide (r.to.length ≤ 4) && r.to.all nameOk) := rfl
      cases d1 : (decide (1 ≤ r.cols.length) && decide (r.cols.length ≤ 4))
      · simp [f99, callIn_pure, h1, hw, c1, c2, p1, p2, k3, b1, b3, d1, ruleOk, p3]
      · by_cases d2 : r.to.length = r.cols.length
        · have d2' : (r.to.length : Int) = r.cols.length := by omega
          rw [d2, d1] at q
          cases d3 : r.cols.all nameOk <;> cases d4 : r.to.all nameOk <;> cases d5 : nameOk r.table <;> simp [f99, callIn_pure, h1, h2, h4, h5, hw, c1, c2, p1, p2, k3, b1, b3, d1, d2, d2', d3, d4, d5, ruleOk, p3, q]
        · have d2' : ¬ (r.to.length : Int) = r.cols.length := by omega
          simp [f99, callIn_pure, h1, hw, c1, c2, p1, p2, k3, b1, b3, d1, d2, d2', ruleOk, p3]
    · simp [f99, callIn_pure, h1, p1, p2, k3, b1, b3, ruleOk]
  by_cases b3 : r.expr = []
  · by_cases b4 : r.table = []
    · by_cases b5 : r.to = [] <;> simp [f99, callIn_pure, h1, p1, p2, k0, k1, k2, k3, b1, b3, b4, b5, ruleOk]
    · simp [f99, callIn_pure, h1, p1, p2, k0, k1, k2, k3, b1, b3, b4, ruleOk]
  · simp [f99, callIn_pure, h1, p1, p2, k0, k1, k2, k3, b1, b3, ruleOk]
end Go.DM
