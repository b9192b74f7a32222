/- Tables of a seat: the seat's function numbers and the machine's. -/
import Derived.Test.YtpidjgefokgplaaRow
import Derived.Test.YtpidjgefokgplaaData
set_option linter.unnecessarySimpa false
set_option linter.unusedVariables false
set_option linter.unusedSimpArgs false
set_option linter.unusedSectionVars false
namespace Go.DM
open Go

/-- (the seat's number, the machine's number) -/
abbrev Pairs := List (Nat × Nat)
def gidOf : Pairs → FuncId → Option Nat
  | [], _ => none
  | (f, g) :: r, x => if f = x then some g else gidOf r x
def numOf : Pairs → Nat → FuncId
  | [], _ => 0
  | (f, g) :: r, x => if g = x then f else numOf r x
def numB (all : Pairs) : Pairs → Bool
  | [] => true
  | (f, g) :: r => (numOf all g == f) && numB all r
theorem gid_num {all : Pairs} : ∀ {ps : Pairs}, numB all ps = true → ∀ f g, gidOf ps f = some g → numOf all g = f
  | [], _, f, g, h => by cases h
  | (f', g') :: r, hb, f, g, h => by
    simp only [numB, Bool.and_eq_true, beq_iff_eq] at hb
    simp only [gidOf] at h
    split at h
    · rename_i e; cases h; rw [hb.1, e]
    · exact gid_num hb.2 f g h

def tabOf : List (Nat × Def) → Tab
  | [], _ => none
  | (g, d) :: r, x => if g = x then some d else tabOf r x

/-- one row of the table -/
def EntryOk (num : Cfg) (P : Program) (N : Names) (g : Nat) (d : Def) : Prop :=
  match d with
  | .code df => ∃ fn, P.funcs[num g]? = some fn ∧ (fn.name == "runtime.NumGoroutine") = false ∧ compileF P N fn = some df.bare ∧ okF fn df = true
  | .law f => LawOk num P g f

theorem rows_nil {num : Cfg} {P : Program} {N : Names} : ∀ g d, (g, d) ∈ ([] : List (Nat × Def)) → EntryOk num P N g d := by simp
theorem rows_cons {num : Cfg} {P : Program} {N : Names} {g' : Nat} {d' : Def} {l : List (Nat × Def)} (h : EntryOk num P N g' d') (k : ∀ g d, (g, d) ∈ l → EntryOk num P N g d) : ∀ g d, (g, d) ∈ (g', d') :: l → EntryOk num P N g d := by
  intro g d hm
  rcases List.mem_cons.1 hm with e | e
  · cases e; exact h
  · exact k g d e
theorem tabOf_ok {num : Cfg} {P : Program} {N : Names} (hN : ∀ f g, N.gid f = some g → num g = f) : ∀ {l : List (Nat × Def)}, (∀ g d, (g, d) ∈ l → EntryOk num P N g d) → TabOk num P (tabOf l)
  | [], _, g => by simp [tabOf]
  | (g', d) :: r, h, g => by
    simp only [tabOf]
    by_cases e : g' = g
    · rw [if_pos e]
      have := h g' d (by simp)
      rw [e] at this
      cases d with
      | code df =>
        obtain ⟨fn, h1, h2, h3, h4⟩ := this
        exact ⟨fn, N, hN, h1, h2, h3, h4⟩
      | law f => exact this
    · rw [if_neg e]
      exact tabOf_ok hN (fun g d hm => h g d (by simp [hm])) g

theorem rep_agg_of_cells {num : Cfg} {S : Mem} {cs : List D} {v : Value} (h : RepL num S noInf cs v.cells.toList) (hl : cs.length ≠ 1) : Rep num S noInf (.agg cs) v := by
  cases v with
  | agg a => exact rep_agg.2 ⟨a.toList, by simp, by simpa [Value.cells] using h⟩
  | _ =>
    exfalso
    have := repL_length h
    simp [Value.cells] at this
    exact hl this.symm

/-- one cell that is no struct's -/
theorem rep_one_of_cells {num : Cfg} {S : Mem} {d : D} {v : Value} (h : RepL num S noInf [d] v.cells.toList) (hd : match d with | .int .. | .bool _ | .str _ | .list _ => True | _ => False) (hv : ∀ a, v ≠ .agg a) : Rep num S noInf d v := by
  rw [repL_cons] at h
  obtain ⟨u, us, e, h1, h2⟩ := h
  cases v with
  | agg a => exact absurd rfl (hv a)
  | _ => simp [Value.cells] at e; obtain ⟨rfl, _⟩ := e; exact h1
end Go.DM
