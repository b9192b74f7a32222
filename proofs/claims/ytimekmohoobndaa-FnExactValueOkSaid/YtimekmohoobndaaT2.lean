/- Values: the equations of the functions that tell whether a value is right. -/
import Derived.Test.YtimekmohoobndaaCode1
import Derived.Test.YtimekmohoobndaaSim
set_option linter.unnecessarySimpa false
set_option linter.unusedVariables false
set_option linter.unusedSimpArgs false
set_option linter.unusedSectionVars false
namespace Go.DM
open Go
variable {Γ : Tab}
theorem within_ev (h : H29 Γ) (a b c : Int) : EvF Γ 29 [.int .i64 a, .int .i64 b, .int .i64 c] [] = some (.bool (decide (b ≤ a) && decide (a ≤ c)), []) := by
  rw [EvF_run h.e29 rfl]
  by_cases h1 : b ≤ a <;> simp [f29, h1]
theorem l01In_ev (h : H28 Γ) (a b c : Int) : EvF Γ 28 [.int .i64 a, .int .i64 b, .int .i64 c] [] = some (.bool (decide (b ≤ a) && decide (a ≤ c)), []) := by
  rw [EvF_run h.e28 rfl]
  by_cases h1 : b ≤ a <;> simp [f28, h1]
def valueOk (k n : Int) (s : List UInt8) : Bool :=
  if k = 0 then decide (n = 0) && decide (s = [])
  else if k = 1 then decide (-999999999999 ≤ n) && decide (n ≤ 999999999999) && decide (s = [])
  else if k = 2 then decide (n = 0) && decide ((s.length : Int) ≤ 100)
  else if k = 3 then decide (0 ≤ n) && decide (n ≤ 1) && decide (s = [])
  else false
theorem implValueOk_ev (h : H5 Γ) (k n : Int) (s : List UInt8) : EvF Γ 5 [.agg [.int .i64 k, .int .i64 n, .str s]] [] = some (.bool (valueOk k n s), []) := by
  rw [EvF_run h.e5 rfl]
  unfold valueOk
  by_cases h0 : k = 0
  · subst h0
    by_cases hn : n = 0 <;> simp [f5, hn]
  by_cases h1 : k = 1
  · subst h1
    by_cases ha : -999999999999 ≤ n ∧ n ≤ 999999999999 <;> simp [f5, callIn_pure, within_ev h.c29, ha]
  by_cases h2 : k = 2
  · subst h2
    by_cases hn : n = 0 <;> simp [f5, hn]
  by_cases h3 : k = 3
  · subst h3
    by_cases ha : 0 ≤ n ∧ n ≤ 1 <;> simp [f5, callIn_pure, within_ev h.c29, ha]
  simp [f5, h0, h1, h2, h3]
theorem specValueOk_ev (h : H8 Γ) (k n : Int) (s : List UInt8) : EvF Γ 8 [.agg [.int .i64 k, .int .i64 n, .str s]] [] = some (.bool (valueOk k n s), []) := by
  rw [EvF_run h.e8 rfl]
  unfold valueOk
  by_cases h0 : k = 0
  · subst h0
    by_cases hn : n = 0 <;> simp [f8, hn]
  by_cases h1 : k = 1
  · subst h1
    by_cases ha : -999999999999 ≤ n ∧ n ≤ 999999999999 <;> simp [f8, callIn_pure, l01In_ev h.c28, ha]
  by_cases h2 : k = 2
  · subst h2
    by_cases hn : n = 0 <;> simp [f8, hn]
  by_cases h3 : k = 3
  · subst h3
    by_cases ha : 0 ≤ n ∧ n ≤ 1 <;> simp [f8, callIn_pure, l01In_ev h.c28, ha]
  simp [f8, h0, h1, h2, h3]
theorem toValue_ev (h : H7 Γ) (k n : Int) (s : List UInt8) : EvF Γ 7 [.agg [.int .i64 k, .int .i64 n, .str s]] [] = some (.agg [.int .i64 k, .int .i64 n, .str s], []) := by
  rw [EvF_run h.e7 rfl]
  simp [f7]
theorem szValue_ev (h : H6 Γ) (k n : Int) (s : List UInt8) (l : Int) : ∃ r, EvF Γ 6 [.agg [.int .i64 k, .int .i64 n, .str s], .int .i64 l] [] = some (.int .i64 r, []) := by
  rw [EvF_run h.e6 rfl]
  by_cases h1 : IntKind.wrap .i64 (l - s.length) < 0 <;> simp [f6, h1]
theorem fnExactValueOk_ev (h : H4 Γ) (k n : Int) (s : List UInt8) : EvF Γ 4 [.agg [.int .i64 k, .int .i64 n, .str s]] [] = some (.bool true, []) := by
  rw [EvF_run h.e4 rfl]
  obtain ⟨r, hr⟩ := szValue_ev h.c6 k n s 1048576
  by_cases h1 : r < 0 <;> simp [f4, callIn_pure, hr, h1, toValue_ev h.c7, specValueOk_ev h.c8, implValueOk_ev h.c5]
end Go.DM
