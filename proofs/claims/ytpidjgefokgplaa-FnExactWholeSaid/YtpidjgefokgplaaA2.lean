/- Whole: the equations of the functions that tell whether bytes are whole. -/
import Derived.Test.YtpidjgefokgplaaA1
set_option linter.unusedVariables false
set_option linter.unusedSimpArgs false
namespace Go.DM
open Go
variable {Γ : Tab}
/-- four bytes of a number, the highest first -/
theorem num4_ev (h : H71 Γ) (n : Int) : EvF Γ 71 [.int .i64 n, .int .i64 4] [] = some (.str [lowB (shrI .i64 n 24), lowB (shrI .i64 n 16), lowB (shrI .i64 n 8), lowB (shrI .i64 n 0)], []) := by
  rw [EvF_run h.e71 rfl]
  have hw : ∀ k : Int, 0 ≤ k → k < 256 → IntKind.wrap .u64 k = k := by
    intro k h0 h1
    unfold IntKind.wrap
    simp [IntKind.bits, IntKind.signed]
    omega
  have hm : IntKind.wrap .i64 (-1) = -1 := by decide
  simp [f71, f71L1, f71l1, EvC_loop, wrap64, hw, hm, room, b2sE, bytesOf?, byteD_wrap]
theorem l14Sum_ev (h : H30 Γ) (s : Str) (hl : s.length ≤ 1048576) : EvF Γ 30 [.str s] [] = some (.str (sumOf s), []) := by
  rw [EvF_run h.e30 rfl]
  simp [f30, callIn_pure, specCrc_ev h.c3 s hl, num4_ev h.c71, b2sE, bytesOf?, byteD_byte, sumOf, shrI0]
def planB : Str := [80, 76, 65, 78, 1]
def whole (s : Str) : Bool := decide (9 ≤ s.length) && decide (s.take 5 = planB) && decide (s.drop (s.length - 4) = sumOf (s.take (s.length - 4)))
theorem specWhole_ev (h : H11 Γ) (s : Str) (hl : s.length ≤ 1048576) : EvF Γ 11 [.str s] [] = some (.bool (whole s), []) := by
  rw [EvF_run h.e11 rfl]
  by_cases h9 : 9 ≤ s.length
  · have h9' : (9 : Int) ≤ s.length := by omega
    have hw : IntKind.wrap .i64 ((s.length : Int) - 4) = ((s.length - 4 : Nat) : Int) := by
      rw [wrap64] <;> omega
    have e5 : (5 : Int) ≤ s.length := by omega
    have e6 : ((s.length - 4 : Nat) : Int) ≤ s.length := by omega
    by_cases h5 : s.take 5 = planB
    · have h5' := h5
      simp only [planB] at h5'
      have hs := l14Sum_ev h.c30 (s.take (s.length - 4)) (by simp; omega)
      simp [f11, h9', hw, e5, e6, h5', callIn_pure, hs, whole, h9, h5, sub?, planB]
    · have h5' := h5
      simp only [planB] at h5'
      simp [f11, h9', hw, e5, h5', whole, h5, sub?]
  · have h9' : ¬ (9 : Int) ≤ s.length := by omega
    simp [f11, h9', whole, h9]
theorem implWhole_ev (h : H10 Γ) (s : Str) (hl : s.length ≤ 1048576) : EvF Γ 10 [.str s] [] = some (.bool (whole s), []) := by
  rw [EvF_run h.e10 rfl]
  by_cases h9 : 9 ≤ s.length
  · have h9' : (9 : Int) ≤ s.length := by omega
    have hw : IntKind.wrap .i64 ((s.length : Int) - 4) = ((s.length - 4 : Nat) : Int) := by
      rw [wrap64] <;> omega
    have e6 : ((s.length - 4 : Nat) : Int) ≤ s.length := by omega
    have hp := prefix_ev h.c32 s planB
    by_cases h5 : s.take 5 = planB
    · have hs := crcBytes_ev h.c31 (s.take (s.length - 4)) (by simp; omega)
      have e : planB.length = 5 := rfl
      simp only [e, h5, decide_true] at hp
      simp only [planB] at hp
      simp [f10, h9', hw, e6, callIn_pure, hs, hp, whole, h9, h5, sub?]
      exact eq_comm
    · have e : planB.length = 5 := rfl
      simp only [e, h5, decide_false] at hp
      simp only [planB] at hp
      simp [f10, h9', hw, callIn_pure, hp, whole, h5, sub?]
  · have h9' : ¬ (9 : Int) ≤ s.length := by omega
    simp [f10, h9', whole, h9]
theorem fnExactWhole_ev (h : H9 Γ) (s : Str) (_ : s.length ≤ 9223372036854775807) : EvF Γ 9 [.str s] [] = some (.bool true, []) := by
  rw [EvF_run h.e9 rfl]
  by_cases hl : s.length ≤ 1048576
  · have hl' : ¬ (1048576 : Int) < s.length := by omega
    simp [f9, hl', callIn_pure, specWhole_ev h.c11 s hl, implWhole_ev h.c10 s hl]
  · have hl' : (1048576 : Int) < s.length := by omega
    simp [f9, hl']
end Go.DM
