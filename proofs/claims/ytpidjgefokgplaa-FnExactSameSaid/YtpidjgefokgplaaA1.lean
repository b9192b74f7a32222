/- Sums and whole bytes: the equations of the functions. -/
import Derived.Test.YtpidjgefokgplaaCode1
import Derived.Test.YtpidjgefokgplaaLst
set_option linter.unusedVariables false
set_option linter.unusedSimpArgs false
namespace Go.DM
open Go
variable {Γ : Tab}
theorem within_ev (h : H29 Γ) (a b c : Int) : EvF Γ 29 [.int .i64 a, .int .i64 b, .int .i64 c] [] = some (.bool (decide (b ≤ a) && decide (a ≤ c)), []) := by
  rw [EvF_run h.e29 rfl]
  by_cases h1 : b ≤ a <;> simp [f29, h1]
theorem l01In_ev (h : H28 Γ) (a b c : Int) : EvF Γ 28 [.int .i64 a, .int .i64 b, .int .i64 c] [] = some (.bool (decide (b ≤ a) && decide (a ≤ c)), []) := by
  rw [EvF_run h.e28 rfl]
  by_cases h1 : b ≤ a <;> simp [f28, h1]
def crcBit (x : Int) : Int := if andI .u32 x 1 = 1 then xorI .u32 (shrI .u32 x 1) 3988292384 else shrI .u32 x 1
def crcBits : Nat → Int → Int
  | 0, x => x
  | n + 1, x => crcBits n (crcBit x)
def crcAll : List UInt8 → Int → Int
  | [], x => x
  | b :: r, x => crcAll r (crcBits 8 (xorI .u32 x (IntKind.wrap .u32 b.toNat)))
def crc (s : List UInt8) : Int := IntKind.wrap .i64 (notI .u32 (crcAll s 4294967295))
theorem crcBits_step {k : Nat} (hk : k < 8) (x : Int) : crcBits (8 - k) x = crcBits (8 - (k + 1)) (crcBit x) := by
  have e : 8 - k = (8 - (k + 1)) + 1 := by omega
  rw [e]; rfl
theorem implInner (σ : Store) (a n i : D) (x : Int) {ρ : Env} (hρ : keepOnly [0, 3, 7, 8, 17] ρ = [(0, a), (3, .int .u32 x), (7, n), (8, i), (17, .int .i64 0)]) :
    inBlk 2 [0, 3, 7, 8] (EvC Γ f2L1 ρ σ) = some (.norm, [(0, a), (3, .int .u32 (crcBits 8 x)), (7, n), (8, i)], σ) := by
  refine loop_nat (L := f2L1) rfl (inBlk 2 [0, 3, 7, 8]) 8 (fun k (x : Int) => [(0, a), (3, .int .u32 x), (7, n), (8, i), (17, .int .i64 k)]) (fun _ _ => σ) (fun k x => some (.norm, [(0, a), (3, .int .u32 (crcBits (8 - k) x)), (7, n), (8, i)], σ)) ?_ ?_ 0 x ρ (by omega) hρ
  · intro x; simp [f2l1, crcBits]
  · intro k x hk ih
    have hw := wrap64_succ hk (by omega)
    have hk' : (k : Int) < 8 := by omega
    have ih := ih (crcBit x)
    rw [crcBits_step hk]
    by_cases hb : andI .u32 x 1 = 1
    · rw [show crcBit x = xorI .u32 (shrI .u32 x 1) 3988292384 by simp [crcBit, hb]] at *
      simp [f2l1, hb, hw, hk', ih]
    · rw [show crcBit x = shrI .u32 x 1 by simp [crcBit, hb]] at *
      simp [f2l1, hb, hw, hk', ih]
theorem implOuter (σ : Store) (s : Str) (hl : s.length ≤ 1048576) (x : Int) {ρ : Env} (hρ : keepOnly [0, 3, 7, 8] ρ = [(0, .str s), (3, .int .u32 x), (7, .int .i64 s.length), (8, .int .i64 0)]) :
    inBlk 0 [3] (EvC Γ f2L2 ρ σ) = some (.norm, [(3, .int .u32 (crcAll s x))], σ) := by
  refine loop_list (L := f2L2) rfl (inBlk 0 [3]) s (fun k (x : Int) => [(0, .str s), (3, .int .u32 x), (7, .int .i64 s.length), (8, .int .i64 k)]) (fun _ _ => σ) (fun _ r x => some (.norm, [(3, .int .u32 (crcAll r x))], σ)) ?_ ?_ x ρ hρ
  · intro x; simp [f2l2, crcAll]
  · intro i b r x hb hi hr ih
    have hw := wrap64_succ hi (by omega)
    have hi' : (i : Int) < s.length := by omega
    simp [f2l2, hb, hw, hi', crcAll, implInner (Γ := Γ) σ (.str s) (.int .i64 s.length) (.int .i64 i) (xorI .u32 x (IntKind.wrap .u32 b.toNat)), ih (crcBits 8 (xorI .u32 x (IntKind.wrap .u32 b.toNat)))]
theorem implCrc_ev (h : H2 Γ) (s : Str) (hl : s.length ≤ 1048576) : EvF Γ 2 [.str s] [] = some (.int .i64 (crc s), []) := by
  rw [EvF_run h.e2 rfl]
  simp [f2, implOuter [] s hl 4294967295, crc]
theorem specInner (σ : Store) (a i : D) (x : Int) {ρ : Env} (hρ : keepOnly [0, 3, 4, 5] ρ = [(0, a), (3, .int .u32 x), (4, i), (5, .int .i64 0)]) :
    inBlk 2 [0, 3, 4] (EvC Γ f3L1 ρ σ) = some (.norm, [(0, a), (3, .int .u32 (crcBits 8 x)), (4, i)], σ) := by
  refine loop_nat (L := f3L1) rfl (inBlk 2 [0, 3, 4]) 8 (fun k (x : Int) => [(0, a), (3, .int .u32 x), (4, i), (5, .int .i64 k)]) (fun _ _ => σ) (fun k x => some (.norm, [(0, a), (3, .int .u32 (crcBits (8 - k) x)), (4, i)], σ)) ?_ ?_ 0 x ρ (by omega) hρ
  · intro x; simp [f3l1, crcBits]
  · intro k x hk ih
    have hw := wrap64_succ hk (by omega)
    have hk' : (k : Int) < 8 := by omega
    have ih := ih (crcBit x)
    rw [crcBits_step hk]
    by_cases hb : andI .u32 x 1 = 1
    · rw [show crcBit x = xorI .u32 (shrI .u32 x 1) 3988292384 by simp [crcBit, hb]] at *
      simp [f3l1, hb, hw, hk', ih]
    · rw [show crcBit x = shrI .u32 x 1 by simp [crcBit, hb]] at *
      simp [f3l1, hb, hw, hk', ih]
theorem specOuter (σ : Store) (s : Str) (hl : s.length ≤ 1048576) (x : Int) {ρ : Env} (hρ : keepOnly [0, 3, 4] ρ = [(0, .str s), (3, .int .u32 x), (4, .int .i64 0)]) :
    inBlk 0 [3] (EvC Γ f3L2 ρ σ) = some (.norm, [(3, .int .u32 (crcAll s x))], σ) := by
  refine loop_list (L := f3L2) rfl (inBlk 0 [3]) s (fun k (x : Int) => [(0, .str s), (3, .int .u32 x), (4, .int .i64 k)]) (fun _ _ => σ) (fun _ r x => some (.norm, [(3, .int .u32 (crcAll r x))], σ)) ?_ ?_ x ρ hρ
  · intro x; simp [f3l2, crcAll]
  · intro i b r x hb hi hr ih
    have hw := wrap64_succ hi (by omega)
    have hi' : (i : Int) < s.length := by omega
    simp [f3l2, hb, hw, hi', crcAll, specInner (Γ := Γ) σ (.str s) (.int .i64 i) (xorI .u32 x (IntKind.wrap .u32 b.toNat)), ih (crcBits 8 (xorI .u32 x (IntKind.wrap .u32 b.toNat)))]
theorem specCrc_ev (h : H3 Γ) (s : Str) (hl : s.length ≤ 1048576) : EvF Γ 3 [.str s] [] = some (.int .i64 (crc s), []) := by
  rw [EvF_run h.e3 rfl]
  simp [f3, specOuter [] s hl 4294967295, crc]
theorem slPrefix_ev (h : H72 Γ) (s t : Str) : EvF Γ 72 [.str s, .str t] [] = some (.bool (decide (s.take t.length = t)), []) := by
  rw [EvF_run h.e72 rfl]
  by_cases h1 : t.length ≤ s.length
  · have h2 : (t.length : Int) ≤ s.length := by omega
    simp [f72, h1, h2, sub?]
  · have h2 : ¬ (t.length : Int) ≤ s.length := by omega
    have h3 : ¬ s.take t.length = t := fun e => by
      have := congrArg List.length e
      simp at this
      omega
    simp [f72, h1, h2, h3]
theorem prefix_ev (h : H32 Γ) (s t : Str) : EvF Γ 32 [.str s, .str t] [] = some (.bool (decide (s.take t.length = t)), []) := by
  rw [EvF_run h.e32 rfl]
  simp [f32, callIn_pure, slPrefix_ev h.c72 s t]
def sumOf (s : Str) : Str := [lowB (crc s), lowB (shrI .i64 (crc s) 8), lowB (shrI .i64 (crc s) 16), lowB (shrI .i64 (crc s) 24)]
theorem crcBytes_ev (h : H31 Γ) (s : Str) (hl : s.length ≤ 1048576) : EvF Γ 31 [.str s] [] = some (.str (sumOf s), []) := by
  rw [EvF_run h.e31 rfl]
  simp [f31, callIn_pure, implCrc_ev h.c2 s hl, b2sE, bytesOf?, byteD_wrap, sumOf]
theorem shrI0 (n : Int) : shrI .i64 n 0 = n := by simp [shrI, IntKind.bits]
end Go.DM
