/- Sums: the equations of the functions that reckon them. -/
import Derived.Test.YtimekmohoobndaaCode1
import Derived.Test.YtimekmohoobndaaSim
set_option linter.unusedVariables false
namespace Go.DM
open Go
variable {Γ : Tab}
def crcBit (x : Int) : Int := if andI .u32 x 1 = 1 then xorI .u32 (shrI .u32 x 1) 3988292384 else shrI .u32 x 1
def crcBits : Nat → Int → Int
  | 0, x => x
  | n + 1, x => crcBits n (crcBit x)
theorem wrap64 {n : Int} (h0 : 0 ≤ n) (h1 : n < 9223372036854775808) : IntKind.wrap .i64 n = n := by
  unfold IntKind.wrap
  simp [IntKind.bits, IntKind.signed]
  omega
theorem spec_inner (σ : Store) (a i : D) : ∀ (m : Nat) (x : Int), m ≤ 8 → EvC Γ (.loop [0, 4, 5, 3] f3l1) [(0, a), (4, i), (5, .int .i64 (8 - m)), (3, .int .u32 x)] σ =
    some (.exit 2, [(19, .bool false), (18, .int .i64 8), (0, a), (4, i), (5, .int .i64 8), (3, .int .u32 (crcBits m x))], σ)
  | 0, x, _ => by
    rw [EvC_loop]
    simp [f3l1, crcBits]
  | m + 1, x, hm => by
    have ih := spec_inner σ a i m (crcBit x) (by omega)
    have hlt : (8 : Int) - ((m : Int) + 1) < 8 := by omega
    have hw : IntKind.wrap .i64 (8 - ((m : Int) + 1) + 1) = 8 - m := by rw [wrap64 (by omega) (by omega)]; omega
    rw [EvC_loop]
    generalize hL : EvC Γ (.loop [0, 4, 5, 3] f3l1) = L
    by_cases hb : andI .u32 x 1 = 1
    · simp [f3l1, hlt, hb, hw]
      rw [← hL, EvC_loop_keep (ρ' := [(0, a), (4, i), (5, .int .i64 (8 - m)), (3, .int .u32 (crcBit x))]) (by simp [crcBit, hb]), ih]
      rfl
    · simp [f3l1, hlt, hb, hw]
      rw [← hL, EvC_loop_keep (ρ' := [(0, a), (4, i), (5, .int .i64 (8 - m)), (3, .int .u32 (crcBit x))]) (by simp [crcBit, hb]), ih]
      rfl
def crcAll : List UInt8 → Int → Int
  | [], x => x
  | b :: r, x => crcAll r (crcBits 8 (xorI .u32 x (IntKind.wrap .u32 b.toNat)))
theorem at_mid (p r : List UInt8) (b : UInt8) : (p ++ b :: r)[p.length]? = some b := by simp
theorem spec_outer (σ : Store) : ∀ (r p : List UInt8) (x : Int), (p ++ r).length ≤ 1048576 → EvC Γ (.loop [0, 4, 3] f3l2) [(0, .str (p ++ r)), (4, .int .i64 p.length), (3, .int .u32 x)] σ =
    some (.exit 0, [(9, .bool false), (8, .int .i64 (p ++ r).length), (7, .str (p ++ r)), (6, .int .i64 (p ++ r).length), (0, .str (p ++ r)), (4, .int .i64 (p ++ r).length), (3, .int .u32 (crcAll r x))], σ)
  | [], p, x, _ => by
    rw [EvC_loop]
    simp [f3l2, crcAll]
  | b :: r, p, x, hl => by
    have ih := spec_outer σ r (p ++ [b]) (crcBits 8 (xorI .u32 x (IntKind.wrap .u32 b.toNat))) (by simpa using hl)
    simp at hl
    have hlt : (p.length : Int) < (p.length : Int) + ((r.length : Int) + 1) := by omega
    have hw : IntKind.wrap .i64 ((p.length : Int) + 1) = p.length + 1 := wrap64 (by omega) (by omega)
    have hin := fun y => spec_inner (Γ := Γ) σ (.str (p ++ b :: r)) (.int .i64 p.length) 8 y (by omega)
    simp at hin
    rw [EvC_loop]
    generalize hL : EvC Γ (.loop [0, 4, 3] f3l2) = L
    simp [f3l2, hlt]
    rw [EvC_loop_keep (ρ' := [(0, .str (p ++ b :: r)), (4, .int .i64 p.length), (5, .int .i64 0), (3, .int .u32 (xorI .u32 x (IntKind.wrap .u32 b.toNat)))]) (by simp), hin]
    simp [hw]
    rw [← hL, EvC_loop_keep (ρ' := [(0, .str ((p ++ [b]) ++ r)), (4, .int .i64 (p ++ [b]).length), (3, .int .u32 (crcBits 8 (xorI .u32 x (IntKind.wrap .u32 b.toNat))))]) (by simp), ih]
    simp [crcAll]
def crc (s : List UInt8) : Int := IntKind.wrap .i64 (notI .u32 (crcAll s 4294967295))
theorem specCrc_ev (h : H3 Γ) (s : List UInt8) (hl : s.length ≤ 1048576) : EvF Γ 3 [.str s] [] = some (.int .i64 (crc s), []) := by
  rw [EvF_run h.e3 rfl]
  have hout := spec_outer (Γ := Γ) [] s [] 4294967295 (by simpa using hl)
  simp at hout
  generalize hL : EvC Γ (.loop [0, 4, 3] f3l2) = L
  simp [f3, hL]
  rw [← hL, EvC_loop_keep (ρ' := [(0, .str s), (4, .int .i64 0), (3, .int .u32 4294967295)]) (by simp), hout]
  simp [crc]
theorem impl_inner (σ : Store) (a n i : D) : ∀ (m : Nat) (x : Int), m ≤ 8 → EvC Γ (.loop [0, 7, 8, 17, 3] f2l1) [(0, a), (7, n), (8, i), (17, .int .i64 (8 - m)), (3, .int .u32 x)] σ =
    some (.exit 2, [(18, .bool false), (0, a), (7, n), (8, i), (17, .int .i64 8), (3, .int .u32 (crcBits m x))], σ)
  | 0, x, _ => by
    rw [EvC_loop]
    simp [f2l1, crcBits]
  | m + 1, x, hm => by
    have ih := impl_inner σ a n i m (crcBit x) (by omega)
    have hlt : (8 : Int) - ((m : Int) + 1) < 8 := by omega
    have hw : IntKind.wrap .i64 (8 - ((m : Int) + 1) + 1) = 8 - m := by rw [wrap64 (by omega) (by omega)]; omega
    rw [EvC_loop]
    generalize hL : EvC Γ (.loop [0, 7, 8, 17, 3] f2l1) = L
    by_cases hb : andI .u32 x 1 = 1
    · simp [f2l1, hlt, hb, hw]
      rw [← hL, EvC_loop_keep (ρ' := [(0, a), (7, n), (8, i), (17, .int .i64 (8 - m)), (3, .int .u32 (crcBit x))]) (by simp [crcBit, hb]), ih]
      rfl
    · simp [f2l1, hlt, hb, hw]
      rw [← hL, EvC_loop_keep (ρ' := [(0, a), (7, n), (8, i), (17, .int .i64 (8 - m)), (3, .int .u32 (crcBit x))]) (by simp [crcBit, hb]), ih]
      rfl
theorem impl_outer (σ : Store) : ∀ (r p : List UInt8) (x : Int), (p ++ r).length ≤ 1048576 → EvC Γ (.loop [0, 7, 8, 3] f2l2) [(0, .str (p ++ r)), (7, .int .i64 (p ++ r).length), (8, .int .i64 p.length), (3, .int .u32 x)] σ =
    some (.exit 0, [(9, .bool false), (0, .str (p ++ r)), (7, .int .i64 (p ++ r).length), (8, .int .i64 (p ++ r).length), (3, .int .u32 (crcAll r x))], σ)
  | [], p, x, _ => by
    rw [EvC_loop]
    simp [f2l2, crcAll]
  | b :: r, p, x, hl => by
    have ih := impl_outer σ r (p ++ [b]) (crcBits 8 (xorI .u32 x (IntKind.wrap .u32 b.toNat))) (by simpa using hl)
    simp at hl
    have hlt : (p.length : Int) < (p.length : Int) + ((r.length : Int) + 1) := by omega
    have hw : IntKind.wrap .i64 ((p.length : Int) + 1) = p.length + 1 := wrap64 (by omega) (by omega)
    have hin := fun y => impl_inner (Γ := Γ) σ (.str (p ++ b :: r)) (.int .i64 (p ++ b :: r).length) (.int .i64 p.length) 8 y (by omega)
    simp at hin
    rw [EvC_loop]
    generalize hL : EvC Γ (.loop [0, 7, 8, 3] f2l2) = L
    simp [f2l2, hlt]
    rw [EvC_loop_keep (ρ' := [(0, .str (p ++ b :: r)), (7, .int .i64 ((p.length : Int) + ((r.length : Int) + 1))), (8, .int .i64 p.length), (17, .int .i64 0), (3, .int .u32 (xorI .u32 x (IntKind.wrap .u32 b.toNat)))]) (by simp), hin]
    simp [hw]
    rw [← hL, EvC_loop_keep (ρ' := [(0, .str ((p ++ [b]) ++ r)), (7, .int .i64 ((p ++ [b]) ++ r).length), (8, .int .i64 (p ++ [b]).length), (3, .int .u32 (crcBits 8 (xorI .u32 x (IntKind.wrap .u32 b.toNat))))]) (by simp), ih]
    simp [crcAll]
    try omega
theorem implCrc_ev (h : H2 Γ) (s : List UInt8) (hl : s.length ≤ 1048576) : EvF Γ 2 [.str s] [] = some (.int .i64 (crc s), []) := by
  rw [EvF_run h.e2 rfl]
  have hout := impl_outer (Γ := Γ) [] s [] 4294967295 (by simpa using hl)
  simp at hout
  generalize hL : EvC Γ (.loop [0, 7, 8, 3] f2l2) = L
  simp [f2, hL]
  rw [← hL, EvC_loop_keep (ρ' := [(0, .str s), (7, .int .i64 s.length), (8, .int .i64 0), (3, .int .u32 4294967295)]) (by simp), hout]
  simp [crc]
theorem fnExactCrc_ev (h : H1 Γ) (s : List UInt8) : EvF Γ 1 [.str s] [] = some (.bool true, []) := by
  rw [EvF_run h.e1 rfl]
  by_cases hl : (1048576 : Int) < s.length
  · simp [f1, hl]
  · have hl' : s.length ≤ 1048576 := by omega
    simp [f1, hl, callIn_pure, specCrc_ev h.c3 s hl', implCrc_ev h.c2 s hl']
end Go.DM
