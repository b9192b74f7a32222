/- For every argument, FnExactStmtOk answers true and leaves its arguments as they were. No conditions. -/
import Derived.Test.YtpidjgefokgplaaRows
import Derived.Test.YtpidjgefokgplaaSeat
import Derived.Test.YtpidjgefokgplaaOk
import Derived.Test.YtpidjgefokgplaaA11
import Derived.Test.YtpidjgefokgplaaShelfTry
import Derived.ProofKit
import Derived.HandedShaped
set_option linter.unnecessarySimpa false
set_option linter.unusedVariables false
set_option linter.unusedSimpArgs false
set_option linter.unusedSectionVars false
set_option maxRecDepth 100000
namespace Go.Proofs.Ytpidjgefokgplaa.FnExactStmtOkLaw
open Go Go.DM Go.ChangeShapes Go.WideShapes Go.ChangeAt Go.RowKit

def pairs : Pairs := [(43, 29), (34, 28), (99, 72), (27, 32), (112, 83), (44, 44), (25, 18), (104, 82), (35, 43), (23, 21), (160, 113), (117, 101), (53, 64), (118, 102), (161, 112), (55, 100), (115, 97), (49, 96), (48, 57), (120, 103), (162, 114), (119, 104), (56, 60), (52, 99), (51, 58), (54, 59), (46, 62), (113, 94), (45, 61), (114, 95), (47, 63), (116, 98), (50, 65), (12, 23), (61, 67), (123, 107), (58, 70), (121, 105), (59, 66), (57, 69), (122, 106), (60, 68), (13, 24), (33, 46), (103, 86), (30, 49), (101, 84), (31, 45), (29, 48), (102, 85), (32, 47), (9, 25), (42, 53), (111, 93), (39, 56), (109, 91), (40, 52), (38, 55), (110, 92), (41, 54), (11, 26), (170, 116), (173, 118), (171, 117), (158, 111), (108, 89), (105, 87), (107, 90), (106, 88), (36, 50), (37, 51), (10, 27), (4, 22)]
def nm : Names := { gid := gidOf pairs }
def cfg (W : World) : Cfg := ⟨numOf pairs, memOf W⟩
theorem hN (W : World) : ∀ f g, nm.gid f = some g → (cfg W) g = f := gid_num (ps := pairs) (by kernel_rfl)
def tab : Tab := tabOf [(29, .code f29), (28, .code f28), (72, .code f72), (32, .code f32), (83, .law lawContains), (44, .code f44), (18, .code f18), (82, .code f82), (43, .code f43), (21, .code f21), (113, .code f113), (101, .code f101), (64, .code f64), (102, .code f102), (112, .code f112), (100, .code f100), (97, .code f97), (96, .code f96), (57, .code f57), (103, .code f103), (114, .code f114), (104, .code f104), (60, .code f60), (99, .code f99), (58, .code f58), (59, .code f59), (62, .code f62), (94, .code f94), (61, .code f61), (95, .code f95), (63, .code f63), (98, .code f98), (65, .code f65), (23, .code f23), (67, .code f67), (107, .code f107), (70, .code f70), (105, .code f105), (66, .code f66), (69, .code f69), (106, .code f106), (68, .code f68), (24, .code f24), (46, .code f46), (86, .code f86), (49, .code f49), (84, .code f84), (45, .code f45), (48, .code f48), (85, .code f85), (47, .code f47), (25, .code f25), (53, .code f53), (93, .code f93), (56, .code f56), (91, .code f91), (52, .code f52), (55, .code f55), (92, .code f92), (54, .code f54), (26, .code f26), (116, .code f116), (118, .code f118), (117, .code f117), (111, .code f111), (89, .code f89), (87, .code f87), (90, .code f90), (88, .code f88), (50, .code f50), (51, .code f51), (27, .code f27), (22, .code f22)]

theorem e29 (W : World) : EntryOk (cfg W) Try.prog nm 29 (.code f29) := ⟨Try.f43, Try.func43, by kernel_rfl, by kernel_rfl, by kernel_rfl⟩
theorem e28 (W : World) : EntryOk (cfg W) Try.prog nm 28 (.code f28) := ⟨Try.f34, Try.func34, by kernel_rfl, by kernel_rfl, by kernel_rfl⟩
theorem e72 (W : World) : EntryOk (cfg W) Try.prog nm 72 (.code f72) := ⟨Try.f99, Try.func99, by kernel_rfl, by kernel_rfl, by kernel_rfl⟩
theorem e32 (W : World) : EntryOk (cfg W) Try.prog nm 32 (.code f32) := ⟨Try.f27, Try.func27, by kernel_rfl, by kernel_rfl, by kernel_rfl⟩
theorem e83 (W : World) (hG : W.ShapedOpen Try.prog) : EntryOk (cfg W) Try.prog nm 83 (.law lawContains) := by
  intro args σ r σ' h
  unfold lawContains at h
  split at h
  · rename_i s t
    split at h
    · rename_i hs
      simp only [Option.some.injEq, Prod.mk.injEq] at h
      obtain ⟨rfl, rfl⟩ := h
      refine ⟨⟨Try.f112, Try.func112, by kernel_rfl, by kernel_rfl⟩, fun S I w vs hv hr => ?_⟩
      rw [repL_cons] at hr
      obtain ⟨v0, vs0, rfl, h0, hr⟩ := hr
      rw [repL_cons] at hr
      obtain ⟨v1, vs1, rfl, h1, hr⟩ := hr
      rw [rep_str] at h0 h1
      have hr : vs1 = [] := by simpa using hr
      subst h0 h1 hr
      obtain ⟨m, hm⟩ := Try.laysM144.s1_3 W hG
      have hm : w.cell? ⟨0, 0, none⟩ = some (.int .i64 m) := hv.mem _ _ _ (hv.glob _ _ _ hm)
      refine Calls.mono (Try.strings_Contains ⟨s.toArray⟩ ⟨t.toArray⟩ m w (by simpa [ByteArray.size] using hs) hm) ?_
      rintro e w' ⟨rfl, rfl⟩
      exact ⟨_, S, I, rfl, rep_bool.2 (by simp), Post.refl hv⟩
    · cases h
  · cases h
theorem e44 (W : World) : EntryOk (cfg W) Try.prog nm 44 (.code f44) := ⟨Try.f44, Try.func44, by kernel_rfl, by kernel_rfl, by kernel_rfl⟩
theorem e18 (W : World) : EntryOk (cfg W) Try.prog nm 18 (.code f18) := ⟨Try.f25, Try.func25, by kernel_rfl, by kernel_rfl, by kernel_rfl⟩
theorem e82 (W : World) : EntryOk (cfg W) Try.prog nm 82 (.code f82) := ⟨Try.f104, Try.func104, by kernel_rfl, by kernel_rfl, by kernel_rfl⟩
theorem e43 (W : World) : EntryOk (cfg W) Try.prog nm 43 (.code f43) := ⟨Try.f35, Try.func35, by kernel_rfl, by kernel_rfl, by kernel_rfl⟩
theorem e21 (W : World) : EntryOk (cfg W) Try.prog nm 21 (.code f21) := ⟨Try.f23, Try.func23, by kernel_rfl, by kernel_rfl, by kernel_rfl⟩
theorem e113 (W : World) : EntryOk (cfg W) Try.prog nm 113 (.code f113) := ⟨Try.f160, Try.func160, by kernel_rfl, by kernel_rfl, by kernel_rfl⟩
theorem e101 (W : World) : EntryOk (cfg W) Try.prog nm 101 (.code f101) := ⟨Try.f117, Try.func117, by kernel_rfl, by kernel_rfl, by kernel_rfl⟩
theorem e64 (W : World) : EntryOk (cfg W) Try.prog nm 64 (.code f64) := ⟨Try.f53, Try.func53, by kernel_rfl, by kernel_rfl, by kernel_rfl⟩
theorem e102 (W : World) : EntryOk (cfg W) Try.prog nm 102 (.code f102) := ⟨Try.f118, Try.func118, by kernel_rfl, by kernel_rfl, by kernel_rfl⟩
theorem e112 (W : World) : EntryOk (cfg W) Try.prog nm 112 (.code f112) := ⟨Try.f161, Try.func161, by kernel_rfl, by kernel_rfl, by kernel_rfl⟩
theorem e100 (W : World) : EntryOk (cfg W) Try.prog nm 100 (.code f100) := ⟨Try.f55, Try.func55, by kernel_rfl, by kernel_rfl, by kernel_rfl⟩
theorem e97 (W : World) : EntryOk (cfg W) Try.prog nm 97 (.code f97) := ⟨Try.f115, Try.func115, by kernel_rfl, by kernel_rfl, by kernel_rfl⟩
theorem e96 (W : World) : EntryOk (cfg W) Try.prog nm 96 (.code f96) := ⟨Try.f49, Try.func49, by kernel_rfl, by kernel_rfl, by kernel_rfl⟩
theorem e57 (W : World) : EntryOk (cfg W) Try.prog nm 57 (.code f57) := ⟨Try.f48, Try.func48, by kernel_rfl, by kernel_rfl, by kernel_rfl⟩
theorem e103 (W : World) : EntryOk (cfg W) Try.prog nm 103 (.code f103) := ⟨Try.f120, Try.func120, by kernel_rfl, by kernel_rfl, by kernel_rfl⟩
theorem e114 (W : World) : EntryOk (cfg W) Try.prog nm 114 (.code f114) := ⟨Try.f162, Try.func162, by kernel_rfl, by kernel_rfl, by kernel_rfl⟩
theorem e104 (W : World) : EntryOk (cfg W) Try.prog nm 104 (.code f104) := ⟨Try.f119, Try.func119, by kernel_rfl, by kernel_rfl, by kernel_rfl⟩
theorem e60 (W : World) : EntryOk (cfg W) Try.prog nm 60 (.code f60) := ⟨Try.f56, Try.func56, by kernel_rfl, by kernel_rfl, by kernel_rfl⟩
theorem e99 (W : World) : EntryOk (cfg W) Try.prog nm 99 (.code f99) := ⟨Try.f52, Try.func52, by kernel_rfl, by kernel_rfl, by kernel_rfl⟩
theorem e58 (W : World) : EntryOk (cfg W) Try.prog nm 58 (.code f58) := ⟨Try.f51, Try.func51, by kernel_rfl, by kernel_rfl, by kernel_rfl⟩
theorem e59 (W : World) : EntryOk (cfg W) Try.prog nm 59 (.code f59) := ⟨Try.f54, Try.func54, by kernel_rfl, by kernel_rfl, by kernel_rfl⟩
theorem e62 (W : World) : EntryOk (cfg W) Try.prog nm 62 (.code f62) := ⟨Try.f46, Try.func46, by kernel_rfl, by kernel_rfl, by kernel_rfl⟩
theorem e94 (W : World) : EntryOk (cfg W) Try.prog nm 94 (.code f94) := ⟨Try.f113, Try.func113, by kernel_rfl, by kernel_rfl, by kernel_rfl⟩
theorem e61 (W : World) : EntryOk (cfg W) Try.prog nm 61 (.code f61) := ⟨Try.f45, Try.func45, by kernel_rfl, by kernel_rfl, by kernel_rfl⟩
theorem e95 (W : World) : EntryOk (cfg W) Try.prog nm 95 (.code f95) := ⟨Try.f114, Try.func114, by kernel_rfl, by kernel_rfl, by kernel_rfl⟩
theorem e63 (W : World) : EntryOk (cfg W) Try.prog nm 63 (.code f63) := ⟨Try.f47, Try.func47, by kernel_rfl, by kernel_rfl, by kernel_rfl⟩
theorem e98 (W : World) : EntryOk (cfg W) Try.prog nm 98 (.code f98) := ⟨Try.f116, Try.func116, by kernel_rfl, by kernel_rfl, by kernel_rfl⟩
theorem e65 (W : World) : EntryOk (cfg W) Try.prog nm 65 (.code f65) := ⟨Try.f50, Try.func50, by kernel_rfl, by kernel_rfl, by kernel_rfl⟩
theorem e23 (W : World) : EntryOk (cfg W) Try.prog nm 23 (.code f23) := ⟨Try.f12, Try.func12, by kernel_rfl, by kernel_rfl, by kernel_rfl⟩
theorem e67 (W : World) : EntryOk (cfg W) Try.prog nm 67 (.code f67) := ⟨Try.f61, Try.func61, by kernel_rfl, by kernel_rfl, by kernel_rfl⟩
theorem e107 (W : World) : EntryOk (cfg W) Try.prog nm 107 (.code f107) := ⟨Try.f123, Try.func123, by kernel_rfl, by kernel_rfl, by kernel_rfl⟩
theorem e70 (W : World) : EntryOk (cfg W) Try.prog nm 70 (.code f70) := ⟨Try.f58, Try.func58, by kernel_rfl, by kernel_rfl, by kernel_rfl⟩
theorem e105 (W : World) : EntryOk (cfg W) Try.prog nm 105 (.code f105) := ⟨Try.f121, Try.func121, by kernel_rfl, by kernel_rfl, by kernel_rfl⟩
theorem e66 (W : World) : EntryOk (cfg W) Try.prog nm 66 (.code f66) := ⟨Try.f59, Try.func59, by kernel_rfl, by kernel_rfl, by kernel_rfl⟩
theorem e69 (W : World) : EntryOk (cfg W) Try.prog nm 69 (.code f69) := ⟨Try.f57, Try.func57, by kernel_rfl, by kernel_rfl, by kernel_rfl⟩
theorem e106 (W : World) : EntryOk (cfg W) Try.prog nm 106 (.code f106) := ⟨Try.f122, Try.func122, by kernel_rfl, by kernel_rfl, by kernel_rfl⟩
theorem e68 (W : World) : EntryOk (cfg W) Try.prog nm 68 (.code f68) := ⟨Try.f60, Try.func60, by kernel_rfl, by kernel_rfl, by kernel_rfl⟩
theorem e24 (W : World) : EntryOk (cfg W) Try.prog nm 24 (.code f24) := ⟨Try.f13, Try.func13, by kernel_rfl, by kernel_rfl, by kernel_rfl⟩
theorem e46 (W : World) : EntryOk (cfg W) Try.prog nm 46 (.code f46) := ⟨Try.f33, Try.func33, by kernel_rfl, by kernel_rfl, by kernel_rfl⟩
theorem e86 (W : World) : EntryOk (cfg W) Try.prog nm 86 (.code f86) := ⟨Try.f103, Try.func103, by kernel_rfl, by kernel_rfl, by kernel_rfl⟩
theorem e49 (W : World) : EntryOk (cfg W) Try.prog nm 49 (.code f49) := ⟨Try.f30, Try.func30, by kernel_rfl, by kernel_rfl, by kernel_rfl⟩
theorem e84 (W : World) : EntryOk (cfg W) Try.prog nm 84 (.code f84) := ⟨Try.f101, Try.func101, by kernel_rfl, by kernel_rfl, by kernel_rfl⟩
theorem e45 (W : World) : EntryOk (cfg W) Try.prog nm 45 (.code f45) := ⟨Try.f31, Try.func31, by kernel_rfl, by kernel_rfl, by kernel_rfl⟩
theorem e48 (W : World) : EntryOk (cfg W) Try.prog nm 48 (.code f48) := ⟨Try.f29, Try.func29, by kernel_rfl, by kernel_rfl, by kernel_rfl⟩
theorem e85 (W : World) : EntryOk (cfg W) Try.prog nm 85 (.code f85) := ⟨Try.f102, Try.func102, by kernel_rfl, by kernel_rfl, by kernel_rfl⟩
theorem e47 (W : World) : EntryOk (cfg W) Try.prog nm 47 (.code f47) := ⟨Try.f32, Try.func32, by kernel_rfl, by kernel_rfl, by kernel_rfl⟩
theorem e25 (W : World) : EntryOk (cfg W) Try.prog nm 25 (.code f25) := ⟨Try.f9, Try.func9, by kernel_rfl, by kernel_rfl, by kernel_rfl⟩
theorem e53 (W : World) : EntryOk (cfg W) Try.prog nm 53 (.code f53) := ⟨Try.f42, Try.func42, by kernel_rfl, by kernel_rfl, by kernel_rfl⟩
theorem e93 (W : World) : EntryOk (cfg W) Try.prog nm 93 (.code f93) := ⟨Try.f111, Try.func111, by kernel_rfl, by kernel_rfl, by kernel_rfl⟩
theorem e56 (W : World) : EntryOk (cfg W) Try.prog nm 56 (.code f56) := ⟨Try.f39, Try.func39, by kernel_rfl, by kernel_rfl, by kernel_rfl⟩
theorem e91 (W : World) : EntryOk (cfg W) Try.prog nm 91 (.code f91) := ⟨Try.f109, Try.func109, by kernel_rfl, by kernel_rfl, by kernel_rfl⟩
theorem e52 (W : World) : EntryOk (cfg W) Try.prog nm 52 (.code f52) := ⟨Try.f40, Try.func40, by kernel_rfl, by kernel_rfl, by kernel_rfl⟩
theorem e55 (W : World) : EntryOk (cfg W) Try.prog nm 55 (.code f55) := ⟨Try.f38, Try.func38, by kernel_rfl, by kernel_rfl, by kernel_rfl⟩
theorem e92 (W : World) : EntryOk (cfg W) Try.prog nm 92 (.code f92) := ⟨Try.f110, Try.func110, by kernel_rfl, by kernel_rfl, by kernel_rfl⟩
theorem e54 (W : World) : EntryOk (cfg W) Try.prog nm 54 (.code f54) := ⟨Try.f41, Try.func41, by kernel_rfl, by kernel_rfl, by kernel_rfl⟩
theorem e26 (W : World) : EntryOk (cfg W) Try.prog nm 26 (.code f26) := ⟨Try.f11, Try.func11, by kernel_rfl, by kernel_rfl, by kernel_rfl⟩
theorem e116 (W : World) : EntryOk (cfg W) Try.prog nm 116 (.code f116) := ⟨Try.f170, Try.func170, by kernel_rfl, by kernel_rfl, by kernel_rfl⟩
theorem e118 (W : World) : EntryOk (cfg W) Try.prog nm 118 (.code f118) := ⟨Try.f173, Try.func173, by kernel_rfl, by kernel_rfl, by kernel_rfl⟩
theorem e117 (W : World) : EntryOk (cfg W) Try.prog nm 117 (.code f117) := ⟨Try.f171, Try.func171, by kernel_rfl, by kernel_rfl, by kernel_rfl⟩
theorem e111 (W : World) : EntryOk (cfg W) Try.prog nm 111 (.code f111) := ⟨Try.f158, Try.func158, by kernel_rfl, by kernel_rfl, by kernel_rfl⟩
theorem e89 (W : World) : EntryOk (cfg W) Try.prog nm 89 (.code f89) := ⟨Try.f108, Try.func108, by kernel_rfl, by kernel_rfl, by kernel_rfl⟩
theorem e87 (W : World) : EntryOk (cfg W) Try.prog nm 87 (.code f87) := ⟨Try.f105, Try.func105, by kernel_rfl, by kernel_rfl, by kernel_rfl⟩
theorem e90 (W : World) : EntryOk (cfg W) Try.prog nm 90 (.code f90) := ⟨Try.f107, Try.func107, by kernel_rfl, by kernel_rfl, by kernel_rfl⟩
theorem e88 (W : World) : EntryOk (cfg W) Try.prog nm 88 (.code f88) := ⟨Try.f106, Try.func106, by kernel_rfl, by kernel_rfl, by kernel_rfl⟩
theorem e50 (W : World) : EntryOk (cfg W) Try.prog nm 50 (.code f50) := ⟨Try.f36, Try.func36, by kernel_rfl, by kernel_rfl, by kernel_rfl⟩
theorem e51 (W : World) : EntryOk (cfg W) Try.prog nm 51 (.code f51) := ⟨Try.f37, Try.func37, by kernel_rfl, by kernel_rfl, by kernel_rfl⟩
theorem e27 (W : World) : EntryOk (cfg W) Try.prog nm 27 (.code f27) := ⟨Try.f10, Try.func10, by kernel_rfl, by kernel_rfl, by kernel_rfl⟩
theorem e22 (W : World) : EntryOk (cfg W) Try.prog nm 22 (.code f22) := ⟨Try.f4, Try.func4, by kernel_rfl, by kernel_rfl, by kernel_rfl⟩
theorem tab_ok (W : World) (hG : W.ShapedOpen Try.prog) : TabOk (cfg W) Try.prog tab := tabOf_ok (hN W) (rows_cons (e29 W) (rows_cons (e28 W) (rows_cons (e72 W) (rows_cons (e32 W) (rows_cons (e83 W hG) (rows_cons (e44 W) (rows_cons (e18 W) (rows_cons (e82 W) (rows_cons (e43 W) (rows_cons (e21 W) (rows_cons (e113 W) (rows_cons (e101 W) (rows_cons (e64 W) (rows_cons (e102 W) (rows_cons (e112 W) (rows_cons (e100 W) (rows_cons (e97 W) (rows_cons (e96 W) (rows_cons (e57 W) (rows_cons (e103 W) (rows_cons (e114 W) (rows_cons (e104 W) (rows_cons (e60 W) (rows_cons (e99 W) (rows_cons (e58 W) (rows_cons (e59 W) (rows_cons (e62 W) (rows_cons (e94 W) (rows_cons (e61 W) (rows_cons (e95 W) (rows_cons (e63 W) (rows_cons (e98 W) (rows_cons (e65 W) (rows_cons (e23 W) (rows_cons (e67 W) (rows_cons (e107 W) (rows_cons (e70 W) (rows_cons (e105 W) (rows_cons (e66 W) (rows_cons (e69 W) (rows_cons (e106 W) (rows_cons (e68 W) (rows_cons (e24 W) (rows_cons (e46 W) (rows_cons (e86 W) (rows_cons (e49 W) (rows_cons (e84 W) (rows_cons (e45 W) (rows_cons (e48 W) (rows_cons (e85 W) (rows_cons (e47 W) (rows_cons (e25 W) (rows_cons (e53 W) (rows_cons (e93 W) (rows_cons (e56 W) (rows_cons (e91 W) (rows_cons (e52 W) (rows_cons (e55 W) (rows_cons (e92 W) (rows_cons (e54 W) (rows_cons (e26 W) (rows_cons (e116 W) (rows_cons (e118 W) (rows_cons (e117 W) (rows_cons (e111 W) (rows_cons (e89 W) (rows_cons (e87 W) (rows_cons (e90 W) (rows_cons (e88 W) (rows_cons (e50 W) (rows_cons (e51 W) (rows_cons (e27 W) (rows_cons (e22 W) (rows_nil))))))))))))))))))))))))))))))))))))))))))))))))))))))))))))))))))))))))))

theorem h29 : H29 tab := ⟨rfl⟩
theorem h28 : H28 tab := ⟨rfl⟩
theorem h72 : H72 tab := ⟨rfl⟩
theorem h32 : H32 tab := ⟨rfl, h72⟩
theorem h83 : H83 tab := ⟨rfl⟩
theorem h44 : H44 tab := ⟨rfl, h29, h83⟩
theorem h18 : H18 tab := ⟨rfl, h29, h44⟩
theorem h82 : H82 tab := ⟨rfl, h28⟩
theorem h43 : H43 tab := ⟨rfl, h82⟩
theorem h21 : H21 tab := ⟨rfl, h28, h43⟩
theorem h113 : H113 tab := ⟨rfl⟩
theorem h101 : H101 tab := ⟨rfl⟩
theorem h64 : H64 tab := ⟨rfl, h101⟩
theorem h102 : H102 tab := ⟨rfl, rfl, h29, h44, h64, h113⟩
theorem h100 : H100 tab := ⟨rfl, h102⟩
theorem h97 : H97 tab := ⟨rfl, h100⟩
theorem h96 : H96 tab := ⟨rfl, h18, h44, h64, h97⟩
theorem h57 : H57 tab := ⟨rfl, h96⟩
theorem h103 : H103 tab := ⟨rfl, h44⟩
theorem h114 : H114 tab := ⟨rfl⟩
theorem h104 : H104 tab := ⟨rfl, h114⟩
theorem h60 : H60 tab := ⟨rfl, h103, h104⟩
theorem h99 : H99 tab := ⟨rfl, h29, h44, h60, h100⟩
theorem h58 : H58 tab := ⟨rfl, h99⟩
theorem h59 : H59 tab := ⟨rfl, h100⟩
theorem h62 : H62 tab := ⟨rfl⟩
theorem h94 : H94 tab := ⟨rfl, h62, h83⟩
theorem h61 : H61 tab := ⟨rfl, h94⟩
theorem h95 : H95 tab := ⟨rfl⟩
theorem h63 : H63 tab := ⟨rfl, h95⟩
theorem h98 : H98 tab := ⟨rfl⟩
theorem h65 : H65 tab := ⟨rfl, h98⟩
theorem h23 : H23 tab := ⟨rfl, h18, h29, h32, h44, h57, h58, h59, h60, h61, h62, h63, h64, h65⟩
theorem h67 : H67 tab := ⟨rfl, rfl⟩
theorem h70 : H70 tab := ⟨rfl⟩
theorem h105 : H105 tab := ⟨rfl, h67, h70⟩
theorem h66 : H66 tab := ⟨rfl, h105⟩
theorem h69 : H69 tab := ⟨rfl⟩
theorem h106 : H106 tab := ⟨rfl, h67, h69⟩
theorem h68 : H68 tab := ⟨rfl, h106⟩
theorem h24 : H24 tab := ⟨rfl, h66, h67, h68, h69, h70⟩
theorem h46 : H46 tab := ⟨rfl, rfl⟩
theorem h49 : H49 tab := ⟨rfl⟩
theorem h84 : H84 tab := ⟨rfl, h46, h49⟩
theorem h45 : H45 tab := ⟨rfl, h84⟩
theorem h48 : H48 tab := ⟨rfl⟩
theorem h85 : H85 tab := ⟨rfl, h46, h48⟩
theorem h47 : H47 tab := ⟨rfl, h85⟩
theorem h25 : H25 tab := ⟨rfl, h45, h46, h47, h48, h49⟩
theorem h53 : H53 tab := ⟨rfl, rfl⟩
theorem h56 : H56 tab := ⟨rfl⟩
theorem h91 : H91 tab := ⟨rfl, h53, h56⟩
theorem h52 : H52 tab := ⟨rfl, h91⟩
theorem h55 : H55 tab := ⟨rfl⟩
theorem h92 : H92 tab := ⟨rfl, h53, h55⟩
theorem h54 : H54 tab := ⟨rfl, h92⟩
theorem h26 : H26 tab := ⟨rfl, h52, h53, h54, h55, h56⟩
theorem h116 : H116 tab := ⟨rfl⟩
theorem h118 : H118 tab := ⟨rfl, h28⟩
theorem h117 : H117 tab := ⟨rfl, h28, h43, h118⟩
theorem h111 : H111 tab := ⟨rfl, h116, h117⟩
theorem h89 : H89 tab := ⟨rfl, h28, h111⟩
theorem h87 : H87 tab := ⟨rfl, h21, h43, h89⟩
theorem h90 : H90 tab := ⟨rfl, h28, h43⟩
theorem h88 : H88 tab := ⟨rfl, h43, h89, h90⟩
theorem h50 : H50 tab := ⟨rfl, h87, h88⟩
theorem h51 : H51 tab := ⟨rfl, h21, h28, h43, h82, h89, h90⟩
theorem h27 : H27 tab := ⟨rfl, h28, h43, h50, h51⟩
theorem h22 : H22 tab := ⟨rfl, h23, h24, h25, h26, h27⟩

theorem own : ownKnob Try.prog.godebug = none := by kernel_rfl
theorem laidOut : laidOutB Try.prog = true := by kernel_rfl
theorem plain : plainB Try.prog [30, 3, 9, 23, 4, 25, 26, 145, 28, 151, 27, 148] = true := by kernel_rfl

theorem ent25 (n : Nat) (cs : List D) (h : HasT Try.prog n 25 cs) : ∃ x : Go.DM.Ty, cs = x.d.cells ∧ x.Ok := by
  cases n with
  | zero => exact h.elim
  | succ n =>
    simp only [HasT, Try.underlying25] at h
    obtain ⟨ps, rfl, hl, hx⟩ := h
    obtain ⟨p0, e0, q0⟩ := hx 0 _ rfl
    obtain ⟨p1, e1, q1⟩ := hx 1 _ rfl
    obtain ⟨p2, e2, q2⟩ := hx 2 _ rfl
    obtain ⟨a0, rfl, b0⟩ := ent_int Try.underlying3 q0
    obtain ⟨a1, rfl, b1⟩ := ent_int Try.underlying3 q1
    obtain ⟨a2, rfl, b2⟩ := ent_str Try.underlying9 q2
    match ps, hl, e0, e1, e2 with
    | [c0, c1, c2], _, e0, e1, e2 =>
      simp at e0 e1 e2
      subst e0 e1 e2
      exact ⟨⟨a0, a1, a2⟩, by simp, ⟨b0, b1, b2⟩⟩
theorem el25 (n : Nat) (cs : List D) (h : HasT Try.prog n 25 cs) : ∃ x : Go.DM.Ty, mkEl Try.prog 25 cs = x.d ∧ x.Ok := by
  obtain ⟨x, h1, h2⟩ := ent25 n cs h
  exact ⟨x, by rw [mk_agg Try.underlying25, h1, Go.DM.Ty.d_cells, Go.DM.Ty.d_fold], h2⟩
theorem ent151 : ∀ (n : Nat) (cs : List D), HasT Try.prog n 151 cs → ∃ x : Xp, cs = x.d.cells ∧ x.Ok := by
  intro n
  induction n using Nat.strongRecOn with
  | ind n ih =>
    intro cs h
    cases n with
    | zero => exact h.elim
    | succ n =>
      simp only [HasT, Try.underlying151] at h
      obtain ⟨ps, rfl, hl, hx⟩ := h
      obtain ⟨p0, e0, q0⟩ := hx 0 _ rfl
      obtain ⟨p1, e1, q1⟩ := hx 1 _ rfl
      obtain ⟨p2, e2, q2⟩ := hx 2 _ rfl
      obtain ⟨p3, e3, q3⟩ := hx 3 _ rfl
      obtain ⟨a0, rfl, b0⟩ := ent_int Try.underlying3 q0
      obtain ⟨a1, rfl, b1⟩ := ent_str Try.underlying9 q1
      obtain ⟨a2, rfl, b2⟩ := ent_int Try.underlying3 q2
      obtain ⟨a3, rfl, b3⟩ := ent_sl (d := Xp.d) (ok := Xp.Ok) Try.underlying28 (fun m xs hm hh => by
        obtain ⟨x, h1, h2⟩ := ih m (by omega) xs hh
        exact ⟨x, by rw [mk_agg Try.underlying151, h1, Xp.d_cells, Xp.d_fold], h2⟩) q3
      match ps, hl, e0, e1, e2, e3 with
      | [c0, c1, c2, c3], _, e0, e1, e2, e3 =>
        simp at e0 e1 e2 e3
        subst e0 e1 e2 e3
        exact ⟨.mk a0 a1 a2 a3, by simp, .mk b0 b1 b2 b3.1 b3.2⟩
theorem el151 (n : Nat) (cs : List D) (h : HasT Try.prog n 151 cs) : ∃ x : Go.DM.Xp, mkEl Try.prog 151 cs = x.d ∧ x.Ok := by
  obtain ⟨x, h1, h2⟩ := ent151 n cs h
  exact ⟨x, by rw [mk_agg Try.underlying151, h1, Go.DM.Xp.d_cells, Go.DM.Xp.d_fold], h2⟩
theorem ent145 (n : Nat) (cs : List D) (h : HasT Try.prog n 145 cs) : ∃ x : Go.DM.Col, cs = x.d.cells ∧ x.Ok := by
  cases n with
  | zero => exact h.elim
  | succ n =>
    simp only [HasT, Try.underlying145] at h
    obtain ⟨ps, rfl, hl, hx⟩ := h
    obtain ⟨p0, e0, q0⟩ := hx 0 _ rfl
    obtain ⟨p1, e1, q1⟩ := hx 1 _ rfl
    obtain ⟨p2, e2, q2⟩ := hx 2 _ rfl
    obtain ⟨p3, e3, q3⟩ := hx 3 _ rfl
    obtain ⟨a0, rfl, b0⟩ := ent_str Try.underlying9 q0
    obtain ⟨a1, rfl, b1⟩ := ent25 _ _ q1
    obtain ⟨a2, rfl⟩ := ent_bool Try.underlying4 q2
    obtain ⟨a3, rfl, b3⟩ := ent_sl Try.underlying28 (fun m xs _ => el151 m xs) q3
    match ps, hl, e0, e1, e2, e3 with
    | [c0, c1, c2, c3], _, e0, e1, e2, e3 =>
      simp at e0 e1 e2 e3
      subst e0 e1 e2 e3
      exact ⟨⟨a0, a1, a2, a3⟩, by simp, ⟨b0, b1, b3⟩⟩
theorem el145 (n : Nat) (cs : List D) (h : HasT Try.prog n 145 cs) : ∃ x : Go.DM.Col, mkEl Try.prog 145 cs = x.d ∧ x.Ok := by
  obtain ⟨x, h1, h2⟩ := ent145 n cs h
  exact ⟨x, by rw [mk_agg Try.underlying145, h1, Go.DM.Col.d_cells, Go.DM.Col.d_fold], h2⟩
theorem ent148 (n : Nat) (cs : List D) (h : HasT Try.prog n 148 cs) : ∃ x : Go.DM.Rule, cs = x.d.cells ∧ x.Ok := by
  cases n with
  | zero => exact h.elim
  | succ n =>
    simp only [HasT, Try.underlying148] at h
    obtain ⟨ps, rfl, hl, hx⟩ := h
    obtain ⟨p0, e0, q0⟩ := hx 0 _ rfl
    obtain ⟨p1, e1, q1⟩ := hx 1 _ rfl
    obtain ⟨p2, e2, q2⟩ := hx 2 _ rfl
    obtain ⟨p3, e3, q3⟩ := hx 3 _ rfl
    obtain ⟨p4, e4, q4⟩ := hx 4 _ rfl
    obtain ⟨p5, e5, q5⟩ := hx 5 _ rfl
    obtain ⟨a0, rfl, b0⟩ := ent_str Try.underlying9 q0
    obtain ⟨a1, rfl, b1⟩ := ent_int Try.underlying3 q1
    obtain ⟨a2, rfl, b2⟩ := ent_sl Try.underlying23 (fun m xs _ => ent_elS Try.underlying9 m xs) q2
    obtain ⟨a3, rfl, b3⟩ := ent_sl Try.underlying28 (fun m xs _ => el151 m xs) q3
    obtain ⟨a4, rfl, b4⟩ := ent_str Try.underlying9 q4
    obtain ⟨a5, rfl, b5⟩ := ent_sl Try.underlying23 (fun m xs _ => ent_elS Try.underlying9 m xs) q5
    match ps, hl, e0, e1, e2, e3, e4, e5 with
    | [c0, c1, c2, c3, c4, c5], _, e0, e1, e2, e3, e4, e5 =>
      simp at e0 e1 e2 e3 e4 e5
      subst e0 e1 e2 e3 e4 e5
      exact ⟨⟨a0, a1, a2, a3, a4, a5⟩, by simp, ⟨b0, b1, b2, b3, b4, b5⟩⟩
theorem el148 (n : Nat) (cs : List D) (h : HasT Try.prog n 148 cs) : ∃ x : Go.DM.Rule, mkEl Try.prog 148 cs = x.d ∧ x.Ok := by
  obtain ⟨x, h1, h2⟩ := ent148 n cs h
  exact ⟨x, by rw [mk_agg Try.underlying148, h1, Go.DM.Rule.d_cells, Go.DM.Rule.d_fold], h2⟩
theorem ent30 (n : Nat) (cs : List D) (h : HasT Try.prog n 30 cs) : ∃ x : Go.DM.Stmt, cs = x.d.cells ∧ x.Ok := by
  cases n with
  | zero => exact h.elim
  | succ n =>
    simp only [HasT, Try.underlying30] at h
    obtain ⟨ps, rfl, hl, hx⟩ := h
    obtain ⟨p0, e0, q0⟩ := hx 0 _ rfl
    obtain ⟨p1, e1, q1⟩ := hx 1 _ rfl
    obtain ⟨p2, e2, q2⟩ := hx 2 _ rfl
    obtain ⟨p3, e3, q3⟩ := hx 3 _ rfl
    obtain ⟨p4, e4, q4⟩ := hx 4 _ rfl
    obtain ⟨p5, e5, q5⟩ := hx 5 _ rfl
    obtain ⟨p6, e6, q6⟩ := hx 6 _ rfl
    obtain ⟨p7, e7, q7⟩ := hx 7 _ rfl
    obtain ⟨p8, e8, q8⟩ := hx 8 _ rfl
    obtain ⟨p9, e9, q9⟩ := hx 9 _ rfl
    obtain ⟨a0, rfl, b0⟩ := ent_int Try.underlying3 q0
    obtain ⟨a1, rfl, b1⟩ := ent_str Try.underlying9 q1
    obtain ⟨a2, rfl, b2⟩ := ent_str Try.underlying9 q2
    obtain ⟨a3, rfl, b3⟩ := ent_sl Try.underlying23 (fun m xs _ => ent_elS Try.underlying9 m xs) q3
    obtain ⟨a4, rfl, b4⟩ := ent_int Try.underlying3 q4
    obtain ⟨a5, rfl⟩ := ent_bool Try.underlying4 q5
    obtain ⟨a6, rfl, b6⟩ := ent25 _ _ q6
    obtain ⟨a7, rfl, b7⟩ := ent_sl Try.underlying26 (fun m xs _ => el145 m xs) q7
    obtain ⟨a8, rfl, b8⟩ := ent_sl Try.underlying27 (fun m xs _ => el148 m xs) q8
    obtain ⟨a9, rfl, b9⟩ := ent_sl Try.underlying28 (fun m xs _ => el151 m xs) q9
    match ps, hl, e0, e1, e2, e3, e4, e5, e6, e7, e8, e9 with
    | [c0, c1, c2, c3, c4, c5, c6, c7, c8, c9], _, e0, e1, e2, e3, e4, e5, e6, e7, e8, e9 =>
      simp at e0 e1 e2 e3 e4 e5 e6 e7 e8 e9
      subst e0 e1 e2 e3 e4 e5 e6 e7 e8 e9
      exact ⟨⟨a0, a1, a2, a3, a4, a5, a6, a7, a8, a9⟩, by simp, ⟨b0, b1, b2, b3, b4, b6, b7, b8, b9⟩⟩
theorem el30 (n : Nat) (cs : List D) (h : HasT Try.prog n 30 cs) : ∃ x : Go.DM.Stmt, mkEl Try.prog 30 cs = x.d ∧ x.Ok := by
  obtain ⟨x, h1, h2⟩ := ent30 n cs h
  exact ⟨x, by rw [mk_agg Try.underlying30, h1, Go.DM.Stmt.d_cells, Go.DM.Stmt.d_fold], h2⟩

theorem lifted (os : Os) (started : os.Started) (H : Type) (enc : TypeId × Value → H) :
    ReturnsInHanded {} Try.checked os 4 .any (Rows.fnExactStmtOkSpec.pre6 enc Try.prog Try.f4 Rows.fnExactStmtOkRow.domain false) (Rows.fnExactStmtOkSpec.post enc Try.prog Try.f4 false true false false) := by
  refine returnsInHanded_of_change_shaped (C := Try.checked) own started (by kernel_rfl) Try.func4
    (ChangeSpec.witness6 (enc := enc) (C := Try.checked) false ⟨#[], #[.agg #[.int .i64 0, .string ⟨#[]⟩, .string ⟨#[]⟩, .slice none 0 0, .int .i64 0, .bool false, .int .i64 0, .int .i64 0, .string ⟨#[]⟩, .slice none 0 0, .slice none 0 0, .slice none 0 0]], []⟩ 8 (by kernel_rfl) (by kernel_rfl) (by kernel_rfl) (by kernel_rfl)) ?_
  intro W base args ds gs before hval0 hW hcnd _ hG _
  have hW' := hW
  obtain ⟨p, q, hA, hV, rfl, hfz, hnd⟩ := hW
  obtain ⟨rfl, rfl⟩ := trodVars_none hV
  rw [Try.params4] at hA
  obtain ⟨v0, d0, rfl, rfl, h0⟩ := trodAll_one hA
  obtain ⟨fuel0, hf0⟩ := h0
  obtain ⟨cs0, c0, r0, _⟩ := enter (num := cfg W) (S := memOf W) plain (fun _ _ _ h => h) fuel0 30 _ _ (by simp) hf0
  obtain ⟨x0, rfl, k0⟩ := ent30 _ _ c0
  have g0 : Rep (cfg W) (memOf W) noInf x0.d v0 := by
    have := rep_agg_of_cells r0 (by simp)
    rw [Go.DM.Stmt.d_cells, Go.DM.Stmt.d_fold] at this
    exact this
  refine (law_calls (Checked.mixed Try.checked) (tab_ok W hG) rfl (repL_cons.2 ⟨v0, [], rfl, g0, by simp⟩) (fnExactStmtOk_ev h22 x0 k0)).mono fun e W' ⟨he, hb⟩ => ?_
  subst he
  refine ⟨_, rfl, law_post laidOut ?_ rfl hW' rfl rfl Try.underlying4 hb⟩
  intro t ht
  rw [Try.params4] at ht
  simp at ht
  subst ht
  exact ⟨by kernel_rfl, of_decide_eq_true (by kernel_rfl)⟩

theorem proved : Rows.FnExactStmtOkSaid :=
  OpenClaim.holds_of_wide 4 Try.f4 rfl rfl rfl rfl rfl rfl rfl ⟨rfl, rfl, rfl, rfl, rfl⟩ rfl rfl rfl rfl rfl (by kernel_rfl) Try.func4 (by kernel_rfl)
    (of_decide_eq_true (by kernel_rfl)) (by unfold Func.isWrapper; first | (rw [if_pos (by decide +kernel)]; kernel_rfl) | (rw [if_neg (by decide +kernel)]; exact ⟨rfl, rfl⟩))
    (fun os started H enc _ => lifted os started H enc)
end Go.Proofs.Ytpidjgefokgplaa.FnExactStmtOkLaw
