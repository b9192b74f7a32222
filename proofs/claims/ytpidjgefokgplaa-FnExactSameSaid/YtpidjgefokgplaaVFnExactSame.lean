/- For every argument, FnExactSame answers true and leaves its arguments as they were. No conditions. -/
import Derived.Test.YtpidjgefokgplaaRows
import Derived.Test.YtpidjgefokgplaaSeat
import Derived.Test.YtpidjgefokgplaaOk
import Derived.Test.YtpidjgefokgplaaA14
import Derived.ProofKit
set_option linter.unnecessarySimpa false
set_option linter.unusedVariables false
set_option linter.unusedSimpArgs false
set_option linter.unusedSectionVars false
set_option maxRecDepth 100000
namespace Go.Proofs.Ytpidjgefokgplaa.FnExactSameLaw
open Go Go.DM Go.ChangeShapes Go.WideShapes Go.ChangeAt Go.RowKit

def pairs : Pairs := [(61, 67), (123, 107), (58, 70), (121, 105), (59, 66), (57, 69), (122, 106), (60, 68), (33, 46), (103, 86), (30, 49), (101, 84), (31, 45), (29, 48), (102, 85), (32, 47), (42, 53), (111, 93), (39, 56), (109, 91), (40, 52), (38, 55), (110, 92), (41, 54), (137, 169), (82, 142), (77, 143), (164, 182), (165, 181), (142, 174), (139, 170), (141, 171), (138, 172), (140, 173), (80, 144), (84, 145), (81, 146), (76, 147), (79, 148), (83, 149), (78, 150), (17, 123), (146, 178), (88, 151), (143, 175), (85, 152), (144, 176), (86, 153), (145, 177), (87, 154), (147, 179), (89, 155), (18, 124), (127, 159), (65, 128), (124, 156), (62, 129), (125, 157), (63, 130), (126, 158), (64, 131), (128, 160), (66, 132), (14, 125), (135, 167), (74, 137), (132, 164), (71, 138), (133, 165), (72, 139), (134, 166), (73, 140), (136, 168), (75, 141), (16, 126), (67, 133), (69, 134), (131, 163), (163, 180), (70, 135), (129, 161), (130, 162), (68, 136), (15, 127), (5, 122)]
def nm : Names := { gid := gidOf pairs }
def cfg (W : World) : Cfg := ⟨numOf pairs, memOf W⟩
theorem hN (W : World) : ∀ f g, nm.gid f = some g → (cfg W) g = f := gid_num (ps := pairs) (by kernel_rfl)
def tab : Tab := tabOf [(67, .code f67), (107, .code f107), (70, .code f70), (105, .code f105), (66, .code f66), (69, .code f69), (106, .code f106), (68, .code f68), (46, .code f46), (86, .code f86), (49, .code f49), (84, .code f84), (45, .code f45), (48, .code f48), (85, .code f85), (47, .code f47), (53, .code f53), (93, .code f93), (56, .code f56), (91, .code f91), (52, .code f52), (55, .code f55), (92, .code f92), (54, .code f54), (169, .code f169), (142, .code f142), (143, .code f143), (182, .code f182), (181, .code f181), (174, .code f174), (170, .code f170), (171, .code f171), (172, .code f172), (173, .code f173), (144, .code f144), (145, .code f145), (146, .code f146), (147, .code f147), (148, .code f148), (149, .code f149), (150, .code f150), (123, .code f123), (178, .code f178), (151, .code f151), (175, .code f175), (152, .code f152), (176, .code f176), (153, .code f153), (177, .code f177), (154, .code f154), (179, .code f179), (155, .code f155), (124, .code f124), (159, .code f159), (128, .code f128), (156, .code f156), (129, .code f129), (157, .code f157), (130, .code f130), (158, .code f158), (131, .code f131), (160, .code f160), (132, .code f132), (125, .code f125), (167, .code f167), (137, .code f137), (164, .code f164), (138, .code f138), (165, .code f165), (139, .code f139), (166, .code f166), (140, .code f140), (168, .code f168), (141, .code f141), (126, .code f126), (133, .code f133), (134, .code f134), (163, .code f163), (180, .code f180), (135, .code f135), (161, .code f161), (162, .code f162), (136, .code f136), (127, .code f127), (122, .code f122)]

theorem e67 (W : World) : EntryOk (cfg W) Try.prog nm 67 (.code f67) := ⟨Try.f61, Try.func61, by kernel_rfl, by kernel_rfl, by kernel_rfl⟩
theorem e107 (W : World) : EntryOk (cfg W) Try.prog nm 107 (.code f107) := ⟨Try.f123, Try.func123, by kernel_rfl, by kernel_rfl, by kernel_rfl⟩
theorem e70 (W : World) : EntryOk (cfg W) Try.prog nm 70 (.code f70) := ⟨Try.f58, Try.func58, by kernel_rfl, by kernel_rfl, by kernel_rfl⟩
theorem e105 (W : World) : EntryOk (cfg W) Try.prog nm 105 (.code f105) := ⟨Try.f121, Try.func121, by kernel_rfl, by kernel_rfl, by kernel_rfl⟩
theorem e66 (W : World) : EntryOk (cfg W) Try.prog nm 66 (.code f66) := ⟨Try.f59, Try.func59, by kernel_rfl, by kernel_rfl, by kernel_rfl⟩
theorem e69 (W : World) : EntryOk (cfg W) Try.prog nm 69 (.code f69) := ⟨Try.f57, Try.func57, by kernel_rfl, by kernel_rfl, by kernel_rfl⟩
theorem e106 (W : World) : EntryOk (cfg W) Try.prog nm 106 (.code f106) := ⟨Try.f122, Try.func122, by kernel_rfl, by kernel_rfl, by kernel_rfl⟩
theorem e68 (W : World) : EntryOk (cfg W) Try.prog nm 68 (.code f68) := ⟨Try.f60, Try.func60, by kernel_rfl, by kernel_rfl, by kernel_rfl⟩
theorem e46 (W : World) : EntryOk (cfg W) Try.prog nm 46 (.code f46) := ⟨Try.f33, Try.func33, by kernel_rfl, by kernel_rfl, by kernel_rfl⟩
theorem e86 (W : World) : EntryOk (cfg W) Try.prog nm 86 (.code f86) := ⟨Try.f103, Try.func103, by kernel_rfl, by kernel_rfl, by kernel_rfl⟩
theorem e49 (W : World) : EntryOk (cfg W) Try.prog nm 49 (.code f49) := ⟨Try.f30, Try.func30, by kernel_rfl, by kernel_rfl, by kernel_rfl⟩
theorem e84 (W : World) : EntryOk (cfg W) Try.prog nm 84 (.code f84) := ⟨Try.f101, Try.func101, by kernel_rfl, by kernel_rfl, by kernel_rfl⟩
theorem e45 (W : World) : EntryOk (cfg W) Try.prog nm 45 (.code f45) := ⟨Try.f31, Try.func31, by kernel_rfl, by kernel_rfl, by kernel_rfl⟩
theorem e48 (W : World) : EntryOk (cfg W) Try.prog nm 48 (.code f48) := ⟨Try.f29, Try.func29, by kernel_rfl, by kernel_rfl, by kernel_rfl⟩
theorem e85 (W : World) : EntryOk (cfg W) Try.prog nm 85 (.code f85) := ⟨Try.f102, Try.func102, by kernel_rfl, by kernel_rfl, by kernel_rfl⟩
theorem e47 (W : World) : EntryOk (cfg W) Try.prog nm 47 (.code f47) := ⟨Try.f32, Try.func32, by kernel_rfl, by kernel_rfl, by kernel_rfl⟩
theorem e53 (W : World) : EntryOk (cfg W) Try.prog nm 53 (.code f53) := ⟨Try.f42, Try.func42, by kernel_rfl, by kernel_rfl, by kernel_rfl⟩
theorem e93 (W : World) : EntryOk (cfg W) Try.prog nm 93 (.code f93) := ⟨Try.f111, Try.func111, by kernel_rfl, by kernel_rfl, by kernel_rfl⟩
theorem e56 (W : World) : EntryOk (cfg W) Try.prog nm 56 (.code f56) := ⟨Try.f39, Try.func39, by kernel_rfl, by kernel_rfl, by kernel_rfl⟩
theorem e91 (W : World) : EntryOk (cfg W) Try.prog nm 91 (.code f91) := ⟨Try.f109, Try.func109, by kernel_rfl, by kernel_rfl, by kernel_rfl⟩
theorem e52 (W : World) : EntryOk (cfg W) Try.prog nm 52 (.code f52) := ⟨Try.f40, Try.func40, by kernel_rfl, by kernel_rfl, by kernel_rfl⟩
theorem e55 (W : World) : EntryOk (cfg W) Try.prog nm 55 (.code f55) := ⟨Try.f38, Try.func38, by kernel_rfl, by kernel_rfl, by kernel_rfl⟩
theorem e92 (W : World) : EntryOk (cfg W) Try.prog nm 92 (.code f92) := ⟨Try.f110, Try.func110, by kernel_rfl, by kernel_rfl, by kernel_rfl⟩
theorem e54 (W : World) : EntryOk (cfg W) Try.prog nm 54 (.code f54) := ⟨Try.f41, Try.func41, by kernel_rfl, by kernel_rfl, by kernel_rfl⟩
theorem e169 (W : World) : EntryOk (cfg W) Try.prog nm 169 (.code f169) := ⟨Try.f137, Try.func137, by kernel_rfl, by kernel_rfl, by kernel_rfl⟩
theorem e142 (W : World) : EntryOk (cfg W) Try.prog nm 142 (.code f142) := ⟨Try.f82, Try.func82, by kernel_rfl, by kernel_rfl, by kernel_rfl⟩
theorem e143 (W : World) : EntryOk (cfg W) Try.prog nm 143 (.code f143) := ⟨Try.f77, Try.func77, by kernel_rfl, by kernel_rfl, by kernel_rfl⟩
theorem e182 (W : World) : EntryOk (cfg W) Try.prog nm 182 (.code f182) := ⟨Try.f164, Try.func164, by kernel_rfl, by kernel_rfl, by kernel_rfl⟩
theorem e181 (W : World) : EntryOk (cfg W) Try.prog nm 181 (.code f181) := ⟨Try.f165, Try.func165, by kernel_rfl, by kernel_rfl, by kernel_rfl⟩
theorem e174 (W : World) : EntryOk (cfg W) Try.prog nm 174 (.code f174) := ⟨Try.f142, Try.func142, by kernel_rfl, by kernel_rfl, by kernel_rfl⟩
theorem e170 (W : World) : EntryOk (cfg W) Try.prog nm 170 (.code f170) := ⟨Try.f139, Try.func139, by kernel_rfl, by kernel_rfl, by kernel_rfl⟩
theorem e171 (W : World) : EntryOk (cfg W) Try.prog nm 171 (.code f171) := ⟨Try.f141, Try.func141, by kernel_rfl, by kernel_rfl, by kernel_rfl⟩
theorem e172 (W : World) : EntryOk (cfg W) Try.prog nm 172 (.code f172) := ⟨Try.f138, Try.func138, by kernel_rfl, by kernel_rfl, by kernel_rfl⟩
theorem e173 (W : World) : EntryOk (cfg W) Try.prog nm 173 (.code f173) := ⟨Try.f140, Try.func140, by kernel_rfl, by kernel_rfl, by kernel_rfl⟩
theorem e144 (W : World) : EntryOk (cfg W) Try.prog nm 144 (.code f144) := ⟨Try.f80, Try.func80, by kernel_rfl, by kernel_rfl, by kernel_rfl⟩
theorem e145 (W : World) : EntryOk (cfg W) Try.prog nm 145 (.code f145) := ⟨Try.f84, Try.func84, by kernel_rfl, by kernel_rfl, by kernel_rfl⟩
theorem e146 (W : World) : EntryOk (cfg W) Try.prog nm 146 (.code f146) := ⟨Try.f81, Try.func81, by kernel_rfl, by kernel_rfl, by kernel_rfl⟩
theorem e147 (W : World) : EntryOk (cfg W) Try.prog nm 147 (.code f147) := ⟨Try.f76, Try.func76, by kernel_rfl, by kernel_rfl, by kernel_rfl⟩
theorem e148 (W : World) : EntryOk (cfg W) Try.prog nm 148 (.code f148) := ⟨Try.f79, Try.func79, by kernel_rfl, by kernel_rfl, by kernel_rfl⟩
theorem e149 (W : World) : EntryOk (cfg W) Try.prog nm 149 (.code f149) := ⟨Try.f83, Try.func83, by kernel_rfl, by kernel_rfl, by kernel_rfl⟩
theorem e150 (W : World) : EntryOk (cfg W) Try.prog nm 150 (.code f150) := ⟨Try.f78, Try.func78, by kernel_rfl, by kernel_rfl, by kernel_rfl⟩
theorem e123 (W : World) : EntryOk (cfg W) Try.prog nm 123 (.code f123) := ⟨Try.f17, Try.func17, by kernel_rfl, by kernel_rfl, by kernel_rfl⟩
theorem e178 (W : World) : EntryOk (cfg W) Try.prog nm 178 (.code f178) := ⟨Try.f146, Try.func146, by kernel_rfl, by kernel_rfl, by kernel_rfl⟩
theorem e151 (W : World) : EntryOk (cfg W) Try.prog nm 151 (.code f151) := ⟨Try.f88, Try.func88, by kernel_rfl, by kernel_rfl, by kernel_rfl⟩
theorem e175 (W : World) : EntryOk (cfg W) Try.prog nm 175 (.code f175) := ⟨Try.f143, Try.func143, by kernel_rfl, by kernel_rfl, by kernel_rfl⟩
theorem e152 (W : World) : EntryOk (cfg W) Try.prog nm 152 (.code f152) := ⟨Try.f85, Try.func85, by kernel_rfl, by kernel_rfl, by kernel_rfl⟩
theorem e176 (W : World) : EntryOk (cfg W) Try.prog nm 176 (.code f176) := ⟨Try.f144, Try.func144, by kernel_rfl, by kernel_rfl, by kernel_rfl⟩
theorem e153 (W : World) : EntryOk (cfg W) Try.prog nm 153 (.code f153) := ⟨Try.f86, Try.func86, by kernel_rfl, by kernel_rfl, by kernel_rfl⟩
theorem e177 (W : World) : EntryOk (cfg W) Try.prog nm 177 (.code f177) := ⟨Try.f145, Try.func145, by kernel_rfl, by kernel_rfl, by kernel_rfl⟩
theorem e154 (W : World) : EntryOk (cfg W) Try.prog nm 154 (.code f154) := ⟨Try.f87, Try.func87, by kernel_rfl, by kernel_rfl, by kernel_rfl⟩
theorem e179 (W : World) : EntryOk (cfg W) Try.prog nm 179 (.code f179) := ⟨Try.f147, Try.func147, by kernel_rfl, by kernel_rfl, by kernel_rfl⟩
theorem e155 (W : World) : EntryOk (cfg W) Try.prog nm 155 (.code f155) := ⟨Try.f89, Try.func89, by kernel_rfl, by kernel_rfl, by kernel_rfl⟩
theorem e124 (W : World) : EntryOk (cfg W) Try.prog nm 124 (.code f124) := ⟨Try.f18, Try.func18, by kernel_rfl, by kernel_rfl, by kernel_rfl⟩
theorem e159 (W : World) : EntryOk (cfg W) Try.prog nm 159 (.code f159) := ⟨Try.f127, Try.func127, by kernel_rfl, by kernel_rfl, by kernel_rfl⟩
theorem e128 (W : World) : EntryOk (cfg W) Try.prog nm 128 (.code f128) := ⟨Try.f65, Try.func65, by kernel_rfl, by kernel_rfl, by kernel_rfl⟩
theorem e156 (W : World) : EntryOk (cfg W) Try.prog nm 156 (.code f156) := ⟨Try.f124, Try.func124, by kernel_rfl, by kernel_rfl, by kernel_rfl⟩
theorem e129 (W : World) : EntryOk (cfg W) Try.prog nm 129 (.code f129) := ⟨Try.f62, Try.func62, by kernel_rfl, by kernel_rfl, by kernel_rfl⟩
theorem e157 (W : World) : EntryOk (cfg W) Try.prog nm 157 (.code f157) := ⟨Try.f125, Try.func125, by kernel_rfl, by kernel_rfl, by kernel_rfl⟩
theorem e130 (W : World) : EntryOk (cfg W) Try.prog nm 130 (.code f130) := ⟨Try.f63, Try.func63, by kernel_rfl, by kernel_rfl, by kernel_rfl⟩
theorem e158 (W : World) : EntryOk (cfg W) Try.prog nm 158 (.code f158) := ⟨Try.f126, Try.func126, by kernel_rfl, by kernel_rfl, by kernel_rfl⟩
theorem e131 (W : World) : EntryOk (cfg W) Try.prog nm 131 (.code f131) := ⟨Try.f64, Try.func64, by kernel_rfl, by kernel_rfl, by kernel_rfl⟩
theorem e160 (W : World) : EntryOk (cfg W) Try.prog nm 160 (.code f160) := ⟨Try.f128, Try.func128, by kernel_rfl, by kernel_rfl, by kernel_rfl⟩
theorem e132 (W : World) : EntryOk (cfg W) Try.prog nm 132 (.code f132) := ⟨Try.f66, Try.func66, by kernel_rfl, by kernel_rfl, by kernel_rfl⟩
theorem e125 (W : World) : EntryOk (cfg W) Try.prog nm 125 (.code f125) := ⟨Try.f14, Try.func14, by kernel_rfl, by kernel_rfl, by kernel_rfl⟩
theorem e167 (W : World) : EntryOk (cfg W) Try.prog nm 167 (.code f167) := ⟨Try.f135, Try.func135, by kernel_rfl, by kernel_rfl, by kernel_rfl⟩
theorem e137 (W : World) : EntryOk (cfg W) Try.prog nm 137 (.code f137) := ⟨Try.f74, Try.func74, by kernel_rfl, by kernel_rfl, by kernel_rfl⟩
theorem e164 (W : World) : EntryOk (cfg W) Try.prog nm 164 (.code f164) := ⟨Try.f132, Try.func132, by kernel_rfl, by kernel_rfl, by kernel_rfl⟩
theorem e138 (W : World) : EntryOk (cfg W) Try.prog nm 138 (.code f138) := ⟨Try.f71, Try.func71, by kernel_rfl, by kernel_rfl, by kernel_rfl⟩
theorem e165 (W : World) : EntryOk (cfg W) Try.prog nm 165 (.code f165) := ⟨Try.f133, Try.func133, by kernel_rfl, by kernel_rfl, by kernel_rfl⟩
theorem e139 (W : World) : EntryOk (cfg W) Try.prog nm 139 (.code f139) := ⟨Try.f72, Try.func72, by kernel_rfl, by kernel_rfl, by kernel_rfl⟩
theorem e166 (W : World) : EntryOk (cfg W) Try.prog nm 166 (.code f166) := ⟨Try.f134, Try.func134, by kernel_rfl, by kernel_rfl, by kernel_rfl⟩
theorem e140 (W : World) : EntryOk (cfg W) Try.prog nm 140 (.code f140) := ⟨Try.f73, Try.func73, by kernel_rfl, by kernel_rfl, by kernel_rfl⟩
theorem e168 (W : World) : EntryOk (cfg W) Try.prog nm 168 (.code f168) := ⟨Try.f136, Try.func136, by kernel_rfl, by kernel_rfl, by kernel_rfl⟩
theorem e141 (W : World) : EntryOk (cfg W) Try.prog nm 141 (.code f141) := ⟨Try.f75, Try.func75, by kernel_rfl, by kernel_rfl, by kernel_rfl⟩
theorem e126 (W : World) : EntryOk (cfg W) Try.prog nm 126 (.code f126) := ⟨Try.f16, Try.func16, by kernel_rfl, by kernel_rfl, by kernel_rfl⟩
theorem e133 (W : World) : EntryOk (cfg W) Try.prog nm 133 (.code f133) := ⟨Try.f67, Try.func67, by kernel_rfl, by kernel_rfl, by kernel_rfl⟩
theorem e134 (W : World) : EntryOk (cfg W) Try.prog nm 134 (.code f134) := ⟨Try.f69, Try.func69, by kernel_rfl, by kernel_rfl, by kernel_rfl⟩
theorem e163 (W : World) : EntryOk (cfg W) Try.prog nm 163 (.code f163) := ⟨Try.f131, Try.func131, by kernel_rfl, by kernel_rfl, by kernel_rfl⟩
theorem e180 (W : World) : EntryOk (cfg W) Try.prog nm 180 (.code f180) := ⟨Try.f163, Try.func163, by kernel_rfl, by kernel_rfl, by kernel_rfl⟩
theorem e135 (W : World) : EntryOk (cfg W) Try.prog nm 135 (.code f135) := ⟨Try.f70, Try.func70, by kernel_rfl, by kernel_rfl, by kernel_rfl⟩
theorem e161 (W : World) : EntryOk (cfg W) Try.prog nm 161 (.code f161) := ⟨Try.f129, Try.func129, by kernel_rfl, by kernel_rfl, by kernel_rfl⟩
theorem e162 (W : World) : EntryOk (cfg W) Try.prog nm 162 (.code f162) := ⟨Try.f130, Try.func130, by kernel_rfl, by kernel_rfl, by kernel_rfl⟩
theorem e136 (W : World) : EntryOk (cfg W) Try.prog nm 136 (.code f136) := ⟨Try.f68, Try.func68, by kernel_rfl, by kernel_rfl, by kernel_rfl⟩
theorem e127 (W : World) : EntryOk (cfg W) Try.prog nm 127 (.code f127) := ⟨Try.f15, Try.func15, by kernel_rfl, by kernel_rfl, by kernel_rfl⟩
theorem e122 (W : World) : EntryOk (cfg W) Try.prog nm 122 (.code f122) := ⟨Try.f5, Try.func5, by kernel_rfl, by kernel_rfl, by kernel_rfl⟩
theorem tab_ok (W : World) : TabOk (cfg W) Try.prog tab := tabOf_ok (hN W) (rows_cons (e67 W) (rows_cons (e107 W) (rows_cons (e70 W) (rows_cons (e105 W) (rows_cons (e66 W) (rows_cons (e69 W) (rows_cons (e106 W) (rows_cons (e68 W) (rows_cons (e46 W) (rows_cons (e86 W) (rows_cons (e49 W) (rows_cons (e84 W) (rows_cons (e45 W) (rows_cons (e48 W) (rows_cons (e85 W) (rows_cons (e47 W) (rows_cons (e53 W) (rows_cons (e93 W) (rows_cons (e56 W) (rows_cons (e91 W) (rows_cons (e52 W) (rows_cons (e55 W) (rows_cons (e92 W) (rows_cons (e54 W) (rows_cons (e169 W) (rows_cons (e142 W) (rows_cons (e143 W) (rows_cons (e182 W) (rows_cons (e181 W) (rows_cons (e174 W) (rows_cons (e170 W) (rows_cons (e171 W) (rows_cons (e172 W) (rows_cons (e173 W) (rows_cons (e144 W) (rows_cons (e145 W) (rows_cons (e146 W) (rows_cons (e147 W) (rows_cons (e148 W) (rows_cons (e149 W) (rows_cons (e150 W) (rows_cons (e123 W) (rows_cons (e178 W) (rows_cons (e151 W) (rows_cons (e175 W) (rows_cons (e152 W) (rows_cons (e176 W) (rows_cons (e153 W) (rows_cons (e177 W) (rows_cons (e154 W) (rows_cons (e179 W) (rows_cons (e155 W) (rows_cons (e124 W) (rows_cons (e159 W) (rows_cons (e128 W) (rows_cons (e156 W) (rows_cons (e129 W) (rows_cons (e157 W) (rows_cons (e130 W) (rows_cons (e158 W) (rows_cons (e131 W) (rows_cons (e160 W) (rows_cons (e132 W) (rows_cons (e125 W) (rows_cons (e167 W) (rows_cons (e137 W) (rows_cons (e164 W) (rows_cons (e138 W) (rows_cons (e165 W) (rows_cons (e139 W) (rows_cons (e166 W) (rows_cons (e140 W) (rows_cons (e168 W) (rows_cons (e141 W) (rows_cons (e126 W) (rows_cons (e133 W) (rows_cons (e134 W) (rows_cons (e163 W) (rows_cons (e180 W) (rows_cons (e135 W) (rows_cons (e161 W) (rows_cons (e162 W) (rows_cons (e136 W) (rows_cons (e127 W) (rows_cons (e122 W) (rows_nil))))))))))))))))))))))))))))))))))))))))))))))))))))))))))))))))))))))))))))))))))))))

theorem h67 : H67 tab := ⟨rfl, rfl⟩
theorem h70 : H70 tab := ⟨rfl⟩
theorem h105 : H105 tab := ⟨rfl, h67, h70⟩
theorem h66 : H66 tab := ⟨rfl, h105⟩
theorem h69 : H69 tab := ⟨rfl⟩
theorem h106 : H106 tab := ⟨rfl, h67, h69⟩
theorem h68 : H68 tab := ⟨rfl, h106⟩
theorem h46 : H46 tab := ⟨rfl, rfl⟩
theorem h49 : H49 tab := ⟨rfl⟩
theorem h84 : H84 tab := ⟨rfl, h46, h49⟩
theorem h45 : H45 tab := ⟨rfl, h84⟩
theorem h48 : H48 tab := ⟨rfl⟩
theorem h85 : H85 tab := ⟨rfl, h46, h48⟩
theorem h47 : H47 tab := ⟨rfl, h85⟩
theorem h53 : H53 tab := ⟨rfl, rfl⟩
theorem h56 : H56 tab := ⟨rfl⟩
theorem h91 : H91 tab := ⟨rfl, h53, h56⟩
theorem h52 : H52 tab := ⟨rfl, h91⟩
theorem h55 : H55 tab := ⟨rfl⟩
theorem h92 : H92 tab := ⟨rfl, h53, h55⟩
theorem h54 : H54 tab := ⟨rfl, h92⟩
theorem h169 : H169 tab := ⟨rfl⟩
theorem h142 : H142 tab := ⟨rfl, h169⟩
theorem h143 : H143 tab := ⟨rfl, h169⟩
theorem h182 : H182 tab := ⟨rfl⟩
theorem h181 : H181 tab := ⟨rfl, h182⟩
theorem h174 : H174 tab := ⟨rfl, h181, h182⟩
theorem h170 : H170 tab := ⟨rfl, h174⟩
theorem h171 : H171 tab := ⟨rfl, h169, h174⟩
theorem h172 : H172 tab := ⟨rfl⟩
theorem h173 : H173 tab := ⟨rfl⟩
theorem h144 : H144 tab := ⟨rfl, h170, h171, h172, h173⟩
theorem h145 : H145 tab := ⟨rfl, h169, h174⟩
theorem h146 : H146 tab := ⟨rfl⟩
theorem h147 : H147 tab := ⟨rfl⟩
theorem h148 : H148 tab := ⟨rfl⟩
theorem h149 : H149 tab := ⟨rfl⟩
theorem h150 : H150 tab := ⟨rfl⟩
theorem h123 : H123 tab := ⟨rfl, h142, h143, h144, h145, h146, h147, h148, h149, h150⟩
theorem h178 : H178 tab := ⟨rfl, h69⟩
theorem h151 : H151 tab := ⟨rfl, h178⟩
theorem h175 : H175 tab := ⟨rfl, h69⟩
theorem h152 : H152 tab := ⟨rfl, h175⟩
theorem h176 : H176 tab := ⟨rfl⟩
theorem h153 : H153 tab := ⟨rfl, h176⟩
theorem h177 : H177 tab := ⟨rfl, h66, h68⟩
theorem h154 : H154 tab := ⟨rfl, h177⟩
theorem h179 : H179 tab := ⟨rfl, h67, h69⟩
theorem h155 : H155 tab := ⟨rfl, h179⟩
theorem h124 : H124 tab := ⟨rfl, h151, h152, h153, h154, h155⟩
theorem h159 : H159 tab := ⟨rfl, h48⟩
theorem h128 : H128 tab := ⟨rfl, h159⟩
theorem h156 : H156 tab := ⟨rfl, h48⟩
theorem h129 : H129 tab := ⟨rfl, h156⟩
theorem h157 : H157 tab := ⟨rfl⟩
theorem h130 : H130 tab := ⟨rfl, h157⟩
theorem h158 : H158 tab := ⟨rfl, h45, h47⟩
theorem h131 : H131 tab := ⟨rfl, h158⟩
theorem h160 : H160 tab := ⟨rfl, h46, h48⟩
theorem h132 : H132 tab := ⟨rfl, h160⟩
theorem h125 : H125 tab := ⟨rfl, h128, h129, h130, h131, h132⟩
theorem h167 : H167 tab := ⟨rfl, h55⟩
theorem h137 : H137 tab := ⟨rfl, h167⟩
theorem h164 : H164 tab := ⟨rfl, h55⟩
theorem h138 : H138 tab := ⟨rfl, h164⟩
theorem h165 : H165 tab := ⟨rfl⟩
theorem h139 : H139 tab := ⟨rfl, h165⟩
theorem h166 : H166 tab := ⟨rfl, h52, h54⟩
theorem h140 : H140 tab := ⟨rfl, h166⟩
theorem h168 : H168 tab := ⟨rfl, h53, h55⟩
theorem h141 : H141 tab := ⟨rfl, h168⟩
theorem h126 : H126 tab := ⟨rfl, h137, h138, h139, h140, h141⟩
theorem h133 : H133 tab := ⟨rfl⟩
theorem h134 : H134 tab := ⟨rfl, h133⟩
theorem h163 : H163 tab := ⟨rfl, rfl⟩
theorem h135 : H135 tab := ⟨rfl, h133, h163⟩
theorem h161 : H161 tab := ⟨rfl, h163⟩
theorem h162 : H162 tab := ⟨rfl, h133, h163⟩
theorem h136 : H136 tab := ⟨rfl, h161, h162⟩
theorem h127 : H127 tab := ⟨rfl, h133, h134, h135, h136⟩
theorem h122 : H122 tab := ⟨rfl, h123, h124, h125, h126, h127⟩

theorem own : ownKnob Try.prog.godebug = none := by kernel_rfl
theorem laidOut : laidOutB Try.prog = true := by kernel_rfl
theorem plain : plainB Try.prog [48, 42, 168, 9, 23, 43, 170, 3, 44, 173, 26, 145, 25, 4, 28, 151, 27, 148, 45, 175, 46, 178] = true := by kernel_rfl

theorem ent168 (n : Nat) (cs : List D) (h : HasT Try.prog n 168 cs) : ∃ x : Go.DM.Labels, cs = x.d.cells ∧ x.Ok := by
  cases n with
  | zero => exact h.elim
  | succ n =>
    simp only [HasT, Try.underlying168] at h
    obtain ⟨ps, rfl, hl, hx⟩ := h
    obtain ⟨p0, e0, q0⟩ := hx 0 _ rfl
    obtain ⟨p1, e1, q1⟩ := hx 1 _ rfl
    obtain ⟨a0, rfl, b0⟩ := ent_str Try.underlying9 q0
    obtain ⟨a1, rfl, b1⟩ := ent_sl Try.underlying23 (fun m xs _ => ent_elS Try.underlying9 m xs) q1
    match ps, hl, e0, e1 with
    | [c0, c1], _, e0, e1 =>
      simp at e0 e1
      subst e0 e1
      exact ⟨⟨a0, a1⟩, by simp, ⟨b0, b1⟩⟩
theorem el168 (n : Nat) (cs : List D) (h : HasT Try.prog n 168 cs) : ∃ x : Go.DM.Labels, mkEl Try.prog 168 cs = x.d ∧ x.Ok := by
  obtain ⟨x, h1, h2⟩ := ent168 n cs h
  exact ⟨x, by rw [mk_agg Try.underlying168, h1, Go.DM.Labels.d_cells, Go.DM.Labels.d_fold], h2⟩
theorem ent170 (n : Nat) (cs : List D) (h : HasT Try.prog n 170 cs) : ∃ x : Go.DM.Seq, cs = x.d.cells ∧ x.Ok := by
  cases n with
  | zero => exact h.elim
  | succ n =>
    simp only [HasT, Try.underlying170] at h
    obtain ⟨ps, rfl, hl, hx⟩ := h
    obtain ⟨p0, e0, q0⟩ := hx 0 _ rfl
    obtain ⟨p1, e1, q1⟩ := hx 1 _ rfl
    obtain ⟨a0, rfl, b0⟩ := ent_str Try.underlying9 q0
    obtain ⟨a1, rfl, b1⟩ := ent_int Try.underlying3 q1
    match ps, hl, e0, e1 with
    | [c0, c1], _, e0, e1 =>
      simp at e0 e1
      subst e0 e1
      exact ⟨⟨a0, a1⟩, by simp, ⟨b0, b1⟩⟩
theorem el170 (n : Nat) (cs : List D) (h : HasT Try.prog n 170 cs) : ∃ x : Go.DM.Seq, mkEl Try.prog 170 cs = x.d ∧ x.Ok := by
  obtain ⟨x, h1, h2⟩ := ent170 n cs h
  exact ⟨x, by rw [mk_agg Try.underlying170, h1, Go.DM.Seq.d_cells, Go.DM.Seq.d_fold], h2⟩
theorem ent25 (n : Nat) (cs : List D) (h : HasT Try.prog n 25 cs) : ∃ x : Go.DM.Ty, cs = x.d.cells ∧ x.Ok := by
  cases n with
  | zero => exact h.elim
  | succ n =>
    simp only [HasT, Try.underlying25] at h
    obtain ⟨ps, rfl, hl, hx⟩ := h
    obtain ⟨p0, e0, q0⟩ := hx 0 _ rfl
    obtain ⟨p1, e1, q1⟩ := hx 1 _ rfl
    obtain ⟨p2, e2, q2⟩ := hx 2 _ rfl
    obtain ⟨a0, rfl, b0⟩ := ent_int Try.underlying3 q0
    obtain ⟨a1, rfl, b1⟩ := ent_int Try.underlying3 q1
    obtain ⟨a2, rfl, b2⟩ := ent_str Try.underlying9 q2
    match ps, hl, e0, e1, e2 with
    | [c0, c1, c2], _, e0, e1, e2 =>
      simp at e0 e1 e2
      subst e0 e1 e2
      exact ⟨⟨a0, a1, a2⟩, by simp, ⟨b0, b1, b2⟩⟩
theorem el25 (n : Nat) (cs : List D) (h : HasT Try.prog n 25 cs) : ∃ x : Go.DM.Ty, mkEl Try.prog 25 cs = x.d ∧ x.Ok := by
  obtain ⟨x, h1, h2⟩ := ent25 n cs h
  exact ⟨x, by rw [mk_agg Try.underlying25, h1, Go.DM.Ty.d_cells, Go.DM.Ty.d_fold], h2⟩
theorem ent151 : ∀ (n : Nat) (cs : List D), HasT Try.prog n 151 cs → ∃ x : Xp, cs = x.d.cells ∧ x.Ok := by
  intro n
  induction n using Nat.strongRecOn with
  | ind n ih =>
    intro cs h
    cases n with
    | zero => exact h.elim
    | succ n =>
      simp only [HasT, Try.underlying151] at h
      obtain ⟨ps, rfl, hl, hx⟩ := h
      obtain ⟨p0, e0, q0⟩ := hx 0 _ rfl
      obtain ⟨p1, e1, q1⟩ := hx 1 _ rfl
      obtain ⟨p2, e2, q2⟩ := hx 2 _ rfl
      obtain ⟨p3, e3, q3⟩ := hx 3 _ rfl
      obtain ⟨a0, rfl, b0⟩ := ent_int Try.underlying3 q0
      obtain ⟨a1, rfl, b1⟩ := ent_str Try.underlying9 q1
      obtain ⟨a2, rfl, b2⟩ := ent_int Try.underlying3 q2
      obtain ⟨a3, rfl, b3⟩ := ent_sl (d := Xp.d) (ok := Xp.Ok) Try.underlying28 (fun m xs hm hh => by
        obtain ⟨x, h1, h2⟩ := ih m (by omega) xs hh
        exact ⟨x, by rw [mk_agg Try.underlying151, h1, Xp.d_cells, Xp.d_fold], h2⟩) q3
      match ps, hl, e0, e1, e2, e3 with
      | [c0, c1, c2, c3], _, e0, e1, e2, e3 =>
        simp at e0 e1 e2 e3
        subst e0 e1 e2 e3
        exact ⟨.mk a0 a1 a2 a3, by simp, .mk b0 b1 b2 b3.1 b3.2⟩
theorem el151 (n : Nat) (cs : List D) (h : HasT Try.prog n 151 cs) : ∃ x : Go.DM.Xp, mkEl Try.prog 151 cs = x.d ∧ x.Ok := by
  obtain ⟨x, h1, h2⟩ := ent151 n cs h
  exact ⟨x, by rw [mk_agg Try.underlying151, h1, Go.DM.Xp.d_cells, Go.DM.Xp.d_fold], h2⟩
theorem ent145 (n : Nat) (cs : List D) (h : HasT Try.prog n 145 cs) : ∃ x : Go.DM.Col, cs = x.d.cells ∧ x.Ok := by
  cases n with
  | zero => exact h.elim
  | succ n =>
    simp only [HasT, Try.underlying145] at h
    obtain ⟨ps, rfl, hl, hx⟩ := h
    obtain ⟨p0, e0, q0⟩ := hx 0 _ rfl
    obtain ⟨p1, e1, q1⟩ := hx 1 _ rfl
    obtain ⟨p2, e2, q2⟩ := hx 2 _ rfl
    obtain ⟨p3, e3, q3⟩ := hx 3 _ rfl
    obtain ⟨a0, rfl, b0⟩ := ent_str Try.underlying9 q0
    obtain ⟨a1, rfl, b1⟩ := ent25 _ _ q1
    obtain ⟨a2, rfl⟩ := ent_bool Try.underlying4 q2
    obtain ⟨a3, rfl, b3⟩ := ent_sl Try.underlying28 (fun m xs _ => el151 m xs) q3
    match ps, hl, e0, e1, e2, e3 with
    | [c0, c1, c2, c3], _, e0, e1, e2, e3 =>
      simp at e0 e1 e2 e3
      subst e0 e1 e2 e3
      exact ⟨⟨a0, a1, a2, a3⟩, by simp, ⟨b0, b1, b3⟩⟩
theorem el145 (n : Nat) (cs : List D) (h : HasT Try.prog n 145 cs) : ∃ x : Go.DM.Col, mkEl Try.prog 145 cs = x.d ∧ x.Ok := by
  obtain ⟨x, h1, h2⟩ := ent145 n cs h
  exact ⟨x, by rw [mk_agg Try.underlying145, h1, Go.DM.Col.d_cells, Go.DM.Col.d_fold], h2⟩
theorem ent148 (n : Nat) (cs : List D) (h : HasT Try.prog n 148 cs) : ∃ x : Go.DM.Rule, cs = x.d.cells ∧ x.Ok := by
  cases n with
  | zero => exact h.elim
  | succ n =>
    simp only [HasT, Try.underlying148] at h
    obtain ⟨ps, rfl, hl, hx⟩ := h
    obtain ⟨p0, e0, q0⟩ := hx 0 _ rfl
    obtain ⟨p1, e1, q1⟩ := hx 1 _ rfl
    obtain ⟨p2, e2, q2⟩ := hx 2 _ rfl
    obtain ⟨p3, e3, q3⟩ := hx 3 _ rfl
    obtain ⟨p4, e4, q4⟩ := hx 4 _ rfl
    obtain ⟨p5, e5, q5⟩ := hx 5 _ rfl
    obtain ⟨a0, rfl, b0⟩ := ent_str Try.underlying9 q0
    obtain ⟨a1, rfl, b1⟩ := ent_int Try.underlying3 q1
    obtain ⟨a2, rfl, b2⟩ := ent_sl Try.underlying23 (fun m xs _ => ent_elS Try.underlying9 m xs) q2
    obtain ⟨a3, rfl, b3⟩ := ent_sl Try.underlying28 (fun m xs _ => el151 m xs) q3
    obtain ⟨a4, rfl, b4⟩ := ent_str Try.underlying9 q4
    obtain ⟨a5, rfl, b5⟩ := ent_sl Try.underlying23 (fun m xs _ => ent_elS Try.underlying9 m xs) q5
    match ps, hl, e0, e1, e2, e3, e4, e5 with
    | [c0, c1, c2, c3, c4, c5], _, e0, e1, e2, e3, e4, e5 =>
      simp at e0 e1 e2 e3 e4 e5
      subst e0 e1 e2 e3 e4 e5
      exact ⟨⟨a0, a1, a2, a3, a4, a5⟩, by simp, ⟨b0, b1, b2, b3, b4, b5⟩⟩
theorem el148 (n : Nat) (cs : List D) (h : HasT Try.prog n 148 cs) : ∃ x : Go.DM.Rule, mkEl Try.prog 148 cs = x.d ∧ x.Ok := by
  obtain ⟨x, h1, h2⟩ := ent148 n cs h
  exact ⟨x, by rw [mk_agg Try.underlying148, h1, Go.DM.Rule.d_cells, Go.DM.Rule.d_fold], h2⟩
theorem ent173 (n : Nat) (cs : List D) (h : HasT Try.prog n 173 cs) : ∃ x : Go.DM.Table, cs = x.d.cells ∧ x.Ok := by
  cases n with
  | zero => exact h.elim
  | succ n =>
    simp only [HasT, Try.underlying173] at h
    obtain ⟨ps, rfl, hl, hx⟩ := h
    obtain ⟨p0, e0, q0⟩ := hx 0 _ rfl
    obtain ⟨p1, e1, q1⟩ := hx 1 _ rfl
    obtain ⟨p2, e2, q2⟩ := hx 2 _ rfl
    obtain ⟨p3, e3, q3⟩ := hx 3 _ rfl
    obtain ⟨a0, rfl, b0⟩ := ent_str Try.underlying9 q0
    obtain ⟨a1, rfl, b1⟩ := ent_sl Try.underlying26 (fun m xs _ => el145 m xs) q1
    obtain ⟨a2, rfl, b2⟩ := ent_sl Try.underlying27 (fun m xs _ => el148 m xs) q2
    obtain ⟨a3, rfl, b3⟩ := ent_int Try.underlying3 q3
    match ps, hl, e0, e1, e2, e3 with
    | [c0, c1, c2, c3], _, e0, e1, e2, e3 =>
      simp at e0 e1 e2 e3
      subst e0 e1 e2 e3
      exact ⟨⟨a0, a1, a2, a3⟩, by simp, ⟨b0, b1, b2, b3⟩⟩
theorem el173 (n : Nat) (cs : List D) (h : HasT Try.prog n 173 cs) : ∃ x : Go.DM.Table, mkEl Try.prog 173 cs = x.d ∧ x.Ok := by
  obtain ⟨x, h1, h2⟩ := ent173 n cs h
  exact ⟨x, by rw [mk_agg Try.underlying173, h1, Go.DM.Table.d_cells, Go.DM.Table.d_fold], h2⟩
theorem ent175 (n : Nat) (cs : List D) (h : HasT Try.prog n 175 cs) : ∃ x : Go.DM.Index, cs = x.d.cells ∧ x.Ok := by
  cases n with
  | zero => exact h.elim
  | succ n =>
    simp only [HasT, Try.underlying175] at h
    obtain ⟨ps, rfl, hl, hx⟩ := h
    obtain ⟨p0, e0, q0⟩ := hx 0 _ rfl
    obtain ⟨p1, e1, q1⟩ := hx 1 _ rfl
    obtain ⟨p2, e2, q2⟩ := hx 2 _ rfl
    obtain ⟨p3, e3, q3⟩ := hx 3 _ rfl
    obtain ⟨a0, rfl, b0⟩ := ent_str Try.underlying9 q0
    obtain ⟨a1, rfl, b1⟩ := ent_str Try.underlying9 q1
    obtain ⟨a2, rfl, b2⟩ := ent_sl Try.underlying23 (fun m xs _ => ent_elS Try.underlying9 m xs) q2
    obtain ⟨a3, rfl⟩ := ent_bool Try.underlying4 q3
    match ps, hl, e0, e1, e2, e3 with
    | [c0, c1, c2, c3], _, e0, e1, e2, e3 =>
      simp at e0 e1 e2 e3
      subst e0 e1 e2 e3
      exact ⟨⟨a0, a1, a2, a3⟩, by simp, ⟨b0, b1, b2⟩⟩
theorem el175 (n : Nat) (cs : List D) (h : HasT Try.prog n 175 cs) : ∃ x : Go.DM.Index, mkEl Try.prog 175 cs = x.d ∧ x.Ok := by
  obtain ⟨x, h1, h2⟩ := ent175 n cs h
  exact ⟨x, by rw [mk_agg Try.underlying175, h1, Go.DM.Index.d_cells, Go.DM.Index.d_fold], h2⟩
theorem ent178 (n : Nat) (cs : List D) (h : HasT Try.prog n 178 cs) : ∃ x : Go.DM.View, cs = x.d.cells ∧ x.Ok := by
  cases n with
  | zero => exact h.elim
  | succ n =>
    simp only [HasT, Try.underlying178] at h
    obtain ⟨ps, rfl, hl, hx⟩ := h
    obtain ⟨p0, e0, q0⟩ := hx 0 _ rfl
    obtain ⟨p1, e1, q1⟩ := hx 1 _ rfl
    obtain ⟨p2, e2, q2⟩ := hx 2 _ rfl
    obtain ⟨p3, e3, q3⟩ := hx 3 _ rfl
    obtain ⟨a0, rfl, b0⟩ := ent_str Try.underlying9 q0
    obtain ⟨a1, rfl, b1⟩ := ent_str Try.underlying9 q1
    obtain ⟨a2, rfl, b2⟩ := ent_sl Try.underlying23 (fun m xs _ => ent_elS Try.underlying9 m xs) q2
    obtain ⟨a3, rfl, b3⟩ := ent_sl Try.underlying28 (fun m xs _ => el151 m xs) q3
    match ps, hl, e0, e1, e2, e3 with
    | [c0, c1, c2, c3], _, e0, e1, e2, e3 =>
      simp at e0 e1 e2 e3
      subst e0 e1 e2 e3
      exact ⟨⟨a0, a1, a2, a3⟩, by simp, ⟨b0, b1, b2, b3⟩⟩
theorem el178 (n : Nat) (cs : List D) (h : HasT Try.prog n 178 cs) : ∃ x : Go.DM.View, mkEl Try.prog 178 cs = x.d ∧ x.Ok := by
  obtain ⟨x, h1, h2⟩ := ent178 n cs h
  exact ⟨x, by rw [mk_agg Try.underlying178, h1, Go.DM.View.d_cells, Go.DM.View.d_fold], h2⟩
theorem ent48 (n : Nat) (cs : List D) (h : HasT Try.prog n 48 cs) : ∃ x : Go.DM.Plan, cs = x.d.cells ∧ x.Ok := by
  cases n with
  | zero => exact h.elim
  | succ n =>
    simp only [HasT, Try.underlying48] at h
    obtain ⟨ps, rfl, hl, hx⟩ := h
    obtain ⟨p0, e0, q0⟩ := hx 0 _ rfl
    obtain ⟨p1, e1, q1⟩ := hx 1 _ rfl
    obtain ⟨p2, e2, q2⟩ := hx 2 _ rfl
    obtain ⟨p3, e3, q3⟩ := hx 3 _ rfl
    obtain ⟨p4, e4, q4⟩ := hx 4 _ rfl
    obtain ⟨p5, e5, q5⟩ := hx 5 _ rfl
    obtain ⟨a0, rfl, b0⟩ := ent_sl Try.underlying42 (fun m xs _ => el168 m xs) q0
    obtain ⟨a1, rfl, b1⟩ := ent_sl Try.underlying43 (fun m xs _ => el170 m xs) q1
    obtain ⟨a2, rfl, b2⟩ := ent_sl Try.underlying44 (fun m xs _ => el173 m xs) q2
    obtain ⟨a3, rfl, b3⟩ := ent_sl Try.underlying45 (fun m xs _ => el175 m xs) q3
    obtain ⟨a4, rfl, b4⟩ := ent_sl Try.underlying46 (fun m xs _ => el178 m xs) q4
    obtain ⟨a5, rfl, b5⟩ := ent_int Try.underlying3 q5
    match ps, hl, e0, e1, e2, e3, e4, e5 with
    | [c0, c1, c2, c3, c4, c5], _, e0, e1, e2, e3, e4, e5 =>
      simp at e0 e1 e2 e3 e4 e5
      subst e0 e1 e2 e3 e4 e5
      exact ⟨⟨a0, a1, a2, a3, a4, a5⟩, by simp, ⟨b0, b1, b2, b3, b4, b5⟩⟩
theorem el48 (n : Nat) (cs : List D) (h : HasT Try.prog n 48 cs) : ∃ x : Go.DM.Plan, mkEl Try.prog 48 cs = x.d ∧ x.Ok := by
  obtain ⟨x, h1, h2⟩ := ent48 n cs h
  exact ⟨x, by rw [mk_agg Try.underlying48, h1, Go.DM.Plan.d_cells, Go.DM.Plan.d_fold], h2⟩

theorem lifted (os : Os) (started : os.Started) (H : Type) (enc : TypeId × Value → H) :
    ReturnsInHanded {} Try.checked os 5 .any (Rows.fnExactSameSpec.pre6 enc Try.prog Try.f5 Rows.fnExactSameRow.domain false) (Rows.fnExactSameSpec.post enc Try.prog Try.f5 false true false false) := by
  refine returnsInHanded_of_change (C := Try.checked) own started (by kernel_rfl) Try.func5
    (ChangeSpec.witness6 (enc := enc) (C := Try.checked) false ⟨#[], #[.agg #[.slice none 0 0, .slice none 0 0, .slice none 0 0, .slice none 0 0, .slice none 0 0, .int .i64 0], .agg #[.slice none 0 0, .slice none 0 0, .slice none 0 0, .slice none 0 0, .slice none 0 0, .int .i64 0]], []⟩ 8 (by kernel_rfl) (by kernel_rfl) (by kernel_rfl) (by kernel_rfl)) ?_
  intro W base args ds gs before hval0 hW hcnd _
  have hW' := hW
  obtain ⟨p, q, hA, hV, rfl, hfz, hnd⟩ := hW
  obtain ⟨rfl, rfl⟩ := trodVars_none hV
  rw [Try.params5] at hA
  obtain ⟨v0, v1, d0, d1, p0, p1, rfl, rfl, rfl, h0, h1⟩ := trodAll_two hA
  obtain ⟨fuel0, hf0⟩ := h0
  obtain ⟨cs0, c0, r0, _⟩ := enter (num := cfg W) (S := memOf W) plain (fun _ _ _ h => h) fuel0 48 _ _ (by simp) hf0
  obtain ⟨x0, rfl, k0⟩ := ent48 _ _ c0
  have g0 : Rep (cfg W) (memOf W) noInf x0.d v0 := by
    have := rep_agg_of_cells r0 (by simp)
    rw [Go.DM.Plan.d_cells, Go.DM.Plan.d_fold] at this
    exact this
  obtain ⟨fuel1, hf1⟩ := h1
  obtain ⟨cs1, c1, r1, _⟩ := enter (num := cfg W) (S := memOf W) plain (fun _ _ _ h => h) fuel1 48 _ _ (by simp) hf1
  obtain ⟨x1, rfl, k1⟩ := ent48 _ _ c1
  have g1 : Rep (cfg W) (memOf W) noInf x1.d v1 := by
    have := rep_agg_of_cells r1 (by simp)
    rw [Go.DM.Plan.d_cells, Go.DM.Plan.d_fold] at this
    exact this
  refine (law_calls (Checked.mixed Try.checked) (tab_ok W) rfl (repL_cons.2 ⟨v0, [v1], rfl, g0, repL_cons.2 ⟨v1, [], rfl, g1, by simp⟩⟩) (fnExactSame_ev h122 x0 k0 x1 k1)).mono fun e W' ⟨he, hb⟩ => ?_
  subst he
  refine ⟨_, rfl, law_post laidOut ?_ rfl hW' rfl rfl Try.underlying4 hb⟩
  intro t ht
  rw [Try.params5] at ht
  simp at ht
  subst ht
  exact ⟨by kernel_rfl, of_decide_eq_true (by kernel_rfl)⟩

theorem proved : Rows.FnExactSameSaid :=
  OpenClaim.holds_of_wide 5 Try.f5 rfl rfl rfl rfl rfl rfl rfl ⟨rfl, rfl, rfl, rfl, rfl⟩ rfl rfl rfl rfl rfl (by kernel_rfl) Try.func5 (by kernel_rfl)
    (of_decide_eq_true (by kernel_rfl)) (by unfold Func.isWrapper; first | (rw [if_pos (by decide +kernel)]; kernel_rfl) | (rw [if_neg (by decide +kernel)]; exact ⟨rfl, rfl⟩))
    (fun os started H enc _ => lifted os started H enc)
end Go.Proofs.Ytpidjgefokgplaa.FnExactSameLaw
