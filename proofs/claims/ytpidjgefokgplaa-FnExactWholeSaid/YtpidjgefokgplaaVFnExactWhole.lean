/- For every argument, FnExactWhole answers true and leaves its arguments as they were. No conditions. -/
import Derived.Test.YtpidjgefokgplaaRows
import Derived.Test.YtpidjgefokgplaaSeat
import Derived.Test.YtpidjgefokgplaaOk
import Derived.Test.YtpidjgefokgplaaA2
import Derived.ProofKit
set_option linter.unnecessarySimpa false
set_option linter.unusedVariables false
set_option linter.unusedSimpArgs false
set_option linter.unusedSectionVars false
set_option maxRecDepth 100000
namespace Go.Proofs.Ytpidjgefokgplaa.FnExactWholeLaw
open Go Go.DM Go.ChangeShapes Go.WideShapes Go.ChangeAt Go.RowKit

def pairs : Pairs := [(100, 2), (98, 3), (28, 31), (99, 72), (27, 32), (8, 10), (97, 71), (26, 30), (7, 11), (3, 9)]
def nm : Names := { gid := gidOf pairs }
def cfg (W : World) : Cfg := ⟨numOf pairs, memOf W⟩
theorem hN (W : World) : ∀ f g, nm.gid f = some g → (cfg W) g = f := gid_num (ps := pairs) (by kernel_rfl)
def tab : Tab := tabOf [(2, .code f2), (3, .code f3), (31, .code f31), (72, .code f72), (32, .code f32), (10, .code f10), (71, .code f71), (30, .code f30), (11, .code f11), (9, .code f9)]

theorem e2 (W : World) : EntryOk (cfg W) Try.prog nm 2 (.code f2) := ⟨Try.f100, Try.func100, by kernel_rfl, by kernel_rfl, by kernel_rfl⟩
theorem e3 (W : World) : EntryOk (cfg W) Try.prog nm 3 (.code f3) := ⟨Try.f98, Try.func98, by kernel_rfl, by kernel_rfl, by kernel_rfl⟩
theorem e31 (W : World) : EntryOk (cfg W) Try.prog nm 31 (.code f31) := ⟨Try.f28, Try.func28, by kernel_rfl, by kernel_rfl, by kernel_rfl⟩
theorem e72 (W : World) : EntryOk (cfg W) Try.prog nm 72 (.code f72) := ⟨Try.f99, Try.func99, by kernel_rfl, by kernel_rfl, by kernel_rfl⟩
theorem e32 (W : World) : EntryOk (cfg W) Try.prog nm 32 (.code f32) := ⟨Try.f27, Try.func27, by kernel_rfl, by kernel_rfl, by kernel_rfl⟩
theorem e10 (W : World) : EntryOk (cfg W) Try.prog nm 10 (.code f10) := ⟨Try.f8, Try.func8, by kernel_rfl, by kernel_rfl, by kernel_rfl⟩
theorem e71 (W : World) : EntryOk (cfg W) Try.prog nm 71 (.code f71) := ⟨Try.f97, Try.func97, by kernel_rfl, by kernel_rfl, by kernel_rfl⟩
theorem e30 (W : World) : EntryOk (cfg W) Try.prog nm 30 (.code f30) := ⟨Try.f26, Try.func26, by kernel_rfl, by kernel_rfl, by kernel_rfl⟩
theorem e11 (W : World) : EntryOk (cfg W) Try.prog nm 11 (.code f11) := ⟨Try.f7, Try.func7, by kernel_rfl, by kernel_rfl, by kernel_rfl⟩
theorem e9 (W : World) : EntryOk (cfg W) Try.prog nm 9 (.code f9) := ⟨Try.f3, Try.func3, by kernel_rfl, by kernel_rfl, by kernel_rfl⟩
theorem tab_ok (W : World) : TabOk (cfg W) Try.prog tab := tabOf_ok (hN W) (rows_cons (e2 W) (rows_cons (e3 W) (rows_cons (e31 W) (rows_cons (e72 W) (rows_cons (e32 W) (rows_cons (e10 W) (rows_cons (e71 W) (rows_cons (e30 W) (rows_cons (e11 W) (rows_cons (e9 W) (rows_nil)))))))))))

theorem h2 : H2 tab := ⟨rfl⟩
theorem h3 : H3 tab := ⟨rfl⟩
theorem h31 : H31 tab := ⟨rfl, h2⟩
theorem h72 : H72 tab := ⟨rfl⟩
theorem h32 : H32 tab := ⟨rfl, h72⟩
theorem h10 : H10 tab := ⟨rfl, h31, h32⟩
theorem h71 : H71 tab := ⟨rfl⟩
theorem h30 : H30 tab := ⟨rfl, h3, h71⟩
theorem h11 : H11 tab := ⟨rfl, h30⟩
theorem h9 : H9 tab := ⟨rfl, h10, h11⟩

theorem own : ownKnob Try.prog.godebug = none := by kernel_rfl
theorem laidOut : laidOutB Try.prog = true := by kernel_rfl
theorem plain : plainB Try.prog [9] = true := by kernel_rfl



theorem lifted (os : Os) (started : os.Started) (H : Type) (enc : TypeId × Value → H) :
    ReturnsInHanded {} Try.checked os 3 .any (Rows.fnExactWholeSpec.pre6 enc Try.prog Try.f3 Rows.fnExactWholeRow.domain false) (Rows.fnExactWholeSpec.post enc Try.prog Try.f3 false true false false) := by
  refine returnsInHanded_of_change (C := Try.checked) own started (by kernel_rfl) Try.func3
    (ChangeSpec.witness6 (enc := enc) (C := Try.checked) false ⟨#[], #[.string ⟨#[]⟩], []⟩ 8 (by kernel_rfl) (by kernel_rfl) (by kernel_rfl) (by kernel_rfl)) ?_
  intro W base args ds gs before hval0 hW hcnd _
  have hW' := hW
  obtain ⟨p, q, hA, hV, rfl, hfz, hnd⟩ := hW
  obtain ⟨rfl, rfl⟩ := trodVars_none hV
  rw [Try.params3] at hA
  obtain ⟨v0, d0, rfl, rfl, h0⟩ := trodAll_one hA
  obtain ⟨fuel0, hf0⟩ := h0
  obtain ⟨cs0, c0, r0, _⟩ := enter (num := cfg W) (S := memOf W) plain (fun _ _ _ h => h) fuel0 9 _ _ (by simp) hf0
  obtain ⟨x0, rfl, k0⟩ := ent_str Try.underlying9 c0
  have g0 : Rep (cfg W) (memOf W) noInf (.str x0) v0 := by
    refine rep_one_of_cells r0 trivial ?_
    rintro a rfl
    have hok := hval0 0 9 _ (by rw [Try.params3]; rfl) rfl
    have hu : Try.checked.prog.underlying 9 = some .string := Try.underlying9
    simp [Value.okWide, hu, Cell.okWide, Cell.ok] at hok
  refine (law_calls (Checked.mixed Try.checked) (tab_ok W) rfl (repL_cons.2 ⟨v0, [], rfl, g0, by simp⟩) (fnExactWhole_ev h9 x0 k0)).mono fun e W' ⟨he, hb⟩ => ?_
  subst he
  refine ⟨_, rfl, law_post laidOut ?_ rfl hW' rfl rfl Try.underlying4 hb⟩
  intro t ht
  rw [Try.params3] at ht
  simp at ht
  subst ht
  exact ⟨by kernel_rfl, of_decide_eq_true (by kernel_rfl)⟩

theorem proved : Rows.FnExactWholeSaid :=
  OpenClaim.holds_of_wide 3 Try.f3 rfl rfl rfl rfl rfl rfl rfl ⟨rfl, rfl, rfl, rfl, rfl⟩ rfl rfl rfl rfl rfl (by kernel_rfl) Try.func3 (by kernel_rfl)
    (of_decide_eq_true (by kernel_rfl)) (by unfold Func.isWrapper; first | (rw [if_pos (by decide +kernel)]; kernel_rfl) | (rw [if_neg (by decide +kernel)]; exact ⟨rfl, rfl⟩))
    (fun os started H enc _ => lifted os started H enc)
end Go.Proofs.Ytpidjgefokgplaa.FnExactWholeLaw
