/- For every string, FnExactCrc answers true and leaves its argument as it was: the program's Crc answers as the reference's. -/
import Derived.Test.YtimekmohoobndaaRows
import Derived.Test.YtimekmohoobndaaSeat
import Derived.Test.YtimekmohoobndaaT3
import Derived.ProofKit
set_option linter.unnecessarySimpa false
set_option linter.unusedVariables false
set_option linter.unusedSimpArgs false
set_option linter.unusedSectionVars false
namespace Go.Proofs.Ytimekmohoobndaa.CrcLaw
open Go Go.DM Go.ChangeShapes Go.WideShapes Go.ChangeAt Go.RowKit

def pairs : Pairs := [(3, 1), (10, 2), (9, 3)]
def nm : Names := { gid := gidOf pairs, raw := fun _ => false }
theorem hN : ∀ f g, nm.gid f = some g → numOf pairs g = f := gid_num (ps := pairs) (by decide)
def tab : Tab := tabOf [(1, .code f1), (2, .code f2), (3, .code f3)]

theorem tab_ok : TabOk (numOf pairs) Try.prog nm tab := by
  refine tabOf_ok ?_
  intro g d hm
  simp only [List.mem_cons, List.not_mem_nil, or_false, Prod.mk.injEq] at hm
  rcases hm with ⟨rfl, rfl⟩ | ⟨rfl, rfl⟩ | ⟨rfl, rfl⟩
  · exact ⟨Try.f3, Try.func3, by kernel_rfl, by kernel_rfl⟩
  · exact ⟨Try.f10, Try.func10, by kernel_rfl, by kernel_rfl⟩
  · exact ⟨Try.f9, Try.func9, by kernel_rfl, by kernel_rfl⟩

theorem h1 : H1 tab := ⟨rfl, ⟨rfl⟩, ⟨rfl⟩⟩

theorem own : ownKnob Try.prog.godebug = none := by kernel_rfl
theorem laidOut : laidOutB Try.prog = true := by kernel_rfl
theorem plain : plainB Try.prog [9] = true := by kernel_rfl

set_option maxRecDepth 100000 in
/-- a string's cell -/
theorem string_cells {n : Nat} {cs : List D} (h : HasT Try.prog n 9 cs) : ∃ s : List UInt8, cs = [.str s] := by
  cases n with
  | zero => exact h.elim
  | succ n =>
    simp only [HasT, Try.underlying9] at h
    obtain ⟨s, rfl, _⟩ := h
    exact ⟨s, rfl⟩

set_option maxRecDepth 100000 in
theorem lifted (os : Os) (started : os.Started) (H : Type) (enc : TypeId × Value → H) :
    ReturnsInHanded {} Try.checked os 3 .any (Rows.fnExactCrcSpec.pre6 enc Try.prog Try.f3 Rows.fnExactCrcRow.domain false) (Rows.fnExactCrcSpec.post enc Try.prog Try.f3 false true false false) := by
  refine returnsInHanded_of_change (C := Try.checked) own started (by kernel_rfl) Try.func3
    (ChangeSpec.witness6 (enc := enc) (C := Try.checked) false ⟨#[], #[.string ⟨#[]⟩], []⟩ 8 (by kernel_rfl) (by kernel_rfl) (by kernel_rfl) (by kernel_rfl)) ?_
  intro W base args ds gs before hval0 hW hcnd _
  have hW' := hW
  obtain ⟨p, q, hA, hV, rfl, hfz, hnd⟩ := hW
  obtain ⟨rfl, rfl⟩ := trodVars_none hV
  rw [Try.params3] at hA
  obtain ⟨v0, d0, rfl, rfl, h0⟩ := trodAll_one hA
  obtain ⟨fuel, hf⟩ := h0
  obtain ⟨cs, c1, c2, _⟩ := enter (num := numOf pairs) (S := memOf W) plain (fun _ _ _ h => h) fuel 9 _ _ (by simp) hf
  obtain ⟨s, rfl⟩ := string_cells c1
  have hv : ∀ a, v0 ≠ .agg a := by
    rintro a rfl
    have hok := hval0 0 9 _ (by rw [Try.params3]; rfl) rfl
    have hu : Try.checked.prog.underlying 9 = some .string := Try.underlying9
    simp [Value.okWide, hu, Cell.okWide, Cell.ok] at hok
  have hr : RepL (numOf pairs) (memOf W) noInf [.str s] (#[v0] : Array Value).toList :=
    repL_cons.2 ⟨v0, [], rfl, rep_one_of_cells c2 trivial hv, by simp⟩
  refine (law_calls hN (Checked.mixed Try.checked) tab_ok hr (fnExactCrc_ev h1 s)).mono fun e W' ⟨he, hb⟩ => ?_
  subst he
  refine ⟨_, rfl, law_post laidOut ?_ rfl hW' rfl rfl Try.underlying4 hb⟩
  intro t ht
  rw [Try.params3] at ht
  simp at ht
  subst ht
  exact ⟨by kernel_rfl, of_decide_eq_true (by kernel_rfl)⟩

theorem proved : Rows.FnExactCrcSaid :=
  OpenClaim.holds_of_wide 3 Try.f3 rfl rfl rfl rfl rfl rfl rfl ⟨rfl, rfl, rfl, rfl, rfl⟩ rfl rfl rfl rfl rfl (by kernel_rfl) Try.func3 (by kernel_rfl)
    (of_decide_eq_true (by kernel_rfl)) (by unfold Func.isWrapper; first | (rw [if_pos (by decide +kernel)]; kernel_rfl) | (rw [if_neg (by decide +kernel)]; exact ⟨rfl, rfl⟩))
    (fun os started H enc _ => lifted os started H enc)
end Go.Proofs.Ytimekmohoobndaa.CrcLaw
