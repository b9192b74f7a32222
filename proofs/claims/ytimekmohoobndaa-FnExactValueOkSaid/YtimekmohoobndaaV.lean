/- For every value, FnExactValueOk answers true and leaves its argument as it was: the program's ValueOk answers as the reference's. -/
import Derived.Test.YtimekmohoobndaaRows
import Derived.Test.YtimekmohoobndaaSeat
import Derived.Test.YtimekmohoobndaaT2
import Derived.ProofKit
set_option linter.unnecessarySimpa false
set_option linter.unusedVariables false
set_option linter.unusedSimpArgs false
set_option linter.unusedSectionVars false
namespace Go.Proofs.Ytimekmohoobndaa.ValueOkLaw
open Go Go.DM Go.ChangeShapes Go.WideShapes Go.ChangeAt Go.RowKit

def pairs : Pairs := [(4, 4), (11, 6), (12, 8), (13, 7), (14, 5), (30, 28), (31, 29)]
def nm : Names := { gid := gidOf pairs, raw := fun _ => false }
theorem hN : ∀ f g, nm.gid f = some g → numOf pairs g = f := gid_num (ps := pairs) (by decide)
def tab : Tab := tabOf [(4, .code f4), (5, .code f5), (6, .code f6), (7, .code f7), (8, .code f8), (28, .code f28), (29, .code f29)]

theorem tab_ok : TabOk (numOf pairs) Try.prog nm tab := by
  refine tabOf_ok ?_
  intro g d hm
  simp only [List.mem_cons, List.not_mem_nil, or_false, Prod.mk.injEq] at hm
  rcases hm with ⟨rfl, rfl⟩ | ⟨rfl, rfl⟩ | ⟨rfl, rfl⟩ | ⟨rfl, rfl⟩ | ⟨rfl, rfl⟩ | ⟨rfl, rfl⟩ | ⟨rfl, rfl⟩
  · exact ⟨Try.f4, Try.func4, by kernel_rfl, by kernel_rfl⟩
  · exact ⟨Try.f14, Try.func14, by kernel_rfl, by kernel_rfl⟩
  · exact ⟨Try.f11, Try.func11, by kernel_rfl, by kernel_rfl⟩
  · exact ⟨Try.f13, Try.func13, by kernel_rfl, by kernel_rfl⟩
  · exact ⟨Try.f12, Try.func12, by kernel_rfl, by kernel_rfl⟩
  · exact ⟨Try.f30, Try.func30, by kernel_rfl, by kernel_rfl⟩
  · exact ⟨Try.f31, Try.func31, by kernel_rfl, by kernel_rfl⟩

theorem h4 : H4 tab := ⟨rfl, ⟨rfl, ⟨rfl⟩⟩, ⟨rfl⟩, ⟨rfl⟩, ⟨rfl, ⟨rfl⟩⟩⟩

theorem own : ownKnob Try.prog.godebug = none := by kernel_rfl
theorem laidOut : laidOutB Try.prog = true := by kernel_rfl
theorem plain : plainB Try.prog [25, 3, 9] = true := by kernel_rfl

set_option maxRecDepth 100000 in
/-- a Value's cells -/
theorem value_cells {n : Nat} {cs : List D} (h : HasT Try.prog n 25 cs) : ∃ (k m : Int) (s : List UInt8), cs = [.int .i64 k, .int .i64 m, .str s] := by
  cases n with
  | zero => exact h.elim
  | succ n =>
    simp only [HasT, Try.underlying25] at h
    obtain ⟨ps, rfl, hl, hx⟩ := h
    obtain ⟨p0, e0, q0⟩ := hx 0 _ rfl
    obtain ⟨p1, e1, q1⟩ := hx 1 _ rfl
    obtain ⟨p2, e2, q2⟩ := hx 2 _ rfl
    cases n with
    | zero => exact q0.elim
    | succ n =>
      have q0 : HasT Try.prog (n + 1) 3 p0 := q0
      have q1 : HasT Try.prog (n + 1) 3 p1 := q1
      have q2 : HasT Try.prog (n + 1) 9 p2 := q2
      simp only [HasT, Try.underlying3] at q0 q1
      simp only [HasT, Try.underlying9] at q2
      obtain ⟨k, rfl, _⟩ := q0
      obtain ⟨m, rfl, _⟩ := q1
      obtain ⟨s, rfl, _⟩ := q2
      match ps, hl, e0, e1, e2 with
      | [a, b, c], _, e0, e1, e2 =>
        simp at e0 e1 e2
        subst e0; subst e1; subst e2
        exact ⟨k, m, s, rfl⟩

set_option maxRecDepth 100000 in
theorem lifted (os : Os) (started : os.Started) (H : Type) (enc : TypeId × Value → H) :
    ReturnsInHanded {} Try.checked os 4 .any (Rows.fnExactValueOkSpec.pre6 enc Try.prog Try.f4 Rows.fnExactValueOkRow.domain false) (Rows.fnExactValueOkSpec.post enc Try.prog Try.f4 false true false false) := by
  refine returnsInHanded_of_change (C := Try.checked) own started (by kernel_rfl) Try.func4
    (ChangeSpec.witness6 (enc := enc) (C := Try.checked) false ⟨#[], #[.agg #[.int .i64 0, .int .i64 0, .string ⟨#[]⟩]], []⟩ 8 (by kernel_rfl) (by kernel_rfl) (by kernel_rfl) (by kernel_rfl)) ?_
  intro W base args ds gs before hval0 hW hcnd _
  have hW' := hW
  obtain ⟨p, q, hA, hV, rfl, hfz, hnd⟩ := hW
  obtain ⟨rfl, rfl⟩ := trodVars_none hV
  rw [Try.params4] at hA
  obtain ⟨v0, d0, rfl, rfl, h0⟩ := trodAll_one hA
  obtain ⟨fuel, hf⟩ := h0
  obtain ⟨cs, c1, c2, _⟩ := enter (num := numOf pairs) (S := memOf W) plain (fun _ _ _ h => h) fuel 25 _ _ (by simp) hf
  obtain ⟨k, m, s, rfl⟩ := value_cells c1
  have hr : RepL (numOf pairs) (memOf W) noInf [.agg [.int .i64 k, .int .i64 m, .str s]] (#[v0] : Array Value).toList :=
    repL_cons.2 ⟨v0, [], rfl, rep_agg_of_cells c2 (by simp), by simp⟩
  refine (law_calls hN (Checked.mixed Try.checked) tab_ok hr (fnExactValueOk_ev h4 k m s)).mono fun e W' ⟨he, hb⟩ => ?_
  subst he
  refine ⟨_, rfl, law_post laidOut ?_ rfl hW' rfl rfl Try.underlying4 hb⟩
  intro t ht
  rw [Try.params4] at ht
  simp at ht
  subst ht
  exact ⟨by kernel_rfl, of_decide_eq_true (by kernel_rfl)⟩

theorem proved : Rows.FnExactValueOkSaid :=
  OpenClaim.holds_of_wide 4 Try.f4 rfl rfl rfl rfl rfl rfl rfl ⟨rfl, rfl, rfl, rfl, rfl⟩ rfl rfl rfl rfl rfl (by kernel_rfl) Try.func4 (by kernel_rfl)
    (of_decide_eq_true (by kernel_rfl)) (by unfold Func.isWrapper; first | (rw [if_pos (by decide +kernel)]; kernel_rfl) | (rw [if_neg (by decide +kernel)]; exact ⟨rfl, rfl⟩))
    (fun os started H enc _ => lifted os started H enc)
end Go.Proofs.Ytimekmohoobndaa.ValueOkLaw
