/- From an equation of the machine to the row of a law. -/
import Derived.Test.YtpidjgefokgplaaSound4
import Derived.Test.YtpidjgefokgplaaLim
import Derived.Test.YtpidjgefokgplaaEnter
import Derived.ProofKit
set_option linter.unnecessarySimpa false
set_option linter.unusedVariables false
set_option linter.unusedSimpArgs false
set_option linter.unusedSectionVars false
namespace Go.DM
open Go Go.RowKit Go.ChangeShapes

section
variable {num : Cfg} {P : Program} {Γ : Tab}

/-- what the machine says of a law, the model does; nothing that was there has turned -/
theorem law_calls (hm : P.follows .mixedOrders = true) (hΓ : TabOk num P Γ) {g : Nat} {ds : List D} {vs : Array Value} {b : Bool} {w : World}
    (hG : num.G = memOf w) (hr : RepL num (memOf w) noInf ds vs.toList) (h : EvF Γ g ds [] = some (.bool b, [])) : Calls P (num g) vs w fun e w' => e = .returned (.bool b) ∧ Below w.heap.size w w' := by
  obtain ⟨n, hn⟩ := EvF_some h
  obtain ⟨_, hc⟩ := evF_sound hm hΓ n g ds [] _ _ hn
  have := hc (memOf w) noInf w vs.toList (inv_none num w (by rw [hG]; exact SLe.refl _)) hr
  rw [Array.toArray_toList] at this
  refine Calls.mono this ?_
  rintro e w' ⟨v, S', I', rfl, hv, hp⟩
  rw [rep_bool] at hv
  subst hv
  refine ⟨rfl, hp.os, hp.tape, hp.output, hp.size, fun k hk => hp.frame k hk ?_⟩
  rintro ⟨l, B, li, e, _⟩
  simp at e

theorem trodAll_below {H : Type} {enc : TypeId × Value → H} (hl : laidOutB P = true) {W W' : World} (hb : Below W.heap.size W W') : ∀ {ts : List TypeId} {vs : List Value} {ds : List (DataW H)} {ps : List MemPlace}, (∀ t ∈ ts, P.readableRec t = true ∧ t < P.types.size) →
    DataW.TrodAll enc P W 0 (fun _ => true) true ts vs ds ps → (∀ x ∈ ps, x.block < W.heap.size) → DataW.TrodAll enc P W' 0 (fun b => decide (b < W.heap.size)) true ts vs ds ps
  | [], [], [], ps, _, h, _ => h
  | t :: ts, v :: vs, d :: ds, ps, ht, h, hlt => by
    obtain ⟨p, q, h1, h2, rfl⟩ := h
    refine ⟨p, q, Below.trod hl (ht t (by simp)).1 (ht t (by simp)).2 h1 hb (fun x hx => hlt x (by simp [hx])), trodAll_below hl hb (fun t' h' => ht t' (by simp [h'])) h2 (fun x hx => hlt x (by simp [hx])), rfl⟩
  | [], [], _ :: _, _, _, h, _ => h.elim
  | [], _ :: _, _, _, _, h, _ => h.elim
  | _ :: _, [], _, _, _, h, _ => h.elim
  | _ :: _, _ :: _, [], _, _, h, _ => h.elim

theorem shut_true {H : Type} {enc : TypeId × Value → H} {W : World} {base : Nat} {sp : Nat → Bool} {held : Bool} {T : TypeId} (hT : P.underlying T = some .bool) (b : Bool) : DataW.Trod enc P W base sp held T (.bool b) (.lit (.bool b)) [] :=
  ⟨1, by simp [DataW.trod, Value.cells, hT]⟩

/-- the row's word on a law that has answered true and left all as it was -/
theorem law_post {H : Type} {enc : TypeId × Value → H} {f : Func} {s : ChangeSpec} {apart : Bool} {W W' : World} {args : Array Value} {ds gs : List (DataW H)} {before : List MemPlace} {T : TypeId}
    (hl : laidOutB P = true) (ht : ∀ t ∈ f.params.toList, P.readableRec t = true ∧ t < P.types.size) (hvars : s.vars = []) (hW : DataW.Whole enc P f.params.toList s.vars apart W args.toList ds gs before)
    (hfn : s.fn H (ds ++ gs) = { results := [.lit (.bool true)], args := ds }) (hrt : f.resultTypes = #[T]) (hT : P.underlying T = some .bool) (hb : Below W.heap.size W W') :
    s.post enc P f apart true false false W args (.bool true) W' := by
  have hlt : ∀ x ∈ before, x.block < W.heap.size := fun x hx => by simpa using hW.lt x hx
  have hW0 := hW
  obtain ⟨p, q, hA, hV, rfl, _, _⟩ := hW
  rw [hvars] at hV
  obtain ⟨rfl, rfl⟩ := trodVars_none hV
  refine ⟨ds, [], p ++ [], [], p, [], hW0, ?_, ?_, ?_, Below.frame hb _, fun h => by cases h⟩
  · rw [hfn, hrt]
    exact trodAll_mk1 (shut_true hT true)
  · rw [hfn]
    exact trodAll_below hl hb ht hA (fun x hx => hlt x (by simp [hx]))
  · rw [hfn, hvars]
    exact rfl
end
end Go.DM
