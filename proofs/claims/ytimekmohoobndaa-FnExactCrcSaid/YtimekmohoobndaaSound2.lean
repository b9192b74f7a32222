/- Calls, and one instruction. -/
import Derived.Test.YtimekmohoobndaaSound1
import Derived.Test.YtimekmohoobndaaCallIn
set_option linter.unnecessarySimpa false
set_option linter.unusedVariables false
set_option linter.unusedSimpArgs false
set_option linter.unusedSectionVars false
namespace Go.DM
open Go

section
variable {num : Nat → FuncId} {S S' : Mem} {I I' : Inf} {σ σ' : Store} {w w' : World} {P : Program} {N : Names}

theorem run_callFunc {f : FuncId} {fn : Func} (hf : P.funcs[f]? = some fn) (hb : fn.body.isNone = false) (hn : (fn.name == "runtime.NumGoroutine") = false) (args : Array Value) (w : World) :
    (callFunc f args).run P w = .ok (.enter f args) w := by
  have hb' : ¬ fn.body = none := by
    intro e
    rw [e] at hb
    cases hb
  have hn' : ¬ fn.name = "runtime.NumGoroutine" := by simpa using hn
  unfold callFunc
  simp [hf, hb', hn']

theorem RT.put {ρ : Env} {a : Act} {r : D} {v : Value} {dst : Option Nat} (h : RT num S I ρ a.tmps) (hd : Rep num S I r v) (ht : dstOk a.tmps.size dst = true) : RT num S I (DM.put ρ dst r) (a.put dst v).tmps := by
  cases dst with
  | none => exact h
  | some t =>
    simp [dstOk] at ht
    intro u
    by_cases hu : t = u
    · subst hu
      simp [DM.put, DM.get, Act.put, ht]
      exact hd
    · have := h u
      simp only [DM.put, DM.get, if_neg hu]
      have e : (a.put (some t) v).tmps.getD u undef = a.tmps.getD u undef := by
        simp [Act.put, Array.getElem?_setIfInBounds_ne hu]
      rw [e]
      exact this

theorem put_size {a : Act} {dst : Option Nat} {v : Value} : (a.put dst v).tmps.size = a.tmps.size := by
  cases dst <;> simp [Act.put]
theorem put_defers {a : Act} {dst : Option Nat} {v : Value} : (a.put dst v).defers = a.defers := by
  cases dst <;> rfl

section
variable (hN : ∀ f g, N.gid f = some g → num g = f) {call : CallD} (hg : Good num P call) {ρ ρ' : Env} {a : Act} {o : Oper} {nt : Nat} {K : Act → World → Prop} {Q : Exit → Act → World → Prop}
include hN hg

theorem call_sound {f : FuncId} {g : Nat} {ds : List D} {vs : Array Value} {r : D} {σ1 : Store} {S1 : Mem} (hrun : ∀ fn, P.funcs[num g]? = some fn → fn.body.isNone = false → (fn.name == "runtime.NumGoroutine") = false → (execOp a.eval o).run P w = .ok (.enter (num g) vs) w)
    (hp : Post num S I σ w S1 I σ1 w) (hd : RepL num S1 I ds vs.toList) (hr : RT num S I ρ a.tmps) (hdst : dstOk a.tmps.size o.dst = true) (h : callIn call g ds σ1 = some (r, σ'))
    (hK : ∀ a' w' S' I', RT num S' I' (DM.put ρ o.dst r) a'.tmps → Post num S I σ w S' I' σ' w' → a'.defers = a.defers → a'.tmps.size = a.tmps.size → K a' w') : o.wp P a w K Q := by
  obtain ⟨⟨fn, h1, h2, h3⟩, h4⟩ := hg.inn h
  unfold Oper.wp
  rw [hrun fn h1 h2 h3, Oper.upon_enter]
  refine Calls.mono (h4 S1 I w vs.toList hp.inv hd) ?_
  rintro e w' ⟨v, S', I', rfl, hv, hp'⟩
  have hp2 := hp.trans hp'
  exact hK _ w' S' I' (RT.put (RT.mono hr hp2.s hp2.i) hv hdst) hp2 put_defers put_size

theorem oper_sound {d : DOp} {r : D} (hv : Inv num S I σ w) (hr : RT num S I ρ a.tmps) (hc : compileOp P N o = some d) (hdst : dstOk a.tmps.size o.dst = true) (h : d.ev call ρ σ = some (r, σ'))
    (hK : ∀ a' w' S' I', RT num S' I' (DM.put ρ o.dst r) a'.tmps → Post num S I σ w S' I' σ' w' → a'.defers = a.defers → a'.tmps.size = a.tmps.size → K a' w') : o.wp P a w K Q := by
  cases hic : d.isCall with
  | false =>
    obtain ⟨v, w', S', I', h1, h2, h3⟩ := op_sound hN hv hr hc hic h
    have hRT := RT.put (RT.mono hr h3.s h3.i) h2 hdst
    unfold Oper.wp
    rcases h1 with h1 | ⟨h1, rfl⟩
    · rw [h1, Oper.upon_value]
      exact hK _ w' S' I' hRT h3 put_defers put_size
    · rw [h1, Oper.upon_skip]
      exact hK _ w' S' I' hRT h3 put_defers put_size
  | true =>
    have hcall : ∃ c, o.op = .call c := by
      cases hop : o.op <;> simp only [compileOp, hop] at hc <;> (try (cases hc; done)) <;> (try exact ⟨_, rfl⟩) <;>
        exfalso <;> (repeat (first | (cases hc; cases hic) | contradiction | (simp only [Option.map_eq_some_iff] at hc; obtain ⟨_, _, rfl⟩ := hc; cases hic) | split at hc))
    obtain ⟨⟨callee, args, tys⟩, hop⟩ := hcall
    simp only [compileOp, hop] at hc
    cases callee with
    | invoke x m => simp at hc
    | builtin b =>
      exfalso
      cases b <;> simp only [] at hc <;> (try (cases hc; done)) <;>
        (repeat (first | (cases hc; cases hic) | contradiction | split at hc))
    | value x =>
      have arg : ∀ {as : List Opd} {ds : List D} {σ1 : Store}, mapO (opd N) args.toList = some as → mapS (frz 8) σ (as.map (Opd.ev ρ)) = some (ds, σ1) →
          ∃ S1, Post num S I σ w S1 I σ1 w ∧ RepL num S1 I ds (args.map a.eval).toList := by
        intro as ds σ1 h1 h2
        obtain ⟨S1, p1, q1, _⟩ := mapS_sound (frz_sound 8) h2 hv (opds_sound hN h1 hr)
        exact ⟨S1, p1, by simpa using q1⟩
      have val : ∀ x' as, opd N x = some x' → mapO (opd N) args.toList = some as → d = .callv x' as → o.wp P a w K Q := by
        intro x' as h1 h2 hd
        subst hd
        simp only [DOp.ev] at h
        split at h
        · rename_i g caps hf
          have k1 := opd_sound hN h1 hr
          rw [hf, rep_fn] at k1
          obtain ⟨cv, e1, e2⟩ := k1
          split at h
          · rename_i ds σ1 hm
            obtain ⟨S1, p1, q1⟩ := arg h2 hm
            refine call_sound (f := num g) hN hg (vs := args.map a.eval ++ cv.toArray) ?_ p1 ?_ hr hdst h hK
            · intro fn f1 f2 f3
              simp only [execOp, hop, resolve, e1, Deferred.ofValue, Sem.run_bind, Sem.run_pure, Result.andThen_ok, invoke]
              rw [run_callFunc f1 f2 f3]
              simp
            · rw [Array.toList_append]
              exact repL_append.2 ⟨_, _, rfl, q1, by simpa using RepL.mono p1.s p1.i _ _ e2⟩
          · cases h
        · cases h
      cases x with
      | func f =>
        simp only [] at hc
        split at hc
        · rename_i g as fn h1 h2 h3
          split at hc
          · rename_i h4
            cases hc
            have hnum := hN _ _ h1
            simp only [DOp.ev] at h
            have run : ∀ fn, P.funcs[num g]? = some fn → fn.body.isNone = false → (fn.name == "runtime.NumGoroutine") = false → (execOp a.eval o).run P w = .ok (.enter (num g) (args.map a.eval)) w := by
              intro fn f1 f2 f3
              have ef : a.eval (.func f) = .func (.func f) #[] #[] := rfl
              simp only [execOp, hop, resolve, ef, Deferred.ofValue, Sem.run_bind, Sem.run_pure, Result.andThen_ok, invoke]
              rw [← hnum, run_callFunc f1 f2 f3]
              simp
            split at h
            · exact call_sound (f := num g) hN hg run (Post.refl hv) (by simpa using opds_sound hN h2 hr) hr hdst h hK
            · split at h
              · rename_i ds σ1 hm
                obtain ⟨S1, p1, q1⟩ := arg h2 hm
                exact call_sound (f := num g) hN hg run p1 q1 hr hdst h hK
              · cases h
          · cases hc
        · cases hc
      | tmp t =>
        simp only [] at hc
        split at hc
        · rename_i x' as h1 h2
          cases hc
          exact val _ _ h1 h2 rfl
        · cases hc
      | const v =>
        simp only [] at hc
        split at hc
        · rename_i x' as h1 h2
          cases hc
          exact val _ _ h1 h2 rfl
        · cases hc
      | global v =>
        simp only [] at hc
        split at hc
        · rename_i x' as h1 h2
          cases hc
          exact val _ _ h1 h2 rfl
        · cases hc

theorem di_sound {ops : Array Oper} {di : DI} (hc : compileI P N nt ops o = some di) (h : di.ev call ρ σ = some (ρ', σ')) (hv : Inv num S I σ w) (hr : RT num S I ρ a.tmps) (hs : a.tmps.size = nt)
    (hK : ∀ a' w' S' I', RT num S' I' ρ' a'.tmps → Post num S I σ w S' I' σ' w' → a'.defers = a.defers → a'.tmps.size = nt → K a' w') :
    if Region.wanted o (yielded ops a.tmps) then o.wp P a w K Q ∨ (o.asks P a w ∧ LetsOut Q) else K (a.put o.dst undef) w := by
  subst hs
  unfold compileI at hc
  split at hc
  · rename_i hdst
    split at hc
    · rename_i d hd
      have main : ∀ r, d.ev call ρ σ = some (r, σ') → DM.put ρ o.dst r = ρ' → o.wp P a w K Q := by
        rintro r h1 rfl
        exact oper_sound hN hg hv hr hd hdst h1 hK
      split at hc
      · rename_i hgd
        cases hc
        simp only [DI.ev] at h
        split at h
        · rename_i r σ2 h1
          cases h
          rw [if_pos (by simp [Region.wanted, hgd])]
          exact .inl (main r h1 rfl)
        · cases h
      · rename_i j b hgd
        split at hc
        · rename_i t ht
          split at hc
          · rename_i hlt
            cases hc
            simp only [DI.ev] at h
            split at h
            · rename_i bb hbb
              have k1 := hr t
              rw [hbb, rep_bool] at k1
              have k2 : a.tmps[t]? = some (.bool bb) := by
                rw [Array.getElem?_eq_getElem hlt]
                rw [Array.getD_eq_getD_getElem?, Array.getElem?_eq_getElem hlt] at k1
                simpa using k1
              have k3 : yielded ops a.tmps j = some bb := by
                unfold yielded
                rw [ht]
                simp [k2]
              have k4 : Region.wanted o (yielded ops a.tmps) = decide (bb = b) := by
                simp only [Region.wanted, hgd, k3]
                cases bb <;> cases b <;> rfl
              rw [k4]
              split at h
              · rename_i hbe
                subst hbe
                split at h
                · rename_i r σ2 h1
                  cases h
                  rw [if_pos (by simp)]
                  exact .inl (main r h1 rfl)
                · cases h
              · rename_i hbe
                cases h
                rw [if_neg (by simpa using hbe)]
                exact hK _ w S I (RT.put hr (by simp) hdst) (Post.refl hv) put_defers put_size
            · cases h
          · cases hc
        · cases hc
    · cases hc
  · cases hc
end
end
end Go.DM
