/- Calls, and one instruction. -/
import Derived.Test.YtpidjgefokgplaaSound1
import Derived.Test.YtpidjgefokgplaaCallIn
set_option linter.unnecessarySimpa false
set_option linter.unusedVariables false
set_option linter.unusedSimpArgs false
set_option linter.unusedSectionVars false
namespace Go.DM
open Go

section
variable {num : Cfg} {S S' : Mem} {I I' : Inf} {σ σ' : Store} {w w' : World} {P : Program} {N : Names}

theorem run_callFunc {f : FuncId} {fn : Func} (hf : P.funcs[f]? = some fn) (hb : fn.body.isNone = false) (hn : (fn.name == "runtime.NumGoroutine") = false) (args : Array Value) (w : World) :
    (callFunc f args).run P w = .ok (.enter f args) w := by
  have hb' : ¬ fn.body = none := by
    intro e
    rw [e] at hb
    cases hb
  have hn' : ¬ fn.name = "runtime.NumGoroutine" := by simpa using hn
  unfold callFunc
  simp [hf, hb', hn']

theorem RT.put {ρ : Env} {a : Act} {r : D} {v : Value} {dst : Option Nat} (h : RT num S I ρ a.tmps) (hd : Rep num S I r v) (ht : dstOk a.tmps.size dst = true) : RT num S I (DM.put ρ dst r) (a.put dst v).tmps := by
  cases dst with
  | none => exact h
  | some t =>
    simp [dstOk] at ht
    intro u
    by_cases hu : t = u
    · subst hu
      simp [DM.put, DM.get, Act.put, ht]
      exact hd
    · have := h u
      simp only [DM.put, DM.get, if_neg hu]
      have e : (a.put (some t) v).tmps.getD u undef = a.tmps.getD u undef := by
        simp [Act.put, Array.getElem?_setIfInBounds_ne hu]
      rw [e]
      exact this

theorem put_size {a : Act} {dst : Option Nat} {v : Value} : (a.put dst v).tmps.size = a.tmps.size := by
  cases dst <;> simp [Act.put]
theorem put_defers {a : Act} {dst : Option Nat} {v : Value} : (a.put dst v).defers = a.defers := by
  cases dst <;> rfl

section
variable (hN : ∀ f g, N.gid f = some g → num g = f) {call : CallD} (hg : Good num P call) {ρ ρ' : Env} {a : Act} {o : Oper} {nt : Nat} {K : Act → World → Prop} {Q : Exit → Act → World → Prop}
include hN hg

theorem call_sound {g : Nat} {ds : List D} {vs : Array Value} {r : D} {σ1 : Store} {S1 : Mem} (hrun : ∀ fn, P.funcs[num g]? = some fn → fn.body.isNone = false → (fn.name == "runtime.NumGoroutine") = false → (execOp a.eval o).run P w = .ok (.enter (num g) vs) w)
    (hp : Post num S I σ w S1 I σ1 w) (hd : RepL num S1 I ds vs.toList) (hr : RT num S I ρ a.tmps) (hdst : dstOk a.tmps.size o.dst = true) (h : CallOk num P g ds σ1 r σ')
    (hK : ∀ v w' S' I', RT num S' I' (DM.put ρ o.dst r) (a.put o.dst v).tmps → Post num S I σ w S' I' σ' w' → K (a.put o.dst v) w') : o.wp P a w K Q := by
  obtain ⟨⟨fn, h1, h2, h3⟩, h4⟩ := h
  unfold Oper.wp
  rw [hrun fn h1 h2 h3, Oper.upon_enter]
  refine Calls.mono (h4 S1 I w vs.toList hp.inv hd) ?_
  rintro e w' ⟨v, S', I', rfl, hv, hp'⟩
  have hp2 := hp.trans hp'
  exact hK _ w' S' I' (RT.put (RT.mono hr hp2.s hp2.i) hv hdst) hp2

omit hN hg in
theorem compile_box {x' : Opd} (hc : compileOp P N o = some (.box x')) : ∃ T x, o.op = .box T x ∧ opd N x = some x' := by
  cases hop : o.op <;> simp only [compileOp, hop] at hc <;> (try (cases hc; done))
  case box T x =>
    simp only [Option.map_eq_some_iff] at hc
    obtain ⟨y, h1, h2⟩ := hc
    cases h2
    exact ⟨T, x, rfl, h1⟩
  all_goals
    exfalso
    repeat' (first | (cases hc; done) | contradiction | (simp only [Option.map_eq_some_iff] at hc; obtain ⟨_, _, hc⟩ := hc; cases hc; done) | split at hc)

omit hN hg in
theorem compile_call {d : DOp} (hc : compileOp P N o = some d) (hic : d.isCall = true) : ∃ c, o.op = .call c := by
  cases hop : o.op <;> simp only [compileOp, hop] at hc <;> (try (cases hc; done)) <;> (try exact ⟨_, rfl⟩) <;>
    exfalso <;> (repeat (first | (cases hc; cases hic) | contradiction | (simp only [Option.map_eq_some_iff] at hc; obtain ⟨_, _, rfl⟩ := hc; cases hic) | split at hc))

omit hN hg in
theorem bare_isCall {d : DOp} : d.bare.isCall = d.isCall := by cases d <;> rfl

/-- the arguments of a call, and what it says of them, by how they are given -/
theorem args_sound {args : Array Operand} {as : List Opd} {g : Nat} {caps : List D} {cv : List Value} {m : CM} {r : D} (hv : Inv num S I σ w) (hr : RT num S I ρ a.tmps) (hc : mapO (opd N) args.toList = some as) (hcap : RepL num S I caps cv)
    (h : callM call m g (as.map (Opd.ev ρ)) caps σ = some (r, σ')) :
    ∃ ds S1 σ1, Post num S I σ w S1 I σ1 w ∧ RepL num S1 I ds ((args.map a.eval).toList ++ cv) ∧ CallOk num P g ds σ1 r σ' := by
  have h0 : RepL num S I (as.map (Opd.ev ρ)) (args.map a.eval).toList := by simpa using opds_sound hN hc hr
  have h00 : RepL num S I (as.map (Opd.ev ρ) ++ caps) ((args.map a.eval).toList ++ cv) := repL_append.2 ⟨_, _, rfl, h0, hcap⟩
  unfold callM at h
  cases m with
  | raw => exact ⟨_, S, σ, Post.refl hv, h00, hg.inn h⟩
  | all => exact ⟨_, S, σ, Post.refl hv, h00, hg _ _ _ _ _ h⟩
  | bor =>
    simp only [] at h
    split at h
    · rename_i ds hm
      exact ⟨_, S, σ, Post.refl hv, h00, hg.bor hm h⟩
    · cases h
  | frz =>
    simp only [] at h
    split at h
    · rename_i ds σ1 hm
      obtain ⟨S1, p1, q1, _⟩ := mapS_sound (frz_sound 8) hm hv h0
      exact ⟨_, S1, σ1, p1, repL_append.2 ⟨_, _, rfl, q1, RepL.mono p1.s p1.i _ _ hcap⟩, hg.inn h⟩
    · cases h

theorem oper_sound {d : DOp} {r : D} (hv : Inv num S I σ w) (hr : RT num S I ρ a.tmps) (hc : compileOp P N o = some d.bare) (hnp : d.pends = false) (hdst : dstOk a.tmps.size o.dst = true) (h : d.ev call ρ σ = some (r, σ'))
    (hK : ∀ v w' S' I', RT num S' I' (DM.put ρ o.dst r) (a.put o.dst v).tmps → Post num S I σ w S' I' σ' w' → K (a.put o.dst v) w') : o.wp P a w K Q := by
  have plain : OpOk num P o a w S I σ r σ' → o.wp P a w K Q := by
    rintro ⟨v, w', S', I', h1, h2, h3⟩
    have hRT := RT.put (RT.mono hr h3.s h3.i) h2 hdst
    unfold Oper.wp
    rcases h1 with h1 | ⟨h1, rfl⟩
    · rw [h1, Oper.upon_value]
      exact hK _ w' S' I' hRT h3
    · rw [h1, Oper.upon_skip]
      exact hK _ w' S' I' hRT h3
  cases hic : d.isCall with
  | false =>
    by_cases hbx : ∃ x, d = .boxf x
    · obtain ⟨x', rfl⟩ := hbx
      obtain ⟨T, x, hop, hx⟩ := compile_box hc
      simp only [DOp.ev] at h
      split at h
      · rename_i d1 σ1 hd
        split at h
        · rename_i hk
          cases h
          obtain ⟨S1, p1, q1, al, _⟩ := frz_sound 8 hd hv (opd_sound hN hx hr)
          have q2 := Rep.noref _ _ hk.1 q1
          obtain ⟨S2, p2, q3⟩ := post_fbox (T := T) p1.inv (rep_cells q2 hk.2)
          refine plain ⟨.pointer (some ⟨w.heap.size, 0, none⟩), _, S2, I, .inl ?_, rep_fptr.2 ⟨w.heap.size, 0, by simp, by rw [repD_cells]; exact q3⟩, p1.trans p2⟩
          simp [execOp, hop, Instr.box, newVar, newRow_run]
        · cases h
      · cases h
    · have e : d.bare = d := by
        cases d <;> first | (exact absurd ⟨_, rfl⟩ hbx) | (cases hic; done) | (cases hnp; done) | rfl
      rw [e] at hc
      exact plain (op_sound hN hv hr hc hic h)
  | true =>
    obtain ⟨⟨callee, args, tys⟩, hop⟩ := compile_call hc (by rw [bare_isCall]; exact hic)
    simp only [compileOp, hop] at hc
    cases callee with
    | invoke x m => simp at hc
    | builtin b =>
      exfalso
      rw [← bare_isCall] at hic
      cases b <;> simp only [] at hc <;> (try (cases hc; done)) <;>
        (repeat' (first | contradiction | (cases hc; done) | (injection hc with hc; rw [← hc] at hic; cases hic; done) | split at hc))
    | value x =>
      have val : ∀ x' as, opd N x = some x' → mapO (opd N) args.toList = some as → d.bare = .callv x' .frz as → o.wp P a w K Q := by
        intro x' as h1 h2 hd
        cases d <;> simp [DOp.bare] at hd
        rename_i f m as'
        obtain ⟨rfl, rfl⟩ := hd
        simp only [DOp.ev] at h
        split at h
        · rename_i g caps hf
          have k1 := opd_sound hN h1 hr
          rw [hf, rep_fn] at k1
          obtain ⟨cv, e1, e2⟩ := k1
          obtain ⟨ds, S1, σ1, p1, q1, ok⟩ := args_sound hN hg hv hr h2 e2 h
          refine call_sound hN hg (vs := args.map a.eval ++ cv.toArray) ?_ p1 (by simpa using q1) hr hdst ok hK
          intro fn f1 f2 f3
          simp only [execOp, hop, resolve, e1, Deferred.ofValue, Sem.run_bind, Sem.run_pure, Result.andThen_ok, invoke]
          rw [run_callFunc f1 f2 f3]
          simp
        · cases h
      cases x with
      | func f =>
        simp only [] at hc
        split at hc
        · rename_i g as fn h1 h2 h3
          split at hc
          · rename_i h4
            have hnum := hN _ _ h1
            simp only [Option.some.injEq] at hc
            cases d <;> simp [DOp.bare] at hc
            rename_i g' m as'
            obtain ⟨rfl, rfl⟩ := hc
            have run : ∀ fn, P.funcs[num g]? = some fn → fn.body.isNone = false → (fn.name == "runtime.NumGoroutine") = false → (execOp a.eval o).run P w = .ok (.enter (num g) (args.map a.eval)) w := by
              intro fn f1 f2 f3
              have ef : a.eval (.func f) = .func (.func f) #[] #[] := rfl
              simp only [execOp, hop, resolve, ef, Deferred.ofValue, Sem.run_bind, Sem.run_pure, Result.andThen_ok, invoke]
              rw [← hnum, run_callFunc f1 f2 f3]
              simp
            obtain ⟨ds, S1, σ1, p1, q1, ok⟩ := args_sound (caps := []) (cv := []) (m := m) (r := r) (σ' := σ') hN hg hv hr h2 (by simp) (by simpa only [DOp.ev] using h)
            exact call_sound hN hg run p1 (by simpa using q1) hr hdst ok hK
          · cases hc
        · cases hc
      | tmp t =>
        simp only [] at hc
        split at hc
        · rename_i x' as h1 h2
          exact val _ _ h1 h2 (Option.some.inj hc).symm
        · cases hc
      | const v =>
        simp only [] at hc
        split at hc
        · rename_i x' as h1 h2
          exact val _ _ h1 h2 (Option.some.inj hc).symm
        · cases hc
      | global v =>
        simp only [] at hc
        split at hc
        · rename_i x' as h1 h2
          exact val _ _ h1 h2 (Option.some.inj hc).symm
        · cases hc

/-! a variable between its making and its first store -/

/-- the variables that are made, and have not been stored into yet: where they lie -/
def Pnd (num : Cfg) (n0 : Nat) (pd : List (Nat × List D)) (S : Mem) (I : Inf) (σ : Store) (w : World) (tmps : Array Value) : Prop :=
  ∃ blk : Nat → Nat, (∀ p ∈ pd, tmps.getD p.1 undef = .pointer (some ⟨blk p.1, 0, none⟩) ∧ n0 ≤ blk p.1 ∧ blk p.1 < w.heap.size ∧ p.2.all D.atom = true ∧
      (∃ (vs : List Value) (ty : TypeId), w.heap[blk p.1]? = some (.cells vs.toArray ty (0, 0)) ∧ vs.length = p.2.length) ∧ ¬ Owned I σ (blk p.1) ∧ ∀ o, S (blk p.1) o = none) ∧
    ∀ p ∈ pd, ∀ q ∈ pd, blk p.1 = blk q.1 → p.1 = q.1

omit hN hg in
theorem Pnd.nil {n0 : Nat} {tmps : Array Value} : Pnd num n0 [] S I σ w tmps := ⟨fun _ => 0, by simp, by simp⟩

omit hN hg in
/-- what goes on beside leaves them alone -/
theorem Pnd.beside {n0 : Nat} {pd : List (Nat × List D)} {tmps tmps' : Array Value} (h : Pnd num n0 pd S I σ w tmps) (hp : Post num S I σ w S' I' σ' w') (ht : ∀ p ∈ pd, tmps'.getD p.1 undef = tmps.getD p.1 undef) : Pnd num n0 pd S' I' σ' w' tmps' := by
  obtain ⟨blk, h1, h2⟩ := h
  refine ⟨blk, fun p hpm => ?_, h2⟩
  obtain ⟨a1, a2, a3, a4, ⟨vs, ty, a5, a6⟩, a7, a8⟩ := h1 p hpm
  refine ⟨(ht p hpm).trans a1, a2, Nat.lt_of_lt_of_le a3 hp.size, a4, ⟨vs, ty, (hp.frame _ a3 a7).trans a5, a6⟩, fun ho => ?_, fun o => ?_⟩
  · rcases hp.own _ ho with q | q
    · exact a7 q
    · omega
  · cases e : S' (blk p.1) o with
    | none => rfl
    | some v =>
      rcases hp.fresh _ _ _ e with q | q | q
      · rw [a8 o] at q; cases q
      · omega
      · exact absurd q a7

omit hN hg in
theorem put_other {dst : Option Nat} {t : Nat} {v : Value} (h : dst ≠ some t) : (a.put dst v).tmps.getD t undef = a.tmps.getD t undef := by
  cases dst with
  | none => rfl
  | some u =>
    have hu : u ≠ t := fun e => h (by rw [e])
    simp [Act.put, Array.getElem?_setIfInBounds_ne hu]

omit hN hg in
/-- a new block that nobody looks at yet -/
theorem post_junk (h : Inv num S I σ w) {ob : Obj} : Post num S I σ w S I σ (wpush w ob) := by
  refine ⟨SLe.refl S, ILe.refl I, ⟨h.glob, ?_, h.dom, ?_, h.sep, h.own⟩, rfl, rfl, rfl, by simp [wpush], fun b hb _ => wpush_old hb, fun _ e => .inl e, fun _ _ _ e => .inl e⟩
  · intro b o v e
    rw [cell_of_heap (w := w) (wpush_old (h.mem_lt e))]
    exact h.mem b o v e
  · intro l B e hl
    obtain ⟨li, h1, h2⟩ := h.blk l B e hl
    exact ⟨li, h1, h2.mono (SLe.refl S) (ILe.refl I) fun hl' => wpush_old (h.live_lt e hl' h1)⟩

omit hN hg in
theorem compile_alloc {zs : List D} (hc : compileOp P N o = some (.alloc zs)) : ∃ T, o.op = .alloc T ∧ zeroCs P T = some zs := by
  cases hop : o.op <;> simp only [compileOp, hop] at hc <;> (try (cases hc; done))
  case alloc T =>
    simp only [Option.map_eq_some_iff] at hc
    obtain ⟨y, h1, h2⟩ := hc
    cases h2
    exact ⟨T, rfl, h1⟩
  all_goals
    exfalso
    repeat' (first | (cases hc; done) | contradiction | (simp only [Option.map_eq_some_iff] at hc; obtain ⟨_, _, hc⟩ := hc; cases hc; done) | split at hc)

omit hN hg in
theorem compile_store {n : Nat} {x y : Opd} (hc : compileOp P N o = some (.store n x y)) : ∃ T i p q, o.op = .store T p q ∧ P.info? T = some i ∧ i.size = n ∧ opd N p = some x ∧ opd N q = some y := by
  cases hop : o.op <;> simp only [compileOp, hop] at hc <;> (try (cases hc; done))
  case store T p q =>
    split at hc
    · rename_i i x' y' h1 h2 h3
      cases hc
      exact ⟨T, i, p, q, rfl, h1, rfl, h2, h3⟩
    · cases hc
  all_goals
    exfalso
    repeat' (first | (cases hc; done) | contradiction | (simp only [Option.map_eq_some_iff] at hc; obtain ⟨_, _, hc⟩ := hc; cases hc; done) | split at hc)

omit hN hg in
theorem opd_tmp {x : Operand} {t : Nat} (h : opd N x = some (.t t)) : x = .tmp t := by
  cases x <;> simp [opd] at h
  · subst h; rfl

/-- one instruction, variables that are being made beside -/
theorem di_sound {ops : Array Oper} {di : DI} {pd pd' : List (Nat × List D)} {S0 : Mem} {I0 : Inf} {σ0 : Store} {w0 : World} (hc : compileI P N nt ops o = some di.bare) (hpd : pendS pd di = some pd') (h : di.ev call ρ σ = some (ρ', σ'))
    (hp : Post num S0 I0 σ0 w0 S I σ w) (hr : RT num S I ρ a.tmps) (hpn : Pnd num w0.heap.size pd S I σ w a.tmps) (hs : a.tmps.size = nt)
    (hK : ∀ a' w' S' I', RT num S' I' ρ' a'.tmps → Post num S0 I0 σ0 w0 S' I' σ' w' → Pnd num w0.heap.size pd' S' I' σ' w' a'.tmps → a'.defers = a.defers → a'.tmps.size = nt → K a' w') :
    if Region.wanted o (yielded ops a.tmps) then o.wp P a w K Q ∨ (o.asks P a w ∧ LetsOut Q) else K (a.put o.dst undef) w := by
  subst hs
  have hv := hp.inv
  obtain ⟨dst, d, g⟩ := di
  unfold compileI at hc
  split at hc
  · rename_i hdst
    -- what writes a temporary of its own
    have plain : d.pends = false → pd' = pd ∧ ∀ p ∈ pd, dst ≠ some p.1 := by
      intro hn
      have e : pendS pd ⟨dst, d, g⟩ = pendN pd dst := by
        cases d <;> first | rfl | cases hn
      rw [e] at hpd
      cases dst with
      | none => simp [pendN] at hpd; exact ⟨hpd.symm, by simp⟩
      | some t =>
        simp only [pendN] at hpd
        split at hpd
        · cases hpd
        · rename_i hm
          cases hpd
          refine ⟨rfl, fun p hpm q => hm ?_⟩
          cases q
          simp only [List.contains_eq_mem, List.mem_map, decide_eq_true_eq]
          exact ⟨p, hpm, rfl⟩
    have tgt0 : d.pends = false → d.tgt = none := by
      intro hn
      cases d <;> first | rfl | cases hn
    have main : ∀ r, o.dst = dst → (compileOp P N o).getD .bad = d.bare → d.ev call ρ σ = some (r, σ') → DM.put ρ (DI.to ⟨dst, d, g⟩) r = ρ' → o.wp P a w K Q := by
      rintro r hod hd h1 hρ'
      cases hco : compileOp P N o with
      | none =>
        rw [hco] at hd
        exfalso
        cases d <;> simp [DOp.bare] at hd
        simp [DOp.ev] at h1
      | some d0 =>
        rw [hco] at hd
        simp only [Option.getD_some] at hd
        subst hd
        cases hn : d.pends with
        | false =>
          obtain ⟨rfl, hne⟩ := plain hn
          refine oper_sound hN hg hv hr hco hn hdst h1 fun v w' S' I' r1 p1 => ?_
          have e : DI.to ⟨dst, d, g⟩ = o.dst := by
            rw [hod]
            cases dst <;> simp [DI.to, tgt0 hn]
          rw [e] at hρ'
          rw [hρ'] at r1
          exact hK _ w' S' I' r1 (hp.trans p1) (hpn.beside p1 fun p hpm => put_other (by rw [hod]; exact hne p hpm)) put_defers put_size
        | true =>
          cases d with
          | pend zs =>
            obtain ⟨T, hop, hz⟩ := compile_alloc hco
            obtain ⟨z, hz1, hz2, hz3⟩ := zeroCs_sound (num := num) (S := S) (I := I) hz
            simp only [pendS] at hpd
            split at hpd
            · rename_i t
              split at hpd
              · cases hpd
              · rename_i hm
                cases hpd
                simp only [DOp.ev, Option.some.injEq, Prod.mk.injEq] at h1
                obtain ⟨rfl, rfl⟩ := h1
                have hrun : (execOp a.eval o).run P w = .ok (.value (.pointer (some ⟨w.heap.size, 0, none⟩))) (wpush w (.cells z.cells T)) := by
                  simp [execOp, hop, Instr.alloc, hz1, newVar, newRow_run]
                unfold Oper.wp
                rw [hrun, Oper.upon_value]
                have p1 := post_junk hv (ob := .cells z.cells T)
                have hlt : t < a.tmps.size := by rw [hod] at hdst; simpa [dstOk] using hdst
                refine hK _ _ S I ?_ (hp.trans p1) ?_ put_defers put_size
                · rw [← hρ']
                  rw [hod]
                  exact RT.put hr (by simp) (by rw [hod] at hdst; exact hdst)
                · have hpn0 := hpn
                  obtain ⟨blk, b1, b2⟩ := hpn.beside p1 (tmps' := (a.put o.dst (.pointer (some ⟨w.heap.size, 0, none⟩))).tmps) fun p hpm => put_other (by
                    rw [hod]
                    intro q
                    cases q
                    exact hm (by simp only [List.contains_eq_mem, List.mem_map, decide_eq_true_eq]; exact ⟨p, hpm, rfl⟩))
                  have hfresh : ∀ p ∈ pd, p.1 ≠ t ∧ blk p.1 < w.heap.size := fun p hpm => by
                    refine ⟨fun q => hm (by simp only [List.contains_eq_mem, List.mem_map, decide_eq_true_eq]; exact ⟨p, hpm, q⟩), ?_⟩
                    obtain ⟨c1, _⟩ := b1 p hpm
                    obtain ⟨blk0, d1, _⟩ := hpn0
                    obtain ⟨e1, _, e3, _⟩ := d1 p hpm
                    rw [put_other (by
                      rw [hod]
                      intro q
                      cases q
                      exact hm (by simp only [List.contains_eq_mem, List.mem_map, decide_eq_true_eq]; exact ⟨p, hpm, rfl⟩)), e1] at c1
                    have e9 : blk0 p.1 = blk p.1 := by simpa using c1
                    rw [← e9]
                    exact e3
                  refine ⟨fun u => if u = t then w.heap.size else blk u, ?_, ?_⟩
                  · intro p hpm
                    rcases List.mem_cons.1 hpm with rfl | hpm
                    · simp only [if_true]
                      refine ⟨?_, hp.size, by simp [wpush], hz3, ⟨z.cells.toList, T, ?_, repL_length hz2⟩, ?_, ?_⟩
                      · rw [hod]; simp [Act.put, hlt]
                      · rw [wpush_new]
                      · rintro ⟨l, B, li, e1, e2, e3, e4⟩
                        have := hv.live_lt e1 e2 e3
                        omega
                      · intro o'
                        cases e : S w.heap.size o' with
                        | none => rfl
                        | some v => have := hv.mem_lt e; omega
                    · have := hfresh p hpm
                      simp only [if_neg this.1]
                      exact b1 p hpm
                  · intro p hpm q hqm heq
                    rcases List.mem_cons.1 hpm with rfl | hpm
                    · rcases List.mem_cons.1 hqm with rfl | hqm
                      · rfl
                      · have := hfresh q hqm
                        simp only [if_true, if_neg this.1] at heq
                        omega
                    · rcases List.mem_cons.1 hqm with rfl | hqm
                      · have := hfresh p hpm
                        simp only [if_true, if_neg this.1] at heq
                        omega
                      · simp only [if_neg (hfresh p hpm).1, if_neg (hfresh q hqm).1] at heq
                        exact b2 p hpm q hqm heq
            · cases hpd
          | init n t x =>
            obtain ⟨T, i, pa, px, hop, hi, hin, hpa, hpx⟩ := compile_store hco
            have := opd_tmp hpa
            subst this
            simp only [pendS] at hpd
            split at hpd
            · split at hpd
              · rename_i hany
                cases hpd
                rw [List.any_eq_true] at hany
                obtain ⟨⟨t', zs⟩, hpm, heq⟩ := hany
                simp only [Bool.and_eq_true, beq_iff_eq] at heq
                obtain ⟨rfl, hzl⟩ := heq
                obtain ⟨blk, b1, b2⟩ := hpn
                obtain ⟨c1, c2, c3, c4, ⟨vs, ty, c5, c6⟩, c7, c8⟩ := b1 _ hpm
                simp only [] at c1 c2 c3 c5 c6 c7 c8
                simp only [DOp.ev] at h1
                split at h1
                · rename_i d1 σ1 hd
                  split at h1
                  · rename_i hk
                    cases h1
                    obtain ⟨S1, p1, q1, al, _⟩ := frz_sound 8 hd hv (opd_sound hN hpx hr)
                    have q2 := Rep.noref _ _ hk.2.1 q1
                    have hcl := rep_cells q2 hk.2.2
                    have hlen := repL_length hcl
                    have hone := repL_one hcl hk.2.2
                    let b := blk t'
                    let w2 : World := wset w b (.cells (overlay vs (0 + 0) (a.eval px).cells.toList).toArray ty (0, 0))
                    have hrun : (Instr.storeAt T (.pointer (some ⟨b, 0, none⟩)) (a.eval px)).run P w = .ok () w2 := by
                      have e : ¬ ((a.eval px).cells.size ≠ i.size) := by
                        have : (a.eval px).cells.size = (a.eval px).cells.toList.length := by simp
                        omega
                      have e2 : (Instr.storeAt T (.pointer (some ⟨b, 0, none⟩)) (a.eval px)).run P w = (storeCells ⟨b, 0, none⟩ (a.eval px).cells.toList).run P w := by
                        have e3 : (storeVar T ⟨b, 0, none⟩ (a.eval px)).run P w = (storeCells ⟨b, 0, none⟩ (a.eval px).cells.toList).run P w := by
                          simp [storeVar, Go.sizeOf, typeInfo, hi]
                          intro q; exact absurd q e
                        rw [← e3]
                        simp [Instr.storeAt, Instr.sureAddr]
                      rw [e2]
                      exact run_storeCells (a.eval px).cells.toList 0 vs w c5 (by omega) hone (fun o _ _ => by simp)
                    have hev : a.eval (.tmp t') = .pointer (some ⟨b, 0, none⟩) := c1
                    have hov : overlay vs (0 + 0) (a.eval px).cells.toList = (a.eval px).cells.toList := by
                      rw [overlay_eq _ _ _ (by omega)]
                      have : vs.drop (0 + 0 + (a.eval px).cells.toList.length) = [] := List.drop_of_length_le (by omega)
                      rw [this]
                      simp
                    have hexec : (execOp a.eval o).run P w = .ok .skip w2 := by
                      simp only [execOp, hop]
                      rw [hev]
                      simp [hrun]
                    -- the world behind it
                    let us := (a.eval px).cells.toList
                    let S2 : Mem := fun b' o' => if b' = b then us[o']? else S1 b' o'
                    have hSb : ∀ o', S1 b o' = none := fun o' => by
                      cases e : S1 b o' with
                      | none => rfl
                      | some v =>
                        rcases p1.fresh _ _ _ e with q | q | q
                        · rw [c8 o'] at q; cases q
                        · exact absurd c3 (by omega)
                        · exact absurd q c7
                    have hown1 : ¬ Owned I σ' b := fun ho => by
                      rcases p1.own _ ho with q | q
                      · exact c7 q
                      · exact absurd c3 (by omega)
                    have hS12 : SLe S1 S2 := fun b' o' v e => by
                      simp only [S2]
                      split
                      · rename_i q; subst q; rw [hSb o'] at e; cases e
                      · exact e
                    have hheap : ∀ k, k ≠ b → w2.heap[k]? = w.heap[k]? := fun k hk' => wset_ne hk'
                    have hcell : ∀ j v, us[j]? = some v → w2.cell? ⟨b, j, none⟩ = some v := fun j v e => by
                      have : w2.heap[b]? = some (.cells us.toArray ty (0, 0)) := by
                        show (wset w b _).heap[b]? = _
                        rw [wset_same c3, hov]
                      simp only [World.cell?, this]
                      simpa using e
                    have p2 : Post num S0 I0 σ0 w0 S2 I σ' w2 := by
                      have pa := hp.trans p1
                      refine ⟨pa.s.trans hS12, pa.i, ⟨p1.inv.glob.trans hS12, ?_, p1.inv.dom, ?_, p1.inv.sep, ?_⟩, pa.os, pa.tape, pa.output, by show _ ≤ (wset w b _).heap.size; rw [wset_size]; exact pa.size, ?_, pa.own, ?_⟩
                      · intro b' o' v e
                        simp only [S2] at e
                        split at e
                        · rename_i q; subst q; exact hcell o' v e
                        · rename_i q
                          rw [cell_of_heap (w := w) (hheap b' q)]
                          exact p1.inv.mem b' o' v e
                      · intro l B e hl
                        obtain ⟨li, i1, i2⟩ := p1.inv.blk l B e hl
                        refine ⟨li, i1, i2.mono hS12 (ILe.refl I) fun hl' => hheap _ ?_⟩
                        intro q
                        exact hown1 ⟨l, B, li, e, hl', i1, q⟩
                      · intro l B li o' e hl i1
                        simp only [S2]
                        rw [if_neg (fun q => hown1 ⟨l, B, li, e, hl, i1, q⟩)]
                        exact p1.inv.own l B li o' e hl i1
                      · intro b' hb' ho
                        rw [hheap b' (by omega)]
                        exact pa.frame b' hb' ho
                      · intro b' o' v e
                        simp only [S2] at e
                        split at e
                        · rename_i q; exact .inr (.inl (by omega))
                        · exact pa.fresh b' o' v e
                    unfold Oper.wp
                    rw [hexec, Oper.upon_skip]
                    have hdst0 : o.dst = none := hod
                    have hput : a.put o.dst undef = a := by rw [hdst0]; rfl
                    rw [hput]
                    refine hK a w2 S2 I ?_ p2 ?_ rfl rfl
                    · rw [← hρ']
                      intro u
                      simp only [DI.to, DOp.tgt, DM.put, DM.get]
                      split
                      · rename_i e
                        subst e
                        rw [c1]
                        refine rep_fptr.2 ⟨b, 0, by simp [b], ?_⟩
                        rw [repD_cells]
                        refine repM_of_cells (RepL.mono hS12 (ILe.refl _) _ _ hcl) fun j v hj => ?_
                        simp only [S2, if_true]
                        rw [Nat.zero_add]
                        exact hj
                      · exact Rep.mono (p1.s.trans hS12) (ILe.refl I) _ _ (hr u)
                    · refine ⟨blk, fun p hpm' => ?_, fun p hpm' q hqm' => b2 p (List.mem_filter.1 hpm').1 q (List.mem_filter.1 hqm').1⟩
                      obtain ⟨m1, m2⟩ := List.mem_filter.1 hpm'
                      have hne : p.1 ≠ t' := by simpa using m2
                      have hbn : blk p.1 ≠ b := fun q => hne (b2 p m1 _ hpm q)
                      obtain ⟨e1, e2, e3, e4, ⟨vs', ty', e5, e6⟩, e7, e8⟩ := b1 p m1
                      refine ⟨e1, e2, by show _ < (wset w b _).heap.size; rw [wset_size]; exact e3, e4, ⟨vs', ty', (hheap _ hbn).trans e5, e6⟩, fun ho => ?_, fun o' => ?_⟩
                      · rcases p1.own _ ho with q | q
                        · exact e7 q
                        · omega
                      · simp only [S2]
                        rw [if_neg hbn]
                        cases e : S1 (blk p.1) o' with
                        | none => rfl
                        | some v =>
                          rcases p1.fresh _ _ _ e with q | q | q
                          · rw [e8 o'] at q; cases q
                          · omega
                          · exact absurd q e7
                  · cases h1
                · cases h1
              · cases hpd
            · cases hpd
          | _ => cases hn
    split at hc
    · rename_i hgd
      simp only [DI.bare, Option.some.injEq, DI.mk.injEq] at hc
      obtain ⟨hod, hd, rfl⟩ := hc
      simp only [DI.ev, DI.val] at h
      split at h
      · rename_i r σ2 h1
        cases h
        rw [if_pos (by simp [Region.wanted, hgd])]
        exact .inl (main r hod hd h1 rfl)
      · cases h
    · rename_i j b hgd
      split at hc
      · rename_i t ht
        split at hc
        · rename_i hlt
          simp only [DI.bare, Option.some.injEq, DI.mk.injEq] at hc
          obtain ⟨hod, hd, rfl⟩ := hc
          simp only [DI.ev, DI.val] at h
          have off : o.dst = dst → ∀ (t : Nat) (b : Bool), (∀ a' w' S' I', RT num S' I' (DM.put ρ (DI.to ⟨dst, d, some (t, b)⟩) (.tup [])) a'.tmps → Post num S0 I0 σ0 w0 S' I' σ w' → Pnd num w0.heap.size pd' S' I' σ w' a'.tmps → a'.defers = a.defers → a'.tmps.size = a.tmps.size → K a' w') → (g0 : pendS pd ⟨dst, d, some (t, b)⟩ = some pd') → K (a.put o.dst undef) w := by
            intro hod t b hK hpd
            have hn : d.pends = false := by
              cases d <;> first | rfl | (simp [pendS] at hpd; done)
              all_goals (simp only [pendS] at hpd; split at hpd <;> simp_all)
            obtain ⟨rfl, hne⟩ := plain hn
            have e : DI.to ⟨dst, d, some (t, b)⟩ = o.dst := by
              rw [hod]
              cases dst <;> simp [DI.to, tgt0 hn]
            rw [e] at hK
            exact hK _ w S I (RT.put hr (rep_tup.2 ⟨[], rfl, by simp⟩) hdst) hp (hpn.beside (Post.refl hv) fun p hpm => put_other (by rw [hod]; exact hne p hpm)) put_defers put_size
          cases hgt : get ρ t with
          | bool bb =>
            rw [hgt] at h
            simp only [] at h
            have k1 := hr t
            rw [hgt, rep_bool] at k1
            have k2 : a.tmps[t]? = some (.bool bb) := by
              rw [Array.getElem?_eq_getElem hlt]
              rw [Array.getD_eq_getD_getElem?, Array.getElem?_eq_getElem hlt] at k1
              simpa using k1
            have k3 : yielded ops a.tmps j = some bb := by
              unfold yielded
              rw [ht]
              simp [k2]
            have k4 : Region.wanted o (yielded ops a.tmps) = decide (bb = b) := by
              simp only [Region.wanted, hgd, k3]
              cases bb <;> cases b <;> rfl
            rw [k4]
            by_cases hbe : bb = b
            · rw [if_pos hbe] at h
              split at h
              · rename_i r σ2 h1
                cases h
                rw [if_pos (by simpa using hbe)]
                exact .inl (main r hod hd h1 rfl)
              · cases h
            · rw [if_neg hbe] at h
              simp only [Option.some.injEq, Prod.mk.injEq] at h
              obtain ⟨rfl, rfl⟩ := h
              rw [if_neg (by simpa using hbe)]
              exact off hod t b hK hpd
          | tup ds =>
            cases ds with
            | cons d0 ds => rw [hgt] at h; simp at h
            | nil =>
              rw [hgt] at h
              simp only [Option.some.injEq, Prod.mk.injEq] at h
              obtain ⟨rfl, rfl⟩ := h
              have k1 := hr t
              rw [hgt, rep_tup] at k1
              obtain ⟨vs, k1, kv⟩ := k1
              have kv : vs = [] := by simpa using kv
              subst kv
              have k2 : a.tmps[t]? = some (.tuple #[]) := by
                rw [Array.getElem?_eq_getElem hlt]
                rw [Array.getD_eq_getD_getElem?, Array.getElem?_eq_getElem hlt] at k1
                simpa using k1
              have k3 : yielded ops a.tmps j = none := by
                unfold yielded
                rw [ht]
                simp [k2]
              have k4 : Region.wanted o (yielded ops a.tmps) = false := by
                simp only [Region.wanted, hgd, k3]
                cases b <;> rfl
              rw [k4]
              rw [if_neg (by simp)]
              exact off hod t b hK hpd
          | _ => rw [hgt] at h; simp at h
        · cases hc
      · cases hc
  · cases hc
end
end
end Go.DM
