/- Each operation but a call: the machine's way is the model's. -/
import Derived.Test.YtpidjgefokgplaaOps2
import Derived.Test.YtpidjgefokgplaaOps3
import Derived.Test.YtpidjgefokgplaaOps4
set_option linter.unnecessarySimpa false
set_option linter.unusedVariables false
set_option linter.unusedSimpArgs false
set_option linter.unusedSectionVars false
namespace Go.DM
open Go

section
variable {num : Cfg} {S S' : Mem} {I I' : Inf} {σ σ' : Store} {w w' : World} {P : Program} {N : Names}

theorem asInt_some {d : D} {j : Int} (h : asInt d = some j) : ∃ k, d = .int k j := by
  cases d <;> simp [asInt] at h
  exact ⟨_, by rw [h]⟩

theorem okEls {e : Nat} {ys : List D} (h : ys.all (okEl e) = true) : (∀ y ∈ ys, y.cells.length = e) ∧ (∀ y ∈ ys, y.cells.all D.atom = true) := by
  rw [List.all_eq_true] at h
  refine ⟨fun y hy => ?_, fun y hy => ?_⟩ <;> have := h y hy <;> simp [okEl] at this
  · exact this.1
  · simpa using this.2

theorem op_sound (hN : ∀ f g, N.gid f = some g → num g = f) {call : CallD} {ρ : Env} {a : Act} {o : Oper} {d : DOp} {r : D} (hv : Inv num S I σ w) (hr : RT num S I ρ a.tmps)
    (hc : compileOp P N o = some d) (hnc : d.isCall = false) (h : d.ev call ρ σ = some (r, σ')) : OpOk num P o a w S I σ r σ' := by
  have opd1 : ∀ {x x'}, opd N x = some x' → Rep num S I (x'.ev ρ) (a.eval x) := fun h => opd_sound hN h hr
  cases hop : o.op <;> simp only [compileOp, hop] at hc <;> (try (cases hc; done))
  case move x =>
    simp only [Option.map_eq_some_iff] at hc
    obtain ⟨x', h1, rfl⟩ := hc
    simp [DOp.ev] at h
    obtain ⟨rfl, rfl⟩ := h
    exact OpOk.same hv (v := a.eval x) (by simp [execOp, hop]) (opd1 h1)
  case assign x =>
    simp only [Option.map_eq_some_iff] at hc
    obtain ⟨x', h1, rfl⟩ := hc
    simp [DOp.ev] at h
    obtain ⟨rfl, rfl⟩ := h
    exact OpOk.same hv (v := a.eval x) (by simp [execOp, hop]) (opd1 h1)
  case pick c x y =>
    split at hc
    · rename_i c' x' y' h1 h2 h3
      cases hc
      simp only [DOp.ev] at h
      split at h
      · rename_i t ht
        have hb := opd1 h1
        rw [ht] at hb
        simp at hb
        cases h
        refine OpOk.same hv (v := if t then a.eval x else a.eval y) (by simp [execOp, hop, hb]; rfl) ?_
        cases t
        · exact opd1 h3
        · exact opd1 h2
      · cases h
    · cases hc
  case alloc T =>
    simp only [Option.map_eq_some_iff] at hc
    obtain ⟨z, h1, rfl⟩ := hc
    simp [DOp.ev] at h
    obtain ⟨rfl, rfl⟩ := h
    exact op_alloc hv hop h1
  case box T x =>
    simp only [Option.map_eq_some_iff] at hc
    obtain ⟨x', h1, rfl⟩ := hc
    simp only [DOp.ev] at h
    split at h
    · rename_i ha
      cases h
      exact op_box hv hop (opd1 h1) ha
    · cases h
  case load T x =>
    split at hc
    · rename_i g x' h1 h2
      cases hc
      simp only [DOp.ev, pure1] at h
      split at h
      · rename_i e he
        cases h
        obtain ⟨u, k1, k2⟩ := load_sound hv h1 (opd1 h2) he
        exact OpOk.same hv (v := u) (by simp [execOp, hop, k1]) k2
      · cases h
    · cases hc
  case store T x y =>
    split at hc
    · rename_i i x' y' h1 h2 h3
      cases hc
      simp only [DOp.ev] at h
      split at h
      · rename_i s hs
        cases h
        obtain ⟨w', k1, k2⟩ := store_sound hv h1 (opd1 h2) (opd1 h3) hs
        exact ⟨undef, w', S, I, .inr ⟨by simp [execOp, hop, k1], rfl⟩, by simp, k2⟩
      · cases h
    · cases hc
  case nilCheck x =>
    simp only [Option.map_eq_some_iff] at hc
    obtain ⟨x', h1, rfl⟩ := hc
    have := opd1 h1
    simp only [DOp.ev] at h
    split at h <;> first
      | (rename_i he; cases h; rw [he] at this; exact op_nilck hv hop this trivial)
      | cases h
  case binOp op T x y U =>
    have key : ∀ {x' y'}, opd N x = some x' → opd N y = some y' → (P.underlying T = some .bool ∨ ∀ b, x'.ev ρ ≠ .bool b) → pure1 σ (binD op (x'.ev ρ) (y'.ev ρ)) = some (r, σ') → OpOk num P o a w S I σ r σ' := by
      intro x' y' h1 h2 h3 h
      simp only [pure1] at h
      split at h
      · rename_i e he
        cases h
        exact op_bin hv hop h3 (opd1 h1) (opd1 h2) he
      · cases h
    split at hc
    · rename_i x' y' k h1 h2 h3
      cases hc
      simp only [DOp.ev] at h
      split at h
      · cases h
      · rename_i hb
        exact key h1 h2 (.inr fun b e => hb b e) h
    · rename_i x' y' h1 h2 h3
      cases hc
      simp only [DOp.ev] at h
      split at h
      · cases h
      · rename_i hb
        exact key h1 h2 (.inr fun b e => hb b e) h
    · rename_i x' y' h1 h2 h3
      cases hc
      exact key h1 h2 (.inl h3) h
    · rename_i x' y' fs h1 h2 h3
      split at hc
      · rename_i ks h4
        split at hc
        · rename_i h5
          simp at h5
          have k1 := opd1 h1
          have k2 := opd1 h2
          split at hc <;> cases hc <;> simp only [DOp.ev] at h <;> split at h
          all_goals first
            | (rename_i as bs ha hb
               rw [ha] at k1
               rw [hb] at k2
               split at h
               · rename_i t ht
                 cases h
                 first
                   | exact op_eqs hv hop (.inl ⟨rfl, rfl⟩) h3 h4 h5.1 h5.2 k1 k2 ht
                   | exact op_eqs hv hop (.inr ⟨rfl, rfl⟩) h3 h4 h5.1 h5.2 k1 k2 ht
               · cases h)
            | cases h
        · cases hc
      · cases hc
    · cases hc
  case unOp op T x =>
    simp only [Option.map_eq_some_iff] at hc
    obtain ⟨x', h1, rfl⟩ := hc
    simp only [DOp.ev, pure1] at h
    split at h
    · rename_i e he
      cases h
      exact op_un hv hop (opd1 h1) he
    · cases h
  case convert src dst x =>
    split at hc
    · rename_i x' ks k h1 h2 h3
      cases hc
      have := opd1 h1
      simp only [DOp.ev] at h
      split at h
      · rename_i k' n hn
        cases h
        rw [hn] at this
        exact op_conv hv hop h2 h3 this
      · cases h
    · rename_i x' h1 h2 h3
      cases hc
      have := opd1 h1
      simp only [DOp.ev] at h
      split at h
      · rename_i s hs
        cases h
        rw [hs] at this
        exact op_same hv hop h2 h3 this
      · cases h
    · rename_i x' e h1 h2 h3
      split at hc
      · rename_i h4
        cases hc
        have := opd1 h1
        simp only [DOp.ev] at h
        split at h
        · rename_i s hs
          split at h
          · rename_i hl
            cases h
            rw [hs] at this
            exact op_s2b hv hop h2 h3 h4 this hl
          · cases h
        · cases h
      · cases hc
    · rename_i x' e h1 h2 h3
      split at hc
      · rename_i h4
        cases hc
        have := opd1 h1
        simp only [DOp.ev] at h
        split at h
        · rename_i s hs
          cases h
          rw [Option.bind_eq_some_iff] at hs
          obtain ⟨ds, k1, k2⟩ := hs
          exact op_b2s hv hop h2 h3 h4 this k1 k2
        · cases h
      · cases hc
    · cases hc
  case makeFunc f first caps =>
    cases f <;> simp only [] at hc <;> (try (cases hc; done))
    case func f =>
      split at hc
      · rename_i h0
        split at hc
        · rename_i g cs h1 h2
          cases hc
          simp only [DOp.ev] at h
          cases h
          have : first = #[] := by simpa using h0
          subst this
          exact op_mkfn hv hop (hN _ _ h1) (opds_sound hN h2 hr)
        · cases hc
      · cases hc
  case build T parts =>
    split at hc
    · rename_i fs z h1 h2
      split at hc
      · rename_i ps ii h3 h4
        cases hc
        simp only [DOp.ev] at h
        split at h
        · rename_i cs hcs
          cases h
          exact op_build hv hN hop h1 h2 hr h3 h4 hcs
        · cases h
      · cases hc
    · cases hc
  case buildSlice T n parts =>
    split at hc
    · rename_i e h1
      split at hc
      · rename_i i z ps h2 h3 h4
        split at hc
        · rename_i h5
          cases hc
          simp only [DOp.ev] at h
          split at h
          · rename_i xs hxs
            cases h
            exact op_buildSl hv hN hop h1 h2 h3 hr h5.1 h5.2 h4 hxs
          · cases h
        · cases hc
      · cases hc
    · cases hc
  case makeSlice T l c =>
    split at hc
    · rename_i e h1
      split at hc
      · rename_i i z l' c' h2 h3 h4 h5
        split at hc
        · rename_i h6
          cases hc
          have k1 := opd1 h4
          have k2 := opd1 h5
          simp only [DOp.ev] at h
          split at h
          · rename_i n m hn hm
            rw [hn] at k1
            rw [hm] at k2
            split at h
            · rename_i h7
              cases h
              exact op_mkSl hv hop h1 h2 h3 h6.1 k1 k2 h7.1 h7.2.1 h7.2.2.1 h7.2.2.2
            · cases h
          · cases h
        · cases hc
      · cases hc
    · cases hc
  case slice T x lo hi mx =>
    split at hc
    · rename_i x' lo' hi' h1 h2 h3 h4
      split at hc
      · rename_i hmx
        cases hc
        have : mx = none := by simpa using hmx
        subst this
        have k1 := opd1 h1
        simp only [DOp.ev] at h
        split at h
        · rename_i s hs
          rw [hs] at k1
          split at h
          · rename_i p q hp hq
            split at h
            · rename_i t ht
              cases h
              exact op_sub_str hv hN hop h2 hr k1 h3 h4 hp hq ht
            · cases h
          · cases h
        · cases h
      · cases hc
    · rename_i x' e lo' hi' h1 h2 h3 h4
      split at hc
      · rename_i inf h5
        split at hc
        · rename_i hmx
          cases hc
          have : mx = none := by simpa using hmx
          subst this
          have k1 := opd1 h1
          simp only [DOp.ev] at h
          split at h
          · rename_i xs hs
            rw [hs] at k1
            split at h
            · rename_i p q hp hq
              split at h
              · rename_i t ht
                split at h
                · rename_i hok
                  cases h
                  exact op_sub_list hv hN hop h2 h5 hok hr k1 h3 h4 hp hq ht
                · cases h
              · cases h
            · cases h
          · cases h
        · split at hc
          · rename_i hmx h6
            cases hc
            simp at h6
            obtain ⟨⟨rfl, h7⟩, h8⟩ := h6
            have k1 := opd1 h1
            simp only [DOp.ev] at h
            split at h
            · rename_i xs hxs
              cases h
              exact op_sub0 hv hop h2 h5 h7 h8 k1 hxs
            · cases h
          · cases hc
      · cases hc
    · cases hc
  case fieldAddr T x f =>
    split at hc
    · rename_i fs x' h1 h2
      split at hc
      · rename_i fd h3
        split at hc
        · rename_i i h4
          split at hc
          · cases hc
          · rename_i h5
            cases hc
            have := opd1 h2
            simp only [DOp.ev] at h
            split at h <;> first
              | (rename_i he; cases h; rw [he] at this; exact op_faddr hv hop h1 h3 h4 h5 this rfl)
              | cases h
        · cases hc
      · cases hc
    · cases hc
  case field T x f =>
    split at hc
    · rename_i fs x' h1 h2
      split at hc
      · rename_i fd h3
        simp only [Option.map_eq_some_iff] at hc
        obtain ⟨g, h4, rfl⟩ := hc
        have := opd1 h2
        simp only [DOp.ev] at h
        split at h
        · rename_i cs hcs
          rw [hcs] at this
          simp only [pure1] at h
          split at h
          · rename_i e he
            cases h
            exact op_field hv hop h1 h3 h4 this he
          · cases h
        · cases h
      · cases hc
    · cases hc
  case indexAddr T x i =>
    split at hc
    · rename_i e x' i' h1 h2 h3
      split at hc
      · rename_i inf h4
        split at hc
        · rename_i h5
          cases hc
          have k1 := opd1 h2
          have k2 := opd1 h3
          simp only [DOp.ev] at h
          split at h
          · rename_i j hj
            obtain ⟨k, hk⟩ := asInt_some hj
            rw [hk] at k2
            split at h
            · rename_i h0
              split at h
              · rename_i xs hxs
                rw [hxs] at k1
                split at h
                · rename_i dd hdd
                  split at h
                  · rename_i hl
                    cases h
                    exact op_iaddr_list hv hop h1 h4 k1 k2 h0 hdd hl
                  · cases h
                · cases h
              · rename_i l n hln
                rw [hln] at k1
                have key : ∀ e', (∃ xs, σ[l]? = some (.arr e' xs) ∧ xs.length = n ∨ σ[l]? = some (.frz e' xs) ∧ xs.length = n) → e' = inf.size → j < n → OpOk num P o a w S I σ (.eptr l n j.toNat 0) σ := by
                  intro e' hxs he hjn
                  obtain ⟨xs, hxs⟩ := hxs
                  have hli : ∃ li, I l = some li ∧ li.n = n ∧ li.esz = e' := by
                    rcases hxs with ⟨hs, hl⟩ | ⟨hs, hl⟩
                    · obtain ⟨li, m1, m2⟩ := hv.blk l _ hs (.inl rfl)
                      obtain ⟨_, m3, _, m4, _⟩ := m2
                      exact ⟨li, m1, m4.trans hl, m3⟩
                    · obtain ⟨li, m1, m2⟩ := hv.blk l _ hs (.inr ⟨_, _, rfl⟩)
                      obtain ⟨_, m3, _, m4, _⟩ := m2
                      exact ⟨li, m1, m4.trans hl, m3⟩
                  obtain ⟨li, m1, m2, m3⟩ := hli
                  exact op_iaddr_sl hv hop h1 h4 k1 k2 h0 hjn m1 m2 m3 he
                split at h
                · rename_i e' xs hs
                  split at h
                  · rename_i hh
                    cases h
                    exact key e' ⟨xs, .inl ⟨hs, hh.1⟩⟩ hh.2.1 hh.2.2
                  · cases h
                · rename_i e' xs hs
                  split at h
                  · rename_i hh
                    cases h
                    exact key e' ⟨xs, .inr ⟨hs, hh.1⟩⟩ hh.2.1 hh.2.2
                  · cases h
                · cases h
              · cases h
            · cases h
          · cases h
        · cases hc
      · cases hc
    · cases hc
  case index T x i =>
    split at hc
    · rename_i x' i' h1 h2 h3
      cases hc
      have k1 := opd1 h2
      have k2 := opd1 h3
      simp only [DOp.ev] at h
      split at h
      · rename_i s j hs hj
        obtain ⟨k, hk⟩ := asInt_some hj
        rw [hk] at k2
        rw [hs] at k1
        split at h
        · rename_i h0
          split at h
          · rename_i b hb
            cases h
            exact op_sidx hv hop h1 k1 k2 h0 hb
          · cases h
        · cases h
      · cases h
    · cases hc
  case extract x i =>
    simp only [Option.map_eq_some_iff] at hc
    obtain ⟨x', h1, rfl⟩ := hc
    have := opd1 h1
    simp only [DOp.ev] at h
    split at h
    · rename_i vs hvs
      rw [hvs] at this
      split at h
      · rename_i e he
        cases h
        exact op_ext hv hop this he
      · cases h
    · cases h
  case call c =>
    obtain ⟨callee, args, tys⟩ := c
    cases callee with
    | invoke x m => simp at hc
    | value x =>
      exfalso
      cases x <;> simp only [] at hc <;> split at hc <;> first
        | (cases hc; cases hnc; done)
        | (split at hc <;> cases hc; cases hnc; done)
        | cases hc
    | builtin b =>
      cases b <;> simp only [] at hc <;> (try (cases hc; done))
      case len =>
        split at hc
        · rename_i x T hx hT
          have e1 : args = #[x] := by apply Array.ext'; simpa using hx
          have e2 : tys = #[T] := by apply Array.ext'; simpa using hT
          subst e1; subst e2
          split at hc
          · rename_i x' h1 h2
            cases hc
            have k1 := opd1 h1
            simp only [DOp.ev] at h
            split at h
            · rename_i s hs
              rw [hs] at k1
              cases h
              exact op_len_str hv hop h2 k1
            · cases h
          · rename_i x' e h1 h2
            cases hc
            have k1 := opd1 h1
            simp only [DOp.ev] at h
            split at h
            · rename_i xs hxs
              cases h
              exact op_len_sl hv hop h2 k1 hxs
            · cases h
          · cases hc
        · cases hc
      case append =>
        split at hc
        · rename_i s x T U hx hT
          have e1 : args = #[s, x] := by apply Array.ext'; simpa using hx
          have e2 : tys = #[T, U] := by apply Array.ext'; simpa using hT
          subst e1; subst e2
          split at hc
          · rename_i s' x' e u h1 h2 h3 h4
            split at hc
            · rename_i i h5
              split at hc
              · rename_i h6
                cases hc
                simp at h6
                obtain ⟨⟨⟨⟨g1, g2⟩, g3⟩, g4⟩, g5⟩ := h6
                obtain ⟨z, hz⟩ := Option.isSome_iff_exists.1 g5
                have k1 := opd1 h1
                have k2 := opd1 h2
                simp only [DOp.ev] at h
                split at h
                · rename_i ys hys
                  split at h
                  · rename_i hok
                    obtain ⟨e1, e2⟩ := okEls hok
                    have hsrc : ∃ us, Source P w i.size (a.eval x) ys.length us ∧ RepL num S I (ys.flatMap D.cells) us := by
                      split at hys
                      · rename_i t ht
                        split at hys
                        · rename_i h1s
                          cases hys
                          rw [ht, rep_str] at k2
                          rw [k2, h1s]
                          exact source_str
                        · cases hys
                      · exact source_elems hv k2 hys e1
                    obtain ⟨us, s1, s2⟩ := hsrc
                    exact op_app hv hop h3 h4 g4 h5 g1 g2 hz s1 s2 e1 e2 h k1
                  · cases h
                · cases h
              · cases hc
            · cases hc
          · cases hc
        · cases hc
end
end Go.DM
