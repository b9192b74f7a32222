/- Code and functions. -/
import Derived.Test.YtpidjgefokgplaaSound3
set_option linter.unnecessarySimpa false
set_option linter.unusedVariables false
set_option linter.unusedSimpArgs false
set_option linter.unusedSectionVars false
namespace Go.DM
open Go

def exOf : Ex → Exit
  | .norm => .normal
  | .exit id => .exit id
  | .ret => .ret

theorem get_keep {ks : List Nat} {ρ : Env} {t : Nat} : get (keepOnly ks ρ) t = get ρ t ∨ get (keepOnly ks ρ) t = .bot := by
  induction ks with
  | nil => exact .inr rfl
  | cons k ks ih =>
    simp only [keepOnly, List.map_cons, get] at ih ⊢
    split
    · rename_i h; subst h; exact .inl rfl
    · exact ih

section
variable {num : Cfg} {S S' : Mem} {I I' : Inf} {σ σ' : Store} {w w' : World} {P : Program} {N : Names}

theorem RT.keep {ρ : Env} {tmps : Array Value} (h : RT num S I ρ tmps) (ks : List Nat) : RT num S I (keepOnly ks ρ) tmps := fun t => by
  rcases get_keep (ks := ks) (ρ := ρ) (t := t) with e | e <;> rw [e]
  · exact h t
  · simp

/-! ### behind the call, its own blocks are let go -/

def cut (I : Inf) (n : Nat) : Inf := fun l => if l < n then I l else none

theorem cut_lt {l n : Nat} (h : l < n) : cut I n l = I l := by simp [cut, h]

mutual
theorem Rep.cut_lt {n : Nat} (d : D) (v : Value) (h : D.lt n d = true) (hr : Rep num S I d v) : Rep num S (cut I n) d v := by
  match d with
  | .int .. | .bool .. | .str .. | .nilp | .nils | .nilf | .bot => simpa using hr
  | .ptr l off =>
    simp [D.lt] at h
    rw [rep_ptr] at *
    rw [DM.cut_lt h]; exact hr
  | .eptr l m i off =>
    simp [D.lt] at h
    rw [rep_eptr] at *
    rw [DM.cut_lt h]; exact hr
  | .sl l m =>
    simp [D.lt] at h
    rw [rep_sl] at *
    rw [DM.cut_lt h]; exact hr
  | .fptr d off => rw [rep_fptr] at *; exact hr
  | .list xs => rw [rep_list] at *; exact hr
  | .fn g caps =>
    rw [rep_fn] at *
    obtain ⟨vs, h1, h2⟩ := hr
    exact ⟨vs, h1, RepL.cut_lt caps vs (by simpa [D.lt] using h) h2⟩
  | .agg cs =>
    rw [rep_agg] at *
    obtain ⟨vs, h1, h2⟩ := hr
    exact ⟨vs, h1, RepL.cut_lt cs vs (by simpa [D.lt] using h) h2⟩
  | .tup cs =>
    rw [rep_tup] at *
    obtain ⟨vs, h1, h2⟩ := hr
    exact ⟨vs, h1, RepL.cut_lt cs vs (by simpa [D.lt] using h) h2⟩
theorem RepL.cut_lt {n : Nat} (ds : List D) (vs : List Value) (h : D.ltL n ds = true) (hr : RepL num S I ds vs) : RepL num S (cut I n) ds vs := by
  match ds with
  | [] => simpa using hr
  | d :: ds =>
    simp [D.ltL] at h
    rw [repL_cons] at *
    obtain ⟨v, vs', h1, h2, h3⟩ := hr
    exact ⟨v, vs', h1, Rep.cut_lt d v h.1 h2, RepL.cut_lt ds vs' h.2 h3⟩
end

theorem BlkAt.cut_lt {li : LI} {B : Blk} {n : Nat} (h : B.lt n = true) (k : BlkAt num S I w li B) : BlkAt num S (cut I n) w li B := by
  cases B with
  | box cs =>
    obtain ⟨h1, h2, vs, ty, h3, h4⟩ := k
    exact ⟨h1, h2, vs, ty, h3, RepL.cut_lt _ _ (by simpa [Blk.lt] using h) h4⟩
  | arr e xs =>
    obtain ⟨h1, h2, h3, h4, h5, vs, sp, ty, fr, h6, h7, h8⟩ := k
    refine ⟨h1, h2, h3, h4, h5, vs, sp, ty, fr, h6, RepL.cut_lt _ _ ?_ h7, h8⟩
    have : D.ltL n xs = true := by simpa [Blk.lt] using h
    clear h h4 h5 h7 h8
    induction xs with
    | nil => rfl
    | cons x xs ih =>
      simp [D.ltL] at this
      rw [List.flatMap_cons]
      have e : ∀ as bs, D.ltL n (as ++ bs) = (D.ltL n as && D.ltL n bs) := by
        intro as bs
        induction as with
        | nil => simp [D.ltL]
        | cons a as ih => simp [D.ltL, ih, Bool.and_assoc]
      rw [e, ih this.2]
      have : D.ltL n x.cells = true := by
        cases x <;> simpa [D.cells, D.ltL, D.lt] using this.1
      simp [this]
  | frz e xs => exact k
  | dead => trivial

theorem post_cut {σ0 : Store} {S0 : Mem} {I0 : Inf} {w0 : World} (h0 : Inv num S0 I0 σ0 w0) (h : Post num S0 I0 σ0 w0 S I σ w) (he : escOk σ0.length σ = true) :
    Post num S0 I0 σ0 w0 S (cut I σ0.length) (σ.take σ0.length) w := by
  have old : ∀ l B, (σ.take σ0.length)[l]? = some B → l < σ0.length ∧ σ[l]? = some B := fun l B e => by
    rw [List.getElem?_take] at e
    split at e
    · rename_i q; exact ⟨q, e⟩
    · cases e
  have some_lt : ∀ l li, cut I σ0.length l = some li → l < σ0.length ∧ I l = some li := fun l li e => by
    unfold cut at e
    split at e
    · rename_i q; exact ⟨q, e⟩
    · cases e
  refine ⟨h.s, ?_, ⟨h.inv.glob, h.inv.mem, ?_, ?_, ?_, ?_⟩, h.os, h.tape, h.output, h.size, h.frame, ?_, h.fresh⟩
  · intro l li e
    obtain ⟨li', e', g⟩ := h.i l li e
    refine ⟨li', ?_, g⟩
    rw [DM.cut_lt]
    · exact e'
    · rcases Nat.lt_or_ge l σ0.length with q | q
      · exact q
      · rw [h0.dom l q] at e; cases e
  · intro l hl
    unfold cut
    split
    · rename_i q
      refine h.inv.dom l ?_
      rw [List.length_take] at hl
      omega
    · rfl
  · intro l B e hl
    obtain ⟨q, e'⟩ := old l B e
    obtain ⟨li, h1, h2⟩ := h.inv.blk l B e' hl
    refine ⟨li, by rw [DM.cut_lt q]; exact h1, ?_⟩
    refine BlkAt.cut_lt ?_ h2
    unfold escOk at he
    rw [List.all_eq_true] at he
    exact he B (List.mem_of_getElem? e)
  · intro l l' B B' li li' e e' hl hl' i i' hne
    exact h.inv.sep l l' B B' li li' (old l B e).2 (old l' B' e').2 hl hl' (some_lt l li i).2 (some_lt l' li' i').2 hne
  · intro l B li o e hl i
    exact h.inv.own l B li o (old l B e).2 hl (some_lt l li i).2
  · rintro b ⟨l, B, li, e, hl, i, rfl⟩
    exact h.own _ ⟨l, B, li, (old l B e).2, hl, (some_lt l li i).2, rfl⟩

theorem get_zip {f : Nat → Option Nat} {ρ : Env} : ∀ {ks : List Nat} {vs : List D}, D.renL f (ks.map (get ρ)) = some vs → ∀ t, get (ks.zip vs) t = .bot ∨ D.ren f (get ρ t) = some (get (ks.zip vs) t)
  | [], vs, h, t => by simp [DM.get]
  | k :: ks, vs, h, t => by
    simp only [List.map_cons, D.renL] at h
    split at h
    · rename_i e es h1 h2
      cases h
      simp only [List.zip_cons_cons, DM.get]
      split
      · rename_i hk; subst hk; exact .inr h1
      · exact get_zip h2 t
    · cases h

theorem newRefs_ge {n : Nat} {vs : List D} : ∀ l ∈ newRefs n vs, n ≤ l := by
  have key : ∀ (rs as : List Nat), (∀ l ∈ as, n ≤ l) → (∀ l ∈ rs, n ≤ l) → ∀ l ∈ addRefs as rs, n ≤ l := by
    intro rs
    induction rs with
    | nil => intro as h _; exact h
    | cons r rs ih =>
      intro as h1 h2
      simp only [addRefs]
      refine ih _ ?_ (fun l hl => h2 l (by simp [hl]))
      split
      · exact h1
      · intro l hl
        rcases List.mem_append.1 hl with q | q
        · exact h1 l q
        · rw [List.mem_singleton] at q; subst q; exact h2 _ (by simp)
  exact key _ [] (by simp) (fun l hl => by
    rw [List.mem_filter] at hl
    simpa using hl.2)

/-- what is not meant any more is let go; the rest is told anew -/
theorem scope_sound {σ0 : Store} {S0 : Mem} {I0 : Inf} {w0 : World} {ks ls : List Nat} {ρ : Env} {vs : List D} {σ1 σ2 : Store} {tmps : Array Value} (h0 : Inv num S0 I0 σ0 w0) (h : Post num S0 I0 σ0 w0 S I σ w) (hr : RT num S I ρ tmps)
    (hle : σ0.length ≤ σ.length) (hn : ls.Nodup) (hge : ∀ l ∈ ls, σ0.length ≤ l) (h1 : D.renL (newPos σ0.length ls) (ks.map (get ρ)) = some vs) (h2 : renS (newPos σ0.length ls) (σ.take σ0.length) = some σ1) (h3 : subStore σ (newPos σ0.length ls) ls = some σ2) :
    ∃ I', Post num S0 I0 σ0 w0 S I' (σ1 ++ σ2) w ∧ RT num S I' (ks.zip vs) tmps := by
  let I' : Inf := fun l => if l < σ0.length then I l else (ls[l - σ0.length]?).bind I
  obtain ⟨r1, r2⟩ := renS_get h2
  obtain ⟨s1, _, s3⟩ := subStore_get h3
  have hl1 : σ1.length = σ0.length := by rw [r1, List.length_take]; omega
  have hf : ∀ l k li, newPos σ0.length ls l = some k → I l = some li → I' k = some li := by
    intro l k li hk hi
    unfold newPos at hk
    split at hk
    · rename_i q; cases hk; simp only [I', if_pos q]; exact hi
    · split at hk
      · rename_i q j hj
        cases hk
        simp only [I']
        rw [if_neg (by omega)]
        have e : σ0.length + j - σ0.length = j := by omega
        rw [e, posOf_get hj]
        exact hi
      · cases hk
  have look : ∀ l C, (σ1 ++ σ2)[l]? = some C → ∃ m B, σ[m]? = some B ∧ B.ren (newPos σ0.length ls) = some C ∧ I' l = I m ∧ newPos σ0.length ls m = some l := by
    intro l C e
    rcases Nat.lt_or_ge l σ0.length with q | q
    · rw [List.getElem?_append_left (by omega)] at e
      obtain ⟨B, b1, b2⟩ := r2 l C e
      rw [List.getElem?_take, if_pos q] at b1
      exact ⟨l, B, b1, b2, by simp only [I', if_pos q], by simp [newPos, q]⟩
    · rw [List.getElem?_append_right (by omega), hl1] at e
      obtain ⟨m, B, b1, b2, b3⟩ := s3 _ C e
      have hm := hge m (List.mem_of_getElem? b1)
      refine ⟨m, B, b2, b3, ?_, ?_⟩
      · simp only [I']
        rw [if_neg (by omega), b1]
        rfl
      · unfold newPos
        rw [if_neg (by omega), posOf_some hn b1]
        simp only [Option.some.injEq]
        omega
  refine ⟨I', ⟨h.s, ?_, ⟨h.inv.glob, h.inv.mem, ?_, ?_, ?_, ?_⟩, h.os, h.tape, h.output, h.size, h.frame, ?_, h.fresh⟩, ?_⟩
  · intro l li e
    obtain ⟨li', e', g⟩ := h.i l li e
    refine ⟨li', ?_, g⟩
    have hlt : l < σ0.length := by
      rcases Nat.lt_or_ge l σ0.length with q | q
      · exact q
      · rw [h0.dom l q] at e; cases e
    simp only [I', if_pos hlt]
    exact e'
  · intro l hl
    rw [List.length_append, hl1, s1] at hl
    simp only [I']
    rw [if_neg (by omega), List.getElem?_eq_none (by omega)]
    rfl
  · intro l C e hlive
    obtain ⟨m, B, b1, b2, b3, b4⟩ := look l C e
    obtain ⟨li, i1, i2⟩ := h.inv.blk m B b1 (hlive.imp (fun q => by rw [← ren_live b2]; exact q) (fun q => ren_frz b2 q))
    exact ⟨li, b3.trans i1, BlkAt.ren hf b2 i2⟩
  · intro l l' C C' li li' e e' hl hl' i i' hne
    obtain ⟨m, B, b1, b2, b3, b4⟩ := look l C e
    obtain ⟨m', B', b1', b2', b3', b4'⟩ := look l' C' e'
    refine h.inv.sep m m' B B' li li' b1 b1' (by rw [← ren_live b2]; exact hl) (by rw [← ren_live b2']; exact hl') (b3.symm.trans i) (b3'.symm.trans i') ?_
    rintro rfl
    rw [b4] at b4'
    exact hne (Option.some.inj b4')
  · intro l C li o e hl i
    obtain ⟨m, B, b1, b2, b3, b4⟩ := look l C e
    exact h.inv.own m B li o b1 (by rw [← ren_live b2]; exact hl) (b3.symm.trans i)
  · rintro b ⟨l, C, li, e, hl, i, rfl⟩
    obtain ⟨m, B, b1, b2, b3, b4⟩ := look l C e
    exact h.own _ ⟨m, B, li, b1, by rw [← ren_live b2]; exact hl, b3.symm.trans i, rfl⟩
  · intro t
    rcases get_zip h1 t with e | e
    · rw [e]; simp
    · exact Rep.ren hf _ _ _ e (hr t)

theorem trimS_sound {σ0 : Store} {S0 : Mem} {I0 : Inf} {w0 : World} {sc : Option (List Nat)} {e e' : Ex} {ρ ρ' : Env} {tmps : Array Value} (h0 : Inv num S0 I0 σ0 w0) (h : Post num S0 I0 σ0 w0 S I σ w) (hr : RT num S I ρ tmps)
    (hs : trimS sc σ0.length (some (e, ρ, σ)) = some (e', ρ', σ')) : e' = e ∧ ∃ I', Post num S0 I0 σ0 w0 S I' σ' w ∧ RT num S I' ρ' tmps := by
  cases sc with
  | none => simp [trimS] at hs; obtain ⟨rfl, rfl, rfl⟩ := hs; exact ⟨rfl, I, h, hr⟩
  | some ks =>
    simp only [trimS, inScope, scopeOf] at hs
    split at hs
    · rename_i hk
      split at hs
      · rename_i vs σ1 σ2 q1 q2 q3
        cases hs
        exact ⟨rfl, scope_sound h0 h hr hk.1 hk.2 newRefs_ge q1 q2 q3⟩
      · cases hs
    · cases hs

section
variable (hN : ∀ f g, N.gid f = some g → num g = f) {call : CallD} (hg : Good num P call) (hm : P.follows .mixedOrders = true) {nt : Nat}
include hN hg hm

theorem code_sound (n : Nat) : ∀ (c : Code) (dc : DCode), compileC P N nt c = some dc.bare → okC c dc = true → ∀ {Q : Exit → Act → World → Prop} {S : Mem} {I : Inf} {σ σ' : Store} {w : World} {ρ ρ' : Env} {a : Act} {e : Ex}, evC call n dc ρ σ = some (e, ρ', σ') →
    Inv num S I σ w → RT num S I ρ a.tmps → a.tmps.size = nt →
    (∀ a' w' S' I', RT num S' I' ρ' a'.tmps → Post num S I σ w S' I' σ' w' → a'.defers = a.defers → a'.tmps.size = nt → Q (exOf e) a' w') → c.wp P Q a w := by
  intro c
  induction c with
  | skip =>
    intro dc hc hok Q S I σ σ' w ρ ρ' a e h hv hr hs hK
    cases dc <;> simp [compileC, DCode.bare] at hc
    simp [evC] at h
    obtain ⟨rfl, rfl, rfl⟩ := h
    exact wp_skip (hK a w S I hr (Post.refl hv) rfl hs)
  | exit id =>
    intro dc hc hok Q S I σ σ' w ρ ρ' a e h hv hr hs hK
    cases dc <;> simp [compileC, DCode.bare] at hc
    subst hc
    simp [evC] at h
    obtain ⟨rfl, rfl, rfl⟩ := h
    exact wp_exit (hK a w S I hr (Post.refl hv) rfl hs)
  | ret =>
    intro dc hc hok Q S I σ σ' w ρ ρ' a e h hv hr hs hK
    cases dc <;> simp [compileC, DCode.bare] at hc
    simp [evC] at h
    obtain ⟨rfl, rfl, rfl⟩ := h
    exact wp_ret (hK a w S I (hr.keep _) (Post.refl hv) rfl hs)
  | region id ops draw =>
    intro dc hc hok Q S I σ σ' w ρ ρ' a e h hv hr hs hK
    simp only [compileC] at hc
    split at hc
    · rename_i is his
      cases draw with
      | true =>
        simp only [if_true, Option.some.injEq] at hc
        cases dc <;> simp [DCode.bare] at hc
        · rename_i ms hds tls
          simp only [okC] at hok
          simp only [evC] at h
          split at h
          · rename_i ρ1 h1
            cases h2 : evIs call tls ρ1 σ with
            | none => rw [h2] at h; simp [ofIs] at h
            | some p =>
              obtain ⟨ρ2, σ2⟩ := p
              rw [h2] at h
              simp only [ofIs] at h
              cases h
              exact draw_sound hN hg hm his (by simpa using hc) hok h1 h2 hv hr hs hK
          · cases h
        · simp [evC] at h
      | false =>
        simp only [Bool.false_eq_true, if_false, Option.some.injEq] at hc
        cases dc <;> simp [DCode.bare] at hc
        simp only [okC] at hok
        simp only [evC, ofIs] at h
        split at h
        · rename_i ρ1 σ1 h1
          cases h
          rw [hc] at his
          exact region_sound hN hg his hok h1 hv hr hs hK
        · cases h
    · cases hc
  | seq x y ihx ihy =>
    intro dc hc hok Q S I σ σ' w ρ ρ' a e h hv hr hs hK
    simp only [compileC] at hc
    split at hc
    · rename_i a' b' ha hb
      cases dc <;> simp [DCode.bare] at hc
      rename_i dx dy
      obtain ⟨rfl, rfl⟩ := hc
      simp only [okC, Bool.and_eq_true] at hok
      simp only [evC] at h
      refine wp_seq ?_
      cases h1 : evC call n dx ρ σ with
      | none => rw [h1] at h; simp [andThen] at h
      | some r =>
        obtain ⟨e1, ρ1, σ1⟩ := r
        rw [h1] at h
        refine ihx dx ha hok.1 h1 hv hr hs fun a1 w1 S1 I1 r1 p1 d1 s1 => ?_
        cases e1 with
        | norm =>
          simp only [andThen] at h
          exact ihy dy hb hok.2 h p1.inv r1 s1 fun a2 w2 S2 I2 r2 p2 d2 s2 => hK a2 w2 S2 I2 r2 (p1.trans p2) (d2.trans d1) s2
        | exit id => simp only [andThen] at h; cases h; exact hK a1 w1 S1 I1 r1 p1 d1 s1
        | ret => simp only [andThen] at h; cases h; exact hK a1 w1 S1 I1 r1 p1 d1 s1
    · cases hc
  | cond c0 x y ihx ihy =>
    intro dc hc hok Q S I σ σ' w ρ ρ' a e h hv hr hs hK
    simp only [compileC] at hc
    split at hc
    · rename_i c' a' b' h0 ha hb
      cases dc <;> simp [DCode.bare] at hc
      rename_i dc dx dy
      obtain ⟨rfl, rfl, rfl⟩ := hc
      simp only [okC, Bool.and_eq_true] at hok
      have k := opd_sound hN h0 hr
      simp only [evC] at h
      split at h
      · rename_i ht
        rw [ht, rep_bool] at k
        exact wp_cond_true k (ihx dx ha hok.1 h hv hr hs hK)
      · rename_i ht
        rw [ht, rep_bool] at k
        exact wp_cond_false k (ihy dy hb hok.2 h hv hr hs hK)
      · cases h
    · cases hc
  | block id b ih =>
    intro dc hc hok Q S I σ σ' w ρ ρ' a e h hv hr hs hK
    simp only [compileC, Option.map_eq_some_iff] at hc
    obtain ⟨b', hb, hc⟩ := hc
    cases dc <;> simp [DCode.bare] at hc
    rename_i id' ks db
    obtain ⟨rfl, rfl⟩ := hc
    simp only [okC] at hok
    simp only [evC] at h
    refine wp_block ?_
    cases h1 : evC call n db ρ σ with
    | none => rw [h1] at h; simp [inBlk] at h
    | some r =>
      obtain ⟨e1, ρ1, σ1⟩ := r
      rw [h1] at h
      refine ih db hb hok h1 hv hr hs fun a1 w1 S1 I1 r1 p1 d1 s1 => ?_
      cases e1 with
      | norm => simp only [inBlk] at h; cases h; exact hK a1 w1 S1 I1 (r1.keep _) p1 d1 s1
      | ret => simp only [inBlk] at h; cases h; exact hK a1 w1 S1 I1 r1 p1 d1 s1
      | exit id' =>
        simp only [inBlk] at h
        simp only [exOf, Exit.inBlock]
        split at h
        · rename_i hid
          cases h
          rw [if_pos hid]
          exact hK a1 w1 S1 I1 (r1.keep _) p1 d1 s1
        · rename_i hid
          cases h
          rw [if_neg hid]
          exact hK a1 w1 S1 I1 r1 p1 d1 s1
  | loop b ih =>
    intro dc hc hok Q S I σ σ' w ρ ρ' a e h hv hr hs hK
    simp only [compileC, Option.map_eq_some_iff] at hc
    obtain ⟨b', hb, hc⟩ := hc
    cases dc <;> simp [DCode.bare] at hc
    rename_i ks sc db
    subst hc
    simp only [okC] at hok
    simp only [evC] at h
    have key : ∀ (m : Nat) {S : Mem} {I : Inf} {σ : Store} {w : World} {ρ : Env} {a : Act}, iter (fun ρ σ => trimS sc σ.length (evC call n db (keepOnly ks ρ) σ)) m ρ σ = some (e, ρ', σ') → Inv num S I σ w → RT num S I ρ a.tmps → a.tmps.size = nt →
        (∀ a' w' S' I', RT num S' I' ρ' a'.tmps → Post num S I σ w S' I' σ' w' → a'.defers = a.defers → a'.tmps.size = nt → Q (exOf e) a' w') → Code.rounds P b Q m a w := by
      intro m
      induction m with
      | zero => intro S I σ w ρ a h; simp [iter] at h
      | succ m ihm =>
        intro S I σ w ρ a h hv hr hs hK
        simp only [iter] at h
        rw [rounds_succ]
        cases h1 : evC call n db (keepOnly ks ρ) σ with
        | none =>
          rw [h1] at h
          cases sc <;> simp [trimS, inScope, andThen] at h
        | some r =>
          obtain ⟨e1, ρ1, σ1⟩ := r
          rw [h1] at h
          refine ih db hb hok h1 hv (hr.keep ks) hs fun a1 w1 S1 I1 r1 p1 d1 s1 => ?_
          cases h2 : trimS sc σ.length (some (e1, ρ1, σ1)) with
          | none => rw [h2] at h; simp [andThen] at h
          | some r2 =>
            obtain ⟨e2, ρ2, σ2⟩ := r2
            rw [h2] at h
            obtain ⟨rfl, I2, p2, r2⟩ := trimS_sound hv p1 r1 h2
            cases e2 with
            | norm =>
              simp only [andThen] at h
              exact ihm h p2.inv r2 s1 fun a2 w2 S2 I2 r2 q2 d2 s2 => hK a2 w2 S2 I2 r2 (p2.trans q2) (d2.trans d1) s2
            | exit id => simp only [andThen] at h; cases h; exact hK a1 w1 S1 I2 r2 p2 d1 s1
            | ret => simp only [andThen] at h; cases h; exact hK a1 w1 S1 I2 r2 p2 d1 s1
    exact wp_loop_rounds n (key n h hv hr hs hK)
  | _ =>
    intro dc hc hok Q S I σ σ' w ρ ρ' a e h
    simp only [compileC] at hc
    cases dc <;> simp [DCode.bare] at hc
    simp [evC] at h
end

/-! ### functions -/

def resV (tmps : Array Value) : ResultVar → Sem Value
  | .tmp t => pure (tmps.getD t undef)
  | .cell a t => do loadVar t (← asAddr (tmps.getD a undef))

theorem load_as {T : TypeId} {v u : Value} (h : (Instr.loadAt T v).run P w = .ok u w) : (do loadVar T (← asAddr v) : Sem Value).run P w = .ok u w := by
  cases v with
  | pointer p =>
    cases p with
    | some a => exact h
    | none => cases h
  | _ => cases h

theorem res_sound {tmps : Array Value} {ρ : Env} : ∀ {rvs : List ResultVar} {rs : List DRes} {ds : List D}, mapO (compileR P tmps.size) rvs = some rs → resL ρ σ rs = some ds → Inv num S I σ w → RT num S I ρ tmps →
    ∃ vs, (rvs.mapM (resV tmps)).run P w = .ok vs w ∧ RepL num S I ds vs
  | [], rs, ds, hc, h, hv, hr => by
    simp [mapO] at hc
    subst hc
    simp [resL] at h
    subst h
    exact ⟨[], by simp, by simp⟩
  | x :: rvs, rs, ds, hc, h, hv, hr => by
    simp only [mapO] at hc
    split at hc
    · rename_i r hrr
      split at hc
      · rename_i rs' hrs
        cases hc
        simp only [resL] at h
        split at h
        · rename_i d hd
          split at h
          · rename_i ds' hds
            cases h
            obtain ⟨vs, h1, h2⟩ := res_sound hrs hds hv hr
            have one : ∃ v, (resV tmps x).run P w = .ok v w ∧ Rep num S I d v := by
              cases x with
              | tmp t =>
                simp only [compileR] at hrr
                split at hrr
                · cases hrr
                  simp [DRes.ev] at hd
                  subst hd
                  exact ⟨_, rfl, hr t⟩
                · cases hrr
              | cell t T =>
                simp only [compileR] at hrr
                split at hrr
                · simp only [Option.map_eq_some_iff] at hrr
                  obtain ⟨g, hg, rfl⟩ := hrr
                  simp only [DRes.ev] at hd
                  obtain ⟨u, k1, k2⟩ := load_sound hv hg (hr t) hd
                  exact ⟨u, load_as k1, k2⟩
                · cases hrr
            obtain ⟨v, k1, k2⟩ := one
            refine ⟨v :: vs, ?_, repL_cons.2 ⟨v, vs, rfl, k2, h2⟩⟩
            simp only [List.mapM_cons, Sem.run_bind, k1, Result.andThen_ok, h1, Sem.run_pure]
          · cases h
        · cases h
      · cases hc
    · cases hc

theorem results_sound {fn : Func} {rs : List DRes} {ds : List D} {ρ : Env} {tmps : Array Value} (hc : mapO (compileR P tmps.size) fn.results.toList = some rs) (h : resL ρ σ rs = some ds) (hv : Inv num S I σ w) (hr : RT num S I ρ tmps) :
    ∃ v, (results fn tmps).run P w = .ok v w ∧ Rep num S I (wrapRes ds) v := by
  obtain ⟨vs, h1, h2⟩ := res_sound hc h hv hr
  have e : results fn tmps = (do let vs ← fn.results.mapM (resV tmps); pure (if h : vs.size = 1 then vs[0] else .tuple vs)) := rfl
  have e2 : (fn.results.mapM (resV tmps)).run P w = .ok vs.toArray w := by
    rw [Array.mapM_eq_mapM_toList]
    simp [h1]
  rw [e, Sem.run_bind, e2, Result.andThen_ok, Sem.run_pure]
  refine ⟨_, rfl, ?_⟩
  have hl := repL_length h2
  match ds, vs, h2, hl with
  | [d], [v], h2, _ =>
    rw [repL_cons] at h2
    obtain ⟨v', vs', q, h3, _⟩ := h2
    cases q
    simpa [wrapRes] using h3
  | [], [], h2, _ =>
    simp only [wrapRes]
    exact rep_tup.2 ⟨[], by simp, by simp⟩
  | d :: d' :: ds, v :: v' :: vs, h2, _ =>
    simp only [wrapRes]
    exact rep_tup.2 ⟨_, by simp, h2⟩

theorem get_enter {args : List D} {k t : Nat} : (t < k → get (enterE k args) t = .bot) ∧ (k ≤ t → get (enterE k args) t = (args[t - k]?).getD .bot) := by
  induction args generalizing k with
  | nil => simp [enterE, get]
  | cons d ds ih =>
    simp only [enterE, get]
    refine ⟨fun h => ?_, fun h => ?_⟩
    · rw [if_neg (by omega)]
      exact ih.1 (by omega)
    · by_cases e : k = t
      · subst e; simp
      · rw [if_neg e, ih.2 (by omega)]
        have : t - k = (t - (k + 1)) + 1 := by omega
        rw [this, List.getElem?_cons_succ]

theorem rt_enter {args : List D} {vs : List Value} (h : RepL num S I args vs) (n : Nat) : RT num S I (enterE 0 args) (vs.toArray ++ Array.replicate n undef) := fun t => by
  rw [get_enter.2 (Nat.zero_le t)]
  simp only [Nat.sub_zero]
  cases hd : args[t]? with
  | none => simp
  | some d =>
    obtain ⟨v, h1, h2⟩ := repL_get h hd
    have hlt : t < vs.length := by
      rcases Nat.lt_or_ge t vs.length with q | q
      · exact q
      · rw [List.getElem?_eq_none q] at h1; cases h1
    have e : (vs.toArray ++ Array.replicate n undef).getD t undef = v := by
      rw [Array.getD_eq_getD_getElem?, Array.getElem?_append_left (by simpa using hlt)]
      simp [h1]
    rw [e]
    exact h2

/-- a law may stand for a function -/
def LawOk (num : Cfg) (P : Program) (g : Nat) (f : List D → Store → Option (D × Store)) : Prop :=
  ∀ args σ r σ', f args σ = some (r, σ') →
  (∃ fn, P.funcs[num g]? = some fn ∧ fn.body.isNone = false ∧ (fn.name == "runtime.NumGoroutine") = false) ∧
  ∀ S I w vs, Inv num S I σ w → RepL num S I args vs →
    Calls P (num g) vs.toArray w fun e w' => ∃ v S' I', e = .returned v ∧ Rep num S' I' r v ∧ Post num S I σ w S' I' σ' w'

/-- each row of the table is right; the names by which it calls others are its own -/
def TabOk (num : Cfg) (P : Program) (Γ : Tab) : Prop := ∀ g,
  match Γ g with
  | some (.code df) => ∃ fn N, (∀ f g, N.gid f = some g → num g = f) ∧ P.funcs[num g]? = some fn ∧ (fn.name == "runtime.NumGoroutine") = false ∧ compileF P N fn = some df.bare ∧ okF fn df = true
  | some (.law f) => LawOk num P g f
  | none => True

theorem evF_sound (hm : P.follows .mixedOrders = true) {Γ : Tab} (hΓ : TabOk num P Γ) : ∀ n, Good num P (evF Γ n)
  | 0 => fun g args σ r σ' h => by simp [evF] at h
  | n + 1 => fun g args σ r σ' h => by
    have ih := evF_sound hm hΓ n
    have hg := hΓ g
    simp only [evF] at h
    split at h
    · rename_i df hdf
      rw [hdf] at hg
      obtain ⟨fn, N, hN, hfn, hname, hcf, hok⟩ := hg
      split at h
      · rename_i hlen
        unfold compileF at hcf
        split at hcf
        · rename_i c rs hb hrs
          split at hcf
          · rename_i dc hdc
            simp only [] at hcf
            split at hcf
            · rename_i hnp
              have e1 : df.res = rs := (congrArg DFn.res (Option.some.inj hcf)).symm
              have e2 : df.body.bare = dc := (congrArg DFn.body (Option.some.inj hcf)).symm
              have e3 : df.np = fn.params.size + fn.nfree := (congrArg DFn.np (Option.some.inj hcf)).symm
              rw [e3] at hlen
              refine ⟨⟨fn, hfn, by rw [hb]; rfl, hname⟩, fun S I w vs hv hr => ?_⟩
              refine calls_of_wp hfn hb ?_
              have hsz : (vs.toArray ++ Array.replicate (fn.ntmps - vs.toArray.size) undef).size = fn.ntmps := by
                have := repL_length hr
                simp
                omega
              cases hev : evC (evF Γ n) n df.body (enterE 0 args) σ with
              | none => rw [hev] at h; simp [finish] at h
              | some x =>
                obtain ⟨e, ρ1, σ1⟩ := x
                rw [hev] at h
                refine code_sound hN ih hm n c _ (by rw [e2]; exact hdc) (by simpa [okF, hb] using hok) hev hv (rt_enter hr _) hsz fun a1 w1 S1 I1 r1 p1 d1 s1 => ?_
                obtain ⟨ds, hds, hfin⟩ : ∃ ds, resL ρ1 σ1 rs = some ds ∧ (if df.keep then some (wrapRes ds, σ1)
                      else match frz 8 σ1 (wrapRes ds) with
                      | some (d, σ') => if d.lt σ.length = true ∧ escOk σ.length σ' = true then some (d, σ'.take σ.length) else none
                      | none => none) = some (r, σ') := by
                  cases e with
                  | exit id => simp [finish] at h
                  | norm =>
                    simp only [finish, e1] at h
                    split at h
                    · rename_i ds hds; exact ⟨ds, hds, h⟩
                    · cases h
                  | ret =>
                    simp only [finish, e1] at h
                    split at h
                    · rename_i ds hds; exact ⟨ds, hds, h⟩
                    · cases h
                have hex : exOf e = .normal ∨ exOf e = .ret := by
                  cases e with
                  | exit id => simp [finish] at h
                  | norm => exact .inl rfl
                  | ret => exact .inr rfl
                obtain ⟨v, k1, k2⟩ := results_sound (fn := fn) (by rw [s1]; exact hrs) hds p1.inv r1
                have done : ∃ S' I', Rep num S' I' r v ∧ Post num S I σ w S' I' σ' w1 := by
                  split at hfin
                  · cases hfin
                    exact ⟨S1, I1, k2, p1⟩
                  · split at hfin
                    · rename_i d σ2 hd
                      split at hfin
                      · rename_i hk
                        cases hfin
                        obtain ⟨S2, p2, q2, _, _⟩ := frz_sound 8 hd p1.inv k2
                        exact ⟨S2, _, Rep.cut_lt _ _ hk.1 q2, post_cut hv (p1.trans p2) hk.2⟩
                      · cases hfin
                    · cases hfin
                obtain ⟨S2, I2, q1, q2⟩ := done
                have fin : a1.defers = [] ∧ ∃ v, (results fn a1.tmps).run P w1 = .ok v w1 ∧ (∃ v' S' I', Ending.returned v = .returned v' ∧ Rep num S' I' r v' ∧ Post num S I σ w S' I' σ' w1) :=
                  ⟨d1, v, k1, v, S2, I2, rfl, q1, q2⟩
                rcases hex with he | he <;> rw [he] <;> exact fin
            · cases hcf
          · cases hcf
        · cases hcf
      · cases h
    · rename_i f hf
      rw [hf] at hg
      exact hg args σ r σ' h
    · cases h

end
end Go.DM
