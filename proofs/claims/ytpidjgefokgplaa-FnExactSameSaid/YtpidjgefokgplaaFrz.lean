/- Freezing what the call has made: the same memory, never to be written again. -/
import Derived.Test.YtpidjgefokgplaaOps4
set_option linter.unnecessarySimpa false
set_option linter.unusedVariables false
set_option linter.unusedSimpArgs false
set_option linter.unusedSectionVars false
namespace Go.DM
open Go

section
variable {num : Cfg} {S S' : Mem} {I I' : Inf} {σ σ' : Store} {w w' : World}

mutual
/-- no place at all: whatever the places are -/
theorem Rep.noref (d : D) (v : Value) (h : D.lt 0 d = true) (hr : Rep num S I d v) : Rep num S noInf d v := by
  match d with
  | .int .. | .bool .. | .str .. | .nilp | .nils | .nilf => simpa using hr
  | .bot => simp
  | .ptr l off => simp [D.lt] at h
  | .eptr l n i off => simp [D.lt] at h
  | .sl l n => simp [D.lt] at h
  | .fptr d off => rw [rep_fptr] at *; exact hr
  | .list xs => rw [rep_list] at *; exact hr
  | .fn g caps =>
    rw [rep_fn] at *
    obtain ⟨vs, h1, h2⟩ := hr
    exact ⟨vs, h1, RepL.noref caps vs (by simpa [D.lt] using h) h2⟩
  | .agg cs =>
    rw [rep_agg] at *
    obtain ⟨vs, h1, h2⟩ := hr
    exact ⟨vs, h1, RepL.noref cs vs (by simpa [D.lt] using h) h2⟩
  | .tup cs =>
    rw [rep_tup] at *
    obtain ⟨vs, h1, h2⟩ := hr
    exact ⟨vs, h1, RepL.noref cs vs (by simpa [D.lt] using h) h2⟩
termination_by 3 * SizeOf.sizeOf d + 1
theorem RepL.noref (ds : List D) (vs : List Value) (h : D.ltL 0 ds = true) (hr : RepL num S I ds vs) : RepL num S noInf ds vs := by
  match ds with
  | [] => simpa using hr
  | d :: ds =>
    rw [repL_cons] at *
    obtain ⟨v, vs', h1, h2, h3⟩ := hr
    simp [D.ltL] at h
    exact ⟨v, vs', h1, Rep.noref d v h.1 h2, RepL.noref ds vs' h.2 h3⟩
termination_by 3 * SizeOf.sizeOf ds
end

/-- what a datum is for a place: its cells as many, and each a cell -/
def Alike (d d' : D) : Prop := d'.cells.length = d.cells.length ∧ (d.cells.all D.atom = true → d'.cells.all D.atom = true) ∧ (d.atom = true → d'.atom = true)

theorem Alike.refl (d : D) : Alike d d := ⟨rfl, id, id⟩

theorem cells_atom {d : D} (h : d.atom = true) : d.cells = [d] := by cases d <;> simp [D.atom] at h <;> rfl

theorem Alike.of_atoms {d d' : D} (h : d.atom = true) (h' : d'.atom = true) : Alike d d' := by
  refine ⟨by rw [cells_atom h, cells_atom h']; rfl, fun _ => by rw [cells_atom h']; simpa using h', fun _ => h'⟩

/-- a place that nobody looks behind any more -/
theorem post_dead {l : Nat} (h : Inv num S I σ w) : Post num S I σ w S I (σ.set l .dead) w := by
  have cases_l : ∀ k (C : Blk), (σ.set l .dead)[k]? = some C → (σ[k]? = some C) ∨ C = .dead := fun k C q => by
    rw [List.getElem?_set] at q
    split at q
    · split at q
      · exact .inr (Option.some.inj q).symm
      · cases q
    · exact .inl q
  refine ⟨SLe.refl S, ILe.refl I, ⟨h.glob, h.mem, fun k hk => h.dom k (by simpa using hk), ?_, ?_, ?_⟩, rfl, rfl, rfl, Nat.le_refl _, fun _ _ _ => rfl, ?_, fun _ _ _ h => .inl h⟩
  · intro k C q hl
    rcases cases_l k C q with q | rfl
    · exact h.blk k C q hl
    · rcases hl with hl | ⟨e, xs, hl⟩ <;> cases hl
  · intro k k' C C' li li' q q' h1 h2
    rcases cases_l k C q with q | rfl
    · rcases cases_l k' C' q' with q' | rfl
      · exact h.sep k k' C C' li li' q q' h1 h2
      · cases h2
    · cases h1
  · intro k C li o q h1
    rcases cases_l k C q with q | rfl
    · exact h.own k C li o q h1
    · cases h1
  · rintro b ⟨k, C, li, q, h1, h2, rfl⟩
    rcases cases_l k C q with q | rfl
    · exact .inl ⟨k, C, li, q, h1, h2, rfl⟩
    · cases h1

/-- a datum out of its cells -/
theorem rep_of_cells {d : D} {vs : List Value} (h : RepL num S I d.cells vs) (ha : d.cells.all D.atom = true) : ∃ v, Rep num S I d v ∧ v.cells.toList = vs := by
  have one : ∀ d : D, d.cells = [d] → d.atom = true → RepL num S I d.cells vs → ∃ v, Rep num S I d v ∧ v.cells.toList = vs := by
    intro d hd hat h
    rw [hd, repL_cons] at h
    obtain ⟨v, vs', rfl, h1, h2⟩ := h
    rw [repL_nil] at h2; subst h2
    exact ⟨v, h1, by rw [(rep_one h1 hat).2]⟩
  cases d with
  | agg cs => exact ⟨.agg vs.toArray, rep_agg.2 ⟨vs, rfl, h⟩, by simp [Value.cells]⟩
  | _ => exact one _ rfl (by simpa [D.cells] using ha) h

def FrzOk (num : Cfg) (f : Store → D → Option (D × Store)) : Prop :=
  ∀ ⦃S : Mem⦄ ⦃I : Inf⦄ ⦃σ σ' : Store⦄ ⦃w : World⦄ ⦃d d' : D⦄ ⦃v : Value⦄, f σ d = some (d', σ') → Inv num S I σ w → Rep num S I d v →
    ∃ S', Post num S I σ w S' I σ' w ∧ Rep num S' I d' v ∧ Alike d d' ∧ σ'.length = σ.length

theorem mapS_sound {f : Store → D → Option (D × Store)} (hf : FrzOk num f) {ds ds' : List D} {vs : List Value} (h : mapS f σ ds = some (ds', σ')) (hv : Inv num S I σ w) (hr : RepL num S I ds vs) :
    ∃ S', Post num S I σ w S' I σ' w ∧ RepL num S' I ds' vs ∧ ds'.length = ds.length ∧ (ds.all D.atom = true → ds'.all D.atom = true) ∧ σ'.length = σ.length := by
  induction ds generalizing S σ ds' vs with
  | nil =>
    simp [mapS] at h
    obtain ⟨rfl, rfl⟩ := h
    exact ⟨S, Post.refl hv, hr, rfl, id, rfl⟩
  | cons d ds ih =>
    simp only [mapS] at h
    split at h
    · rename_i e σ1 h1
      split at h
      · rename_i es σ2 h2
        cases h
        rw [repL_cons] at hr
        obtain ⟨v, vs', rfl, r1, r2⟩ := hr
        obtain ⟨S1, p1, q1, a1, l1⟩ := hf h1 hv r1
        obtain ⟨S2, p2, q2, a2, a3, l2⟩ := ih h2 p1.inv (RepL.mono p1.s p1.i _ _ r2)
        refine ⟨S2, p1.trans p2, repL_cons.2 ⟨v, vs', rfl, Rep.mono p2.s p2.i _ _ q1, q2⟩, by simp [a2], fun ha => ?_, by omega⟩
        simp only [List.all_cons, Bool.and_eq_true] at *
        exact ⟨a1.2.2 ha.1, a3 ha.2⟩
      · cases h
    · cases h

/-- elements, in a row -/
theorem mapS_elems {f : Store → D → Option (D × Store)} (hf : FrzOk num f) {e : Nat} {xs ys : List D} {vs : List Value} (h : mapS f σ xs = some (ys, σ')) (hv : Inv num S I σ w)
    (hall : ∀ x ∈ xs, x.cells.length = e ∧ x.cells.all D.atom = true) (hr : RepL num S I (xs.flatMap D.cells) vs) :
    ∃ S', Post num S I σ w S' I σ' w ∧ RepL num S' I (ys.flatMap D.cells) vs ∧ ys.length = xs.length ∧ (∀ y ∈ ys, y.cells.length = e ∧ y.cells.all D.atom = true) ∧ σ'.length = σ.length := by
  induction xs generalizing S σ ys vs with
  | nil =>
    simp [mapS] at h
    obtain ⟨rfl, rfl⟩ := h
    exact ⟨S, Post.refl hv, hr, rfl, by simp, rfl⟩
  | cons x xs ih =>
    simp only [mapS] at h
    split at h
    · rename_i y σ1 h1
      split at h
      · rename_i zs σ2 h2
        cases h
        rw [List.flatMap_cons, repL_append] at hr
        obtain ⟨v1, v2, rfl, r1, r2⟩ := hr
        have hx := hall x (by simp)
        obtain ⟨v, r3, r4⟩ := rep_of_cells r1 hx.2
        obtain ⟨S1, p1, q1, a1, l1⟩ := hf h1 hv r3
        obtain ⟨S2, p2, q2, a2, a3, l2⟩ := ih h2 p1.inv (fun z hz => hall z (by simp [hz])) (RepL.mono p1.s p1.i _ _ r2)
        have hy : y.cells.all D.atom = true := a1.2.1 hx.2
        have q3 := rep_cells (Rep.mono p2.s p2.i _ _ q1) hy
        rw [r4] at q3
        refine ⟨S2, p1.trans p2, by rw [List.flatMap_cons]; exact repL_append.2 ⟨v1, v2, rfl, q3, q2⟩, by simp [a2], fun z hz => ?_, by omega⟩
        rcases List.mem_cons.1 hz with rfl | hz
        · exact ⟨a1.1.trans hx.1, hy⟩
        · exact a3 z hz
      · cases h
    · cases h

theorem frz_sound : ∀ f, FrzOk num (frz f)
  | 0 => by intro S I σ σ' w d d' v h; simp [frz] at h
  | f + 1 => by
    have ih := frz_sound f
    intro S I σ σ' w d d' v h hv hr
    cases d with
    | nils =>
      simp [frz] at h
      obtain ⟨rfl, rfl⟩ := h
      refine ⟨S, Post.refl hv, ?_, Alike.of_atoms rfl rfl, rfl⟩
      simp at hr
      obtain ⟨a, rfl⟩ := hr
      exact rep_list.2 ⟨a, 0, rfl, Nat.le_refl _, .inl rfl⟩
    | agg cs =>
      simp only [frz] at h
      split at h
      · rename_i es σ1 h1
        cases h
        rw [rep_agg] at hr
        obtain ⟨vs, rfl, r1⟩ := hr
        obtain ⟨S1, p1, q1, a1, a2, l1⟩ := mapS_sound ih h1 hv r1
        exact ⟨S1, p1, rep_agg.2 ⟨vs, rfl, q1⟩, ⟨a1, a2, fun h => by cases h⟩, l1⟩
      · cases h
    | tup cs =>
      simp only [frz] at h
      split at h
      · rename_i es σ1 h1
        cases h
        rw [rep_tup] at hr
        obtain ⟨vs, rfl, r1⟩ := hr
        obtain ⟨S1, p1, q1, a1, a2, l1⟩ := mapS_sound ih h1 hv r1
        exact ⟨S1, p1, rep_tup.2 ⟨vs, rfl, q1⟩, ⟨rfl, fun h => by simp [D.cells, D.atom] at h, fun h => by cases h⟩, l1⟩
      · cases h
    | sl l n =>
      have hr' := hr
      rw [rep_sl] at hr
      obtain ⟨li, a, c, hl1, hl2, hl3, rfl, hl4⟩ := hr
      simp only [frz] at h
      split at h
      · rename_i e xs hl
        split at h
        · rename_i hn
          cases h
          obtain ⟨li', m1, m2, m3, m4, m5, m6, m7, m8⟩ := hv.blk l _ hl (.inr ⟨e, xs, rfl⟩)
          rw [hl1] at m1; cases m1
          obtain ⟨rfl, rfl⟩ := hl4 (by omega)
          refine ⟨S, Post.refl hv, rep_list.2 ⟨_, _, by rw [hn], by omega, .inr ⟨li.b, 0, e, rfl, m4, m8⟩⟩, Alike.of_atoms rfl rfl, rfl⟩
        · cases h
      · rename_i e xs hl
        split at h
        · rename_i hn
          split at h
          · rename_i ys σ2 h2
            split at h
            · rename_i hnr
              cases h
              obtain ⟨li', m1, m2, m3, m4, m5, m6, vs, sp, ty, fr, m7, m8, m9, m10⟩ := hv.blk l _ hl (.inl rfl)
              rw [hl1] at m1; cases m1
              obtain ⟨rfl, rfl⟩ := hl4 (by omega)
              have p0 := post_dead (l := l) hv
              obtain ⟨S2, p2, q2, a2, a3, l2⟩ := mapS_elems ih h2 p0.inv m6 m8
              have hlt : l < σ.length := by
                rcases Nat.lt_or_ge l σ.length with q | q
                · exact q
                · rw [List.getElem?_eq_none q] at hl; cases hl
              have hlt2 : l < σ2.length := by rw [l2]; simpa using hlt
              have hcur : ∀ o v, vs[o]? = some v → w.cell? ⟨li.b, o, none⟩ = some v := fun o v ho => by
                have : (vs ++ sp)[o]? = some v := by
                  rw [List.getElem?_append_left]
                  · exact ho
                  · rcases Nat.lt_or_ge o vs.length with q | q
                    · exact q
                    · rw [List.getElem?_eq_none q] at ho; cases ho
                simp only [World.cell?, m7]
                simpa using this
              let S3 : Mem := fun b o => if b = li.b ∧ o < vs.length then vs[o]? else S2 b o
              have hS : SLe S2 S3 := fun b o v e => by
                simp only [S3]
                split
                · rename_i hc
                  obtain ⟨rfl, ho⟩ := hc
                  have h1 := p2.inv.mem _ _ _ e
                  have h2 := hcur o vs[o] (List.getElem?_eq_getElem ho)
                  rw [h1] at h2
                  rw [List.getElem?_eq_getElem ho]; exact h2.symm
                · exact e
              have hnorefR : RepL num S2 noInf (ys.flatMap D.cells) vs := by
                refine RepL.noref _ _ ?_ q2
                have : ∀ (zs : List D), D.ltL 0 zs = true → D.ltL 0 (zs.flatMap D.cells) = true := by
                  intro zs
                  induction zs with
                  | nil => intro _; rfl
                  | cons z zs ih =>
                    intro h
                    simp [D.ltL] at h
                    have app : ∀ (as bs : List D), D.ltL 0 (as ++ bs) = (D.ltL 0 as && D.ltL 0 bs) := by
                      intro as bs
                      induction as with
                      | nil => simp [D.ltL]
                      | cons a as ih => simp [D.ltL, ih, Bool.and_assoc]
                    rw [List.flatMap_cons, app, ih h.2, Bool.and_true]
                    cases z <;> simp [D.cells, D.ltL, D.lt] at h ⊢ <;> exact h.1
                exact this ys hnr
              have hE : RepE num S3 li.b 0 e ys := by
                rw [repE_flat]
                refine ⟨repM_of_cells (RepL.mono hS (ILe.refl _) _ _ hnorefR) fun j v hj => ?_, fun x hx => (a3 x hx).1⟩
                have hj' : j < vs.length := by
                  rcases Nat.lt_or_ge j vs.length with q | q
                  · exact q
                  · rw [List.getElem?_eq_none q] at hj; cases hj
                simp [S3, hj', hj]
                rw [List.getElem?_eq_getElem hj'] at hj
                exact Option.some.inj hj
              have hncap : n ≤ li.cap := by
                have hvl := repL_length m8
                rw [flat_length (fun x hx => (m6 x hx).1), hn] at hvl
                have q1 : n * e ≤ li.cap * e := by rw [← m9, ← hvl]; simp
                exact Nat.le_of_mul_le_mul_right q1 m4
              have cases_l : ∀ k C, (σ2.set l (.frz e ys))[k]? = some C → (k ≠ l ∧ σ2[k]? = some C) ∨ (k = l ∧ C = .frz e ys) := fun k C q => by
                by_cases hk : k = l
                · subst hk
                  rw [List.getElem?_set_self hlt2] at q
                  exact .inr ⟨rfl, (Option.some.inj q).symm⟩
                · rw [List.getElem?_set_ne (Ne.symm hk)] at q
                  exact .inl ⟨hk, q⟩
              -- what is live lies elsewhere
              have apart : ∀ k C lk, σ2[k]? = some C → C.live = true → I k = some lk → lk.b ≠ li.b := fun k C lk q1 q2 q3 => by
                intro hb
                have ho : Owned I σ2 lk.b := ⟨k, C, lk, q1, q2, q3, rfl⟩
                rcases p2.own _ ho with ⟨k', C', lk', r1, r2, r3, r4⟩ | r
                · have hne : k' ≠ l := by
                    rintro rfl
                    rw [List.getElem?_set_self hlt] at r1
                    cases r1; cases r2
                  rw [List.getElem?_set_ne (Ne.symm hne)] at r1
                  exact hv.sep k' l C' _ lk' li r1 hl r2 rfl r3 hl1 hne (r4.trans hb)
                · have := p2.inv.live_lt q1 q2 q3
                  omega
              have p02 := p0.trans p2
              have hown : Owned I σ li.b := ⟨l, _, li, hl, rfl, hl1, rfl⟩
              have p3 : Post num S I σ w S3 I (σ2.set l (.frz e ys)) w := by
                refine ⟨p02.s.trans hS, ILe.refl I, ⟨hv.glob.trans (p02.s.trans hS), ?_, ?_, ?_, ?_, ?_⟩, rfl, rfl, rfl, Nat.le_refl _, fun _ _ _ => rfl, ?_, ?_⟩
                · intro b o v q
                  simp only [S3] at q
                  split at q
                  · rename_i hc; obtain ⟨rfl, _⟩ := hc; exact hcur o v q
                  · exact p2.inv.mem b o v q
                · intro k hk; exact p2.inv.dom k (by simpa using hk)
                · intro k C q hlive
                  rcases cases_l k C q with ⟨hk, q'⟩ | ⟨rfl, rfl⟩
                  · obtain ⟨lk, h1, h2⟩ := p2.inv.blk k C q' hlive
                    exact ⟨lk, h1, h2.mono hS (ILe.refl I) fun _ => rfl⟩
                  · exact ⟨li, hl1, hl2, m3, m4, by omega, by omega, fun x hx => (a3 x hx).2, hE⟩
                · intro k k' C C' l1 l2 q q' h1 h2 i1 i2 hne
                  rcases cases_l k C q with ⟨hk, r⟩ | ⟨rfl, rfl⟩
                  · rcases cases_l k' C' q' with ⟨hk', r'⟩ | ⟨rfl, rfl⟩
                    · exact p2.inv.sep k k' C C' l1 l2 r r' h1 h2 i1 i2 hne
                    · cases h2
                  · cases h1
                · intro k C lk o q h1 i1
                  rcases cases_l k C q with ⟨hk, r⟩ | ⟨rfl, rfl⟩
                  · simp only [S3]
                    rw [if_neg (fun hc => apart k C lk r h1 i1 hc.1)]
                    exact p2.inv.own k C lk o r h1 i1
                  · cases h1
                · rintro b ⟨k, C, lk, q, h1, i1, rfl⟩
                  rcases cases_l k C q with ⟨hk, r⟩ | ⟨rfl, rfl⟩
                  · exact p02.own _ ⟨k, C, lk, r, h1, i1, rfl⟩
                  · cases h1
                · intro b o v q
                  simp only [S3] at q
                  split at q
                  · rename_i hc; obtain ⟨rfl, _⟩ := hc; exact .inr (.inr hown)
                  · exact p02.fresh b o v q
              refine ⟨S3, p3, rep_list.2 ⟨_, _, by rw [a2, hn], by omega, .inr ⟨li.b, 0, e, rfl, m4, hE⟩⟩, Alike.of_atoms rfl rfl, ?_⟩
              rw [List.length_set, l2, List.length_set]
            · cases h
          · cases h
        · cases h
      · cases h
    | int k n => simp [frz] at h; obtain ⟨rfl, rfl⟩ := h; exact ⟨S, Post.refl hv, hr, Alike.refl _, rfl⟩
    | bool b => simp [frz] at h; obtain ⟨rfl, rfl⟩ := h; exact ⟨S, Post.refl hv, hr, Alike.refl _, rfl⟩
    | str s => simp [frz] at h; obtain ⟨rfl, rfl⟩ := h; exact ⟨S, Post.refl hv, hr, Alike.refl _, rfl⟩
    | nilp => simp [frz] at h; obtain ⟨rfl, rfl⟩ := h; exact ⟨S, Post.refl hv, hr, Alike.refl _, rfl⟩
    | nilf => simp [frz] at h; obtain ⟨rfl, rfl⟩ := h; exact ⟨S, Post.refl hv, hr, Alike.refl _, rfl⟩
    | ptr l o => simp [frz] at h; obtain ⟨rfl, rfl⟩ := h; exact ⟨S, Post.refl hv, hr, Alike.refl _, rfl⟩
    | eptr l n i o => simp [frz] at h; obtain ⟨rfl, rfl⟩ := h; exact ⟨S, Post.refl hv, hr, Alike.refl _, rfl⟩
    | fptr d o => simp [frz] at h; obtain ⟨rfl, rfl⟩ := h; exact ⟨S, Post.refl hv, hr, Alike.refl _, rfl⟩
    | list xs => simp [frz] at h; obtain ⟨rfl, rfl⟩ := h; exact ⟨S, Post.refl hv, hr, Alike.refl _, rfl⟩
    | fn g cs => simp [frz] at h; obtain ⟨rfl, rfl⟩ := h; exact ⟨S, Post.refl hv, hr, Alike.refl _, rfl⟩
    | bot => simp [frz] at h; obtain ⟨rfl, rfl⟩ := h; exact ⟨S, Post.refl hv, hr, Alike.refl _, rfl⟩
end
end Go.DM
