/- A call sees but the blocks that its arguments lead to, by numbers of its own. -/
import Derived.Test.YtpidjgefokgplaaFrz
set_option linter.unnecessarySimpa false
set_option linter.unusedVariables false
set_option linter.unusedSimpArgs false
set_option linter.unusedSectionVars false
namespace Go.DM
open Go

section
variable {num : Cfg} {S S' : Mem} {I I' : Inf} {σ σ' : Store} {w w' : World}

mutual
theorem Rep.ren {f : Nat → Option Nat} {I J : Inf} (hf : ∀ l k li, f l = some k → I l = some li → J k = some li) (d e : D) (v : Value) (h : D.ren f d = some e) (hr : Rep num S I d v) : Rep num S J e v := by
  match d with
  | .int .. | .bool .. | .str .. | .nilp | .nils | .nilf | .bot => simp [D.ren] at h; subst h; simpa using hr
  | .ptr l o =>
    simp only [D.ren] at h
    split at h
    · rename_i k hk
      cases h
      rw [rep_ptr] at *
      obtain ⟨li, h1, h2⟩ := hr
      exact ⟨li, hf l k li hk h1, h2⟩
    · cases h
  | .eptr l n i o =>
    simp only [D.ren] at h
    split at h
    · rename_i k hk
      cases h
      rw [rep_eptr] at *
      obtain ⟨li, a, h1, h2⟩ := hr
      exact ⟨li, a, hf l k li hk h1, h2⟩
    · cases h
  | .sl l n =>
    simp only [D.ren] at h
    split at h
    · rename_i k hk
      cases h
      rw [rep_sl] at *
      obtain ⟨li, a, c, h1, h2⟩ := hr
      exact ⟨li, a, c, hf l k li hk h1, h2⟩
    · cases h
  | .fptr d o => simp [D.ren] at h; subst h; rw [rep_fptr] at *; exact hr
  | .list xs => simp [D.ren] at h; subst h; rw [rep_list] at *; exact hr
  | .fn g cs =>
    simp only [D.ren] at h
    split at h
    · rename_i es hes
      cases h
      rw [rep_fn] at *
      obtain ⟨vs, h1, h2⟩ := hr
      exact ⟨vs, h1, RepL.ren hf cs es vs hes h2⟩
    · cases h
  | .agg cs =>
    simp only [D.ren] at h
    split at h
    · rename_i es hes
      cases h
      rw [rep_agg] at *
      obtain ⟨vs, h1, h2⟩ := hr
      exact ⟨vs, h1, RepL.ren hf cs es vs hes h2⟩
    · cases h
  | .tup cs =>
    simp only [D.ren] at h
    split at h
    · rename_i es hes
      cases h
      rw [rep_tup] at *
      obtain ⟨vs, h1, h2⟩ := hr
      exact ⟨vs, h1, RepL.ren hf cs es vs hes h2⟩
    · cases h
theorem RepL.ren {f : Nat → Option Nat} {I J : Inf} (hf : ∀ l k li, f l = some k → I l = some li → J k = some li) (ds es : List D) (vs : List Value) (h : D.renL f ds = some es) (hr : RepL num S I ds vs) : RepL num S J es vs := by
  match ds with
  | [] => simp [D.renL] at h; subst h; simpa using hr
  | d :: ds =>
    simp only [D.renL] at h
    split at h
    · rename_i e es' h1 h2
      cases h
      rw [repL_cons] at *
      obtain ⟨v, vs', k1, k2, k3⟩ := hr
      exact ⟨v, vs', k1, Rep.ren hf d e v h1 k2, RepL.ren hf ds es' vs' h2 k3⟩
    · cases h
end

theorem ren_cells {f : Nat → Option Nat} {d e : D} (h : D.ren f d = some e) : D.renL f d.cells = some e.cells := by
  cases d <;> simp only [D.ren] at h <;> (try split at h) <;> (try (cases h; done)) <;> (try cases h) <;> simp_all [D.cells, D.renL, D.ren]

theorem ren_atom {f : Nat → Option Nat} {d e : D} (h : D.ren f d = some e) : e.atom = d.atom := by
  cases d <;> simp only [D.ren] at h <;> (try split at h) <;> (try (cases h; done)) <;> (try cases h) <;> rfl

theorem renL_length {f : Nat → Option Nat} {ds es : List D} (h : D.renL f ds = some es) : es.length = ds.length := by
  induction ds generalizing es with
  | nil => simp [D.renL] at h; subst h; rfl
  | cons d ds ih =>
    simp only [D.renL] at h
    split at h
    · rename_i e es' h1 h2
      cases h
      simp [ih h2]
    · cases h

theorem renL_all {f : Nat → Option Nat} {ds es : List D} (h : D.renL f ds = some es) (ha : ds.all D.atom = true) : es.all D.atom = true := by
  induction ds generalizing es with
  | nil => simp [D.renL] at h; subst h; rfl
  | cons d ds ih =>
    simp only [D.renL] at h
    split at h
    · rename_i e es' h1 h2
      cases h
      simp only [List.all_cons, Bool.and_eq_true] at *
      exact ⟨by rw [ren_atom h1]; exact ha.1, ih h2 ha.2⟩
    · cases h

theorem renL_append {f : Nat → Option Nat} {as bs es fs : List D} (h : D.renL f as = some es) (k : D.renL f bs = some fs) : D.renL f (as ++ bs) = some (es ++ fs) := by
  induction as generalizing es with
  | nil => simp [D.renL] at h; subst h; exact k
  | cons a as ih =>
    simp only [D.renL] at h
    split at h
    · rename_i e es' h1 h2
      cases h
      simp [D.renL, h1, ih h2]
    · cases h

theorem renL_flat {f : Nat → Option Nat} {xs ys : List D} (h : D.renL f xs = some ys) : D.renL f (xs.flatMap D.cells) = some (ys.flatMap D.cells) := by
  induction xs generalizing ys with
  | nil => simp [D.renL] at h; subst h; rfl
  | cons x xs ih =>
    simp only [D.renL] at h
    split at h
    · rename_i e es' h1 h2
      cases h
      rw [List.flatMap_cons, List.flatMap_cons]
      exact renL_append (ren_cells h1) (ih h2)
    · cases h

theorem renL_width {f : Nat → Option Nat} {e : Nat} {xs ys : List D} (h : D.renL f xs = some ys) (hx : ∀ x ∈ xs, x.cells.length = e ∧ x.cells.all D.atom = true) : ∀ y ∈ ys, y.cells.length = e ∧ y.cells.all D.atom = true := by
  induction xs generalizing ys with
  | nil => simp [D.renL] at h; subst h; simp
  | cons x xs ih =>
    simp only [D.renL] at h
    split at h
    · rename_i z zs h1 h2
      cases h
      intro y hy
      rw [List.mem_cons] at hy
      rcases hy with rfl | hy
      · have h3 := ren_cells h1
        have h4 := hx x (by simp)
        exact ⟨(renL_length h3).trans h4.1, renL_all h3 h4.2⟩
      · exact ih h2 (fun x hx' => hx x (by simp [hx'])) y hy
    · cases h

theorem ren_live {f : Nat → Option Nat} {B C : Blk} (h : B.ren f = some C) : C.live = B.live := by
  cases B <;> simp only [Blk.ren] at h <;> (try split at h) <;> (try (cases h; done)) <;> (try cases h) <;> rfl
theorem ren_frz {f : Nat → Option Nat} {B C : Blk} (h : B.ren f = some C) (hC : ∃ e xs, C = .frz e xs) : ∃ e xs, B = .frz e xs := by
  obtain ⟨e, xs, rfl⟩ := hC
  cases B <;> simp only [Blk.ren] at h <;> (try split at h) <;> (try (cases h; done)) <;> (try cases h)
  exact ⟨_, _, rfl⟩

theorem BlkAt.ren {f : Nat → Option Nat} {I J : Inf} (hf : ∀ l k li, f l = some k → I l = some li → J k = some li) {li : LI} {B C : Blk} (h : B.ren f = some C) (k : BlkAt num S I w li B) : BlkAt num S J w li C := by
  cases B with
  | box cs =>
    simp only [Blk.ren] at h
    split at h
    · rename_i es hes
      cases h
      obtain ⟨h1, h2, vs, ty, h3, h4⟩ := k
      exact ⟨h1, renL_all hes h2, vs, ty, h3, RepL.ren hf _ _ _ hes h4⟩
    · cases h
  | arr e xs =>
    simp only [Blk.ren] at h
    split at h
    · rename_i es hes
      cases h
      obtain ⟨h1, h2, h3, h4, h5, vs, sp, ty, fr, h6, h7, h8⟩ := k
      exact ⟨h1, h2, h3, h4.trans (renL_length hes).symm, renL_width hes h5, vs, sp, ty, fr, h6, RepL.ren hf _ _ _ (renL_flat hes) h7, h8⟩
    · cases h
  | frz e xs => simp [Blk.ren] at h; subst h; exact k
  | dead => simp [Blk.ren] at h; subst h; trivial

/-! ### the numbers -/

theorem posOf_get {ls : List Nat} {l k : Nat} (h : posOf ls l = some k) : ls[k]? = some l := by
  induction ls generalizing k with
  | nil => cases h
  | cons x r ih =>
    simp only [posOf] at h
    split at h
    · rename_i e; cases h; simp [e]
    · split at h
      · rename_i j hj
        cases h
        simpa using ih hj
      · cases h
theorem posOf_some {ls : List Nat} {l k : Nat} (hn : ls.Nodup) (h : ls[k]? = some l) : posOf ls l = some k := by
  induction ls generalizing k with
  | nil => simp at h
  | cons x r ih =>
    rw [List.nodup_cons] at hn
    cases k with
    | zero => simp at h; simp [posOf, h]
    | succ k =>
      simp at h
      have hne : x ≠ l := by
        rintro rfl
        exact hn.1 (List.mem_of_getElem? h)
      simp [posOf, hne, ih hn.2 h]
theorem posOf_none {ls : List Nat} {l : Nat} (h : posOf ls l = none) : ∀ k : Nat, ls[k]? ≠ some l := by
  induction ls with
  | nil => intro k; simp
  | cons x r ih =>
    simp only [posOf] at h
    split at h
    · cases h
    · rename_i hne
      split at h
      · cases h
      · rename_i hj
        intro k
        cases k with
        | zero => simpa using hne
        | succ k => simpa using ih hj k

theorem subStore_get {f : Nat → Option Nat} {ls : List Nat} {τ : Store} (h : subStore σ f ls = some τ) : τ.length = ls.length ∧ (∀ l ∈ ls, l < σ.length) ∧ ∀ (k : Nat) C, τ[k]? = some C → ∃ l B, ls[k]? = some l ∧ σ[l]? = some B ∧ B.ren f = some C := by
  induction ls generalizing τ with
  | nil => simp [subStore] at h; subst h; simp
  | cons l ls ih =>
    simp only [subStore] at h
    split at h
    · rename_i b hb
      split at h
      · rename_i b' τ' h1 h2
        cases h
        obtain ⟨i1, i2, i3⟩ := ih h2
        refine ⟨by simp [i1], fun x hx => ?_, fun k C hk => ?_⟩
        · rw [List.mem_cons] at hx
          rcases hx with rfl | hx
          · rcases Nat.lt_or_ge x σ.length with q | q
            · exact q
            · rw [List.getElem?_eq_none q] at hb; cases hb
          · exact i2 x hx
        · cases k with
          | zero => simp at hk; subst hk; exact ⟨l, b, rfl, hb, h1⟩
          | succ k => simpa using i3 k C (by simpa using hk)
      · cases h
    · cases h

theorem renS_get {f : Nat → Option Nat} {τ τ' : Store} (h : renS f τ = some τ') : τ'.length = τ.length ∧ ∀ (k : Nat) C, τ'[k]? = some C → ∃ B, τ[k]? = some B ∧ B.ren f = some C := by
  induction τ generalizing τ' with
  | nil => simp [renS] at h; subst h; simp
  | cons b τ ih =>
    simp only [renS] at h
    split at h
    · rename_i b' τ2 h1 h2
      cases h
      obtain ⟨i1, i2⟩ := ih h2
      refine ⟨by simp [i1], fun k C hk => ?_⟩
      cases k with
      | zero => simp at hk; subst hk; exact ⟨b, rfl, h1⟩
      | succ k => simpa using i2 k C (by simpa using hk)
    · cases h

theorem putBack_length {ls : List Nat} {τ : Store} (h : ls.length ≤ τ.length) : (putBack σ ls τ).length = σ.length + (τ.length - ls.length) := by
  induction ls generalizing σ τ with
  | nil => simp [putBack]
  | cons l ls ih =>
    cases τ with
    | nil => simp at h
    | cons b τ =>
      simp only [putBack]
      rw [ih (by simpa using h)]
      simp

theorem putBack_get {ls : List Nat} {τ : Store} (hn : ls.Nodup) (h : ls.length ≤ τ.length) (hl : ∀ l ∈ ls, l < σ.length) (l : Nat) :
    (putBack σ ls τ)[l]? = match posOf ls l with
      | some k => τ[k]?
      | none => if l < σ.length then σ[l]? else τ[ls.length + (l - σ.length)]? := by
  induction ls generalizing σ τ with
  | nil =>
    simp only [putBack, posOf]
    split
    · rename_i q; rw [List.getElem?_append_left q]
    · rename_i q
      rw [List.getElem?_append_right (by omega)]
      simp
  | cons x ls ih =>
    cases τ with
    | nil => simp at h
    | cons b τ =>
      rw [List.nodup_cons] at hn
      simp only [putBack]
      rw [ih hn.2 (by simpa using h) (fun l hl' => by rw [List.length_set]; exact hl l (by simp [hl']))]
      have hx : x < σ.length := hl x (by simp)
      simp only [posOf, List.length_set]
      by_cases e : x = l
      · subst e
        have : posOf ls x = none := by
          cases hp : posOf ls x with
          | none => rfl
          | some k => exact absurd (List.mem_of_getElem? (posOf_get hp)) hn.1
        rw [this]
        simp [hx]
      · rw [if_neg e]
        cases hp : posOf ls l with
        | some k => simp
        | none =>
          simp only []
          split
          · rw [List.getElem?_set_ne e]
          · simp only [List.length_cons]
            have : ls.length + 1 + (l - σ.length) = (ls.length + (l - σ.length)) + 1 := by omega
            rw [this, List.getElem?_cons_succ]

/-! ### the blocks behind the call -/

def subI (I : Inf) (ls : List Nat) : Inf := fun k => (ls[k]?).bind I

theorem subI_some {ls : List Nat} {k : Nat} {li : LI} (h : subI I ls k = some li) : ∃ l, ls[k]? = some l ∧ I l = some li := by
  unfold subI at h
  rw [Option.bind_eq_some_iff] at h
  exact h

theorem inv_sub (hv : Inv num S I σ w) {ls : List Nat} {τ : Store} (hn : ls.Nodup) (h : subStore σ (posOf ls) ls = some τ) : Inv num S (subI I ls) τ w := by
  obtain ⟨h1, h2, h3⟩ := subStore_get h
  refine ⟨hv.glob, hv.mem, ?_, ?_, ?_, ?_⟩
  · intro k hk
    unfold subI
    rw [List.getElem?_eq_none (by omega)]
    rfl
  · intro k C hC hlive
    obtain ⟨l, B, e1, e2, e3⟩ := h3 k C hC
    obtain ⟨li, i1, i2⟩ := hv.blk l B e2 (hlive.imp (fun q => by rw [← ren_live e3]; exact q) (fun q => ren_frz e3 q))
    refine ⟨li, by simp [subI, e1, i1], BlkAt.ren ?_ e3 i2⟩
    intro l' k' li' q q'
    simp [subI, posOf_get q, q']
  · intro k k' C C' li li' e e' hl hl' i i' hne
    obtain ⟨l, B, e1, e2, e3⟩ := h3 k C e
    obtain ⟨l', B', e1', e2', e3'⟩ := h3 k' C' e'
    obtain ⟨m, q1, q2⟩ := subI_some i
    obtain ⟨m', q1', q2'⟩ := subI_some i'
    rw [e1] at q1; cases q1
    rw [e1'] at q1'; cases q1'
    refine hv.sep l l' B B' li li' e2 e2' (by rw [← ren_live e3]; exact hl) (by rw [← ren_live e3']; exact hl') q2 q2' ?_
    rintro rfl
    have p1 := posOf_some hn e1
    have p2 := posOf_some hn e1'
    rw [p1] at p2
    exact hne (Option.some.inj p2)
  · intro k C li o e hl i
    obtain ⟨l, B, e1, e2, e3⟩ := h3 k C e
    obtain ⟨m, q1, q2⟩ := subI_some i
    rw [e1] at q1; cases q1
    exact hv.own l B li o e2 (by rw [← ren_live e3]; exact hl) q2

def backI (I : Inf) (n : Nat) (ls : List Nat) (J : Inf) : Inf := fun l =>
  match posOf ls l with
  | some k => J k
  | none => if l < n then I l else J (ls.length + (l - n))

theorem backI_of {n : Nat} {ls : List Nat} {J : Inf} (hn : ls.Nodup) (hl : ∀ l ∈ ls, l < n) {k l : Nat} (h : backOf ls n k = some l) : backI I n ls J l = J k := by
  unfold backOf at h
  split at h
  · unfold backI
    rw [posOf_some hn h]
  · rename_i q
    cases h
    unfold backI
    have : posOf ls (n + (k - ls.length)) = none := by
      cases hp : posOf ls (n + (k - ls.length)) with
      | none => rfl
      | some j =>
        have := hl _ (List.mem_of_getElem? (posOf_get hp))
        omega
    rw [this]
    simp only []
    rw [if_neg (by omega)]
    congr 1
    omega

theorem owned_sub {ls : List Nat} {τ : Store} (h : subStore σ (posOf ls) ls = some τ) {b : Nat} (ho : Owned (subI I ls) τ b) : ∃ l B li, l ∈ ls ∧ σ[l]? = some B ∧ B.live = true ∧ I l = some li ∧ li.b = b := by
  obtain ⟨k, C, li, e, hl, i, rfl⟩ := ho
  obtain ⟨_, _, h3⟩ := subStore_get h
  obtain ⟨l, B, e1, e2, e3⟩ := h3 k C e
  obtain ⟨m, q1, q2⟩ := subI_some i
  rw [e1] at q1; cases q1
  exact ⟨l, B, li, List.mem_of_getElem? e1, e2, by rw [← ren_live e3]; exact hl, q2, rfl⟩

theorem post_back (hv : Inv num S I σ w) {ls : List Nat} {τ τ' τ2 : Store} {J : Inf} (hn : ls.Nodup) (h : subStore σ (posOf ls) ls = some τ) (hp : Post num S (subI I ls) τ w S' J τ' w')
    (hlen : ls.length ≤ τ'.length) (h2 : renS (backOf ls σ.length) τ' = some τ2) : Post num S I σ w S' (backI I σ.length ls J) (putBack σ ls τ2) w' := by
  obtain ⟨s1, s2, s3⟩ := subStore_get h
  obtain ⟨r1, r2⟩ := renS_get h2
  have hlen2 : ls.length ≤ τ2.length := by omega
  have hget := fun l => putBack_get (σ := σ) (τ := τ2) hn hlen2 s2 l
  -- a block behind the call: an old one, untouched, or one of the callee's
  have cases_l : ∀ l C, (putBack σ ls τ2)[l]? = some C → (posOf ls l = none ∧ l < σ.length ∧ σ[l]? = some C ∧ backI I σ.length ls J l = I l) ∨
      (∃ k B, τ'[k]? = some B ∧ B.ren (backOf ls σ.length) = some C ∧ backI I σ.length ls J l = J k ∧ backOf ls σ.length k = some l) := by
    intro l C e
    rw [hget l] at e
    cases hp' : posOf ls l with
    | some k =>
      rw [hp'] at e
      obtain ⟨B, b1, b2⟩ := r2 k C e
      refine .inr ⟨k, B, b1, b2, by simp [backI, hp'], ?_⟩
      have := posOf_get hp'
      have hk : k < ls.length := by
        rcases Nat.lt_or_ge k ls.length with q | q
        · exact q
        · rw [List.getElem?_eq_none q] at this; cases this
      simp only [backOf, hk, if_true]
      exact this
    | none =>
      rw [hp'] at e
      simp only [] at e
      split at e
      · rename_i q
        exact .inl ⟨rfl, q, e, by simp [backI, hp', q]⟩
      · rename_i q
        obtain ⟨B, b1, b2⟩ := r2 _ C e
        refine .inr ⟨_, B, b1, b2, by simp [backI, hp', q], ?_⟩
        simp only [backOf]
        rw [if_neg (by omega)]
        congr 1
        omega
  have hback : ∀ l k li, backOf ls σ.length l = some k → J l = some li → backI I σ.length ls J k = some li := fun l k li q q' => by
    rw [backI_of hn s2 q]; exact q'
  have notOwned : ∀ l B li, posOf ls l = none → σ[l]? = some B → B.live = true → I l = some li → ¬ Owned (subI I ls) τ li.b := by
    intro l B li q1 q2 q3 q4 ho
    obtain ⟨l', B', li', m1, m2, m3, m4, m5⟩ := owned_sub h ho
    have hne : l' ≠ l := by
      rintro rfl
      obtain ⟨k, hk⟩ := List.getElem?_of_mem m1
      exact posOf_none q1 k hk
    exact hv.sep l' l B' B li' li m2 q2 m3 q3 m4 q4 hne m5
  have hI : ILe I (backI I σ.length ls J) := fun l li e => by
    cases hp' : posOf ls l with
    | some k =>
      have : subI I ls k = some li := by simp [subI, posOf_get hp', e]
      obtain ⟨li', g1, g2⟩ := hp.i k li this
      exact ⟨li', by simp [backI, hp', g1], g2⟩
    | none =>
      have hlt : l < σ.length := by
        rcases Nat.lt_or_ge l σ.length with q | q
        · exact q
        · rw [hv.dom l q] at e; cases e
      exact ⟨li, by simp [backI, hp', hlt, e], Grows.refl _⟩
  refine ⟨hp.s, hI, ⟨hp.inv.glob, hp.inv.mem, ?_, ?_, ?_, ?_⟩, hp.os, hp.tape, hp.output, hp.size, ?_, ?_, ?_⟩
  · intro l hl
    rw [putBack_length hlen2] at hl
    have hnone : posOf ls l = none := by
      cases hp' : posOf ls l with
      | none => rfl
      | some j =>
        have := s2 _ (List.mem_of_getElem? (posOf_get hp'))
        omega
    unfold backI
    rw [hnone]
    simp only []
    rw [if_neg (by omega)]
    exact hp.inv.dom _ (by omega)
  · intro l C e hlive
    rcases cases_l l C e with ⟨q1, q2, q3, q4⟩ | ⟨k, B, q1, q2, q3, q4⟩
    · obtain ⟨li, i1, i2⟩ := hv.blk l C q3 hlive
      refine ⟨li, q4.trans i1, i2.mono hp.s hI fun hl => ?_⟩
      exact hp.frame _ (hv.live_lt q3 hl i1) (notOwned l C li q1 q3 hl i1)
    · obtain ⟨li, i1, i2⟩ := hp.inv.blk k B q1 (hlive.imp (fun q => by rw [← ren_live q2]; exact q) (fun q => ren_frz q2 q))
      exact ⟨li, q3.trans i1, BlkAt.ren hback q2 i2⟩
  · have cross : ∀ l C k B li li', posOf ls l = none → σ[l]? = some C → C.live = true → I l = some li → τ'[k]? = some B → B.live = true → J k = some li' → li.b ≠ li'.b := by
      intro l C k B li li' a1 a2 a3 a4 a5 a6 a7 hb
      rcases hp.own li'.b ⟨k, B, li', a5, a6, a7, rfl⟩ with ho | ho
      · rw [← hb] at ho
        exact notOwned l C li a1 a2 a3 a4 ho
      · have := hv.live_lt a2 a3 a4
        omega
    intro l l' C C' li li' e e' hl hl' i i' hne
    rcases cases_l l C e with ⟨q1, q2, q3, q4⟩ | ⟨k, B, q1, q2, q3, q4⟩
    · rcases cases_l l' C' e' with ⟨q1', q2', q3', q4'⟩ | ⟨k', B', q1', q2', q3', q4'⟩
      · exact hv.sep l l' C C' li li' q3 q3' hl hl' (q4.symm.trans i) (q4'.symm.trans i') hne
      · exact cross l C k' B' li li' q1 q3 hl (q4.symm.trans i) q1' (by rw [← ren_live q2']; exact hl') (q3'.symm.trans i')
    · rcases cases_l l' C' e' with ⟨q1', q2', q3', q4'⟩ | ⟨k', B', q1', q2', q3', q4'⟩
      · exact fun hb => cross l' C' k B li' li q1' q3' hl' (q4'.symm.trans i') q1 (by rw [← ren_live q2]; exact hl) (q3.symm.trans i) hb.symm
      · refine hp.inv.sep k k' B B' li li' q1 q1' (by rw [← ren_live q2]; exact hl) (by rw [← ren_live q2']; exact hl') (q3.symm.trans i) (q3'.symm.trans i') ?_
        rintro rfl
        rw [q4] at q4'
        exact hne (Option.some.inj q4')
  · intro l C li o e hl i
    rcases cases_l l C e with ⟨q1, q2, q3, q4⟩ | ⟨k, B, q1, q2, q3, q4⟩
    · have i' : I l = some li := q4.symm.trans i
      cases hs : S' li.b o with
      | none => rfl
      | some v =>
        exfalso
        rcases hp.fresh _ _ _ hs with f | f | f
        · rw [hv.own l C li o q3 hl i'] at f; cases f
        · have := hv.live_lt q3 hl i'; omega
        · exact notOwned l C li q1 q3 hl i' f
    · exact hp.inv.own k B li o q1 (by rw [← ren_live q2]; exact hl) (q3.symm.trans i)
  · intro b hb ho
    refine hp.frame b hb fun ho' => ho ?_
    obtain ⟨l, B, li, _, m2, m3, m4, m5⟩ := owned_sub h ho'
    exact ⟨l, B, li, m2, m3, m4, m5⟩
  · rintro b ⟨l, C, li, e, hl, i, rfl⟩
    rcases cases_l l C e with ⟨q1, q2, q3, q4⟩ | ⟨k, B, q1, q2, q3, q4⟩
    · exact .inl ⟨l, C, li, q3, hl, q4.symm.trans i, rfl⟩
    · rcases hp.own li.b ⟨k, B, li, q1, by rw [← ren_live q2]; exact hl, q3.symm.trans i, rfl⟩ with ho | ho
      · obtain ⟨l', B', li', _, m2, m3, m4, m5⟩ := owned_sub h ho
        exact .inl ⟨l', B', li', m2, m3, m4, m5⟩
      · exact .inr ho
  · intro b o v e
    rcases hp.fresh b o v e with f | f | f
    · exact .inl f
    · exact .inr (.inl f)
    · obtain ⟨l', B', li', _, m2, m3, m4, m5⟩ := owned_sub h f
      exact .inr (.inr ⟨l', B', li', m2, m3, m4, m5⟩)
end

/-- what the machine says of a call, the model does -/
def CallOk (num : Cfg) (P : Program) (g : Nat) (args : List D) (σ : Store) (r : D) (σ' : Store) : Prop :=
  (∃ fn, P.funcs[num g]? = some fn ∧ fn.body.isNone = false ∧ (fn.name == "runtime.NumGoroutine") = false) ∧
  ∀ S I w vs, Inv num S I σ w → RepL num S I args vs →
    Calls P (num g) vs.toArray w fun e w' => ∃ v S' I', e = .returned v ∧ Rep num S' I' r v ∧ Post num S I σ w S' I' σ' w'

def Good (num : Cfg) (P : Program) (call : CallD) : Prop := ∀ g args σ r σ', call g args σ = some (r, σ') → CallOk num P g args σ r σ'

theorem Good.inn {num : Cfg} {P : Program} {call : CallD} (hg : Good num P call) {g : Nat} {args : List D} {σ σ' : Store} {r : D} (h : callIn call g args σ = some (r, σ')) : CallOk num P g args σ r σ' := by
  unfold callIn callAt at h
  generalize reach σ 3 (addRefs [] (D.refsL args)) = ls at h
  split at h
  · rename_i hn
    split at h
    · rename_i es τ h1 h2
      split at h
      · rename_i r1 τ' h3
        split at h
        · rename_i hlen
          split at h
          · rename_i r' τ2 h4 h5
            cases h
            obtain ⟨k1, k2⟩ := hg g es τ r1 τ' h3
            refine ⟨k1, fun S I w vs hv hr => ?_⟩
            have hsub : ∀ l k li, posOf ls l = some k → I l = some li → subI I ls k = some li := fun l k li q q' => by simp [subI, posOf_get q, q']
            refine Calls.mono (k2 S (subI I ls) w vs (inv_sub hv hn h2) (RepL.ren hsub _ _ _ h1 hr)) ?_
            rintro e w' ⟨v, S', J, rfl, hv', hp⟩
            have hp2 := post_back hv hn h2 hp hlen h5
            refine ⟨v, S', _, rfl, Rep.ren ?_ _ _ _ h4 hv', hp2⟩
            intro l k li q q'
            rw [backI_of hn (subStore_get h2).2.1 q]
            exact q'
          · cases h
        · cases h
      · cases h
    · cases h
  · cases h

/-! ### arguments seen as they are now -/
section
variable {num : Cfg} {S S' : Mem} {I I' : Inf} {σ σ' : Store} {w w' : World}

/-- all that is there -/
def memOf (w : World) : Mem := fun b o => w.cell? ⟨b, o, none⟩

theorem inv_none (num : Cfg) (w : World) (hG : SLe num.G (memOf w)) : Inv num (memOf w) noInf [] w :=
  ⟨hG, fun _ _ _ h => h, fun _ _ => rfl, fun l B e _ => by simp at e, fun l _ B _ _ _ e => by simp at e, fun l B _ _ e => by simp at e⟩

def VwOk (num : Cfg) (σ : Store) (f : D → Option D) : Prop :=
  ∀ ⦃S : Mem⦄ ⦃I : Inf⦄ ⦃w : World⦄ ⦃d d' : D⦄ ⦃v : Value⦄, f d = some d' → Inv num S I σ w → Rep num S I d v → Rep num (memOf w) noInf d' v ∧ Alike d d'

theorem mapV_sound {f : D → Option D} (hf : VwOk num σ f) {ds ds' : List D} {vs : List Value} (h : mapV f ds = some ds') (hv : Inv num S I σ w) (hr : RepL num S I ds vs) :
    RepL num (memOf w) noInf ds' vs ∧ ds'.length = ds.length ∧ (ds.all D.atom = true → ds'.all D.atom = true) := by
  induction ds generalizing ds' vs with
  | nil =>
    simp [mapV] at h
    subst h
    exact ⟨by simpa using hr, rfl, id⟩
  | cons d ds ih =>
    simp only [mapV] at h
    split at h
    · rename_i e h1
      split at h
      · rename_i es h2
        cases h
        rw [repL_cons] at hr
        obtain ⟨v, vs', rfl, r1, r2⟩ := hr
        obtain ⟨q1, a1⟩ := hf h1 hv r1
        obtain ⟨q2, a2, a3⟩ := ih h2 r2
        refine ⟨repL_cons.2 ⟨v, vs', rfl, q1, q2⟩, by simp [a2], fun ha => ?_⟩
        simp only [List.all_cons, Bool.and_eq_true] at *
        exact ⟨a1.2.2 ha.1, a3 ha.2⟩
      · cases h
    · cases h

theorem mapV_elems {f : D → Option D} (hf : VwOk num σ f) {e : Nat} {xs ys : List D} {vs : List Value} (h : mapV f xs = some ys) (hv : Inv num S I σ w)
    (hall : ∀ x ∈ xs, x.cells.length = e ∧ x.cells.all D.atom = true) (hr : RepL num S I (xs.flatMap D.cells) vs) :
    RepL num (memOf w) noInf (ys.flatMap D.cells) vs ∧ ys.length = xs.length ∧ (∀ y ∈ ys, y.cells.length = e ∧ y.cells.all D.atom = true) := by
  induction xs generalizing ys vs with
  | nil =>
    simp [mapV] at h
    subst h
    exact ⟨by simpa using hr, rfl, by simp⟩
  | cons x xs ih =>
    simp only [mapV] at h
    split at h
    · rename_i y h1
      split at h
      · rename_i zs h2
        cases h
        rw [List.flatMap_cons, repL_append] at hr
        obtain ⟨v1, v2, rfl, r1, r2⟩ := hr
        have hx := hall x (by simp)
        obtain ⟨v, r3, r4⟩ := rep_of_cells r1 hx.2
        obtain ⟨q1, a1⟩ := hf h1 hv r3
        obtain ⟨q2, a2, a3⟩ := ih h2 (fun z hz => hall z (by simp [hz])) r2
        have hy : y.cells.all D.atom = true := a1.2.1 hx.2
        have q3 := rep_cells q1 hy
        rw [r4] at q3
        refine ⟨by rw [List.flatMap_cons]; exact repL_append.2 ⟨v1, v2, rfl, q3, q2⟩, by simp [a2], fun z hz => ?_⟩
        rcases List.mem_cons.1 hz with rfl | hz
        · exact ⟨a1.1.trans hx.1, hy⟩
        · exact a3 z hz
      · cases h
    · cases h

theorem vw_sound : ∀ f, VwOk num σ (vw f σ)
  | 0 => by intro S I w d d' v h; simp [vw] at h
  | f + 1 => by
    have ih := vw_sound f
    intro S I w d d' v h hv hr
    have hSM : SLe S (memOf w) := fun b o v e => hv.mem b o v e
    cases d with
    | nils =>
      simp [vw] at h
      subst h
      simp at hr
      obtain ⟨a, rfl⟩ := hr
      exact ⟨rep_list.2 ⟨a, 0, rfl, Nat.le_refl _, .inl rfl⟩, Alike.of_atoms rfl rfl⟩
    | agg cs =>
      simp only [vw] at h
      split at h
      · rename_i es h1
        cases h
        rw [rep_agg] at hr
        obtain ⟨vs, rfl, r1⟩ := hr
        obtain ⟨q1, a1, a2⟩ := mapV_sound ih h1 hv r1
        exact ⟨rep_agg.2 ⟨vs, rfl, q1⟩, a1, a2, fun h => by cases h⟩
      · cases h
    | tup cs =>
      simp only [vw] at h
      split at h
      · rename_i es h1
        cases h
        rw [rep_tup] at hr
        obtain ⟨vs, rfl, r1⟩ := hr
        obtain ⟨q1, a1, a2⟩ := mapV_sound ih h1 hv r1
        exact ⟨rep_tup.2 ⟨vs, rfl, q1⟩, rfl, fun h => by simp [D.cells, D.atom] at h, fun h => by cases h⟩
      · cases h
    | fn g cs =>
      simp only [vw] at h
      split at h
      · rename_i es h1
        cases h
        rw [rep_fn] at hr
        obtain ⟨vs, rfl, r1⟩ := hr
        obtain ⟨q1, a1, a2⟩ := mapV_sound ih h1 hv r1
        exact ⟨rep_fn.2 ⟨vs, rfl, q1⟩, Alike.of_atoms rfl rfl⟩
      · cases h
    | sl l n =>
      rw [rep_sl] at hr
      obtain ⟨li, a, c, hl1, hl2, hl3, rfl, hl4⟩ := hr
      simp only [vw] at h
      split at h
      · rename_i e xs hl
        split at h
        · rename_i hn
          cases h
          obtain ⟨li', m1, m2, m3, m4, m5, m6, m7, m8⟩ := hv.blk l _ hl (.inr ⟨e, xs, rfl⟩)
          rw [hl1] at m1; cases m1
          obtain ⟨rfl, rfl⟩ := hl4 (by omega)
          exact ⟨rep_list.2 ⟨_, _, by rw [hn], by omega, .inr ⟨li.b, 0, e, rfl, m4, RepE.mono hSM _ _ _ _ m8⟩⟩, Alike.of_atoms rfl rfl⟩
        · cases h
      · rename_i e xs hl
        split at h
        · rename_i hn
          split at h
          · rename_i ys h2
            cases h
            obtain ⟨li', m1, m2, m3, m4, m5, m6, vs, sp, ty, fr, m7, m8, m9, m10⟩ := hv.blk l _ hl (.inl rfl)
            rw [hl1] at m1; cases m1
            obtain ⟨rfl, rfl⟩ := hl4 (by omega)
            obtain ⟨q2, a2, a3⟩ := mapV_elems ih h2 hv m6 m8
            have hcur : ∀ o v, vs[o]? = some v → w.cell? ⟨li.b, o, none⟩ = some v := fun o v ho => by
              have : (vs ++ sp)[o]? = some v := by
                rw [List.getElem?_append_left]
                · exact ho
                · rcases Nat.lt_or_ge o vs.length with q | q
                  · exact q
                  · rw [List.getElem?_eq_none q] at ho; cases ho
              simp only [World.cell?, m7]
              simpa using this
            have hE : RepE num (memOf w) li.b 0 e ys := by
              rw [repE_flat]
              exact ⟨repM_of_cells q2 fun j v hj => by simpa [memOf] using hcur j v hj, fun x hx => (a3 x hx).1⟩
            have hncap : n ≤ li.cap := by
              have hvl := repL_length m8
              rw [flat_length (fun x hx => (m6 x hx).1), hn] at hvl
              have q1 : n * e ≤ li.cap * e := by rw [← m9, ← hvl]; simp
              exact Nat.le_of_mul_le_mul_right q1 m4
            exact ⟨rep_list.2 ⟨_, _, by rw [a2, hn], by omega, .inr ⟨li.b, 0, e, rfl, m4, hE⟩⟩, Alike.of_atoms rfl rfl⟩
          · cases h
        · cases h
      · cases h
    | ptr l off =>
      rw [rep_ptr] at hr
      obtain ⟨li, hl1, hl2, rfl⟩ := hr
      simp only [vw] at h
      split at h
      · rename_i cs hl
        split at h
        · rename_i es h2
          cases h
          obtain ⟨li', m1, m2, m3, vs, ty, m4, m5⟩ := hv.blk l _ hl (.inl rfl)
          rw [hl1] at m1; cases m1
          obtain ⟨q1, a1, a2⟩ := mapV_sound ih h2 hv m5
          refine ⟨rep_fptr.2 ⟨li.b, 0, by simp, ?_⟩, Alike.of_atoms rfl rfl⟩
          rw [repD_cells]
          refine repM_of_cells q1 fun j v hj => ?_
          simp only [memOf, World.cell?, m4]
          simpa using hj
        · cases h
      · cases h
    | eptr l n i o => simp [vw] at h
    | bot => simp [vw] at h
    | int k n => simp [vw] at h; subst h; exact ⟨by simpa using hr, Alike.refl _⟩
    | bool b => simp [vw] at h; subst h; exact ⟨by simpa using hr, Alike.refl _⟩
    | str s => simp [vw] at h; subst h; exact ⟨by simpa using hr, Alike.refl _⟩
    | nilp => simp [vw] at h; subst h; exact ⟨by simpa using hr, Alike.refl _⟩
    | nilf => simp [vw] at h; subst h; exact ⟨by simpa using hr, Alike.refl _⟩
    | fptr d o =>
      simp [vw] at h; subst h
      rw [rep_fptr] at hr
      obtain ⟨b, o', h1, h2⟩ := hr
      exact ⟨rep_fptr.2 ⟨b, o', h1, RepD.mono hSM _ _ _ h2⟩, Alike.refl _⟩
    | list xs =>
      simp [vw] at h; subst h
      rw [rep_list] at hr
      obtain ⟨a, cap, h1, h2, h3⟩ := hr
      refine ⟨rep_list.2 ⟨a, cap, h1, h2, h3.imp id ?_⟩, Alike.refl _⟩
      rintro ⟨b, o, e, e1, e2, e3⟩
      exact ⟨b, o, e, e1, e2, RepE.mono hSM _ _ _ _ e3⟩

mutual
/-- what means nothing frozen means the same, whatever is frozen -/
theorem Rep.sfree (d : D) (v : Value) (h : D.sfree d = true) (hr : Rep num S I d v) : Rep num S' I d v := by
  match d with
  | .int .. | .bool .. | .str .. | .nilp | .nils | .nilf | .bot => simpa using hr
  | .ptr l off => rw [rep_ptr] at *; exact hr
  | .eptr l m i off => rw [rep_eptr] at *; exact hr
  | .sl l m => rw [rep_sl] at *; exact hr
  | .fptr d off => simp [D.sfree] at h
  | .list xs =>
    simp [D.sfree] at h
    subst h
    rw [rep_list] at *
    obtain ⟨a, cap, h1, h2, h3⟩ := hr
    exact ⟨a, cap, h1, h2, .inl rfl⟩
  | .fn g caps =>
    rw [rep_fn] at *
    obtain ⟨vs, h1, h2⟩ := hr
    exact ⟨vs, h1, RepL.sfree caps vs (by simpa [D.sfree] using h) h2⟩
  | .agg cs =>
    rw [rep_agg] at *
    obtain ⟨vs, h1, h2⟩ := hr
    exact ⟨vs, h1, RepL.sfree cs vs (by simpa [D.sfree] using h) h2⟩
  | .tup cs =>
    rw [rep_tup] at *
    obtain ⟨vs, h1, h2⟩ := hr
    exact ⟨vs, h1, RepL.sfree cs vs (by simpa [D.sfree] using h) h2⟩
theorem RepL.sfree (ds : List D) (vs : List Value) (h : D.sfreeL ds = true) (hr : RepL num S I ds vs) : RepL num S' I ds vs := by
  match ds with
  | [] => simpa using hr
  | d :: ds =>
    simp [D.sfreeL] at h
    rw [repL_cons] at *
    obtain ⟨v, vs', h1, h2, h3⟩ := hr
    exact ⟨v, vs', h1, Rep.sfree d v h.1 h2, RepL.sfree ds vs' h.2 h3⟩
end

theorem sfreeL_append {as bs : List D} : D.sfreeL (as ++ bs) = (D.sfreeL as && D.sfreeL bs) := by
  induction as with
  | nil => simp [D.sfreeL]
  | cons a as ih => simp [D.sfreeL, ih, Bool.and_assoc]

theorem sfreeL_flat {xs : List D} (h : D.sfreeL xs = true) : D.sfreeL (xs.flatMap D.cells) = true := by
  induction xs with
  | nil => rfl
  | cons x xs ih =>
    simp [D.sfreeL] at h
    rw [List.flatMap_cons, sfreeL_append, ih h.2, Bool.and_true]
    cases x <;> simp [D.cells, D.sfreeL, D.sfree] at h ⊢ <;> exact h.1

theorem BlkAt.sfree {li : LI} {B : Blk} (h : B.sfree = true) (k : BlkAt num S I w li B) : BlkAt num S' I w li B := by
  cases B with
  | box cs =>
    obtain ⟨h1, h2, vs, ty, h3, h4⟩ := k
    exact ⟨h1, h2, vs, ty, h3, RepL.sfree _ _ (by simpa [Blk.sfree] using h) h4⟩
  | arr e xs =>
    obtain ⟨h1, h2, h3, h4, h5, vs, sp, ty, fr, h6, h7, h8⟩ := k
    exact ⟨h1, h2, h3, h4, h5, vs, sp, ty, fr, h6, RepL.sfree _ _ (sfreeL_flat (by simpa [Blk.sfree] using h)) h7, h8⟩
  | frz e xs => simp [Blk.sfree] at h
  | dead => trivial

/-- what was frozen for the call alone is not behind it -/
theorem post_free {M : Mem} {J : Inf} {τ : Store} (h : Post num M noInf [] w S' J τ w') (hG : SLe num.G S) (hS : SLe S M) (hf : τ.all Blk.sfree = true) : Post num S noInf [] w S J τ w' := by
  have hS' : SLe S S' := hS.trans h.s
  rw [List.all_eq_true] at hf
  refine ⟨SLe.refl S, h.i, ⟨hG, fun b o v e => h.inv.mem b o v (hS' b o v e), h.inv.dom, ?_, h.inv.sep, ?_⟩, h.os, h.tape, h.output, h.size, h.frame, h.own, fun _ _ _ e => .inl e⟩
  · intro l B e hl
    obtain ⟨li, h1, h2⟩ := h.inv.blk l B e hl
    exact ⟨li, h1, BlkAt.sfree (hf B (List.mem_of_getElem? e)) h2⟩
  · intro l B li o e hl hi
    have := h.inv.own l B li o e hl hi
    cases hs : S li.b o with
    | none => rfl
    | some v => rw [hS' _ _ _ hs] at this; cases this

theorem subI_nil (I : Inf) : subI I [] = noInf := by
  funext k
  simp [subI, noInf]

theorem Good.bor {P : Program} {call : CallD} (hg : Good num P call) {g : Nat} {args es : List D} {r : D} (hm : mapV (vw 8 σ) args = some es) (h : borIn call g es σ = some (r, σ')) : CallOk num P g args σ r σ' := by
  unfold borIn at h
  split at h
  · rename_i r1 τ h3
    split at h
    · rename_i hfr
      split at h
      · rename_i r' τ2 h4 h5
        cases h
        simp only [Bool.and_eq_true] at hfr
        obtain ⟨k1, k2⟩ := hg g es [] r1 τ h3
        refine ⟨k1, fun S I w vs hv hr => ?_⟩
        have hr' := (mapV_sound (vw_sound 8) hm hv hr).1
        refine Calls.mono (k2 (memOf w) noInf w vs (inv_none num w (hv.glob.trans fun b o v e => hv.mem b o v e)) hr') ?_
        rintro e w' ⟨v, S', J, rfl, hv', hp⟩
        have hp1 := post_free hp (S := S) hv.glob (fun b o v e => hv.mem b o v e) hfr.2
        have hp2 := post_back (ls := []) (τ := []) hv List.nodup_nil rfl (by rw [subI_nil]; exact hp1) (Nat.zero_le _) h5
        have epb : putBack σ [] τ2 = σ ++ τ2 := by simp [putBack]
        rw [epb] at hp2
        refine ⟨v, S, _, rfl, Rep.ren ?_ _ _ _ h4 (Rep.sfree _ _ hfr.1 hv'), hp2⟩
        intro l k li q q'
        rw [backI_of List.nodup_nil (by simp) q]
        exact q'
      · cases h
    · cases h
  · cases h
end
end Go.DM
