/- What holds of a world beside a store, and how both may turn. -/
import Derived.Test.YtpidjgefokgplaaRep
import Derived.Test.YtpidjgefokgplaaComp
import Derived.Below
set_option linter.unnecessarySimpa false
set_option linter.unusedVariables false
set_option linter.unusedSimpArgs false
set_option linter.unusedSectionVars false
namespace Go.DM
open Go

def Blk.live : Blk → Bool
  | .box _ | .arr _ _ => true
  | _ => false

section
variable (num : Cfg)

def BlkAt (S : Mem) (I : Inf) (w : World) (li : LI) : Blk → Prop
  | .box cs => li.box = true ∧ cs.all D.atom = true ∧ ∃ vs ty, w.heap[li.b]? = some (.cells vs.toArray ty (0, 0)) ∧ RepL num S I cs vs
  | .arr e xs => li.box = false ∧ li.esz = e ∧ 0 < e ∧ li.n = xs.length ∧ (∀ x ∈ xs, x.cells.length = e ∧ x.cells.all D.atom = true) ∧
      ∃ vs sp ty fr, w.heap[li.b]? = some (.cells (vs ++ sp).toArray ty fr) ∧ RepL num S I (xs.flatMap D.cells) vs ∧ (vs ++ sp).length = li.cap * e ∧ (∀ o, o < li.cap * e → ¬ (fr.1 ≤ o ∧ o < fr.2))
  | .frz e xs => li.box = false ∧ li.esz = e ∧ 0 < e ∧ li.n = xs.length ∧ li.n ≤ li.cap ∧ (∀ x ∈ xs, x.cells.all D.atom = true) ∧ RepE num S li.b 0 e xs
  | .dead => True

structure Inv (S : Mem) (I : Inf) (σ : Store) (w : World) : Prop where
  glob : SLe num.G S
  mem : ∀ b o v, S b o = some v → w.cell? ⟨b, o, none⟩ = some v
  dom : ∀ l, σ.length ≤ l → I l = none
  blk : ∀ l B, σ[l]? = some B → B.live = true ∨ (∃ e xs, B = .frz e xs) → ∃ li, I l = some li ∧ BlkAt num S I w li B
  sep : ∀ l l' B B' li li', σ[l]? = some B → σ[l']? = some B' → B.live = true → B'.live = true → I l = some li → I l' = some li' → l ≠ l' → li.b ≠ li'.b
  own : ∀ l B li o, σ[l]? = some B → B.live = true → I l = some li → S li.b o = none

def Owned (I : Inf) (σ : Store) (b : Nat) : Prop := ∃ l B li, σ[l]? = some B ∧ B.live = true ∧ I l = some li ∧ li.b = b

structure Post (S : Mem) (I : Inf) (σ : Store) (w : World) (S' : Mem) (I' : Inf) (σ' : Store) (w' : World) : Prop where
  s : SLe S S'
  i : ILe I I'
  inv : Inv num S' I' σ' w'
  os : w'.os = w.os
  tape : w'.tape = w.tape
  output : w'.output = w.output
  size : w.heap.size ≤ w'.heap.size
  frame : ∀ b, b < w.heap.size → ¬ Owned I σ b → w'.heap[b]? = w.heap[b]?
  own : ∀ b, Owned I' σ' b → Owned I σ b ∨ w.heap.size ≤ b
  fresh : ∀ b o v, S' b o = some v → S b o = some v ∨ w.heap.size ≤ b ∨ Owned I σ b
end

section
variable {num : Cfg} {S S' S'' : Mem} {I I' I'' : Inf} {σ σ' σ'' : Store} {w w' w'' : World}

theorem Post.refl (h : Inv num S I σ w) : Post num S I σ w S I σ w :=
  ⟨SLe.refl S, ILe.refl I, h, rfl, rfl, rfl, Nat.le_refl _, fun _ _ _ => rfl, fun _ h => .inl h, fun _ _ _ h => .inl h⟩

theorem Post.trans (h : Post num S I σ w S' I' σ' w') (k : Post num S' I' σ' w' S'' I'' σ'' w'') : Post num S I σ w S'' I'' σ'' w'' where
  s := h.s.trans k.s
  i := h.i.trans k.i
  inv := k.inv
  os := k.os.trans h.os
  tape := k.tape.trans h.tape
  output := k.output.trans h.output
  size := Nat.le_trans h.size k.size
  frame := fun b hb ho => by
    rw [k.frame b (Nat.lt_of_lt_of_le hb h.size) (fun e => (h.own b e).elim ho (fun q => by omega)), h.frame b hb ho]
  own := fun b e => (k.own b e).elim (h.own b) (fun q => .inr (Nat.le_trans h.size q))
  fresh := fun b o v e => by
    rcases k.fresh b o v e with e | e | e
    · exact h.fresh b o v e
    · exact .inr (.inl (Nat.le_trans h.size e))
    · exact .inr ((h.own b e).symm)

theorem cell_lt {b o : Nat} {v : Value} (h : w.cell? ⟨b, o, none⟩ = some v) : b < w.heap.size := by
  unfold World.cell? at h
  rcases Nat.lt_or_ge b w.heap.size with h' | h'
  · exact h'
  · simp [Array.getElem?_eq_none h'] at h

theorem Inv.mem_lt (h : Inv num S I σ w) {b o : Nat} {v : Value} (e : S b o = some v) : b < w.heap.size := cell_lt (h.mem b o v e)

/-- what is live lies in the heap -/
theorem Inv.live_lt (h : Inv num S I σ w) {l : Nat} {B : Blk} {li : LI} (e : σ[l]? = some B) (hl : B.live = true) (hi : I l = some li) : li.b < w.heap.size := by
  obtain ⟨li', h1, h2⟩ := h.blk l B e (.inl hl)
  rw [hi] at h1; cases h1
  cases B with
  | box cs =>
    obtain ⟨_, _, vs, ty, h3, _⟩ := h2
    rcases Nat.lt_or_ge li.b w.heap.size with h' | h'
    · exact h'
    · simp [Array.getElem?_eq_none h'] at h3
  | arr e xs =>
    obtain ⟨_, _, _, _, _, vs, sp, ty, fr, h3, _⟩ := h2
    rcases Nat.lt_or_ge li.b w.heap.size with h' | h'
    · exact h'
    · simp [Array.getElem?_eq_none h'] at h3
  | frz e xs => cases hl
  | dead => cases hl

theorem BlkAt.mono {li : LI} {B : Blk} (hS : SLe S S') (hI : ILe I I') (hw : B.live = true → w'.heap[li.b]? = w.heap[li.b]?) (h : BlkAt num S I w li B) : BlkAt num S' I' w' li B := by
  cases B with
  | box cs =>
    obtain ⟨h1, h2, vs, ty, h3, h4⟩ := h
    exact ⟨h1, h2, vs, ty, (hw rfl).trans h3, RepL.mono hS hI _ _ h4⟩
  | arr e xs =>
    obtain ⟨h1, h2, h3, h4, h5, vs, sp, ty, fr, h6, h7, h8⟩ := h
    exact ⟨h1, h2, h3, h4, h5, vs, sp, ty, fr, (hw rfl).trans h6, RepL.mono hS hI _ _ h7, h8⟩
  | frz e xs =>
    obtain ⟨h1, h2, h3, h4, h5, h6, h7⟩ := h
    exact ⟨h1, h2, h3, h4, h5, h6, RepE.mono hS _ _ _ _ h7⟩
  | dead => trivial

/-! ### a new block -/

def setI (I : Inf) (l : Nat) (li : LI) : Inf := fun k => if k = l then some li else I k

theorem setI_same {l : Nat} {li : LI} : setI I l li l = some li := by simp [setI]
theorem setI_ne {l k : Nat} {li : LI} (h : k ≠ l) : setI I l li k = I k := by simp [setI, h]

theorem ILe.setNew {l : Nat} {li : LI} (h : I l = none) : ILe I (setI I l li) := fun k li' e => by
  refine ⟨li', ?_, Grows.refl _⟩
  rw [setI_ne]
  · exact e
  · rintro rfl; rw [h] at e; cases e

def wpush (w : World) (o : Obj) : World := { w with heap := w.heap.push o }

theorem wpush_old {o : Obj} {b : Nat} (h : b < w.heap.size) : (wpush w o).heap[b]? = w.heap[b]? := by
  show (w.heap.push o)[b]? = _
  rw [Array.getElem?_push, if_neg (by omega)]
theorem wpush_new {o : Obj} : (wpush w o).heap[w.heap.size]? = some o := by
  show (w.heap.push o)[w.heap.size]? = _
  rw [Array.getElem?_push, if_pos rfl]

theorem cell_of_heap {b o : Nat} (h : w'.heap[b]? = w.heap[b]?) : w'.cell? ⟨b, o, none⟩ = w.cell? ⟨b, o, none⟩ := by
  unfold World.cell?; rw [h]

/-- the store one block longer -/
theorem post_new {o : Obj} {li : LI} {B : Blk} (h : Inv num S I σ w) (hb : li.b = w.heap.size) (hl : B.live = true)
    (hB : BlkAt num S (setI I σ.length li) (wpush w o) li B) : Post num S I σ w S (setI I σ.length li) (σ ++ [B]) (wpush w o) := by
  have hI : ILe I (setI I σ.length li) := ILe.setNew (h.dom _ (Nat.le_refl _))
  have old : ∀ l, l < σ.length → (σ ++ [B])[l]? = σ[l]? := fun l hl => by rw [List.getElem?_append_left hl]
  have cases_l : ∀ l C, (σ ++ [B])[l]? = some C → (l < σ.length ∧ σ[l]? = some C) ∨ (l = σ.length ∧ C = B) := fun l C e => by
    rcases Nat.lt_trichotomy l σ.length with q | q | q
    · rw [old l q] at e; exact .inl ⟨q, e⟩
    · subst q; simp at e; exact .inr ⟨rfl, e.symm⟩
    · rw [List.getElem?_append_right (by omega)] at e
      have : ([B] : List Blk)[l - σ.length]? = none := by simp; omega
      rw [this] at e; cases e
  have Iold : ∀ l, l < σ.length → setI I σ.length li l = I l := fun l q => setI_ne (by omega)
  refine ⟨SLe.refl S, hI, ⟨h.glob, ?_, ?_, ?_, ?_, ?_⟩, rfl, rfl, rfl, by simp [wpush], fun b hb _ => wpush_old hb, ?_, fun _ _ _ h => .inl h⟩
  · intro b o v e
    rw [cell_of_heap (w := w) (wpush_old (h.mem_lt e))]
    exact h.mem b o v e
  · intro l hl
    simp at hl
    rw [setI_ne (by omega)]
    exact h.dom l (by omega)
  · intro l C e hlive
    rcases cases_l l C e with ⟨q, e'⟩ | ⟨rfl, rfl⟩
    · obtain ⟨li', h1, h2⟩ := h.blk l C e' hlive
      refine ⟨li', by rw [Iold l q]; exact h1, h2.mono (SLe.refl S) hI fun hl' => wpush_old (h.live_lt e' hl' h1)⟩
    · exact ⟨li, setI_same, hB⟩
  · intro l l' C C' li1 li2 e e' hl1 hl2 i1 i2 hne
    rcases cases_l l C e with ⟨q, e1⟩ | ⟨rfl, rfl⟩
    · rw [Iold l q] at i1
      rcases cases_l l' C' e' with ⟨q', e2⟩ | ⟨rfl, rfl⟩
      · rw [Iold l' q'] at i2
        exact h.sep l l' C C' li1 li2 e1 e2 hl1 hl2 i1 i2 hne
      · rw [setI_same] at i2; cases i2
        have := h.live_lt e1 hl1 i1
        omega
    · rw [setI_same] at i1; cases i1
      rcases cases_l l' C' e' with ⟨q', e2⟩ | ⟨rfl, rfl⟩
      · rw [Iold l' q'] at i2
        have := h.live_lt e2 hl2 i2
        omega
      · exact absurd rfl hne
  · intro l C li1 o e hl1 i1
    rcases cases_l l C e with ⟨q, e1⟩ | ⟨rfl, rfl⟩
    · rw [Iold l q] at i1
      exact h.own l C li1 o e1 hl1 i1
    · rw [setI_same] at i1; cases i1
      cases hs : S li.b o with
      | none => rfl
      | some v => have := h.mem_lt hs; omega
  · rintro b ⟨l, C, li1, e, hl1, i1, rfl⟩
    rcases cases_l l C e with ⟨q, e1⟩ | ⟨rfl, rfl⟩
    · rw [Iold l q] at i1
      exact .inl ⟨l, C, li1, e1, hl1, i1, rfl⟩
    · rw [setI_same] at i1; cases i1
      exact .inr (by omega)

/-! ### a block of the call's own turned in place -/

/-- one live block turned, its place the same -/
theorem post_set {l : Nat} {B B' : Blk} {li : LI} (h : Inv num S I σ w) (e : σ[l]? = some B) (hl : B.live = true) (hl' : B'.live = true) (hi : I l = some li)
    (hos : w'.os = w.os) (ht : w'.tape = w.tape) (hout : w'.output = w.output) (hs : w'.heap.size = w.heap.size)
    (hfr : ∀ b, b ≠ li.b → w'.heap[b]? = w.heap[b]?) (hB : BlkAt num S I w' li B') : Post num S I σ w S I (σ.set l B') w' := by
  have hlt : l < σ.length := by
    rcases Nat.lt_or_ge l σ.length with q | q
    · exact q
    · rw [List.getElem?_eq_none q] at e; cases e
  have cases_l : ∀ k C, (σ.set l B')[k]? = some C → (k ≠ l ∧ σ[k]? = some C) ∨ (k = l ∧ C = B') := fun k C q => by
    by_cases hk : k = l
    · subst hk
      rw [List.getElem?_set_self hlt] at q
      exact .inr ⟨rfl, (Option.some.inj q).symm⟩
    · rw [List.getElem?_set_ne (Ne.symm hk)] at q
      exact .inl ⟨hk, q⟩
  refine ⟨SLe.refl S, ILe.refl I, ⟨h.glob, ?_, ?_, ?_, ?_, ?_⟩, hos, ht, hout, by omega, ?_, ?_, fun _ _ _ h => .inl h⟩
  · intro b o v q
    have hb : b ≠ li.b := by
      rintro rfl
      rw [h.own l B li o e hl hi] at q; cases q
    rw [cell_of_heap (w := w) (hfr b hb)]
    exact h.mem b o v q
  · intro k hk
    rw [List.length_set] at hk
    exact h.dom k hk
  · intro k C q hlive
    rcases cases_l k C q with ⟨hk, q'⟩ | ⟨rfl, rfl⟩
    · obtain ⟨li', h1, h2⟩ := h.blk k C q' hlive
      refine ⟨li', h1, h2.mono (SLe.refl S) (ILe.refl I) fun hl2 => hfr _ ?_⟩
      exact h.sep k l C B li' li q' e hl2 hl h1 hi hk
    · exact ⟨li, hi, hB⟩
  · intro k k' C C' li1 li2 q q' h1 h2 i1 i2 hne
    rcases cases_l k C q with ⟨hk, r⟩ | ⟨rfl, rfl⟩
    · rcases cases_l k' C' q' with ⟨hk', r'⟩ | ⟨rfl, rfl⟩
      · exact h.sep k k' C C' li1 li2 r r' h1 h2 i1 i2 hne
      · exact h.sep k k' C B li1 li2 r e h1 hl i1 i2 hne
    · rcases cases_l k' C' q' with ⟨hk', r'⟩ | ⟨rfl, rfl⟩
      · exact h.sep k k' B C' li1 li2 e r' hl h2 i1 i2 hne
      · exact absurd rfl hne
  · intro k C li1 o q h1 i1
    rcases cases_l k C q with ⟨hk, r⟩ | ⟨rfl, rfl⟩
    · exact h.own k C li1 o r h1 i1
    · exact h.own k B li1 o e hl i1
  · intro b hb ho
    refine hfr b ?_
    rintro rfl
    exact ho ⟨l, B, li, e, hl, hi, rfl⟩
  · rintro b ⟨k, C, li1, q, h1, i1, rfl⟩
    rcases cases_l k C q with ⟨hk, r⟩ | ⟨rfl, rfl⟩
    · exact .inl ⟨k, C, li1, r, h1, i1, rfl⟩
    · exact .inl ⟨k, B, li1, e, hl, i1, rfl⟩

/-- one live block turned in its row, its place grown -/
theorem post_grow {l : Nat} {B B' : Blk} {li li' : LI} (h : Inv num S I σ w) (e : σ[l]? = some B) (hl : B.live = true) (hi : I l = some li)
    (hg : Grows li li') (hbb : li'.b = li.b) (hos : w'.os = w.os) (ht : w'.tape = w.tape) (hout : w'.output = w.output) (hs : w'.heap.size = w.heap.size)
    (hfr : ∀ b, b ≠ li.b → w'.heap[b]? = w.heap[b]?) (hB : BlkAt num S (setI I l li') w' li' B') : Post num S I σ w S (setI I l li') (σ.set l B') w' := by
  have hlt : l < σ.length := by
    rcases Nat.lt_or_ge l σ.length with q | q
    · exact q
    · rw [List.getElem?_eq_none q] at e; cases e
  have hI : ILe I (setI I l li') := fun k lk q => by
    by_cases hk : k = l
    · subst hk; rw [hi] at q; cases q; exact ⟨li', setI_same, hg⟩
    · exact ⟨lk, by rw [setI_ne hk]; exact q, Grows.refl _⟩
  have cases_l : ∀ k C, (σ.set l B')[k]? = some C → (k ≠ l ∧ σ[k]? = some C) ∨ (k = l ∧ C = B') := fun k C q => by
    by_cases hk : k = l
    · subst hk
      rw [List.getElem?_set_self hlt] at q
      exact .inr ⟨rfl, (Option.some.inj q).symm⟩
    · rw [List.getElem?_set_ne (Ne.symm hk)] at q
      exact .inl ⟨hk, q⟩
  refine ⟨SLe.refl S, hI, ⟨h.glob, ?_, ?_, ?_, ?_, ?_⟩, hos, ht, hout, by omega, ?_, ?_, fun _ _ _ h => .inl h⟩
  · intro b o v q
    have hb : b ≠ li.b := by
      rintro rfl
      rw [h.own l B li o e hl hi] at q; cases q
    rw [cell_of_heap (w := w) (hfr b hb)]
    exact h.mem b o v q
  · intro k hk
    rw [List.length_set] at hk
    rw [setI_ne (by omega)]
    exact h.dom k hk
  · intro k C q hlive
    rcases cases_l k C q with ⟨hk, q'⟩ | ⟨rfl, rfl⟩
    · obtain ⟨lk, h1, h2⟩ := h.blk k C q' hlive
      refine ⟨lk, by rw [setI_ne hk]; exact h1, h2.mono (SLe.refl S) hI fun hl2 => hfr _ ?_⟩
      exact h.sep k l C B lk li q' e hl2 hl h1 hi hk
    · exact ⟨li', setI_same, hB⟩
  · intro k k' C C' li1 li2 q q' h1 h2 i1 i2 hne
    rcases cases_l k C q with ⟨hk, r⟩ | ⟨rfl, rfl⟩
    · rw [setI_ne hk] at i1
      rcases cases_l k' C' q' with ⟨hk', r'⟩ | ⟨rfl, rfl⟩
      · rw [setI_ne hk'] at i2
        exact h.sep k k' C C' li1 li2 r r' h1 h2 i1 i2 hne
      · rw [setI_same] at i2; cases i2
        rw [hbb]
        exact h.sep k k' C B li1 li r e h1 hl i1 hi hne
    · rw [setI_same] at i1; cases i1
      rcases cases_l k' C' q' with ⟨hk', r'⟩ | ⟨rfl, rfl⟩
      · rw [setI_ne hk'] at i2
        rw [hbb]
        exact h.sep k k' B C' li li2 e r' hl h2 hi i2 hne
      · exact absurd rfl hne
  · intro k C li1 o q h1 i1
    rcases cases_l k C q with ⟨hk, r⟩ | ⟨rfl, rfl⟩
    · rw [setI_ne hk] at i1
      exact h.own k C li1 o r h1 i1
    · rw [setI_same] at i1; cases i1
      rw [hbb]
      exact h.own k B li o e hl hi
  · intro b hb ho
    refine hfr b ?_
    rintro rfl
    exact ho ⟨l, B, li, e, hl, hi, rfl⟩
  · rintro b ⟨k, C, li1, q, h1, i1, rfl⟩
    rcases cases_l k C q with ⟨hk, r⟩ | ⟨rfl, rfl⟩
    · rw [setI_ne hk] at i1
      exact .inl ⟨k, C, li1, r, h1, i1, rfl⟩
    · rw [setI_same] at i1; cases i1
      exact .inl ⟨k, B, li, e, hl, hi, hbb.symm⟩

/-- one live block turned, in another row of the heap, a new one -/
theorem post_move {l : Nat} {B B' : Blk} {li li' : LI} {o : Obj} (h : Inv num S I σ w) (e : σ[l]? = some B) (hi : I l = some li)
    (hg : Grows li li') (hb : li'.b = w.heap.size) (hB : BlkAt num S (setI I l li') (wpush w o) li' B') : Post num S I σ w S (setI I l li') (σ.set l B') (wpush w o) := by
  have hlt : l < σ.length := by
    rcases Nat.lt_or_ge l σ.length with q | q
    · exact q
    · rw [List.getElem?_eq_none q] at e; cases e
  have hI : ILe I (setI I l li') := fun k lk q => by
    by_cases hk : k = l
    · subst hk; rw [hi] at q; cases q; exact ⟨li', setI_same, hg⟩
    · exact ⟨lk, by rw [setI_ne hk]; exact q, Grows.refl _⟩
  have cases_l : ∀ k C, (σ.set l B')[k]? = some C → (k ≠ l ∧ σ[k]? = some C) ∨ (k = l ∧ C = B') := fun k C q => by
    by_cases hk : k = l
    · subst hk
      rw [List.getElem?_set_self hlt] at q
      exact .inr ⟨rfl, (Option.some.inj q).symm⟩
    · rw [List.getElem?_set_ne (Ne.symm hk)] at q
      exact .inl ⟨hk, q⟩
  refine ⟨SLe.refl S, hI, ⟨h.glob, ?_, ?_, ?_, ?_, ?_⟩, rfl, rfl, rfl, by simp [wpush], fun b hb _ => wpush_old hb, ?_, fun _ _ _ h => .inl h⟩
  · intro b o v q
    rw [cell_of_heap (w := w) (wpush_old (h.mem_lt q))]
    exact h.mem b o v q
  · intro k hk
    rw [List.length_set] at hk
    rw [setI_ne (by omega)]
    exact h.dom k hk
  · intro k C q hlive
    rcases cases_l k C q with ⟨hk, q'⟩ | ⟨rfl, rfl⟩
    · obtain ⟨lk, h1, h2⟩ := h.blk k C q' hlive
      exact ⟨lk, by rw [setI_ne hk]; exact h1, h2.mono (SLe.refl S) hI fun hl2 => wpush_old (h.live_lt q' hl2 h1)⟩
    · exact ⟨li', setI_same, hB⟩
  · intro k k' C C' li1 li2 q q' h1 h2 i1 i2 hne
    rcases cases_l k C q with ⟨hk, r⟩ | ⟨rfl, rfl⟩
    · rw [setI_ne hk] at i1
      rcases cases_l k' C' q' with ⟨hk', r'⟩ | ⟨rfl, rfl⟩
      · rw [setI_ne hk'] at i2
        exact h.sep k k' C C' li1 li2 r r' h1 h2 i1 i2 hne
      · rw [setI_same] at i2; cases i2
        have := h.live_lt r h1 i1
        omega
    · rw [setI_same] at i1; cases i1
      rcases cases_l k' C' q' with ⟨hk', r'⟩ | ⟨rfl, rfl⟩
      · rw [setI_ne hk'] at i2
        have := h.live_lt r' h2 i2
        omega
      · exact absurd rfl hne
  · intro k C li1 o q h1 i1
    rcases cases_l k C q with ⟨hk, r⟩ | ⟨rfl, rfl⟩
    · rw [setI_ne hk] at i1
      exact h.own k C li1 o r h1 i1
    · rw [setI_same] at i1; cases i1
      cases hs : S li'.b o with
      | none => rfl
      | some v => have := h.mem_lt hs; omega
  · rintro b ⟨k, C, li1, q, h1, i1, rfl⟩
    rcases cases_l k C q with ⟨hk, r⟩ | ⟨rfl, rfl⟩
    · rw [setI_ne hk] at i1
      exact .inl ⟨k, C, li1, r, h1, i1, rfl⟩
    · rw [setI_same] at i1; cases i1
      exact .inr (by omega)

/-- a draw turns nothing -/
theorem Inv.drawn {n : Nat} (h : Inv num S I σ w) : Inv num S I σ { w with drawn := n } where
  glob := h.glob
  mem := h.mem
  dom := h.dom
  blk := fun l B e k => let ⟨li, h1, h2⟩ := h.blk l B e k; ⟨li, h1, h2.mono (SLe.refl S) (ILe.refl I) fun _ => rfl⟩
  sep := h.sep
  own := h.own
theorem post_drawn {n : Nat} (h : Inv num S I σ w) : Post num S I σ w S I σ { w with drawn := n } :=
  ⟨SLe.refl S, ILe.refl I, h.drawn, rfl, rfl, rfl, Nat.le_refl _, fun _ _ _ => rfl, fun _ h => .inl h, fun _ _ _ h => .inl h⟩
/-- as if the draw had been before -/
theorem Post.of_drawn {n : Nat} (h : Inv num S I σ w) (k : Post num S I σ { w with drawn := n } S' I' σ' w') : Post num S I σ w S' I' σ' w' :=
  (post_drawn h).trans k
end
end Go.DM
