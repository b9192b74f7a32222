/- Storing cells. -/
import Derived.Test.YtpidjgefokgplaaRead
set_option linter.unnecessarySimpa false
set_option linter.unusedVariables false
set_option linter.unusedSimpArgs false
set_option linter.unusedSectionVars false
namespace Go.DM
open Go

section
variable {num : Cfg} {S S' : Mem} {I I' : Inf} {σ σ' : Store} {w w' : World} {P : Program}

def wset (w : World) (b : Nat) (o : Obj) : World := { w with heap := w.heap.setIfInBounds b o }

theorem wset_same {b : Nat} {o : Obj} (h : b < w.heap.size) : (wset w b o).heap[b]? = some o := by
  simp [wset, h]
theorem wset_ne {b k : Nat} {o : Obj} (h : k ≠ b) : (wset w b o).heap[k]? = w.heap[k]? := by
  simp [wset, Ne.symm h]
theorem wset_size {b : Nat} {o : Obj} : (wset w b o).heap.size = w.heap.size := by simp [wset]
theorem wset_wset {b : Nat} {o o' : Obj} : wset (wset w b o) b o' = wset w b o' := by
  simp [wset]
theorem wset_self {b : Nat} {o : Obj} (h : w.heap[b]? = some o) : wset w b o = w := by
  have : w.heap.setIfInBounds b o = w.heap := by
    apply Array.ext_getElem?
    intro i
    rw [Array.getElem?_setIfInBounds]
    split
    · rename_i e; subst e
      split
      · exact h.symm
      · rename_i q; rw [Array.getElem?_eq_none (by omega)]
    · rfl
  simp [wset, this]

def overlay : List Value → Nat → List Value → List Value
  | l, _, [] => l
  | l, o, u :: us => overlay (l.set o u) (o + 1) us

theorem overlay_eq (l us : List Value) (o : Nat) (h : o + us.length ≤ l.length) : overlay l o us = l.take o ++ us ++ l.drop (o + us.length) := by
  induction us generalizing l o with
  | nil => simp [overlay]
  | cons u us ih =>
    simp only [List.length_cons] at h
    rw [overlay, ih _ _ (by simp; omega)]
    have hlt : o < l.length := by omega
    have e1 : (l.set o u).take (o + 1) = l.take o ++ [u] := by
      rw [List.take_add_one, List.take_set_of_le (Nat.le_refl _)]
      simp [hlt]
    have e2 : (l.set o u).drop (o + 1 + us.length) = l.drop (o + (us.length + 1)) := by
      rw [List.drop_set_of_lt (by omega)]
      congr 1; omega
    rw [e1, e2]; simp

theorem setCell_eq {b off : Nat} {l : List Value} {ty : TypeId} {fr : Nat × Nat} (h : w.heap[b]? = some (.cells l.toArray ty fr)) (v : Value) :
    w.setCell ⟨b, off, none⟩ v = wset w b (.cells (l.set off v).toArray ty fr) := by
  have hlt : b < w.heap.size := by
    rcases Nat.lt_or_ge b w.heap.size with q | q
    · exact q
    · rw [Array.getElem?_eq_none q] at h; cases h
  unfold World.setCell wset
  congr 1
  apply Array.ext_getElem?
  intro i
  rw [Array.getElem?_modify, Array.getElem?_setIfInBounds]
  split
  · rename_i e
    have e' : b = i := e
    subst e'
    rw [h]; simp
  · rename_i e
    have e' : b ≠ i := e
    simp

theorem run_storeCells {b off : Nat} {ty : TypeId} {fr : Nat × Nat} : ∀ (us : List Value) (i : Nat) (l : List Value) (w : World), w.heap[b]? = some (.cells l.toArray ty fr) →
    off + i + us.length ≤ l.length → (∀ u ∈ us, u.oneCell' = true) → (∀ o, off + i ≤ o → o < off + i + us.length → ¬ (fr.1 ≤ o ∧ o < fr.2)) →
    (storeCells ⟨b, off, none⟩ us i).run P w = .ok () (wset w b (.cells (overlay l (off + i) us).toArray ty fr))
  | [], i, l, w, h, _, _, _ => by simp [storeCells, overlay, wset_self h]
  | u :: us, i, l, w, h, hl, hu, hf => by
    simp only [List.length_cons] at hl hf
    have hlt : b < w.heap.size := by
      rcases Nat.lt_or_ge b w.heap.size with q | q
      · exact q
      · rw [Array.getElem?_eq_none q] at h; cases h
    have hc : w.cell? ⟨b, off + i, none⟩ = some (l[off + i]'(by omega)) := by
      simp [World.cell?, h]
    have hz : w.frozen? ⟨b, off + i, none⟩ = false := by
      have := hf (off + i) (Nat.le_refl _) (by omega)
      simp only [World.frozen?, h]
      simp only [Bool.and_eq_false_iff, decide_eq_false_iff_not]
      rcases Nat.lt_or_ge (off + i) fr.1 with q | q
      · exact .inl (by omega)
      · exact .inr fun q2 => this ⟨q, q2⟩
    rw [storeCells, Sem.run_bind, addr_add, run_store P w _ u .plain (hu u (by simp)), hc]
    simp only [hz, Bool.false_eq_true, if_false, Result.andThen_ok]
    rw [setCell_eq h]
    have ih := run_storeCells us (i + 1) (l.set (off + i) u) (wset w b (.cells (l.set (off + i) u).toArray ty fr)) (wset_same hlt) (by simp; omega) (fun v hv => hu v (by simp [hv]))
      (fun o (h1 : off + (i + 1) ≤ o) (h2 : o < off + (i + 1) + us.length) => hf o (by omega) (by omega))
    rw [ih, wset_wset, overlay]; rfl

theorem atom_reElem {y : D} {cs : List D} (hy : y.cells.length = cs.length) (ha : y.cells.all D.atom = true) (hcs : cs.all D.atom = true) : (reElem y cs).cells = cs := by
  have one : ∀ d : D, cs.length = 1 → d.cells = [d] → (∀ c : D, c.atom = true → c.cells = [c]) → (cs.headD .bot).cells = cs := by
    intro d h _ hc
    cases cs with
    | nil => cases h
    | cons c r =>
      cases r with
      | nil => simp at hcs; simpa using hc c hcs
      | cons _ _ => cases h
  have hc : ∀ c : D, c.atom = true → c.cells = [c] := by intro c; cases c <;> simp [D.atom, D.cells]
  cases y <;> simp only [reElem] <;> first
    | rfl
    | exact one .bot (by simpa [D.cells] using hy.symm) rfl hc

theorem all_splice {p : D → Bool} {cs ns : List D} {off : Nat} (h : cs.all p = true) (k : ns.all p = true) : (splice cs off ns).all p = true := by
  simp only [splice, List.all_append, Bool.and_eq_true]
  simp only [List.all_eq_true] at *
  exact ⟨⟨fun x hx => h x (List.mem_of_mem_take hx), k⟩, fun x hx => h x (List.mem_of_mem_drop hx)⟩

theorem splice_length {cs ns : List D} {off : Nat} (h : off + ns.length ≤ cs.length) : (splice cs off ns).length = cs.length := by
  simp [splice]; omega

theorem store_sound (hv : Inv num S I σ w) {T : TypeId} {i : TypeInfo} (hT : P.info? T = some i) {d x : D} {v u : Value} (hd : Rep num S I d v) (hx : Rep num S I x u)
    (h : storeAt i.size σ d x = some σ') : ∃ w', (Instr.storeAt T v u).run P w = .ok () w' ∧ Post num S I σ w S I σ' w' := by
  unfold storeAt at h
  split at h
  · rename_i hc
    obtain ⟨hn, hat⟩ := hc
    have hcells := rep_cells hx hat
    have hlen := repL_length hcells
    have hone := repL_one hcells hat
    have hrun : ∀ a : Addr, (storeVar T a u).run P w = (storeCells a u.cells.toList).run P w := by
      intro a
      have e : ¬ (u.cells.size ≠ i.size) := by
        have : u.cells.size = u.cells.toList.length := by simp
        omega
      simp [storeVar, Go.sizeOf, typeInfo, hT]
      intro q; exact absurd q e
    have hsure : ∀ a : Addr, (Instr.storeAt T (.pointer (some a)) u).run P w = (storeCells a u.cells.toList).run P w := by
      intro a; rw [← hrun]; simp [Instr.storeAt, Instr.sureAddr]
    split at h
    · rename_i l off
      rw [rep_ptr] at hd
      obtain ⟨li, hi, hb, rfl⟩ := hd
      split at h
      · rename_i cs hl
        split at h
        · rename_i hle
          cases h
          obtain ⟨li', h1, h2, h3, vs, ty, h4, h5⟩ := hv.blk l _ hl (.inl rfl)
          rw [hi] at h1; cases h1
          have hvl := repL_length h5
          refine ⟨wset w li.b (.cells (overlay vs (off + 0) u.cells.toList).toArray ty (0, 0)), ?_, ?_⟩
          · rw [hsure]
            exact run_storeCells u.cells.toList 0 vs w h4 (by omega) hone (fun o _ _ => by simp)
          · refine post_set hv hl rfl rfl hi rfl rfl rfl wset_size (fun b hb => wset_ne hb) ⟨h2, all_splice h3 hat, _, ty, wset_same (hv.live_lt hl rfl hi), ?_⟩
            rw [Nat.add_zero, overlay_eq _ _ _ (by omega)]
            exact repL_splice h5 hcells off
        · cases h
      · cases h
    · rename_i l m k off
      rw [rep_eptr] at hd
      obtain ⟨li, a, hi, hb, hle, rfl, ha⟩ := hd
      split at h
      · rename_i e xs hl
        split at h
        · rename_i hm
          split at h
          · rename_i y hy
            split at h
            · rename_i hoff
              cases h
              obtain ⟨li', h1, h2, h3, h4, h5, h6, vs, sp, ty, fr, h7, h8, h9, h10⟩ := hv.blk l _ hl (.inl rfl)
              rw [hi] at h1; cases h1
              subst h3
              have hsz : u.cells.size = u.cells.toList.length := by simp
              have hall : ∀ x ∈ xs, x.cells.length = li.esz := fun x hx => (h6 x hx).1
              obtain ⟨pre, post, f1, f2, f3⟩ := flat_get hall hy
              have hye := h6 y (List.mem_of_getElem? hy)
              have hfl := flat_length hall
              have hvl := repL_length h8
              have hkl : k < xs.length := by
                rcases Nat.lt_or_ge k xs.length with q | q
                · exact q
                · rw [List.getElem?_eq_none q] at hy; cases hy
              have hke : k * li.esz + li.esz ≤ xs.length * li.esz := by
                have := Nat.mul_le_mul_right li.esz (show k + 1 ≤ xs.length by omega)
                rwa [Nat.succ_mul] at this
              have hfit : k * li.esz + off + u.cells.toList.length + 0 ≤ vs.length := by omega
              have hcap : vs.length ≤ li.cap * li.esz := by rw [← h9]; simp
              rw [ha (by omega)]
              refine ⟨wset w li.b (.cells (overlay (vs ++ sp) (k * li.esz + off + 0) u.cells.toList).toArray ty fr), ?_, ?_⟩
              · rw [hsure]
                refine run_storeCells u.cells.toList 0 (vs ++ sp) w h7 (by simp; omega) hone (fun o q1 q2 => h10 o (by omega))
              · have hnew : (reElem y (splice y.cells off x.cells)).cells = splice y.cells off x.cells := by
                  apply atom_reElem
                  · rw [splice_length (by omega)]
                  · exact hye.2
                  · exact all_splice hye.2 hat
                refine post_set hv hl rfl rfl hi rfl rfl rfl wset_size (fun b hb => wset_ne hb) ⟨h2, rfl, h4, by simpa using h5, ?_, vs.take (k * li.esz + off) ++ u.cells.toList ++ vs.drop (k * li.esz + off + u.cells.toList.length), sp, ty, fr, ?_, ?_, ?_, h10⟩
                · intro z hz
                  rcases List.mem_or_eq_of_mem_set hz with q | q
                  · exact h6 z q
                  · subst q; rw [hnew]; exact ⟨by rw [splice_length (by omega), hye.1], all_splice hye.2 hat⟩
                · rw [wset_same (hv.live_lt hl rfl hi), Nat.add_zero, overlay_eq _ _ _ (by simp; omega)]
                  rw [List.take_append_of_le_length (by omega), List.drop_append_of_le_length (by omega)]
                  simp
                · have := repL_splice h8 hcells (k * li.esz + off)
                  rw [f3, hnew]
                  have e1 : splice (xs.flatMap D.cells) (k * li.esz + off) x.cells = pre ++ (splice y.cells off x.cells ++ post) := by
                    rw [f1]
                    have hx1 : x.cells.length = i.size := hn
                    simp only [splice]
                    rw [List.take_append, List.drop_append, f2]
                    rw [List.take_of_length_le (by omega)]
                    rw [show k * li.esz + off - k * li.esz = off by omega, show k * li.esz + off + x.cells.length - k * li.esz = off + x.cells.length by omega]
                    rw [List.take_append_of_le_length (by omega), List.drop_append_of_le_length (by omega)]
                    rw [show List.drop (k * li.esz + off + x.cells.length) pre = [] from List.drop_of_length_le (by omega)]
                    simp
                  rw [← e1]; exact this
                · rw [← h9]; simp; omega
            · cases h
          · cases h
        · cases h
      · cases h
    · cases h
  · cases h
end
end Go.DM
