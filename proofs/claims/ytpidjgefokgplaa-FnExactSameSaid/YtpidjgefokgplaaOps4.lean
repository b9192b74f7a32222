/- Appending; text and bytes; equal structs. -/
import Derived.Test.YtpidjgefokgplaaOps3
set_option linter.unnecessarySimpa false
set_option linter.unusedVariables false
set_option linter.unusedSimpArgs false
set_option linter.unusedSectionVars false
namespace Go.DM
open Go

section
variable {num : Cfg} {S S' : Mem} {I I' : Inf} {σ σ' : Store} {w w' : World} {P : Program} {N : Names} {ρ : Env} {a : Act} {o : Oper} {r : D}

theorem grows_arr {li : LI} {b n cap : Nat} (h : li.box = false) (hn : li.n < n) : Grows li ⟨false, b, li.esz, n, cap⟩ := by
  refine ⟨h.symm, fun q => ?_, fun q => ?_, ?_⟩
  · rw [h] at q; cases q
  · simp at q; omega
  · simp; omega

theorem growBy_le (need : Nat) : ∀ (r c B : Nat), c ≤ B → need + (need + 768) / 4 ≤ B → Builtin.growBy need r c ≤ B
  | 0, c, B, h, _ => by simpa [Builtin.growBy] using h
  | r + 1, c, B, h, k => by
    unfold Builtin.growBy
    split
    · exact h
    · exact growBy_le need r _ B (by omega) k

theorem nextcap_le {need old : Nat} (h : old < need) : Builtin.nextslicecap need old ≤ 2 * need := by
  unfold Builtin.nextslicecap
  split
  · omega
  · split
    · omega
    · exact growBy_le need 4 old _ (by omega) (by omega)

/-- what is appended: its elements' cells, as the model takes them -/
def Source (P : Program) (w : World) (size : Nat) (x : Value) (n : Nat) (us : List Value) : Prop :=
  (Builtin.lenOf x).run P w = .ok n w ∧ ∀ w' : World, (∀ b, b < w.heap.size → w'.heap[b]? = w.heap[b]?) → (Builtin.firstCells size n x).run P w' = .ok us.toArray w'

theorem loadCells_run {b o' n : Nat} {us : List Value} (h : CellsAt w b o' us) (hn : us.length = n) : (loadCells ⟨b, o', none⟩ n).run P w = .ok us.toArray w := by
  subst hn
  exact run_loadCells_list w _ us fun j v hj => by rw [addr_add]; exact h j v hj

theorem cellsAt_keep {b o' : Nat} {us : List Value} (h : CellsAt w b o' us) (k : ∀ b, b < w.heap.size → w'.heap[b]? = w.heap[b]?) : CellsAt w' b o' us := fun j v hj => by
  have h1 := h j v hj
  rw [cell_of_heap (w := w) (k b (cell_lt h1))]
  exact h1

theorem source_elems (hv : Inv num S I σ w) {d : D} {v : Value} {ys : List D} (hr : Rep num S I d v) (h : elems σ d = some ys) {e : Nat} (hy : ∀ y ∈ ys, y.cells.length = e) :
    ∃ us, Source P w e v ys.length us ∧ RepL num S I (ys.flatMap D.cells) us := by
  obtain ⟨ad, c, rfl, h1⟩ := elems_sound hv hr h
  rcases h1 with rfl | ⟨b, o', e', vs, rfl, h2, h3, h4, h5⟩
  · refine ⟨[], ⟨rfl, fun w' _ => ?_⟩, by simp⟩
    cases ad with
    | none => simp [Builtin.firstCells]
    | some a' => simp [Builtin.firstCells, loadCells, loadCellsFrom]
  · have hl : vs.length = ys.length * e := by rw [repL_length h4, flat_length hy]
    refine ⟨vs, ⟨rfl, fun w' k => ?_⟩, h4⟩
    simp only [Builtin.firstCells]
    exact loadCells_run (cellsAt_keep h5 k) hl

theorem rep_bytes (s : List UInt8) : RepL num S I (bytesD s) (s.map fun b => Value.int .u8 b.toNat) := by
  induction s with
  | nil => simp [bytesD]
  | cons b s ih => exact repL_cons.2 ⟨_, _, rfl, by simp, ih⟩

theorem bytes_cells (s : List UInt8) : (bytesD s).flatMap D.cells = bytesD s := by
  induction s with
  | nil => rfl
  | cons b s ih => simp only [bytesD, List.map_cons, List.flatMap_cons] at *; rw [ih]; rfl

theorem bytes_one (s : List UInt8) : ∀ d ∈ bytesD s, d.cells.length = 1 ∧ d.cells.all D.atom = true := by
  intro d hd
  simp only [bytesD, List.mem_map] at hd
  obtain ⟨b, _, rfl⟩ := hd
  exact ⟨rfl, rfl⟩

theorem source_str {s : List UInt8} : ∃ us, Source P w 1 (.string ⟨s.toArray⟩) (bytesD s).length us ∧ RepL num S I ((bytesD s).flatMap D.cells) us := by
  refine ⟨s.map fun b => Value.int .u8 b.toNat, ⟨?_, fun w' _ => ?_⟩, by rw [bytes_cells]; exact rep_bytes s⟩
  · simp [Builtin.lenOf, bytesD, str_size]
  · have e : (⟨s.toArray⟩ : ByteArray).extract 0 s.length = ⟨s.toArray⟩ := by
      apply ByteArray.ext
      rw [ByteArray.data_extract]
      apply Array.ext'
      simp
    have hl : (bytesD s).length = s.length := by simp [bytesD]
    rw [hl]
    simp [Builtin.firstCells, e]

theorem appendCap_cut {need old : Nat} {T : TypeId} {t : Nat} : need ≤ (Question.appendCap need old T).cut t := by
  simp only [Question.cut]; omega

/-- append where the new length is within the capacity -/
theorem append_in {T U elem : TypeId} {i : TypeInfo} {u : TypeDesc} {base : Option Addr} {n m cap : Nat} {x : Value} {us : List Value} (hT : P.underlying T = some (.slice elem)) (hU : P.underlying U = some u) (hu : notInt u = true)
    (hi : P.info? elem = some i) (hs : Source P w i.size x m us) (hle : n + m ≤ cap) :
    (Builtin.append_ #[T, U] T #[.slice base n cap, x]).run P w = (match base with | some ad => (storeCells (ad.add (n * i.size)) us).run P w | none => .ok () w).andThen fun _ w1 => .ok (.slice base (n + m) cap) w1 := by
  obtain ⟨h1, h2⟩ := hs
  have h3 := h2 w (fun _ _ => rfl)
  unfold Builtin.append_
  simp only [List.getElem?_toArray, List.getElem?_cons_zero, List.getElem?_cons_succ, Sem.run_bind, run_underlying hT, run_underlying hU, Result.andThen_ok, Sem.run_pure, Go.sizeOf, typeInfo, run_program, hi]
  cases u <;> (first | (cases hu; done) | skip) <;>
    simp only [Bool.false_eq_true, if_false, Bool.not_false, if_true, h1, Result.andThen_ok, if_pos hle, Sem.run_bind, h3] <;>
    cases base <;> simp only [Sem.run_pure, Result.andThen_ok, Sem.run_bind]

/-- append where it grows -/
theorem append_grow {T U elem : TypeId} {i : TypeInfo} {u : TypeDesc} {base : Option Addr} {n m cap : Nat} {x z : Value} {us vs : List Value} (hT : P.underlying T = some (.slice elem)) (hU : P.underlying U = some u) (hu : notInt u = true)
    (hi : P.info? elem = some i) (hb : 0 < i.bytes) (hs : Source P w i.size x m us) (hold : ∀ w' : World, (∀ b, b < w.heap.size → w'.heap[b]? = w.heap[b]?) → (Builtin.firstCells i.size n (.slice base n cap)).run P w' = .ok vs.toArray w')
    (hz : ∀ w, (zeroValue elem).run P w = .ok z w) (hzs : z.cells.size = i.size) (hgt : cap < n + m) (hroom : (n + m) * i.bytes ≤ room) :
    ∃ (k : Nat) (rest : List Value), n + m ≤ k ∧ (vs ++ us ++ rest).length = vs.length + us.length + (k - (n + m)) * i.size ∧
      (Builtin.append_ #[T, U] T #[.slice base n cap, x]).run P w = .ok (.slice (some ⟨w.heap.size, 0, none⟩) (n + m) k) { wpush w (.cells (vs ++ us ++ rest).toArray elem) with drawn := w.drawn + 1 } := by
  obtain ⟨h1, h2⟩ := hs
  have h3 := h2 { w with drawn := w.drawn + 1 } (fun _ _ => rfl)
  have h4 := hold { w with drawn := w.drawn + 1 } (fun _ _ => rfl)
  have hn : ¬ (n + m ≤ cap) := by omega
  have hcap : ¬ (Builtin.nextslicecap (n + m) cap * i.bytes > 2 ^ 48) := by
    have h5 := nextcap_le hgt
    have h6 : Builtin.nextslicecap (n + m) cap * i.bytes ≤ 2 * (n + m) * i.bytes := Nat.mul_le_mul_right _ h5
    rw [Nat.mul_assoc] at h6
    unfold room at hroom
    omega
  have hb' : ¬ (((n + m : Nat) : Int) > IntKind.i64.max ∧ (False ∨ i.bytes = 0)) := by
    rintro ⟨_, h | h⟩
    · exact h
    · omega
  let q := Question.appendCap (n + m) cap elem
  have hforced : q.forced = false := rfl
  have hch : (choose q).run P w = .ok (q.cut (w.tape w.drawn q)) { w with drawn := w.drawn + 1 } := by
    rw [run_choose, hforced]; rfl
  refine ⟨q.cut (w.tape w.drawn q), (Builtin.zeroCells z.cells (q.cut (w.tape w.drawn q) - (n + m))).toList, appendCap_cut, ?_, ?_⟩
  · simp [Builtin.zeroCells, hzs]; omega
  · have harr : vs.toArray ++ us.toArray ++ Builtin.zeroCells z.cells (q.cut (w.tape w.drawn q) - (n + m)) = (vs ++ us ++ (Builtin.zeroCells z.cells (q.cut (w.tape w.drawn q) - (n + m))).toList).toArray := by
      apply Array.ext'; simp
    unfold Builtin.append_
    simp only [List.getElem?_toArray, List.getElem?_cons_zero, List.getElem?_cons_succ, Sem.run_bind, run_underlying hT, run_underlying hU, Result.andThen_ok, Sem.run_pure, Go.sizeOf, typeInfo, run_program, hi]
    cases u <;> (first | (cases hu; done) | skip) <;>
      simp only [Bool.false_eq_true, if_false, Bool.not_false, if_true, h1, Result.andThen_ok, if_neg hn, if_neg hb', Sem.run_bind, run_program, hi, Sem.run_pure, if_neg hcap, show Question.appendCap (n + m) cap elem = q from rfl, hch, run_askRoom, h4, h3, hz, newRow_run] <;>
      (rw [harr]; rfl)

/-- the operation itself, out of append's run -/
theorem app_exec {s x : Operand} {T U : TypeId} {r : Result Value} (ho : o.op = .call ⟨.builtin .append, #[s, x], #[T, U]⟩) (h : (Builtin.append_ #[T, U] T #[a.eval s, a.eval x]).run P w = r)
    (hty : ∀ t, Builtin.append_ #[T, U] t #[a.eval s, a.eval x] = Builtin.append_ #[T, U] T #[a.eval s, a.eval x]) : (execOp a.eval o).run P w = r.andThen fun v w' => .ok (.value v) w' := by
  subst h
  simp only [execOp, ho, resolve, List.map_toArray, List.map_cons, List.map_nil, Sem.run_bind, Sem.run_pure, Result.andThen_ok, invoke, builtin, hty]

theorem append_type {A : Array TypeId} {t u : TypeId} {as : Array Value} : Builtin.append_ A t as = Builtin.append_ A u as := rfl

theorem op_app (hv : Inv num S I σ w) {s x : Operand} {T U elem : TypeId} {u : TypeDesc} {i : TypeInfo} {z ds : D} {ys : List D} {us : List Value} (ho : o.op = .call ⟨.builtin .append, #[s, x], #[T, U]⟩)
    (hT : P.underlying T = some (.slice elem)) (hU : P.underlying U = some u) (hu : notInt u = true) (hi : P.info? elem = some i) (hs : 0 < i.size) (hb : 0 < i.bytes) (hz : zeroEl P elem = some z)
    (hsrc : Source P w i.size (a.eval x) ys.length us) (hys : RepL num S I (ys.flatMap D.cells) us) (hlen : ∀ y ∈ ys, y.cells.length = i.size) (hat : ∀ y ∈ ys, y.cells.all D.atom = true)
    (h : (match ds with
        | .nils => if ys = [] then some (.nils, σ)
          else if ys.length * i.bytes ≤ room ∧ ys.length ≤ room then some (.sl σ.length ys.length, σ ++ [.arr i.size ys]) else none
        | .sl l n => match σ[l]? with
          | some (.arr e xs) =>
            if xs.length = n ∧ e = i.size ∧ (n + ys.length) * i.bytes ≤ room ∧ n + ys.length ≤ room then
              some (.sl l (n + ys.length), σ.set l (.arr e (xs ++ ys)))
            else none
          | _ => none
        | .list xs => if ys = [] then some (.list xs, σ) else none
        | _ => none) = some (r, σ')) (hd : Rep num S I ds (a.eval s)) : OpOk num P o a w S I σ r σ' := by
  have hul : us.length = ys.length * i.size := by rw [repL_length hys, flat_length hlen]
  have hyall : ∀ y ∈ ys, y.cells.length = i.size ∧ y.cells.all D.atom = true := fun y hy => ⟨hlen y hy, hat y hy⟩
  obtain ⟨i', zv, hi', k1, k2, k3, k4⟩ := zeroEl_sound (num := num) (S := S) (I := I) hz
  rw [hi] at hi'; cases hi'
  have hzs : zv.cells.size = i.size := by have := repL_length k2; simp at this; omega
  have empty_case : ∀ (base : Option Addr) (n cap : Nat), a.eval s = .slice base n cap → ys = [] → n ≤ cap → (execOp a.eval o).run P w = .ok (.value (.slice base n cap)) w := by
    intro base n cap e1 e2 hle
    subst e2
    have hus : us = [] := List.eq_nil_of_length_eq_zero (by simpa using hul)
    have h5 := append_in (base := base) (n := n) (cap := cap) hT hU hu hi hsrc (by simpa using hle)
    rw [← e1] at h5
    rw [app_exec ho h5 (fun t => append_type)]
    rw [hus]
    cases base <;> simp [storeCells]
  cases ds with
  | nils =>
    simp at hd
    obtain ⟨ad, e1⟩ := hd
    simp only at h
    split at h
    · rename_i hy; cases h
      exact OpOk.same hv (empty_case ad 0 0 e1 hy (Nat.le_refl _)) (by simp)
    · rename_i hy
      split at h
      · rename_i hc; cases h
        have hpos : 0 < ys.length := by
          cases ys with
          | nil => exact absurd rfl hy
          | cons _ _ => simp
        obtain ⟨k, rest, h5, h6, h7⟩ := append_grow (base := ad) (n := 0) (cap := 0) (vs := []) hT hU hu hi hb hsrc (fun w' _ => by cases ad <;> simp [Builtin.firstCells, loadCells, loadCellsFrom]) k1 hzs (by omega) (by simpa using hc.1)
        simp only [Nat.zero_add, List.nil_append] at h5 h6 h7
        rw [← e1] at h7
        have hk : (us ++ rest).length = k * i.size := by
          rw [h6]; simp [hul]
          rw [← Nat.add_mul]; congr 1; omega
        obtain ⟨I', h8, h9⟩ := post_arr (T := elem) hv hs hys hyall hk
        exact ⟨_, _, S, I', .inl (app_exec ho h7 (fun t => append_type)), h9, h8.trans (post_drawn h8.inv)⟩
      · cases h
  | sl l n =>
    have hd' := hd
    rw [rep_sl] at hd
    obtain ⟨li, ad, c, hl1, hl2, hl3, e1, hl4⟩ := hd
    simp only at h
    split at h
    · rename_i e xs hl
      split at h
      · rename_i hc
        obtain ⟨c1, c2, c3, c4⟩ := hc
        cases h
        obtain ⟨li', m1, m2, m3, m4, m5, m6, vs, sp, ty, fr, m7, m8, m9, m10⟩ := hv.blk l _ hl (.inl rfl)
        rw [hl1] at m1; cases m1
        subst c2
        obtain ⟨rfl, rfl⟩ := hl4 (by omega)
        have hxall : ∀ x ∈ xs, x.cells.length = i.size := fun x hx => (m6 x hx).1
        have hvl : vs.length = n * i.size := by rw [repL_length m8, flat_length hxall, c1]
        have hall : ∀ x ∈ xs ++ ys, x.cells.length = i.size ∧ x.cells.all D.atom = true := fun x hx => (List.mem_append.1 hx).elim (m6 x) (hyall x)
        have hsum : RepL num S I ((xs ++ ys).flatMap D.cells) (vs ++ us) := by
          rw [List.flatMap_append]; exact repL_append.2 ⟨_, _, rfl, m8, hys⟩
        have hone : ∀ v ∈ us, v.oneCell' = true := repL_one hys (by
          rw [List.all_eq_true]
          intro d hdm
          obtain ⟨y, hy1, hy2⟩ := List.mem_flatMap.1 hdm
          exact List.all_eq_true.1 (hat y hy1) d hy2)
        have hcur : CellsAt w li.b 0 vs := fun j v hj => by
          have : (vs ++ sp)[j]? = some v := by
            rw [List.getElem?_append_left]
            · exact hj
            · rcases Nat.lt_or_ge j vs.length with q | q
              · exact q
              · rw [List.getElem?_eq_none q] at hj; cases hj
          simp only [World.cell?, m7]
          simpa using this
        by_cases hye : ys = []
        · subst hye
          have hset : σ.set l (.arr i.size (xs ++ [])) = σ := by
            rw [List.append_nil]
            apply List.ext_getElem?
            intro q
            rw [List.getElem?_set]
            split
            · rename_i hq; subst hq; split
              · exact hl.symm
              · rename_i hq2; rw [List.getElem?_eq_none (by omega)]
            · rfl
          rw [hset]
          have hncap : n ≤ li.cap := by
            have q1 : n * i.size ≤ li.cap * i.size := by rw [← m9, ← hvl]; simp
            exact Nat.le_of_mul_le_mul_right q1 hs
          refine ⟨_, w, S, I, .inl (empty_case _ _ _ e1 rfl hncap), ?_, Post.refl hv⟩
          simpa [e1] using hd'
        · have hpos : 0 < ys.length := by
            cases ys with
            | nil => exact absurd rfl hye
            | cons _ _ => simp
          by_cases hcap : n + ys.length ≤ li.cap
          · -- in place
            have hfit : (n + ys.length) * i.size ≤ li.cap * i.size := Nat.mul_le_mul_right _ hcap
            rw [Nat.add_mul] at hfit
            have h5 := append_in (base := some ⟨li.b, 0, none⟩) (n := n) (cap := li.cap) hT hU hu hi hsrc hcap
            rw [← e1] at h5
            let li2 : LI := ⟨false, li.b, li.esz, n + ys.length, li.cap⟩
            have hgr : Grows li li2 := grows_arr hl2 (by omega)
            have hrun := run_storeCells (P := P) (b := li.b) (off := n * i.size) (ty := ty) (fr := fr) us 0 (vs ++ sp) w m7 (by rw [m9]; omega) hone (fun q q1 q2 => m10 q (by omega))
            simp only [addr_add, Nat.zero_add] at h5
            rw [hrun] at h5
            simp only [Result.andThen_ok] at h5
            have hspl : us.length ≤ sp.length := by
              have : vs.length + sp.length = li.cap * i.size := by rw [← m9]; simp
              omega
            refine ⟨_, _, S, setI I l li2, .inl (app_exec ho h5 (fun t => append_type)), rep_sl.2 ⟨li2, _, _, setI_same, rfl, Nat.le_refl _, rfl, fun _ => ⟨rfl, rfl⟩⟩, ?_⟩
            refine post_grow hv hl rfl hl1 hgr rfl rfl rfl rfl wset_size (fun b hb => wset_ne hb) ⟨rfl, m3, m4, by simp [li2, c1], hall, vs ++ us, sp.drop us.length, ty, fr, ?_, ?_, ?_, m10⟩
            · rw [wset_same (hv.live_lt hl rfl hl1), Nat.add_zero, overlay_eq _ _ _ (by simp; omega)]
              rw [List.take_append_of_le_length (by omega), List.take_of_length_le (by omega), List.drop_append, List.drop_of_length_le (by omega)]
              rw [show n * i.size + us.length - vs.length = us.length by omega]
              simp
            · exact RepL.mono (SLe.refl S) (fun k lk q => by
                by_cases hk : k = l
                · subst hk; rw [hl1] at q; cases q; exact ⟨li2, setI_same, hgr⟩
                · exact ⟨lk, by rw [setI_ne hk]; exact q, Grows.refl _⟩) _ _ hsum
            · rw [← m9]; simp; omega
          · -- in a new row
            obtain ⟨k, rest, h5, h6, h7⟩ := append_grow (base := some ⟨li.b, 0, none⟩) (n := n) (cap := li.cap) (vs := vs) hT hU hu hi hb hsrc
              (fun w' hw' => by simp only [Builtin.firstCells]; exact loadCells_run (cellsAt_keep hcur hw') hvl) k1 hzs (by omega) c3
            rw [← e1] at h7
            have hk : (vs ++ us ++ rest).length = k * i.size := by
              rw [h6, hvl, hul, ← Nat.add_mul, ← Nat.add_mul]; congr 1; omega
            let li2 : LI := ⟨false, w.heap.size, li.esz, n + ys.length, k⟩
            have hgr : Grows li li2 := grows_arr hl2 (by omega)
            have hile : ILe I (setI I l li2) := fun k' lk q => by
              by_cases hk' : k' = l
              · subst hk'; rw [hl1] at q; cases q; exact ⟨li2, setI_same, hgr⟩
              · exact ⟨lk, by rw [setI_ne hk']; exact q, Grows.refl _⟩
            have hpost := post_move (o := .cells (vs ++ us ++ rest).toArray elem) (B' := .arr i.size (xs ++ ys)) hv hl hl1 hgr rfl
              ⟨rfl, m3, m4, by simp [li2, c1], hall, vs ++ us, rest, elem, (0, 0), wpush_new, RepL.mono (SLe.refl S) hile _ _ hsum, hk, fun q _ => by simp⟩
            exact ⟨_, _, S, setI I l li2, .inl (app_exec ho h7 (fun t => append_type)), rep_sl.2 ⟨li2, _, _, setI_same, rfl, Nat.le_refl _, rfl, fun _ => ⟨rfl, rfl⟩⟩, hpost.trans (post_drawn hpost.inv)⟩
      · cases h
    · cases h
  | list xs =>
    simp only at h
    split at h
    · rename_i hy; cases h
      have hd' := hd
      rw [rep_list] at hd
      obtain ⟨ad, cap, e1, h1, h2⟩ := hd
      exact OpOk.same hv (empty_case ad xs.length cap e1 hy h1) (by rw [← e1]; exact hd')
    · cases h
  | _ => simp at h

/-! ### text and bytes -/

theorem freeze_heap {b : Nat} {c : Array Value} {ty : TypeId} {k : Nat} (h : w.heap[b]? = some (.cells c ty (0, 0))) : (w.freeze ⟨b, k, none⟩ 1).heap[b]? = some (.cells c ty (k, k + 1)) := by
  simp [World.freeze, Array.getElem?_modify, h]

theorem op_s2b (hv : Inv num S I σ w) {src dst e : TypeId} {x : Operand} {s : List UInt8} (ho : o.op = .convert src dst x) (hs : P.underlying src = some .string) (hd : P.underlying dst = some (.slice e)) (he : P.underlying e = some (.int .u8))
    (hx : Rep num S I (.str s) (a.eval x)) (hl : s.length ≤ room) : OpOk num P o a w S I σ (.sl σ.length s.length) (σ ++ [.arr 1 (bytesD s)]) := by
  simp at hx
  let q := Question.appendCap s.length 0 e
  have hforced : q.forced = false := rfl
  let k := q.cut (w.tape w.drawn q)
  have hk : s.length ≤ k := appendCap_cut
  let w1 : World := { w with drawn := w.drawn + 1 }
  have hv1 : Inv num S I σ w1 := hv.drawn
  let vs := s.map fun b => Value.int .u8 b.toNat
  let sp := List.replicate (k - s.length) (Value.int .u8 0)
  have hrep : RepL num S I ((bytesD s).flatMap D.cells) vs := by rw [bytes_cells]; exact rep_bytes s
  have hlen : (vs ++ sp).length = k * 1 := by simp [vs, sp]; omega
  let li : LI := ⟨false, w1.heap.size, 1, (bytesD s).length, k⟩
  have hI : ILe I (setI I σ.length li) := ILe.setNew (hv.dom _ (Nat.le_refl _))
  let w2 : World := wpush w1 (.cells (vs ++ sp).toArray e (k, k + 1))
  have hpost : Post num S I σ w1 S (setI I σ.length li) (σ ++ [.arr 1 (bytesD s)]) w2 :=
    post_new hv1 rfl rfl ⟨rfl, rfl, Nat.one_pos, rfl, bytes_one s, vs, sp, e, (k, k + 1), wpush_new, RepL.mono (SLe.refl S) hI _ _ hrep, hlen, fun o' h1 h2 => by simp [li] at h1; omega⟩
  have hbl : (bytesD s).length = s.length := by simp [bytesD]
  refine ⟨.slice (some ⟨w.heap.size, 0, none⟩) s.length k, w2, S, setI I σ.length li, .inl ?_, ?_, (post_drawn hv).trans hpost⟩
  · have hch : (choose q).run P w = .ok k w1 := by rw [run_choose, hforced]; rfl
    have harr : (s.toArray.map fun b => Value.int .u8 b.toNat) ++ Array.replicate (k - s.length) (Value.int .u8 0) = (vs ++ sp).toArray := by
      apply Array.ext'; simp [vs, sp]
    have hsz : ((vs ++ sp).toArray).size = k := by simp [vs, sp]; omega
    have hsh : (wpush w1 (.cells (vs ++ sp).toArray e)).shape? w.heap.size = some (e, k) := by
      simp only [World.shape?]
      rw [show (wpush w1 (.cells (vs ++ sp).toArray e)).heap[w.heap.size]? = some (.cells (vs ++ sp).toArray e) from wpush_new (w := w1)]
      simp only [hsz]
    have hfr : (wpush w1 (.cells (vs ++ sp).toArray e)).freeze ⟨w.heap.size, k, none⟩ 1 = w2 := by
      simp only [World.freeze, w2, wpush]
      rw [if_neg (by decide)]
      congr 1
      apply Array.ext_getElem?
      intro j
      rw [Array.getElem?_modify, Array.getElem?_push, Array.getElem?_push]
      by_cases hj : j = w.heap.size
      · subst hj; simp [w1]
      · have hj' : ¬ (w.heap.size = j) := fun q => hj q.symm
        simp [w1, hj, hj']
    simp only [execOp, ho, hx, convert, Sem.run_bind, run_underlying hs, Result.andThen_ok, run_underlying hd, run_underlying he, Conv.stringToBytes, str_size, show Question.appendCap s.length 0 e = q from rfl, hch, harr, newRow_run, markStringish, run_shape]
    simp only [w1] at hsh hfr ⊢
    simp only [hsh, run_freeze, hfr, Sem.run_pure, Result.andThen_ok]
  · exact rep_sl.2 ⟨li, _, _, setI_same, rfl, by simp [li, hbl], rfl, fun _ => ⟨rfl, rfl⟩⟩

theorem byteD_some {d : D} {b : UInt8} (h : byteD d = some b) : d = .int .u8 b.toNat := by
  unfold byteD at h
  split at h
  · rename_i n
    split at h
    · rename_i hc
      cases h
      congr 1
      simp
      omega
    · cases h
  · cases h

theorem bytesOf_some {ds : List D} {s : List UInt8} (h : bytesOf? ds = some s) : ds = bytesD s := by
  induction ds generalizing s with
  | nil => simp [bytesOf?] at h; subst h; rfl
  | cons d ds ih =>
    simp only [bytesOf?] at h
    split at h
    · rename_i b bs h1 h2
      cases h
      rw [byteD_some h1, ih h2]; rfl
    · cases h

theorem run_bytes (s : List UInt8) (f : Value → ByteArray → Sem (ForInStep ByteArray)) (hf : ∀ n r (w : World), (f (.int .u8 n) r).run P w = .ok (.yield (r.push (UInt8.ofNat n.toNat))) w) :
    ∀ (acc : ByteArray) (w : World), (forIn (s.map fun b => Value.int .u8 b.toNat) acc f).run P w = .ok ⟨acc.data ++ s.toArray⟩ w := by
  induction s with
  | nil => intro acc w; simp
  | cons b s ih =>
    intro acc w
    simp only [List.map_cons, List.forIn_cons, Sem.run_bind, hf, Result.andThen_ok]
    rw [ih]
    congr 2
    apply Array.ext'
    simp [ByteArray.push]

theorem op_b2s (hv : Inv num S I σ w) {src dst e : TypeId} {x : Operand} {d : D} {ds : List D} {s : List UInt8} (ho : o.op = .convert src dst x) (hs : P.underlying src = some (.slice e)) (hd : P.underlying dst = some .string) (he : P.underlying e = some (.int .u8))
    (hx : Rep num S I d (a.eval x)) (h1 : elems σ d = some ds) (h2 : bytesOf? ds = some s) : OpOk num P o a w S I σ (.str s) σ := by
  obtain ⟨ad, c, e1, h3⟩ := elems_sound hv hx h1
  have hds := bytesOf_some h2
  subst hds
  refine OpOk.same hv (v := .string ⟨s.toArray⟩) ?_ (by simp)
  have hlen : (bytesD s).length = s.length := by simp [bytesD]
  have run : (Conv.bytesToString (.slice ad (bytesD s).length c)).run P w = .ok (.string ⟨s.toArray⟩) w := by
    rcases h3 with h3 | ⟨b, o', es, vs, rfl, k1, k2, k3, k4⟩
    · have hs0 : s = [] := by
        cases s with
        | nil => rfl
        | cons _ _ => simp [bytesD] at h3
      subst hs0
      cases ad with
      | none => rfl
      | some ad => simp [Conv.bytesToString, loadCells, loadCellsFrom, bytesD]; rfl
    · rw [bytes_cells] at k3
      have k6 : vs = s.map fun b => Value.int .u8 b.toNat := by
        clear k4 h1 h2 e1 hlen k2
        induction s generalizing vs with
        | nil => simpa [bytesD] using k3
        | cons b s ih =>
          simp only [bytesD, List.map_cons] at k3
          rw [repL_cons] at k3
          obtain ⟨v, vs', rfl, h3, h4⟩ := k3
          simp at h3; subst h3
          rw [ih vs' h4]; simp
      have hload := loadCells_run (P := P) k4 (show vs.length = (bytesD s).length by rw [k6, hlen]; simp)
      unfold Conv.bytesToString
      simp only [Sem.run_bind, hload, Result.andThen_ok]
      rw [← Array.forIn_toList]
      simp only [k6]
      rw [run_bytes s _ (fun n r w => rfl)]
      have e0 : (ByteArray.empty.data ++ s.toArray) = s.toArray := by apply Array.ext'; simp
      rw [e0]; rfl
  simp [execOp, ho, e1, convert, run_underlying hs, run_underlying hd, run_underlying he, run]

/-! ### equal structs -/

theorem part_plain {T : TypeId} {k : FK} (hp : plainK (P.underlying T) = some k) {vs : Array Value} {j : Nat} {v : Value} (hv : vs[j]? = some v) : (part T vs j).run P w = .ok v w := by
  have : (isAgg T).run P w = .ok false w := by
    unfold plainK at hp
    split at hp <;> first | (rename_i h; rw [run_isAgg_of h]; rfl) | cases hp
  simp [part, this, hv]

theorem eqCells_b {ks : List FK} {as bs : List D} {t : Bool} (h : eqCells (.b :: ks) as bs = some t) : ∃ a as' b bs' t', as = .bool a :: as' ∧ bs = .bool b :: bs' ∧ eqCells ks as' bs' = some t' ∧ t = (decide (a = b) && t') := by
  rcases as with _ | ⟨x, as⟩
  · simp [eqCells] at h
  · rcases bs with _ | ⟨y, bs⟩
    · cases x <;> simp [eqCells] at h
    · cases x <;> cases y <;> first | (simp [eqCells] at h; done) | skip
      rename_i a b
      simp only [eqCells, Option.map_eq_some_iff] at h
      obtain ⟨t', h1, h2⟩ := h
      exact ⟨a, as, b, bs, t', rfl, rfl, h1, h2.symm⟩
theorem eqCells_s {ks : List FK} {as bs : List D} {t : Bool} (h : eqCells (.s :: ks) as bs = some t) : ∃ a as' b bs' t', as = .str a :: as' ∧ bs = .str b :: bs' ∧ eqCells ks as' bs' = some t' ∧ t = (decide (a = b) && t') := by
  rcases as with _ | ⟨x, as⟩
  · simp [eqCells] at h
  · rcases bs with _ | ⟨y, bs⟩
    · cases x <;> simp [eqCells] at h
    · cases x <;> cases y <;> first | (simp [eqCells] at h; done) | skip
      rename_i a b
      simp only [eqCells, Option.map_eq_some_iff] at h
      obtain ⟨t', h1, h2⟩ := h
      exact ⟨a, as, b, bs, t', rfl, rfl, h1, h2.symm⟩
theorem eqCells_i {ks : List FK} {as bs : List D} {t : Bool} (h : eqCells (.i :: ks) as bs = some t) : ∃ k a as' b bs' t', as = .int k a :: as' ∧ bs = .int k b :: bs' ∧ eqCells ks as' bs' = some t' ∧ t = (decide (a = b) && t') := by
  rcases as with _ | ⟨x, as⟩
  · simp [eqCells] at h
  · rcases bs with _ | ⟨y, bs⟩
    · cases x <;> simp [eqCells] at h
    · cases x <;> cases y <;> first | (simp [eqCells] at h; done) | skip
      rename_i k a k' b
      simp only [eqCells] at h
      split at h
      · rename_i hk; subst hk
        simp only [Option.map_eq_some_iff] at h
        obtain ⟨t', h1, h2⟩ := h
        exact ⟨k, a, as, b, bs, t', rfl, rfl, h1, h2.symm⟩
      · cases h

theorem eqf_run (d : Nat) {xs ys : Array Value} : ∀ (fs : List Field) (k : Nat) (ks : List FK) (as bs : List D) (t : Bool) (w : World),
    flatEq P k fs = some ks → RepL num S I as (xs.toList.drop k) → RepL num S I bs (ys.toList.drop k) →
    eqCells ks as bs = some t → (Op.eqFields (d + 1) xs ys fs).run P w = .ok t w
  | [], k, ks, as, bs, t, w, hk, h1, h2, h5 => by
    simp [flatEq] at hk; subst hk
    cases as <;> cases bs <;> simp [eqCells] at h5
    subst h5
    simp [Op.eqFields]
  | f :: fs, k, ks, as, bs, t, w, hk, h1, h2, h5 => by
    simp only [flatEq] at hk
    split at hk
    · rename_i hc
      obtain ⟨q1, q2⟩ := hc
      split at hk
      · rename_i fk fks q3 q4
        cases hk
        have get : ∀ {zs : Array Value} {z : D} {rest : List D}, RepL num S I (z :: rest) (zs.toList.drop k) → ∃ u, zs[k]? = some u ∧ Rep num S I z u ∧ RepL num S I rest (zs.toList.drop (k + 1)) := by
          intro zs z rest h
          rw [repL_cons] at h
          obtain ⟨u, us, e1, r1, r2⟩ := h
          refine ⟨u, ?_, r1, ?_⟩
          · have : (zs.toList.drop k)[0]? = some u := by rw [e1]; rfl
            rw [List.getElem?_drop] at this
            simpa using this
          · rw [← List.drop_drop, e1]; exact r2
        have main : ∀ {u v : Value} {as' bs' : List D} (r t' : Bool), xs[k]? = some u → ys[k]? = some v → (Op.equalIn (d + 1) f.type u v).run P w = .ok r w →
            RepL num S I as' (xs.toList.drop (k + 1)) → RepL num S I bs' (ys.toList.drop (k + 1)) → eqCells fks as' bs' = some t' → t = (r && t') → (Op.eqFields (d + 1) xs ys (f :: fs)).run P w = .ok t w := by
          intro u v as' bs' r t' g1 g2 hr r1 r2 ht' e
          subst e
          have ih := eqf_run d fs (k + 1) fks as' bs' t' w q4 r1 r2 ht'
          rw [Op.eqFields]
          simp only [q1, ne_eq, not_false_eq_true, if_true, Sem.run_bind, q2, part_plain q3 g1, part_plain q3 g2, Result.andThen_ok, hr]
          cases r
          · simp
          · simpa using ih
        have bd : ∀ {α : Type} [DecidableEq α] (a b : α) (r : Bool), (r = true ↔ a = b) → decide (a = b) = r := by
          intro α _ a b r h
          rw [Bool.eq_iff_iff, h]; simp
        cases fk
        · obtain ⟨a, as', b, bs', t', rfl, rfl, ht', e⟩ := eqCells_b h5
          obtain ⟨u, g1, r1, r2⟩ := get h1
          obtain ⟨v, g2, r3, r4⟩ := get h2
          simp at r1 r3; subst r1; subst r3
          have hT : P.underlying f.type = some .bool := by
            unfold plainK at q3; split at q3 <;> first | assumption | cases q3
          exact main (a == b) t' g1 g2 (run_equalIn_bool' w d f.type a b hT) r2 r4 ht' (by rw [e, bd a b (a == b) (by simp)])
        · obtain ⟨k1, a, as', b, bs', t', rfl, rfl, ht', e⟩ := eqCells_i h5
          obtain ⟨u, g1, r1, r2⟩ := get h1
          obtain ⟨v, g2, r3, r4⟩ := get h2
          simp at r1 r3; subst r1; subst r3
          obtain ⟨k', hT⟩ : ∃ k', P.underlying f.type = some (.int k') := by
            unfold plainK at q3; split at q3 <;> first | exact ⟨_, by assumption⟩ | cases q3
          exact main (a == b) t' g1 g2 (run_equalIn_int w d f.type k1 k' a b hT) r2 r4 ht' (by rw [e, bd a b (a == b) (by simp)])
        · obtain ⟨a, as', b, bs', t', rfl, rfl, ht', e⟩ := eqCells_s h5
          obtain ⟨u, g1, r1, r2⟩ := get h1
          obtain ⟨v, g2, r3, r4⟩ := get h2
          simp at r1 r3; subst r1; subst r3
          have hT : P.underlying f.type = some .string := by
            unfold plainK at q3; split at q3 <;> first | assumption | cases q3
          exact main ((⟨a.toArray⟩ : ByteArray).toList == (⟨b.toArray⟩ : ByteArray).toList) t' g1 g2 (run_equalIn_string w d f.type _ _ hT) r2 r4 ht' (by rw [str_toList, str_toList, e, bd a b (a == b) (by simp)])
      · cases hk
    · cases hk

theorem op_eqs (hv : Inv num S I σ w) {op : BinOp} {T U : TypeId} {x y : Operand} {fs : Array Field} {ks : List FK} {as bs : List D} {t neg : Bool} (ho : o.op = .binOp op T x y U) (hop : (op = .eql ∧ neg = false) ∨ (op = .neq ∧ neg = true)) (hT : P.underlying T = some (.struct fs))
    (hk : flatEq P 0 fs.toList = some ks) (hs : P.stoodInHeld T = false) (hg : P.eqGuardType P.depth T = false) (hx : Rep num S I (.agg as) (a.eval x)) (hy : Rep num S I (.agg bs) (a.eval y)) (h : eqCells ks as bs = some t) :
    OpOk num P o a w S I σ (.bool (if neg then !t else t)) σ := by
  rw [rep_agg] at hx hy
  obtain ⟨xs, e1, h1⟩ := hx
  obtain ⟨ys, e2, h2⟩ := hy
  have hf : P.fieldsOf T = fs := by simp [Program.fieldsOf, hT]
  have run : (Op.equal T (.agg xs.toArray) (.agg ys.toArray)).run P w = .ok t w := by
    have := run_equalIn_struct (P := P) w 9999 T xs.toArray ys.toArray (by rw [hf]; exact hT) hs
    show (Op.equalIn (9999 + 1) T _ _).run P w = _
    rw [this, hf]
    exact eqf_run 9998 fs.toList 0 ks as bs t w hk (by simpa using h1) (by simpa using h2) h
  have guard := run_eqGuard_agg (P := P) w op T x y xs.toArray ys.toArray hg
  refine OpOk.same hv (v := .bool (if neg then !t else t)) ?_ (by simp)
  rcases hop with ⟨rfl, rfl⟩ | ⟨rfl, rfl⟩
  · have hb : (binOp .eql T (.agg xs.toArray) (.agg ys.toArray)).run P w = .ok (.bool t) w := by
      show ((do pure (Value.bool (← Op.equal T (.agg xs.toArray) (.agg ys.toArray)))) : Sem Value).run P w = _
      rw [Sem.run_bind, run]; rfl
    simp only [execOp, ho, e1, e2, Sem.run_bind, guard, Result.andThen_ok, hb]
    rfl
  · have hb : (binOp .neq T (.agg xs.toArray) (.agg ys.toArray)).run P w = .ok (.bool !t) w := by
      show ((do pure (Value.bool (!(← Op.equal T (.agg xs.toArray) (.agg ys.toArray))))) : Sem Value).run P w = _
      rw [Sem.run_bind, run]; rfl
    simp only [execOp, ho, e1, e2, Sem.run_bind, guard, Result.andThen_ok, hb]
    rfl
end
end Go.DM
