/- Building structs and slices; appending; text and bytes; equal structs. -/
import Derived.Test.YtpidjgefokgplaaOps2
set_option linter.unnecessarySimpa false
set_option linter.unusedVariables false
set_option linter.unusedSimpArgs false
set_option linter.unusedSectionVars false
namespace Go.DM
open Go

section
variable {num : Cfg} {S S' : Mem} {I I' : Inf} {σ σ' : Store} {w w' : World} {P : Program} {N : Names} {ρ : Env} {a : Act} {o : Oper} {r : D}

theorem fold_overlay : ∀ (us : List Value) (k off : Nat) (cells : Array Value), ((us.zipIdx k).foldl (fun cs (c, j) => cs.setIfInBounds (off + j) c) cells) = (overlay cells.toList (off + k) us).toArray
  | [], k, off, cells => by simp [overlay]
  | u :: us, k, off, cells => by
    rw [List.zipIdx_cons, List.foldl_cons, fold_overlay us (k + 1) off]
    simp [overlay, Nat.add_assoc]

theorem fill_step {cells : Array Value} {off : Nat} {v : Value} (h : off + v.cells.size ≤ cells.size) :
    (v.cells.zipIdx.foldl (fun cs (c, j) => cs.setIfInBounds (off + j) c) cells) = (cells.toList.take off ++ v.cells.toList ++ cells.toList.drop (off + v.cells.toList.length)).toArray := by
  rw [← overlay_eq _ _ _ (by simpa using h)]
  have := fold_overlay v.cells.toList 0 off cells
  rw [Nat.add_zero] at this
  rw [← this]
  rw [← Array.foldl_toList]
  simp

theorem run_mapM {α β : Type} (g : α → Sem β) (g' : α → β) : ∀ (xs : List α), (∀ x ∈ xs, ∀ w : World, (g x).run P w = .ok (g' x) w) → ∀ w : World, (xs.mapM g).run P w = .ok (xs.map g') w
  | [], _, w => by simp
  | x :: xs, h, w => by
    rw [List.mapM_cons]
    simp [h x (by simp), run_mapM g g' xs (fun y hy => h y (by simp [hy]))]

theorem mapO_some {α β : Type} {f : α → Option β} : ∀ {xs : List α} {ys : List β}, mapO f xs = some ys → ∀ x ∈ xs, ∃ y, f x = some y
  | [], _, _, x, hx => by cases hx
  | z :: zs, ys, h, x, hx => by
    simp only [mapO] at h
    split at h
    · rename_i b hb
      split at h
      · rename_i bs hbs
        rcases List.mem_cons.1 hx with rfl | hx
        · exact ⟨b, hb⟩
        · exact mapO_some hbs x hx
      · cases h
    · cases h

theorem mapO_cons {α β : Type} {f : α → Option β} {x : α} {xs : List α} {ys : List β} (h : mapO f (x :: xs) = some ys) : ∃ b bs, f x = some b ∧ mapO f xs = some bs ∧ ys = b :: bs := by
  simp only [mapO] at h
  split at h
  · rename_i b hb
    split at h
    · rename_i bs hbs
      cases h
      exact ⟨b, bs, hb, hbs, rfl⟩
    · cases h
  · cases h

theorem fill_parts (hN : ∀ f g, N.gid f = some g → num g = f) (hr : RT num S I ρ a.tmps) {fs : Array Field} {place : Nat → Option (Nat × Nat)} (hp : ∀ i f inf, fs[i]? = some f → P.info? f.type = some inf → place i = some (f.offset, inf.size)) :
    ∀ (parts : List (Nat × Operand)) (ps : List (Nat × Nat × Opd)) (cs cs' : List D) (cells : Array Value),
      mapO (fun (p : Nat × Operand) => match fs[p.1]? with
        | some f => match P.info? f.type, opd N p.2 with
          | some i, some x => some (f.offset, i.size, x)
          | _, _ => none
        | none => none) parts = some ps → setParts cs ρ ps = some cs' → RepL num S I cs cells.toList →
      ∃ cells', Instr.fill place cells (parts.map fun (i, x) => (i, a.eval x)) = some cells' ∧ RepL num S I cs' cells'.toList
  | [], ps, cs, cs', cells, h, h2, h3 => by
    simp [mapO] at h; subst h
    simp [setParts] at h2; subst h2
    exact ⟨cells, rfl, h3⟩
  | (i, x) :: parts, ps, cs, cs', cells, h, h2, h3 => by
    obtain ⟨b, bs, h4, h5, rfl⟩ := mapO_cons h
    split at h4
    · rename_i f hf
      split at h4
      · rename_i inf x' hi hx
        cases h4
        simp only [setParts] at h2
        split at h2
        · rename_i hc
          obtain ⟨c1, c2, c3⟩ := hc
          have hd : RepL num S I (x'.ev ρ).cells (a.eval x).cells.toList := rep_cells (opd_sound hN hx hr) c3
          have hlen := repL_length hd
          have hl3 := repL_length h3
          have hsz : (a.eval x).cells.size = (a.eval x).cells.toList.length := by simp
          have hcs : cells.size = cells.toList.length := by simp
          obtain ⟨cells', k1, k2⟩ := fill_parts hN hr hp parts bs _ cs' (cells.toList.take f.offset ++ (a.eval x).cells.toList ++ cells.toList.drop (f.offset + (a.eval x).cells.toList.length)).toArray h5 h2
            (by simpa using repL_splice h3 hd f.offset)
          refine ⟨cells', ?_, k2⟩
          have e1 : (decide ((a.eval x).cells.size ≠ inf.size) || decide (f.offset + (a.eval x).cells.size > cells.size)) = false := by
            simp only [Bool.or_eq_false_iff, decide_eq_false_iff_not]; omega
          simp only [List.map_cons, Instr.fill, hp i f inf hf hi, e1, Bool.false_eq_true, if_false]
          rw [fill_step (by omega)]
          exact k1
        · cases h2
      · cases h4
    · cases h4

theorem op_build (hv : Inv num S I σ w) {T : TypeId} {parts : Array (Nat × Operand)} {fs : Array Field} {z cs : List D} {ps : List (Nat × Nat × Opd)} {ii : List TypeInfo} (hN : ∀ f g, N.gid f = some g → num g = f) (ho : o.op = .build T parts) (hT : P.underlying T = some (.struct fs))
    (hz : zeroCs P T = some z) (hr : RT num S I ρ a.tmps)
    (hps : mapO (fun (p : Nat × Operand) => match fs[p.1]? with
        | some f => match P.info? f.type, opd N p.2 with
          | some i, some x => some (f.offset, i.size, x)
          | _, _ => none
        | none => none) parts.toList = some ps)
    (hi : mapO (fun (f : Field) => P.info? f.type) fs.toList = some ii) (h : setParts z ρ ps = some cs) : OpOk num P o a w S I σ (.agg cs) σ := by
  obtain ⟨v, h1, h2, h3⟩ := zeroCs_sound (num := num) (S := S) (I := I) hz
  let g' : Field → Nat × Nat := fun f => (f.offset, ((P.info? f.type).map (·.size)).getD 0)
  have hpl : ∀ w : World, (fs.mapM fun f => do pure (f.offset, ← Go.sizeOf f.type) : Sem (Array (Nat × Nat))).run P w = .ok (fs.map g') w := by
    intro w
    rw [Array.mapM_eq_mapM_toList]
    have := run_mapM (P := P) (fun f => do pure (f.offset, ← Go.sizeOf f.type)) g' fs.toList (fun f hf w => by
      obtain ⟨i, hi'⟩ := mapO_some hi f hf
      simp [Go.sizeOf, typeInfo, hi', g']) w
    simp only [Sem.run_map, this, Result.andThen_ok]
    congr 1
    apply Array.ext'; simp
  obtain ⟨cells', k1, k2⟩ := fill_parts (P := P) (place := fun i => (fs.map g')[i]?) hN hr (fun i f inf hf hinf => by simp [hf, g', hinf]) parts.toList ps z cs v.cells hps h h2
  refine OpOk.same hv (v := .agg cells') ?_ (rep_agg.2 ⟨cells'.toList, by simp, k2⟩)
  have e1 : (parts.map fun (x : Nat × Operand) => (x.1, a.eval x.2)).toList = parts.toList.map fun (i, x) => (i, a.eval x) := by simp
  have hpl' := hpl w
  simp only [execOp, ho, Instr.build, Sem.run_bind, h1, Result.andThen_ok, run_underlying hT, Sem.run_pure]
  simp only [hpl', Result.andThen_ok, e1, k1, Sem.run_pure]

theorem fill_elems (hN : ∀ f g, N.gid f = some g → num g = f) (hr : RT num S I ρ a.tmps) {es : Nat} :
    ∀ (parts : List (Nat × Operand)) (ps : List (Nat × Opd)) (xs xs' : List D) (cells : Array Value),
      mapO (fun (p : Nat × Operand) => (opd N p.2).map fun x => (p.1, x)) parts = some ps → setElems es xs ρ ps = some xs' → RepL num S I (xs.flatMap D.cells) cells.toList →
      (∀ x ∈ xs, x.cells.length = es ∧ x.cells.all D.atom = true) →
      (∃ cells', Instr.fill (fun i => some (i * es, es)) cells (parts.map fun (i, x) => (i, a.eval x)) = some cells' ∧ RepL num S I (xs'.flatMap D.cells) cells'.toList) ∧
        xs'.length = xs.length ∧ (∀ x ∈ xs', x.cells.length = es ∧ x.cells.all D.atom = true)
  | [], ps, xs, xs', cells, h, h2, h3, h4 => by
    simp [mapO] at h; subst h
    simp [setElems] at h2; subst h2
    exact ⟨⟨cells, rfl, h3⟩, rfl, h4⟩
  | (i, x) :: parts, ps, xs, xs', cells, h, h2, h3, h4 => by
    obtain ⟨b, bs, h5, h6, rfl⟩ := mapO_cons h
    simp only [Option.map_eq_some_iff] at h5
    obtain ⟨x', hx, rfl⟩ := h5
    simp only [setElems] at h2
    split at h2
    · rename_i hc
      obtain ⟨c1, c2, c3⟩ := hc
      have hd : RepL num S I (x'.ev ρ).cells (a.eval x).cells.toList := rep_cells (opd_sound hN hx hr) c3
      have hlen := repL_length hd
      have hl3 := repL_length h3
      have hall : ∀ x ∈ xs, x.cells.length = es := fun x hx => (h4 x hx).1
      have hfl := flat_length hall
      have hsz : (a.eval x).cells.size = (a.eval x).cells.toList.length := by simp
      have hcs : cells.size = cells.toList.length := by simp
      have hyi : xs[i]? = some xs[i] := List.getElem?_eq_getElem c2
      obtain ⟨pre, post, f1, f2, f3⟩ := flat_get hall hyi
      have hke : i * es + es ≤ xs.length * es := by
        have := Nat.mul_le_mul_right es (show i + 1 ≤ xs.length by omega)
        rwa [Nat.succ_mul] at this
      have hsp : (xs.set i (x'.ev ρ)).flatMap D.cells = splice (xs.flatMap D.cells) (i * es) (x'.ev ρ).cells := by
        rw [f3, f1]
        have hx1 : xs[i].cells.length = es := hall _ (List.getElem_mem c2)
        simp only [splice]
        rw [List.take_append_of_le_length (by omega), List.take_of_length_le (by omega), List.drop_append, f2]
        rw [show i * es + (x'.ev ρ).cells.length - i * es = xs[i].cells.length by omega]
        rw [show List.drop (i * es + (x'.ev ρ).cells.length) pre = [] from List.drop_of_length_le (by omega)]
        rw [List.drop_append_of_le_length (Nat.le_refl _), List.drop_length]
        simp
      have h4' : ∀ y ∈ xs.set i (x'.ev ρ), y.cells.length = es ∧ y.cells.all D.atom = true := fun y hy => by
        rcases List.mem_or_eq_of_mem_set hy with q | q
        · exact h4 y q
        · subst q; exact ⟨c1, c3⟩
      obtain ⟨⟨cells', k1, k2⟩, k3, k4⟩ := fill_elems hN hr parts bs _ xs' (cells.toList.take (i * es) ++ (a.eval x).cells.toList ++ cells.toList.drop (i * es + (a.eval x).cells.toList.length)).toArray h6 h2
        (by rw [hsp]; simpa using repL_splice h3 hd (i * es)) h4'
      refine ⟨⟨cells', ?_, k2⟩, by simpa using k3, k4⟩
      have e1 : (decide ((a.eval x).cells.size ≠ es) || decide (i * es + (a.eval x).cells.size > cells.size)) = false := by
        simp only [Bool.or_eq_false_iff, decide_eq_false_iff_not]; omega
      simp only [List.map_cons, Instr.fill, e1, Bool.false_eq_true, if_false]
      rw [fill_step (by omega)]
      exact k1
    · cases h2

theorem op_buildSl (hv : Inv num S I σ w) {T e : TypeId} {n : Nat} {parts : Array (Nat × Operand)} {i : TypeInfo} {z : D} {xs : List D} {ps : List (Nat × Opd)} (hN : ∀ f g, N.gid f = some g → num g = f) (ho : o.op = .buildSlice T n parts) (hT : P.underlying T = some (.slice e))
    (hi : P.info? e = some i) (hz : zeroEl P e = some z) (hr : RT num S I ρ a.tmps) (hs : 0 < i.size) (hn : n * i.size ≤ 16777216)
    (hps : mapO (fun (p : Nat × Operand) => (opd N p.2).map fun x => (p.1, x)) parts.toList = some ps) (h : setElems i.size (List.replicate n z) ρ ps = some xs) :
    OpOk num P o a w S I σ (.sl σ.length xs.length) (σ ++ [.arr i.size xs]) := by
  obtain ⟨i', v, hi', k1, k2, k3, k4⟩ := zeroEl_sound (num := num) (S := S) (I := I) hz
  rw [hi] at hi'; cases hi'
  have hvl : v.cells.toList.length = i.size := by rw [repL_length k2, k4]
  have hvs : v.cells.size = i.size := by simpa using hvl
  have hrep := repL_replicate (num := num) (S := S) (I := I) k2 n
  rw [← flatMap_replicate_cells] at hrep
  have hall : ∀ x ∈ List.replicate n z, x.cells.length = i.size ∧ x.cells.all D.atom = true := by
    intro x hx; rw [List.eq_of_mem_replicate hx]; exact ⟨k4, k3⟩
  obtain ⟨⟨cells', m1, m2⟩, m3, m4⟩ := fill_elems hN hr parts.toList ps _ xs (List.replicate n v.cells.toList).flatten.toArray hps h (by simpa using hrep) hall
  have hxl : xs.length = n := by simpa using m3
  have hcl : cells'.toList.length = n * i.size := by rw [repL_length m2, flat_length (fun x hx => (m4 x hx).1), hxl]
  obtain ⟨I', h4, h5⟩ := post_arr (T := e) (sp := []) (cap := n) hv hs m2 m4 (by simpa using hcl)
  refine ⟨_, _, S, I', .inl ?_, h5, h4⟩
  have g1 : ¬ (n * i.size > 2 ^ 24) := by omega
  have e1 : ((Array.range (n * i.size)).map fun k => v.cells[k % v.cells.size]!) = (List.replicate n v.cells.toList).flatten.toArray := by
    apply Array.ext'
    have := zeros_eq (z := v.cells.toList) (n := n)
    simp only [Array.toList_map, Array.toList_range]
    rw [← this, hvl, hvs]
    apply List.map_congr_left
    intro k hk
    rw [getElem!_def, getElem!_def]
    simp
  have e2 : (parts.map fun (x : Nat × Operand) => (x.1, a.eval x.2)).toList = parts.toList.map fun (i, x) => (i, a.eval x) := by simp
  have run : (Instr.buildSlice T n (parts.map fun (x : Nat × Operand) => (x.1, a.eval x.2))).run P w = .ok (.slice (some ⟨w.heap.size, 0, none⟩) n n) (wpush w (.cells cells' e)) := by
    unfold Instr.buildSlice
    by_cases hq : n = 0
    · subst hq
      simp at m1
      simp [run_underlying hT, typeInfo, hi, Go.sizeOf, newRow_run, Array.range_zero', m1]
    · have hqs : ¬ (n * i.size = 0) := by
        intro h; rcases Nat.mul_eq_zero.1 h with h | h
        · exact hq h
        · omega
      simp only [Sem.run_bind, run_underlying hT, Result.andThen_ok, Go.sizeOf, typeInfo, run_program, hi, Sem.run_pure, Sem.run_ite, if_neg g1, if_neg hqs, k1, e1, e2, m1, newRow_run]
  simp only [execOp, ho, Sem.run_bind, run, Result.andThen_ok, Sem.run_pure, hxl]
  simp
end
end Go.DM
