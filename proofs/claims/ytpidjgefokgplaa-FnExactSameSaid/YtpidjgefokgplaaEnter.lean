/- What an argument reads as, as data: by its type. -/
import Derived.Test.YtpidjgefokgplaaRead
import Derived.Deep.Slices
set_option linter.unnecessarySimpa false
set_option linter.unusedVariables false
set_option linter.unusedSimpArgs false
set_option linter.unusedSectionVars false
namespace Go.DM
open Go

/-- types of plain data, closed under what they are made of, laid out without gaps -/
def tilesB (P : Program) : Nat → List Field → Option Nat
  | o, [] => some o
  | o, f :: fs => if f.offset = o then tilesB P (o + P.cellsOf f.type) fs else none

def plainB (P : Program) (ts : List TypeId) : Bool := ts.all fun t =>
  match P.underlying t with
  | some .bool | some (.int _) | some .string => P.cellsOf t == 1
  | some (.slice e) => P.cellsOf t == 1 && (ts.contains e && decide (0 < P.cellsOf e))
  | some (.struct fs) => fs.toList.all (fun f => ts.contains f.type) && tilesB P 0 fs.toList == some (P.cellsOf t)
  | _ => false

def mkEl (P : Program) (e : TypeId) (cs : List D) : D :=
  match P.underlying e with
  | some (.struct _) => .agg cs
  | _ => cs.headD .bot

/-- cells that are of a type -/
def HasT (P : Program) : Nat → TypeId → List D → Prop
  | 0, _, _ => False
  | n + 1, t, cs => match P.underlying t with
    | some .bool => ∃ b, cs = [.bool b]
    | some (.int k) => ∃ i, cs = [.int k i] ∧ (Lit.int k i).wf = true
    | some .string => ∃ s : List UInt8, cs = [.str s] ∧ s.length ≤ maxLen
    | some (.slice e) => ∃ xss : List (List D), cs = [.list (xss.map (mkEl P e))] ∧ xss.length ≤ maxLen ∧ ∀ x ∈ xss, HasT P n e x
    | some (.struct fs) => ∃ ps : List (List D), cs = ps.flatten ∧ ps.length = fs.size ∧ ∀ (i : Nat) (f : Field), fs[i]? = some f → ∃ p, ps[i]? = some p ∧ HasT P n f.type p
    | _ => False

section
variable {P : Program} {ts : List TypeId}

theorem hasT_atoms (hp : plainB P ts = true) : ∀ (n : Nat) (t : TypeId) (cs : List D), t ∈ ts → HasT P n t cs → cs.all D.atom = true
  | 0, _, _, _, h => h.elim
  | n + 1, t, cs, ht, h => by
    have hpt := (List.all_eq_true.1 hp) t ht
    simp only [HasT] at h
    split at h
    · obtain ⟨b, rfl⟩ := h; rfl
    · obtain ⟨b, rfl, _⟩ := h; rfl
    · obtain ⟨b, rfl, _⟩ := h; rfl
    · obtain ⟨b, rfl, _⟩ := h; rfl
    · rename_i fs hu
      simp only [hu, Bool.and_eq_true, List.all_eq_true] at hpt
      obtain ⟨ps, rfl, hl, hx⟩ := h
      rw [List.all_flatten, List.all_eq_true]
      intro p hpm
      obtain ⟨i, hi⟩ := List.getElem?_of_mem hpm
      have hlt : i < fs.size := by
        rw [← hl]
        rcases Nat.lt_or_ge i ps.length with q | q
        · exact q
        · rw [List.getElem?_eq_none q] at hi; cases hi
      obtain ⟨p', e1, e2⟩ := hx i fs[i] (by simp [hlt])
      rw [hi] at e1; cases e1
      have hmem : fs[i].type ∈ ts := by
        have := hpt.1 fs[i] (by simp)
        simpa using this
      exact hasT_atoms hp n _ _ hmem e2
    · exact h.elim

theorem mkEl_cells {e : TypeId} {ds : List D} (ha : ds.all D.atom = true) (h : (∃ fs, P.underlying e = some (.struct fs)) ∨ ds.length = 1) : (mkEl P e ds).cells = ds := by
  unfold mkEl
  split
  · rfl
  · rename_i hn
    rcases h with ⟨fs, h⟩ | h
    · exact absurd h (hn fs)
    · match ds, h with
      | [d], _ =>
        simp at ha
        cases d <;> simp [D.atom] at ha <;> rfl

variable {num : Cfg} {S : Mem} {w : World}

theorem repE_of_get {b e : Nat} {xs : List D} : ∀ {o : Nat}, (∀ (i : Nat) (x : D), xs[i]? = some x → x.cells.length = e ∧ RepD num S b (o + i * e) x) → RepE num S b o e xs := by
  induction xs with
  | nil => intro o _; simp
  | cons x xs ih =>
    intro o h
    have h0 := h 0 x rfl
    rw [repE_cons]
    refine ⟨h0.1, by simpa using h0.2, ih fun i y hy => ?_⟩
    have := h (i + 1) y (by simpa using hy)
    refine ⟨this.1, ?_⟩
    have e1 : o + e + i * e = o + (i + 1) * e := by rw [Nat.add_mul]; omega
    rw [e1]
    exact this.2

theorem tile {n : Nat} {vs : List Value} : ∀ (fs : List Field) (o tot : Nat), tilesB P o fs = some tot → vs.length = tot →
    (∀ (i : Nat) (f : Field), fs[i]? = some f → ∃ ds, HasT P n f.type ds ∧ RepL num S noInf ds ((vs.drop f.offset).take (P.cellsOf f.type))) →
    ∃ ps : List (List D), ps.length = fs.length ∧ (∀ (i : Nat) (f : Field), fs[i]? = some f → ∃ p, ps[i]? = some p ∧ HasT P n f.type p) ∧ RepL num S noInf ps.flatten (vs.drop o)
  | [], o, tot, ht, hl, _ => by
    simp [tilesB] at ht
    subst ht
    refine ⟨[], rfl, by simp, ?_⟩
    rw [List.drop_of_length_le (by omega)]
    simp
  | f :: fs, o, tot, ht, hl, h => by
    simp only [tilesB] at ht
    split at ht
    · rename_i ho
      obtain ⟨ds, h1, h2⟩ := h 0 f rfl
      obtain ⟨ps, q1, q2, q3⟩ := tile fs _ tot ht hl fun i g hg => h (i + 1) g (by simpa using hg)
      refine ⟨ds :: ps, by simp [q1], fun i g hg => ?_, ?_⟩
      · cases i with
        | zero => simp at hg; subst hg; exact ⟨ds, rfl, h1⟩
        | succ i => simpa using q2 i g (by simpa using hg)
      · rw [List.flatten_cons]
        refine repL_append.2 ⟨(vs.drop o).take (P.cellsOf f.type), vs.drop (o + P.cellsOf f.type), ?_, by rw [← ho]; exact h2, q3⟩
        rw [← List.drop_drop, List.take_append_drop]
    · cases ht

/-- WHAT IS READ OF PLAIN DATA: a datum of its type stands for it. -/
theorem enter {H : Type} {enc : TypeId × Value → H} {base : Nat} {spare : Nat → Bool} {held : Bool} (hp : plainB P ts = true) (hS : ∀ b o v, w.cell? ⟨b, o, none⟩ = some v → S b o = some v) : ∀ (n : Nat) (t : TypeId) (vs : List Value) (x : DataW H × List MemPlace), t ∈ ts →
    DataW.trod enc P w base spare held n t vs = some x → ∃ cs, HasT P n t cs ∧ RepL num S noInf cs vs ∧ cs.length = P.cellsOf t
  | 0, t, vs, x, _, h => by simp [DataW.trod] at h
  | n + 1, t, vs, x, ht, h => by
    have hpt := (List.all_eq_true.1 hp) t ht
    cases hu : P.underlying t with
    | none => rw [hu] at hpt; cases hpt
    | some d =>
      rw [hu] at hpt
      have one : ∀ (c : D) (v : Value), vs = [v] → P.cellsOf t = 1 → Rep num S noInf c v → RepL num S noInf [c] vs ∧ [c].length = P.cellsOf t := by
        rintro c v rfl h1 h2
        exact ⟨repL_cons.2 ⟨v, [], rfl, h2, by simp⟩, by simp [h1]⟩
      cases d with
      | bool =>
        have hc : P.cellsOf t = 1 := by simpa using hpt
        unfold DataW.trod at h
        rw [hu] at h
        split at h <;> simp_all
        rename_i b
        exact ⟨[.bool b], by simp [HasT, hu], repL_cons.2 ⟨_, _, rfl, by simp, by simp⟩, rfl⟩
      | int k =>
        have hc : P.cellsOf t = 1 := by simpa using hpt
        unfold DataW.trod at h
        rw [hu] at h
        split at h <;> simp_all
        refine ⟨[_], ?_, repL_cons.2 ⟨_, _, rfl, rep_int.2 rfl, by simp⟩, rfl⟩
        simp [HasT, hu]
        exact h.1.2
      | string =>
        have hc : P.cellsOf t = 1 := by simpa using hpt
        unfold DataW.trod at h
        rw [hu] at h
        split at h <;> simp_all
        rename_i s
        refine ⟨[.str s.data.toList], by simp [HasT, hu]; exact h.1, repL_cons.2 ⟨_, _, rfl, by simp, by simp⟩, rfl⟩
      | slice e =>
        simp only [Bool.and_eq_true, beq_iff_eq, decide_eq_true_eq] at hpt
        obtain ⟨hc, he, he0⟩ := hpt
        have he' : e ∈ ts := by simpa using he
        rcases DataW.trod_slice hu h with ⟨rfl, _⟩ | ⟨a, len, cap, elems, rest, m, hm, rfl, _, hb, hl, hcap, hlen, hel, _⟩
        · exact ⟨[.list []], by simp only [HasT, hu]; exact ⟨[], rfl, by simp, by simp⟩, repL_cons.2 ⟨_, _, rfl, rep_list.2 ⟨none, 0, rfl, Nat.le_refl _, .inl rfl⟩, by simp⟩, by simp [hc]⟩
        · cases hm
          have each : ∀ i, i < len → ∃ ds cs', HasT P n e ds ∧ RepL num S noInf ds cs' ∧ ds.length = P.cellsOf e ∧ w.cells? base (a.add (i * P.cellsOf e)) (P.cellsOf e) = some cs' := by
            intro i hi
            have h1 := hel i hi
            rw [List.getElem?_eq_getElem (by omega), Option.bind_eq_some_iff] at h1
            obtain ⟨cs', h2, h3⟩ := h1
            obtain ⟨ds, d1, d2, d3⟩ := enter hp hS n e cs' _ he' h3
            exact ⟨ds, cs', d1, d2, d3, h2⟩
          have hspot : len ≠ 0 → a.spot = none := fun h0 => by
            obtain ⟨ds, cs', _, _, _, h2⟩ := each 0 (by omega)
            obtain ⟨_, h3, h4⟩ := World.cells?_some h2
            have h5 := h4 0 he0
            rw [List.getElem?_eq_getElem (by omega)] at h5
            simp only [Nat.zero_mul, Addr.add, if_true] at h5
            unfold World.cell? at h5
            split at h5
            · split at h5
              · cases h5
              · rename_i hs; simpa using hs
            · cases h5
          let f : Nat → List D := fun i => if hi : i < len then (each i hi).choose else []
          have hf : ∀ i, i < len → ∃ cs', HasT P n e (f i) ∧ RepL num S noInf (f i) cs' ∧ (f i).length = P.cellsOf e ∧ w.cells? base (a.add (i * P.cellsOf e)) (P.cellsOf e) = some cs' := by
            intro i hi
            simp only [f, hi, dif_pos]
            exact (each i hi).choose_spec
          refine ⟨[.list (((List.range len).map f).map (mkEl P e))], ?_, repL_cons.2 ⟨_, _, rfl, ?_, by simp⟩, by simp [hc]⟩
          · simp only [HasT, hu]
            refine ⟨_, rfl, by simp; omega, fun x hx => ?_⟩
            rw [List.mem_map] at hx
            obtain ⟨i, hi, rfl⟩ := hx
            obtain ⟨_, h1, _⟩ := hf i (by simpa using hi)
            exact h1
          · refine rep_list.2 ⟨some a, cap, by simp, by simp; omega, ?_⟩
            by_cases h0 : len = 0
            · left; simp [h0]
            · right
              obtain ⟨b, o, sp⟩ := a
              have hsp : sp = none := hspot h0
              subst hsp
              refine ⟨b, o, P.cellsOf e, rfl, he0, repE_of_get fun i x hx => ?_⟩
              rw [List.getElem?_map, List.getElem?_map] at hx
              have hi : i < len := by
                rcases Nat.lt_or_ge i len with q | q
                · exact q
                · rw [List.getElem?_eq_none (by simp; omega)] at hx; cases hx
              rw [List.getElem?_range hi] at hx
              simp at hx
              subst hx
              obtain ⟨cs', d1, d2, d3, d4⟩ := hf i hi
              have hat := hasT_atoms hp n e _ he' d1
              have hone : (∃ fs, P.underlying e = some (.struct fs)) ∨ (f i).length = 1 := by
                have hpe := (List.all_eq_true.1 hp) e he'
                cases hue : P.underlying e with
                | none => rw [hue] at hpe; cases hpe
                | some de =>
                  rw [hue] at hpe
                  cases de <;> first
                    | exact .inl ⟨_, rfl⟩
                    | (right; rw [d3]; simp at hpe; first | exact hpe | exact hpe.1)
                    | cases hpe
              have hcells := mkEl_cells (P := P) (e := e) hat hone
              refine ⟨by rw [hcells, d3], ?_⟩
              rw [repD_cells, hcells]
              refine repM_of_cells d2 fun j v hj => ?_
              obtain ⟨_, c1, c2⟩ := World.cells?_some d4
              have hjl : j < P.cellsOf e := by
                rw [← c1]
                rcases Nat.lt_or_ge j cs'.length with q | q
                · exact q
                · rw [List.getElem?_eq_none q] at hj; cases hj
              have := c2 j hjl
              rw [hj, addr_add, addr_add] at this
              exact hS _ _ _ this
      | struct fs =>
        simp only [Bool.and_eq_true, List.all_eq_true, beq_iff_eq] at hpt
        obtain ⟨hts, htile⟩ := hpt
        obtain ⟨xs, m, hm, _, hl, hxl, hx⟩ := DataW.trod_struct hu h
        cases hm
        obtain ⟨ps, q1, q2, q3⟩ := tile (P := P) (num := num) (S := S) (n := n) (vs := vs) fs.toList 0 _ htile hl fun i f hf => by
          have hf' : fs[i]? = some f := by simpa using hf
          have h1 := hx i f hf'
          have hlt : i < xs.length := by
            rw [hxl]
            exact (Array.getElem?_eq_some_iff.1 hf').1
          rw [List.getElem?_eq_getElem hlt] at h1
          have hmem : f.type ∈ ts := by
            have := hts f (List.mem_of_getElem? hf)
            simpa using this
          obtain ⟨ds, d1, d2, _⟩ := enter hp hS n f.type _ _ hmem h1
          exact ⟨ds, d1, d2⟩
        refine ⟨ps.flatten, ?_, by simpa using q3, ?_⟩
        · simp only [HasT, hu]
          refine ⟨ps, rfl, by simpa using q1, fun i f hf => q2 i f (by simpa using hf)⟩
        · have := repL_length q3
          simp at this
          rw [← hl]
          simpa using this.symm
      | _ => cases hpt
end
end Go.DM
