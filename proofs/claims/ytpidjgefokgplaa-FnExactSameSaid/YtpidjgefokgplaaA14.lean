/- Same: both tell whether two plans are alike (printed by a program). -/
import Derived.Test.YtpidjgefokgplaaA13
set_option linter.unusedVariables false
set_option linter.unusedSimpArgs false
set_option linter.unnecessarySimpa false
namespace Go.DM
open Go
variable {Γ : Tab}
theorem L136_1 (x y : Table) (hl : x.cols.length ≤ 9223372036854775807) (hxy : x.cols.length = y.cols.length) (p : Col → Col → Bool) (hp : ∀ a ∈ x.cols, ∀ b ∈ y.cols, EvF Γ 161 [Col.d a, Col.d b] [] = some (.bool (p a b), [])) {ρ : Env} (hρ : keepOnly [2, 3, 5] ρ = [(2, .fptr x.d 0), (3, .fptr y.d 0), (5, .int .i64 0)]) :
    inBlk 0 [2, 3] (EvC Γ f136L1 ρ []) = if ((x.cols.zip y.cols).all fun q => p q.1 q.2) = true then some (.norm, [(2, .fptr x.d 0), (3, .fptr y.d 0)], []) else some (.ret, [(4, .bool false)], []) := by
  have hzl : (x.cols.zip y.cols).length = x.cols.length := by simp [hxy]
  have key := loop_list (Γ := Γ) (L := f136L1) rfl (inBlk 0 [2, 3]) (x.cols.zip y.cols) (fun i (_ : Unit) => [(2, .fptr x.d 0), (3, .fptr y.d 0), (5, .int .i64 i)]) (fun _ _ => ([] : Store)) (fun _ r _ => if (r.all fun q => p q.1 q.2) = true then some (.norm, [(2, .fptr x.d 0), (3, .fptr y.d 0)], []) else some (.ret, [(4, .bool false)], [])) ?_ ?_ () ρ hρ
  · exact key
  · intro _; simp [f136l1, hzl]
  · intro i q r _ hx hi hr ih
    have hix : i < x.cols.length := by omega
    have hw := wrap64_succ hix hl
    have hi' : (i : Int) < x.cols.length := by omega
    have hx1 : x.cols[i]? = some q.1 := by
      have := congrArg (Option.map Prod.fst) hx
      rw [← List.getElem?_map, List.map_fst_zip (by omega)] at this
      simpa using this
    have hy1 : y.cols[i]? = some q.2 := by
      have := congrArg (Option.map Prod.snd) hx
      rw [← List.getElem?_map, List.map_snd_zip (by omega)] at this
      simpa using this
    have h1 := hp _ (List.mem_of_getElem? hx1) _ (List.mem_of_getElem? hy1)
    cases hb : p q.1 q.2 with
    | true =>
      have ih := ih ()
      simp only [List.all_cons, hb, Bool.true_and]
      simp [f136l1, hi', hw, hx1, hy1, h1, hb, callIn_pure, ih]
    | false =>
      simp only [List.all_cons, hb, Bool.false_and]
      simp [f136l1, hi', hx1, hy1, h1, hb, callIn_pure]
theorem L136_2 (x y : Table) (hl : x.rules.length ≤ 9223372036854775807) (hxy : x.rules.length = y.rules.length) (p : Rule → Rule → Bool) (hp : ∀ a ∈ x.rules, ∀ b ∈ y.rules, EvF Γ 162 [Rule.d a, Rule.d b] [] = some (.bool (p a b), [])) {ρ : Env} (hρ : keepOnly [2, 3, 6] ρ = [(2, .fptr x.d 0), (3, .fptr y.d 0), (6, .int .i64 0)]) :
    inBlk 2 [] (EvC Γ f136L2 ρ []) = if ((x.rules.zip y.rules).all fun q => p q.1 q.2) = true then some (.norm, [], []) else some (.ret, [(4, .bool false)], []) := by
  have hzl : (x.rules.zip y.rules).length = x.rules.length := by simp [hxy]
  have key := loop_list (Γ := Γ) (L := f136L2) rfl (inBlk 2 []) (x.rules.zip y.rules) (fun i (_ : Unit) => [(2, .fptr x.d 0), (3, .fptr y.d 0), (6, .int .i64 i)]) (fun _ _ => ([] : Store)) (fun _ r _ => if (r.all fun q => p q.1 q.2) = true then some (.norm, [], []) else some (.ret, [(4, .bool false)], [])) ?_ ?_ () ρ hρ
  · exact key
  · intro _; simp [f136l2, hzl]
  · intro i q r _ hx hi hr ih
    have hix : i < x.rules.length := by omega
    have hw := wrap64_succ hix hl
    have hi' : (i : Int) < x.rules.length := by omega
    have hx1 : x.rules[i]? = some q.1 := by
      have := congrArg (Option.map Prod.fst) hx
      rw [← List.getElem?_map, List.map_fst_zip (by omega)] at this
      simpa using this
    have hy1 : y.rules[i]? = some q.2 := by
      have := congrArg (Option.map Prod.snd) hx
      rw [← List.getElem?_map, List.map_snd_zip (by omega)] at this
      simpa using this
    have h1 := hp _ (List.mem_of_getElem? hx1) _ (List.mem_of_getElem? hy1)
    cases hb : p q.1 q.2 with
    | true =>
      have ih := ih ()
      simp only [List.all_cons, hb, Bool.true_and]
      simp [f136l2, hi', hw, hx1, hy1, h1, hb, callIn_pure, ih]
    | false =>
      simp only [List.all_cons, hb, Bool.false_and]
      simp [f136l2, hi', hx1, hy1, h1, hb, callIn_pure]
theorem L127_1 (h : H127 Γ) (x y : Plan) (hl : x.enums.length ≤ 9223372036854775807) (hxy : x.enums.length = y.enums.length) (hokl : LOk Labels.Ok x.enums) {ρ : Env} (hρ : keepOnly [2, 3, 5] ρ = [(2, .fptr x.d 0), (3, .fptr y.d 0), (5, .int .i64 0)]) :
    inBlk 0 [2, 3] (EvC Γ f127L1 ρ []) = if ((x.enums.zip y.enums).all fun q => decide (q.1 = q.2)) = true then some (.norm, [(2, .fptr x.d 0), (3, .fptr y.d 0)], []) else some (.ret, [(4, .bool false)], []) := by
  have hzl : (x.enums.zip y.enums).length = x.enums.length := by simp [hxy]
  have key := loop_list (Γ := Γ) (L := f127L1) rfl (inBlk 0 [2, 3]) (x.enums.zip y.enums) (fun i (_ : Unit) => [(2, .fptr x.d 0), (3, .fptr y.d 0), (5, .int .i64 i)]) (fun _ _ => ([] : Store)) (fun _ r _ => if (r.all fun q => decide (q.1 = q.2)) = true then some (.norm, [(2, .fptr x.d 0), (3, .fptr y.d 0)], []) else some (.ret, [(4, .bool false)], [])) ?_ ?_ () ρ hρ
  · exact key
  · intro _; simp [f127l1, hzl]
  · intro i q r _ hx hi hr ih
    have hix : i < x.enums.length := by omega
    have hw := wrap64_succ hix hl
    have hi' : (i : Int) < x.enums.length := by omega
    have hx1 : x.enums[i]? = some q.1 := by
      have := congrArg (Option.map Prod.fst) hx
      rw [← List.getElem?_map, List.map_fst_zip (by omega)] at this
      simpa using this
    have hy1 : y.enums[i]? = some q.2 := by
      have := congrArg (Option.map Prod.snd) hx
      rw [← List.getElem?_map, List.map_snd_zip (by omega)] at this
      simpa using this
    have h1 := l06Same_ev h.c133 q.1.list q.2.list (hokl.2 q.1 (List.mem_of_getElem? hx1)).list.1
    by_cases hn : q.1.name = q.2.name
    · by_cases hb : q.1.list = q.2.list
      · have e : q.1 = q.2 := by
          obtain ⟨a, b⟩ := q
          cases a; cases b
          simp at hn hb
          simp [hn, hb]
        have ih := ih ()
        rw [decide_eq_true hb] at h1
        simp only [List.all_cons, decide_eq_true e, Bool.true_and]
        simp [f127l1, hi', hw, hx1, hy1, hn, h1, callIn_pure, ih]
      · have e : ¬ q.1 = q.2 := fun e => hb (by rw [e])
        rw [decide_eq_false hb] at h1
        simp only [List.all_cons, decide_eq_false e, Bool.false_and]
        simp [f127l1, hi', hx1, hy1, hn, h1, callIn_pure]
    · have e : ¬ q.1 = q.2 := fun e => hn (by rw [e])
      simp only [List.all_cons, decide_eq_false e, Bool.false_and]
      simp [f127l1, hi', hx1, hy1, hn]
theorem L127_2 (x y : Plan) (hl : x.seqs.length ≤ 9223372036854775807) (hxy : x.seqs.length = y.seqs.length) {ρ : Env} (hρ : keepOnly [2, 3, 6] ρ = [(2, .fptr x.d 0), (3, .fptr y.d 0), (6, .int .i64 0)]) :
    inBlk 2 [2, 3] (EvC Γ f127L2 ρ []) = if ((x.seqs.zip y.seqs).all fun q => decide (q.1 = q.2)) = true then some (.norm, [(2, .fptr x.d 0), (3, .fptr y.d 0)], []) else some (.ret, [(4, .bool false)], []) := by
  have hzl : (x.seqs.zip y.seqs).length = x.seqs.length := by simp [hxy]
  have key := loop_list (Γ := Γ) (L := f127L2) rfl (inBlk 2 [2, 3]) (x.seqs.zip y.seqs) (fun i (_ : Unit) => [(2, .fptr x.d 0), (3, .fptr y.d 0), (6, .int .i64 i)]) (fun _ _ => ([] : Store)) (fun _ r _ => if (r.all fun q => decide (q.1 = q.2)) = true then some (.norm, [(2, .fptr x.d 0), (3, .fptr y.d 0)], []) else some (.ret, [(4, .bool false)], [])) ?_ ?_ () ρ hρ
  · exact key
  · intro _; simp [f127l2, hzl]
  · intro i q r _ hx hi hr ih
    have hix : i < x.seqs.length := by omega
    have hw := wrap64_succ hix hl
    have hi' : (i : Int) < x.seqs.length := by omega
    have hx1 : x.seqs[i]? = some q.1 := by
      have := congrArg (Option.map Prod.fst) hx
      rw [← List.getElem?_map, List.map_fst_zip (by omega)] at this
      simpa using this
    have hy1 : y.seqs[i]? = some q.2 := by
      have := congrArg (Option.map Prod.snd) hx
      rw [← List.getElem?_map, List.map_snd_zip (by omega)] at this
      simpa using this
    by_cases hb : q.1 = q.2
    · have ih := ih ()
      simp only [List.all_cons, hb, decide_true, Bool.true_and]
      simp [f127l2, hi', hw, hx1, hy1, hb, ih]
    · simp only [List.all_cons, hb, decide_false, Bool.false_and]
      have hb' : ¬ (q.1.name = q.2.name ∧ q.1.start = q.2.start) := fun e => hb (by
        obtain ⟨a, b⟩ := q
        cases a; cases b
        simp at e
        simp [e])
      have hb'' : ¬ q.1.name = q.2.name ∨ ¬ q.1.start = q.2.start := Decidable.not_and_iff_or_not.mp hb'
      simp [f127l2, hi', hx1, hy1, hb'']
theorem L127_3 (x y : Plan) (hl : x.tables.length ≤ 9223372036854775807) (hxy : x.tables.length = y.tables.length) (p : Table → Table → Bool) (hp : ∀ a ∈ x.tables, ∀ b ∈ y.tables, EvF Γ 136 [Table.d a, Table.d b] [] = some (.bool (p a b), [])) {ρ : Env} (hρ : keepOnly [2, 3, 7] ρ = [(2, .fptr x.d 0), (3, .fptr y.d 0), (7, .int .i64 0)]) :
    inBlk 4 [2, 3] (EvC Γ f127L3 ρ []) = if ((x.tables.zip y.tables).all fun q => p q.1 q.2) = true then some (.norm, [(2, .fptr x.d 0), (3, .fptr y.d 0)], []) else some (.ret, [(4, .bool false)], []) := by
  have hzl : (x.tables.zip y.tables).length = x.tables.length := by simp [hxy]
  have key := loop_list (Γ := Γ) (L := f127L3) rfl (inBlk 4 [2, 3]) (x.tables.zip y.tables) (fun i (_ : Unit) => [(2, .fptr x.d 0), (3, .fptr y.d 0), (7, .int .i64 i)]) (fun _ _ => ([] : Store)) (fun _ r _ => if (r.all fun q => p q.1 q.2) = true then some (.norm, [(2, .fptr x.d 0), (3, .fptr y.d 0)], []) else some (.ret, [(4, .bool false)], [])) ?_ ?_ () ρ hρ
  · exact key
  · intro _; simp [f127l3, hzl]
  · intro i q r _ hx hi hr ih
    have hix : i < x.tables.length := by omega
    have hw := wrap64_succ hix hl
    have hi' : (i : Int) < x.tables.length := by omega
    have hx1 : x.tables[i]? = some q.1 := by
      have := congrArg (Option.map Prod.fst) hx
      rw [← List.getElem?_map, List.map_fst_zip (by omega)] at this
      simpa using this
    have hy1 : y.tables[i]? = some q.2 := by
      have := congrArg (Option.map Prod.snd) hx
      rw [← List.getElem?_map, List.map_snd_zip (by omega)] at this
      simpa using this
    have h1 := hp _ (List.mem_of_getElem? hx1) _ (List.mem_of_getElem? hy1)
    cases hb : p q.1 q.2 with
    | true =>
      have ih := ih ()
      simp only [List.all_cons, hb, Bool.true_and]
      simp [f127l3, hi', hw, hx1, hy1, h1, hb, callIn_pure, ih]
    | false =>
      simp only [List.all_cons, hb, Bool.false_and]
      simp [f127l3, hi', hx1, hy1, h1, hb, callIn_pure]
theorem L127_4 (x y : Plan) (hl : x.indexes.length ≤ 9223372036854775807) (hxy : x.indexes.length = y.indexes.length) (p : Index → Index → Bool) (hp : ∀ a ∈ x.indexes, ∀ b ∈ y.indexes, EvF Γ 134 [Index.d a, Index.d b] [] = some (.bool (p a b), [])) {ρ : Env} (hρ : keepOnly [2, 3, 8] ρ = [(2, .fptr x.d 0), (3, .fptr y.d 0), (8, .int .i64 0)]) :
    inBlk 6 [2, 3] (EvC Γ f127L4 ρ []) = if ((x.indexes.zip y.indexes).all fun q => p q.1 q.2) = true then some (.norm, [(2, .fptr x.d 0), (3, .fptr y.d 0)], []) else some (.ret, [(4, .bool false)], []) := by
  have hzl : (x.indexes.zip y.indexes).length = x.indexes.length := by simp [hxy]
  have key := loop_list (Γ := Γ) (L := f127L4) rfl (inBlk 6 [2, 3]) (x.indexes.zip y.indexes) (fun i (_ : Unit) => [(2, .fptr x.d 0), (3, .fptr y.d 0), (8, .int .i64 i)]) (fun _ _ => ([] : Store)) (fun _ r _ => if (r.all fun q => p q.1 q.2) = true then some (.norm, [(2, .fptr x.d 0), (3, .fptr y.d 0)], []) else some (.ret, [(4, .bool false)], [])) ?_ ?_ () ρ hρ
  · exact key
  · intro _; simp [f127l4, hzl]
  · intro i q r _ hx hi hr ih
    have hix : i < x.indexes.length := by omega
    have hw := wrap64_succ hix hl
    have hi' : (i : Int) < x.indexes.length := by omega
    have hx1 : x.indexes[i]? = some q.1 := by
      have := congrArg (Option.map Prod.fst) hx
      rw [← List.getElem?_map, List.map_fst_zip (by omega)] at this
      simpa using this
    have hy1 : y.indexes[i]? = some q.2 := by
      have := congrArg (Option.map Prod.snd) hx
      rw [← List.getElem?_map, List.map_snd_zip (by omega)] at this
      simpa using this
    have h1 := hp _ (List.mem_of_getElem? hx1) _ (List.mem_of_getElem? hy1)
    cases hb : p q.1 q.2 with
    | true =>
      have ih := ih ()
      simp only [List.all_cons, hb, Bool.true_and]
      simp [f127l4, hi', hw, hx1, hy1, h1, hb, callIn_pure, ih]
    | false =>
      simp only [List.all_cons, hb, Bool.false_and]
      simp [f127l4, hi', hx1, hy1, h1, hb, callIn_pure]
theorem L127_5 (x y : Plan) (hl : x.views.length ≤ 9223372036854775807) (hxy : x.views.length = y.views.length) (p : View → View → Bool) (hp : ∀ a ∈ x.views, ∀ b ∈ y.views, EvF Γ 135 [View.d a, View.d b] [] = some (.bool (p a b), [])) {ρ : Env} (hρ : keepOnly [2, 3, 9] ρ = [(2, .fptr x.d 0), (3, .fptr y.d 0), (9, .int .i64 0)]) :
    inBlk 8 [] (EvC Γ f127L5 ρ []) = if ((x.views.zip y.views).all fun q => p q.1 q.2) = true then some (.norm, [], []) else some (.ret, [(4, .bool false)], []) := by
  have hzl : (x.views.zip y.views).length = x.views.length := by simp [hxy]
  have key := loop_list (Γ := Γ) (L := f127L5) rfl (inBlk 8 []) (x.views.zip y.views) (fun i (_ : Unit) => [(2, .fptr x.d 0), (3, .fptr y.d 0), (9, .int .i64 i)]) (fun _ _ => ([] : Store)) (fun _ r _ => if (r.all fun q => p q.1 q.2) = true then some (.norm, [], []) else some (.ret, [(4, .bool false)], [])) ?_ ?_ () ρ hρ
  · exact key
  · intro _; simp [f127l5, hzl]
  · intro i q r _ hx hi hr ih
    have hix : i < x.views.length := by omega
    have hw := wrap64_succ hix hl
    have hi' : (i : Int) < x.views.length := by omega
    have hx1 : x.views[i]? = some q.1 := by
      have := congrArg (Option.map Prod.fst) hx
      rw [← List.getElem?_map, List.map_fst_zip (by omega)] at this
      simpa using this
    have hy1 : y.views[i]? = some q.2 := by
      have := congrArg (Option.map Prod.snd) hx
      rw [← List.getElem?_map, List.map_snd_zip (by omega)] at this
      simpa using this
    have h1 := hp _ (List.mem_of_getElem? hx1) _ (List.mem_of_getElem? hy1)
    cases hb : p q.1 q.2 with
    | true =>
      have ih := ih ()
      simp only [List.all_cons, hb, Bool.true_and]
      simp [f127l5, hi', hw, hx1, hy1, h1, hb, callIn_pure, ih]
    | false =>
      simp only [List.all_cons, hb, Bool.false_and]
      simp [f127l5, hi', hx1, hy1, h1, hb, callIn_pure]
theorem zip_eq {α : Type} [DecidableEq α] {xs ys : List α} (h : xs.length = ys.length) : ((xs.zip ys).all fun q => decide (q.1 = q.2)) = decide (xs = ys) := by
  rw [← all_eq, decide_eq_true h, Bool.true_and]
noncomputable def sameTab (x y : Table) : Bool := decide (x.name = y.name) && decide (x.cols = y.cols) && decide (x.rules = y.rules)
noncomputable def tabsSame (xs ys : List Table) : Bool := decide (xs.length = ys.length) && (xs.zip ys).all fun q => sameTab q.1 q.2
noncomputable def planSame (x y : Plan) : Bool := decide (x.enums = y.enums) && decide (x.seqs = y.seqs) && tabsSame x.tables y.tables && decide (x.indexes = y.indexes) && decide (x.views = y.views)
set_option maxHeartbeats 4000000 in
theorem l12Same_ev (h : H136 Γ) (x : Table) (hok : x.Ok) (y : Table) : EvF Γ 136 [x.d, y.d] [] = some (.bool (sameTab x y), []) := by
  rw [EvF_run h.e136 rfl]
  by_cases q0 : x.name = y.name
  rotate_left
  · simp [f136, q0, sameTab]
  by_cases q1 : x.cols.length = y.cols.length
  rotate_left
  · have hne : ¬ x.cols = y.cols := fun e => q1 (by rw [e])
    have z : ¬ (x.cols.length : Int) = y.cols.length := by omega
    simp [f136, q0, z, hne, sameTab]
  by_cases q2 : x.rules.length = y.rules.length
  rotate_left
  · have hne : ¬ x.rules = y.rules := fun e => q2 (by rw [e])
    have z : ¬ (x.rules.length : Int) = y.rules.length := by omega
    simp [f136, q0, q1, z, hne, sameTab]
  have a1 := fun ρ hρ => L136_1 (Γ := Γ) x y hok.cols.1 q1 (fun a b => decide (a = b)) (fun a ha b _ => l12Col_ev h.c161 a (hok.cols.2 a ha) b) (ρ := ρ) hρ
  have a2 := fun ρ hρ => L136_2 (Γ := Γ) x y hok.rules.1 q2 (fun a b => decide (a = b)) (fun a ha b _ => l12One_ev h.c162 a (hok.rules.2 a ha) b) (ρ := ρ) hρ
  simp only [zip_eq q1, zip_eq q2] at a1 a2
  by_cases e1 : x.cols = y.cols
  rotate_left
  · simp only [decide_eq_false e1, Bool.false_eq_true, if_false] at a1
    simp [f136, q0, q1, q2, a1, e1, sameTab]
  simp only [decide_eq_true e1, if_true] at a1
  by_cases e2 : x.rules = y.rules
  rotate_left
  · simp only [decide_eq_false e2, Bool.false_eq_true, if_false] at a2
    simp [f136, q0, q1, q2, a1, a2, e1, e2, sameTab]
  simp only [decide_eq_true e2, if_true] at a2
  simp [f136, q0, q1, q2, a1, a2, e1, e2, sameTab]
set_option maxHeartbeats 4000000 in
theorem sameTable_ev (h : H144 Γ) (x : Table) (hok : x.Ok) (y : Table) : EvF Γ 144 [x.d, y.d] [] = some (.bool (sameTab x y), []) := by
  rw [EvF_run h.e144 rfl]
  have g1 := eqf172_ev h.c172 170 [] (fun a b => decide (a = b)) x.cols y.cols hok.cols.1 rfl (fun a ha b _ => sameCol_ev h.c170 a (hok.cols.2 a ha) b)
  have g2 := eqf173_ev h.c173 171 [] (fun a b => decide (a = b)) x.rules y.rules hok.rules.1 rfl (fun a ha b _ => sameRule_ev h.c171 a (hok.rules.2 a ha) b)
  rw [all_eq] at g1 g2
  by_cases q0 : x.name = y.name
  rotate_left
  · simp [f144, q0, sameTab]
  by_cases e1 : x.cols = y.cols
  rotate_left
  · rw [decide_eq_false e1] at g1
    simp [f144, callIn_pure, q0, g1, e1, sameTab]
  rw [decide_eq_true e1] at g1
  have r : sameTab x y = decide (x.rules = y.rules) := by simp [sameTab, q0, e1]
  rw [r]
  simp [f144, callIn_pure, q0, g1, g2]
set_option maxHeartbeats 4000000 in
theorem implSame_ev (h : H123 Γ) (x : Plan) (hok : x.Ok) (y : Plan) : EvF Γ 123 [x.d, y.d] [] = some (.bool (planSame x y), []) := by
  rw [EvF_run h.e123 rfl]
  have g1 := eqf147_ev h.c147 143 [] (fun a b => decide (a = b)) x.enums y.enums hok.enums.1 rfl (fun a ha b _ => sameLabels_ev h.c143 a (hok.enums.2 a ha) b)
  have g2 := eq150_ev h.c150 x.seqs y.seqs hok.seqs.1
  have g3 := eqf148_ev h.c148 144 [] sameTab x.tables y.tables hok.tables.1 rfl (fun a ha b _ => sameTable_ev h.c144 a (hok.tables.2 a ha) b)
  have g4 := eqf146_ev h.c146 142 [] (fun a b => decide (a = b)) x.indexes y.indexes hok.indexes.1 rfl (fun a ha b _ => sameIndex_ev h.c142 a (hok.indexes.2 a ha) b)
  have g5 := eqf149_ev h.c149 145 [] (fun a b => decide (a = b)) x.views y.views hok.views.1 rfl (fun a ha b _ => sameView_ev h.c145 a (hok.views.2 a ha) b)
  rw [all_eq] at g1 g4 g5
  have g3 : EvF Γ 148 [.list (x.tables.map Table.d), .list (y.tables.map Table.d), .fn 144 []] [] = some (.bool (tabsSame x.tables y.tables), []) := g3
  cases e1 : decide (x.enums = y.enums)
  · rw [e1] at g1
    simp only [planSame, e1, Bool.false_and]
    simp [f123, callIn_pure, g1]
  rw [e1] at g1
  cases e2 : decide (x.seqs = y.seqs)
  · rw [e2] at g2
    simp only [planSame, e1, e2, Bool.false_and, Bool.true_and]
    simp [f123, callIn_pure, g1, g2]
  rw [e2] at g2
  cases e3 : tabsSame x.tables y.tables
  · rw [e3] at g3
    simp only [planSame, e1, e2, e3, Bool.false_and, Bool.true_and]
    simp [f123, callIn_pure, g1, g2, g3]
  rw [e3] at g3
  cases e4 : decide (x.indexes = y.indexes)
  · rw [e4] at g4
    simp only [planSame, e1, e2, e3, e4, Bool.false_and, Bool.true_and]
    simp [f123, callIn_pure, g1, g2, g3, g4]
  rw [e4] at g4
  simp only [planSame, e1, e2, e3, e4, Bool.true_and]
  simp [f123, callIn_pure, g1, g2, g3, g4, g5]
set_option maxHeartbeats 4000000 in
theorem specSame_ev (h : H127 Γ) (x : Plan) (hok : x.Ok) (y : Plan) : EvF Γ 127 [x.d, y.d] [] = some (.bool (planSame x y), []) := by
  rw [EvF_run h.e127 rfl]
  by_cases q1 : x.enums.length = y.enums.length
  rotate_left
  · have hne : decide (x.enums = y.enums) = false := decide_eq_false fun e => q1 (by rw [e])
    have r : planSame x y = false := by simp only [planSame, hne, Bool.and_false, Bool.false_and]
    rw [r]
    have z : ¬ (x.enums.length : Int) = y.enums.length := by omega
    simp [f127, z]
  by_cases q2 : x.seqs.length = y.seqs.length
  rotate_left
  · have hne : decide (x.seqs = y.seqs) = false := decide_eq_false fun e => q2 (by rw [e])
    have r : planSame x y = false := by simp only [planSame, hne, Bool.and_false, Bool.false_and]
    rw [r]
    have z : ¬ (x.seqs.length : Int) = y.seqs.length := by omega
    simp [f127, q1, z]
  by_cases q3 : x.tables.length = y.tables.length
  rotate_left
  · have hne : tabsSame x.tables y.tables = false := by simp only [tabsSame, decide_eq_false q3, Bool.false_and]
    have r : planSame x y = false := by simp only [planSame, hne, Bool.and_false, Bool.false_and]
    rw [r]
    have z : ¬ (x.tables.length : Int) = y.tables.length := by omega
    simp [f127, q1, q2, z]
  by_cases q4 : x.indexes.length = y.indexes.length
  rotate_left
  · have hne : decide (x.indexes = y.indexes) = false := decide_eq_false fun e => q4 (by rw [e])
    have r : planSame x y = false := by simp only [planSame, hne, Bool.and_false, Bool.false_and]
    rw [r]
    have z : ¬ (x.indexes.length : Int) = y.indexes.length := by omega
    simp [f127, q1, q2, q3, z]
  by_cases q5 : x.views.length = y.views.length
  rotate_left
  · have hne : decide (x.views = y.views) = false := decide_eq_false fun e => q5 (by rw [e])
    have r : planSame x y = false := by simp only [planSame, hne, Bool.and_false, Bool.false_and]
    rw [r]
    have z : ¬ (x.views.length : Int) = y.views.length := by omega
    simp [f127, q1, q2, q3, q4, z]
  have a1 := fun ρ hρ => L127_1 h x y hok.enums.1 q1 hok.enums (ρ := ρ) hρ
  have a2 := fun ρ hρ => L127_2 (Γ := Γ) x y hok.seqs.1 q2 (ρ := ρ) hρ
  have a3 := fun ρ hρ => L127_3 (Γ := Γ) x y hok.tables.1 q3 sameTab (fun a ha b _ => l12Same_ev h.c136 a (hok.tables.2 a ha) b) (ρ := ρ) hρ
  have a4 := fun ρ hρ => L127_4 (Γ := Γ) x y hok.indexes.1 q4 (fun a b => decide (a = b)) (fun a ha b _ => l12By_ev h.c134 a (hok.indexes.2 a ha) b) (ρ := ρ) hρ
  have a5 := fun ρ hρ => L127_5 (Γ := Γ) x y hok.views.1 q5 (fun a b => decide (a = b)) (fun a ha b _ => l12Look_ev h.c135 a (hok.views.2 a ha) b) (ρ := ρ) hρ
  have t3 : ((x.tables.zip y.tables).all fun q => sameTab q.1 q.2) = tabsSame x.tables y.tables := by simp only [tabsSame, decide_eq_true q3, Bool.true_and]
  simp only [zip_eq q1, zip_eq q2, t3, zip_eq q4, zip_eq q5] at a1 a2 a3 a4 a5
  cases e1 : decide (x.enums = y.enums)
  · have r : planSame x y = false := by simp only [planSame, e1, Bool.and_false, Bool.false_and]
    rw [r]
    simp only [e1, Bool.false_eq_true, if_false] at a1
    simp [f127, q1, q2, q3, q4, q5, a1]
  simp only [e1, if_true] at a1
  cases e2 : decide (x.seqs = y.seqs)
  · have r : planSame x y = false := by simp only [planSame, e2, Bool.and_false, Bool.false_and]
    rw [r]
    simp only [e2, Bool.false_eq_true, if_false] at a2
    simp [f127, q1, q2, q3, q4, q5, a1, a2]
  simp only [e2, if_true] at a2
  cases e3 : tabsSame x.tables y.tables
  · have r : planSame x y = false := by simp only [planSame, e3, Bool.and_false, Bool.false_and]
    rw [r]
    simp only [e3, Bool.false_eq_true, if_false] at a3
    simp [f127, q1, q2, q3, q4, q5, a1, a2, a3]
  simp only [e3, if_true] at a3
  cases e4 : decide (x.indexes = y.indexes)
  · have r : planSame x y = false := by simp only [planSame, e4, Bool.and_false, Bool.false_and]
    rw [r]
    simp only [e4, Bool.false_eq_true, if_false] at a4
    simp [f127, q1, q2, q3, q4, q5, a1, a2, a3, a4]
  simp only [e4, if_true] at a4
  cases e5 : decide (x.views = y.views)
  · have r : planSame x y = false := by simp only [planSame, e5, Bool.and_false, Bool.false_and]
    rw [r]
    simp only [e5, Bool.false_eq_true, if_false] at a5
    simp [f127, q1, q2, q3, q4, q5, a1, a2, a3, a4, a5]
  simp only [e5, if_true] at a5
  have r : planSame x y = true := by simp only [planSame, e1, e2, e3, e4, e5, Bool.and_true]
  rw [r]
  simp [f127, q1, q2, q3, q4, q5, a1, a2, a3, a4, a5]
set_option maxHeartbeats 4000000 in
theorem fnExactSame_ev (h : H122 Γ) (x : Plan) (hx : x.Ok) (y : Plan) (hy : y.Ok) : EvF Γ 122 [x.d, y.d] [] = some (.bool true, []) := by
  have hz := szPlan_ev h.c125 x hx 1048576 (by omega) (by omega)
  rw [EvF_run h.e122 rfl]
  by_cases hs : x.sz ≤ 1048576
  · have m : szR 1048576 x.sz = 1048576 - (x.sz : Int) := by simp only [szR]; rw [if_pos (by omega)]
    have n : ¬ 1048576 - (x.sz : Int) < 0 := by omega
    rw [m] at hz
    have hz2 := szPlan_ev h.c125 y hy (1048576 - (x.sz : Int)) (by omega) (by omega)
    by_cases hs2 : (y.sz : Int) ≤ 1048576 - (x.sz : Int)
    · have m2 : szR (1048576 - (x.sz : Int)) y.sz = 1048576 - (x.sz : Int) - (y.sz : Int) := by simp only [szR]; rw [if_pos hs2]
      have n2 : ¬ 1048576 - (x.sz : Int) - (y.sz : Int) < 0 := by omega
      rw [m2] at hz2
      have t1 := toPlan_ev h.c126 x hs
      have t2 := toPlan_ev h.c126 y (by omega)
      have e1 := eqPlan_ev h.c124 x hx x
      have e2 := eqPlan_ev h.c124 y hy y
      simp [f122, callIn_pure, hz, hz2, n, n2, t1, t2, specSame_ev h.c127 x hx y, implSame_ev h.c123 x hx y, e1, e2]
    · have m2 : szR (1048576 - (x.sz : Int)) y.sz = -1 := by simp only [szR]; rw [if_neg hs2]
      rw [m2] at hz2
      simp [f122, callIn_pure, hz, hz2, n]
  · have m : szR 1048576 x.sz = -1 := by simp only [szR]; rw [if_neg (by omega)]
    rw [m] at hz
    simp [f122, callIn_pure, hz]
end Go.DM
