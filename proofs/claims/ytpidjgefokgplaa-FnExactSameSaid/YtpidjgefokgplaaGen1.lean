/- Equations of the generic functions' instances, printed by a program by template. -/
import Derived.Test.YtpidjgefokgplaaCode1
import Derived.Test.YtpidjgefokgplaaLst
set_option linter.unusedVariables false
set_option linter.unusedSimpArgs false
set_option linter.unnecessarySimpa false
namespace Go.DM
open Go
variable {Γ : Tab}

theorem L101 {S : Type} (T : S → Store) (Q : S → Prop) (k : Nat) (caps : List D) (p : Xp → S → Bool × S) (xs : List Xp) (hl : xs.length ≤ 9223372036854775807)
    (hp : ∀ x ∈ xs, ∀ s, Q s → EvF Γ k (Xp.d x :: caps) (T s) = some (.bool (p x s).1, T (p x s).2) ∧ ((p x s).1 = false → Q (p x s).2)) (s : S) (hs : Q s) {ρ : Env}
    (hρ : keepOnly [0, 1, 7, 8] ρ = [(0, .list (xs.map Xp.d)), (1, .fn k caps), (7, .int .i64 xs.length), (8, .int .i64 0)]) :
    inBlk 0 [] (EvC Γ f101L1 ρ (T s)) = foundO T (scan p xs 0 s) := by
  refine loop_list (L := f101L1) rfl (inBlk 0 []) xs (fun i (_ : {s // Q s}) => [(0, .list (xs.map Xp.d)), (1, .fn k caps), (7, .int .i64 xs.length), (8, .int .i64 i)]) (fun _ s => T s.1) (fun i r s => foundO T (scan p r i s.1)) ?_ ?_ ⟨s, hs⟩ ρ hρ
  · intro s; simp [f101l1, scan, foundO]
  · intro i x r s hx hi hr ih
    have hw := wrap64_succ hi hl
    have hi' : (i : Int) < xs.length := by omega
    obtain ⟨h1, h2⟩ := hp x (List.mem_of_getElem? hx) s.1 s.2
    cases hb : (p x s.1).1 with
    | true => simp [f101l1, hi', hx, h1, hb, scan, foundO]
    | false =>
      have ih := ih ⟨_, h2 hb⟩
      simp [f101l1, hi', hw, hx, h1, hb, scan, ih]
theorem idx101_st (h : H101 Γ) {S : Type} (T : S → Store) (Q : S → Prop) (n0 : Nat) (hT : ∀ s, (T s).length = n0) (hB : ∀ s, ∀ B ∈ T s, Blk.lt n0 B = true) (k : Nat) (caps : List D) (p : Xp → S → Bool × S) (xs : List Xp) (hl : xs.length ≤ 9223372036854775807)
    (hp : ∀ x ∈ xs, ∀ s, Q s → EvF Γ k (Xp.d x :: caps) (T s) = some (.bool (p x s).1, T (p x s).2) ∧ ((p x s).1 = false → Q (p x s).2)) (s : S) (hs : Q s) :
    EvF Γ 101 [.list (xs.map Xp.d), .fn k caps] (T s) = some (.int .i64 (idxI (scan p xs 0 s).1), T (scan p xs 0 s).2) := by
  rw [EvF_run h.e101 rfl]
  have htk : ∀ s, (T s).take n0 = T s := fun s => List.take_of_length_le (by rw [hT s]; exact Nat.le_refl _)
  rcases hq : scan p xs 0 s with ⟨_ | j, s'⟩ <;> simp [f101, L101 T Q k caps p xs hl hp s hs, hq, foundO, idxI, hT, htk] <;> exact hB _
theorem idx101_ev (h : H101 Γ) (k : Nat) (caps : List D) (p : Xp → Bool) (xs : List Xp) (hl : xs.length ≤ 9223372036854775807) (hp : ∀ x ∈ xs, EvF Γ k (Xp.d x :: caps) [] = some (.bool (p x), [])) :
    EvF Γ 101 [.list (xs.map Xp.d), .fn k caps] [] = some (.int .i64 (idxI (xs.findIdx? p)), []) := by
  have := idx101_st h (S := Unit) (fun _ => []) (fun _ => True) 0 (fun _ => rfl) (fun _ B hB => by cases hB) k caps (fun x _ => (p x, ())) xs hl (fun x hx s _ => ⟨hp x hx, fun _ => trivial⟩) () trivial
  rw [this, scan_unit]
  simp

theorem any64_st (h : H64 Γ) {S : Type} (T : S → Store) (Q : S → Prop) (n0 : Nat) (hT : ∀ s, (T s).length = n0) (hB : ∀ s, ∀ B ∈ T s, Blk.lt n0 B = true) (k : Nat) (caps : List D) (p : Xp → S → Bool × S) (xs : List Xp) (hl : xs.length ≤ 9223372036854775807)
    (hp : ∀ x ∈ xs, ∀ s, Q s → EvF Γ k (Xp.d x :: caps) (T s) = some (.bool (p x s).1, T (p x s).2) ∧ ((p x s).1 = false → Q (p x s).2)) (s : S) (hs : Q s) :
    EvF Γ 64 [.list (xs.map Xp.d), .fn k caps] (T s) = some (.bool (scan p xs 0 s).1.isSome, T (scan p xs 0 s).2) := by
  rw [EvF_run h.e64 rfl]
  have htk : ∀ s, (T s).take n0 = T s := fun s => List.take_of_length_le (by rw [hT s]; exact Nat.le_refl _)
  simp [f64, idx101_st h.c101 T Q n0 hT hB k caps p xs hl hp s hs, hT, htk]
  refine ⟨hB _, ?_⟩
  cases (scan p xs 0 s).1 <;> simp [idxI]
theorem any64_ev (h : H64 Γ) (k : Nat) (caps : List D) (p : Xp → Bool) (xs : List Xp) (hl : xs.length ≤ 9223372036854775807) (hp : ∀ x ∈ xs, EvF Γ k (Xp.d x :: caps) [] = some (.bool (p x), [])) :
    EvF Γ 64 [.list (xs.map Xp.d), .fn k caps] [] = some (.bool (xs.any p), []) := by
  rw [EvF_run h.e64 rfl]
  simp [f64, idx101_ev h.c101 k caps p xs hl hp, idxI_some]

theorem L182 (k : Nat) (caps : List D) (p : Xp → Xp → Bool) (xs ys : List Xp) (hl : xs.length ≤ 9223372036854775807) (hxy : xs.length = ys.length)
    (hp : ∀ x ∈ xs, ∀ y ∈ ys, EvF Γ k (Xp.d x :: Xp.d y :: caps) [] = some (.bool (p x y), [])) {ρ : Env}
    (hρ : keepOnly [1, 2, 15, 16, 17] ρ = [(1, .list (ys.map Xp.d)), (2, .fn k caps), (15, .list (xs.map Xp.d)), (16, .int .i64 xs.length), (17, .int .i64 0)]) (hc : D.ltL 0 caps = true) :
    inBlk 0 [] (EvC Γ f182L1 ρ []) = if ((xs.zip ys).all fun q => p q.1 q.2) = true then some (.norm, [], []) else some (.ret, [(6, .bool false)], []) := by
  have hzl : (xs.zip ys).length = xs.length := by simp [hxy]
  have hc1 := (D.free_renL (newPos 0 []) caps hc).2
  have hc2 := (D.free_renL (newPos 0 []) caps hc).1
  have key := loop_list (Γ := Γ) (L := f182L1) rfl (inBlk 0 []) (xs.zip ys) (fun i (_ : Unit) => [(1, .list (ys.map Xp.d)), (2, .fn k caps), (15, .list (xs.map Xp.d)), (16, .int .i64 xs.length), (17, .int .i64 i)]) (fun _ _ => ([] : Store))
    (fun _ r _ => if (r.all fun q => p q.1 q.2) = true then some (.norm, [], []) else some (.ret, [(6, .bool false)], [])) ?_ ?_ () ρ hρ
  · exact key
  · intro _; simp [f182l1, hzl, hc1, hc2]
  · intro i q r _ hx hi hr ih
    have hix : i < xs.length := by omega
    have hw := wrap64_succ hix hl
    have hi' : (i : Int) < xs.length := by omega
    have hx1 : xs[i]? = some q.1 := by
      have := congrArg (Option.map Prod.fst) hx
      rw [← List.getElem?_map, List.map_fst_zip (by omega)] at this
      simpa using this
    have hy1 : ys[i]? = some q.2 := by
      have := congrArg (Option.map Prod.snd) hx
      rw [← List.getElem?_map, List.map_snd_zip (by omega)] at this
      simpa using this
    have h1 := hp _ (List.mem_of_getElem? hx1) _ (List.mem_of_getElem? hy1)
    cases hb : p q.1 q.2 with
    | true =>
      have ih := ih ()
      simp only [List.all_cons, hb, Bool.true_and]
      simp [f182l1, hi', hw, hx1, hy1, h1, hb, hc, hc1, hc2, callIn_pure, ih]
    | false =>
      simp only [List.all_cons, hb, Bool.false_and]
      simp [f182l1, hi', hx1, hy1, h1, hb, hc, hc1, hc2, callIn_pure]
theorem eqf182_ev (h : H182 Γ) (k : Nat) (caps : List D) (p : Xp → Xp → Bool) (xs ys : List Xp) (hl : xs.length ≤ 9223372036854775807) (hc : D.ltL 0 caps = true)
    (hp : ∀ x ∈ xs, ∀ y ∈ ys, EvF Γ k (Xp.d x :: Xp.d y :: caps) [] = some (.bool (p x y), [])) :
    EvF Γ 182 [.list (xs.map Xp.d), .list (ys.map Xp.d), .fn k caps] [] = some (.bool (decide (xs.length = ys.length) && (xs.zip ys).all fun q => p q.1 q.2), []) := by
  rw [EvF_run h.e182 rfl]
  by_cases hxy : xs.length = ys.length
  · by_cases ha : ((xs.zip ys).all fun q => p q.1 q.2) = true
    · have hL := fun ρ hρ => L182 (Γ := Γ) k caps p xs ys hl hxy hp (ρ := ρ) hρ hc
      simp only [ha, if_true] at hL
      rw [ha]
      simp [f182, hxy, hL]
    · have hL := fun ρ hρ => L182 (Γ := Γ) k caps p xs ys hl hxy hp (ρ := ρ) hρ hc
      simp only [ha, if_false] at hL
      rw [Bool.not_eq_true] at ha
      rw [ha]
      simp [f182, hxy, hL]
  · have : ¬ (xs.length : Int) = ys.length := by omega
    simp [f182, hxy, this]

theorem L172 (k : Nat) (caps : List D) (p : Col → Col → Bool) (xs ys : List Col) (hl : xs.length ≤ 9223372036854775807) (hxy : xs.length = ys.length)
    (hp : ∀ x ∈ xs, ∀ y ∈ ys, EvF Γ k (Col.d x :: Col.d y :: caps) [] = some (.bool (p x y), [])) {ρ : Env}
    (hρ : keepOnly [1, 2, 15, 16, 17] ρ = [(1, .list (ys.map Col.d)), (2, .fn k caps), (15, .list (xs.map Col.d)), (16, .int .i64 xs.length), (17, .int .i64 0)]) (hc : D.ltL 0 caps = true) :
    inBlk 0 [] (EvC Γ f172L1 ρ []) = if ((xs.zip ys).all fun q => p q.1 q.2) = true then some (.norm, [], []) else some (.ret, [(6, .bool false)], []) := by
  have hzl : (xs.zip ys).length = xs.length := by simp [hxy]
  have hc1 := (D.free_renL (newPos 0 []) caps hc).2
  have hc2 := (D.free_renL (newPos 0 []) caps hc).1
  have key := loop_list (Γ := Γ) (L := f172L1) rfl (inBlk 0 []) (xs.zip ys) (fun i (_ : Unit) => [(1, .list (ys.map Col.d)), (2, .fn k caps), (15, .list (xs.map Col.d)), (16, .int .i64 xs.length), (17, .int .i64 i)]) (fun _ _ => ([] : Store))
    (fun _ r _ => if (r.all fun q => p q.1 q.2) = true then some (.norm, [], []) else some (.ret, [(6, .bool false)], [])) ?_ ?_ () ρ hρ
  · exact key
  · intro _; simp [f172l1, hzl, hc1, hc2]
  · intro i q r _ hx hi hr ih
    have hix : i < xs.length := by omega
    have hw := wrap64_succ hix hl
    have hi' : (i : Int) < xs.length := by omega
    have hx1 : xs[i]? = some q.1 := by
      have := congrArg (Option.map Prod.fst) hx
      rw [← List.getElem?_map, List.map_fst_zip (by omega)] at this
      simpa using this
    have hy1 : ys[i]? = some q.2 := by
      have := congrArg (Option.map Prod.snd) hx
      rw [← List.getElem?_map, List.map_snd_zip (by omega)] at this
      simpa using this
    have h1 := hp _ (List.mem_of_getElem? hx1) _ (List.mem_of_getElem? hy1)
    cases hb : p q.1 q.2 with
    | true =>
      have ih := ih ()
      simp only [List.all_cons, hb, Bool.true_and]
      simp [f172l1, hi', hw, hx1, hy1, h1, hb, hc, hc1, hc2, callIn_pure, ih]
    | false =>
      simp only [List.all_cons, hb, Bool.false_and]
      simp [f172l1, hi', hx1, hy1, h1, hb, hc, hc1, hc2, callIn_pure]
theorem eqf172_ev (h : H172 Γ) (k : Nat) (caps : List D) (p : Col → Col → Bool) (xs ys : List Col) (hl : xs.length ≤ 9223372036854775807) (hc : D.ltL 0 caps = true)
    (hp : ∀ x ∈ xs, ∀ y ∈ ys, EvF Γ k (Col.d x :: Col.d y :: caps) [] = some (.bool (p x y), [])) :
    EvF Γ 172 [.list (xs.map Col.d), .list (ys.map Col.d), .fn k caps] [] = some (.bool (decide (xs.length = ys.length) && (xs.zip ys).all fun q => p q.1 q.2), []) := by
  rw [EvF_run h.e172 rfl]
  by_cases hxy : xs.length = ys.length
  · by_cases ha : ((xs.zip ys).all fun q => p q.1 q.2) = true
    · have hL := fun ρ hρ => L172 (Γ := Γ) k caps p xs ys hl hxy hp (ρ := ρ) hρ hc
      simp only [ha, if_true] at hL
      rw [ha]
      simp [f172, hxy, hL]
    · have hL := fun ρ hρ => L172 (Γ := Γ) k caps p xs ys hl hxy hp (ρ := ρ) hρ hc
      simp only [ha, if_false] at hL
      rw [Bool.not_eq_true] at ha
      rw [ha]
      simp [f172, hxy, hL]
  · have : ¬ (xs.length : Int) = ys.length := by omega
    simp [f172, hxy, this]

theorem L173 (k : Nat) (caps : List D) (p : Rule → Rule → Bool) (xs ys : List Rule) (hl : xs.length ≤ 9223372036854775807) (hxy : xs.length = ys.length)
    (hp : ∀ x ∈ xs, ∀ y ∈ ys, EvF Γ k (Rule.d x :: Rule.d y :: caps) [] = some (.bool (p x y), [])) {ρ : Env}
    (hρ : keepOnly [1, 2, 15, 16, 17] ρ = [(1, .list (ys.map Rule.d)), (2, .fn k caps), (15, .list (xs.map Rule.d)), (16, .int .i64 xs.length), (17, .int .i64 0)]) (hc : D.ltL 0 caps = true) :
    inBlk 0 [] (EvC Γ f173L1 ρ []) = if ((xs.zip ys).all fun q => p q.1 q.2) = true then some (.norm, [], []) else some (.ret, [(6, .bool false)], []) := by
  have hzl : (xs.zip ys).length = xs.length := by simp [hxy]
  have hc1 := (D.free_renL (newPos 0 []) caps hc).2
  have hc2 := (D.free_renL (newPos 0 []) caps hc).1
  have key := loop_list (Γ := Γ) (L := f173L1) rfl (inBlk 0 []) (xs.zip ys) (fun i (_ : Unit) => [(1, .list (ys.map Rule.d)), (2, .fn k caps), (15, .list (xs.map Rule.d)), (16, .int .i64 xs.length), (17, .int .i64 i)]) (fun _ _ => ([] : Store))
    (fun _ r _ => if (r.all fun q => p q.1 q.2) = true then some (.norm, [], []) else some (.ret, [(6, .bool false)], [])) ?_ ?_ () ρ hρ
  · exact key
  · intro _; simp [f173l1, hzl, hc1, hc2]
  · intro i q r _ hx hi hr ih
    have hix : i < xs.length := by omega
    have hw := wrap64_succ hix hl
    have hi' : (i : Int) < xs.length := by omega
    have hx1 : xs[i]? = some q.1 := by
      have := congrArg (Option.map Prod.fst) hx
      rw [← List.getElem?_map, List.map_fst_zip (by omega)] at this
      simpa using this
    have hy1 : ys[i]? = some q.2 := by
      have := congrArg (Option.map Prod.snd) hx
      rw [← List.getElem?_map, List.map_snd_zip (by omega)] at this
      simpa using this
    have h1 := hp _ (List.mem_of_getElem? hx1) _ (List.mem_of_getElem? hy1)
    cases hb : p q.1 q.2 with
    | true =>
      have ih := ih ()
      simp only [List.all_cons, hb, Bool.true_and]
      simp [f173l1, hi', hw, hx1, hy1, h1, hb, hc, hc1, hc2, callIn_pure, ih]
    | false =>
      simp only [List.all_cons, hb, Bool.false_and]
      simp [f173l1, hi', hx1, hy1, h1, hb, hc, hc1, hc2, callIn_pure]
theorem eqf173_ev (h : H173 Γ) (k : Nat) (caps : List D) (p : Rule → Rule → Bool) (xs ys : List Rule) (hl : xs.length ≤ 9223372036854775807) (hc : D.ltL 0 caps = true)
    (hp : ∀ x ∈ xs, ∀ y ∈ ys, EvF Γ k (Rule.d x :: Rule.d y :: caps) [] = some (.bool (p x y), [])) :
    EvF Γ 173 [.list (xs.map Rule.d), .list (ys.map Rule.d), .fn k caps] [] = some (.bool (decide (xs.length = ys.length) && (xs.zip ys).all fun q => p q.1 q.2), []) := by
  rw [EvF_run h.e173 rfl]
  by_cases hxy : xs.length = ys.length
  · by_cases ha : ((xs.zip ys).all fun q => p q.1 q.2) = true
    · have hL := fun ρ hρ => L173 (Γ := Γ) k caps p xs ys hl hxy hp (ρ := ρ) hρ hc
      simp only [ha, if_true] at hL
      rw [ha]
      simp [f173, hxy, hL]
    · have hL := fun ρ hρ => L173 (Γ := Γ) k caps p xs ys hl hxy hp (ρ := ρ) hρ hc
      simp only [ha, if_false] at hL
      rw [Bool.not_eq_true] at ha
      rw [ha]
      simp [f173, hxy, hL]
  · have : ¬ (xs.length : Int) = ys.length := by omega
    simp [f173, hxy, this]

theorem L146 (k : Nat) (caps : List D) (p : Index → Index → Bool) (xs ys : List Index) (hl : xs.length ≤ 9223372036854775807) (hxy : xs.length = ys.length)
    (hp : ∀ x ∈ xs, ∀ y ∈ ys, EvF Γ k (Index.d x :: Index.d y :: caps) [] = some (.bool (p x y), [])) {ρ : Env}
    (hρ : keepOnly [1, 2, 15, 16, 17] ρ = [(1, .list (ys.map Index.d)), (2, .fn k caps), (15, .list (xs.map Index.d)), (16, .int .i64 xs.length), (17, .int .i64 0)]) (hc : D.ltL 0 caps = true) :
    inBlk 0 [] (EvC Γ f146L1 ρ []) = if ((xs.zip ys).all fun q => p q.1 q.2) = true then some (.norm, [], []) else some (.ret, [(6, .bool false)], []) := by
  have hzl : (xs.zip ys).length = xs.length := by simp [hxy]
  have hc1 := (D.free_renL (newPos 0 []) caps hc).2
  have hc2 := (D.free_renL (newPos 0 []) caps hc).1
  have key := loop_list (Γ := Γ) (L := f146L1) rfl (inBlk 0 []) (xs.zip ys) (fun i (_ : Unit) => [(1, .list (ys.map Index.d)), (2, .fn k caps), (15, .list (xs.map Index.d)), (16, .int .i64 xs.length), (17, .int .i64 i)]) (fun _ _ => ([] : Store))
    (fun _ r _ => if (r.all fun q => p q.1 q.2) = true then some (.norm, [], []) else some (.ret, [(6, .bool false)], [])) ?_ ?_ () ρ hρ
  · exact key
  · intro _; simp [f146l1, hzl, hc1, hc2]
  · intro i q r _ hx hi hr ih
    have hix : i < xs.length := by omega
    have hw := wrap64_succ hix hl
    have hi' : (i : Int) < xs.length := by omega
    have hx1 : xs[i]? = some q.1 := by
      have := congrArg (Option.map Prod.fst) hx
      rw [← List.getElem?_map, List.map_fst_zip (by omega)] at this
      simpa using this
    have hy1 : ys[i]? = some q.2 := by
      have := congrArg (Option.map Prod.snd) hx
      rw [← List.getElem?_map, List.map_snd_zip (by omega)] at this
      simpa using this
    have h1 := hp _ (List.mem_of_getElem? hx1) _ (List.mem_of_getElem? hy1)
    cases hb : p q.1 q.2 with
    | true =>
      have ih := ih ()
      simp only [List.all_cons, hb, Bool.true_and]
      simp [f146l1, hi', hw, hx1, hy1, h1, hb, hc, hc1, hc2, callIn_pure, ih]
    | false =>
      simp only [List.all_cons, hb, Bool.false_and]
      simp [f146l1, hi', hx1, hy1, h1, hb, hc, hc1, hc2, callIn_pure]
theorem eqf146_ev (h : H146 Γ) (k : Nat) (caps : List D) (p : Index → Index → Bool) (xs ys : List Index) (hl : xs.length ≤ 9223372036854775807) (hc : D.ltL 0 caps = true)
    (hp : ∀ x ∈ xs, ∀ y ∈ ys, EvF Γ k (Index.d x :: Index.d y :: caps) [] = some (.bool (p x y), [])) :
    EvF Γ 146 [.list (xs.map Index.d), .list (ys.map Index.d), .fn k caps] [] = some (.bool (decide (xs.length = ys.length) && (xs.zip ys).all fun q => p q.1 q.2), []) := by
  rw [EvF_run h.e146 rfl]
  by_cases hxy : xs.length = ys.length
  · by_cases ha : ((xs.zip ys).all fun q => p q.1 q.2) = true
    · have hL := fun ρ hρ => L146 (Γ := Γ) k caps p xs ys hl hxy hp (ρ := ρ) hρ hc
      simp only [ha, if_true] at hL
      rw [ha]
      simp [f146, hxy, hL]
    · have hL := fun ρ hρ => L146 (Γ := Γ) k caps p xs ys hl hxy hp (ρ := ρ) hρ hc
      simp only [ha, if_false] at hL
      rw [Bool.not_eq_true] at ha
      rw [ha]
      simp [f146, hxy, hL]
  · have : ¬ (xs.length : Int) = ys.length := by omega
    simp [f146, hxy, this]

theorem L147 (k : Nat) (caps : List D) (p : Labels → Labels → Bool) (xs ys : List Labels) (hl : xs.length ≤ 9223372036854775807) (hxy : xs.length = ys.length)
    (hp : ∀ x ∈ xs, ∀ y ∈ ys, EvF Γ k (Labels.d x :: Labels.d y :: caps) [] = some (.bool (p x y), [])) {ρ : Env}
    (hρ : keepOnly [1, 2, 15, 16, 17] ρ = [(1, .list (ys.map Labels.d)), (2, .fn k caps), (15, .list (xs.map Labels.d)), (16, .int .i64 xs.length), (17, .int .i64 0)]) (hc : D.ltL 0 caps = true) :
    inBlk 0 [] (EvC Γ f147L1 ρ []) = if ((xs.zip ys).all fun q => p q.1 q.2) = true then some (.norm, [], []) else some (.ret, [(6, .bool false)], []) := by
  have hzl : (xs.zip ys).length = xs.length := by simp [hxy]
  have hc1 := (D.free_renL (newPos 0 []) caps hc).2
  have hc2 := (D.free_renL (newPos 0 []) caps hc).1
  have key := loop_list (Γ := Γ) (L := f147L1) rfl (inBlk 0 []) (xs.zip ys) (fun i (_ : Unit) => [(1, .list (ys.map Labels.d)), (2, .fn k caps), (15, .list (xs.map Labels.d)), (16, .int .i64 xs.length), (17, .int .i64 i)]) (fun _ _ => ([] : Store))
    (fun _ r _ => if (r.all fun q => p q.1 q.2) = true then some (.norm, [], []) else some (.ret, [(6, .bool false)], [])) ?_ ?_ () ρ hρ
  · exact key
  · intro _; simp [f147l1, hzl, hc1, hc2]
  · intro i q r _ hx hi hr ih
    have hix : i < xs.length := by omega
    have hw := wrap64_succ hix hl
    have hi' : (i : Int) < xs.length := by omega
    have hx1 : xs[i]? = some q.1 := by
      have := congrArg (Option.map Prod.fst) hx
      rw [← List.getElem?_map, List.map_fst_zip (by omega)] at this
      simpa using this
    have hy1 : ys[i]? = some q.2 := by
      have := congrArg (Option.map Prod.snd) hx
      rw [← List.getElem?_map, List.map_snd_zip (by omega)] at this
      simpa using this
    have h1 := hp _ (List.mem_of_getElem? hx1) _ (List.mem_of_getElem? hy1)
    cases hb : p q.1 q.2 with
    | true =>
      have ih := ih ()
      simp only [List.all_cons, hb, Bool.true_and]
      simp [f147l1, hi', hw, hx1, hy1, h1, hb, hc, hc1, hc2, callIn_pure, ih]
    | false =>
      simp only [List.all_cons, hb, Bool.false_and]
      simp [f147l1, hi', hx1, hy1, h1, hb, hc, hc1, hc2, callIn_pure]
theorem eqf147_ev (h : H147 Γ) (k : Nat) (caps : List D) (p : Labels → Labels → Bool) (xs ys : List Labels) (hl : xs.length ≤ 9223372036854775807) (hc : D.ltL 0 caps = true)
    (hp : ∀ x ∈ xs, ∀ y ∈ ys, EvF Γ k (Labels.d x :: Labels.d y :: caps) [] = some (.bool (p x y), [])) :
    EvF Γ 147 [.list (xs.map Labels.d), .list (ys.map Labels.d), .fn k caps] [] = some (.bool (decide (xs.length = ys.length) && (xs.zip ys).all fun q => p q.1 q.2), []) := by
  rw [EvF_run h.e147 rfl]
  by_cases hxy : xs.length = ys.length
  · by_cases ha : ((xs.zip ys).all fun q => p q.1 q.2) = true
    · have hL := fun ρ hρ => L147 (Γ := Γ) k caps p xs ys hl hxy hp (ρ := ρ) hρ hc
      simp only [ha, if_true] at hL
      rw [ha]
      simp [f147, hxy, hL]
    · have hL := fun ρ hρ => L147 (Γ := Γ) k caps p xs ys hl hxy hp (ρ := ρ) hρ hc
      simp only [ha, if_false] at hL
      rw [Bool.not_eq_true] at ha
      rw [ha]
      simp [f147, hxy, hL]
  · have : ¬ (xs.length : Int) = ys.length := by omega
    simp [f147, hxy, this]

theorem L148 (k : Nat) (caps : List D) (p : Table → Table → Bool) (xs ys : List Table) (hl : xs.length ≤ 9223372036854775807) (hxy : xs.length = ys.length)
    (hp : ∀ x ∈ xs, ∀ y ∈ ys, EvF Γ k (Table.d x :: Table.d y :: caps) [] = some (.bool (p x y), [])) {ρ : Env}
    (hρ : keepOnly [1, 2, 15, 16, 17] ρ = [(1, .list (ys.map Table.d)), (2, .fn k caps), (15, .list (xs.map Table.d)), (16, .int .i64 xs.length), (17, .int .i64 0)]) (hc : D.ltL 0 caps = true) :
    inBlk 0 [] (EvC Γ f148L1 ρ []) = if ((xs.zip ys).all fun q => p q.1 q.2) = true then some (.norm, [], []) else some (.ret, [(6, .bool false)], []) := by
  have hzl : (xs.zip ys).length = xs.length := by simp [hxy]
  have hc1 := (D.free_renL (newPos 0 []) caps hc).2
  have hc2 := (D.free_renL (newPos 0 []) caps hc).1
  have key := loop_list (Γ := Γ) (L := f148L1) rfl (inBlk 0 []) (xs.zip ys) (fun i (_ : Unit) => [(1, .list (ys.map Table.d)), (2, .fn k caps), (15, .list (xs.map Table.d)), (16, .int .i64 xs.length), (17, .int .i64 i)]) (fun _ _ => ([] : Store))
    (fun _ r _ => if (r.all fun q => p q.1 q.2) = true then some (.norm, [], []) else some (.ret, [(6, .bool false)], [])) ?_ ?_ () ρ hρ
  · exact key
  · intro _; simp [f148l1, hzl, hc1, hc2]
  · intro i q r _ hx hi hr ih
    have hix : i < xs.length := by omega
    have hw := wrap64_succ hix hl
    have hi' : (i : Int) < xs.length := by omega
    have hx1 : xs[i]? = some q.1 := by
      have := congrArg (Option.map Prod.fst) hx
      rw [← List.getElem?_map, List.map_fst_zip (by omega)] at this
      simpa using this
    have hy1 : ys[i]? = some q.2 := by
      have := congrArg (Option.map Prod.snd) hx
      rw [← List.getElem?_map, List.map_snd_zip (by omega)] at this
      simpa using this
    have h1 := hp _ (List.mem_of_getElem? hx1) _ (List.mem_of_getElem? hy1)
    cases hb : p q.1 q.2 with
    | true =>
      have ih := ih ()
      simp only [List.all_cons, hb, Bool.true_and]
      simp [f148l1, hi', hw, hx1, hy1, h1, hb, hc, hc1, hc2, callIn_pure, ih]
    | false =>
      simp only [List.all_cons, hb, Bool.false_and]
      simp [f148l1, hi', hx1, hy1, h1, hb, hc, hc1, hc2, callIn_pure]
theorem eqf148_ev (h : H148 Γ) (k : Nat) (caps : List D) (p : Table → Table → Bool) (xs ys : List Table) (hl : xs.length ≤ 9223372036854775807) (hc : D.ltL 0 caps = true)
    (hp : ∀ x ∈ xs, ∀ y ∈ ys, EvF Γ k (Table.d x :: Table.d y :: caps) [] = some (.bool (p x y), [])) :
    EvF Γ 148 [.list (xs.map Table.d), .list (ys.map Table.d), .fn k caps] [] = some (.bool (decide (xs.length = ys.length) && (xs.zip ys).all fun q => p q.1 q.2), []) := by
  rw [EvF_run h.e148 rfl]
  by_cases hxy : xs.length = ys.length
  · by_cases ha : ((xs.zip ys).all fun q => p q.1 q.2) = true
    · have hL := fun ρ hρ => L148 (Γ := Γ) k caps p xs ys hl hxy hp (ρ := ρ) hρ hc
      simp only [ha, if_true] at hL
      rw [ha]
      simp [f148, hxy, hL]
    · have hL := fun ρ hρ => L148 (Γ := Γ) k caps p xs ys hl hxy hp (ρ := ρ) hρ hc
      simp only [ha, if_false] at hL
      rw [Bool.not_eq_true] at ha
      rw [ha]
      simp [f148, hxy, hL]
  · have : ¬ (xs.length : Int) = ys.length := by omega
    simp [f148, hxy, this]

theorem L149 (k : Nat) (caps : List D) (p : View → View → Bool) (xs ys : List View) (hl : xs.length ≤ 9223372036854775807) (hxy : xs.length = ys.length)
    (hp : ∀ x ∈ xs, ∀ y ∈ ys, EvF Γ k (View.d x :: View.d y :: caps) [] = some (.bool (p x y), [])) {ρ : Env}
    (hρ : keepOnly [1, 2, 15, 16, 17] ρ = [(1, .list (ys.map View.d)), (2, .fn k caps), (15, .list (xs.map View.d)), (16, .int .i64 xs.length), (17, .int .i64 0)]) (hc : D.ltL 0 caps = true) :
    inBlk 0 [] (EvC Γ f149L1 ρ []) = if ((xs.zip ys).all fun q => p q.1 q.2) = true then some (.norm, [], []) else some (.ret, [(6, .bool false)], []) := by
  have hzl : (xs.zip ys).length = xs.length := by simp [hxy]
  have hc1 := (D.free_renL (newPos 0 []) caps hc).2
  have hc2 := (D.free_renL (newPos 0 []) caps hc).1
  have key := loop_list (Γ := Γ) (L := f149L1) rfl (inBlk 0 []) (xs.zip ys) (fun i (_ : Unit) => [(1, .list (ys.map View.d)), (2, .fn k caps), (15, .list (xs.map View.d)), (16, .int .i64 xs.length), (17, .int .i64 i)]) (fun _ _ => ([] : Store))
    (fun _ r _ => if (r.all fun q => p q.1 q.2) = true then some (.norm, [], []) else some (.ret, [(6, .bool false)], [])) ?_ ?_ () ρ hρ
  · exact key
  · intro _; simp [f149l1, hzl, hc1, hc2]
  · intro i q r _ hx hi hr ih
    have hix : i < xs.length := by omega
    have hw := wrap64_succ hix hl
    have hi' : (i : Int) < xs.length := by omega
    have hx1 : xs[i]? = some q.1 := by
      have := congrArg (Option.map Prod.fst) hx
      rw [← List.getElem?_map, List.map_fst_zip (by omega)] at this
      simpa using this
    have hy1 : ys[i]? = some q.2 := by
      have := congrArg (Option.map Prod.snd) hx
      rw [← List.getElem?_map, List.map_snd_zip (by omega)] at this
      simpa using this
    have h1 := hp _ (List.mem_of_getElem? hx1) _ (List.mem_of_getElem? hy1)
    cases hb : p q.1 q.2 with
    | true =>
      have ih := ih ()
      simp only [List.all_cons, hb, Bool.true_and]
      simp [f149l1, hi', hw, hx1, hy1, h1, hb, hc, hc1, hc2, callIn_pure, ih]
    | false =>
      simp only [List.all_cons, hb, Bool.false_and]
      simp [f149l1, hi', hx1, hy1, h1, hb, hc, hc1, hc2, callIn_pure]
theorem eqf149_ev (h : H149 Γ) (k : Nat) (caps : List D) (p : View → View → Bool) (xs ys : List View) (hl : xs.length ≤ 9223372036854775807) (hc : D.ltL 0 caps = true)
    (hp : ∀ x ∈ xs, ∀ y ∈ ys, EvF Γ k (View.d x :: View.d y :: caps) [] = some (.bool (p x y), [])) :
    EvF Γ 149 [.list (xs.map View.d), .list (ys.map View.d), .fn k caps] [] = some (.bool (decide (xs.length = ys.length) && (xs.zip ys).all fun q => p q.1 q.2), []) := by
  rw [EvF_run h.e149 rfl]
  by_cases hxy : xs.length = ys.length
  · by_cases ha : ((xs.zip ys).all fun q => p q.1 q.2) = true
    · have hL := fun ρ hρ => L149 (Γ := Γ) k caps p xs ys hl hxy hp (ρ := ρ) hρ hc
      simp only [ha, if_true] at hL
      rw [ha]
      simp [f149, hxy, hL]
    · have hL := fun ρ hρ => L149 (Γ := Γ) k caps p xs ys hl hxy hp (ρ := ρ) hρ hc
      simp only [ha, if_false] at hL
      rw [Bool.not_eq_true] at ha
      rw [ha]
      simp [f149, hxy, hL]
  · have : ¬ (xs.length : Int) = ys.length := by omega
    simp [f149, hxy, this]

theorem L169 (xs ys : List Str) (hl : xs.length ≤ 9223372036854775807) (hxy : xs.length = ys.length) {ρ : Env}
    (hρ : keepOnly [0, 1, 12, 13] ρ = [(0, .list (xs.map D.str)), (1, .list (ys.map D.str)), (12, .int .i64 xs.length), (13, .int .i64 0)]) :
    inBlk 0 [] (EvC Γ f169L1 ρ []) = if ((xs.zip ys).all fun q => decide (q.1 = q.2)) = true then some (.norm, [], []) else some (.ret, [(4, .bool false)], []) := by
  have hzl : (xs.zip ys).length = xs.length := by simp [hxy]
  have key := loop_list (Γ := Γ) (L := f169L1) rfl (inBlk 0 []) (xs.zip ys) (fun i (_ : Unit) => [(0, .list (xs.map D.str)), (1, .list (ys.map D.str)), (12, .int .i64 xs.length), (13, .int .i64 i)]) (fun _ _ => ([] : Store))
    (fun _ r _ => if (r.all fun q => decide (q.1 = q.2)) = true then some (.norm, [], []) else some (.ret, [(4, .bool false)], [])) ?_ ?_ () ρ hρ
  · exact key
  · intro _; simp [f169l1, hzl]
  · intro i q r _ hx hi hr ih
    have hix : i < xs.length := by omega
    have hw := wrap64_succ hix hl
    have hi' : (i : Int) < xs.length := by omega
    have hx1 : xs[i]? = some q.1 := by
      have := congrArg (Option.map Prod.fst) hx
      rw [← List.getElem?_map, List.map_fst_zip (by omega)] at this
      simpa using this
    have hy1 : ys[i]? = some q.2 := by
      have := congrArg (Option.map Prod.snd) hx
      rw [← List.getElem?_map, List.map_snd_zip (by omega)] at this
      simpa using this
    by_cases hb : q.1 = q.2
    · have ih := ih ()
      simp only [List.all_cons, hb, decide_true, Bool.true_and]
      simp [f169l1, hi', hw, hx1, hy1, hb, ih]
    · simp only [List.all_cons, hb, decide_false, Bool.false_and]
      simp [f169l1, hi', hx1, hy1, hb]
theorem eq169_ev (h : H169 Γ) (xs ys : List Str) (hl : xs.length ≤ 9223372036854775807) : EvF Γ 169 [.list (xs.map D.str), .list (ys.map D.str)] [] = some (.bool (decide (xs = ys)), []) := by
  rw [EvF_run h.e169 rfl, ← all_eq]
  by_cases hxy : xs.length = ys.length
  · by_cases ha : ((xs.zip ys).all fun q => decide (q.1 = q.2)) = true
    · have hL := fun ρ hρ => L169 (Γ := Γ) xs ys hl hxy (ρ := ρ) hρ
      simp only [ha, if_true] at hL
      rw [ha]
      simp [f169, hxy, hL]
    · have hL := fun ρ hρ => L169 (Γ := Γ) xs ys hl hxy (ρ := ρ) hρ
      simp only [ha, if_false] at hL
      rw [Bool.not_eq_true] at ha
      rw [ha]
      simp [f169, hxy, hL]
  · have : ¬ (xs.length : Int) = ys.length := by omega
    simp [f169, hxy, this]

theorem L150 (xs ys : List Seq) (hl : xs.length ≤ 9223372036854775807) (hxy : xs.length = ys.length) {ρ : Env}
    (hρ : keepOnly [0, 1, 12, 13] ρ = [(0, .list (xs.map Seq.d)), (1, .list (ys.map Seq.d)), (12, .int .i64 xs.length), (13, .int .i64 0)]) :
    inBlk 0 [] (EvC Γ f150L1 ρ []) = if ((xs.zip ys).all fun q => decide (q.1 = q.2)) = true then some (.norm, [], []) else some (.ret, [(4, .bool false)], []) := by
  have hzl : (xs.zip ys).length = xs.length := by simp [hxy]
  have key := loop_list (Γ := Γ) (L := f150L1) rfl (inBlk 0 []) (xs.zip ys) (fun i (_ : Unit) => [(0, .list (xs.map Seq.d)), (1, .list (ys.map Seq.d)), (12, .int .i64 xs.length), (13, .int .i64 i)]) (fun _ _ => ([] : Store))
    (fun _ r _ => if (r.all fun q => decide (q.1 = q.2)) = true then some (.norm, [], []) else some (.ret, [(4, .bool false)], [])) ?_ ?_ () ρ hρ
  · exact key
  · intro _; simp [f150l1, hzl]
  · intro i q r _ hx hi hr ih
    have hix : i < xs.length := by omega
    have hw := wrap64_succ hix hl
    have hi' : (i : Int) < xs.length := by omega
    have hx1 : xs[i]? = some q.1 := by
      have := congrArg (Option.map Prod.fst) hx
      rw [← List.getElem?_map, List.map_fst_zip (by omega)] at this
      simpa using this
    have hy1 : ys[i]? = some q.2 := by
      have := congrArg (Option.map Prod.snd) hx
      rw [← List.getElem?_map, List.map_snd_zip (by omega)] at this
      simpa using this
    by_cases hb : q.1 = q.2
    · have ih := ih ()
      simp only [List.all_cons, hb, decide_true, Bool.true_and]
      simp [f150l1, hi', hw, hx1, hy1, hb, ih]
    · simp only [List.all_cons, hb, decide_false, Bool.false_and]
      have hb' : ¬ (q.1.name = q.2.name ∧ q.1.start = q.2.start) := fun e => hb (by
        obtain ⟨a, b⟩ := q
        cases a; cases b
        simp at e
        simp [e])
      have hb'' : ¬ q.1.name = q.2.name ∨ ¬ q.1.start = q.2.start := Decidable.not_and_iff_or_not.mp hb'
      simp [f150l1, hi', hx1, hy1, hb'']
theorem eq150_ev (h : H150 Γ) (xs ys : List Seq) (hl : xs.length ≤ 9223372036854775807) : EvF Γ 150 [.list (xs.map Seq.d), .list (ys.map Seq.d)] [] = some (.bool (decide (xs = ys)), []) := by
  rw [EvF_run h.e150 rfl, ← all_eq]
  by_cases hxy : xs.length = ys.length
  · by_cases ha : ((xs.zip ys).all fun q => decide (q.1 = q.2)) = true
    · have hL := fun ρ hρ => L150 (Γ := Γ) xs ys hl hxy (ρ := ρ) hρ
      simp only [ha, if_true] at hL
      rw [ha]
      simp [f150, hxy, hL]
    · have hL := fun ρ hρ => L150 (Γ := Γ) xs ys hl hxy (ρ := ρ) hρ
      simp only [ha, if_false] at hL
      rw [Bool.not_eq_true] at ha
      rw [ha]
      simp [f150, hxy, hL]
  · have : ¬ (xs.length : Int) = ys.length := by omega
    simp [f150, hxy, this]

theorem L53 (xs : List Xp) (hl : xs.length ≤ 9223372036854775807) (he : ∀ x ∈ xs, EvF Γ 93 [Xp.d x] [] = some (Xp.d x, [])) {ρ : Env}
    (hρ : keepOnly [0, 3, 4] ρ = [(0, .list (xs.map Xp.d)), (3, .sl 0 xs.length), (4, .int .i64 0)]) :
    inBlk 0 [3] (EvC Γ f53L1 ρ [.arr 4 (fill Xp.d (.agg [.int .i64 0, .str [], .int .i64 0, .nils]) xs 0)]) = some (.norm, [(3, .sl 0 xs.length)], [.arr 4 (xs.map Xp.d)]) := by
  refine loop_list (L := f53L1) rfl (inBlk 0 [3]) xs (fun i (_ : Unit) => [(0, .list (xs.map Xp.d)), (3, .sl 0 xs.length), (4, .int .i64 i)]) (fun i _ => [.arr 4 (fill Xp.d (.agg [.int .i64 0, .str [], .int .i64 0, .nils]) xs i)]) (fun _ _ _ => some (.norm, [(3, .sl 0 xs.length)], [.arr 4 (xs.map Xp.d)])) ?_ ?_ () ρ hρ
  · intro s; simp [f53l1, fill_full]
  · intro i x r _ hx hi hr ih
    have hw := wrap64_succ hi hl
    have hi' : (i : Int) < xs.length := by omega
    have ih := ih ()
    have hg := fill_get (g := Xp.d) (z := (.agg [.int .i64 0, .str [], .int .i64 0, .nils])) hi
    have hn := fill_len (g := Xp.d) (z := (.agg [.int .i64 0, .str [], .int .i64 0, .nils])) (Nat.le_of_lt hi)
    have hf := fill_set (g := Xp.d) (z := (.agg [.int .i64 0, .str [], .int .i64 0, .nils])) hi hx
    simp [f53l1, hi', hw, hx, he x (List.mem_of_getElem? hx), callIn_pure, hn, hg, hf, ih]
theorem to53_ev (h : H53 Γ) (xs : List Xp) (hl : xs.length ≤ 1048576) (he : ∀ x ∈ xs, EvF Γ 93 [Xp.d x] [] = some (Xp.d x, [])) : EvF Γ 53 [.list (xs.map Xp.d)] [] = some (.list (xs.map Xp.d), []) := by
  rw [EvF_run h.e53 rfl]
  have hm : (xs.length : Int) ≤ 70368744177664 := by omega
  have hm2 : (56 : Int) * xs.length ≤ 70368744177664 := by omega
  simp [f53, room, hm, hm2, fill_zero (g := Xp.d), L53 xs (by omega) he]

theorem L67 (xs ys : List Xp) (hl : xs.length ≤ 9223372036854775807) (hxy : xs.length = ys.length) (he : ∀ x ∈ xs, ∀ y ∈ ys, EvF Γ 107 [Xp.d x, Xp.d y] [] = some (.bool (decide (x = y)), [])) {ρ : Env}
    (hρ : keepOnly [0, 1, 5] ρ = [(0, .list (xs.map Xp.d)), (1, .list (ys.map Xp.d)), (5, .int .i64 0)]) :
    inBlk 0 [] (EvC Γ f67L1 ρ []) = if ((xs.zip ys).all fun q => decide (q.1 = q.2)) = true then some (.norm, [], []) else some (.ret, [(4, .bool false)], []) := by
  have hzl : (xs.zip ys).length = xs.length := by simp [hxy]
  have key := loop_list (Γ := Γ) (L := f67L1) rfl (inBlk 0 []) (xs.zip ys) (fun i (_ : Unit) => [(0, .list (xs.map Xp.d)), (1, .list (ys.map Xp.d)), (5, .int .i64 i)]) (fun _ _ => ([] : Store))
    (fun _ r _ => if (r.all fun q => decide (q.1 = q.2)) = true then some (.norm, [], []) else some (.ret, [(4, .bool false)], [])) ?_ ?_ () ρ hρ
  · exact key
  · intro _; simp [f67l1, hxy]
  · intro i q r _ hx hi hr ih
    have hix : i < xs.length := by omega
    have hw := wrap64_succ hix hl
    have hi' : (i : Int) < xs.length := by omega
    have hx1 : xs[i]? = some q.1 := by
      have := congrArg (Option.map Prod.fst) hx
      rw [← List.getElem?_map, List.map_fst_zip (by omega)] at this
      simpa using this
    have hy1 : ys[i]? = some q.2 := by
      have := congrArg (Option.map Prod.snd) hx
      rw [← List.getElem?_map, List.map_snd_zip (by omega)] at this
      simpa using this
    obtain ⟨a, b⟩ := q
    simp only [] at hx1 hy1
    have h1 := he _ (List.mem_of_getElem? hx1) _ (List.mem_of_getElem? hy1)
    by_cases hb : a = b
    · have ih := ih ()
      subst hb
      simp only [List.all_cons, decide_true, Bool.true_and]
      simp [f67l1, hi', hw, hx1, hy1, h1, callIn_pure, ih]
    · simp only [List.all_cons, hb, decide_false, Bool.false_and]
      simp [f67l1, hi', hx1, hy1, h1, callIn_pure, hb]
theorem eqs67_ev (h : H67 Γ) (xs ys : List Xp) (hl : xs.length ≤ 9223372036854775807) (he : ∀ x ∈ xs, ∀ y ∈ ys, EvF Γ 107 [Xp.d x, Xp.d y] [] = some (.bool (decide (x = y)), [])) : EvF Γ 67 [.list (xs.map Xp.d), .list (ys.map Xp.d)] [] = some (.bool (decide (xs = ys)), []) := by
  rw [EvF_run h.e67 rfl, ← all_eq]
  by_cases hxy : xs.length = ys.length
  · by_cases ha : ((xs.zip ys).all fun q => decide (q.1 = q.2)) = true
    · have hL := fun ρ hρ => L67 (Γ := Γ) xs ys hl hxy he (ρ := ρ) hρ
      simp only [ha, if_true] at hL
      rw [ha]
      simp [f67, hxy, hL]
    · have hL := fun ρ hρ => L67 (Γ := Γ) xs ys hl hxy he (ρ := ρ) hρ
      simp only [ha, if_false] at hL
      rw [Bool.not_eq_true] at ha
      rw [ha]
      simp [f67, hxy, hL]
  · have : ¬ (xs.length : Int) = ys.length := by omega
    simp [f67, hxy, this]

theorem L46 (xs : List Xp) (hl : xs.length ≤ 9223372036854775807) (F : Xp → Nat) (he : ∀ x ∈ xs, ∀ l : Int, 0 ≤ l → l ≤ 1048576 → EvF Γ 86 [Xp.d x, .int .i64 l] [] = some (.int .i64 (szR l (F x)), [])) (l : Int) (h0 : 0 ≤ l) (h1 : l ≤ 1048576) {ρ : Env}
    (hρ : keepOnly [0, 1, 5] ρ = [(0, .list (xs.map Xp.d)), (1, .int .i64 l), (5, .int .i64 0)]) :
    inBlk 0 [1] (EvC Γ f46L1 ρ []) = if (szL F xs : Int) ≤ l then some (.norm, [(1, .int .i64 (szR l (szL F xs)))], []) else some (.ret, [(4, .int .i64 (-1))], []) := by
  refine loop_list (L := f46L1) rfl (inBlk 0 [1]) xs (fun i (l : {l : Int // 0 ≤ l ∧ l ≤ 1048576}) => [(0, .list (xs.map Xp.d)), (1, .int .i64 l.1), (5, .int .i64 i)]) (fun _ _ => ([] : Store))
    (fun _ r l => if (szL F r : Int) ≤ l.1 then some (.norm, [(1, .int .i64 (szR l.1 (szL F r)))], []) else some (.ret, [(4, .int .i64 (-1))], [])) ?_ ?_ ⟨l, h0, h1⟩ ρ hρ
  · intro l
    have := l.2.1
    simp [f46l1, this, szR]
  · intro i x r l hx hi hr ih
    have hw := wrap64_succ hi hl
    have hi' : (i : Int) < xs.length := by omega
    have l0 := l.2.1
    have l1 := l.2.2
    by_cases hb : ((F x : Nat) : Int) ≤ l.1
    · have ih := ih ⟨l.1 - F x, by omega, by omega⟩
      have hq : szR l.1 (F x) = l.1 - F x := by simp only [szR, if_pos hb]
      have hn : ¬ (l.1 - ((F x : Nat) : Int) < 0) := by omega
      have hz : szR l.1 (F x + szL F r) = szR (l.1 - F x) (szL F r) := by simp only [szR]; split <;> split <;> omega
      have hc : (F x + szL F r : Nat) ≤ l.1 ↔ (szL F r : Int) ≤ l.1 - F x := by omega
      have hwl := True.intro
      simp only [szL_cons, hc, hz]
      simp [f46l1, hi', hw, hx, he x (List.mem_of_getElem? hx) l.1 l.2.1 l.2.2, callIn_pure, hq, hn, ih, hwl]
    · have hq : szR l.1 (F x) = -1 := by simp only [szR, if_neg hb]
      have hc : ¬ ((F x + szL F r : Nat) : Int) ≤ l.1 := by omega
      have hn : l.1 - ((F x : Nat) : Int) < 0 := by omega
      have hwl := True.intro
      simp only [szL_cons, hc, if_false]
      simp [f46l1, hi', hx, he x (List.mem_of_getElem? hx) l.1 l.2.1 l.2.2, callIn_pure, hq, hn, hwl]
theorem sz46_ev (h : H46 Γ) (xs : List Xp) (hl : xs.length ≤ 9223372036854775807) (F : Xp → Nat) (he : ∀ x ∈ xs, ∀ l : Int, 0 ≤ l → l ≤ 1048576 → EvF Γ 86 [Xp.d x, .int .i64 l] [] = some (.int .i64 (szR l (F x)), [])) (l : Int) (h0 : 0 ≤ l) (h1 : l ≤ 1048576) :
    EvF Γ 46 [.list (xs.map Xp.d), .int .i64 l] [] = some (.int .i64 (szR l (xs.length + szL F xs)), []) := by
  rw [EvF_run h.e46 rfl]
  have hwl : IntKind.wrap .i64 (l - (xs.length : Int)) = l - xs.length := wrap64 (by omega) (by omega)
  by_cases hb : (xs.length : Int) ≤ l
  · have hL := fun ρ hρ => L46 (Γ := Γ) xs hl F he (l - xs.length) (by omega) (by omega) (ρ := ρ) hρ
    have hn : ¬ (l - (xs.length : Int) < 0) := by omega
    have hz : szR l (xs.length + szL F xs) = szR (l - xs.length) (szL F xs) := by simp only [szR]; split <;> split <;> omega
    rw [hz]
    by_cases hc : (szL F xs : Int) ≤ l - xs.length
    · simp only [hc, if_true] at hL
      simp [f46, hwl, hn, hL]
    · simp only [hc, if_false] at hL
      have hq : szR (l - xs.length) (szL F xs) = -1 := by simp only [szR, if_neg hc]
      simp [f46, hwl, hn, hL, hq]
  · have hn : l - (xs.length : Int) < 0 := by omega
    have hq : szR l (xs.length + szL F xs) = -1 := by
      simp only [szR]
      rw [if_neg (by omega)]
    simp [f46, hwl, hn, hq]

theorem L52 (xs : List Col) (hl : xs.length ≤ 9223372036854775807) (he : ∀ x ∈ xs, EvF Γ 91 [Col.d x] [] = some (Col.d x, [])) {ρ : Env}
    (hρ : keepOnly [0, 3, 4] ρ = [(0, .list (xs.map Col.d)), (3, .sl 0 xs.length), (4, .int .i64 0)]) :
    inBlk 0 [3] (EvC Γ f52L1 ρ [.arr 6 (fill Col.d (.agg [.str [], .int .i64 0, .int .i64 0, .str [], .bool false, .nils]) xs 0)]) = some (.norm, [(3, .sl 0 xs.length)], [.arr 6 (xs.map Col.d)]) := by
  refine loop_list (L := f52L1) rfl (inBlk 0 [3]) xs (fun i (_ : Unit) => [(0, .list (xs.map Col.d)), (3, .sl 0 xs.length), (4, .int .i64 i)]) (fun i _ => [.arr 6 (fill Col.d (.agg [.str [], .int .i64 0, .int .i64 0, .str [], .bool false, .nils]) xs i)]) (fun _ _ _ => some (.norm, [(3, .sl 0 xs.length)], [.arr 6 (xs.map Col.d)])) ?_ ?_ () ρ hρ
  · intro s; simp [f52l1, fill_full]
  · intro i x r _ hx hi hr ih
    have hw := wrap64_succ hi hl
    have hi' : (i : Int) < xs.length := by omega
    have ih := ih ()
    have hg := fill_get (g := Col.d) (z := (.agg [.str [], .int .i64 0, .int .i64 0, .str [], .bool false, .nils])) hi
    have hn := fill_len (g := Col.d) (z := (.agg [.str [], .int .i64 0, .int .i64 0, .str [], .bool false, .nils])) (Nat.le_of_lt hi)
    have hf := fill_set (g := Col.d) (z := (.agg [.str [], .int .i64 0, .int .i64 0, .str [], .bool false, .nils])) hi hx
    simp [f52l1, hi', hw, hx, he x (List.mem_of_getElem? hx), callIn_pure, hn, hg, hf, ih]
theorem to52_ev (h : H52 Γ) (xs : List Col) (hl : xs.length ≤ 1048576) (he : ∀ x ∈ xs, EvF Γ 91 [Col.d x] [] = some (Col.d x, [])) : EvF Γ 52 [.list (xs.map Col.d)] [] = some (.list (xs.map Col.d), []) := by
  rw [EvF_run h.e52 rfl]
  have hm : (xs.length : Int) ≤ 70368744177664 := by omega
  have hm2 : (80 : Int) * xs.length ≤ 70368744177664 := by omega
  simp [f52, room, hm, hm2, fill_zero (g := Col.d), L52 xs (by omega) he]

theorem L66 (xs ys : List Col) (hl : xs.length ≤ 9223372036854775807) (hxy : xs.length = ys.length) (he : ∀ x ∈ xs, ∀ y ∈ ys, EvF Γ 105 [Col.d x, Col.d y] [] = some (.bool (decide (x = y)), [])) {ρ : Env}
    (hρ : keepOnly [0, 1, 5] ρ = [(0, .list (xs.map Col.d)), (1, .list (ys.map Col.d)), (5, .int .i64 0)]) :
    inBlk 0 [] (EvC Γ f66L1 ρ []) = if ((xs.zip ys).all fun q => decide (q.1 = q.2)) = true then some (.norm, [], []) else some (.ret, [(4, .bool false)], []) := by
  have hzl : (xs.zip ys).length = xs.length := by simp [hxy]
  have key := loop_list (Γ := Γ) (L := f66L1) rfl (inBlk 0 []) (xs.zip ys) (fun i (_ : Unit) => [(0, .list (xs.map Col.d)), (1, .list (ys.map Col.d)), (5, .int .i64 i)]) (fun _ _ => ([] : Store))
    (fun _ r _ => if (r.all fun q => decide (q.1 = q.2)) = true then some (.norm, [], []) else some (.ret, [(4, .bool false)], [])) ?_ ?_ () ρ hρ
  · exact key
  · intro _; simp [f66l1, hxy]
  · intro i q r _ hx hi hr ih
    have hix : i < xs.length := by omega
    have hw := wrap64_succ hix hl
    have hi' : (i : Int) < xs.length := by omega
    have hx1 : xs[i]? = some q.1 := by
      have := congrArg (Option.map Prod.fst) hx
      rw [← List.getElem?_map, List.map_fst_zip (by omega)] at this
      simpa using this
    have hy1 : ys[i]? = some q.2 := by
      have := congrArg (Option.map Prod.snd) hx
      rw [← List.getElem?_map, List.map_snd_zip (by omega)] at this
      simpa using this
    obtain ⟨a, b⟩ := q
    simp only [] at hx1 hy1
    have h1 := he _ (List.mem_of_getElem? hx1) _ (List.mem_of_getElem? hy1)
    by_cases hb : a = b
    · have ih := ih ()
      subst hb
      simp only [List.all_cons, decide_true, Bool.true_and]
      simp [f66l1, hi', hw, hx1, hy1, h1, callIn_pure, ih]
    · simp only [List.all_cons, hb, decide_false, Bool.false_and]
      simp [f66l1, hi', hx1, hy1, h1, callIn_pure, hb]
theorem eqs66_ev (h : H66 Γ) (xs ys : List Col) (hl : xs.length ≤ 9223372036854775807) (he : ∀ x ∈ xs, ∀ y ∈ ys, EvF Γ 105 [Col.d x, Col.d y] [] = some (.bool (decide (x = y)), [])) : EvF Γ 66 [.list (xs.map Col.d), .list (ys.map Col.d)] [] = some (.bool (decide (xs = ys)), []) := by
  rw [EvF_run h.e66 rfl, ← all_eq]
  by_cases hxy : xs.length = ys.length
  · by_cases ha : ((xs.zip ys).all fun q => decide (q.1 = q.2)) = true
    · have hL := fun ρ hρ => L66 (Γ := Γ) xs ys hl hxy he (ρ := ρ) hρ
      simp only [ha, if_true] at hL
      rw [ha]
      simp [f66, hxy, hL]
    · have hL := fun ρ hρ => L66 (Γ := Γ) xs ys hl hxy he (ρ := ρ) hρ
      simp only [ha, if_false] at hL
      rw [Bool.not_eq_true] at ha
      rw [ha]
      simp [f66, hxy, hL]
  · have : ¬ (xs.length : Int) = ys.length := by omega
    simp [f66, hxy, this]

theorem L45 (xs : List Col) (hl : xs.length ≤ 9223372036854775807) (F : Col → Nat) (he : ∀ x ∈ xs, ∀ l : Int, 0 ≤ l → l ≤ 1048576 → EvF Γ 84 [Col.d x, .int .i64 l] [] = some (.int .i64 (szR l (F x)), [])) (l : Int) (h0 : 0 ≤ l) (h1 : l ≤ 1048576) {ρ : Env}
    (hρ : keepOnly [0, 1, 5] ρ = [(0, .list (xs.map Col.d)), (1, .int .i64 l), (5, .int .i64 0)]) :
    inBlk 0 [1] (EvC Γ f45L1 ρ []) = if (szL F xs : Int) ≤ l then some (.norm, [(1, .int .i64 (szR l (szL F xs)))], []) else some (.ret, [(4, .int .i64 (-1))], []) := by
  refine loop_list (L := f45L1) rfl (inBlk 0 [1]) xs (fun i (l : {l : Int // 0 ≤ l ∧ l ≤ 1048576}) => [(0, .list (xs.map Col.d)), (1, .int .i64 l.1), (5, .int .i64 i)]) (fun _ _ => ([] : Store))
    (fun _ r l => if (szL F r : Int) ≤ l.1 then some (.norm, [(1, .int .i64 (szR l.1 (szL F r)))], []) else some (.ret, [(4, .int .i64 (-1))], [])) ?_ ?_ ⟨l, h0, h1⟩ ρ hρ
  · intro l
    have := l.2.1
    simp [f45l1, this, szR]
  · intro i x r l hx hi hr ih
    have hw := wrap64_succ hi hl
    have hi' : (i : Int) < xs.length := by omega
    have l0 := l.2.1
    have l1 := l.2.2
    by_cases hb : ((F x : Nat) : Int) ≤ l.1
    · have ih := ih ⟨l.1 - F x, by omega, by omega⟩
      have hq : szR l.1 (F x) = l.1 - F x := by simp only [szR, if_pos hb]
      have hn : ¬ (l.1 - ((F x : Nat) : Int) < 0) := by omega
      have hz : szR l.1 (F x + szL F r) = szR (l.1 - F x) (szL F r) := by simp only [szR]; split <;> split <;> omega
      have hc : (F x + szL F r : Nat) ≤ l.1 ↔ (szL F r : Int) ≤ l.1 - F x := by omega
      have hwl := True.intro
      simp only [szL_cons, hc, hz]
      simp [f45l1, hi', hw, hx, he x (List.mem_of_getElem? hx) l.1 l.2.1 l.2.2, callIn_pure, hq, hn, ih, hwl]
    · have hq : szR l.1 (F x) = -1 := by simp only [szR, if_neg hb]
      have hc : ¬ ((F x + szL F r : Nat) : Int) ≤ l.1 := by omega
      have hn : l.1 - ((F x : Nat) : Int) < 0 := by omega
      have hwl := True.intro
      simp only [szL_cons, hc, if_false]
      simp [f45l1, hi', hx, he x (List.mem_of_getElem? hx) l.1 l.2.1 l.2.2, callIn_pure, hq, hn, hwl]
theorem sz45_ev (h : H45 Γ) (xs : List Col) (hl : xs.length ≤ 9223372036854775807) (F : Col → Nat) (he : ∀ x ∈ xs, ∀ l : Int, 0 ≤ l → l ≤ 1048576 → EvF Γ 84 [Col.d x, .int .i64 l] [] = some (.int .i64 (szR l (F x)), [])) (l : Int) (h0 : 0 ≤ l) (h1 : l ≤ 1048576) :
    EvF Γ 45 [.list (xs.map Col.d), .int .i64 l] [] = some (.int .i64 (szR l (xs.length + szL F xs)), []) := by
  rw [EvF_run h.e45 rfl]
  have hwl : IntKind.wrap .i64 (l - (xs.length : Int)) = l - xs.length := wrap64 (by omega) (by omega)
  by_cases hb : (xs.length : Int) ≤ l
  · have hL := fun ρ hρ => L45 (Γ := Γ) xs hl F he (l - xs.length) (by omega) (by omega) (ρ := ρ) hρ
    have hn : ¬ (l - (xs.length : Int) < 0) := by omega
    have hz : szR l (xs.length + szL F xs) = szR (l - xs.length) (szL F xs) := by simp only [szR]; split <;> split <;> omega
    rw [hz]
    by_cases hc : (szL F xs : Int) ≤ l - xs.length
    · simp only [hc, if_true] at hL
      simp [f45, hwl, hn, hL]
    · simp only [hc, if_false] at hL
      have hq : szR (l - xs.length) (szL F xs) = -1 := by simp only [szR, if_neg hc]
      simp [f45, hwl, hn, hL, hq]
  · have hn : l - (xs.length : Int) < 0 := by omega
    have hq : szR l (xs.length + szL F xs) = -1 := by
      simp only [szR]
      rw [if_neg (by omega)]
    simp [f45, hwl, hn, hq]

theorem L55 (xs : List Str) (hl : xs.length ≤ 9223372036854775807) {ρ : Env}
    (hρ : keepOnly [0, 3, 4] ρ = [(0, .list (xs.map D.str)), (3, .sl 0 xs.length), (4, .int .i64 0)]) :
    inBlk 0 [3] (EvC Γ f55L1 ρ [.arr 1 (fill D.str (.str []) xs 0)]) = some (.norm, [(3, .sl 0 xs.length)], [.arr 1 (xs.map D.str)]) := by
  refine loop_list (L := f55L1) rfl (inBlk 0 [3]) xs (fun i (_ : Unit) => [(0, .list (xs.map D.str)), (3, .sl 0 xs.length), (4, .int .i64 i)]) (fun i _ => [.arr 1 (fill D.str (.str []) xs i)]) (fun _ _ _ => some (.norm, [(3, .sl 0 xs.length)], [.arr 1 (xs.map D.str)])) ?_ ?_ () ρ hρ
  · intro s; simp [f55l1, fill_full]
  · intro i x r _ hx hi hr ih
    have hw := wrap64_succ hi hl
    have hi' : (i : Int) < xs.length := by omega
    have ih := ih ()
    have hg := fill_get (g := D.str) (z := (.str [])) hi
    have hn := fill_len (g := D.str) (z := (.str [])) (Nat.le_of_lt hi)
    have hf := fill_set (g := D.str) (z := (.str [])) hi hx
    simp [f55l1, hi', hw, hx, callIn_pure, hn, hg, hf, ih]
theorem to55_ev (h : H55 Γ) (xs : List Str) (hl : xs.length ≤ 1048576) : EvF Γ 55 [.list (xs.map D.str)] [] = some (.list (xs.map D.str), []) := by
  rw [EvF_run h.e55 rfl]
  have hm : (xs.length : Int) ≤ 70368744177664 := by omega
  have hm2 : (16 : Int) * xs.length ≤ 70368744177664 := by omega
  simp [f55, room, hm, hm2, fill_zero (g := D.str), L55 xs (by omega)]

theorem L69 (xs ys : List Str) (hl : xs.length ≤ 9223372036854775807) (hxy : xs.length = ys.length) {ρ : Env}
    (hρ : keepOnly [0, 1, 5] ρ = [(0, .list (xs.map D.str)), (1, .list (ys.map D.str)), (5, .int .i64 0)]) :
    inBlk 0 [] (EvC Γ f69L1 ρ []) = if ((xs.zip ys).all fun q => decide (q.1 = q.2)) = true then some (.norm, [], []) else some (.ret, [(4, .bool false)], []) := by
  have hzl : (xs.zip ys).length = xs.length := by simp [hxy]
  have key := loop_list (Γ := Γ) (L := f69L1) rfl (inBlk 0 []) (xs.zip ys) (fun i (_ : Unit) => [(0, .list (xs.map D.str)), (1, .list (ys.map D.str)), (5, .int .i64 i)]) (fun _ _ => ([] : Store))
    (fun _ r _ => if (r.all fun q => decide (q.1 = q.2)) = true then some (.norm, [], []) else some (.ret, [(4, .bool false)], [])) ?_ ?_ () ρ hρ
  · exact key
  · intro _; simp [f69l1, hxy]
  · intro i q r _ hx hi hr ih
    have hix : i < xs.length := by omega
    have hw := wrap64_succ hix hl
    have hi' : (i : Int) < xs.length := by omega
    have hx1 : xs[i]? = some q.1 := by
      have := congrArg (Option.map Prod.fst) hx
      rw [← List.getElem?_map, List.map_fst_zip (by omega)] at this
      simpa using this
    have hy1 : ys[i]? = some q.2 := by
      have := congrArg (Option.map Prod.snd) hx
      rw [← List.getElem?_map, List.map_snd_zip (by omega)] at this
      simpa using this
    obtain ⟨a, b⟩ := q
    simp only [] at hx1 hy1
    skip
    by_cases hb : a = b
    · have ih := ih ()
      subst hb
      simp only [List.all_cons, decide_true, Bool.true_and]
      simp [f69l1, hi', hw, hx1, hy1, ih]
    · simp only [List.all_cons, hb, decide_false, Bool.false_and]
      simp [f69l1, hi', hx1, hy1, hb]
theorem eqs69_ev (h : H69 Γ) (xs ys : List Str) (hl : xs.length ≤ 9223372036854775807) : EvF Γ 69 [.list (xs.map D.str), .list (ys.map D.str)] [] = some (.bool (decide (xs = ys)), []) := by
  rw [EvF_run h.e69 rfl, ← all_eq]
  by_cases hxy : xs.length = ys.length
  · by_cases ha : ((xs.zip ys).all fun q => decide (q.1 = q.2)) = true
    · have hL := fun ρ hρ => L69 (Γ := Γ) xs ys hl hxy (ρ := ρ) hρ
      simp only [ha, if_true] at hL
      rw [ha]
      simp [f69, hxy, hL]
    · have hL := fun ρ hρ => L69 (Γ := Γ) xs ys hl hxy (ρ := ρ) hρ
      simp only [ha, if_false] at hL
      rw [Bool.not_eq_true] at ha
      rw [ha]
      simp [f69, hxy, hL]
  · have : ¬ (xs.length : Int) = ys.length := by omega
    simp [f69, hxy, this]

theorem L48 (xs : List Str) (hl : xs.length ≤ 9223372036854775807) (hb8 : ∀ x ∈ xs, x.length ≤ 9223372036854775807) (l : Int) (h0 : 0 ≤ l) (h1 : l ≤ 1048576) {ρ : Env}
    (hρ : keepOnly [0, 1, 5] ρ = [(0, .list (xs.map D.str)), (1, .int .i64 l), (5, .int .i64 0)]) :
    inBlk 0 [1] (EvC Γ f48L1 ρ []) = if (szL List.length xs : Int) ≤ l then some (.norm, [(1, .int .i64 (szR l (szL List.length xs)))], []) else some (.ret, [(4, .int .i64 (-1))], []) := by
  refine loop_list (L := f48L1) rfl (inBlk 0 [1]) xs (fun i (l : {l : Int // 0 ≤ l ∧ l ≤ 1048576}) => [(0, .list (xs.map D.str)), (1, .int .i64 l.1), (5, .int .i64 i)]) (fun _ _ => ([] : Store))
    (fun _ r l => if (szL List.length r : Int) ≤ l.1 then some (.norm, [(1, .int .i64 (szR l.1 (szL List.length r)))], []) else some (.ret, [(4, .int .i64 (-1))], [])) ?_ ?_ ⟨l, h0, h1⟩ ρ hρ
  · intro l
    have := l.2.1
    simp [f48l1, this, szR]
  · intro i x r l hx hi hr ih
    have hw := wrap64_succ hi hl
    have hi' : (i : Int) < xs.length := by omega
    have l0 := l.2.1
    have l1 := l.2.2
    by_cases hb : ((List.length x : Nat) : Int) ≤ l.1
    · have ih := ih ⟨l.1 - List.length x, by omega, by omega⟩
      have hq : szR l.1 (List.length x) = l.1 - List.length x := by simp only [szR, if_pos hb]
      have hn : ¬ (l.1 - ((List.length x : Nat) : Int) < 0) := by omega
      have hz : szR l.1 (List.length x + szL List.length r) = szR (l.1 - List.length x) (szL List.length r) := by simp only [szR]; split <;> split <;> omega
      have hc : (List.length x + szL List.length r : Nat) ≤ l.1 ↔ (szL List.length r : Int) ≤ l.1 - List.length x := by omega
      have hxl : x.length ≤ 9223372036854775807 := hb8 x (List.mem_of_getElem? hx)
      have hwl : IntKind.wrap .i64 (l.1 - (x.length : Int)) = l.1 - x.length := wrap64 (by omega) (by omega)
      simp only [szL_cons, hc, hz]
      simp [f48l1, hi', hw, hx, hq, hn, ih, hwl]
    · have hq : szR l.1 (List.length x) = -1 := by simp only [szR, if_neg hb]
      have hc : ¬ ((List.length x + szL List.length r : Nat) : Int) ≤ l.1 := by omega
      have hn : l.1 - ((List.length x : Nat) : Int) < 0 := by omega
      have hxl : x.length ≤ 9223372036854775807 := hb8 x (List.mem_of_getElem? hx)
      have hwl : IntKind.wrap .i64 (l.1 - (x.length : Int)) = l.1 - x.length := wrap64 (by omega) (by omega)
      simp only [szL_cons, hc, if_false]
      simp [f48l1, hi', hx, hq, hn, hwl]
theorem sz48_ev (h : H48 Γ) (xs : List Str) (hl : xs.length ≤ 9223372036854775807) (hb8 : ∀ x ∈ xs, x.length ≤ 9223372036854775807) (l : Int) (h0 : 0 ≤ l) (h1 : l ≤ 1048576) :
    EvF Γ 48 [.list (xs.map D.str), .int .i64 l] [] = some (.int .i64 (szR l (xs.length + szL List.length xs)), []) := by
  rw [EvF_run h.e48 rfl]
  have hwl : IntKind.wrap .i64 (l - (xs.length : Int)) = l - xs.length := wrap64 (by omega) (by omega)
  by_cases hb : (xs.length : Int) ≤ l
  · have hL := fun ρ hρ => L48 (Γ := Γ) xs hl hb8 (l - xs.length) (by omega) (by omega) (ρ := ρ) hρ
    have hn : ¬ (l - (xs.length : Int) < 0) := by omega
    have hz : szR l (xs.length + szL List.length xs) = szR (l - xs.length) (szL List.length xs) := by simp only [szR]; split <;> split <;> omega
    rw [hz]
    by_cases hc : (szL List.length xs : Int) ≤ l - xs.length
    · simp only [hc, if_true] at hL
      simp [f48, hwl, hn, hL]
    · simp only [hc, if_false] at hL
      have hq : szR (l - xs.length) (szL List.length xs) = -1 := by simp only [szR, if_neg hc]
      simp [f48, hwl, hn, hL, hq]
  · have hn : l - (xs.length : Int) < 0 := by omega
    have hq : szR l (xs.length + szL List.length xs) = -1 := by
      simp only [szR]
      rw [if_neg (by omega)]
    simp [f48, hwl, hn, hq]

theorem L138 (xs : List Labels) (hl : xs.length ≤ 9223372036854775807) (he : ∀ x ∈ xs, EvF Γ 164 [Labels.d x] [] = some (Labels.d x, [])) {ρ : Env}
    (hρ : keepOnly [0, 3, 4] ρ = [(0, .list (xs.map Labels.d)), (3, .sl 0 xs.length), (4, .int .i64 0)]) :
    inBlk 0 [3] (EvC Γ f138L1 ρ [.arr 2 (fill Labels.d (.agg [.str [], .nils]) xs 0)]) = some (.norm, [(3, .sl 0 xs.length)], [.arr 2 (xs.map Labels.d)]) := by
  refine loop_list (L := f138L1) rfl (inBlk 0 [3]) xs (fun i (_ : Unit) => [(0, .list (xs.map Labels.d)), (3, .sl 0 xs.length), (4, .int .i64 i)]) (fun i _ => [.arr 2 (fill Labels.d (.agg [.str [], .nils]) xs i)]) (fun _ _ _ => some (.norm, [(3, .sl 0 xs.length)], [.arr 2 (xs.map Labels.d)])) ?_ ?_ () ρ hρ
  · intro s; simp [f138l1, fill_full]
  · intro i x r _ hx hi hr ih
    have hw := wrap64_succ hi hl
    have hi' : (i : Int) < xs.length := by omega
    have ih := ih ()
    have hg := fill_get (g := Labels.d) (z := (.agg [.str [], .nils])) hi
    have hn := fill_len (g := Labels.d) (z := (.agg [.str [], .nils])) (Nat.le_of_lt hi)
    have hf := fill_set (g := Labels.d) (z := (.agg [.str [], .nils])) hi hx
    simp [f138l1, hi', hw, hx, he x (List.mem_of_getElem? hx), callIn_pure, hn, hg, hf, ih]
theorem to138_ev (h : H138 Γ) (xs : List Labels) (hl : xs.length ≤ 1048576) (he : ∀ x ∈ xs, EvF Γ 164 [Labels.d x] [] = some (Labels.d x, [])) : EvF Γ 138 [.list (xs.map Labels.d)] [] = some (.list (xs.map Labels.d), []) := by
  rw [EvF_run h.e138 rfl]
  have hm : (xs.length : Int) ≤ 70368744177664 := by omega
  have hm2 : (40 : Int) * xs.length ≤ 70368744177664 := by omega
  simp [f138, room, hm, hm2, fill_zero (g := Labels.d), L138 xs (by omega) he]

theorem L152 (xs ys : List Labels) (hl : xs.length ≤ 9223372036854775807) (hxy : xs.length = ys.length) (he : ∀ x ∈ xs, ∀ y ∈ ys, EvF Γ 175 [Labels.d x, Labels.d y] [] = some (.bool (decide (x = y)), [])) {ρ : Env}
    (hρ : keepOnly [0, 1, 5] ρ = [(0, .list (xs.map Labels.d)), (1, .list (ys.map Labels.d)), (5, .int .i64 0)]) :
    inBlk 0 [] (EvC Γ f152L1 ρ []) = if ((xs.zip ys).all fun q => decide (q.1 = q.2)) = true then some (.norm, [], []) else some (.ret, [(4, .bool false)], []) := by
  have hzl : (xs.zip ys).length = xs.length := by simp [hxy]
  have key := loop_list (Γ := Γ) (L := f152L1) rfl (inBlk 0 []) (xs.zip ys) (fun i (_ : Unit) => [(0, .list (xs.map Labels.d)), (1, .list (ys.map Labels.d)), (5, .int .i64 i)]) (fun _ _ => ([] : Store))
    (fun _ r _ => if (r.all fun q => decide (q.1 = q.2)) = true then some (.norm, [], []) else some (.ret, [(4, .bool false)], [])) ?_ ?_ () ρ hρ
  · exact key
  · intro _; simp [f152l1, hxy]
  · intro i q r _ hx hi hr ih
    have hix : i < xs.length := by omega
    have hw := wrap64_succ hix hl
    have hi' : (i : Int) < xs.length := by omega
    have hx1 : xs[i]? = some q.1 := by
      have := congrArg (Option.map Prod.fst) hx
      rw [← List.getElem?_map, List.map_fst_zip (by omega)] at this
      simpa using this
    have hy1 : ys[i]? = some q.2 := by
      have := congrArg (Option.map Prod.snd) hx
      rw [← List.getElem?_map, List.map_snd_zip (by omega)] at this
      simpa using this
    obtain ⟨a, b⟩ := q
    simp only [] at hx1 hy1
    have h1 := he _ (List.mem_of_getElem? hx1) _ (List.mem_of_getElem? hy1)
    by_cases hb : a = b
    · have ih := ih ()
      subst hb
      simp only [List.all_cons, decide_true, Bool.true_and]
      simp [f152l1, hi', hw, hx1, hy1, h1, callIn_pure, ih]
    · simp only [List.all_cons, hb, decide_false, Bool.false_and]
      simp [f152l1, hi', hx1, hy1, h1, callIn_pure, hb]
theorem eqs152_ev (h : H152 Γ) (xs ys : List Labels) (hl : xs.length ≤ 9223372036854775807) (he : ∀ x ∈ xs, ∀ y ∈ ys, EvF Γ 175 [Labels.d x, Labels.d y] [] = some (.bool (decide (x = y)), [])) : EvF Γ 152 [.list (xs.map Labels.d), .list (ys.map Labels.d)] [] = some (.bool (decide (xs = ys)), []) := by
  rw [EvF_run h.e152 rfl, ← all_eq]
  by_cases hxy : xs.length = ys.length
  · by_cases ha : ((xs.zip ys).all fun q => decide (q.1 = q.2)) = true
    · have hL := fun ρ hρ => L152 (Γ := Γ) xs ys hl hxy he (ρ := ρ) hρ
      simp only [ha, if_true] at hL
      rw [ha]
      simp [f152, hxy, hL]
    · have hL := fun ρ hρ => L152 (Γ := Γ) xs ys hl hxy he (ρ := ρ) hρ
      simp only [ha, if_false] at hL
      rw [Bool.not_eq_true] at ha
      rw [ha]
      simp [f152, hxy, hL]
  · have : ¬ (xs.length : Int) = ys.length := by omega
    simp [f152, hxy, this]

theorem L129 (xs : List Labels) (hl : xs.length ≤ 9223372036854775807) (F : Labels → Nat) (he : ∀ x ∈ xs, ∀ l : Int, 0 ≤ l → l ≤ 1048576 → EvF Γ 156 [Labels.d x, .int .i64 l] [] = some (.int .i64 (szR l (F x)), [])) (l : Int) (h0 : 0 ≤ l) (h1 : l ≤ 1048576) {ρ : Env}
    (hρ : keepOnly [0, 1, 5] ρ = [(0, .list (xs.map Labels.d)), (1, .int .i64 l), (5, .int .i64 0)]) :
    inBlk 0 [1] (EvC Γ f129L1 ρ []) = if (szL F xs : Int) ≤ l then some (.norm, [(1, .int .i64 (szR l (szL F xs)))], []) else some (.ret, [(4, .int .i64 (-1))], []) := by
  refine loop_list (L := f129L1) rfl (inBlk 0 [1]) xs (fun i (l : {l : Int // 0 ≤ l ∧ l ≤ 1048576}) => [(0, .list (xs.map Labels.d)), (1, .int .i64 l.1), (5, .int .i64 i)]) (fun _ _ => ([] : Store))
    (fun _ r l => if (szL F r : Int) ≤ l.1 then some (.norm, [(1, .int .i64 (szR l.1 (szL F r)))], []) else some (.ret, [(4, .int .i64 (-1))], [])) ?_ ?_ ⟨l, h0, h1⟩ ρ hρ
  · intro l
    have := l.2.1
    simp [f129l1, this, szR]
  · intro i x r l hx hi hr ih
    have hw := wrap64_succ hi hl
    have hi' : (i : Int) < xs.length := by omega
    have l0 := l.2.1
    have l1 := l.2.2
    by_cases hb : ((F x : Nat) : Int) ≤ l.1
    · have ih := ih ⟨l.1 - F x, by omega, by omega⟩
      have hq : szR l.1 (F x) = l.1 - F x := by simp only [szR, if_pos hb]
      have hn : ¬ (l.1 - ((F x : Nat) : Int) < 0) := by omega
      have hz : szR l.1 (F x + szL F r) = szR (l.1 - F x) (szL F r) := by simp only [szR]; split <;> split <;> omega
      have hc : (F x + szL F r : Nat) ≤ l.1 ↔ (szL F r : Int) ≤ l.1 - F x := by omega
      have hwl := True.intro
      simp only [szL_cons, hc, hz]
      simp [f129l1, hi', hw, hx, he x (List.mem_of_getElem? hx) l.1 l.2.1 l.2.2, callIn_pure, hq, hn, ih, hwl]
    · have hq : szR l.1 (F x) = -1 := by simp only [szR, if_neg hb]
      have hc : ¬ ((F x + szL F r : Nat) : Int) ≤ l.1 := by omega
      have hn : l.1 - ((F x : Nat) : Int) < 0 := by omega
      have hwl := True.intro
      simp only [szL_cons, hc, if_false]
      simp [f129l1, hi', hx, he x (List.mem_of_getElem? hx) l.1 l.2.1 l.2.2, callIn_pure, hq, hn, hwl]
theorem sz129_ev (h : H129 Γ) (xs : List Labels) (hl : xs.length ≤ 9223372036854775807) (F : Labels → Nat) (he : ∀ x ∈ xs, ∀ l : Int, 0 ≤ l → l ≤ 1048576 → EvF Γ 156 [Labels.d x, .int .i64 l] [] = some (.int .i64 (szR l (F x)), [])) (l : Int) (h0 : 0 ≤ l) (h1 : l ≤ 1048576) :
    EvF Γ 129 [.list (xs.map Labels.d), .int .i64 l] [] = some (.int .i64 (szR l (xs.length + szL F xs)), []) := by
  rw [EvF_run h.e129 rfl]
  have hwl : IntKind.wrap .i64 (l - (xs.length : Int)) = l - xs.length := wrap64 (by omega) (by omega)
  by_cases hb : (xs.length : Int) ≤ l
  · have hL := fun ρ hρ => L129 (Γ := Γ) xs hl F he (l - xs.length) (by omega) (by omega) (ρ := ρ) hρ
    have hn : ¬ (l - (xs.length : Int) < 0) := by omega
    have hz : szR l (xs.length + szL F xs) = szR (l - xs.length) (szL F xs) := by simp only [szR]; split <;> split <;> omega
    rw [hz]
    by_cases hc : (szL F xs : Int) ≤ l - xs.length
    · simp only [hc, if_true] at hL
      simp [f129, hwl, hn, hL]
    · simp only [hc, if_false] at hL
      have hq : szR (l - xs.length) (szL F xs) = -1 := by simp only [szR, if_neg hc]
      simp [f129, hwl, hn, hL, hq]
  · have hn : l - (xs.length : Int) < 0 := by omega
    have hq : szR l (xs.length + szL F xs) = -1 := by
      simp only [szR]
      rw [if_neg (by omega)]
    simp [f129, hwl, hn, hq]

theorem L139 (xs : List Seq) (hl : xs.length ≤ 9223372036854775807) (he : ∀ x ∈ xs, EvF Γ 165 [Seq.d x] [] = some (Seq.d x, [])) {ρ : Env}
    (hρ : keepOnly [0, 3, 4] ρ = [(0, .list (xs.map Seq.d)), (3, .sl 0 xs.length), (4, .int .i64 0)]) :
    inBlk 0 [3] (EvC Γ f139L1 ρ [.arr 2 (fill Seq.d (.agg [.str [], .int .i64 0]) xs 0)]) = some (.norm, [(3, .sl 0 xs.length)], [.arr 2 (xs.map Seq.d)]) := by
  refine loop_list (L := f139L1) rfl (inBlk 0 [3]) xs (fun i (_ : Unit) => [(0, .list (xs.map Seq.d)), (3, .sl 0 xs.length), (4, .int .i64 i)]) (fun i _ => [.arr 2 (fill Seq.d (.agg [.str [], .int .i64 0]) xs i)]) (fun _ _ _ => some (.norm, [(3, .sl 0 xs.length)], [.arr 2 (xs.map Seq.d)])) ?_ ?_ () ρ hρ
  · intro s; simp [f139l1, fill_full]
  · intro i x r _ hx hi hr ih
    have hw := wrap64_succ hi hl
    have hi' : (i : Int) < xs.length := by omega
    have ih := ih ()
    have hg := fill_get (g := Seq.d) (z := (.agg [.str [], .int .i64 0])) hi
    have hn := fill_len (g := Seq.d) (z := (.agg [.str [], .int .i64 0])) (Nat.le_of_lt hi)
    have hf := fill_set (g := Seq.d) (z := (.agg [.str [], .int .i64 0])) hi hx
    simp [f139l1, hi', hw, hx, he x (List.mem_of_getElem? hx), callIn_pure, hn, hg, hf, ih]
theorem to139_ev (h : H139 Γ) (xs : List Seq) (hl : xs.length ≤ 1048576) (he : ∀ x ∈ xs, EvF Γ 165 [Seq.d x] [] = some (Seq.d x, [])) : EvF Γ 139 [.list (xs.map Seq.d)] [] = some (.list (xs.map Seq.d), []) := by
  rw [EvF_run h.e139 rfl]
  have hm : (xs.length : Int) ≤ 70368744177664 := by omega
  have hm2 : (24 : Int) * xs.length ≤ 70368744177664 := by omega
  simp [f139, room, hm, hm2, fill_zero (g := Seq.d), L139 xs (by omega) he]

theorem L153 (xs ys : List Seq) (hl : xs.length ≤ 9223372036854775807) (hxy : xs.length = ys.length) (he : ∀ x ∈ xs, ∀ y ∈ ys, EvF Γ 176 [Seq.d x, Seq.d y] [] = some (.bool (decide (x = y)), [])) {ρ : Env}
    (hρ : keepOnly [0, 1, 5] ρ = [(0, .list (xs.map Seq.d)), (1, .list (ys.map Seq.d)), (5, .int .i64 0)]) :
    inBlk 0 [] (EvC Γ f153L1 ρ []) = if ((xs.zip ys).all fun q => decide (q.1 = q.2)) = true then some (.norm, [], []) else some (.ret, [(4, .bool false)], []) := by
  have hzl : (xs.zip ys).length = xs.length := by simp [hxy]
  have key := loop_list (Γ := Γ) (L := f153L1) rfl (inBlk 0 []) (xs.zip ys) (fun i (_ : Unit) => [(0, .list (xs.map Seq.d)), (1, .list (ys.map Seq.d)), (5, .int .i64 i)]) (fun _ _ => ([] : Store))
    (fun _ r _ => if (r.all fun q => decide (q.1 = q.2)) = true then some (.norm, [], []) else some (.ret, [(4, .bool false)], [])) ?_ ?_ () ρ hρ
  · exact key
  · intro _; simp [f153l1, hxy]
  · intro i q r _ hx hi hr ih
    have hix : i < xs.length := by omega
    have hw := wrap64_succ hix hl
    have hi' : (i : Int) < xs.length := by omega
    have hx1 : xs[i]? = some q.1 := by
      have := congrArg (Option.map Prod.fst) hx
      rw [← List.getElem?_map, List.map_fst_zip (by omega)] at this
      simpa using this
    have hy1 : ys[i]? = some q.2 := by
      have := congrArg (Option.map Prod.snd) hx
      rw [← List.getElem?_map, List.map_snd_zip (by omega)] at this
      simpa using this
    obtain ⟨a, b⟩ := q
    simp only [] at hx1 hy1
    have h1 := he _ (List.mem_of_getElem? hx1) _ (List.mem_of_getElem? hy1)
    by_cases hb : a = b
    · have ih := ih ()
      subst hb
      simp only [List.all_cons, decide_true, Bool.true_and]
      simp [f153l1, hi', hw, hx1, hy1, h1, callIn_pure, ih]
    · simp only [List.all_cons, hb, decide_false, Bool.false_and]
      simp [f153l1, hi', hx1, hy1, h1, callIn_pure, hb]
theorem eqs153_ev (h : H153 Γ) (xs ys : List Seq) (hl : xs.length ≤ 9223372036854775807) (he : ∀ x ∈ xs, ∀ y ∈ ys, EvF Γ 176 [Seq.d x, Seq.d y] [] = some (.bool (decide (x = y)), [])) : EvF Γ 153 [.list (xs.map Seq.d), .list (ys.map Seq.d)] [] = some (.bool (decide (xs = ys)), []) := by
  rw [EvF_run h.e153 rfl, ← all_eq]
  by_cases hxy : xs.length = ys.length
  · by_cases ha : ((xs.zip ys).all fun q => decide (q.1 = q.2)) = true
    · have hL := fun ρ hρ => L153 (Γ := Γ) xs ys hl hxy he (ρ := ρ) hρ
      simp only [ha, if_true] at hL
      rw [ha]
      simp [f153, hxy, hL]
    · have hL := fun ρ hρ => L153 (Γ := Γ) xs ys hl hxy he (ρ := ρ) hρ
      simp only [ha, if_false] at hL
      rw [Bool.not_eq_true] at ha
      rw [ha]
      simp [f153, hxy, hL]
  · have : ¬ (xs.length : Int) = ys.length := by omega
    simp [f153, hxy, this]

theorem L130 (xs : List Seq) (hl : xs.length ≤ 9223372036854775807) (F : Seq → Nat) (he : ∀ x ∈ xs, ∀ l : Int, 0 ≤ l → l ≤ 1048576 → EvF Γ 157 [Seq.d x, .int .i64 l] [] = some (.int .i64 (szR l (F x)), [])) (l : Int) (h0 : 0 ≤ l) (h1 : l ≤ 1048576) {ρ : Env}
    (hρ : keepOnly [0, 1, 5] ρ = [(0, .list (xs.map Seq.d)), (1, .int .i64 l), (5, .int .i64 0)]) :
    inBlk 0 [1] (EvC Γ f130L1 ρ []) = if (szL F xs : Int) ≤ l then some (.norm, [(1, .int .i64 (szR l (szL F xs)))], []) else some (.ret, [(4, .int .i64 (-1))], []) := by
  refine loop_list (L := f130L1) rfl (inBlk 0 [1]) xs (fun i (l : {l : Int // 0 ≤ l ∧ l ≤ 1048576}) => [(0, .list (xs.map Seq.d)), (1, .int .i64 l.1), (5, .int .i64 i)]) (fun _ _ => ([] : Store))
    (fun _ r l => if (szL F r : Int) ≤ l.1 then some (.norm, [(1, .int .i64 (szR l.1 (szL F r)))], []) else some (.ret, [(4, .int .i64 (-1))], [])) ?_ ?_ ⟨l, h0, h1⟩ ρ hρ
  · intro l
    have := l.2.1
    simp [f130l1, this, szR]
  · intro i x r l hx hi hr ih
    have hw := wrap64_succ hi hl
    have hi' : (i : Int) < xs.length := by omega
    have l0 := l.2.1
    have l1 := l.2.2
    by_cases hb : ((F x : Nat) : Int) ≤ l.1
    · have ih := ih ⟨l.1 - F x, by omega, by omega⟩
      have hq : szR l.1 (F x) = l.1 - F x := by simp only [szR, if_pos hb]
      have hn : ¬ (l.1 - ((F x : Nat) : Int) < 0) := by omega
      have hz : szR l.1 (F x + szL F r) = szR (l.1 - F x) (szL F r) := by simp only [szR]; split <;> split <;> omega
      have hc : (F x + szL F r : Nat) ≤ l.1 ↔ (szL F r : Int) ≤ l.1 - F x := by omega
      have hwl := True.intro
      simp only [szL_cons, hc, hz]
      simp [f130l1, hi', hw, hx, he x (List.mem_of_getElem? hx) l.1 l.2.1 l.2.2, callIn_pure, hq, hn, ih, hwl]
    · have hq : szR l.1 (F x) = -1 := by simp only [szR, if_neg hb]
      have hc : ¬ ((F x + szL F r : Nat) : Int) ≤ l.1 := by omega
      have hn : l.1 - ((F x : Nat) : Int) < 0 := by omega
      have hwl := True.intro
      simp only [szL_cons, hc, if_false]
      simp [f130l1, hi', hx, he x (List.mem_of_getElem? hx) l.1 l.2.1 l.2.2, callIn_pure, hq, hn, hwl]
theorem sz130_ev (h : H130 Γ) (xs : List Seq) (hl : xs.length ≤ 9223372036854775807) (F : Seq → Nat) (he : ∀ x ∈ xs, ∀ l : Int, 0 ≤ l → l ≤ 1048576 → EvF Γ 157 [Seq.d x, .int .i64 l] [] = some (.int .i64 (szR l (F x)), [])) (l : Int) (h0 : 0 ≤ l) (h1 : l ≤ 1048576) :
    EvF Γ 130 [.list (xs.map Seq.d), .int .i64 l] [] = some (.int .i64 (szR l (xs.length + szL F xs)), []) := by
  rw [EvF_run h.e130 rfl]
  have hwl : IntKind.wrap .i64 (l - (xs.length : Int)) = l - xs.length := wrap64 (by omega) (by omega)
  by_cases hb : (xs.length : Int) ≤ l
  · have hL := fun ρ hρ => L130 (Γ := Γ) xs hl F he (l - xs.length) (by omega) (by omega) (ρ := ρ) hρ
    have hn : ¬ (l - (xs.length : Int) < 0) := by omega
    have hz : szR l (xs.length + szL F xs) = szR (l - xs.length) (szL F xs) := by simp only [szR]; split <;> split <;> omega
    rw [hz]
    by_cases hc : (szL F xs : Int) ≤ l - xs.length
    · simp only [hc, if_true] at hL
      simp [f130, hwl, hn, hL]
    · simp only [hc, if_false] at hL
      have hq : szR (l - xs.length) (szL F xs) = -1 := by simp only [szR, if_neg hc]
      simp [f130, hwl, hn, hL, hq]
  · have hn : l - (xs.length : Int) < 0 := by omega
    have hq : szR l (xs.length + szL F xs) = -1 := by
      simp only [szR]
      rw [if_neg (by omega)]
    simp [f130, hwl, hn, hq]

theorem L54 (xs : List Rule) (hl : xs.length ≤ 9223372036854775807) (he : ∀ x ∈ xs, EvF Γ 92 [Rule.d x] [] = some (Rule.d x, [])) {ρ : Env}
    (hρ : keepOnly [0, 3, 4] ρ = [(0, .list (xs.map Rule.d)), (3, .sl 0 xs.length), (4, .int .i64 0)]) :
    inBlk 0 [3] (EvC Γ f54L1 ρ [.arr 6 (fill Rule.d (.agg [.str [], .int .i64 0, .nils, .nils, .str [], .nils]) xs 0)]) = some (.norm, [(3, .sl 0 xs.length)], [.arr 6 (xs.map Rule.d)]) := by
  refine loop_list (L := f54L1) rfl (inBlk 0 [3]) xs (fun i (_ : Unit) => [(0, .list (xs.map Rule.d)), (3, .sl 0 xs.length), (4, .int .i64 i)]) (fun i _ => [.arr 6 (fill Rule.d (.agg [.str [], .int .i64 0, .nils, .nils, .str [], .nils]) xs i)]) (fun _ _ _ => some (.norm, [(3, .sl 0 xs.length)], [.arr 6 (xs.map Rule.d)])) ?_ ?_ () ρ hρ
  · intro s; simp [f54l1, fill_full]
  · intro i x r _ hx hi hr ih
    have hw := wrap64_succ hi hl
    have hi' : (i : Int) < xs.length := by omega
    have ih := ih ()
    have hg := fill_get (g := Rule.d) (z := (.agg [.str [], .int .i64 0, .nils, .nils, .str [], .nils])) hi
    have hn := fill_len (g := Rule.d) (z := (.agg [.str [], .int .i64 0, .nils, .nils, .str [], .nils])) (Nat.le_of_lt hi)
    have hf := fill_set (g := Rule.d) (z := (.agg [.str [], .int .i64 0, .nils, .nils, .str [], .nils])) hi hx
    simp [f54l1, hi', hw, hx, he x (List.mem_of_getElem? hx), callIn_pure, hn, hg, hf, ih]
theorem to54_ev (h : H54 Γ) (xs : List Rule) (hl : xs.length ≤ 1048576) (he : ∀ x ∈ xs, EvF Γ 92 [Rule.d x] [] = some (Rule.d x, [])) : EvF Γ 54 [.list (xs.map Rule.d)] [] = some (.list (xs.map Rule.d), []) := by
  rw [EvF_run h.e54 rfl]
  have hm : (xs.length : Int) ≤ 70368744177664 := by omega
  have hm2 : (112 : Int) * xs.length ≤ 70368744177664 := by omega
  simp [f54, room, hm, hm2, fill_zero (g := Rule.d), L54 xs (by omega) he]

theorem L68 (xs ys : List Rule) (hl : xs.length ≤ 9223372036854775807) (hxy : xs.length = ys.length) (he : ∀ x ∈ xs, ∀ y ∈ ys, EvF Γ 106 [Rule.d x, Rule.d y] [] = some (.bool (decide (x = y)), [])) {ρ : Env}
    (hρ : keepOnly [0, 1, 5] ρ = [(0, .list (xs.map Rule.d)), (1, .list (ys.map Rule.d)), (5, .int .i64 0)]) :
    inBlk 0 [] (EvC Γ f68L1 ρ []) = if ((xs.zip ys).all fun q => decide (q.1 = q.2)) = true then some (.norm, [], []) else some (.ret, [(4, .bool false)], []) := by
  have hzl : (xs.zip ys).length = xs.length := by simp [hxy]
  have key := loop_list (Γ := Γ) (L := f68L1) rfl (inBlk 0 []) (xs.zip ys) (fun i (_ : Unit) => [(0, .list (xs.map Rule.d)), (1, .list (ys.map Rule.d)), (5, .int .i64 i)]) (fun _ _ => ([] : Store))
    (fun _ r _ => if (r.all fun q => decide (q.1 = q.2)) = true then some (.norm, [], []) else some (.ret, [(4, .bool false)], [])) ?_ ?_ () ρ hρ
  · exact key
  · intro _; simp [f68l1, hxy]
  · intro i q r _ hx hi hr ih
    have hix : i < xs.length := by omega
    have hw := wrap64_succ hix hl
    have hi' : (i : Int) < xs.length := by omega
    have hx1 : xs[i]? = some q.1 := by
      have := congrArg (Option.map Prod.fst) hx
      rw [← List.getElem?_map, List.map_fst_zip (by omega)] at this
      simpa using this
    have hy1 : ys[i]? = some q.2 := by
      have := congrArg (Option.map Prod.snd) hx
      rw [← List.getElem?_map, List.map_snd_zip (by omega)] at this
      simpa using this
    obtain ⟨a, b⟩ := q
    simp only [] at hx1 hy1
    have h1 := he _ (List.mem_of_getElem? hx1) _ (List.mem_of_getElem? hy1)
    by_cases hb : a = b
    · have ih := ih ()
      subst hb
      simp only [List.all_cons, decide_true, Bool.true_and]
      simp [f68l1, hi', hw, hx1, hy1, h1, callIn_pure, ih]
    · simp only [List.all_cons, hb, decide_false, Bool.false_and]
      simp [f68l1, hi', hx1, hy1, h1, callIn_pure, hb]
theorem eqs68_ev (h : H68 Γ) (xs ys : List Rule) (hl : xs.length ≤ 9223372036854775807) (he : ∀ x ∈ xs, ∀ y ∈ ys, EvF Γ 106 [Rule.d x, Rule.d y] [] = some (.bool (decide (x = y)), [])) : EvF Γ 68 [.list (xs.map Rule.d), .list (ys.map Rule.d)] [] = some (.bool (decide (xs = ys)), []) := by
  rw [EvF_run h.e68 rfl, ← all_eq]
  by_cases hxy : xs.length = ys.length
  · by_cases ha : ((xs.zip ys).all fun q => decide (q.1 = q.2)) = true
    · have hL := fun ρ hρ => L68 (Γ := Γ) xs ys hl hxy he (ρ := ρ) hρ
      simp only [ha, if_true] at hL
      rw [ha]
      simp [f68, hxy, hL]
    · have hL := fun ρ hρ => L68 (Γ := Γ) xs ys hl hxy he (ρ := ρ) hρ
      simp only [ha, if_false] at hL
      rw [Bool.not_eq_true] at ha
      rw [ha]
      simp [f68, hxy, hL]
  · have : ¬ (xs.length : Int) = ys.length := by omega
    simp [f68, hxy, this]

theorem L47 (xs : List Rule) (hl : xs.length ≤ 9223372036854775807) (F : Rule → Nat) (he : ∀ x ∈ xs, ∀ l : Int, 0 ≤ l → l ≤ 1048576 → EvF Γ 85 [Rule.d x, .int .i64 l] [] = some (.int .i64 (szR l (F x)), [])) (l : Int) (h0 : 0 ≤ l) (h1 : l ≤ 1048576) {ρ : Env}
    (hρ : keepOnly [0, 1, 5] ρ = [(0, .list (xs.map Rule.d)), (1, .int .i64 l), (5, .int .i64 0)]) :
    inBlk 0 [1] (EvC Γ f47L1 ρ []) = if (szL F xs : Int) ≤ l then some (.norm, [(1, .int .i64 (szR l (szL F xs)))], []) else some (.ret, [(4, .int .i64 (-1))], []) := by
  refine loop_list (L := f47L1) rfl (inBlk 0 [1]) xs (fun i (l : {l : Int // 0 ≤ l ∧ l ≤ 1048576}) => [(0, .list (xs.map Rule.d)), (1, .int .i64 l.1), (5, .int .i64 i)]) (fun _ _ => ([] : Store))
    (fun _ r l => if (szL F r : Int) ≤ l.1 then some (.norm, [(1, .int .i64 (szR l.1 (szL F r)))], []) else some (.ret, [(4, .int .i64 (-1))], [])) ?_ ?_ ⟨l, h0, h1⟩ ρ hρ
  · intro l
    have := l.2.1
    simp [f47l1, this, szR]
  · intro i x r l hx hi hr ih
    have hw := wrap64_succ hi hl
    have hi' : (i : Int) < xs.length := by omega
    have l0 := l.2.1
    have l1 := l.2.2
    by_cases hb : ((F x : Nat) : Int) ≤ l.1
    · have ih := ih ⟨l.1 - F x, by omega, by omega⟩
      have hq : szR l.1 (F x) = l.1 - F x := by simp only [szR, if_pos hb]
      have hn : ¬ (l.1 - ((F x : Nat) : Int) < 0) := by omega
      have hz : szR l.1 (F x + szL F r) = szR (l.1 - F x) (szL F r) := by simp only [szR]; split <;> split <;> omega
      have hc : (F x + szL F r : Nat) ≤ l.1 ↔ (szL F r : Int) ≤ l.1 - F x := by omega
      have hwl := True.intro
      simp only [szL_cons, hc, hz]
      simp [f47l1, hi', hw, hx, he x (List.mem_of_getElem? hx) l.1 l.2.1 l.2.2, callIn_pure, hq, hn, ih, hwl]
    · have hq : szR l.1 (F x) = -1 := by simp only [szR, if_neg hb]
      have hc : ¬ ((F x + szL F r : Nat) : Int) ≤ l.1 := by omega
      have hn : l.1 - ((F x : Nat) : Int) < 0 := by omega
      have hwl := True.intro
      simp only [szL_cons, hc, if_false]
      simp [f47l1, hi', hx, he x (List.mem_of_getElem? hx) l.1 l.2.1 l.2.2, callIn_pure, hq, hn, hwl]
theorem sz47_ev (h : H47 Γ) (xs : List Rule) (hl : xs.length ≤ 9223372036854775807) (F : Rule → Nat) (he : ∀ x ∈ xs, ∀ l : Int, 0 ≤ l → l ≤ 1048576 → EvF Γ 85 [Rule.d x, .int .i64 l] [] = some (.int .i64 (szR l (F x)), [])) (l : Int) (h0 : 0 ≤ l) (h1 : l ≤ 1048576) :
    EvF Γ 47 [.list (xs.map Rule.d), .int .i64 l] [] = some (.int .i64 (szR l (xs.length + szL F xs)), []) := by
  rw [EvF_run h.e47 rfl]
  have hwl : IntKind.wrap .i64 (l - (xs.length : Int)) = l - xs.length := wrap64 (by omega) (by omega)
  by_cases hb : (xs.length : Int) ≤ l
  · have hL := fun ρ hρ => L47 (Γ := Γ) xs hl F he (l - xs.length) (by omega) (by omega) (ρ := ρ) hρ
    have hn : ¬ (l - (xs.length : Int) < 0) := by omega
    have hz : szR l (xs.length + szL F xs) = szR (l - xs.length) (szL F xs) := by simp only [szR]; split <;> split <;> omega
    rw [hz]
    by_cases hc : (szL F xs : Int) ≤ l - xs.length
    · simp only [hc, if_true] at hL
      simp [f47, hwl, hn, hL]
    · simp only [hc, if_false] at hL
      have hq : szR (l - xs.length) (szL F xs) = -1 := by simp only [szR, if_neg hc]
      simp [f47, hwl, hn, hL, hq]
  · have hn : l - (xs.length : Int) < 0 := by omega
    have hq : szR l (xs.length + szL F xs) = -1 := by
      simp only [szR]
      rw [if_neg (by omega)]
    simp [f47, hwl, hn, hq]

theorem L140 (xs : List Table) (hl : xs.length ≤ 9223372036854775807) (he : ∀ x ∈ xs, EvF Γ 166 [Table.d x] [] = some (Table.d x, [])) {ρ : Env}
    (hρ : keepOnly [0, 3, 4] ρ = [(0, .list (xs.map Table.d)), (3, .sl 0 xs.length), (4, .int .i64 0)]) :
    inBlk 0 [3] (EvC Γ f140L1 ρ [.arr 4 (fill Table.d (.agg [.str [], .nils, .nils, .int .i64 0]) xs 0)]) = some (.norm, [(3, .sl 0 xs.length)], [.arr 4 (xs.map Table.d)]) := by
  refine loop_list (L := f140L1) rfl (inBlk 0 [3]) xs (fun i (_ : Unit) => [(0, .list (xs.map Table.d)), (3, .sl 0 xs.length), (4, .int .i64 i)]) (fun i _ => [.arr 4 (fill Table.d (.agg [.str [], .nils, .nils, .int .i64 0]) xs i)]) (fun _ _ _ => some (.norm, [(3, .sl 0 xs.length)], [.arr 4 (xs.map Table.d)])) ?_ ?_ () ρ hρ
  · intro s; simp [f140l1, fill_full]
  · intro i x r _ hx hi hr ih
    have hw := wrap64_succ hi hl
    have hi' : (i : Int) < xs.length := by omega
    have ih := ih ()
    have hg := fill_get (g := Table.d) (z := (.agg [.str [], .nils, .nils, .int .i64 0])) hi
    have hn := fill_len (g := Table.d) (z := (.agg [.str [], .nils, .nils, .int .i64 0])) (Nat.le_of_lt hi)
    have hf := fill_set (g := Table.d) (z := (.agg [.str [], .nils, .nils, .int .i64 0])) hi hx
    simp [f140l1, hi', hw, hx, he x (List.mem_of_getElem? hx), callIn_pure, hn, hg, hf, ih]
theorem to140_ev (h : H140 Γ) (xs : List Table) (hl : xs.length ≤ 1048576) (he : ∀ x ∈ xs, EvF Γ 166 [Table.d x] [] = some (Table.d x, [])) : EvF Γ 140 [.list (xs.map Table.d)] [] = some (.list (xs.map Table.d), []) := by
  rw [EvF_run h.e140 rfl]
  have hm : (xs.length : Int) ≤ 70368744177664 := by omega
  have hm2 : (72 : Int) * xs.length ≤ 70368744177664 := by omega
  simp [f140, room, hm, hm2, fill_zero (g := Table.d), L140 xs (by omega) he]

theorem L154 (xs ys : List Table) (hl : xs.length ≤ 9223372036854775807) (hxy : xs.length = ys.length) (he : ∀ x ∈ xs, ∀ y ∈ ys, EvF Γ 177 [Table.d x, Table.d y] [] = some (.bool (decide (x = y)), [])) {ρ : Env}
    (hρ : keepOnly [0, 1, 5] ρ = [(0, .list (xs.map Table.d)), (1, .list (ys.map Table.d)), (5, .int .i64 0)]) :
    inBlk 0 [] (EvC Γ f154L1 ρ []) = if ((xs.zip ys).all fun q => decide (q.1 = q.2)) = true then some (.norm, [], []) else some (.ret, [(4, .bool false)], []) := by
  have hzl : (xs.zip ys).length = xs.length := by simp [hxy]
  have key := loop_list (Γ := Γ) (L := f154L1) rfl (inBlk 0 []) (xs.zip ys) (fun i (_ : Unit) => [(0, .list (xs.map Table.d)), (1, .list (ys.map Table.d)), (5, .int .i64 i)]) (fun _ _ => ([] : Store))
    (fun _ r _ => if (r.all fun q => decide (q.1 = q.2)) = true then some (.norm, [], []) else some (.ret, [(4, .bool false)], [])) ?_ ?_ () ρ hρ
  · exact key
  · intro _; simp [f154l1, hxy]
  · intro i q r _ hx hi hr ih
    have hix : i < xs.length := by omega
    have hw := wrap64_succ hix hl
    have hi' : (i : Int) < xs.length := by omega
    have hx1 : xs[i]? = some q.1 := by
      have := congrArg (Option.map Prod.fst) hx
      rw [← List.getElem?_map, List.map_fst_zip (by omega)] at this
      simpa using this
    have hy1 : ys[i]? = some q.2 := by
      have := congrArg (Option.map Prod.snd) hx
      rw [← List.getElem?_map, List.map_snd_zip (by omega)] at this
      simpa using this
    obtain ⟨a, b⟩ := q
    simp only [] at hx1 hy1
    have h1 := he _ (List.mem_of_getElem? hx1) _ (List.mem_of_getElem? hy1)
    by_cases hb : a = b
    · have ih := ih ()
      subst hb
      simp only [List.all_cons, decide_true, Bool.true_and]
      simp [f154l1, hi', hw, hx1, hy1, h1, callIn_pure, ih]
    · simp only [List.all_cons, hb, decide_false, Bool.false_and]
      simp [f154l1, hi', hx1, hy1, h1, callIn_pure, hb]
theorem eqs154_ev (h : H154 Γ) (xs ys : List Table) (hl : xs.length ≤ 9223372036854775807) (he : ∀ x ∈ xs, ∀ y ∈ ys, EvF Γ 177 [Table.d x, Table.d y] [] = some (.bool (decide (x = y)), [])) : EvF Γ 154 [.list (xs.map Table.d), .list (ys.map Table.d)] [] = some (.bool (decide (xs = ys)), []) := by
  rw [EvF_run h.e154 rfl, ← all_eq]
  by_cases hxy : xs.length = ys.length
  · by_cases ha : ((xs.zip ys).all fun q => decide (q.1 = q.2)) = true
    · have hL := fun ρ hρ => L154 (Γ := Γ) xs ys hl hxy he (ρ := ρ) hρ
      simp only [ha, if_true] at hL
      rw [ha]
      simp [f154, hxy, hL]
    · have hL := fun ρ hρ => L154 (Γ := Γ) xs ys hl hxy he (ρ := ρ) hρ
      simp only [ha, if_false] at hL
      rw [Bool.not_eq_true] at ha
      rw [ha]
      simp [f154, hxy, hL]
  · have : ¬ (xs.length : Int) = ys.length := by omega
    simp [f154, hxy, this]

theorem L131 (xs : List Table) (hl : xs.length ≤ 9223372036854775807) (F : Table → Nat) (he : ∀ x ∈ xs, ∀ l : Int, 0 ≤ l → l ≤ 1048576 → EvF Γ 158 [Table.d x, .int .i64 l] [] = some (.int .i64 (szR l (F x)), [])) (l : Int) (h0 : 0 ≤ l) (h1 : l ≤ 1048576) {ρ : Env}
    (hρ : keepOnly [0, 1, 5] ρ = [(0, .list (xs.map Table.d)), (1, .int .i64 l), (5, .int .i64 0)]) :
    inBlk 0 [1] (EvC Γ f131L1 ρ []) = if (szL F xs : Int) ≤ l then some (.norm, [(1, .int .i64 (szR l (szL F xs)))], []) else some (.ret, [(4, .int .i64 (-1))], []) := by
  refine loop_list (L := f131L1) rfl (inBlk 0 [1]) xs (fun i (l : {l : Int // 0 ≤ l ∧ l ≤ 1048576}) => [(0, .list (xs.map Table.d)), (1, .int .i64 l.1), (5, .int .i64 i)]) (fun _ _ => ([] : Store))
    (fun _ r l => if (szL F r : Int) ≤ l.1 then some (.norm, [(1, .int .i64 (szR l.1 (szL F r)))], []) else some (.ret, [(4, .int .i64 (-1))], [])) ?_ ?_ ⟨l, h0, h1⟩ ρ hρ
  · intro l
    have := l.2.1
    simp [f131l1, this, szR]
  · intro i x r l hx hi hr ih
    have hw := wrap64_succ hi hl
    have hi' : (i : Int) < xs.length := by omega
    have l0 := l.2.1
    have l1 := l.2.2
    by_cases hb : ((F x : Nat) : Int) ≤ l.1
    · have ih := ih ⟨l.1 - F x, by omega, by omega⟩
      have hq : szR l.1 (F x) = l.1 - F x := by simp only [szR, if_pos hb]
      have hn : ¬ (l.1 - ((F x : Nat) : Int) < 0) := by omega
      have hz : szR l.1 (F x + szL F r) = szR (l.1 - F x) (szL F r) := by simp only [szR]; split <;> split <;> omega
      have hc : (F x + szL F r : Nat) ≤ l.1 ↔ (szL F r : Int) ≤ l.1 - F x := by omega
      have hwl := True.intro
      simp only [szL_cons, hc, hz]
      simp [f131l1, hi', hw, hx, he x (List.mem_of_getElem? hx) l.1 l.2.1 l.2.2, callIn_pure, hq, hn, ih, hwl]
    · have hq : szR l.1 (F x) = -1 := by simp only [szR, if_neg hb]
      have hc : ¬ ((F x + szL F r : Nat) : Int) ≤ l.1 := by omega
      have hn : l.1 - ((F x : Nat) : Int) < 0 := by omega
      have hwl := True.intro
      simp only [szL_cons, hc, if_false]
      simp [f131l1, hi', hx, he x (List.mem_of_getElem? hx) l.1 l.2.1 l.2.2, callIn_pure, hq, hn, hwl]
theorem sz131_ev (h : H131 Γ) (xs : List Table) (hl : xs.length ≤ 9223372036854775807) (F : Table → Nat) (he : ∀ x ∈ xs, ∀ l : Int, 0 ≤ l → l ≤ 1048576 → EvF Γ 158 [Table.d x, .int .i64 l] [] = some (.int .i64 (szR l (F x)), [])) (l : Int) (h0 : 0 ≤ l) (h1 : l ≤ 1048576) :
    EvF Γ 131 [.list (xs.map Table.d), .int .i64 l] [] = some (.int .i64 (szR l (xs.length + szL F xs)), []) := by
  rw [EvF_run h.e131 rfl]
  have hwl : IntKind.wrap .i64 (l - (xs.length : Int)) = l - xs.length := wrap64 (by omega) (by omega)
  by_cases hb : (xs.length : Int) ≤ l
  · have hL := fun ρ hρ => L131 (Γ := Γ) xs hl F he (l - xs.length) (by omega) (by omega) (ρ := ρ) hρ
    have hn : ¬ (l - (xs.length : Int) < 0) := by omega
    have hz : szR l (xs.length + szL F xs) = szR (l - xs.length) (szL F xs) := by simp only [szR]; split <;> split <;> omega
    rw [hz]
    by_cases hc : (szL F xs : Int) ≤ l - xs.length
    · simp only [hc, if_true] at hL
      simp [f131, hwl, hn, hL]
    · simp only [hc, if_false] at hL
      have hq : szR (l - xs.length) (szL F xs) = -1 := by simp only [szR, if_neg hc]
      simp [f131, hwl, hn, hL, hq]
  · have hn : l - (xs.length : Int) < 0 := by omega
    have hq : szR l (xs.length + szL F xs) = -1 := by
      simp only [szR]
      rw [if_neg (by omega)]
    simp [f131, hwl, hn, hq]

theorem L137 (xs : List Index) (hl : xs.length ≤ 9223372036854775807) (he : ∀ x ∈ xs, EvF Γ 167 [Index.d x] [] = some (Index.d x, [])) {ρ : Env}
    (hρ : keepOnly [0, 3, 4] ρ = [(0, .list (xs.map Index.d)), (3, .sl 0 xs.length), (4, .int .i64 0)]) :
    inBlk 0 [3] (EvC Γ f137L1 ρ [.arr 4 (fill Index.d (.agg [.str [], .str [], .nils, .bool false]) xs 0)]) = some (.norm, [(3, .sl 0 xs.length)], [.arr 4 (xs.map Index.d)]) := by
  refine loop_list (L := f137L1) rfl (inBlk 0 [3]) xs (fun i (_ : Unit) => [(0, .list (xs.map Index.d)), (3, .sl 0 xs.length), (4, .int .i64 i)]) (fun i _ => [.arr 4 (fill Index.d (.agg [.str [], .str [], .nils, .bool false]) xs i)]) (fun _ _ _ => some (.norm, [(3, .sl 0 xs.length)], [.arr 4 (xs.map Index.d)])) ?_ ?_ () ρ hρ
  · intro s; simp [f137l1, fill_full]
  · intro i x r _ hx hi hr ih
    have hw := wrap64_succ hi hl
    have hi' : (i : Int) < xs.length := by omega
    have ih := ih ()
    have hg := fill_get (g := Index.d) (z := (.agg [.str [], .str [], .nils, .bool false])) hi
    have hn := fill_len (g := Index.d) (z := (.agg [.str [], .str [], .nils, .bool false])) (Nat.le_of_lt hi)
    have hf := fill_set (g := Index.d) (z := (.agg [.str [], .str [], .nils, .bool false])) hi hx
    simp [f137l1, hi', hw, hx, he x (List.mem_of_getElem? hx), callIn_pure, hn, hg, hf, ih]
theorem to137_ev (h : H137 Γ) (xs : List Index) (hl : xs.length ≤ 1048576) (he : ∀ x ∈ xs, EvF Γ 167 [Index.d x] [] = some (Index.d x, [])) : EvF Γ 137 [.list (xs.map Index.d)] [] = some (.list (xs.map Index.d), []) := by
  rw [EvF_run h.e137 rfl]
  have hm : (xs.length : Int) ≤ 70368744177664 := by omega
  have hm2 : (64 : Int) * xs.length ≤ 70368744177664 := by omega
  simp [f137, room, hm, hm2, fill_zero (g := Index.d), L137 xs (by omega) he]

theorem L151 (xs ys : List Index) (hl : xs.length ≤ 9223372036854775807) (hxy : xs.length = ys.length) (he : ∀ x ∈ xs, ∀ y ∈ ys, EvF Γ 178 [Index.d x, Index.d y] [] = some (.bool (decide (x = y)), [])) {ρ : Env}
    (hρ : keepOnly [0, 1, 5] ρ = [(0, .list (xs.map Index.d)), (1, .list (ys.map Index.d)), (5, .int .i64 0)]) :
    inBlk 0 [] (EvC Γ f151L1 ρ []) = if ((xs.zip ys).all fun q => decide (q.1 = q.2)) = true then some (.norm, [], []) else some (.ret, [(4, .bool false)], []) := by
  have hzl : (xs.zip ys).length = xs.length := by simp [hxy]
  have key := loop_list (Γ := Γ) (L := f151L1) rfl (inBlk 0 []) (xs.zip ys) (fun i (_ : Unit) => [(0, .list (xs.map Index.d)), (1, .list (ys.map Index.d)), (5, .int .i64 i)]) (fun _ _ => ([] : Store))
    (fun _ r _ => if (r.all fun q => decide (q.1 = q.2)) = true then some (.norm, [], []) else some (.ret, [(4, .bool false)], [])) ?_ ?_ () ρ hρ
  · exact key
  · intro _; simp [f151l1, hxy]
  · intro i q r _ hx hi hr ih
    have hix : i < xs.length := by omega
    have hw := wrap64_succ hix hl
    have hi' : (i : Int) < xs.length := by omega
    have hx1 : xs[i]? = some q.1 := by
      have := congrArg (Option.map Prod.fst) hx
      rw [← List.getElem?_map, List.map_fst_zip (by omega)] at this
      simpa using this
    have hy1 : ys[i]? = some q.2 := by
      have := congrArg (Option.map Prod.snd) hx
      rw [← List.getElem?_map, List.map_snd_zip (by omega)] at this
      simpa using this
    obtain ⟨a, b⟩ := q
    simp only [] at hx1 hy1
    have h1 := he _ (List.mem_of_getElem? hx1) _ (List.mem_of_getElem? hy1)
    by_cases hb : a = b
    · have ih := ih ()
      subst hb
      simp only [List.all_cons, decide_true, Bool.true_and]
      simp [f151l1, hi', hw, hx1, hy1, h1, callIn_pure, ih]
    · simp only [List.all_cons, hb, decide_false, Bool.false_and]
      simp [f151l1, hi', hx1, hy1, h1, callIn_pure, hb]
theorem eqs151_ev (h : H151 Γ) (xs ys : List Index) (hl : xs.length ≤ 9223372036854775807) (he : ∀ x ∈ xs, ∀ y ∈ ys, EvF Γ 178 [Index.d x, Index.d y] [] = some (.bool (decide (x = y)), [])) : EvF Γ 151 [.list (xs.map Index.d), .list (ys.map Index.d)] [] = some (.bool (decide (xs = ys)), []) := by
  rw [EvF_run h.e151 rfl, ← all_eq]
  by_cases hxy : xs.length = ys.length
  · by_cases ha : ((xs.zip ys).all fun q => decide (q.1 = q.2)) = true
    · have hL := fun ρ hρ => L151 (Γ := Γ) xs ys hl hxy he (ρ := ρ) hρ
      simp only [ha, if_true] at hL
      rw [ha]
      simp [f151, hxy, hL]
    · have hL := fun ρ hρ => L151 (Γ := Γ) xs ys hl hxy he (ρ := ρ) hρ
      simp only [ha, if_false] at hL
      rw [Bool.not_eq_true] at ha
      rw [ha]
      simp [f151, hxy, hL]
  · have : ¬ (xs.length : Int) = ys.length := by omega
    simp [f151, hxy, this]

theorem L128 (xs : List Index) (hl : xs.length ≤ 9223372036854775807) (F : Index → Nat) (he : ∀ x ∈ xs, ∀ l : Int, 0 ≤ l → l ≤ 1048576 → EvF Γ 159 [Index.d x, .int .i64 l] [] = some (.int .i64 (szR l (F x)), [])) (l : Int) (h0 : 0 ≤ l) (h1 : l ≤ 1048576) {ρ : Env}
    (hρ : keepOnly [0, 1, 5] ρ = [(0, .list (xs.map Index.d)), (1, .int .i64 l), (5, .int .i64 0)]) :
    inBlk 0 [1] (EvC Γ f128L1 ρ []) = if (szL F xs : Int) ≤ l then some (.norm, [(1, .int .i64 (szR l (szL F xs)))], []) else some (.ret, [(4, .int .i64 (-1))], []) := by
  refine loop_list (L := f128L1) rfl (inBlk 0 [1]) xs (fun i (l : {l : Int // 0 ≤ l ∧ l ≤ 1048576}) => [(0, .list (xs.map Index.d)), (1, .int .i64 l.1), (5, .int .i64 i)]) (fun _ _ => ([] : Store))
    (fun _ r l => if (szL F r : Int) ≤ l.1 then some (.norm, [(1, .int .i64 (szR l.1 (szL F r)))], []) else some (.ret, [(4, .int .i64 (-1))], [])) ?_ ?_ ⟨l, h0, h1⟩ ρ hρ
  · intro l
    have := l.2.1
    simp [f128l1, this, szR]
  · intro i x r l hx hi hr ih
    have hw := wrap64_succ hi hl
    have hi' : (i : Int) < xs.length := by omega
    have l0 := l.2.1
    have l1 := l.2.2
    by_cases hb : ((F x : Nat) : Int) ≤ l.1
    · have ih := ih ⟨l.1 - F x, by omega, by omega⟩
      have hq : szR l.1 (F x) = l.1 - F x := by simp only [szR, if_pos hb]
      have hn : ¬ (l.1 - ((F x : Nat) : Int) < 0) := by omega
      have hz : szR l.1 (F x + szL F r) = szR (l.1 - F x) (szL F r) := by simp only [szR]; split <;> split <;> omega
      have hc : (F x + szL F r : Nat) ≤ l.1 ↔ (szL F r : Int) ≤ l.1 - F x := by omega
      have hwl := True.intro
      simp only [szL_cons, hc, hz]
      simp [f128l1, hi', hw, hx, he x (List.mem_of_getElem? hx) l.1 l.2.1 l.2.2, callIn_pure, hq, hn, ih, hwl]
    · have hq : szR l.1 (F x) = -1 := by simp only [szR, if_neg hb]
      have hc : ¬ ((F x + szL F r : Nat) : Int) ≤ l.1 := by omega
      have hn : l.1 - ((F x : Nat) : Int) < 0 := by omega
      have hwl := True.intro
      simp only [szL_cons, hc, if_false]
      simp [f128l1, hi', hx, he x (List.mem_of_getElem? hx) l.1 l.2.1 l.2.2, callIn_pure, hq, hn, hwl]
theorem sz128_ev (h : H128 Γ) (xs : List Index) (hl : xs.length ≤ 9223372036854775807) (F : Index → Nat) (he : ∀ x ∈ xs, ∀ l : Int, 0 ≤ l → l ≤ 1048576 → EvF Γ 159 [Index.d x, .int .i64 l] [] = some (.int .i64 (szR l (F x)), [])) (l : Int) (h0 : 0 ≤ l) (h1 : l ≤ 1048576) :
    EvF Γ 128 [.list (xs.map Index.d), .int .i64 l] [] = some (.int .i64 (szR l (xs.length + szL F xs)), []) := by
  rw [EvF_run h.e128 rfl]
  have hwl : IntKind.wrap .i64 (l - (xs.length : Int)) = l - xs.length := wrap64 (by omega) (by omega)
  by_cases hb : (xs.length : Int) ≤ l
  · have hL := fun ρ hρ => L128 (Γ := Γ) xs hl F he (l - xs.length) (by omega) (by omega) (ρ := ρ) hρ
    have hn : ¬ (l - (xs.length : Int) < 0) := by omega
    have hz : szR l (xs.length + szL F xs) = szR (l - xs.length) (szL F xs) := by simp only [szR]; split <;> split <;> omega
    rw [hz]
    by_cases hc : (szL F xs : Int) ≤ l - xs.length
    · simp only [hc, if_true] at hL
      simp [f128, hwl, hn, hL]
    · simp only [hc, if_false] at hL
      have hq : szR (l - xs.length) (szL F xs) = -1 := by simp only [szR, if_neg hc]
      simp [f128, hwl, hn, hL, hq]
  · have hn : l - (xs.length : Int) < 0 := by omega
    have hq : szR l (xs.length + szL F xs) = -1 := by
      simp only [szR]
      rw [if_neg (by omega)]
    simp [f128, hwl, hn, hq]

theorem L141 (xs : List View) (hl : xs.length ≤ 9223372036854775807) (he : ∀ x ∈ xs, EvF Γ 168 [View.d x] [] = some (View.d x, [])) {ρ : Env}
    (hρ : keepOnly [0, 3, 4] ρ = [(0, .list (xs.map View.d)), (3, .sl 0 xs.length), (4, .int .i64 0)]) :
    inBlk 0 [3] (EvC Γ f141L1 ρ [.arr 4 (fill View.d (.agg [.str [], .str [], .nils, .nils]) xs 0)]) = some (.norm, [(3, .sl 0 xs.length)], [.arr 4 (xs.map View.d)]) := by
  refine loop_list (L := f141L1) rfl (inBlk 0 [3]) xs (fun i (_ : Unit) => [(0, .list (xs.map View.d)), (3, .sl 0 xs.length), (4, .int .i64 i)]) (fun i _ => [.arr 4 (fill View.d (.agg [.str [], .str [], .nils, .nils]) xs i)]) (fun _ _ _ => some (.norm, [(3, .sl 0 xs.length)], [.arr 4 (xs.map View.d)])) ?_ ?_ () ρ hρ
  · intro s; simp [f141l1, fill_full]
  · intro i x r _ hx hi hr ih
    have hw := wrap64_succ hi hl
    have hi' : (i : Int) < xs.length := by omega
    have ih := ih ()
    have hg := fill_get (g := View.d) (z := (.agg [.str [], .str [], .nils, .nils])) hi
    have hn := fill_len (g := View.d) (z := (.agg [.str [], .str [], .nils, .nils])) (Nat.le_of_lt hi)
    have hf := fill_set (g := View.d) (z := (.agg [.str [], .str [], .nils, .nils])) hi hx
    simp [f141l1, hi', hw, hx, he x (List.mem_of_getElem? hx), callIn_pure, hn, hg, hf, ih]
theorem to141_ev (h : H141 Γ) (xs : List View) (hl : xs.length ≤ 1048576) (he : ∀ x ∈ xs, EvF Γ 168 [View.d x] [] = some (View.d x, [])) : EvF Γ 141 [.list (xs.map View.d)] [] = some (.list (xs.map View.d), []) := by
  rw [EvF_run h.e141 rfl]
  have hm : (xs.length : Int) ≤ 70368744177664 := by omega
  have hm2 : (80 : Int) * xs.length ≤ 70368744177664 := by omega
  simp [f141, room, hm, hm2, fill_zero (g := View.d), L141 xs (by omega) he]

theorem L155 (xs ys : List View) (hl : xs.length ≤ 9223372036854775807) (hxy : xs.length = ys.length) (he : ∀ x ∈ xs, ∀ y ∈ ys, EvF Γ 179 [View.d x, View.d y] [] = some (.bool (decide (x = y)), [])) {ρ : Env}
    (hρ : keepOnly [0, 1, 5] ρ = [(0, .list (xs.map View.d)), (1, .list (ys.map View.d)), (5, .int .i64 0)]) :
    inBlk 0 [] (EvC Γ f155L1 ρ []) = if ((xs.zip ys).all fun q => decide (q.1 = q.2)) = true then some (.norm, [], []) else some (.ret, [(4, .bool false)], []) := by
  have hzl : (xs.zip ys).length = xs.length := by simp [hxy]
  have key := loop_list (Γ := Γ) (L := f155L1) rfl (inBlk 0 []) (xs.zip ys) (fun i (_ : Unit) => [(0, .list (xs.map View.d)), (1, .list (ys.map View.d)), (5, .int .i64 i)]) (fun _ _ => ([] : Store))
    (fun _ r _ => if (r.all fun q => decide (q.1 = q.2)) = true then some (.norm, [], []) else some (.ret, [(4, .bool false)], [])) ?_ ?_ () ρ hρ
  · exact key
  · intro _; simp [f155l1, hxy]
  · intro i q r _ hx hi hr ih
    have hix : i < xs.length := by omega
    have hw := wrap64_succ hix hl
    have hi' : (i : Int) < xs.length := by omega
    have hx1 : xs[i]? = some q.1 := by
      have := congrArg (Option.map Prod.fst) hx
      rw [← List.getElem?_map, List.map_fst_zip (by omega)] at this
      simpa using this
    have hy1 : ys[i]? = some q.2 := by
      have := congrArg (Option.map Prod.snd) hx
      rw [← List.getElem?_map, List.map_snd_zip (by omega)] at this
      simpa using this
    obtain ⟨a, b⟩ := q
    simp only [] at hx1 hy1
    have h1 := he _ (List.mem_of_getElem? hx1) _ (List.mem_of_getElem? hy1)
    by_cases hb : a = b
    · have ih := ih ()
      subst hb
      simp only [List.all_cons, decide_true, Bool.true_and]
      simp [f155l1, hi', hw, hx1, hy1, h1, callIn_pure, ih]
    · simp only [List.all_cons, hb, decide_false, Bool.false_and]
      simp [f155l1, hi', hx1, hy1, h1, callIn_pure, hb]
theorem eqs155_ev (h : H155 Γ) (xs ys : List View) (hl : xs.length ≤ 9223372036854775807) (he : ∀ x ∈ xs, ∀ y ∈ ys, EvF Γ 179 [View.d x, View.d y] [] = some (.bool (decide (x = y)), [])) : EvF Γ 155 [.list (xs.map View.d), .list (ys.map View.d)] [] = some (.bool (decide (xs = ys)), []) := by
  rw [EvF_run h.e155 rfl, ← all_eq]
  by_cases hxy : xs.length = ys.length
  · by_cases ha : ((xs.zip ys).all fun q => decide (q.1 = q.2)) = true
    · have hL := fun ρ hρ => L155 (Γ := Γ) xs ys hl hxy he (ρ := ρ) hρ
      simp only [ha, if_true] at hL
      rw [ha]
      simp [f155, hxy, hL]
    · have hL := fun ρ hρ => L155 (Γ := Γ) xs ys hl hxy he (ρ := ρ) hρ
      simp only [ha, if_false] at hL
      rw [Bool.not_eq_true] at ha
      rw [ha]
      simp [f155, hxy, hL]
  · have : ¬ (xs.length : Int) = ys.length := by omega
    simp [f155, hxy, this]

theorem L132 (xs : List View) (hl : xs.length ≤ 9223372036854775807) (F : View → Nat) (he : ∀ x ∈ xs, ∀ l : Int, 0 ≤ l → l ≤ 1048576 → EvF Γ 160 [View.d x, .int .i64 l] [] = some (.int .i64 (szR l (F x)), [])) (l : Int) (h0 : 0 ≤ l) (h1 : l ≤ 1048576) {ρ : Env}
    (hρ : keepOnly [0, 1, 5] ρ = [(0, .list (xs.map View.d)), (1, .int .i64 l), (5, .int .i64 0)]) :
    inBlk 0 [1] (EvC Γ f132L1 ρ []) = if (szL F xs : Int) ≤ l then some (.norm, [(1, .int .i64 (szR l (szL F xs)))], []) else some (.ret, [(4, .int .i64 (-1))], []) := by
  refine loop_list (L := f132L1) rfl (inBlk 0 [1]) xs (fun i (l : {l : Int // 0 ≤ l ∧ l ≤ 1048576}) => [(0, .list (xs.map View.d)), (1, .int .i64 l.1), (5, .int .i64 i)]) (fun _ _ => ([] : Store))
    (fun _ r l => if (szL F r : Int) ≤ l.1 then some (.norm, [(1, .int .i64 (szR l.1 (szL F r)))], []) else some (.ret, [(4, .int .i64 (-1))], [])) ?_ ?_ ⟨l, h0, h1⟩ ρ hρ
  · intro l
    have := l.2.1
    simp [f132l1, this, szR]
  · intro i x r l hx hi hr ih
    have hw := wrap64_succ hi hl
    have hi' : (i : Int) < xs.length := by omega
    have l0 := l.2.1
    have l1 := l.2.2
    by_cases hb : ((F x : Nat) : Int) ≤ l.1
    · have ih := ih ⟨l.1 - F x, by omega, by omega⟩
      have hq : szR l.1 (F x) = l.1 - F x := by simp only [szR, if_pos hb]
      have hn : ¬ (l.1 - ((F x : Nat) : Int) < 0) := by omega
      have hz : szR l.1 (F x + szL F r) = szR (l.1 - F x) (szL F r) := by simp only [szR]; split <;> split <;> omega
      have hc : (F x + szL F r : Nat) ≤ l.1 ↔ (szL F r : Int) ≤ l.1 - F x := by omega
      have hwl := True.intro
      simp only [szL_cons, hc, hz]
      simp [f132l1, hi', hw, hx, he x (List.mem_of_getElem? hx) l.1 l.2.1 l.2.2, callIn_pure, hq, hn, ih, hwl]
    · have hq : szR l.1 (F x) = -1 := by simp only [szR, if_neg hb]
      have hc : ¬ ((F x + szL F r : Nat) : Int) ≤ l.1 := by omega
      have hn : l.1 - ((F x : Nat) : Int) < 0 := by omega
      have hwl := True.intro
      simp only [szL_cons, hc, if_false]
      simp [f132l1, hi', hx, he x (List.mem_of_getElem? hx) l.1 l.2.1 l.2.2, callIn_pure, hq, hn, hwl]
theorem sz132_ev (h : H132 Γ) (xs : List View) (hl : xs.length ≤ 9223372036854775807) (F : View → Nat) (he : ∀ x ∈ xs, ∀ l : Int, 0 ≤ l → l ≤ 1048576 → EvF Γ 160 [View.d x, .int .i64 l] [] = some (.int .i64 (szR l (F x)), [])) (l : Int) (h0 : 0 ≤ l) (h1 : l ≤ 1048576) :
    EvF Γ 132 [.list (xs.map View.d), .int .i64 l] [] = some (.int .i64 (szR l (xs.length + szL F xs)), []) := by
  rw [EvF_run h.e132 rfl]
  have hwl : IntKind.wrap .i64 (l - (xs.length : Int)) = l - xs.length := wrap64 (by omega) (by omega)
  by_cases hb : (xs.length : Int) ≤ l
  · have hL := fun ρ hρ => L132 (Γ := Γ) xs hl F he (l - xs.length) (by omega) (by omega) (ρ := ρ) hρ
    have hn : ¬ (l - (xs.length : Int) < 0) := by omega
    have hz : szR l (xs.length + szL F xs) = szR (l - xs.length) (szL F xs) := by simp only [szR]; split <;> split <;> omega
    rw [hz]
    by_cases hc : (szL F xs : Int) ≤ l - xs.length
    · simp only [hc, if_true] at hL
      simp [f132, hwl, hn, hL]
    · simp only [hc, if_false] at hL
      have hq : szR (l - xs.length) (szL F xs) = -1 := by simp only [szR, if_neg hc]
      simp [f132, hwl, hn, hL, hq]
  · have hn : l - (xs.length : Int) < 0 := by omega
    have hq : szR l (xs.length + szL F xs) = -1 := by
      simp only [szR]
      rw [if_neg (by omega)]
    simp [f132, hwl, hn, hq]
end Go.DM
