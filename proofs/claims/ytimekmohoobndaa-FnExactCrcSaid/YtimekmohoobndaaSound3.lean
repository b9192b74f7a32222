/- Regions, of which some come in any order. -/
import Derived.Test.YtimekmohoobndaaSound2
set_option linter.unnecessarySimpa false
set_option linter.unusedVariables false
set_option linter.unusedSimpArgs false
set_option linter.unusedSectionVars false
namespace Go.DM
open Go

/-! ### an instruction looks at no more than it reads -/

theorem Opd.ev_congr {x : Opd} {ρ ρ' : Env} (h : ∀ t ∈ x.ts, get ρ t = get ρ' t) : x.ev ρ = x.ev ρ' := by
  cases x with
  | t i => exact h i (by simp [Opd.ts])
  | c d => rfl

theorem opds_congr {xs : List Opd} {ρ ρ' : Env} (h : ∀ t ∈ xs.flatMap Opd.ts, get ρ t = get ρ' t) : xs.map (Opd.ev ρ) = xs.map (Opd.ev ρ') := by
  apply List.map_congr_left
  intro x hx
  exact Opd.ev_congr fun t ht => h t (List.mem_flatMap.2 ⟨x, hx, ht⟩)

theorem setParts_congr {ps : List (Nat × Nat × Opd)} {ρ ρ' : Env} (h : ∀ t ∈ ps.flatMap (fun p => p.2.2.ts), get ρ t = get ρ' t) (cs : List D) : setParts cs ρ ps = setParts cs ρ' ps := by
  induction ps generalizing cs with
  | nil => rfl
  | cons p ps ih =>
    obtain ⟨off, n, x⟩ := p
    have h1 : x.ev ρ = x.ev ρ' := Opd.ev_congr fun t ht => h t (by simp [ht])
    have h2 := ih (fun t ht => h t (by simp only [List.flatMap_cons, List.mem_append]; exact .inr ht))
    simp only [setParts, h1, h2]

theorem setElems_congr {e : Nat} {ps : List (Nat × Opd)} {ρ ρ' : Env} (h : ∀ t ∈ ps.flatMap (fun p => p.2.ts), get ρ t = get ρ' t) (xs : List D) : setElems e xs ρ ps = setElems e xs ρ' ps := by
  induction ps generalizing xs with
  | nil => rfl
  | cons p ps ih =>
    obtain ⟨i, x⟩ := p
    have h1 : x.ev ρ = x.ev ρ' := Opd.ev_congr fun t ht => h t (by simp [ht])
    have h2 := ih (fun t ht => h t (by simp only [List.flatMap_cons, List.mem_append]; exact .inr ht))
    simp only [setElems, h1, h2]

theorem DOp.ev_congr {o : DOp} {call : CallD} {σ : Store} {ρ ρ' : Env} (h : ∀ t ∈ o.ts, get ρ t = get ρ' t) : o.ev call ρ σ = o.ev call ρ' σ := by
  have one : ∀ x : Opd, (∀ t ∈ x.ts, t ∈ o.ts) → x.ev ρ = x.ev ρ' := fun x hx => Opd.ev_congr fun t ht => h t (hx t ht)
  cases o <;> simp only [DOp.ev]
  case mv x => rw [one x (by simp [DOp.ts])]
  case pick c a b => rw [one c (by simp +contextual [DOp.ts]), one a (by simp +contextual [DOp.ts]), one b (by simp +contextual [DOp.ts])]
  case box x => rw [one x (by simp [DOp.ts])]
  case load g x => rw [one x (by simp [DOp.ts])]
  case store n a x => rw [one a (by simp +contextual [DOp.ts]), one x (by simp +contextual [DOp.ts])]
  case nilck x => rw [one x (by simp [DOp.ts])]
  case bin op x y => rw [one x (by simp +contextual [DOp.ts]), one y (by simp +contextual [DOp.ts])]
  case binb op x y => rw [one x (by simp +contextual [DOp.ts]), one y (by simp +contextual [DOp.ts])]
  case eqs n ks x y => rw [one x (by simp +contextual [DOp.ts]), one y (by simp +contextual [DOp.ts])]
  case un op x => rw [one x (by simp [DOp.ts])]
  case conv k x => rw [one x (by simp [DOp.ts])]
  case same x => rw [one x (by simp [DOp.ts])]
  case s2b x => rw [one x (by simp [DOp.ts])]
  case b2s x => rw [one x (by simp [DOp.ts])]
  case mkfn g cs => rw [opds_congr (xs := cs) (by simpa [DOp.ts] using h)]
  case build z ps => rw [setParts_congr (ps := ps) (by simpa [DOp.ts] using h)]
  case buildSl e z ps => rw [setElems_congr (ps := ps) (by simpa [DOp.ts] using h)]
  case mkSl e b z l c => rw [one l (by simp +contextual [DOp.ts]), one c (by simp +contextual [DOp.ts])]
  case sub e x lo hi =>
    have h1 : loInt ρ lo = loInt ρ' lo := by
      cases lo with
      | none => rfl
      | some y => simp only [loInt]; rw [one y (by simp +contextual [DOp.ts, optT])]
    have h2 : ∀ n, hiInt ρ n hi = hiInt ρ' n hi := by
      intro n
      cases hi with
      | none => rfl
      | some y => simp only [hiInt]; rw [one y (by simp +contextual [DOp.ts, optT])]
    rw [one x (by simp +contextual [DOp.ts]), h1]
    simp only [h2]
  case subs x lo hi =>
    have h1 : loInt ρ lo = loInt ρ' lo := by
      cases lo with
      | none => rfl
      | some y => simp only [loInt]; rw [one y (by simp +contextual [DOp.ts, optT])]
    have h2 : ∀ n, hiInt ρ n hi = hiInt ρ' n hi := by
      intro n
      cases hi with
      | none => rfl
      | some y => simp only [hiInt]; rw [one y (by simp +contextual [DOp.ts, optT])]
    rw [one x (by simp +contextual [DOp.ts]), h1]
    simp only [h2]
  case sub0 x => rw [one x (by simp [DOp.ts])]
  case faddr n x => rw [one x (by simp [DOp.ts])]
  case field n g x => rw [one x (by simp [DOp.ts])]
  case iaddr e x i => rw [one x (by simp +contextual [DOp.ts]), one i (by simp +contextual [DOp.ts])]
  case sidx x i => rw [one x (by simp +contextual [DOp.ts]), one i (by simp +contextual [DOp.ts])]
  case ext x i => rw [one x (by simp [DOp.ts])]
  case len x => rw [one x (by simp [DOp.ts])]
  case lens x => rw [one x (by simp [DOp.ts])]
  case app e b s x => rw [one s (by simp +contextual [DOp.ts]), one x (by simp +contextual [DOp.ts])]
  case call g raw as => rw [opds_congr (xs := as) (by simpa [DOp.ts] using h)]
  case callv f as =>
    rw [one f (by simp +contextual [DOp.ts]), opds_congr (xs := as) (fun t ht => h t (by simp only [DOp.ts, List.mem_append]; exact .inr ht))]

/-- the value that an instruction puts -/
def DI.val (call : CallD) (i : DI) (ρ : Env) (σ : Store) : Option (D × Store) :=
  match i.g with
  | none => i.op.ev call ρ σ
  | some (t, want) => match get ρ t with
    | .bool b => if b = want then i.op.ev call ρ σ else some (.bot, σ)
    | _ => none

theorem DI.ev_val {call : CallD} {i : DI} {ρ : Env} {σ : Store} : i.ev call ρ σ = (i.val call ρ σ).map fun p => (put ρ i.dst p.1, p.2) := by
  unfold DI.ev DI.val
  cases i.g with
  | none => simp only []; cases i.op.ev call ρ σ <;> rfl
  | some p =>
    obtain ⟨t, want⟩ := p
    simp only []
    cases get ρ t with
    | bool b =>
      simp only []
      split
      · cases i.op.ev call ρ σ <;> rfl
      · rfl
    | _ => rfl

theorem DI.val_congr {call : CallD} {i : DI} {σ : Store} {ρ ρ' : Env} (h : ∀ t ∈ i.reads, get ρ t = get ρ' t) : i.val call ρ σ = i.val call ρ' σ := by
  unfold DI.val
  have h1 : i.op.ev call ρ σ = i.op.ev call ρ' σ := DOp.ev_congr fun t ht => h t (by simp [DI.reads, ht])
  rw [h1]
  cases hg : i.g with
  | none => rfl
  | some p =>
    obtain ⟨t, want⟩ := p
    simp only []
    rw [h t (by simp [DI.reads, hg])]

def Eqv (ρ ρ' : Env) : Prop := ∀ t, get ρ t = get ρ' t

theorem get_put {ρ : Env} {dst : Option Nat} {d : D} {t : Nat} : get (put ρ dst d) t = if dst = some t then d else get ρ t := by
  cases dst with
  | none => simp [put]
  | some u => simp [put, get]

theorem Eqv.put {ρ ρ' : Env} (h : Eqv ρ ρ') (dst : Option Nat) (d : D) : Eqv (put ρ dst d) (put ρ' dst d) := fun t => by
  rw [get_put, get_put, h t]

theorem apartD_spec {x y : DI} (h : apartD x y = true) :
    (∀ d, x.dst = some d → d ∉ y.reads) ∧ (∀ d, x.dst = some d → y.dst ≠ some d) ∧ (∀ d, y.dst = some d → d ∉ x.reads) := by
  refine ⟨fun d hd => ?_, fun d hd => ?_, fun d hd => ?_⟩ <;> simp [apartD, hd] at h
  · exact h.1.1
  · exact h.1.2
  · exact h.2

theorem val_put {call : CallD} {x : DI} {dst : Option Nat} {u : D} {σ : Store} {ρ : Env} (h : ∀ d, dst = some d → d ∉ x.reads) : x.val call (put ρ dst u) σ = x.val call ρ σ := by
  apply DI.val_congr
  intro t ht
  rw [get_put]
  split
  · rename_i e
    exact absurd ht (h t e)
  · rfl

/-! ### any order -/

section
variable (call : CallD) (σ : Store) (ops : Array Oper) (is : List DI) (Q : Env → Prop)

def AnyD : Nat → Array Bool → Env → Prop
  | 0, listed, ρ => listed = headAll ops.size is.length ∧ Q ρ
  | fuel + 1, listed, ρ => Region.ready .any ops listed ≠ [] ∧ ∀ i ∈ Region.ready .any ops listed, ∃ x v, is[i]? = some x ∧ x.val call ρ σ = some (v, σ) ∧ AnyD fuel (listed.setIfInBounds i true) (put ρ x.dst v)

/-- while one that is before n is not listed, none behind n can be -/
def SinkInv (n : Nat) (listed : Array Bool) : Prop := ∀ i, i < n → listed.getD i true = false → ∃ M : Array Bool, M.size = ops.size ∧ (∀ j ∈ Region.ready .any ops M, j = i) ∧ (∀ j, n ≤ j → j < ops.size → M.getD j true = false) ∧
  (M.getD i true = false) ∧ ∀ k, listed.getD k false = true → M.getD k false = true
end

theorem headAll_size {size n : Nat} : (headAll size n).size = size := by simp [headAll]
theorem headAll_get {size n j : Nat} (h : j < size) (d : Bool) : (headAll size n).getD j d = decide (j < n) := by
  unfold headAll
  rw [Array.getD_eq_getD_getElem?]
  simp [h]

theorem ready_unlisted {ops : Array Oper} {listed : Array Bool} {j : Nat} (h : j ∈ Region.ready .any ops listed) : listed.getD j true = false ∧ j < ops.size := by
  obtain ⟨h0, o, ho, _⟩ := mem_ready.1 h
  exact ⟨h0, (Array.getElem?_eq_some_iff.1 ho).1⟩

theorem getD_in {M : Array Bool} {j : Nat} (h : j < M.size) (d d' : Bool) : M.getD j d = M.getD j d' := by
  rw [Array.getD_eq_getD_getElem?, Array.getD_eq_getD_getElem?, Array.getElem?_eq_getElem h]
  rfl

theorem ready_grow {ops : Array Oper} {listed M : Array Bool} (hM : M.size = ops.size) (hsub : ∀ k, listed.getD k false = true → M.getD k false = true) {j : Nat} (hj : j ∈ Region.ready .any ops listed) :
    M.getD j false = true ∨ j ∈ Region.ready .any ops M := by
  obtain ⟨h0, o, ho, hall⟩ := mem_ready.1 hj
  have hlt : j < M.size := by rw [hM]; exact (Array.getElem?_eq_some_iff.1 ho).1
  cases e : M.getD j false with
  | true => exact .inl rfl
  | false => exact .inr (mem_ready.2 ⟨by rw [getD_in hlt true false]; exact e, o, ho, fun e he hb => hsub _ (hall e he hb)⟩)

theorem sink_head {ops : Array Oper} {n i j : Nat} {listed : Array Bool} (hs : SinkInv ops n listed) (hi : i < n) (hu : listed.getD i true = false) (hj : j ∈ Region.ready .any ops listed) : j < n := by
  obtain ⟨M, m0, m1, m2, _, m3⟩ := hs i hi hu
  rcases Nat.lt_or_ge j n with q | q
  · exact q
  · have hlt := (ready_unlisted hj).2
    have hMj := m2 j q hlt
    rcases ready_grow m0 m3 hj with r | r
    · rw [getD_in (by omega) false true, hMj] at r; cases r
    · have := m1 j r
      omega

theorem sink_set {ops : Array Oper} {n j : Nat} {listed : Array Bool} (hs : SinkInv ops n listed) (hj : j ∈ Region.ready .any ops listed) : SinkInv ops n (listed.setIfInBounds j true) := by
  intro i hi hu
  have hlt := (ready_unlisted hj).2
  by_cases hij : j = i
  · subst hij
    have h0 := (ready_unlisted hj).1
    rcases Nat.lt_or_ge j listed.size with q | q
    · simp [q] at hu
    · exfalso
      simp [Array.getElem?_eq_none q] at h0
  · rw [getD_set_ne true hij] at hu
    obtain ⟨M, m0, m1, m2, m4, m3⟩ := hs i hi hu
    refine ⟨M, m0, m1, m2, m4, fun k hk => ?_⟩
    by_cases hkj : j = k
    · subst hkj
      rcases ready_grow m0 m3 hj with r | r
      · exact r
      · exact absurd (m1 j r) hij
    · rw [getD_set_ne false hkj] at hk
      exact m3 k hk

theorem sink_start {ops : Array Oper} {n : Nat} (h : sinkD ops n = true) : SinkInv ops n (Array.replicate ops.size false) := by
  unfold sinkD at h
  intro i hi hu
  have none_listed : ∀ k, (Array.replicate ops.size false).getD k false = true → False := fun k hk => by
    rw [Array.getD_eq_getD_getElem?, Array.getElem?_replicate] at hk
    split at hk <;> cases hk
  by_cases hn : n = ops.size
  · -- nothing lies behind: everything but i
    refine ⟨((List.range ops.size).map fun j => decide (j ≠ i)).toArray, by simp, fun j hj => ?_, fun j h1 h2 => by omega, ?_, fun k hk => (none_listed k hk).elim⟩
    · obtain ⟨h0, hlt⟩ := ready_unlisted hj
      rw [Array.getD_eq_getD_getElem?] at h0
      simpa [hlt] using h0
    · rw [Array.getD_eq_getD_getElem?]
      have : i < ops.size := by omega
      simp [this]
  · have hb : (n == ops.size) = false := by simpa using hn
    rw [hb, Bool.false_or, List.all_eq_true] at h
    have h1 := h i (List.mem_range.2 hi)
    simp only [Bool.and_eq_true, List.all_eq_true] at h1
    obtain ⟨⟨⟨a1, a2⟩, a3⟩, a4⟩ := h1
    exact ⟨_, by simpa using a1, fun j hj => by simpa using a3 j hj, fun j q1 q2 => by
      have := a4 j (List.mem_range.2 q2)
      simp only [Bool.or_eq_true, decide_eq_true_eq] at this
      rcases this with q | q
      · omega
      · simpa using q, by simpa using a2, fun k hk => (none_listed k hk).elim⟩

section
variable {call : CallD} {σ : Store} {ops : Array Oper} {is : List DI} {Q : Env → Prop}

theorem AnyD.congr (hQ : ∀ ρ ρ', Eqv ρ ρ' → Q ρ → Q ρ') : ∀ (fuel : Nat) (listed : Array Bool) (ρ ρ' : Env), Eqv ρ ρ' → AnyD call σ ops is Q fuel listed ρ → AnyD call σ ops is Q fuel listed ρ'
  | 0, _, _, _, e, h => ⟨h.1, hQ _ _ e h.2⟩
  | fuel + 1, listed, ρ, ρ', e, h => ⟨h.1, fun i hi => by
      obtain ⟨x, v, h1, h2, h3⟩ := h.2 i hi
      refine ⟨x, v, h1, ?_, AnyD.congr hQ fuel _ _ _ (e.put _ _) h3⟩
      rw [← h2]
      exact DI.val_congr fun t _ => (e t).symm⟩

theorem AnyD.first (hQ : ∀ ρ ρ', Eqv ρ ρ' → Q ρ → Q ρ') {i : Nat} {x : DI} {v : D} (hi : is[i]? = some x) :
    ∀ (fuel : Nat) (listed : Array Bool) (ρ : Env), SinkInv ops is.length listed →
      (∀ j oj y, ops[j]? = some oj → is[j]? = some y → j ≠ i → listed.getD j true = false → (∀ e ∈ oj.after, Region.binds .any e = true → e.on ≠ i) → apartD x y = true) →
      i ∈ Region.ready .any ops listed → x.val call ρ σ = some (v, σ) →
      AnyD call σ ops is Q fuel (listed.setIfInBounds i true) (put ρ x.dst v) → AnyD call σ ops is Q (fuel + 1) listed ρ := by
  have hin : i < is.length := by
    rcases Nat.lt_or_ge i is.length with q | q
    · exact q
    · rw [List.getElem?_eq_none q] at hi; cases hi
  intro fuel
  induction fuel with
  | zero =>
    intro listed ρ hs _ hr hy H
    refine ⟨fun e => (by rw [e] at hr; cases hr), fun j hj => ?_⟩
    by_cases hji : j = i
    · subst hji; exact ⟨x, v, hi, hy, H⟩
    · exfalso
      have hjn := sink_head hs hin (ready_unlisted hr).1 hj
      obtain ⟨h0, hlt⟩ := ready_unlisted hj
      have h1 : (listed.setIfInBounds i true).getD j true = false := by rw [getD_set_ne true (Ne.symm hji)]; exact h0
      rw [H.1, headAll_get hlt] at h1
      simp at h1
      omega
  | succ fuel ih =>
    intro listed ρ hs hfree hr hy H
    refine ⟨fun e => (by rw [e] at hr; cases hr), fun j hj => ?_⟩
    by_cases hji : j = i
    · subst hji; exact ⟨x, v, hi, hy, H⟩
    · obtain ⟨y, u, hyj, hyv, h1⟩ := H.2 j (ready_mono hj hji)
      obtain ⟨hjun, oj, hoj, hall⟩ := mem_ready.1 hj
      have hnot : ∀ e ∈ oj.after, Region.binds .any e = true → e.on ≠ i := fun e he hb heq => by
        have h1 := hall e he hb
        have h0 := (mem_ready.1 hr).1
        rw [heq] at h1
        rcases Nat.lt_or_ge i listed.size with h' | h'
        · simp [h'] at h0 h1; rw [h0] at h1; cases h1
        · simp [Array.getElem?_eq_none h'] at h1
      obtain ⟨a1, a2, a3⟩ := apartD_spec (hfree j oj y hoj hyj hji hjun hnot)
      have hfree' : ∀ k ok z, ops[k]? = some ok → is[k]? = some z → k ≠ i → (listed.setIfInBounds j true).getD k true = false →
          (∀ e ∈ ok.after, Region.binds .any e = true → e.on ≠ i) → apartD x z = true := fun k ok z hk hz hki hun hno => by
        refine hfree k ok z hk hz hki ?_ hno
        by_cases hjk : j = k
        · subst hjk; exact hjun
        · rw [getD_set_ne true hjk] at hun; exact hun
      refine ⟨y, u, hyj, by rw [← hyv]; exact (val_put a1).symm, ih (listed.setIfInBounds j true) _ (sink_set hs hj) hfree' (ready_mono hr (Ne.symm hji)) (by rw [val_put a3]; exact hy) ?_⟩
      rw [Array.setIfInBounds_comm _ _ (Ne.symm (Ne.symm hji))]
      refine AnyD.congr hQ _ _ _ _ (fun t => ?_) h1
      rw [get_put, get_put, get_put, get_put]
      by_cases hx : x.dst = some t
      · rw [if_neg (a2 t hx), if_pos hx, if_pos hx]
      · rw [if_neg hx, if_neg hx]

theorem freeD_spec {k : Nat} {x : DI} {listed : Array Bool} (h : freeD ops is listed k x = true) (j : Nat) (oj : Oper) (y : DI) (hj : ops[j]? = some oj) (hy : is[j]? = some y) (hne : j ≠ k) (hun : listed.getD j true = false)
    (hno : ∀ e ∈ oj.after, Region.binds .any e = true → e.on ≠ k) : apartD x y = true := by
  simp only [freeD, List.all_eq_true, List.mem_range] at h
  have hlt : j < is.length := by
    rcases Nat.lt_or_ge j is.length with q | q
    · exact q
    · rw [List.getElem?_eq_none q] at hy; cases hy
  have h1 := h j hlt
  simp only [hj, hy, Bool.or_eq_true, beq_iff_eq, hne, false_or, hun, Bool.false_eq_true] at h1
  rcases h1 with h1 | h1
  · obtain ⟨e, he, hb⟩ := Array.any_eq_true'.1 h1
    simp only [Bool.and_eq_true, beq_iff_eq] at hb
    exact absurd hb.2 (hno e he hb.1)
  · exact h1

theorem anyD_lex : ∀ (l : List DI) (k : Nat) (listed : Array Bool) (ρ ρf : Env), (∀ j, l[j]? = is[k + j]?) → SinkInv ops is.length listed → lexD ops is l k listed = true → evQ call l ρ σ = some ρf →
    AnyD call σ ops is (Eqv ρf) l.length listed ρ
  | [], _, _, ρ, ρf, _, _, hB, h => by
    simp [evQ] at h
    subst h
    exact ⟨by simpa [lexD] using hB, fun _ => rfl⟩
  | x :: l, k, listed, ρ, ρf, hl, hs, hB, h => by
    have h0 : is[k]? = some x := by simpa using (hl 0).symm
    simp only [lexD, Bool.and_eq_true] at hB
    obtain ⟨⟨hr, hf⟩, hB'⟩ := hB
    simp only [evQ, DI.ev_val] at h
    cases hv : x.val call ρ σ with
    | none => rw [hv] at h; cases h
    | some p =>
      obtain ⟨v, σ2⟩ := p
      rw [hv] at h
      simp only [Option.map_some] at h
      split at h
      · rename_i hss
        rw [hss] at hv
        have hr' : k ∈ Region.ready .any ops listed := by simpa using hr
        exact AnyD.first (fun _ _ e q => fun t => (q t).trans (e t)) h0 l.length listed ρ hs (freeD_spec hf) hr' hv
          (anyD_lex l (k + 1) _ _ _ (fun j => by have := hl (j + 1); simpa [Nat.add_assoc, Nat.add_comm 1 j] using this) (sink_set hs hr') hB' h)
      · cases h
end

/-! ### the model's regions -/

theorem mapO_get {α β : Type} {f : α → Option β} {as : List α} {bs : List β} (h : mapO f as = some bs) {i : Nat} {b : β} (hb : bs[i]? = some b) : ∃ a, as[i]? = some a ∧ f a = some b := by
  induction as generalizing bs i with
  | nil => simp [mapO] at h; subst h; simp at hb
  | cons a as ih =>
    simp only [mapO] at h
    split at h
    · rename_i b' hb'
      split at h
      · rename_i bs' hbs
        cases h
        cases i with
        | zero => simp at hb; subst hb; exact ⟨a, rfl, hb'⟩
        | succ i => simpa using ih hbs (by simpa using hb)
      · cases h
    · cases h
theorem mapO_length {α β : Type} {f : α → Option β} {as : List α} {bs : List β} (h : mapO f as = some bs) : bs.length = as.length := by
  induction as generalizing bs with
  | nil => simp [mapO] at h; subst h; rfl
  | cons a as ih =>
    simp only [mapO] at h
    split at h
    · split at h
      · rename_i hbs
        cases h
        simp [ih hbs]
      · cases h
    · cases h

section
variable {num : Nat → FuncId} {S S' : Mem} {I I' : Inf} {σ σ' : Store} {w w' : World} {P : Program} {N : Names}
variable (hN : ∀ f g, N.gid f = some g → num g = f) {call : CallD} (hg : Good num P call) {ρ ρ' : Env} {a : Act} {o : Oper} {nt : Nat} {K : Act → World → Prop} {Q : Exit → Act → World → Prop}
include hN hg

theorem list_sound {ops : Array Oper} : ∀ (l : List Oper) (is : List DI) {S : Mem} {I : Inf} {σ : Store} {w : World} {ρ : Env} {a : Act}, mapO (compileI P N nt ops) l = some is → evIs call is ρ σ = some (ρ', σ') →
    Inv num S I σ w → RT num S I ρ a.tmps → a.tmps.size = nt →
    (∀ a' w' S' I', RT num S' I' ρ' a'.tmps → Post num S I σ w S' I' σ' w' → a'.defers = a.defers → a'.tmps.size = nt → Q .normal a' w') → wpList P ops Q l a w
  | [], is, S, I, σ, w, ρ, a, hc, h, hv, hr, hs, hK => by
    simp [mapO] at hc
    subst hc
    simp [evIs] at h
    obtain ⟨rfl, rfl⟩ := h
    exact hK a w S I hr (Post.refl hv) rfl hs
  | o :: l, is, S, I, σ, w, ρ, a, hc, h, hv, hr, hs, hK => by
    simp only [mapO] at hc
    split at hc
    · rename_i di hdi
      split at hc
      · rename_i is' his
        cases hc
        simp only [evIs] at h
        split at h
        · rename_i ρ1 σ1 h1
          exact di_sound hN hg hdi h1 hv hr hs (K := wpList P ops Q l) fun a1 w1 S1 I1 r1 p1 d1 s1 =>
            list_sound l is' his h p1.inv r1 s1 fun a2 w2 S2 I2 r2 p2 d2 s2 => hK a2 w2 S2 I2 r2 (p1.trans p2) (d2.trans d1) s2
        · cases h
      · cases hc
    · cases hc

omit hN hg in
theorem mapO_drop {α β : Type} {f : α → Option β} {as : List α} {bs : List β} (h : mapO f as = some bs) (n : Nat) : mapO f (as.drop n) = some (bs.drop n) := by
  induction n generalizing as bs with
  | zero => simpa using h
  | succ n ih =>
    cases as with
    | nil => simp [mapO] at h; subst h; simp [mapO]
    | cons a as =>
      simp only [mapO] at h
      split at h
      · split at h
        · rename_i hbs
          cases h
          simpa using ih hbs
        · cases h
      · cases h

theorem tail_sound {ops : Array Oper} : ∀ (m k : Nat) (listed : Array Bool) (is : List DI) {S : Mem} {I : Inf} {σ : Store} {w : World} {ρ : Env} {a : Act}, k + m = ops.size → tailD ops m k listed = true → mapO (compileI P N nt ops) (ops.toList.drop k) = some is → evIs call is ρ σ = some (ρ', σ') →
    Inv num S I σ w → RT num S I ρ a.tmps → a.tmps.size = nt →
    (∀ a' w' S' I', RT num S' I' ρ' a'.tmps → Post num S I σ w S' I' σ' w' → a'.defers = a.defers → a'.tmps.size = nt → Q .normal a' w') → wpAny P .any ops Q m listed a w
  | 0, k, listed, is, S, I, σ, w, ρ, a, hk, ht, hc, h, hv, hr, hs, hK => by
    rw [List.drop_of_length_le (by simp; omega)] at hc
    simp [mapO] at hc
    subst hc
    simp [evIs] at h
    obtain ⟨rfl, rfl⟩ := h
    exact ⟨by simpa [tailD] using ht, hK a w S I hr (Post.refl hv) rfl hs⟩
  | m + 1, k, listed, is, S, I, σ, w, ρ, a, hk, ht, hc, h, hv, hr, hs, hK => by
    have hlt : k < ops.toList.length := by simp; omega
    rw [List.drop_eq_getElem_cons hlt] at hc
    simp only [tailD, Bool.and_eq_true, beq_iff_eq] at ht
    simp only [mapO] at hc
    split at hc
    · rename_i di hdi
      split at hc
      · rename_i is' his
        cases hc
        refine wpAny_all ht.1 (by simp) fun i hi => ?_
        have hi : i = k := by simpa using hi
        rw [hi]
        have e3 : ops[k]? = some (ops.toList[k]) := by rw [Array.getElem?_eq_getElem (by simpa using hlt)]; simp
        unfold wpOp
        rw [e3]
        simp only [evIs] at h
        split at h
        · rename_i ρ1 σ1 h1
          exact di_sound hN hg hdi h1 hv hr hs fun a1 w1 S1 I1 r1 p1 d1 s1 =>
            tail_sound m (k + 1) _ is' (by omega) ht.2 his h p1.inv r1 s1 fun a2 w2 S2 I2 r2 p2 d2 s2 => hK a2 w2 S2 I2 r2 (p1.trans p2) (d2.trans d1) s2
        · cases h
      · cases hc
    · cases hc

theorem any_sound {ops : Array Oper} {is hs ts : List DI} {ρ2 : Env} (hc : mapO (compileI P N nt ops) ops.toList = some is) (hhs : ∀ (i : Nat) (x : DI), hs[i]? = some x → is[i]? = some x) (htl : mapO (compileI P N nt ops) (ops.toList.drop hs.length) = some ts) (hle : hs.length ≤ ops.size)
    (ht : tailD ops (ops.size - hs.length) hs.length (headAll ops.size hs.length) = true) {S0 : Mem} {I0 : Inf} {w0 : World} {df : List Deferred} (hts : evIs call ts ρ' σ = some (ρ2, σ'))
    (hK : ∀ a' w' S' I', RT num S' I' ρ2 a'.tmps → Post num S0 I0 σ w0 S' I' σ' w' → a'.defers = df → a'.tmps.size = nt → Q .normal a' w') :
    ∀ (fuel : Nat) (listed : Array Bool) (ρ : Env) {S : Mem} {I : Inf} {w : World} {a : Act}, AnyD call σ ops hs (Eqv ρ') fuel listed ρ → Post num S0 I0 σ w0 S I σ w → RT num S I ρ a.tmps → a.defers = df → a.tmps.size = nt →
      wpAny P .any ops Q (fuel + (ops.size - hs.length)) listed a w
  | 0, listed, ρ, S, I, w, a, h, hp, hr, hd, hs' => by
    rw [h.1, Nat.zero_add]
    refine tail_sound hN hg _ _ _ ts (by omega) ht htl hts hp.inv (fun t => by rw [h.2 t]; exact hr t) hs' fun a1 w1 S1 I1 r1 p1 d1 s1 => hK a1 w1 S1 I1 r1 (hp.trans p1) (d1.trans hd) s1
  | fuel + 1, listed, ρ, S, I, w, a, h, hp, hr, hd, hs' => by
    have e : fuel + 1 + (ops.size - hs.length) = fuel + (ops.size - hs.length) + 1 := by omega
    rw [e]
    refine ⟨fun h0 => absurd h0 h.1, fun i hi => ?_⟩
    obtain ⟨x, v, h1, h2, h3⟩ := h.2 i hi
    obtain ⟨o, e1, e2⟩ := mapO_get hc (hhs i x h1)
    have e3 : ops[i]? = some o := by simpa using e1
    unfold wpOp
    rw [e3]
    refine di_sound hN hg e2 (ρ' := put ρ x.dst v) (σ' := σ) (by rw [DI.ev_val, h2]; rfl) hp.inv hr hs' fun a1 w1 S1 I1 r1 p1 d1 s1 => ?_
    exact any_sound hc hhs htl hle ht hts hK fuel _ _ h3 (hp.trans p1) r1 (d1.trans hd) s1

theorem region_sound {ops : Array Oper} {is : List DI} {id : Nat} (hc : mapO (compileI P N nt ops) ops.toList = some is) (h : evIs call is ρ σ = some (ρ', σ')) (hv : Inv num S I σ w) (hr : RT num S I ρ a.tmps) (hs : a.tmps.size = nt)
    (hK : ∀ a' w' S' I', RT num S' I' ρ' a'.tmps → Post num S I σ w S' I' σ' w' → a'.defers = a.defers → a'.tmps.size = nt → Q .normal a' w') : (Code.region id ops false).wp P Q a w :=
  wp_region_list (list_sound hN hg _ _ hc h hv hr hs hK)

omit hN hg in
theorem headOf_get {is : List DI} : ∀ (i : Nat) (x : DI), (headOf is)[i]? = some x → is[i]? = some x := by
  induction is with
  | nil => intro i x h; simp [headOf] at h
  | cons y is ih =>
    intro i x h
    simp only [headOf] at h
    split at h
    · simp at h
    · cases i with
      | zero => simpa using h
      | succ i => simpa using ih i x (by simpa using h)

theorem draw_sound (hm : P.follows .mixedOrders = true) {ops : Array Oper} {is : List DI} {ρ1 : Env} {id : Nat} (hc : mapO (compileI P N nt ops) ops.toList = some is) (hok : anyOk ops (headOf is) = true) (h : evQ call (headOf is) ρ σ = some ρ1)
    (h2 : evIs call (is.drop (headOf is).length) ρ1 σ = some (ρ', σ')) (hv : Inv num S I σ w) (hr : RT num S I ρ a.tmps) (hs : a.tmps.size = nt)
    (hK : ∀ a' w' S' I', RT num S' I' ρ' a'.tmps → Post num S I σ w S' I' σ' w' → a'.defers = a.defers → a'.tmps.size = nt → Q .normal a' w') : (Code.region id ops true).wp P Q a w := by
  refine wp_region_any hm ?_
  simp only [anyOk, Bool.and_eq_true, decide_eq_true_eq] at hok
  obtain ⟨⟨⟨k1, k2⟩, k3⟩, k4⟩ := hok
  have h1 := anyD_lex (call := call) (σ := σ) (ops := ops) (is := headOf is) (headOf is) 0 (Array.replicate ops.size false) ρ ρ1 (by simp) (sink_start k3) k2 h
  have e : ops.size = (headOf is).length + (ops.size - (headOf is).length) := by omega
  have := any_sound hN hg hc headOf_get (mapO_drop hc _) k1 k4 h2 hK _ _ _ h1 (post_drawn (n := w.drawn + 1) hv) hr rfl hs
  rw [← e] at this
  exact this
end
end Go.DM
