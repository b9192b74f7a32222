/- Regions, of which some come in any order. -/
import Derived.Test.YtpidjgefokgplaaSound2
set_option linter.unnecessarySimpa false
set_option linter.unusedVariables false
set_option linter.unusedSimpArgs false
set_option linter.unusedSectionVars false
namespace Go.DM
open Go

/-! ### an instruction looks at no more than it reads -/

theorem Opd.ev_congr {x : Opd} {ρ ρ' : Env} (h : ∀ t ∈ x.ts, get ρ t = get ρ' t) : x.ev ρ = x.ev ρ' := by
  cases x with
  | t i => exact h i (by simp [Opd.ts])
  | c d => rfl

theorem opds_congr {xs : List Opd} {ρ ρ' : Env} (h : ∀ t ∈ xs.flatMap Opd.ts, get ρ t = get ρ' t) : xs.map (Opd.ev ρ) = xs.map (Opd.ev ρ') := by
  apply List.map_congr_left
  intro x hx
  exact Opd.ev_congr fun t ht => h t (List.mem_flatMap.2 ⟨x, hx, ht⟩)

theorem setParts_congr {ps : List (Nat × Nat × Opd)} {ρ ρ' : Env} (h : ∀ t ∈ ps.flatMap (fun p => p.2.2.ts), get ρ t = get ρ' t) (cs : List D) : setParts cs ρ ps = setParts cs ρ' ps := by
  induction ps generalizing cs with
  | nil => rfl
  | cons p ps ih =>
    obtain ⟨off, n, x⟩ := p
    have h1 : x.ev ρ = x.ev ρ' := Opd.ev_congr fun t ht => h t (by simp [ht])
    have h2 := ih (fun t ht => h t (by simp only [List.flatMap_cons, List.mem_append]; exact .inr ht))
    simp only [setParts, h1, h2]

theorem setElems_congr {e : Nat} {ps : List (Nat × Opd)} {ρ ρ' : Env} (h : ∀ t ∈ ps.flatMap (fun p => p.2.ts), get ρ t = get ρ' t) (xs : List D) : setElems e xs ρ ps = setElems e xs ρ' ps := by
  induction ps generalizing xs with
  | nil => rfl
  | cons p ps ih =>
    obtain ⟨i, x⟩ := p
    have h1 : x.ev ρ = x.ev ρ' := Opd.ev_congr fun t ht => h t (by simp [ht])
    have h2 := ih (fun t ht => h t (by simp only [List.flatMap_cons, List.mem_append]; exact .inr ht))
    simp only [setElems, h1, h2]

theorem DOp.ev_congr {o : DOp} {call : CallD} {σ : Store} {ρ ρ' : Env} (h : ∀ t ∈ o.ts, get ρ t = get ρ' t) : o.ev call ρ σ = o.ev call ρ' σ := by
  have one : ∀ x : Opd, (∀ t ∈ x.ts, t ∈ o.ts) → x.ev ρ = x.ev ρ' := fun x hx => Opd.ev_congr fun t ht => h t (hx t ht)
  cases o <;> simp only [DOp.ev]
  case mv x => rw [one x (by simp [DOp.ts])]
  case pick c a b => rw [one c (by simp +contextual [DOp.ts]), one a (by simp +contextual [DOp.ts]), one b (by simp +contextual [DOp.ts])]
  case box x => rw [one x (by simp [DOp.ts])]
  case boxf x => rw [one x (by simp [DOp.ts])]
  case fz x => rw [one x (by simp [DOp.ts])]
  case init n t x => rw [one x (by simp +contextual [DOp.ts])]
  case load g x => rw [one x (by simp [DOp.ts])]
  case store n a x => rw [one a (by simp +contextual [DOp.ts]), one x (by simp +contextual [DOp.ts])]
  case nilck x => rw [one x (by simp [DOp.ts])]
  case bin op x y => rw [one x (by simp +contextual [DOp.ts]), one y (by simp +contextual [DOp.ts])]
  case binb op x y => rw [one x (by simp +contextual [DOp.ts]), one y (by simp +contextual [DOp.ts])]
  case eqs n ks x y => rw [one x (by simp +contextual [DOp.ts]), one y (by simp +contextual [DOp.ts])]
  case un op x => rw [one x (by simp [DOp.ts])]
  case conv k x => rw [one x (by simp [DOp.ts])]
  case same x => rw [one x (by simp [DOp.ts])]
  case s2b x => rw [one x (by simp [DOp.ts])]
  case b2s x => rw [one x (by simp [DOp.ts])]
  case mkfn g cs => rw [opds_congr (xs := cs) (by simpa [DOp.ts] using h)]
  case build z ps => rw [setParts_congr (ps := ps) (by simpa [DOp.ts] using h)]
  case buildSl e z ps => rw [setElems_congr (ps := ps) (by simpa [DOp.ts] using h)]
  case mkSl e b z l c => rw [one l (by simp +contextual [DOp.ts]), one c (by simp +contextual [DOp.ts])]
  case sub e x lo hi =>
    have h1 : loInt ρ lo = loInt ρ' lo := by
      cases lo with
      | none => rfl
      | some y => simp only [loInt]; rw [one y (by simp +contextual [DOp.ts, optT])]
    have h2 : ∀ n, hiInt ρ n hi = hiInt ρ' n hi := by
      intro n
      cases hi with
      | none => rfl
      | some y => simp only [hiInt]; rw [one y (by simp +contextual [DOp.ts, optT])]
    rw [one x (by simp +contextual [DOp.ts]), h1]
    simp only [h2]
  case subs x lo hi =>
    have h1 : loInt ρ lo = loInt ρ' lo := by
      cases lo with
      | none => rfl
      | some y => simp only [loInt]; rw [one y (by simp +contextual [DOp.ts, optT])]
    have h2 : ∀ n, hiInt ρ n hi = hiInt ρ' n hi := by
      intro n
      cases hi with
      | none => rfl
      | some y => simp only [hiInt]; rw [one y (by simp +contextual [DOp.ts, optT])]
    rw [one x (by simp +contextual [DOp.ts]), h1]
    simp only [h2]
  case sub0 x => rw [one x (by simp [DOp.ts])]
  case faddr n x => rw [one x (by simp [DOp.ts])]
  case field n g x => rw [one x (by simp [DOp.ts])]
  case iaddr e x i => rw [one x (by simp +contextual [DOp.ts]), one i (by simp +contextual [DOp.ts])]
  case sidx x i => rw [one x (by simp +contextual [DOp.ts]), one i (by simp +contextual [DOp.ts])]
  case ext x i => rw [one x (by simp [DOp.ts])]
  case len x => rw [one x (by simp [DOp.ts])]
  case lens x => rw [one x (by simp [DOp.ts])]
  case app e b s x => rw [one s (by simp +contextual [DOp.ts]), one x (by simp +contextual [DOp.ts])]
  case call g m as => rw [opds_congr (xs := as) (by simpa [DOp.ts] using h)]
  case callv f m as =>
    rw [one f (by simp +contextual [DOp.ts]), opds_congr (xs := as) (fun t ht => h t (by simp only [DOp.ts, List.mem_append]; exact .inr ht))]

theorem DI.ev_val {call : CallD} {i : DI} {ρ : Env} {σ : Store} : i.ev call ρ σ = (i.val call ρ σ).map fun p => (put ρ i.to p.1, p.2) := by
  unfold DI.ev
  cases i.val call ρ σ <;> rfl

theorem DI.val_congr {call : CallD} {i : DI} {σ : Store} {ρ ρ' : Env} (h : ∀ t ∈ i.reads, get ρ t = get ρ' t) : i.val call ρ σ = i.val call ρ' σ := by
  unfold DI.val
  have h1 : i.op.ev call ρ σ = i.op.ev call ρ' σ := DOp.ev_congr fun t ht => h t (by simp [DI.reads, ht])
  rw [h1]
  cases hg : i.g with
  | none => rfl
  | some p =>
    obtain ⟨t, want⟩ := p
    simp only []
    rw [h t (by simp [DI.reads, hg])]

def Eqv (ρ ρ' : Env) : Prop := ∀ t, get ρ t = get ρ' t

theorem get_put {ρ : Env} {dst : Option Nat} {d : D} {t : Nat} : get (put ρ dst d) t = if dst = some t then d else get ρ t := by
  cases dst with
  | none => simp [put]
  | some u => simp [put, get]

theorem Eqv.put {ρ ρ' : Env} (h : Eqv ρ ρ') (dst : Option Nat) (d : D) : Eqv (put ρ dst d) (put ρ' dst d) := fun t => by
  rw [get_put, get_put, h t]

theorem apartD_spec {x y : DI} (h : apartD x y = true) :
    (∀ d, x.to = some d → d ∉ y.reads) ∧ (∀ d, x.to = some d → y.to ≠ some d) ∧ (∀ d, y.to = some d → d ∉ x.reads) := by
  refine ⟨fun d hd => ?_, fun d hd => ?_, fun d hd => ?_⟩ <;> simp [apartD, hd] at h
  · exact h.1.1
  · exact h.1.2
  · exact h.2

theorem val_put {call : CallD} {x : DI} {dst : Option Nat} {u : D} {σ : Store} {ρ : Env} (h : ∀ d, dst = some d → d ∉ x.reads) : x.val call (put ρ dst u) σ = x.val call ρ σ := by
  apply DI.val_congr
  intro t ht
  rw [get_put]
  split
  · rename_i e
    exact absurd ht (h t e)
  · rfl

/-! ### what is told of no store is so of each -/

theorem mapS_nilS {f : Store → D → Option (D × Store)} (hf : ∀ d e τ, f [] d = some (e, τ) → τ = [] ∧ ∀ σ, f σ d = some (e, σ)) : ∀ {ds es : List D} {τ : Store}, mapS f [] ds = some (es, τ) → τ = [] ∧ ∀ σ, mapS f σ ds = some (es, σ)
  | [], es, τ, h => by
    simp [mapS] at h
    obtain ⟨rfl, rfl⟩ := h
    exact ⟨rfl, fun σ => rfl⟩
  | d :: ds, es, τ, h => by
    simp only [mapS] at h
    split at h
    · rename_i e σ1 h1
      obtain ⟨rfl, h2⟩ := hf _ _ _ h1
      split at h
      · rename_i es' σ2 h3
        cases h
        obtain ⟨rfl, h4⟩ := mapS_nilS hf h3
        exact ⟨rfl, fun σ => by simp only [mapS, h2 σ, h4 σ]⟩
      · cases h
    · cases h

theorem frz_nilS : ∀ (f : Nat) (d e : D) (τ : Store), frz f [] d = some (e, τ) → τ = [] ∧ ∀ σ, frz f σ d = some (e, σ)
  | 0, d, e, τ, h => by simp [frz] at h
  | f + 1, d, e, τ, h => by
    have ih := frz_nilS f
    cases d with
    | agg cs =>
      simp only [frz] at h
      split at h
      · rename_i es σ1 h1
        cases h
        obtain ⟨rfl, h2⟩ := mapS_nilS ih h1
        exact ⟨rfl, fun σ => by simp only [frz, h2 σ]⟩
      · cases h
    | tup cs =>
      simp only [frz] at h
      split at h
      · rename_i es σ1 h1
        cases h
        obtain ⟨rfl, h2⟩ := mapS_nilS ih h1
        exact ⟨rfl, fun σ => by simp only [frz, h2 σ]⟩
      · cases h
    | sl l n => simp [frz] at h
    | _ => simp [frz] at h; obtain ⟨rfl, rfl⟩ := h; exact ⟨rfl, fun σ => by simp [frz]⟩

theorem mapV_nilS {f g : D → Option D} (hf : ∀ d e, f d = some e → g d = some e) : ∀ {ds es : List D}, mapV f ds = some es → mapV g ds = some es
  | [], es, h => h
  | d :: ds, es, h => by
    simp only [mapV] at h ⊢
    split at h
    · rename_i e h1
      rw [hf _ _ h1]
      split at h
      · rename_i es' h3
        cases h
        simp only [mapV_nilS hf h3]
      · cases h
    · cases h

theorem vw_nilS : ∀ (f : Nat) (d e : D), vw f [] d = some e → ∀ σ, vw f σ d = some e
  | 0, d, e, h => by simp [vw] at h
  | f + 1, d, e, h => fun σ => by
    have ih := fun d e h => vw_nilS f d e h σ
    cases d with
    | agg cs =>
      simp only [vw] at h ⊢
      split at h
      · rename_i es h1
        cases h
        simp only [mapV_nilS ih h1]
      · cases h
    | tup cs =>
      simp only [vw] at h ⊢
      split at h
      · rename_i es h1
        cases h
        simp only [mapV_nilS ih h1]
      · cases h
    | fn g cs =>
      simp only [vw] at h ⊢
      split at h
      · rename_i es h1
        cases h
        simp only [mapV_nilS ih h1]
      · cases h
    | sl l n => simp [vw] at h
    | ptr l o => simp [vw] at h
    | eptr l n i o => simp [vw] at h
    | bot => simp [vw] at h
    | _ => simpa [vw] using h

mutual
theorem D.ren_id {f : Nat → Option Nat} (hf : ∀ l, f l = some l) (d : D) : D.ren f d = some d := by
  match d with
  | .int .. | .bool .. | .str .. | .nilp | .nils | .nilf | .fptr .. | .list .. | .bot => rfl
  | .ptr .. => simp [D.ren, hf]
  | .eptr .. => simp [D.ren, hf]
  | .sl .. => simp [D.ren, hf]
  | .fn g cs => simp [D.ren, D.renL_id hf cs]
  | .agg cs => simp [D.ren, D.renL_id hf cs]
  | .tup cs => simp [D.ren, D.renL_id hf cs]
theorem D.renL_id {f : Nat → Option Nat} (hf : ∀ l, f l = some l) (ds : List D) : D.renL f ds = some ds := by
  match ds with
  | [] => rfl
  | d :: ds => simp [D.renL, D.ren_id hf d, D.renL_id hf ds]
end
mutual
theorem D.free_ren' (f : Nat → Option Nat) (d : D) (h : D.lt 0 d = true) : D.refs d = [] ∧ D.ren f d = some d := by
  match d with
  | .int .. | .bool .. | .str .. | .nilp | .nils | .nilf | .fptr .. | .list .. => exact ⟨rfl, rfl⟩
  | .bot => simp [D.lt] at h
  | .ptr .. | .eptr .. | .sl .. => simp [D.lt] at h
  | .fn g cs => have := D.free_renL' f cs (by simpa [D.lt] using h); simp [D.refs, D.ren, this]
  | .agg cs => have := D.free_renL' f cs (by simpa [D.lt] using h); simp [D.refs, D.ren, this]
  | .tup cs => have := D.free_renL' f cs (by simpa [D.lt] using h); simp [D.refs, D.ren, this]
theorem D.free_renL' (f : Nat → Option Nat) (ds : List D) (h : D.ltL 0 ds = true) : D.refsL ds = [] ∧ D.renL f ds = some ds := by
  match ds with
  | [] => exact ⟨rfl, rfl⟩
  | d :: ds =>
    simp [D.ltL] at h
    have h1 := D.free_ren' f d h.1
    have h2 := D.free_renL' f ds h.2
    simp [D.refsL, D.renL, h1, h2]
end

theorem back_nil (l : Nat) : backOf [] 0 l = some l := by simp [backOf]

theorem addRefs_nil : ∀ {rs as : List Nat}, addRefs as rs = [] → as = [] ∧ rs = []
  | [], as, h => ⟨h, rfl⟩
  | r :: rs, as, h => by
    simp only [addRefs] at h
    have := (addRefs_nil h).1
    split at this
    · rename_i hc
      subst this
      simp at hc
    · simp at this

theorem reach_nil : ∀ (n : Nat) (σ : Store), reach σ n [] = []
  | 0, σ => rfl
  | n + 1, σ => by simp [reach, blkRefs]

theorem reach_sub : ∀ (n : Nat) (σ : Store) (ls : List Nat), reach σ n ls = [] → ls = []
  | 0, σ, ls, h => h
  | n + 1, σ, ls, h => by
    simp only [reach] at h
    split at h
    · exact h
    · exact (addRefs_nil (reach_sub n σ _ h)).1

theorem callIn_nilS {call : CallD} {g : Nat} {ds : List D} {v : D} (h : callIn call g ds [] = some (v, [])) (hv : D.lt 0 v = true) (σ : Store) : callIn call g ds σ = some (v, σ) := by
  unfold callIn callAt at h
  generalize hls : reach ([] : Store) 3 (addRefs [] (D.refsL ds)) = ls at h
  split at h
  · split at h
    · rename_i es τ h1 h2
      have hl : ls = [] := by
        cases ls with
        | nil => rfl
        | cons l ls => simp [subStore] at h2
      subst hl
      simp [subStore] at h2
      subst h2
      have hr : D.refsL ds = [] := (addRefs_nil (reach_sub _ _ _ hls)).2
      split at h
      · rename_i r1 τ' h3
        split at h
        · split at h
          · rename_i r' τ2 h4 h5
            simp only [Option.some.injEq, Prod.mk.injEq] at h
            obtain ⟨rfl, h6⟩ := h
            simp [putBack] at h6
            subst h6
            have ht : τ' = [] := by
              cases τ' with
              | nil => rfl
              | cons b τ' =>
                simp only [renS] at h5
                split at h5 <;> cases h5
            subst ht
            have e0 : D.ren (backOf [] ([] : Store).length) r1 = some r1 := D.ren_id back_nil r1
            rw [e0] at h4
            cases h4
            unfold callIn callAt
            rw [hr]
            have e1 : reach σ 3 (addRefs [] []) = [] := reach_nil 3 σ
            rw [e1]
            simp only [List.nodup_nil, if_true]
            rw [h1]
            simp only [subStore, h3, List.length_nil, Nat.le_refl, if_true, renS, putBack, (D.free_ren' (backOf [] σ.length) r1 hv).2, List.append_nil]
          · cases h
        · cases h
      · cases h
    · cases h
  · cases h

theorem borIn_nilS {call : CallD} {g : Nat} {ds : List D} {v : D} (h : borIn call g ds [] = some (v, [])) (hv : D.lt 0 v = true) (σ : Store) : borIn call g ds σ = some (v, σ) := by
  unfold borIn at h ⊢
  split at h
  · rename_i r1 τ h3
    split at h
    · rename_i hf
      split at h
      · rename_i r' τ2 h4 h5
        simp only [Option.some.injEq, Prod.mk.injEq, List.nil_append] at h
        obtain ⟨rfl, rfl⟩ := h
        have ht : τ = [] := by
          cases τ with
          | nil => rfl
          | cons b τ =>
            simp only [renS] at h5
            split at h5 <;> cases h5
        subst ht
        have e0 : D.ren (backOf [] ([] : Store).length) r1 = some r1 := D.ren_id back_nil r1
        rw [e0] at h4
        cases h4
        simp only [hf, if_true, renS, (D.free_ren' (backOf [] σ.length) r1 hv).2, List.append_nil]
      · cases h
    · cases h
  · cases h

theorem callM_nilS {call : CallD} {m : CM} {g : Nat} {as caps : List D} {v : D} (hm : m ≠ .all) (h : callM call m g as caps [] = some (v, [])) (hv : D.lt 0 v = true) (σ : Store) : callM call m g as caps σ = some (v, σ) := by
  unfold callM at h ⊢
  cases m with
  | raw => exact callIn_nilS h hv σ
  | all => exact absurd rfl hm
  | bor =>
    simp only [] at h ⊢
    split at h
    · rename_i ds h1
      rw [mapV_nilS (fun d e he => vw_nilS 8 d e he σ) h1]
      exact borIn_nilS h hv σ
    · cases h
  | frz =>
    simp only [] at h ⊢
    split at h
    · rename_i ds σ1 h1
      obtain ⟨rfl, h2⟩ := mapS_nilS (frz_nilS 8) h1
      rw [h2 σ]
      exact callIn_nilS h hv σ
    · cases h

theorem elems_nilS {x : D} {xs : List D} (h : elems [] x = some xs) (σ : Store) : elems σ x = some xs := by
  cases x <;> simp [elems] at h ⊢ <;> exact h

theorem pure1_nilS {x : Option D} {v : D} (h : pure1 ([] : Store) x = some (v, [])) (σ : Store) : pure1 σ x = some (v, σ) := by
  cases x with
  | none => cases h
  | some d => simp [pure1] at h ⊢; exact h

theorem ev_nilS {call : CallD} {ρ : Env} {o : DOp} {v : D} (h : o.ev call ρ [] = some (v, [])) (hf : o.freeOk v = true) (σ : Store) : o.ev call ρ σ = some (v, σ) := by
  cases o <;> simp only [DOp.ev] at h ⊢
  case bad => cases h
  case mv x => simpa using h
  case pick c a b => split at h <;> simp_all
  case alloc z => simp at h
  case box x => split at h <;> simp at h
  case boxf x =>
    split at h
    · rename_i d σ1 h1
      obtain ⟨rfl, h2⟩ := frz_nilS _ _ _ _ h1
      rw [h2 σ]
      simp only []
      split at h
      · rename_i hk; rw [if_pos hk]; simpa using h
      · cases h
    · cases h
  case fz x =>
    obtain ⟨_, h2⟩ := frz_nilS _ _ _ _ h
    exact h2 σ
  case pend z => simpa using h
  case init n t x =>
    split at h
    · rename_i d σ1 h1
      obtain ⟨rfl, h2⟩ := frz_nilS _ _ _ _ h1
      rw [h2 σ]
      simp only []
      split at h
      · rename_i hk; rw [if_pos hk]; simpa using h
      · cases h
    · cases h
  case load g a =>
    cases hx : a.ev ρ <;> simp only [hx, loadAt] at h ⊢ <;> first
      | exact pure1_nilS h σ
      | (simp [pure1] at h; done)
  case store n a x =>
    exfalso
    unfold storeAt at h
    split at h
    · rename_i s hs
      split at hs
      · cases hx : a.ev ρ <;> simp [hx] at hs
      · cases hs
    · cases h
  case nilck x => split at h <;> simp_all
  case bin op x y =>
    split at h
    · cases h
    · exact pure1_nilS h σ
  case binb op x y => exact pure1_nilS h σ
  case eqs neg ks x y =>
    split at h
    · rename_i a b ha hb
      split at h
      · simpa using h
      · cases h
    · cases h
  case un op x => exact pure1_nilS h σ
  case conv k x => split at h <;> simp_all
  case same x => split at h <;> simp_all
  case s2b x =>
    split at h
    · split at h <;> simp at h
    · cases h
  case b2s x =>
    cases hx : elems [] (x.ev ρ) with
    | none => rw [hx] at h; simp at h
    | some xs =>
      rw [hx] at h
      rw [elems_nilS hx σ]
      split at h <;> simp_all
  case mkfn g cs => simpa using h
  case build z ps => split at h <;> simp_all
  case buildSl e z ps => split at h <;> simp at h
  case mkSl e b z l c =>
    split at h
    · split at h <;> simp at h
    · cases h
  case sub e x lo hi =>
    split at h
    · rename_i xs hxs
      split at h
      · rename_i a b ha hb
        split at h
        · rename_i r hr
          split at h
          · rename_i hk; rw [if_pos hk]; simpa using h
          · cases h
        · cases h
      · cases h
    · cases h
  case subs x lo hi =>
    split at h
    · rename_i xs hxs
      split at h
      · rename_i a b ha hb
        split at h
        · rename_i r hr
          simpa using h
        · cases h
      · cases h
    · cases h
  case sub0 x =>
    cases hx : elems [] (x.ev ρ) with
    | none => rw [hx] at h; simp at h
    | some xs => rw [hx] at h; rw [elems_nilS hx σ]; simpa using h
  case faddr off x => split at h <;> simp_all
  case field off g x =>
    split at h
    · exact pure1_nilS h σ
    · cases h
  case iaddr e x i =>
    split at h
    · rename_i j hj
      split at h
      · rename_i h0
        rw [if_pos h0]
        cases hx : x.ev ρ <;> simp only [hx] at h ⊢ <;> (try (simp at h; done))
        all_goals (split at h <;> first | (cases h; done) | skip)
        all_goals (split at h <;> first | (cases h; done) | (rename_i hk; rw [if_pos hk]; simpa using h) | (simpa using h))
      · cases h
    · cases h
  case sidx x i =>
    split at h
    · rename_i s j hs hj
      split at h
      · rename_i h0
        rw [if_pos h0]
        split at h
        · simpa using h
        · cases h
      · cases h
    · cases h
  case ext x i =>
    split at h
    · split at h <;> simp_all
    · cases h
  case len x =>
    cases hx : elems [] (x.ev ρ) with
    | none => rw [hx] at h; simp at h
    | some xs => rw [hx] at h; rw [elems_nilS hx σ]; simpa using h
  case lens x => split at h <;> simp_all
  case app e b s x => cases hf
  case call g m as =>
    simp only [DOp.freeOk] at hf
    cases m <;> simp at hf <;> exact callM_nilS (by simp) h hf σ
  case callv f m as =>
    split at h
    · rename_i g caps hfn
      simp only [DOp.freeOk] at hf
      cases m <;> simp at hf <;> exact callM_nilS (by simp) h hf σ
    · cases h

theorem val_nilS {call : CallD} {ρ : Env} {x : DI} {v : D} (h : x.val call ρ [] = some (v, [])) (hf : x.op.freeOk v = true) (σ : Store) : x.val call ρ σ = some (v, σ) := by
  unfold DI.val at h ⊢
  cases hg : x.g with
  | none => rw [hg] at h; exact ev_nilS h hf σ
  | some p =>
    obtain ⟨t, want⟩ := p
    rw [hg] at h
    simp only [] at h ⊢
    cases hb : get ρ t with
    | bool b =>
      rw [hb] at h
      simp only [] at h ⊢
      split at h
      · rename_i hk; rw [if_pos hk]; exact ev_nilS h hf σ
      · rename_i hk; rw [if_neg hk]; simpa using h
    | tup ds =>
      rw [hb] at h
      cases ds with
      | nil => simpa using h
      | cons d ds => cases h
    | _ => rw [hb] at h; cases h

/-! ### any order -/

section
variable (call : CallD) (ops : Array Oper) (is : List (Nat × DI)) (Q : Env → Store → Prop)

def AnyD : Nat → Array Bool → Env → Store → Prop
  | 0, listed, ρ, σ => Region.ready .any ops listed = [] ∧ Q ρ σ
  | fuel + 1, listed, ρ, σ => Region.ready .any ops listed ≠ [] ∧ ∀ i ∈ Region.ready .any ops listed, ∃ n x v σ', is[i]? = some (n, x) ∧ x.val call ρ σ = some (v, σ') ∧ (n ≠ 2 → σ' = σ) ∧ AnyD fuel (listed.setIfInBounds i true) (put ρ x.to v) σ'

/-- while i is not listed, none that turns something can be -/
def SinkInv (i : Nat) (listed : Array Bool) : Prop := ∃ M : Array Bool, M.size = ops.size ∧ (∀ j ∈ Region.ready .any ops M, j = i) ∧ (∀ j x, is[j]? = some (2, x) → j < ops.size → M.getD j true = false) ∧
  (M.getD i true = false) ∧ ∀ k, listed.getD k false = true → M.getD k false = true
end

theorem ready_unlisted {ops : Array Oper} {listed : Array Bool} {j : Nat} (h : j ∈ Region.ready .any ops listed) : listed.getD j true = false ∧ j < ops.size := by
  obtain ⟨h0, o, ho, _⟩ := mem_ready.1 h
  exact ⟨h0, (Array.getElem?_eq_some_iff.1 ho).1⟩

theorem getD_in {M : Array Bool} {j : Nat} (h : j < M.size) (d d' : Bool) : M.getD j d = M.getD j d' := by
  rw [Array.getD_eq_getD_getElem?, Array.getD_eq_getD_getElem?, Array.getElem?_eq_getElem h]
  rfl

theorem ready_grow {ops : Array Oper} {listed M : Array Bool} (hM : M.size = ops.size) (hsub : ∀ k, listed.getD k false = true → M.getD k false = true) {j : Nat} (hj : j ∈ Region.ready .any ops listed) :
    M.getD j false = true ∨ j ∈ Region.ready .any ops M := by
  obtain ⟨h0, o, ho, hall⟩ := mem_ready.1 hj
  have hlt : j < M.size := by rw [hM]; exact (Array.getElem?_eq_some_iff.1 ho).1
  cases e : M.getD j false with
  | true => exact .inl rfl
  | false => exact .inr (mem_ready.2 ⟨by rw [getD_in hlt true false]; exact e, o, ho, fun e he hb => hsub _ (hall e he hb)⟩)

section
variable {call : CallD} {ops : Array Oper} {is : List (Nat × DI)} {Q : Env → Store → Prop}

theorem sink_head {i j n : Nat} {x : DI} {listed : Array Bool} (hs : SinkInv ops is i listed) (hi : is[i]? = some (n, x)) (hn : n ≠ 2) (hj : j ∈ Region.ready .any ops listed) : ∀ y, is[j]? ≠ some (2, y) := by
  intro y hy
  obtain ⟨M, m0, m1, m2, _, m3⟩ := hs
  have hlt := (ready_unlisted hj).2
  have hMj := m2 j y hy hlt
  rcases ready_grow m0 m3 hj with r | r
  · rw [getD_in (by omega) false true, hMj] at r; cases r
  · have := m1 j r
    subst this
    rw [hi] at hy
    cases hy
    exact hn rfl

theorem sink_set {i j : Nat} {listed : Array Bool} (hs : SinkInv ops is i listed) (hj : j ∈ Region.ready .any ops listed) (hij : j ≠ i) : SinkInv ops is i (listed.setIfInBounds j true) := by
  obtain ⟨M, m0, m1, m2, m4, m3⟩ := hs
  refine ⟨M, m0, m1, m2, m4, fun k hk => ?_⟩
  by_cases hkj : j = k
  · subst hkj
    rcases ready_grow m0 m3 hj with r | r
    · exact r
    · exact absurd (m1 j r) hij
  · rw [getD_set_ne false hkj] at hk
    exact m3 k hk

/-- what can be listed while one is not lies within what is left when only it can -/
def Lst (ops : Array Oper) (listed : Array Bool) : Prop := ∀ (i : Nat) (M : Array Bool), M.size = ops.size → (∀ j ∈ Region.ready .any ops M, j = i) → listed.getD i false = false → ∀ k, listed.getD k false = true → M.getD k false = true

theorem Lst.start : Lst ops (Array.replicate ops.size false) := by
  intro i M _ _ _ k hk
  simp only [Array.getD_eq_getD_getElem?, Array.getElem?_replicate] at hk
  split at hk <;> cases hk

theorem Lst.set {listed : Array Bool} {j : Nat} (h : Lst ops listed) (hj : j ∈ Region.ready .any ops listed) (hs : listed.size = ops.size) : Lst ops (listed.setIfInBounds j true) := by
  intro i M m0 m1 hi k hk
  have hlt := (ready_unlisted hj).2
  have hij : j ≠ i := by
    rintro rfl
    simp [hs, hlt] at hi
  rw [getD_set_ne false hij] at hi
  by_cases hkj : j = k
  · subst hkj
    rcases ready_grow m0 (h i M m0 m1 hi) hj with r | r
    · exact r
    · exact absurd (m1 j r) hij
  · rw [getD_set_ne false hkj] at hk
    exact h i M m0 m1 hi k hk

theorem sink_of {i : Nat} {listed : Array Bool} (h : sinkD ops is i = true) (hl : Lst ops listed) (hi : listed.getD i false = false) : SinkInv ops is i listed := by
  unfold sinkD at h
  simp only [Bool.and_eq_true, List.all_eq_true] at h
  obtain ⟨⟨⟨a1, a2⟩, a3⟩, a4⟩ := h
  have b1 : (stuck ops i).size = ops.size := by simpa using a1
  have b2 : ∀ j ∈ Region.ready .any ops (stuck ops i), j = i := fun j hj => by simpa using a3 j hj
  refine ⟨_, b1, b2, fun j x hx q => ?_, by simpa using a2, hl i _ b1 b2 hi⟩
  have := a4 j (List.mem_range.2 q)
  rw [hx] at this
  simpa using this

theorem AnyD.congr (hQ : ∀ ρ ρ' σ, Eqv ρ ρ' → Q ρ σ → Q ρ' σ) : ∀ (fuel : Nat) (listed : Array Bool) (ρ ρ' : Env) (σ : Store), Eqv ρ ρ' → AnyD call ops is Q fuel listed ρ σ → AnyD call ops is Q fuel listed ρ' σ
  | 0, _, _, _, _, e, h => ⟨h.1, hQ _ _ _ e h.2⟩
  | fuel + 1, listed, ρ, ρ', σ, e, h => ⟨h.1, fun i hi => by
      obtain ⟨n, x, v, σ', h1, h2, h3, h4⟩ := h.2 i hi
      refine ⟨n, x, v, σ', h1, ?_, h3, AnyD.congr hQ fuel _ _ _ _ (e.put _ _) h4⟩
      rw [← h2]
      exact DI.val_congr fun t _ => (e t).symm⟩

/-- one whose value hangs on nothing that the others turn may be the first -/
theorem AnyD.first (hQ : ∀ ρ ρ' σ, Eqv ρ ρ' → Q ρ σ → Q ρ' σ) {i n : Nat} {x : DI} {v : D} (hi : is[i]? = some (n, x)) (hn : n ≠ 2) :
    ∀ (fuel : Nat) (listed : Array Bool) (ρ : Env) (σ : Store), (n = 0 → ∀ σ, x.val call ρ σ = some (v, σ)) → (n ≠ 0 → SinkInv ops is i listed) →
      (∀ j oj y, ops[j]? = some oj → is[j]? = some y → j ≠ i → listed.getD j true = false → (∀ e ∈ oj.after, Region.binds .any e = true → e.on ≠ i) → apartD x y.2 = true) →
      i ∈ Region.ready .any ops listed → x.val call ρ σ = some (v, σ) →
      AnyD call ops is Q fuel (listed.setIfInBounds i true) (put ρ x.to v) σ → AnyD call ops is Q (fuel + 1) listed ρ σ := by
  intro fuel
  induction fuel with
  | zero =>
    intro listed ρ σ hz hsk _ hr hy H
    refine ⟨fun e => (by rw [e] at hr; cases hr), fun j hj => ?_⟩
    by_cases hji : j = i
    · subst hji; exact ⟨n, x, v, σ, hi, hy, fun _ => rfl, H⟩
    · exfalso
      have := ready_mono hj hji
      rw [H.1] at this
      cases this
  | succ fuel ih =>
    intro listed ρ σ hz hsk hfree hr hy H
    refine ⟨fun e => (by rw [e] at hr; cases hr), fun j hj => ?_⟩
    by_cases hji : j = i
    · subst hji; exact ⟨n, x, v, σ, hi, hy, fun _ => rfl, H⟩
    · obtain ⟨m, y, u, σ1, hyj, hyv, hyq, h1⟩ := H.2 j (ready_mono hj hji)
      obtain ⟨hjun, oj, hoj, hall⟩ := mem_ready.1 hj
      have hnot : ∀ e ∈ oj.after, Region.binds .any e = true → e.on ≠ i := fun e he hb heq => by
        have h1 := hall e he hb
        have h0 := (mem_ready.1 hr).1
        rw [heq] at h1
        rcases Nat.lt_or_ge i listed.size with h' | h'
        · simp [h'] at h0 h1; rw [h0] at h1; cases h1
        · simp [Array.getElem?_eq_none h'] at h1
      obtain ⟨a1, a2, a3⟩ := apartD_spec (hfree j oj _ hoj hyj hji hjun hnot)
      have hfree' : ∀ k ok z, ops[k]? = some ok → is[k]? = some z → k ≠ i → (listed.setIfInBounds j true).getD k true = false →
          (∀ e ∈ ok.after, Region.binds .any e = true → e.on ≠ i) → apartD x z.2 = true := fun k ok z hk hz hki hun hno => by
        refine hfree k ok z hk hz hki ?_ hno
        by_cases hjk : j = k
        · subst hjk; exact hjun
        · rw [getD_set_ne true hjk] at hun; exact hun
      have hx1 : x.val call (put ρ y.to u) σ1 = some (v, σ1) := by
        rw [val_put a3]
        by_cases h0 : n = 0
        · exact hz h0 σ1
        · have hm : m ≠ 2 := fun e => by subst e; exact sink_head (hsk h0) hi hn hj _ hyj
          rw [hyq hm]
          exact hy
      refine ⟨m, y, u, σ1, hyj, by rw [← hyv]; exact (val_put a1).symm, hyq, ih (listed.setIfInBounds j true) _ σ1 (fun h0 σ2 => by rw [val_put a3]; exact hz h0 σ2) (fun h0 => sink_set (hsk h0) hj hji) hfree' (ready_mono hr (Ne.symm hji)) hx1 ?_⟩
      rw [Array.setIfInBounds_comm _ _ (Ne.symm (Ne.symm hji))]
      refine AnyD.congr hQ _ _ _ _ _ (fun t => ?_) h1
      rw [get_put, get_put, get_put, get_put]
      by_cases hx : x.to = some t
      · rw [if_neg (a2 t hx), if_pos hx, if_pos hx]
      · rw [if_neg hx, if_neg hx]

theorem freeD_spec {k : Nat} {x : DI} {listed : Array Bool} (h : freeD ops is listed k x = true) (j : Nat) (oj : Oper) (y : Nat × DI) (hj : ops[j]? = some oj) (hy : is[j]? = some y) (hne : j ≠ k) (hun : listed.getD j true = false)
    (hno : ∀ e ∈ oj.after, Region.binds .any e = true → e.on ≠ k) : apartD x y.2 = true := by
  simp only [freeD, List.all_eq_true, List.mem_range] at h
  have hlt : j < is.length := by
    rcases Nat.lt_or_ge j is.length with q | q
    · exact q
    · rw [List.getElem?_eq_none q] at hy; cases hy
  have h1 := h j hlt
  simp only [hj, hy, Bool.or_eq_true, beq_iff_eq, hne, false_or, hun, Bool.false_eq_true] at h1
  rcases h1 with h1 | h1
  · obtain ⟨e, he, hb⟩ := Array.any_eq_true'.1 h1
    simp only [Bool.and_eq_true, beq_iff_eq] at hb
    exact absurd hb.2 (hno e he hb.1)
  · exact h1

theorem drop_succ' {α : Type} {l : List α} {k : Nat} {x : α} {r : List α} (h : l.drop k = x :: r) : l[k]? = some x ∧ l.drop (k + 1) = r := by
  constructor
  · have : (l.drop k)[0]? = some x := by rw [h]; rfl
    simpa using this
  · have : l.drop (k + 1) = (l.drop k).drop 1 := by rw [List.drop_drop]
    rw [this, h]; rfl

/-- the others, in their one order -/
theorem anyD_tail {ρf : Env} {σf : Store} : ∀ (ms : List Bool) (hs : List (Nat × DI)) (ts : List DI) (k : Nat) (listed : Array Bool) (ρ : Env) (σ : Store), is.drop k = weave ms hs ts → (weave ms hs ts).length = ms.length → hs.length + ts.length = ms.length → tailD ops ms k listed = true → evIs call ts ρ σ = some (ρf, σf) →
    AnyD call ops is (fun ρ σ => Eqv ρf ρ ∧ σ = σf) ((ms.filter id).length) listed ρ σ
  | [], hs, ts, k, listed, ρ, σ, hd, hw, hl, ht, h => by
    have : ts = [] := by
      cases ts with
      | nil => rfl
      | cons t ts => simp at hl
    subst this
    simp [evIs] at h
    obtain ⟨rfl, rfl⟩ := h
    exact ⟨by simpa [tailD] using ht, fun t => rfl, rfl⟩
  | false :: ms, hs, ts, k, listed, ρ, σ, hd, hw, hl, ht, h => by
    cases hs with
    | nil => simp [weave] at hw
    | cons x hs =>
      simp only [weave] at hd hw
      have := anyD_tail ms hs ts (k + 1) listed ρ σ (drop_succ' hd).2 (by simpa using hw) (by simp at hl; omega) (by simpa [tailD] using ht) h
      simpa using this
  | true :: ms, hs, ts, k, listed, ρ, σ, hd, hw, hl, ht, h => by
    cases ts with
    | nil => simp [weave] at hw
    | cons t ts =>
      simp only [weave] at hd hw
      simp only [tailD, Bool.and_eq_true, beq_iff_eq] at ht
      simp only [evIs, DI.ev_val] at h
      cases hv : t.val call ρ σ with
      | none => rw [hv] at h; cases h
      | some p =>
        obtain ⟨v, σ1⟩ := p
        rw [hv] at h
        simp only [Option.map_some] at h
        have ih := anyD_tail ms hs ts (k + 1) (listed.setIfInBounds k true) (put ρ t.to v) σ1 (drop_succ' hd).2 (by simpa using hw) (by simp at hl; omega) ht.2 h
        have e : ((true :: ms).filter id).length = (ms.filter id).length + 1 := by simp
        rw [e]
        refine ⟨by rw [ht.1]; simp, fun i hi => ?_⟩
        rw [ht.1] at hi
        have hi : i = k := by simpa using hi
        subst hi
        exact ⟨2, t, v, σ1, (drop_succ' hd).1, hv, fun q => absurd rfl q, ih⟩

/-- those that turn nothing, ahead -/
theorem anyD_lex (hQ : ∀ ρ ρ' σ, Eqv ρ ρ' → Q ρ σ → Q ρ' σ) {σ : Store} {tn : Nat} {listed' : Array Bool} {ρ1 : Env} : ∀ (ms : List Bool) (hs : List (Nat × DI)) (ts : List DI) (k : Nat) (listed : Array Bool) (ρ : Env), is.drop k = weave ms hs ts → (weave ms hs ts).length = ms.length → hs.length + ts.length = ms.length → listed.size = ops.size → Lst ops listed →
    lexD ops is ms hs k listed = some listed' → evH call hs ρ σ = some ρ1 → AnyD call ops is Q tn listed' ρ1 σ → AnyD call ops is Q ((ms.filter (!·)).length + tn) listed ρ σ
  | [], hs, ts, k, listed, ρ, hd, hw, hl, hsz, hL, ht, h, H => by
    have : hs = [] := by
      cases hs with
      | nil => rfl
      | cons t ts => simp at hl
    subst this
    simp [evH] at h
    simp [lexD] at ht
    subst h ht
    simpa using H
  | true :: ms, hs, ts, k, listed, ρ, hd, hw, hl, hsz, hL, ht, h, H => by
    cases ts with
    | nil => simp [weave] at hw
    | cons x ts =>
      simp only [weave] at hd hw
      have := anyD_lex hQ ms hs ts (k + 1) listed ρ (drop_succ' hd).2 (by simpa using hw) (by simp at hl; omega) hsz hL (by simpa [lexD] using ht) h H
      simpa using this
  | false :: ms, hs, ts, k, listed, ρ, hd, hw, hl, hsz, hL, ht, h, H => by
    cases hs with
    | nil => simp [weave] at hw
    | cons p hs =>
      obtain ⟨n, x⟩ := p
      simp only [weave] at hd hw
      simp only [lexD] at ht
      split at ht
      · rename_i hcond
        simp only [Bool.and_eq_true, bne_iff_ne, ne_eq, Bool.or_eq_true, beq_iff_eq] at hcond
        obtain ⟨⟨⟨c1, c2⟩, c3⟩, c4⟩ := hcond
        have hr : k ∈ Region.ready .any ops listed := by simpa using c1
        have hun : listed.getD k false = false := by
          have := ready_unlisted hr
          rw [getD_in (by omega) false true]; exact this.1
        have key : ∃ v, x.val call ρ σ = some (v, σ) ∧ (n = 0 → ∀ σ, x.val call ρ σ = some (v, σ)) ∧ evH call hs (put ρ x.to v) σ = some ρ1 := by
          cases n with
          | zero =>
            simp only [evH] at h
            split at h
            · rename_i d hv
              split at h
              · rename_i hf
                exact ⟨d, val_nilS hv hf σ, fun _ => val_nilS hv hf, h⟩
              · cases h
            · cases h
          | succ n =>
            simp only [evH] at h
            split at h
            · rename_i d σ' hv
              split at h
              · rename_i he
                subst he
                exact ⟨d, hv, by simp, h⟩
              · cases h
            · cases h
        obtain ⟨v, hv, h0, hE⟩ := key
        have ih := anyD_lex hQ ms hs ts (k + 1) (listed.setIfInBounds k true) (put ρ x.to v) (drop_succ' hd).2 (by simpa using hw) (by simp at hl; omega) (by simpa using hsz) (hL.set hr hsz) ht hE H
        have e : ((false :: ms).filter (!·)).length + tn = (ms.filter (!·)).length + tn + 1 := by simp; omega
        rw [e]
        exact AnyD.first hQ (drop_succ' hd).1 c3 _ _ _ _ h0 (fun q => sink_of (c4.resolve_left q) hL hun) (fun j oj y hj hy hne hu hno => freeD_spec c2 j oj y hj hy hne hu hno) hr hv ih
      · cases ht
end

/-! ### the model's regions -/

theorem mapO_get {α β : Type} {f : α → Option β} {as : List α} {bs : List β} (h : mapO f as = some bs) {i : Nat} {b : β} (hb : bs[i]? = some b) : ∃ a, as[i]? = some a ∧ f a = some b := by
  induction as generalizing bs i with
  | nil => simp [mapO] at h; subst h; simp at hb
  | cons a as ih =>
    simp only [mapO] at h
    split at h
    · rename_i b' hb'
      split at h
      · rename_i bs' hbs
        cases h
        cases i with
        | zero => simp at hb; subst hb; exact ⟨a, rfl, hb'⟩
        | succ i => simpa using ih hbs (by simpa using hb)
      · cases h
    · cases h
theorem mapO_length {α β : Type} {f : α → Option β} {as : List α} {bs : List β} (h : mapO f as = some bs) : bs.length = as.length := by
  induction as generalizing bs with
  | nil => simp [mapO] at h; subst h; rfl
  | cons a as ih =>
    simp only [mapO] at h
    split at h
    · split at h
      · rename_i hbs
        cases h
        simp [ih hbs]
      · cases h
    · cases h

section
variable {num : Cfg} {S S' : Mem} {I I' : Inf} {σ σ' : Store} {w w' : World} {P : Program} {N : Names}
variable (hN : ∀ f g, N.gid f = some g → num g = f) {call : CallD} (hg : Good num P call) {ρ ρ' : Env} {a : Act} {o : Oper} {nt : Nat} {K : Act → World → Prop} {Q : Exit → Act → World → Prop}
include hN hg

theorem list_sound {ops : Array Oper} {S0 : Mem} {I0 : Inf} {σ0 : Store} {w0 : World} {df : List Deferred}
    (hK : ∀ a' w' S' I', RT num S' I' ρ' a'.tmps → Post num S0 I0 σ0 w0 S' I' σ' w' → a'.defers = df → a'.tmps.size = nt → Q .normal a' w') :
    ∀ (is : List DI) (l : List Oper) (pd : List (Nat × List D)) {S : Mem} {I : Inf} {σ : Store} {w : World} {ρ : Env} {a : Act}, mapO (compileI P N nt ops) l = some (unghost is) → pendL pd is = true → evIs call is ρ σ = some (ρ', σ') →
    Post num S0 I0 σ0 w0 S I σ w → RT num S I ρ a.tmps → Pnd num w0.heap.size pd S I σ w a.tmps → a.defers = df → a.tmps.size = nt → wpList P ops Q l a w
  | [], l, pd, S, I, σ, w, ρ, a, hc, hpl, h, hp, hr, hpn, hd, hs => by
    have : l = [] := by
      cases l with
      | nil => rfl
      | cons o l =>
        simp only [mapO, unghost] at hc
        split at hc
        · split at hc <;> cases hc
        · cases hc
    subst this
    simp [evIs] at h
    obtain ⟨rfl, rfl⟩ := h
    exact hK a w S I hr hp hd hs
  | i :: is, l, pd, S, I, σ, w, ρ, a, hc, hpl, h, hp, hr, hpn, hd, hs => by
    simp only [unghost] at hc
    simp only [pendL] at hpl
    split at hc
    · rename_i hgh
      rw [if_pos hgh] at hpl
      simp only [evIs] at h
      split at h
      · rename_i ρ1 σ1 h1
        obtain ⟨dst, op, g⟩ := i
        unfold DI.ghost at hgh
        split at hgh
        · rename_i t u heq
          simp only [beq_iff_eq] at hgh
          cases heq
          subst hgh
          simp only [DI.ev, DI.val, DI.to, DOp.ev] at h1
          split at h1
          · rename_i d σ2 hd'
            cases h1
            obtain ⟨S1, p1, q1, _⟩ := frz_sound 8 hd' hp.inv (hr t)
            have r1 : RT num S1 I (put ρ (some t) d) a.tmps := fun v => by
              rw [get_put]
              split
              · rename_i e; cases e; exact q1
              · exact Rep.mono p1.s p1.i _ _ (hr v)
            exact list_sound hK is l pd hc hpl h (hp.trans p1) r1 (hpn.beside p1 fun _ _ => rfl) hd hs
          · cases h1
        · cases hgh
      · cases h
    · rename_i hgh
      rw [if_neg hgh] at hpl
      cases l with
      | nil => simp [mapO] at hc
      | cons o l =>
        simp only [mapO] at hc
        split at hc
        · rename_i di hdi
          split at hc
          · rename_i is' his
            simp only [Option.some.injEq, List.cons.injEq] at hc
            obtain ⟨rfl, rfl⟩ := hc
            simp only [evIs] at h
            split at h
            · rename_i ρ1 σ1 h1
              split at hpl
              · rename_i pd' hps
                exact di_sound hN hg hdi hps h1 hp hr hpn hs (K := wpList P ops Q l) fun a1 w1 S1 I1 r1 p1 q1 d1 s1 =>
                  list_sound hK is l pd' his hpl h p1 r1 q1 (d1.trans hd) s1
              · cases hpl
            · cases h
          · cases hc
        · cases hc

omit hN hg in
/-- which variables are being made -/
def PdInv (is : List (Nat × DI)) (listed : Array Bool) (pd : List (Nat × List D)) : Prop :=
  (∀ p ∈ pd, ∃ j n, is[j]? = some (n, ⟨some p.1, .pend p.2, none⟩) ∧ listed.getD j false = true) ∧
  ∀ j n t zs, is[j]? = some (n, ⟨some t, .pend zs, none⟩) → listed.getD j false = true → (∀ k m c x, is[k]? = some (m, ⟨none, .init c t x, none⟩) → listed.getD k false = false) → (t, zs) ∈ pd

omit hN hg in
theorem pendD_pend {ops : Array Oper} {is : List (Nat × DI)} (h : pendD ops is = true) {j n : Nat} {dst : Option Nat} {zs : List D} {g : Option (Nat × Bool)} (hj : is[j]? = some (n, ⟨dst, .pend zs, g⟩)) :
    g = none ∧ (∃ t, dst = some t) ∧ ∀ i m y, is[i]? = some (m, y) → i ≠ j → y.dst ≠ dst := by
  have hlt : j < is.length := (List.getElem?_eq_some_iff.1 hj).1
  simp only [pendD, List.all_eq_true, List.mem_range] at h
  have h1 := h j hlt
  simp only [hj, Bool.and_eq_true, List.all_eq_true, List.mem_range, Bool.or_eq_true, beq_iff_eq, bne_iff_ne, Option.isNone_iff_eq_none, Option.isSome_iff_exists] at h1
  obtain ⟨⟨a1, a2⟩, a3⟩ := h1
  refine ⟨a1, a2, fun i m y hi hne => ?_⟩
  have := (a3 i (List.getElem?_eq_some_iff.1 hi).1).resolve_left hne
  simp only [hi, bne_iff_ne] at this
  exact this

omit hN hg in
theorem pendD_init {ops : Array Oper} {is : List (Nat × DI)} (h : pendD ops is = true) {j n c t : Nat} {dst : Option Nat} {x : Opd} {g : Option (Nat × Bool)} (hj : is[j]? = some (n, ⟨dst, .init c t x, g⟩)) :
    g = none ∧ dst = none ∧ (∃ i m zs g' oj, is[i]? = some (m, ⟨some t, .pend zs, g'⟩) ∧ zs.length = c ∧ ops[j]? = some oj ∧ ∃ e ∈ oj.after, Region.binds .any e = true ∧ e.on = i) ∧ ∀ i m y, is[i]? = some (m, y) → i ≠ j → y.op.tgt ≠ some t := by
  have hlt : j < is.length := (List.getElem?_eq_some_iff.1 hj).1
  simp only [pendD, List.all_eq_true, List.mem_range] at h
  have h1 := h j hlt
  simp only [hj, Bool.and_eq_true, List.all_eq_true, List.mem_range, Bool.or_eq_true, beq_iff_eq, bne_iff_ne, Option.isNone_iff_eq_none, List.any_eq_true] at h1
  obtain ⟨⟨⟨a1, a2⟩, i, hi, a3⟩, a4⟩ := h1
  refine ⟨a1, a2, ?_, fun i m y hi hne => ?_⟩
  · split at a3
    · rename_i n' u zs g' oj h2 h3
      simp only [Bool.and_eq_true, beq_iff_eq] at a3
      obtain ⟨⟨b1, b2⟩, b3⟩ := a3
      subst b1
      obtain ⟨e, he, hb⟩ := Array.any_eq_true'.1 b3
      simp only [Bool.and_eq_true, beq_iff_eq] at hb
      exact ⟨i, n', zs, g', oj, h2, b2, h3, e, he, hb⟩
    · cases a3
  · have := (a4 i (List.getElem?_eq_some_iff.1 hi).1).resolve_left hne
    simp only [hi, bne_iff_ne] at this
    exact this

omit hN hg in
theorem PdInv.step {ops : Array Oper} {is : List (Nat × DI)} {listed : Array Bool} {pd : List (Nat × List D)} (h : pendD ops is = true) (hpi : PdInv is listed pd) (hsz : listed.size = ops.size) {i n : Nat} {x : DI} (hi : is[i]? = some (n, x)) (hr : i ∈ Region.ready .any ops listed) :
    ∃ pd', pendS pd x = some pd' ∧ PdInv is (listed.setIfInBounds i true) pd' := by
  obtain ⟨hB, hA⟩ := hpi
  have hlt := (ready_unlisted hr).2
  have hun : listed.getD i false = false := by rw [getD_in (by omega) false true]; exact (ready_unlisted hr).1
  have hset : (listed.setIfInBounds i true).getD i false = true := by simp [hsz, hlt]
  have up : ∀ j, listed.getD j false = true → (listed.setIfInBounds i true).getD j false = true := fun j => getD_set_true
  have dn : ∀ j, (listed.setIfInBounds i true).getD j false = false → listed.getD j false = false := fun j hj => by
    cases e : listed.getD j false with
    | false => rfl
    | true => rw [up j e] at hj; cases hj
  obtain ⟨dst, op, g⟩ := x
  have other : op.pends = false → ∃ pd', pendS pd ⟨dst, op, g⟩ = some pd' ∧ PdInv is (listed.setIfInBounds i true) pd' := by
    intro hn
    have e : pendS pd ⟨dst, op, g⟩ = pendN pd dst := by cases op <;> first | rfl | cases hn
    have e2 : pendN pd dst = some pd := by
      cases dst with
      | none => rfl
      | some t =>
        simp only [pendN]
        rw [if_neg]
        intro hm
        simp only [List.contains_eq_mem, List.mem_map, decide_eq_true_eq] at hm
        obtain ⟨p, hp, he⟩ := hm
        obtain ⟨j, m, h1, h2⟩ := hB p hp
        have hij : i ≠ j := by
          rintro rfl
          rw [hi] at h1
          cases h1
          cases hn
        exact (pendD_pend h h1).2.2 i n _ hi hij (by rw [he])
    refine ⟨pd, e.trans e2, fun p hp => ?_, fun j m t zs h1 h2 h3 => ?_⟩
    · obtain ⟨j, m, h1, h2⟩ := hB p hp
      exact ⟨j, m, h1, up j h2⟩
    · have hij : i ≠ j := by
        rintro rfl
        rw [hi] at h1
        cases h1
        cases hn
      rw [getD_set_ne false hij] at h2
      exact hA j m t zs h1 h2 fun k m c x hk => dn k (h3 k m c x hk)
  cases op
  case pend zs =>
    obtain ⟨rfl, ⟨t, rfl⟩, huq⟩ := pendD_pend h hi
    have hnot : (pd.map Prod.fst).contains t = false := by
      rw [Bool.eq_false_iff]
      intro hm
      simp only [List.contains_eq_mem, List.mem_map, decide_eq_true_eq] at hm
      obtain ⟨p, hp, he⟩ := hm
      obtain ⟨j, m, h1, h2⟩ := hB p hp
      have hij : j ≠ i := by
        rintro rfl
        rw [hun] at h2; cases h2
      exact huq j m _ h1 hij (by rw [← he])
    refine ⟨(t, zs) :: pd, by simp only [pendS, hnot, Bool.false_eq_true, if_false], fun p hp => ?_, fun j m t' zs' h1 h2 h3 => ?_⟩
    · rcases List.mem_cons.1 hp with e | hp
      · subst e; exact ⟨i, n, hi, hset⟩
      · obtain ⟨j, m, h1, h2⟩ := hB p hp
        exact ⟨j, m, h1, up j h2⟩
    · by_cases hij : i = j
      · subst hij
        rw [hi] at h1
        cases h1
        exact List.mem_cons_self
      · rw [getD_set_ne false hij] at h2
        exact List.mem_cons_of_mem _ (hA j m t' zs' h1 h2 fun k m c x hk => dn k (h3 k m c x hk))
  case init c t y =>
    obtain ⟨rfl, rfl, ⟨i', m, zs, g', oj, h1, h2, h3, e, he, hb, heq⟩, huq⟩ := pendD_init h hi
    obtain ⟨rfl, _, _⟩ := pendD_pend h h1
    have hli : listed.getD i' false = true := by
      obtain ⟨_, o', ho', hall⟩ := mem_ready.1 hr
      rw [h3] at ho'
      cases ho'
      rw [← heq]
      exact hall e he hb
    have hmem : (t, zs) ∈ pd := hA i' m t zs h1 hli fun k m c' x' hk => by
      by_cases hki : k = i
      · subst hki; exact hun
      · exact absurd rfl (huq k m _ hk hki)
    have hany : (pd.any fun p => p.1 == t && p.2.length == c) = true := List.any_eq_true.2 ⟨_, hmem, by simp [h2]⟩
    refine ⟨pd.filter fun p => p.1 != t, by simp only [pendS, hany, if_true], fun p hp => ?_, fun j m t' zs' k1 k2 k3 => ?_⟩
    · obtain ⟨j, m, h1, h2⟩ := hB p (List.mem_filter.1 hp).1
      exact ⟨j, m, h1, up j h2⟩
    · have hij : i ≠ j := by
        rintro rfl
        rw [hi] at k1
        cases k1
      rw [getD_set_ne false hij] at k2
      have ht : t' ≠ t := by
        rintro rfl
        have := k3 i n c y hi
        rw [hset] at this; cases this
      exact List.mem_filter.2 ⟨hA j m t' zs' k1 k2 fun k m c x hk => dn k (k3 k m c x hk), by simpa using ht⟩
  all_goals exact other rfl

theorem any_sound {ops : Array Oper} {is : List (Nat × DI)} {ρf : Env} {σf : Store} (hc : mapO (compileI P N nt ops) ops.toList = some (is.map fun p => p.2.bare)) (hpd : pendD ops is = true) {S0 : Mem} {I0 : Inf} {σ0 : Store} {w0 : World} {df : List Deferred}
    (hK : ∀ a' w' S' I', RT num S' I' ρf a'.tmps → Post num S0 I0 σ0 w0 S' I' σf w' → a'.defers = df → a'.tmps.size = nt → Q .normal a' w') :
    ∀ (fuel : Nat) (listed : Array Bool) (pd : List (Nat × List D)) {ρ : Env} {S : Mem} {I : Inf} {σ : Store} {w : World} {a : Act}, AnyD call ops is (fun ρ σ => Eqv ρf ρ ∧ σ = σf) fuel listed ρ σ → listed.size = ops.size → PdInv is listed pd → Post num S0 I0 σ0 w0 S I σ w → RT num S I ρ a.tmps → Pnd num w0.heap.size pd S I σ w a.tmps → a.defers = df → a.tmps.size = nt →
      wpAny P .any ops Q fuel listed a w
  | 0, listed, pd, ρ, S, I, σ, w, a, h, hsz, hpi, hp, hr, hpn, hd, hs' => by
    obtain ⟨h1, h2, rfl⟩ := h
    exact ⟨h1, hK a w S I (fun t => by rw [h2 t]; exact hr t) hp hd hs'⟩
  | fuel + 1, listed, pd, ρ, S, I, σ, w, a, h, hsz, hpi, hp, hr, hpn, hd, hs' => by
    refine ⟨fun h0 => absurd h0 h.1, fun i hi => ?_⟩
    obtain ⟨n, x, v, σ1, h1, h2, _, h3⟩ := h.2 i hi
    obtain ⟨pd', q1, q2⟩ := hpi.step hpd hsz h1 hi
    obtain ⟨o, e1, e2⟩ := mapO_get hc (b := x.bare) (i := i) (by rw [List.getElem?_map, h1]; rfl)
    have e3 : ops[i]? = some o := by simpa using e1
    unfold wpOp
    rw [e3]
    exact di_sound hN hg e2 q1 (ρ' := put ρ x.to v) (σ' := σ1) (by rw [DI.ev_val, h2]; rfl) hp hr hpn hs' fun a1 w1 S1 I1 r1 p1 n1 d1 s1 =>
      any_sound hc hpd hK fuel _ pd' h3 (by simpa using hsz) q2 p1 r1 n1 (d1.trans hd) s1

theorem region_sound {ops : Array Oper} {is : List DI} {id : Nat} (hc : mapO (compileI P N nt ops) ops.toList = some (unghost is)) (hok : pendL [] is = true) (h : evIs call is ρ σ = some (ρ', σ')) (hv : Inv num S I σ w) (hr : RT num S I ρ a.tmps) (hs : a.tmps.size = nt)
    (hK : ∀ a' w' S' I', RT num S' I' ρ' a'.tmps → Post num S I σ w S' I' σ' w' → a'.defers = a.defers → a'.tmps.size = nt → Q .normal a' w') : (Code.region id ops false).wp P Q a w :=
  wp_region_list (list_sound hN hg hK _ _ [] hc hok h (Post.refl hv) hr Pnd.nil rfl hs)

omit hN hg in
theorem weave_bare {ms : List Bool} {hs : List (Nat × DI)} {ts : List DI} {is : List DI} (h : is.map (fun i => (0, i)) = (weave ms hs ts).map fun p => (0, p.2.bare)) : is = (weave ms hs ts).map fun p => p.2.bare := by
  have := congrArg (List.map (Prod.snd (α := Nat))) h
  simpa [Function.comp_def] using this

omit hN hg in
theorem count_ms : ∀ (ms : List Bool), (ms.filter (!·)).length + (ms.filter id).length = ms.length
  | [] => rfl
  | true :: ms => by have := count_ms ms; simp at this ⊢; omega
  | false :: ms => by have := count_ms ms; simp at this ⊢; omega

theorem draw_sound (hm : P.follows .mixedOrders = true) {ops : Array Oper} {ms : List Bool} {hs : List (Nat × DI)} {ts : List DI} {is : List DI} {ρ1 : Env} {id : Nat} (hc : mapO (compileI P N nt ops) ops.toList = some is) (hb : is.map (fun i => (0, i)) = (weave ms hs ts).map fun p => (0, p.2.bare)) (hok : anyOk ops ms hs ts = true) (h : evH call hs ρ σ = some ρ1)
    (h2 : evIs call ts ρ1 σ = some (ρ', σ')) (hv : Inv num S I σ w) (hr : RT num S I ρ a.tmps) (hs' : a.tmps.size = nt)
    (hK : ∀ a' w' S' I', RT num S' I' ρ' a'.tmps → Post num S I σ w S' I' σ' w' → a'.defers = a.defers → a'.tmps.size = nt → Q .normal a' w') : (Code.region id ops true).wp P Q a w := by
  refine wp_region_any hm ?_
  rw [weave_bare hb] at hc
  simp only [anyOk, Bool.and_eq_true, decide_eq_true_eq] at hok
  obtain ⟨⟨⟨⟨k1, k2⟩, k3⟩, k4⟩, k5⟩ := hok
  split at k5
  · rename_i listed hlex
    have hwl : (weave ms hs ts).length = ms.length := k1.trans k2.symm
    have h0 := anyD_tail (call := call) (ops := ops) (is := weave ms hs ts) ms hs ts 0 listed ρ1 σ (by simp) hwl (k3.trans k2.symm) k5 h2
    have hQ : ∀ (ρ ρ2 : Env) (σ : Store), Eqv ρ ρ2 → (Eqv ρ' ρ ∧ σ = σ') → (Eqv ρ' ρ2 ∧ σ = σ') := fun ρ ρ2 σ e q => ⟨fun t => (q.1 t).trans (e t), q.2⟩
    have h1 := anyD_lex (call := call) (ops := ops) (is := weave ms hs ts) hQ ms hs ts 0 (Array.replicate ops.size false) ρ (by simp) hwl (k3.trans k2.symm) (by simp) Lst.start hlex h h0
    rw [count_ms, k2] at h1
    have hpi : PdInv (weave ms hs ts) (Array.replicate ops.size false) [] := ⟨by simp, fun j n t zs _ hl _ => by
      simp only [Array.getD_eq_getD_getElem?, Array.getElem?_replicate] at hl
      split at hl <;> cases hl⟩
    exact any_sound hN hg hc k4 (w0 := w) hK _ _ [] h1 (by simp) hpi (post_drawn (n := w.drawn + 1) hv) hr Pnd.nil rfl hs'
  · cases k5
end
end Go.DM
