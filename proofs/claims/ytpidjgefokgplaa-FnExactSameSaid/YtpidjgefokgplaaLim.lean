/- The machine without fuel: limits of the evaluator, and the equations they obey. -/
import Derived.Test.YtpidjgefokgplaaMach
set_option linter.unnecessarySimpa false
set_option linter.unusedVariables false
set_option linter.unusedSimpArgs false
set_option linter.unusedSectionVars false
namespace Go.DM
open Go

def LeO {α : Type} (x y : Option α) : Prop := ∀ r, x = some r → y = some r
theorem LeO.refl {α : Type} (x : Option α) : LeO x x := fun _ h => h
theorem LeO.trans {α : Type} {x y z : Option α} (h : LeO x y) (k : LeO y z) : LeO x z := fun r e => k r (h r e)
def CallLe (c c' : CallD) : Prop := ∀ g args σ, LeO (c g args σ) (c' g args σ)

theorem callIn_mono {c c' : CallD} (h : CallLe c c') (g : Nat) (ds : List D) (σ : Store) : LeO (callIn c g ds σ) (callIn c' g ds σ) := by
  intro r e
  unfold callIn callAt at *
  split at e
  · rename_i hn
    rw [if_pos hn]
    split at e
    · rename_i es τ h1 h2
      split at e
      · rename_i r1 τ' h3
        rw [h _ _ _ _ h3]
        exact e
      · cases e
    · cases e
  · cases e

theorem borIn_mono {c c' : CallD} (h : CallLe c c') (g : Nat) (ds : List D) (σ : Store) : LeO (borIn c g ds σ) (borIn c' g ds σ) := by
  intro r e
  unfold borIn at *
  split at e
  · rename_i r1 τ h1
    rw [h _ _ _ _ h1]
    exact e
  · cases e

theorem callM_mono {c c' : CallD} (h : CallLe c c') (m : CM) (g : Nat) (as caps : List D) (σ : Store) : LeO (callM c m g as caps σ) (callM c' m g as caps σ) := by
  unfold callM
  cases m <;> simp only []
  · split
    · exact callIn_mono h _ _ _
    · exact LeO.refl _
  · exact callIn_mono h _ _ _
  · split
    · exact borIn_mono h _ _ _
    · exact LeO.refl _
  · exact h _ _ _

theorem DOp.ev_mono {c c' : CallD} (h : CallLe c c') (o : DOp) (ρ : Env) (σ : Store) : LeO (o.ev c ρ σ) (o.ev c' ρ σ) := by
  cases o
  case call g m as => exact callM_mono h _ _ _ _ _
  case callv f m as =>
    simp only [DOp.ev]
    split
    · exact callM_mono h _ _ _ _ _
    · exact LeO.refl _
  all_goals exact LeO.refl _

theorem DI.val_mono {c c' : CallD} (h : CallLe c c') (i : DI) (ρ : Env) (σ : Store) : LeO (i.val c ρ σ) (i.val c' ρ σ) := by
  intro r e
  unfold DI.val at *
  split at e
  · exact DOp.ev_mono h _ _ _ _ e
  · split at e
    · split at e
      · rename_i hb
        rw [if_pos hb]
        exact DOp.ev_mono h _ _ _ _ e
      · rename_i hb
        rw [if_neg hb]
        exact e
    · exact e
    · cases e

theorem DI.ev_mono {c c' : CallD} (h : CallLe c c') (i : DI) (ρ : Env) (σ : Store) : LeO (i.ev c ρ σ) (i.ev c' ρ σ) := by
  intro r e
  unfold DI.ev at *
  split at e
  · rename_i h1
    rw [DI.val_mono h _ _ _ _ h1]
    exact e
  · cases e

theorem evIs_mono {c c' : CallD} (h : CallLe c c') (is : List DI) (ρ : Env) (σ : Store) : LeO (evIs c is ρ σ) (evIs c' is ρ σ) := by
  induction is generalizing ρ σ with
  | nil => exact LeO.refl _
  | cons i is ih =>
    intro r e
    simp only [evIs] at *
    split at e
    · rename_i h1
      rw [DI.ev_mono h _ _ _ _ h1]
      exact ih _ _ r e
    · cases e

theorem evH_mono {c c' : CallD} (h : CallLe c c') (is : List (Nat × DI)) (ρ : Env) (σ : Store) : LeO (evH c is ρ σ) (evH c' is ρ σ) := by
  induction is generalizing ρ with
  | nil => exact LeO.refl _
  | cons p is ih =>
    obtain ⟨n, i⟩ := p
    intro r e
    cases n with
    | zero =>
      simp only [evH] at *
      split at e
      · rename_i h1
        rw [DI.val_mono h _ _ _ _ h1]
        simp only []
        split at e
        · rename_i hs
          rw [if_pos hs]
          exact ih _ r e
        · cases e
      · cases e
    | succ n =>
      simp only [evH] at *
      split at e
      · rename_i h1
        rw [DI.val_mono h _ _ _ _ h1]
        simp only []
        split at e
        · rename_i hs
          rw [if_pos hs]
          exact ih _ r e
        · cases e
      · cases e

theorem andThen_mono {x y : Out} {f g : Env → Store → Out} (h : LeO x y) (k : ∀ ρ σ, LeO (f ρ σ) (g ρ σ)) : LeO (andThen x f) (andThen y g) := by
  intro r e
  cases x with
  | none => simp [andThen] at e
  | some p =>
    rw [h p rfl]
    obtain ⟨ex, ρ, σ⟩ := p
    cases ex with
    | norm => exact k ρ σ r e
    | exit id => exact e
    | ret => exact e

theorem inBlk_mono {id : Nat} {ks : List Nat} {x y : Out} (h : LeO x y) : LeO (inBlk id ks x) (inBlk id ks y) := by
  intro r e
  cases x with
  | none => simp [inBlk] at e
  | some p => rw [h p rfl]; exact e

theorem trimS_mono {sc : Option (List Nat)} {n : Nat} {x y : Out} (h : LeO x y) : LeO (trimS sc n x) (trimS sc n y) := by
  intro r e
  cases x with
  | none => cases sc <;> simp [trimS, inScope] at e
  | some p => rw [h p rfl]; exact e

theorem iter_mono {f g : Env → Store → Out} (h : ∀ ρ σ, LeO (f ρ σ) (g ρ σ)) : ∀ {n m : Nat}, n ≤ m → ∀ ρ σ, LeO (iter f n ρ σ) (iter g m ρ σ)
  | 0, _, _, ρ, σ => fun r e => by simp [iter] at e
  | n + 1, 0, hnm, ρ, σ => by omega
  | n + 1, m + 1, hnm, ρ, σ => andThen_mono (h ρ σ) fun ρ σ => iter_mono h (by omega) ρ σ

theorem evC_mono {c c' : CallD} (h : CallLe c c') {n m : Nat} (hnm : n ≤ m) (code : DCode) (ρ : Env) (σ : Store) : LeO (evC c n code ρ σ) (evC c' m code ρ σ) := by
  induction code generalizing ρ σ with
  | skip => exact LeO.refl _
  | exit id => exact LeO.refl _
  | ret ks => exact LeO.refl _
  | bad => exact LeO.refl _
  | reg is =>
    intro r e
    simp only [evC] at *
    cases h1 : evIs c is ρ σ with
    | none => rw [h1] at e; simp [ofIs] at e
    | some p => rw [evIs_mono h _ _ _ _ h1, ← h1]; exact e
  | badr is => exact LeO.refl _
  | any ms hs ts =>
    intro r e
    simp only [evC] at *
    cases h1 : evH c hs ρ σ with
    | none => rw [h1] at e; cases e
    | some ρ1 =>
      rw [h1] at e
      rw [evH_mono h _ _ _ _ h1]
      simp only [] at e ⊢
      cases h2 : evIs c ts ρ1 σ with
      | none => rw [h2] at e; simp [ofIs] at e
      | some p => rw [evIs_mono h _ _ _ _ h2, ← h2]; exact e
  | seq a b iha ihb => exact andThen_mono (iha ρ σ) ihb
  | cond x a b iha ihb =>
    simp only [evC]
    split
    · exact iha ρ σ
    · exact ihb ρ σ
    · exact LeO.refl _
  | block id ks b ih => exact inBlk_mono (ih ρ σ)
  | loop ks sc b ih => exact iter_mono (fun ρ σ => trimS_mono (ih _ σ)) hnm ρ σ

theorem finish_mono {σ0 : Store} {df : DFn} {x y : Out} (h : LeO x y) : LeO (finish σ0 df x) (finish σ0 df y) := by
  intro r e
  cases x with
  | none => simp [finish] at e
  | some p => rw [h p rfl]; exact e

theorem evF_step {Γ : Tab} : ∀ n, CallLe (evF Γ n) (evF Γ (n + 1))
  | 0, g, args, σ => fun r e => by simp [evF] at e
  | n + 1, g, args, σ => by
    have ih := evF_step (Γ := Γ) n
    rw [evF, evF]
    split
    · split
      · exact finish_mono (evC_mono ih (by omega) _ _ _)
      · exact LeO.refl _
    · exact LeO.refl _
    · exact LeO.refl _

theorem evF_mono {Γ : Tab} {n m : Nat} (h : n ≤ m) : CallLe (evF Γ n) (evF Γ m) := by
  induction h with
  | refl => exact fun _ _ _ => LeO.refl _
  | step _ ih => exact fun g args σ => (ih g args σ).trans (evF_step _ g args σ)

/-! ### limits -/

def Ev {α : Type} (f : Nat → α) (x : α) : Prop := ∃ N, ∀ n, N ≤ n → f n = x

theorem Ev.unique {α : Type} {f : Nat → α} {x y : α} (h : Ev f x) (k : Ev f y) : x = y := by
  obtain ⟨N, h⟩ := h
  obtain ⟨M, k⟩ := k
  rw [← h (max N M) (by omega), k (max N M) (by omega)]
theorem Ev.const {α : Type} (x : α) : Ev (fun _ => x) x := ⟨0, fun _ _ => rfl⟩

open Classical in
noncomputable def lim {α : Type} (f : Nat → Option α) : Option α := if h : ∃ n r, f n = some r then f h.choose else none

theorem lim_ev {α : Type} {f : Nat → Option α} (hf : ∀ n m, n ≤ m → LeO (f n) (f m)) : Ev f (lim f) := by
  unfold lim
  split
  · rename_i h
    obtain ⟨r, hr⟩ := h.choose_spec
    refine ⟨h.choose, fun n hn => ?_⟩
    rw [hr]
    exact hf _ _ hn r hr
  · rename_i h
    refine ⟨0, fun n _ => ?_⟩
    cases e : f n with
    | none => rfl
    | some r => exact absurd ⟨n, r, e⟩ h

theorem lim_some {α : Type} {f : Nat → Option α} {r : α} (h : lim f = some r) : ∃ n, f n = some r := by
  unfold lim at h
  split at h
  · exact ⟨_, h⟩
  · cases h

noncomputable def EvF (Γ : Tab) : CallD := fun g args σ => lim fun n => evF Γ n g args σ
noncomputable def EvC (Γ : Tab) (c : DCode) (ρ : Env) (σ : Store) : Out := lim fun n => evC (evF Γ n) n c ρ σ

variable {Γ : Tab}

theorem evF_ev (g : Nat) (args : List D) (σ : Store) : Ev (fun n => evF Γ n g args σ) (EvF Γ g args σ) := lim_ev fun _ _ h => evF_mono h g args σ
theorem evC_ev (c : DCode) (ρ : Env) (σ : Store) : Ev (fun n => evC (evF Γ n) n c ρ σ) (EvC Γ c ρ σ) := lim_ev fun _ _ h => evC_mono (evF_mono h) h c ρ σ

theorem EvF_some {g : Nat} {args : List D} {σ : Store} {r : D × Store} (h : EvF Γ g args σ = some r) : ∃ n, evF Γ n g args σ = some r := lim_some h

theorem callIn_ev (g : Nat) (ds : List D) (σ : Store) : Ev (fun n => callIn (evF Γ n) g ds σ) (callIn (EvF Γ) g ds σ) := by
  unfold callIn callAt
  generalize reach σ 3 (addRefs [] (D.refsL ds)) = ls
  split
  · cases h1 : D.renL (posOf ls) ds with
    | none => exact Ev.const _
    | some es =>
      cases h2 : subStore σ (posOf ls) ls with
      | none => exact Ev.const _
      | some τ =>
        obtain ⟨N, hN⟩ := evF_ev (Γ := Γ) g es τ
        exact ⟨N, fun n hn => by simp only [hN n hn]⟩
  · exact Ev.const _

theorem borIn_ev (g : Nat) (ds : List D) (σ : Store) : Ev (fun n => borIn (evF Γ n) g ds σ) (borIn (EvF Γ) g ds σ) := by
  obtain ⟨N, hN⟩ := evF_ev (Γ := Γ) g ds []
  exact ⟨N, fun n hn => by unfold borIn; simp only [hN n hn]⟩

theorem callM_ev (m : CM) (g : Nat) (as caps : List D) (σ : Store) : Ev (fun n => callM (evF Γ n) m g as caps σ) (callM (EvF Γ) m g as caps σ) := by
  unfold callM
  cases m <;> simp only []
  · split
    · exact callIn_ev _ _ _
    · exact Ev.const _
  · exact callIn_ev _ _ _
  · split
    · exact borIn_ev _ _ _
    · exact Ev.const _
  · exact evF_ev _ _ _

theorem DOp.ev_ev (o : DOp) (ρ : Env) (σ : Store) : Ev (fun n => o.ev (evF Γ n) ρ σ) (o.ev (EvF Γ) ρ σ) := by
  cases o
  case call g m as => exact callM_ev _ _ _ _ _
  case callv f m as =>
    simp only [DOp.ev]
    split
    · exact callM_ev _ _ _ _ _
    · exact Ev.const _
  all_goals exact Ev.const _

theorem DI.val_ev (i : DI) (ρ : Env) (σ : Store) : Ev (fun n => i.val (evF Γ n) ρ σ) (i.val (EvF Γ) ρ σ) := by
  obtain ⟨N, hN⟩ := DOp.ev_ev (Γ := Γ) i.op ρ σ
  exact ⟨N, fun n hn => by unfold DI.val; simp only [hN n hn]⟩
theorem DI.ev_ev (i : DI) (ρ : Env) (σ : Store) : Ev (fun n => i.ev (evF Γ n) ρ σ) (i.ev (EvF Γ) ρ σ) := by
  obtain ⟨N, hN⟩ := DI.val_ev (Γ := Γ) i ρ σ
  exact ⟨N, fun n hn => by unfold DI.ev; simp only [hN n hn]⟩

theorem evIs_ev (is : List DI) (ρ : Env) (σ : Store) : Ev (fun n => evIs (evF Γ n) is ρ σ) (evIs (EvF Γ) is ρ σ) := by
  induction is generalizing ρ σ with
  | nil => exact Ev.const _
  | cons i is ih =>
    obtain ⟨N, hN⟩ := DI.ev_ev (Γ := Γ) i ρ σ
    cases h : i.ev (EvF Γ) ρ σ with
    | none => exact ⟨N, fun n hn => by simp only [evIs, hN n hn, h]⟩
    | some p =>
      obtain ⟨ρ1, σ1⟩ := p
      obtain ⟨M, hM⟩ := ih ρ1 σ1
      exact ⟨max N M, fun n hn => by simp only [evIs, hN n (by omega), h]; exact hM n (by omega)⟩

theorem evH_ev (is : List (Nat × DI)) (ρ : Env) (σ : Store) : Ev (fun n => evH (evF Γ n) is ρ σ) (evH (EvF Γ) is ρ σ) := by
  induction is generalizing ρ with
  | nil => exact Ev.const _
  | cons p is ih =>
    obtain ⟨k, i⟩ := p
    cases k with
    | zero =>
      obtain ⟨N, hN⟩ := DI.val_ev (Γ := Γ) i ρ []
      cases h : i.val (EvF Γ) ρ [] with
      | none => exact ⟨N, fun n hn => by simp only [evH, hN n hn, h]⟩
      | some p =>
        obtain ⟨d, σ1⟩ := p
        obtain ⟨M, hM⟩ := ih (put ρ i.to d)
        refine ⟨max N M, fun n hn => ?_⟩
        cases σ1 with
        | nil => simp only [evH, hN n (by omega), h, hM n (by omega)]
        | cons b σ1 => simp only [evH, hN n (by omega), h]
    | succ k =>
      obtain ⟨N, hN⟩ := DI.val_ev (Γ := Γ) i ρ σ
      cases h : i.val (EvF Γ) ρ σ with
      | none => exact ⟨N, fun n hn => by simp only [evH, hN n hn, h]⟩
      | some p =>
        obtain ⟨d, σ1⟩ := p
        obtain ⟨M, hM⟩ := ih (put ρ i.to d)
        refine ⟨max N M, fun n hn => ?_⟩
        simp only [evH, hN n (by omega), h, hM n (by omega)]

theorem Ev.andThen {f : Nat → Out} {g : Nat → Env → Store → Out} {x : Out} {y : Env → Store → Out} (h : Ev f x) (k : ∀ ρ σ, Ev (fun n => g n ρ σ) (y ρ σ)) : Ev (fun n => andThen (f n) (g n)) (DM.andThen x y) := by
  obtain ⟨N, hN⟩ := h
  cases x with
  | none => exact ⟨N, fun n hn => by simp only [hN n hn]; rfl⟩
  | some p =>
    obtain ⟨e, ρ, σ⟩ := p
    cases e with
    | norm =>
      obtain ⟨M, hM⟩ := k ρ σ
      exact ⟨max N M, fun n hn => by simp only [hN n (by omega)]; exact hM n (by omega)⟩
    | exit id => exact ⟨N, fun n hn => by simp only [hN n hn]; rfl⟩
    | ret => exact ⟨N, fun n hn => by simp only [hN n hn]; rfl⟩

theorem EvC_skip (ρ : Env) (σ : Store) : EvC Γ .skip ρ σ = some (.norm, ρ, σ) := (evC_ev _ ρ σ).unique (Ev.const _)
theorem EvC_exit (id : Nat) (ρ : Env) (σ : Store) : EvC Γ (.exit id) ρ σ = some (.exit id, ρ, σ) := (evC_ev _ ρ σ).unique (Ev.const _)
theorem EvC_bad (ρ : Env) (σ : Store) : EvC Γ .bad ρ σ = none := (evC_ev _ ρ σ).unique (Ev.const _)
theorem EvC_ret (ks : List Nat) (ρ : Env) (σ : Store) : EvC Γ (.ret ks) ρ σ = some (.ret, keepOnly ks ρ, σ) := (evC_ev _ ρ σ).unique (Ev.const _)
theorem EvC_reg (is : List DI) (ρ : Env) (σ : Store) : EvC Γ (.reg is) ρ σ = ofIs (evIs (EvF Γ) is ρ σ) := by
  obtain ⟨N, hN⟩ := evIs_ev (Γ := Γ) is ρ σ
  exact (evC_ev _ ρ σ).unique ⟨N, fun n hn => by simp only [evC, hN n hn]⟩
theorem EvC_badr (is : List DI) (ρ : Env) (σ : Store) : EvC Γ (.badr is) ρ σ = none := (evC_ev _ ρ σ).unique (Ev.const _)
theorem EvC_any (ms : List Bool) (hs : List (Nat × DI)) (ts : List DI) (ρ : Env) (σ : Store) : EvC Γ (.any ms hs ts) ρ σ = match evH (EvF Γ) hs ρ σ with
    | some ρ1 => ofIs (evIs (EvF Γ) ts ρ1 σ)
    | none => none := by
  obtain ⟨N, hN⟩ := evH_ev (Γ := Γ) hs ρ σ
  refine (evC_ev _ ρ σ).unique ?_
  cases h : evH (EvF Γ) hs ρ σ with
  | none => exact ⟨N, fun n hn => by simp only [evC, hN n hn, h]⟩
  | some ρ1 =>
    obtain ⟨M, hM⟩ := evIs_ev (Γ := Γ) ts ρ1 σ
    exact ⟨max N M, fun n hn => by simp only [evC, hN n (by omega), h, hM n (by omega)]⟩
theorem EvC_seq (a b : DCode) (ρ : Env) (σ : Store) : EvC Γ (.seq a b) ρ σ = andThen (EvC Γ a ρ σ) (EvC Γ b) := by
  refine (evC_ev _ ρ σ).unique ?_
  simp only [evC]
  exact (evC_ev a ρ σ).andThen fun ρ σ => evC_ev b ρ σ
theorem EvC_cond (c : Opd) (a b : DCode) (ρ : Env) (σ : Store) : EvC Γ (.cond c a b) ρ σ = match c.ev ρ with
    | .bool true => EvC Γ a ρ σ
    | .bool false => EvC Γ b ρ σ
    | _ => none := by
  refine (evC_ev _ ρ σ).unique ?_
  simp only [evC]
  cases c.ev ρ with
  | bool t => cases t with
    | true => exact evC_ev a ρ σ
    | false => exact evC_ev b ρ σ
  | _ => exact Ev.const _
theorem EvC_block (id : Nat) (ks : List Nat) (b : DCode) (ρ : Env) (σ : Store) : EvC Γ (.block id ks b) ρ σ = inBlk id ks (EvC Γ b ρ σ) := by
  obtain ⟨N, hN⟩ := evC_ev (Γ := Γ) b ρ σ
  exact (evC_ev _ ρ σ).unique ⟨N, fun n hn => by simp only [evC, hN n hn]⟩
theorem Ev.trimS {f : Nat → Out} {x : Out} {sc : Option (List Nat)} {m : Nat} (h : Ev f x) : Ev (fun n => trimS sc m (f n)) (DM.trimS sc m x) := by
  obtain ⟨N, hN⟩ := h
  exact ⟨N, fun n hn => by simp only [hN n hn]⟩
theorem EvC_loop (ks : List Nat) (sc : Option (List Nat)) (b : DCode) (ρ : Env) (σ : Store) : EvC Γ (.loop ks sc b) ρ σ = andThen (trimS sc σ.length (EvC Γ b (keepOnly ks ρ) σ)) (EvC Γ (.loop ks sc b)) := by
  have h1 : ∀ ρ σ, Ev (fun n => iter (fun ρ σ => trimS sc σ.length (evC (evF Γ n) n b (keepOnly ks ρ) σ)) (n - 1) ρ σ) (EvC Γ (.loop ks sc b) ρ σ) := by
    intro ρ σ
    have h2 : ∀ n m, n ≤ m → ∀ i j, i ≤ j → LeO (iter (fun ρ σ => trimS sc σ.length (evC (evF Γ n) n b (keepOnly ks ρ) σ)) i ρ σ) (iter (fun ρ σ => trimS sc σ.length (evC (evF Γ m) m b (keepOnly ks ρ) σ)) j ρ σ) := fun n m hnm i j hij =>
      iter_mono (fun ρ σ => trimS_mono (evC_mono (evF_mono hnm) hnm _ _ _)) hij ρ σ
    cases hl : EvC Γ (.loop ks sc b) ρ σ with
    | some r =>
      obtain ⟨m, hm⟩ := lim_some hl
      simp only [evC] at hm
      exact ⟨m + 1, fun n hn => h2 m n (by omega) m (n - 1) (by omega) r hm⟩
    | none =>
      obtain ⟨N, hN⟩ := evC_ev (Γ := Γ) (.loop ks sc b) ρ σ
      rw [hl] at hN
      refine ⟨N, fun n hn => ?_⟩
      have := hN n hn
      simp only [evC] at this
      cases he : iter (fun ρ σ => trimS sc σ.length (evC (evF Γ n) n b (keepOnly ks ρ) σ)) (n - 1) ρ σ with
      | none => exact he
      | some r =>
        rw [h2 n n (Nat.le_refl _) (n - 1) n (by omega) r he] at this
        cases this
  refine (evC_ev _ ρ σ).unique ?_
  obtain ⟨N, hN⟩ := (Ev.trimS (sc := sc) (m := σ.length) (evC_ev (Γ := Γ) b (keepOnly ks ρ) σ)).andThen h1
  refine ⟨N + 1, fun n hn => ?_⟩
  rw [← hN n (by omega)]
  simp only [evC]
  obtain ⟨m, rfl⟩ : ∃ m, n = m + 1 := ⟨n - 1, by omega⟩
  rfl
theorem EvF_code {g : Nat} {df : DFn} (h : Γ g = some (.code df)) (args : List D) (σ : Store) : EvF Γ g args σ = if args.length = df.np then finish σ df (EvC Γ df.body (enterE 0 args) σ) else none := by
  obtain ⟨N, hN⟩ := evC_ev (Γ := Γ) df.body (enterE 0 args) σ
  refine (evF_ev g args σ).unique ⟨N + 1, fun n hn => ?_⟩
  obtain ⟨m, rfl⟩ : ∃ m, n = m + 1 := ⟨n - 1, by omega⟩
  simp only [evF, h, hN m (by omega)]
theorem EvF_law {g : Nat} {f : List D → Store → Option (D × Store)} (h : Γ g = some (.law f)) (args : List D) (σ : Store) : EvF Γ g args σ = f args σ := by
  refine (evF_ev g args σ).unique ⟨1, fun n hn => ?_⟩
  obtain ⟨m, rfl⟩ : ∃ m, n = m + 1 := ⟨n - 1, by omega⟩
  simp only [evF, h]
end Go.DM
