/- Loops by what they carry from round to round. -/
import Derived.Test.YtpidjgefokgplaaSim
set_option linter.unusedVariables false
set_option linter.unusedSimpArgs false
set_option linter.unnecessarySimpa false
namespace Go.DM
open Go

theorem get_keepOnly {ks : List Nat} {ρ : Env} {t : Nat} (h : t ∈ ks) : get (keepOnly ks ρ) t = get ρ t := by
  induction ks with
  | nil => cases h
  | cons k ks ih =>
    simp only [keepOnly, List.map_cons, get] at ih ⊢
    split
    · rename_i e; rw [e]
    · rename_i e
      rcases List.mem_cons.1 h with q | q
      · exact absurd q.symm e
      · exact ih q
theorem keepOnly_idem (ks : List Nat) (ρ : Env) : keepOnly ks (keepOnly ks ρ) = keepOnly ks ρ := by
  unfold keepOnly
  refine List.map_congr_left fun t ht => ?_
  have := get_keepOnly (ρ := ρ) ht
  unfold keepOnly at this
  rw [this]

section
variable {Γ : Tab} {L b : DCode} {ks : List Nat} {sc : Option (List Nat)}
theorem EvC_round (hL : L = .loop ks sc b) (ρ : Env) (σ : Store) : EvC Γ L ρ σ = andThen (trimS sc σ.length (EvC Γ b (keepOnly ks ρ) σ)) (EvC Γ L) := by
  subst hL
  exact EvC_loop ks sc b ρ σ
theorem EvC_enter (hL : L = .loop ks sc b) {ρ ρ' : Env} (h : keepOnly ks ρ = keepOnly ks ρ') (σ : Store) : EvC Γ L ρ σ = EvC Γ L ρ' σ := by
  rw [EvC_round hL, EvC_round hL ρ', h]

/-- by a measure -/
theorem loop_meas {R S : Type} (hL : L = .loop ks sc b) (K : Out → R) (μ : S → Nat) (Q : S → Prop) (E : S → Env) (T : S → Store) (F : S → R)
    (h : ∀ s, Q s → (∀ s' ρ', μ s' < μ s → Q s' → keepOnly ks ρ' = E s' → K (EvC Γ L ρ' (T s')) = F s') → K (andThen (trimS sc (T s).length (EvC Γ b (E s) (T s))) (EvC Γ L)) = F s) :
    ∀ s ρ, Q s → keepOnly ks ρ = E s → K (EvC Γ L ρ (T s)) = F s := by
  have key : ∀ n s, μ s < n → ∀ ρ, Q s → keepOnly ks ρ = E s → K (EvC Γ L ρ (T s)) = F s := by
    intro n
    induction n with
    | zero => intro s hs; omega
    | succ n ih =>
      intro s hs ρ hq hρ
      rw [EvC_round hL, hρ]
      exact h s hq fun s' ρ' hm hq' hρ' => ih s' (by omega) ρ' hq' hρ'
  exact fun s ρ => key _ s (Nat.lt_succ_self _) ρ

/-- over the elements of a list, in their order -/
theorem loop_list {R S α : Type} (hL : L = .loop ks sc b) (K : Out → R) (xs : List α) (E : Nat → S → Env) (T : Nat → S → Store) (F : Nat → List α → S → R)
    (hn : ∀ s, K (andThen (trimS sc (T xs.length s).length (EvC Γ b (E xs.length s) (T xs.length s))) (EvC Γ L)) = F xs.length [] s)
    (hc : ∀ i x r s, xs[i]? = some x → i < xs.length → xs.drop (i + 1) = r → (∀ s' ρ', keepOnly ks ρ' = E (i + 1) s' → K (EvC Γ L ρ' (T (i + 1) s')) = F (i + 1) r s') →
      K (andThen (trimS sc (T i s).length (EvC Γ b (E i s) (T i s))) (EvC Γ L)) = F i (x :: r) s) :
    ∀ s ρ, keepOnly ks ρ = E 0 s → K (EvC Γ L ρ (T 0 s)) = F 0 xs s := by
  have key : ∀ r i, xs.drop i = r → i ≤ xs.length → ∀ s ρ, keepOnly ks ρ = E i s → K (EvC Γ L ρ (T i s)) = F i r s := by
    intro r
    induction r with
    | nil =>
      intro i hr hi s ρ hρ
      have : i = xs.length := by
        have := List.drop_eq_nil_iff.1 hr
        omega
      subst this
      rw [EvC_round hL, hρ]
      exact hn s
    | cons x r ih =>
      intro i hr hi s ρ hρ
      have hlt : i < xs.length := by
        rcases Nat.lt_or_ge i xs.length with q | q
        · exact q
        · rw [List.drop_eq_nil_iff.2 q] at hr; cases hr
      rw [List.drop_eq_getElem_cons hlt] at hr
      cases hr
      rw [EvC_round hL, hρ]
      exact hc i _ _ s (List.getElem?_eq_getElem hlt) hlt rfl fun s' ρ' hρ' => ih (i + 1) rfl hlt s' ρ' hρ'
  exact fun s ρ => key xs 0 rfl (Nat.zero_le _) s ρ

/-- a count from a number up to another -/
theorem loop_nat {R S : Type} (hL : L = .loop ks sc b) (K : Out → R) (n : Nat) (E : Nat → S → Env) (T : Nat → S → Store) (F : Nat → S → R)
    (hn : ∀ s, K (andThen (trimS sc (T n s).length (EvC Γ b (E n s) (T n s))) (EvC Γ L)) = F n s)
    (hc : ∀ i s, i < n → (∀ s' ρ', keepOnly ks ρ' = E (i + 1) s' → K (EvC Γ L ρ' (T (i + 1) s')) = F (i + 1) s') → K (andThen (trimS sc (T i s).length (EvC Γ b (E i s) (T i s))) (EvC Γ L)) = F i s) :
    ∀ i s ρ, i ≤ n → keepOnly ks ρ = E i s → K (EvC Γ L ρ (T i s)) = F i s := by
  have key : ∀ d i, n - i = d → i ≤ n → ∀ s ρ, keepOnly ks ρ = E i s → K (EvC Γ L ρ (T i s)) = F i s := by
    intro d
    induction d with
    | zero =>
      intro i hd hi s ρ hρ
      have : i = n := by omega
      subst this
      rw [EvC_round hL, hρ]
      exact hn s
    | succ d ih =>
      intro i hd hi s ρ hρ
      rw [EvC_round hL, hρ]
      exact hc i s (by omega) fun s' ρ' hρ' => ih (i + 1) (by omega) (by omega) s' ρ' hρ'
  exact fun i s ρ hi => key _ i rfl hi s ρ
end

/-! ### numbers -/
theorem wrap64 {n : Int} (h0 : -9223372036854775808 ≤ n) (h1 : n < 9223372036854775808) : IntKind.wrap .i64 n = n := by
  unfold IntKind.wrap
  simp [IntKind.bits, IntKind.signed]
  omega
theorem wrap64_succ {i n : Nat} (h : i < n) (hn : n ≤ 9223372036854775807) : IntKind.wrap .i64 ((i : Int) + 1) = (i : Int) + 1 := wrap64 (by omega) (by omega)
end Go.DM
