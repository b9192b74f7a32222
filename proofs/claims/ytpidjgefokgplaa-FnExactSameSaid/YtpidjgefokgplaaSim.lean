/- Reckoning with the machine: equations for simp. -/
import Derived.Test.YtpidjgefokgplaaLim
set_option linter.unnecessarySimpa false
set_option linter.unusedVariables false
set_option linter.unusedSimpArgs false
set_option linter.unusedSectionVars false
namespace Go.DM
open Go

/-! ### one thing after another -/

def bindD {α : Type} (x : Option (D × Store)) (f : D → Store → Option α) : Option α :=
  match x with
  | some (d, σ) => f d σ
  | none => none
@[congr] theorem bindD_congr {α : Type} {x y : Option (D × Store)} {f : D → Store → Option α} (h : x = y) : bindD x f = bindD y f := by rw [h]
@[simp] theorem bindD_some {α : Type} (d : D) (σ : Store) (f : D → Store → Option α) : bindD (some (d, σ)) f = f d σ := (rfl)
@[simp] theorem bindD_none {α : Type} (f : D → Store → Option α) : bindD none f = none := rfl
theorem bindD_ite {α : Type} (c : Prop) [Decidable c] (x y : Option (D × Store)) (f : D → Store → Option α) : bindD (if c then x else y) f = if c then bindD x f else bindD y f := by split <;> rfl

def condE (d : D) (x y : Out) : Out :=
  match d with
  | .bool true => x
  | .bool false => y
  | _ => none
@[congr] theorem condE_congr {d e : D} {x y : Out} (h : d = e) : condE d x y = condE e x y := by rw [h]
@[simp] theorem condE_true (x y : Out) : condE (.bool true) x y = x := rfl
@[simp] theorem condE_false (x y : Out) : condE (.bool false) x y = y := rfl
@[simp] theorem condE_bool (b : Bool) (x y : Out) : condE (.bool b) x y = if b = true then x else y := by cases b <;> rfl

@[congr] theorem andThen_congr {x y : Out} {f : Env → Store → Out} (h : x = y) : andThen x f = andThen y f := by rw [h]
@[simp] theorem andThen_norm (ρ : Env) (σ : Store) (f : Env → Store → Out) : andThen (some (.norm, ρ, σ)) f = f ρ σ := rfl
@[simp] theorem andThen_exit (id : Nat) (ρ : Env) (σ : Store) (f : Env → Store → Out) : andThen (some (.exit id, ρ, σ)) f = some (.exit id, ρ, σ) := rfl
@[simp] theorem andThen_ret (ρ : Env) (σ : Store) (f : Env → Store → Out) : andThen (some (.ret, ρ, σ)) f = some (.ret, ρ, σ) := rfl
@[simp] theorem andThen_none (f : Env → Store → Out) : andThen none f = none := rfl
theorem andThen_ite (c : Prop) [Decidable c] (x y : Out) (f : Env → Store → Out) : andThen (if c then x else y) f = if c then andThen x f else andThen y f := by split <;> rfl
@[congr] theorem inBlk_congr {id : Nat} {ks : List Nat} {x y : Out} (h : x = y) : inBlk id ks x = inBlk id ks y := by rw [h]
@[simp] theorem inBlk_norm (id : Nat) (ks : List Nat) (ρ : Env) (σ : Store) : inBlk id ks (some (.norm, ρ, σ)) = some (.norm, keepOnly ks ρ, σ) := rfl
@[simp] theorem inBlk_exit (id id' : Nat) (ks : List Nat) (ρ : Env) (σ : Store) : inBlk id ks (some (.exit id', ρ, σ)) = if id' = id then some (.norm, keepOnly ks ρ, σ) else some (.exit id', ρ, σ) := rfl
@[simp] theorem inBlk_ret (id : Nat) (ks : List Nat) (ρ : Env) (σ : Store) : inBlk id ks (some (.ret, ρ, σ)) = some (.ret, ρ, σ) := rfl
@[simp] theorem inBlk_none (id : Nat) (ks : List Nat) : inBlk id ks none = none := rfl
theorem inBlk_ite (id : Nat) (ks : List Nat) (c : Prop) [Decidable c] (x y : Out) : inBlk id ks (if c then x else y) = if c then inBlk id ks x else inBlk id ks y := by split <;> rfl
@[simp] theorem ofIs_some (ρ : Env) (σ : Store) : ofIs (some (ρ, σ)) = some (.norm, ρ, σ) := rfl
@[simp] theorem ofIs_none : ofIs none = none := rfl
theorem ofIs_ite (c : Prop) [Decidable c] (x y : Option (Env × Store)) : ofIs (if c then x else y) = if c then ofIs x else ofIs y := by split <;> rfl

/-! ### code -/
section
variable {Γ : Tab}
attribute [simp ↓] EvC_skip EvC_exit EvC_ret EvC_bad EvC_badr EvC_reg EvC_seq EvC_block
@[simp ↓] theorem EvC_cond' (c : Opd) (a b : DCode) (ρ : Env) (σ : Store) : EvC Γ (.cond c a b) ρ σ = condE (c.ev ρ) (EvC Γ a ρ σ) (EvC Γ b ρ σ) := by
  rw [EvC_cond]
  cases c.ev ρ <;> first | rfl | (rename_i t; cases t <;> rfl)
def thenIs (call : CallD) (ts : List DI) (σ : Store) (x : Option Env) : Out :=
  match x with
  | some ρ => ofIs (evIs call ts ρ σ)
  | none => none
@[simp ↓] theorem thenIs_some (call : CallD) (ts : List DI) (σ : Store) (ρ : Env) : thenIs call ts σ (some ρ) = ofIs (evIs call ts ρ σ) := (rfl)
@[simp] theorem thenIs_none (call : CallD) (ts : List DI) (σ : Store) : thenIs call ts σ none = none := rfl
theorem thenIs_ite (call : CallD) (ts : List DI) (σ : Store) (c : Prop) [Decidable c] (x y : Option Env) : thenIs call ts σ (if c then x else y) = if c then thenIs call ts σ x else thenIs call ts σ y := by split <;> rfl
@[simp ↓] theorem EvC_any' (ms : List Bool) (hs : List (Nat × DI)) (ts : List DI) (ρ : Env) (σ : Store) : EvC Γ (.any ms hs ts) ρ σ = thenIs (EvF Γ) ts σ (evH (EvF Γ) hs ρ σ) := by
  rw [EvC_any]; rfl
end

section
variable {call : CallD} {ρ : Env} {σ : Store}
@[simp ↓] theorem get_nil (t : Nat) : get [] t = .bot := rfl
@[simp ↓] theorem get_cons (u : Nat) (d : D) (r : Env) (t : Nat) : get ((u, d) :: r) t = if u = t then d else get r t := rfl
@[simp ↓] theorem put_some (t : Nat) (d : D) : put ρ (some t) d = (t, d) :: ρ := rfl
@[simp ↓] theorem put_none (d : D) : put ρ none d = ρ := rfl
@[simp ↓] theorem Opd.ev_t (i : Nat) : Opd.ev ρ (.t i) = get ρ i := rfl
@[simp ↓] theorem Opd.ev_c (d : D) : Opd.ev ρ (.c d) = d := rfl
attribute [simp] enterE keepOnly

def gateE (g : D) (w : Bool) (x : Option (D × Store)) (σ : Store) : Option (D × Store) :=
  match g with
  | .bool b => if b = w then x else some (.tup [], σ)
  | .tup [] => some (.tup [], σ)
  | _ => none
@[congr] theorem gateE_congr {g h : D} {w : Bool} {x : Option (D × Store)} (e : g = h) : gateE g w x σ = gateE h w x σ := by rw [e]
@[simp] theorem gateE_bool (b w : Bool) (x : Option (D × Store)) : gateE (.bool b) w x σ = if b = w then x else some (.tup [], σ) := (rfl)
@[simp] theorem gateE_off (w : Bool) (x : Option (D × Store)) : gateE (.tup []) w x σ = some (.tup [], σ) := (rfl)
@[simp ↓] theorem evIs_nil : evIs call [] ρ σ = some (ρ, σ) := rfl
def tgtE (o : DOp) (d : D) (ρ : Env) : Env := put ρ o.tgt d
@[simp ↓] theorem tgtE_init (n t x d ρ) : tgtE (.init n t x) d ρ = (t, d) :: ρ := rfl
@[simp ↓] theorem tgtE_bad (d_ ρ_) : tgtE .bad d_ ρ_ = ρ_ := rfl
@[simp ↓] theorem tgtE_mv (x_ d_ ρ_) : tgtE (.mv x_) d_ ρ_ = ρ_ := rfl
@[simp ↓] theorem tgtE_pick (a_ b_ c_ d_ ρ_) : tgtE (.pick a_ b_ c_) d_ ρ_ = ρ_ := rfl
@[simp ↓] theorem tgtE_alloc (z_ d_ ρ_) : tgtE (.alloc z_) d_ ρ_ = ρ_ := rfl
@[simp ↓] theorem tgtE_box (x_ d_ ρ_) : tgtE (.box x_) d_ ρ_ = ρ_ := rfl
@[simp ↓] theorem tgtE_boxf (x_ d_ ρ_) : tgtE (.boxf x_) d_ ρ_ = ρ_ := rfl
@[simp ↓] theorem tgtE_fz (x_ d_ ρ_) : tgtE (.fz x_) d_ ρ_ = ρ_ := rfl
@[simp ↓] theorem tgtE_pend (z_ d_ ρ_) : tgtE (.pend z_) d_ ρ_ = ρ_ := rfl
@[simp ↓] theorem tgtE_load (g_ x_ d_ ρ_) : tgtE (.load g_ x_) d_ ρ_ = ρ_ := rfl
@[simp ↓] theorem tgtE_store (n_ a_ x_ d_ ρ_) : tgtE (.store n_ a_ x_) d_ ρ_ = ρ_ := rfl
@[simp ↓] theorem tgtE_nilck (x_ d_ ρ_) : tgtE (.nilck x_) d_ ρ_ = ρ_ := rfl
@[simp ↓] theorem tgtE_bin (o_ x_ y_ d_ ρ_) : tgtE (.bin o_ x_ y_) d_ ρ_ = ρ_ := rfl
@[simp ↓] theorem tgtE_binb (o_ x_ y_ d_ ρ_) : tgtE (.binb o_ x_ y_) d_ ρ_ = ρ_ := rfl
@[simp ↓] theorem tgtE_eqs (n_ k_ x_ y_ d_ ρ_) : tgtE (.eqs n_ k_ x_ y_) d_ ρ_ = ρ_ := rfl
@[simp ↓] theorem tgtE_un (o_ x_ d_ ρ_) : tgtE (.un o_ x_) d_ ρ_ = ρ_ := rfl
@[simp ↓] theorem tgtE_conv (k_ x_ d_ ρ_) : tgtE (.conv k_ x_) d_ ρ_ = ρ_ := rfl
@[simp ↓] theorem tgtE_same (x_ d_ ρ_) : tgtE (.same x_) d_ ρ_ = ρ_ := rfl
@[simp ↓] theorem tgtE_s2b (x_ d_ ρ_) : tgtE (.s2b x_) d_ ρ_ = ρ_ := rfl
@[simp ↓] theorem tgtE_b2s (x_ d_ ρ_) : tgtE (.b2s x_) d_ ρ_ = ρ_ := rfl
@[simp ↓] theorem tgtE_mkfn (g_ c_ d_ ρ_) : tgtE (.mkfn g_ c_) d_ ρ_ = ρ_ := rfl
@[simp ↓] theorem tgtE_build (z_ p_ d_ ρ_) : tgtE (.build z_ p_) d_ ρ_ = ρ_ := rfl
@[simp ↓] theorem tgtE_buildSl (e_ z_ p_ d_ ρ_) : tgtE (.buildSl e_ z_ p_) d_ ρ_ = ρ_ := rfl
@[simp ↓] theorem tgtE_mkSl (e_ b_ z_ l_ c_ d_ ρ_) : tgtE (.mkSl e_ b_ z_ l_ c_) d_ ρ_ = ρ_ := rfl
@[simp ↓] theorem tgtE_sub (e_ x_ l_ h_ d_ ρ_) : tgtE (.sub e_ x_ l_ h_) d_ ρ_ = ρ_ := rfl
@[simp ↓] theorem tgtE_subs (x_ l_ h_ d_ ρ_) : tgtE (.subs x_ l_ h_) d_ ρ_ = ρ_ := rfl
@[simp ↓] theorem tgtE_sub0 (x_ d_ ρ_) : tgtE (.sub0 x_) d_ ρ_ = ρ_ := rfl
@[simp ↓] theorem tgtE_faddr (n_ x_ d_ ρ_) : tgtE (.faddr n_ x_) d_ ρ_ = ρ_ := rfl
@[simp ↓] theorem tgtE_field (n_ g_ x_ d_ ρ_) : tgtE (.field n_ g_ x_) d_ ρ_ = ρ_ := rfl
@[simp ↓] theorem tgtE_iaddr (e_ x_ i_ d_ ρ_) : tgtE (.iaddr e_ x_ i_) d_ ρ_ = ρ_ := rfl
@[simp ↓] theorem tgtE_sidx (x_ i_ d_ ρ_) : tgtE (.sidx x_ i_) d_ ρ_ = ρ_ := rfl
@[simp ↓] theorem tgtE_ext (x_ i_ d_ ρ_) : tgtE (.ext x_ i_) d_ ρ_ = ρ_ := rfl
@[simp ↓] theorem tgtE_len (x_ d_ ρ_) : tgtE (.len x_) d_ ρ_ = ρ_ := rfl
@[simp ↓] theorem tgtE_lens (x_ d_ ρ_) : tgtE (.lens x_) d_ ρ_ = ρ_ := rfl
@[simp ↓] theorem tgtE_app (e_ b_ s_ x_ d_ ρ_) : tgtE (.app e_ b_ s_ x_) d_ ρ_ = ρ_ := rfl
@[simp ↓] theorem tgtE_call (g_ m_ a_ d_ ρ_) : tgtE (.call g_ m_ a_) d_ ρ_ = ρ_ := rfl
@[simp ↓] theorem tgtE_callv (f_ m_ a_ d_ ρ_) : tgtE (.callv f_ m_ a_) d_ ρ_ = ρ_ := rfl
def freeE (o : DOp) (d : D) (x : Option Env) : Option Env := if o.freeOk d = true then x else none
@[simp ↓] theorem freeE_init (n t y d x) : freeE (.init n t y) d x = x := rfl
@[simp ↓] theorem freeE_call (g as d x) : freeE (.call g .frz as) d x = if D.lt 0 d = true then x else none := rfl
@[simp ↓] theorem freeE_callb (g as d x) : freeE (.call g .bor as) d x = if D.lt 0 d = true then x else none := rfl
@[simp ↓] theorem freeE_callr (g as d x) : freeE (.call g .raw as) d x = if D.lt 0 d = true then x else none := rfl
@[simp ↓] theorem freeE_callv (g as d x) : freeE (.callv g .frz as) d x = if D.lt 0 d = true then x else none := rfl
@[simp ↓] theorem freeE_callvb (g as d x) : freeE (.callv g .bor as) d x = if D.lt 0 d = true then x else none := rfl
@[simp ↓] theorem freeE_callvr (g as d x) : freeE (.callv g .raw as) d x = if D.lt 0 d = true then x else none := rfl
@[simp ↓] theorem freeE_bad (d_ x') : freeE .bad d_ x' = x' := rfl
@[simp ↓] theorem freeE_mv (x_ d_ x') : freeE (.mv x_) d_ x' = x' := rfl
@[simp ↓] theorem freeE_pick (a_ b_ c_ d_ x') : freeE (.pick a_ b_ c_) d_ x' = x' := rfl
@[simp ↓] theorem freeE_alloc (z_ d_ x') : freeE (.alloc z_) d_ x' = x' := rfl
@[simp ↓] theorem freeE_box (x_ d_ x') : freeE (.box x_) d_ x' = x' := rfl
@[simp ↓] theorem freeE_boxf (x_ d_ x') : freeE (.boxf x_) d_ x' = x' := rfl
@[simp ↓] theorem freeE_fz (x_ d_ x') : freeE (.fz x_) d_ x' = x' := rfl
@[simp ↓] theorem freeE_pend (z_ d_ x') : freeE (.pend z_) d_ x' = x' := rfl
@[simp ↓] theorem freeE_load (g_ x_ d_ x') : freeE (.load g_ x_) d_ x' = x' := rfl
@[simp ↓] theorem freeE_store (n_ a_ x_ d_ x') : freeE (.store n_ a_ x_) d_ x' = x' := rfl
@[simp ↓] theorem freeE_nilck (x_ d_ x') : freeE (.nilck x_) d_ x' = x' := rfl
@[simp ↓] theorem freeE_bin (o_ x_ y_ d_ x') : freeE (.bin o_ x_ y_) d_ x' = x' := rfl
@[simp ↓] theorem freeE_binb (o_ x_ y_ d_ x') : freeE (.binb o_ x_ y_) d_ x' = x' := rfl
@[simp ↓] theorem freeE_eqs (n_ k_ x_ y_ d_ x') : freeE (.eqs n_ k_ x_ y_) d_ x' = x' := rfl
@[simp ↓] theorem freeE_un (o_ x_ d_ x') : freeE (.un o_ x_) d_ x' = x' := rfl
@[simp ↓] theorem freeE_conv (k_ x_ d_ x') : freeE (.conv k_ x_) d_ x' = x' := rfl
@[simp ↓] theorem freeE_same (x_ d_ x') : freeE (.same x_) d_ x' = x' := rfl
@[simp ↓] theorem freeE_s2b (x_ d_ x') : freeE (.s2b x_) d_ x' = x' := rfl
@[simp ↓] theorem freeE_b2s (x_ d_ x') : freeE (.b2s x_) d_ x' = x' := rfl
@[simp ↓] theorem freeE_mkfn (g_ c_ d_ x') : freeE (.mkfn g_ c_) d_ x' = x' := rfl
@[simp ↓] theorem freeE_build (z_ p_ d_ x') : freeE (.build z_ p_) d_ x' = x' := rfl
@[simp ↓] theorem freeE_buildSl (e_ z_ p_ d_ x') : freeE (.buildSl e_ z_ p_) d_ x' = x' := rfl
@[simp ↓] theorem freeE_mkSl (e_ b_ z_ l_ c_ d_ x') : freeE (.mkSl e_ b_ z_ l_ c_) d_ x' = x' := rfl
@[simp ↓] theorem freeE_sub (e_ x_ l_ h_ d_ x') : freeE (.sub e_ x_ l_ h_) d_ x' = x' := rfl
@[simp ↓] theorem freeE_subs (x_ l_ h_ d_ x') : freeE (.subs x_ l_ h_) d_ x' = x' := rfl
@[simp ↓] theorem freeE_sub0 (x_ d_ x') : freeE (.sub0 x_) d_ x' = x' := rfl
@[simp ↓] theorem freeE_faddr (n_ x_ d_ x') : freeE (.faddr n_ x_) d_ x' = x' := rfl
@[simp ↓] theorem freeE_field (n_ g_ x_ d_ x') : freeE (.field n_ g_ x_) d_ x' = x' := rfl
@[simp ↓] theorem freeE_iaddr (e_ x_ i_ d_ x') : freeE (.iaddr e_ x_ i_) d_ x' = x' := rfl
@[simp ↓] theorem freeE_sidx (x_ i_ d_ x') : freeE (.sidx x_ i_) d_ x' = x' := rfl
@[simp ↓] theorem freeE_ext (x_ i_ d_ x') : freeE (.ext x_ i_) d_ x' = x' := rfl
@[simp ↓] theorem freeE_len (x_ d_ x') : freeE (.len x_) d_ x' = x' := rfl
@[simp ↓] theorem freeE_lens (x_ d_ x') : freeE (.lens x_) d_ x' = x' := rfl
@[simp ↓] theorem evIs_plain (t : Nat) (o : DOp) (is : List DI) : evIs call (⟨some t, o, none⟩ :: is) ρ σ = bindD (o.ev call ρ σ) fun d σ' => evIs call is ((t, d) :: ρ) σ' := by
  simp only [evIs, DI.ev, DI.val, DI.to]
  cases o.ev call ρ σ <;> rfl
@[simp ↓] theorem evIs_silent (o : DOp) (is : List DI) : evIs call (⟨none, o, none⟩ :: is) ρ σ = bindD (o.ev call ρ σ) fun d σ' => evIs call is (tgtE o d ρ) σ' := by
  simp only [evIs, DI.ev, DI.val, DI.to, tgtE]
  cases o.ev call ρ σ <;> rfl
theorem val_gate (dst : Option Nat) (o : DOp) (t : Nat) (w : Bool) : DI.val call ⟨dst, o, some (t, w)⟩ ρ σ = gateE (get ρ t) w (o.ev call ρ σ) σ := by
  simp only [DI.val]
  cases get ρ t <;> rfl
@[simp ↓] theorem evIs_gate (o : DOp) (t : Nat) (w : Bool) (is : List DI) : evIs call (⟨none, o, some (t, w)⟩ :: is) ρ σ = bindD (gateE (get ρ t) w (o.ev call ρ σ) σ) fun d σ' => evIs call is (tgtE o d ρ) σ' := by
  simp only [evIs, DI.ev, val_gate, DI.to, tgtE]
  cases gateE (get ρ t) w (o.ev call ρ σ) σ <;> rfl
@[simp ↓] theorem evIs_gate' (u : Nat) (o : DOp) (t : Nat) (w : Bool) (is : List DI) : evIs call (⟨some u, o, some (t, w)⟩ :: is) ρ σ = bindD (gateE (get ρ t) w (o.ev call ρ σ) σ) fun d σ' => evIs call is ((u, d) :: ρ) σ' := by
  simp only [evIs, DI.ev, val_gate, DI.to]
  cases gateE (get ρ t) w (o.ev call ρ σ) σ <;> rfl
noncomputable def sameS {α : Type} (σ σ' : Store) (x : Option α) : Option α := @ite _ (σ' = σ) (Classical.propDecidable _) x none
@[simp] theorem sameS_rfl {α : Type} (x : Option α) : sameS σ σ x = x := by simp [sameS]
def voidS {α : Type} (σ' : Store) (x : Option α) : Option α := match σ' with
  | [] => x
  | _ => none
@[simp] theorem voidS_nil {α : Type} (x : Option α) : voidS [] x = x := (rfl)
@[simp ↓] theorem evH_nil : evH call [] ρ σ = some ρ := rfl
@[simp ↓] theorem evH_plain (t : Nat) (o : DOp) (is : List (Nat × DI)) : evH call ((1, ⟨some t, o, none⟩) :: is) ρ σ = bindD (o.ev call ρ σ) fun d σ' => sameS σ σ' (evH call is ((t, d) :: ρ) σ) := by
  simp only [evH, DI.val, DI.to]
  cases o.ev call ρ σ <;> simp only [bindD, sameS] <;> congr
@[simp ↓] theorem evH_silent (o : DOp) (is : List (Nat × DI)) : evH call ((1, ⟨none, o, none⟩) :: is) ρ σ = bindD (o.ev call ρ σ) fun d σ' => sameS σ σ' (evH call is (tgtE o d ρ) σ) := by
  simp only [evH, DI.val, DI.to, tgtE]
  cases o.ev call ρ σ <;> simp only [bindD, sameS] <;> congr
@[simp ↓] theorem evH_gate (u : Nat) (o : DOp) (t : Nat) (w : Bool) (is : List (Nat × DI)) : evH call ((1, ⟨some u, o, some (t, w)⟩) :: is) ρ σ = bindD (gateE (get ρ t) w (o.ev call ρ σ) σ) fun d σ' => sameS σ σ' (evH call is ((u, d) :: ρ) σ) := by
  simp only [evH, val_gate, DI.to]
  cases gateE (get ρ t) w (o.ev call ρ σ) σ <;> simp only [bindD, sameS] <;> congr
@[simp ↓] theorem evH_gateS (o : DOp) (t : Nat) (w : Bool) (is : List (Nat × DI)) : evH call ((1, ⟨none, o, some (t, w)⟩) :: is) ρ σ = bindD (gateE (get ρ t) w (o.ev call ρ σ) σ) fun d σ' => sameS σ σ' (evH call is (tgtE o d ρ) σ) := by
  simp only [evH, val_gate, DI.to, tgtE]
  cases gateE (get ρ t) w (o.ev call ρ σ) σ <;> simp only [bindD, sameS] <;> congr
theorem free_bind {x : Option (D × Store)} {o : DOp} {f : D → Option Env} : (match x with
    | some (d, []) => if o.freeOk d = true then f d else none
    | _ => none) = bindD x fun d σ' => voidS σ' (freeE o d (f d)) := by
  rcases x with _ | ⟨d, _ | ⟨b, σ'⟩⟩ <;> rfl
@[simp ↓] theorem evH_free (t : Nat) (o : DOp) (is : List (Nat × DI)) : evH call ((0, ⟨some t, o, none⟩) :: is) ρ σ = bindD (o.ev call ρ []) fun d σ' => voidS σ' (freeE o d (evH call is ((t, d) :: ρ) σ)) := by
  simp only [evH, DI.val, DI.to]
  exact free_bind
@[simp ↓] theorem evH_freeS (o : DOp) (is : List (Nat × DI)) : evH call ((0, ⟨none, o, none⟩) :: is) ρ σ = bindD (o.ev call ρ []) fun d σ' => voidS σ' (freeE o d (evH call is (tgtE o d ρ) σ)) := by
  simp only [evH, DI.val, DI.to, tgtE]
  exact free_bind
@[simp ↓] theorem evH_freeG (u : Nat) (o : DOp) (t : Nat) (w : Bool) (is : List (Nat × DI)) : evH call ((0, ⟨some u, o, some (t, w)⟩) :: is) ρ σ = bindD (gateE (get ρ t) w (o.ev call ρ []) []) fun d σ' => voidS σ' (freeE o d (evH call is ((u, d) :: ρ) σ)) := by
  simp only [evH, val_gate, DI.to]
  exact free_bind
@[simp ↓] theorem evH_freeGS (o : DOp) (t : Nat) (w : Bool) (is : List (Nat × DI)) : evH call ((0, ⟨none, o, some (t, w)⟩) :: is) ρ σ = bindD (gateE (get ρ t) w (o.ev call ρ []) []) fun d σ' => voidS σ' (freeE o d (evH call is (tgtE o d ρ) σ)) := by
  simp only [evH, val_gate, DI.to, tgtE]
  exact free_bind

/-! ### operations -/
def pickE (c a b : D) (σ : Store) : Option (D × Store) :=
  match c with
  | .bool t => if t = true then some (a, σ) else some (b, σ)
  | _ => none
@[simp] theorem pickE_bool (t : Bool) (a b : D) : pickE (.bool t) a b σ = if t = true then some (a, σ) else some (b, σ) := rfl
@[simp ↓] theorem ev_bad : DOp.ev call ρ σ .bad = none := rfl
@[simp ↓] theorem ev_mv (x : Opd) : DOp.ev call ρ σ (.mv x) = some (x.ev ρ, σ) := rfl
@[simp ↓] theorem ev_pick (c a b : Opd) : DOp.ev call ρ σ (.pick c a b) = pickE (c.ev ρ) (a.ev ρ) (b.ev ρ) σ := by
  simp only [DOp.ev]
  cases c.ev ρ <;> first | rfl | (rename_i t; cases t <;> rfl)
@[simp ↓] theorem ev_pend (z : List D) : DOp.ev call ρ σ (.pend z) = some (.bot, σ) := rfl
@[simp ↓] theorem ev_alloc (z : List D) : DOp.ev call ρ σ (.alloc z) = some (.ptr σ.length 0, σ ++ [.box z]) := rfl
@[simp ↓] theorem ev_box (x : Opd) : DOp.ev call ρ σ (.box x) = if (x.ev ρ).cells.all D.atom = true then some (.ptr σ.length 0, σ ++ [.box (x.ev ρ).cells]) else none := rfl

def boxfE (x : Option (D × Store)) : Option (D × Store) :=
  match x with
  | some (d, σ1) => if D.lt 0 d = true ∧ d.cells.all D.atom = true then some (.fptr d 0, σ1) else none
  | none => none
@[simp] theorem boxfE_some (d : D) : boxfE (some (d, σ)) = if D.lt 0 d = true ∧ d.cells.all D.atom = true then some (.fptr d 0, σ) else none := rfl
@[simp ↓] theorem ev_boxf (x : Opd) : DOp.ev call ρ σ (.boxf x) = boxfE (frz 8 σ (x.ev ρ)) := by
  simp only [DOp.ev, boxfE]
  cases frz 8 σ (x.ev ρ) <;> rfl
def initE (n : Nat) (x : Option (D × Store)) : Option (D × Store) :=
  match x with
  | some (d, σ1) => if d.cells.length = n ∧ D.lt 0 d = true ∧ d.cells.all D.atom = true then some (.fptr d 0, σ1) else none
  | none => none
@[simp] theorem initE_some (n : Nat) (d : D) : initE n (some (d, σ)) = if d.cells.length = n ∧ D.lt 0 d = true ∧ d.cells.all D.atom = true then some (.fptr d 0, σ) else none := rfl
@[simp ↓] theorem ev_init (n t : Nat) (x : Opd) : DOp.ev call ρ σ (.init n t x) = initE n (frz 8 σ (x.ev ρ)) := by
  simp only [DOp.ev, initE]
  cases frz 8 σ (x.ev ρ) <;> rfl
@[simp ↓] theorem ev_fz (x : Opd) : DOp.ev call ρ σ (.fz x) = frz 8 σ (x.ev ρ) := rfl

def onD (σ : Store) (x : Option D) : Option (D × Store) := pure1 σ x
@[simp] theorem onD_some (d : D) : onD σ (some d) = some (d, σ) := rfl
@[simp] theorem onD_none : onD σ none = none := rfl
theorem onD_ite (c : Prop) [Decidable c] (x y : Option D) : onD σ (if c then x else y) = if c then onD σ x else onD σ y := by split <;> rfl
@[simp ↓] theorem ev_load (g : Option Nat) (a : Opd) : DOp.ev call ρ σ (.load g a) = onD σ (loadAt g σ (a.ev ρ)) := rfl

def rdBlk (g : Option Nat) (b : Option Blk) (off : Nat) : Option D :=
  match b with
  | some (.box cs) => readCells g cs off
  | _ => none
@[simp] theorem rdBlk_box (g : Option Nat) (cs : List D) (off : Nat) : rdBlk g (some (.box cs)) off = readCells g cs off := rfl
@[simp] theorem loadAt_ptr (g : Option Nat) (l off : Nat) : loadAt g σ (.ptr l off) = rdBlk g (σ[l]?) off := rfl
@[simp] theorem loadAt_fptr (g : Option Nat) (d : D) (off : Nat) : loadAt g σ (.fptr d off) = readCells g d.cells off := rfl
def rdEl (g : Option Nat) (b : Option Blk) (n i off : Nat) : Option D :=
  match b with
  | some (.arr _ xs) | some (.frz _ xs) => if xs.length = n then (xs[i]?).bind fun x => readCells g x.cells off else none
  | _ => none
@[simp] theorem rdEl_arr (g : Option Nat) (e : Nat) (xs : List D) (n i off : Nat) : rdEl g (some (.arr e xs)) n i off = if xs.length = n then (xs[i]?).bind fun x => readCells g x.cells off else none := rfl
@[simp] theorem rdEl_frz (g : Option Nat) (e : Nat) (xs : List D) (n i off : Nat) : rdEl g (some (.frz e xs)) n i off = if xs.length = n then (xs[i]?).bind fun x => readCells g x.cells off else none := rfl
@[simp] theorem loadAt_eptr (g : Option Nat) (l n i off : Nat) : loadAt g σ (.eptr l n i off) = rdEl g (σ[l]?) n i off := rfl
def atomE (d : Option D) : Option D :=
  match d with
  | some d => if d.atom = true then some d else none
  | none => none
@[simp] theorem atomE_some (d : D) : atomE (some d) = if d.atom = true then some d else none := rfl
@[simp] theorem readCells_none (cs : List D) (off : Nat) : readCells none cs off = atomE (cs[off]?) := rfl
@[simp] theorem readCells_some (n : Nat) (cs : List D) (off : Nat) : readCells (some n) cs off = if off + n ≤ cs.length then some (.agg ((cs.drop off).take n)) else none := rfl

@[simp] theorem atom_int (k : IntKind) (n : Int) : D.atom (.int k n) = true := rfl
@[simp] theorem atom_bool (b : Bool) : D.atom (.bool b) = true := rfl
@[simp] theorem atom_str (s : List UInt8) : D.atom (.str s) = true := rfl
@[simp] theorem atom_list (s : List D) : D.atom (.list s) = true := rfl
@[simp] theorem atom_nils : D.atom .nils = true := rfl
@[simp] theorem atom_nilp : D.atom .nilp = true := rfl
@[simp] theorem atom_nilf : D.atom .nilf = true := rfl
@[simp] theorem atom_ptr (l o : Nat) : D.atom (.ptr l o) = true := rfl
@[simp] theorem atom_eptr (l n i o : Nat) : D.atom (.eptr l n i o) = true := rfl
@[simp] theorem atom_fptr (d : D) (o : Nat) : D.atom (.fptr d o) = true := rfl
@[simp] theorem atom_sl (l n : Nat) : D.atom (.sl l n) = true := rfl
@[simp] theorem atom_fn (g : Nat) (c : List D) : D.atom (.fn g c) = true := rfl
@[simp] theorem cells_int (k : IntKind) (n : Int) : D.cells (.int k n) = [.int k n] := rfl
@[simp] theorem cells_bool (b : Bool) : D.cells (.bool b) = [.bool b] := rfl
@[simp] theorem cells_str (s : List UInt8) : D.cells (.str s) = [.str s] := rfl
@[simp] theorem cells_list (s : List D) : D.cells (.list s) = [.list s] := rfl
@[simp] theorem cells_nils : D.cells .nils = [.nils] := rfl
@[simp] theorem cells_nilp : D.cells .nilp = [.nilp] := rfl
@[simp] theorem cells_ptr (l o : Nat) : D.cells (.ptr l o) = [.ptr l o] := rfl
@[simp] theorem cells_fptr (d : D) (o : Nat) : D.cells (.fptr d o) = [.fptr d o] := rfl
@[simp] theorem cells_sl (l n : Nat) : D.cells (.sl l n) = [.sl l n] := rfl
@[simp] theorem cells_fn (g : Nat) (c : List D) : D.cells (.fn g c) = [.fn g c] := rfl
@[simp] theorem cells_agg (cs : List D) : D.cells (.agg cs) = cs := rfl

def stE (σ : Store) (x : Option Store) : Option (D × Store) :=
  match x with
  | some σ' => some (.bot, σ')
  | none => none
@[simp] theorem stE_some (σ' : Store) : stE σ (some σ') = some (.bot, σ') := rfl
theorem stE_ite (c : Prop) [Decidable c] (x y : Option Store) : stE σ (if c then x else y) = if c then stE σ x else stE σ y := by split <;> rfl
@[simp ↓] theorem ev_store (n : Nat) (a x : Opd) : DOp.ev call ρ σ (.store n a x) = stE σ (storeAt n σ (a.ev ρ) (x.ev ρ)) := rfl
def wrBlk (n : Nat) (σ : Store) (l off : Nat) (b : Option Blk) (cs' : List D) : Option Store :=
  match b with
  | some (.box cs) => if off + n ≤ cs.length then some (σ.set l (.box (splice cs off cs'))) else none
  | _ => none
@[simp] theorem wrBlk_box (n l off : Nat) (cs cs' : List D) : wrBlk n σ l off (some (.box cs)) cs' = if off + n ≤ cs.length then some (σ.set l (.box (splice cs off cs'))) else none := rfl
@[simp] theorem storeAt_ptr (n l off : Nat) (x : D) : storeAt n σ (.ptr l off) x = if x.cells.length = n ∧ x.cells.all D.atom = true then wrBlk n σ l off (σ[l]?) x.cells else none := rfl
def wrEl (n : Nat) (σ : Store) (l m i off : Nat) (b : Option Blk) (cs' : List D) : Option Store :=
  match b with
  | some (.arr e xs) =>
    if xs.length = m then
      match xs[i]? with
      | some y => if off + n ≤ y.cells.length then some (σ.set l (.arr e (xs.set i (reElem y (splice y.cells off cs'))))) else none
      | none => none
    else none
  | _ => none
@[simp] theorem storeAt_eptr (n l m i off : Nat) (x : D) : storeAt n σ (.eptr l m i off) x = if x.cells.length = n ∧ x.cells.all D.atom = true then wrEl n σ l m i off (σ[l]?) x.cells else none := rfl
attribute [simp] splice

def nilE (d : D) (σ : Store) : Option (D × Store) :=
  match d with
  | .ptr l o => some (.ptr l o, σ)
  | .eptr l n i o => some (.eptr l n i o, σ)
  | .fptr d o => some (.fptr d o, σ)
  | .fn g cs => some (.fn g cs, σ)
  | _ => none
@[simp ↓] theorem ev_nilck (x : Opd) : DOp.ev call ρ σ (.nilck x) = nilE (x.ev ρ) σ := rfl
@[simp] theorem nilE_ptr (l o : Nat) : nilE (.ptr l o) σ = some (.ptr l o, σ) := rfl
@[simp] theorem nilE_eptr (l n i o : Nat) : nilE (.eptr l n i o) σ = some (.eptr l n i o, σ) := rfl
@[simp] theorem nilE_fptr (d : D) (o : Nat) : nilE (.fptr d o) σ = some (.fptr d o, σ) := rfl
@[simp] theorem nilE_fn (g : Nat) (c : List D) : nilE (.fn g c) σ = some (.fn g c, σ) := rfl

/-! arithmetic -/
def binE (op : BinOp) (x y : D) : Option D :=
  match x with
  | .bool _ => none
  | d => binD op d y
@[simp ↓] theorem ev_bin (op : BinOp) (x y : Opd) : DOp.ev call ρ σ (.bin op x y) = onD σ (binE op (x.ev ρ) (y.ev ρ)) := by
  simp only [DOp.ev, onD, binE]
  cases x.ev ρ <;> rfl
@[simp ↓] theorem ev_binb (op : BinOp) (x y : Opd) : DOp.ev call ρ σ (.binb op x y) = onD σ (binD op (x.ev ρ) (y.ev ρ)) := rfl
section
variable (k : IntKind) (a b : Int)
@[simp] theorem bin_add : binE .add (.int k a) (.int k b) = some (.int k (k.wrap (a + b))) := by simp [binE, binD, intBin]
@[simp] theorem bin_sub : binE .sub (.int k a) (.int k b) = some (.int k (k.wrap (a - b))) := by simp [binE, binD, intBin]
@[simp] theorem bin_mul : binE .mul (.int k a) (.int k b) = some (.int k (k.wrap (a * b))) := by simp [binE, binD, intBin]
@[simp] theorem bin_quo : binE .quo (.int k a) (.int k b) = if b = 0 then none else some (.int k (k.wrap (a.tdiv b))) := by simp [binE, binD, intBin]
@[simp] theorem bin_rem : binE .rem (.int k a) (.int k b) = if b = 0 then none else some (.int k (a.tmod b)) := by simp [binE, binD, intBin]
def andI : Int := k.wrap (BitVec.ofInt k.bits a &&& BitVec.ofInt k.bits b).toNat
def orI : Int := k.wrap (BitVec.ofInt k.bits a ||| BitVec.ofInt k.bits b).toNat
def xorI : Int := k.wrap (BitVec.ofInt k.bits a ^^^ BitVec.ofInt k.bits b).toNat
@[simp] theorem bin_and : binE .and (.int k a) (.int k b) = some (.int k (andI k a b)) := by simp [binE, binD, intBin, andI]
@[simp] theorem bin_or : binE .or (.int k a) (.int k b) = some (.int k (orI k a b)) := by simp [binE, binD, intBin, orI]
@[simp] theorem bin_xor : binE .xor (.int k a) (.int k b) = some (.int k (xorI k a b)) := by simp [binE, binD, intBin, xorI]
@[simp] theorem bin_eql : binE .eql (.int k a) (.int k b) = some (.bool (decide (a = b))) := by simp [binE, binD, intBin]; rfl
@[simp] theorem bin_neq : binE .neq (.int k a) (.int k b) = some (.bool (decide (a ≠ b))) := by simp [binE, binD, intBin, bne]; rfl
@[simp] theorem bin_lss : binE .lss (.int k a) (.int k b) = some (.bool (decide (a < b))) := by simp [binE, binD, intBin]
@[simp] theorem bin_leq : binE .leq (.int k a) (.int k b) = some (.bool (decide (a ≤ b))) := by simp [binE, binD, intBin]
@[simp] theorem bin_gtr : binE .gtr (.int k a) (.int k b) = some (.bool (decide (b < a))) := by simp [binE, binD, intBin]
@[simp] theorem bin_geq : binE .geq (.int k a) (.int k b) = some (.bool (decide (b ≤ a))) := by simp [binE, binD, intBin]
@[simp] theorem bin_shl (k' : IntKind) : binE .shl (.int k a) (.int k' b) = if b < 0 then none else some (.int k (k.wrap (a * 2 ^ (min b.toNat k.bits)))) := by simp [binE, binD]
def shrI : Int := a.fdiv (2 ^ (min b.toNat k.bits))
@[simp] theorem bin_shr (k' : IntKind) : binE .shr (.int k a) (.int k' b) = if b < 0 then none else some (.int k (shrI k a b)) := by simp [binE, binD, shrI]
end
section
variable (a b : List UInt8)
@[simp] theorem bins_add : binE .add (.str a) (.str b) = if a.length + b.length ≤ 9223372036854775807 then some (.str (a ++ b)) else none := by simp [binE, binD, strBin]
@[simp] theorem bins_eql : binE .eql (.str a) (.str b) = some (.bool (decide (a = b))) := by simp [binE, binD, strBin]
@[simp] theorem bins_neq : binE .neq (.str a) (.str b) = some (.bool (decide (a ≠ b))) := by simp [binE, binD, strBin]
@[simp] theorem bins_lss : binE .lss (.str a) (.str b) = some (.bool (lessB a b)) := by simp [binE, binD, strBin]
@[simp] theorem bins_leq : binE .leq (.str a) (.str b) = some (.bool (lessB a b || decide (a = b))) := by simp [binE, binD, strBin]
@[simp] theorem bins_gtr : binE .gtr (.str a) (.str b) = some (.bool !(lessB a b || decide (a = b))) := by simp [binE, binD, strBin]
@[simp] theorem bins_geq : binE .geq (.str a) (.str b) = some (.bool !(lessB a b)) := by simp [binE, binD, strBin]
end
@[simp] theorem binb_eql (a b : Bool) : binD .eql (.bool a) (.bool b) = some (.bool (a == b)) := rfl
@[simp] theorem binb_neq (a b : Bool) : binD .neq (.bool a) (.bool b) = some (.bool !(a == b)) := rfl

def eqsE (neg : Bool) (ks : List FK) (x y : D) (σ : Store) : Option (D × Store) :=
  match x, y with
  | .agg a, .agg b => match eqCells ks a b with
    | some t => some (.bool (if neg then !t else t), σ)
    | none => none
  | _, _ => none
@[simp ↓] theorem ev_eqs (neg : Bool) (ks : List FK) (x y : Opd) : DOp.ev call ρ σ (.eqs neg ks x y) = eqsE neg ks (x.ev ρ) (y.ev ρ) σ := rfl
def eqsR (neg : Bool) (x : Option Bool) (σ : Store) : Option (D × Store) :=
  match x with
  | some t => some (.bool (if neg then !t else t), σ)
  | none => none
@[simp] theorem eqsE_agg (neg : Bool) (ks : List FK) (a b : List D) : eqsE neg ks (.agg a) (.agg b) σ = eqsR neg (eqCells ks a b) σ := rfl
@[simp] theorem eqsR_some (neg t : Bool) : eqsR neg (some t) σ = some (.bool (if neg then !t else t), σ) := rfl
@[simp] theorem eqCells_nil : eqCells [] [] [] = some true := rfl
@[simp] theorem eqCells_int (ks : List FK) (k : IntKind) (a b : Int) (x y : List D) : eqCells (.i :: ks) (.int k a :: x) (.int k b :: y) = (eqCells ks x y).map (decide (a = b) && ·) := by simp [eqCells]
@[simp] theorem eqCells_str (ks : List FK) (a b : List UInt8) (x y : List D) : eqCells (.s :: ks) (.str a :: x) (.str b :: y) = (eqCells ks x y).map (decide (a = b) && ·) := rfl
@[simp] theorem eqCells_bool (ks : List FK) (a b : Bool) (x y : List D) : eqCells (.b :: ks) (.bool a :: x) (.bool b :: y) = (eqCells ks x y).map (decide (a = b) && ·) := rfl

@[simp ↓] theorem ev_un (op : UnOp) (x : Opd) : DOp.ev call ρ σ (.un op x) = onD σ (unD op (x.ev ρ)) := rfl
@[simp] theorem un_not (b : Bool) : unD .not (.bool b) = some (.bool !b) := rfl
@[simp] theorem un_neg (k : IntKind) (n : Int) : unD .neg (.int k n) = some (.int k (k.wrap (0 - n))) := rfl
def notI (k : IntKind) (n : Int) : Int := k.wrap (BitVec.ofInt k.bits (if k.signed then -1 else k.max) ^^^ BitVec.ofInt k.bits n).toNat
@[simp] theorem un_xor (k : IntKind) (n : Int) : unD .xor (.int k n) = some (.int k (notI k n)) := rfl
def convE (k : IntKind) (d : D) : Option D :=
  match d with
  | .int _ n => some (.int k (k.wrap n))
  | _ => none
@[simp] theorem convE_int (k k' : IntKind) (n : Int) : convE k (.int k' n) = some (.int k (k.wrap n)) := rfl
@[simp ↓] theorem ev_conv (k : IntKind) (x : Opd) : DOp.ev call ρ σ (.conv k x) = onD σ (convE k (x.ev ρ)) := by
  simp only [DOp.ev, onD, convE]
  cases x.ev ρ <;> rfl
def strE (d : D) : Option D :=
  match d with
  | .str s => some (.str s)
  | _ => none
@[simp] theorem strE_str (s : List UInt8) : strE (.str s) = some (.str s) := rfl
@[simp ↓] theorem ev_same (x : Opd) : DOp.ev call ρ σ (.same x) = onD σ (strE (x.ev ρ)) := by
  simp only [DOp.ev, onD, strE]
  cases x.ev ρ <;> rfl
def s2bE (d : D) (σ : Store) : Option (D × Store) :=
  match d with
  | .str s => if s.length ≤ room then some (.sl σ.length s.length, σ ++ [.arr 1 (bytesD s)]) else none
  | _ => none
@[simp] theorem s2bE_str (s : List UInt8) : s2bE (.str s) σ = if s.length ≤ room then some (.sl σ.length s.length, σ ++ [.arr 1 (bytesD s)]) else none := rfl
@[simp ↓] theorem ev_s2b (x : Opd) : DOp.ev call ρ σ (.s2b x) = s2bE (x.ev ρ) σ := rfl
def b2sE (x : Option (List D)) : Option D :=
  match x.bind bytesOf? with
  | some s => some (.str s)
  | none => none
@[simp ↓] theorem ev_b2s (x : Opd) : DOp.ev call ρ σ (.b2s x) = onD σ (b2sE (elems σ (x.ev ρ))) := by
  simp only [DOp.ev, onD, b2sE]
  cases (elems σ (x.ev ρ)).bind bytesOf? <;> rfl
theorem bytesOf_bytesD (s : List UInt8) : bytesOf? (bytesD s) = some s := by
  induction s with
  | nil => rfl
  | cons b s ih =>
    have h : byteD (.int .u8 b.toNat) = some b := by
      have : (b.toNat : Int) < 256 := by have := b.toNat_lt; omega
      simp only [byteD]
      rw [if_pos ⟨by omega, this⟩]
      simp
    simp only [bytesD, List.map_cons] at ih ⊢
    simp only [bytesOf?, h, ih]
@[simp] theorem b2sE_bytes (s : List UInt8) : b2sE (some (bytesD s)) = some (.str s) := by
  simp [b2sE, bytesOf_bytesD]
@[simp] theorem elems_nils : elems σ .nils = some [] := rfl
@[simp] theorem elems_list (xs : List D) : elems σ (.list xs) = some xs := rfl
def elB (b : Option Blk) (n : Nat) : Option (List D) :=
  match b with
  | some (.arr _ xs) | some (.frz _ xs) => if xs.length = n then some xs else none
  | _ => none
@[simp] theorem elems_sl (l n : Nat) : elems σ (.sl l n) = elB (σ[l]?) n := rfl
@[simp] theorem elB_arr (e : Nat) (xs : List D) (n : Nat) : elB (some (.arr e xs)) n = if xs.length = n then some xs else none := rfl
@[simp] theorem elB_frz (e : Nat) (xs : List D) (n : Nat) : elB (some (.frz e xs)) n = if xs.length = n then some xs else none := rfl
@[simp ↓] theorem ev_mkfn (g : Nat) (cs : List Opd) : DOp.ev call ρ σ (.mkfn g cs) = some (.fn g (cs.map (Opd.ev ρ)), σ) := rfl
def buildE (x : Option (List D)) : Option D :=
  match x with
  | some cs => some (.agg cs)
  | none => none
@[simp] theorem buildE_some (cs : List D) : buildE (some cs) = some (.agg cs) := rfl
theorem buildE_ite (c : Prop) [Decidable c] (x y : Option (List D)) : buildE (if c then x else y) = if c then buildE x else buildE y := by split <;> rfl
@[simp ↓] theorem ev_build (z : List D) (ps : List (Nat × Nat × Opd)) : DOp.ev call ρ σ (.build z ps) = onD σ (buildE (setParts z ρ ps)) := by
  simp only [DOp.ev, onD, buildE]
  cases setParts z ρ ps <;> rfl
@[simp] theorem setParts_nil (cs : List D) : setParts cs ρ [] = some cs := rfl
@[simp] theorem setParts_cons (cs : List D) (off n : Nat) (x : Opd) (r : List (Nat × Nat × Opd)) : setParts cs ρ ((off, n, x) :: r) =
  if (x.ev ρ).cells.length = n ∧ off + n ≤ cs.length ∧ (x.ev ρ).cells.all D.atom = true then setParts (splice cs off (x.ev ρ).cells) ρ r else none := rfl
def buildSlE (esz : Nat) (x : Option (List D)) (σ : Store) : Option (D × Store) :=
  match x with
  | some xs => some (.sl σ.length xs.length, σ ++ [.arr esz xs])
  | none => none
@[simp] theorem buildSlE_some (esz : Nat) (xs : List D) : buildSlE esz (some xs) σ = some (.sl σ.length xs.length, σ ++ [.arr esz xs]) := rfl
theorem buildSlE_ite (esz : Nat) (c : Prop) [Decidable c] (x y : Option (List D)) : buildSlE esz (if c then x else y) σ = if c then buildSlE esz x σ else buildSlE esz y σ := by split <;> rfl
@[simp ↓] theorem ev_buildSl (esz : Nat) (z : List D) (ps : List (Nat × Opd)) : DOp.ev call ρ σ (.buildSl esz z ps) = buildSlE esz (setElems esz z ρ ps) σ := rfl
@[simp] theorem setElems_nil (esz : Nat) (xs : List D) : setElems esz xs ρ [] = some xs := rfl
@[simp] theorem setElems_cons (esz : Nat) (xs : List D) (i : Nat) (x : Opd) (r : List (Nat × Opd)) : setElems esz xs ρ ((i, x) :: r) =
  if (x.ev ρ).cells.length = esz ∧ i < xs.length ∧ (x.ev ρ).cells.all D.atom = true then setElems esz (xs.set i (x.ev ρ)) ρ r else none := rfl
def mkSlE (esz bytes : Nat) (zero l c : D) (σ : Store) : Option (D × Store) :=
  match l, c with
  | .int .i64 n, .int .i64 m => if 0 ≤ n ∧ n ≤ m ∧ bytes * m ≤ room ∧ m ≤ room then some (.sl σ.length n.toNat, σ ++ [.arr esz (List.replicate n.toNat zero)]) else none
  | _, _ => none
@[simp ↓] theorem ev_mkSl (esz bytes : Nat) (z : D) (l c : Opd) : DOp.ev call ρ σ (.mkSl esz bytes z l c) = mkSlE esz bytes z (l.ev ρ) (c.ev ρ) σ := rfl
@[simp] theorem mkSlE_int (esz bytes : Nat) (z : D) (n m : Int) : mkSlE esz bytes z (.int .i64 n) (.int .i64 m) σ = if 0 ≤ n ∧ n ≤ m ∧ bytes * m ≤ room ∧ m ≤ room then some (.sl σ.length n.toNat, σ ++ [.arr esz (List.replicate n.toNat z)]) else none := rfl
def subE (esz : Nat) (x : D) (lo : Option Int) (hi : Nat → Option Int) : Option D :=
  match x with
  | .list xs => match lo, hi xs.length with
    | some a, some b => match sub? xs a b with
      | some r => if headOk esz xs = true then some (.list r) else none
      | none => none
    | _, _ => none
  | _ => none
def subsE (x : D) (lo : Option Int) (hi : Nat → Option Int) : Option D :=
  match x with
  | .str xs => match lo, hi xs.length with
    | some a, some b => match sub? xs a b with
      | some r => some (.str r)
      | none => none
    | _, _ => none
  | _ => none
@[simp ↓] theorem ev_sub (esz : Nat) (x : Opd) (lo hi : Option Opd) : DOp.ev call ρ σ (.sub esz x lo hi) = onD σ (subE esz (x.ev ρ) (loInt ρ lo) (fun n => hiInt ρ n hi)) := by
  simp only [DOp.ev, onD, subE]
  cases x.ev ρ <;> first | rfl | skip
  rename_i xs
  simp only []
  cases loInt ρ lo <;> cases hiInt ρ xs.length hi <;> first | rfl | skip
  rename_i a b
  simp only []
  cases sub? xs a b <;> first | rfl | (simp only []; split <;> rfl)
@[simp ↓] theorem ev_subs (x : Opd) (lo hi : Option Opd) : DOp.ev call ρ σ (.subs x lo hi) = onD σ (subsE (x.ev ρ) (loInt ρ lo) (fun n => hiInt ρ n hi)) := by
  simp only [DOp.ev, onD, subsE]
  cases x.ev ρ <;> first | rfl | skip
  rename_i xs
  simp only []
  cases loInt ρ lo <;> cases hiInt ρ xs.length hi <;> first | rfl | skip
  rename_i a b
  simp only []
  cases sub? xs a b <;> rfl
@[simp] theorem loInt_none : loInt ρ none = some 0 := rfl
@[simp] theorem loInt_some (x : Opd) : loInt ρ (some x) = asInt (x.ev ρ) := rfl
@[simp] theorem hiInt_none (n : Nat) : hiInt ρ n none = some (n : Int) := rfl
@[simp] theorem hiInt_some (n : Nat) (x : Opd) : hiInt ρ n (some x) = asInt (x.ev ρ) := rfl
@[simp] theorem asInt_int (k : IntKind) (n : Int) : asInt (.int k n) = some n := rfl
def subR (x : Option (List UInt8)) : Option D :=
  match x with
  | some r => some (.str r)
  | none => none
@[simp] theorem subR_some (r : List UInt8) : subR (some r) = some (.str r) := rfl
@[simp] theorem subR_none : subR none = none := rfl
theorem subR_ite (c : Prop) [Decidable c] (x y : Option (List UInt8)) : subR (if c then x else y) = if c then subR x else subR y := by split <;> rfl
@[simp] theorem subsE_str (s : List UInt8) (a : Int) (hi : Nat → Option Int) (b : Int) (h : hi s.length = some b) : subsE (.str s) (some a) hi = subR (sub? s a b) := by
  simp only [subsE, h, subR]
def subL (x : Option (List D)) : Option D :=
  match x with
  | some r => some (.list r)
  | none => none
@[simp] theorem subL_some (r : List D) : subL (some r) = some (.list r) := rfl
@[simp] theorem subL_none : subL none = none := rfl
theorem subE_list (esz : Nat) (s : List D) (a : Int) (hi : Nat → Option Int) (b : Int) (h : hi s.length = some b) (ho : headOk esz s = true) : subE esz (.list s) (some a) hi = subL (sub? s a b) := by
  simp only [subE, h, subL, ho]
  cases sub? s a b <;> rfl
def sub0E (x : Option (List D)) : Option D :=
  match x with
  | some _ => some .nils
  | none => none
@[simp] theorem sub0E_some (xs : List D) : sub0E (some xs) = some .nils := rfl
@[simp ↓] theorem ev_sub0 (x : Opd) : DOp.ev call ρ σ (.sub0 x) = onD σ (sub0E (elems σ (x.ev ρ))) := by
  simp only [DOp.ev, onD, sub0E]
  cases elems σ (x.ev ρ) <;> rfl
def faddrE (off : Nat) (d : D) : Option D :=
  match d with
  | .ptr l o => some (.ptr l (o + off))
  | .eptr l n i o => some (.eptr l n i (o + off))
  | .fptr d o => some (.fptr d (o + off))
  | _ => none
@[simp ↓] theorem ev_faddr (off : Nat) (x : Opd) : DOp.ev call ρ σ (.faddr off x) = onD σ (faddrE off (x.ev ρ)) := by
  simp only [DOp.ev, onD, faddrE]
  cases x.ev ρ <;> rfl
@[simp] theorem faddrE_ptr (off l o : Nat) : faddrE off (.ptr l o) = some (.ptr l (o + off)) := rfl
@[simp] theorem faddrE_eptr (off l n i o : Nat) : faddrE off (.eptr l n i o) = some (.eptr l n i (o + off)) := rfl
@[simp] theorem faddrE_fptr (off : Nat) (d : D) (o : Nat) : faddrE off (.fptr d o) = some (.fptr d (o + off)) := rfl
def fieldE (off : Nat) (g : Option Nat) (d : D) : Option D :=
  match d with
  | .agg cs => readCells g cs off
  | _ => none
@[simp] theorem fieldE_agg (off : Nat) (g : Option Nat) (cs : List D) : fieldE off g (.agg cs) = readCells g cs off := rfl
@[simp ↓] theorem ev_field (off : Nat) (g : Option Nat) (x : Opd) : DOp.ev call ρ σ (.field off g x) = onD σ (fieldE off g (x.ev ρ)) := by
  simp only [DOp.ev, onD, fieldE]
  cases x.ev ρ <;> rfl
def iaddrE (esz : Nat) (x i : D) (σ : Store) : Option D :=
  match asInt i with
  | some j =>
    if 0 ≤ j then
      match x with
      | .list xs => match xs[j.toNat]? with
        | some d => if d.cells.length = esz then some (.fptr d 0) else none
        | none => none
      | .sl l n => match σ[l]? with
        | some (.arr e xs) | some (.frz e xs) => if xs.length = n ∧ e = esz ∧ j < n then some (.eptr l n j.toNat 0) else none
        | _ => none
      | _ => none
    else none
  | none => none
@[simp ↓] theorem ev_iaddr (esz : Nat) (x i : Opd) : DOp.ev call ρ σ (.iaddr esz x i) = onD σ (iaddrE esz (x.ev ρ) (i.ev ρ) σ) := by
  simp only [DOp.ev, onD, iaddrE]
  cases asInt (i.ev ρ) <;> first | rfl | skip
  rename_i j
  simp only []
  split
  · cases x.ev ρ <;> first | rfl | skip
    · rename_i xs
      simp only []
      cases xs[j.toNat]? <;> first | rfl | (simp only []; split <;> rfl)
    · rename_i l n
      simp only []
      cases σ[l]? with
      | none => rfl
      | some b => cases b <;> first | rfl | (simp only []; split <;> rfl)
  · rfl
def elE (esz : Nat) (x : Option D) : Option D :=
  match x with
  | some d => if d.cells.length = esz then some (.fptr d 0) else none
  | none => none
@[simp] theorem elE_some (esz : Nat) (d : D) : elE esz (some d) = if d.cells.length = esz then some (.fptr d 0) else none := rfl
@[simp] theorem iaddrE_list (esz : Nat) (xs : List D) (k : IntKind) (j : Int) : iaddrE esz (.list xs) (.int k j) σ = if 0 ≤ j then elE esz (xs[j.toNat]?) else none := rfl
def ptE (esz l n : Nat) (j : Int) (b : Option Blk) : Option D :=
  match b with
  | some (.arr e xs) | some (.frz e xs) => if xs.length = n ∧ e = esz ∧ j < n then some (.eptr l n j.toNat 0) else none
  | _ => none
@[simp] theorem iaddrE_sl (esz l n : Nat) (k : IntKind) (j : Int) : iaddrE esz (.sl l n) (.int k j) σ = if 0 ≤ j then ptE esz l n j (σ[l]?) else none := rfl
@[simp] theorem ptE_arr (esz l n e : Nat) (j : Int) (xs : List D) : ptE esz l n j (some (.arr e xs)) = if xs.length = n ∧ e = esz ∧ j < n then some (.eptr l n j.toNat 0) else none := rfl
@[simp] theorem ptE_frz (esz l n e : Nat) (j : Int) (xs : List D) : ptE esz l n j (some (.frz e xs)) = if xs.length = n ∧ e = esz ∧ j < n then some (.eptr l n j.toNat 0) else none := rfl
def sidxE (x i : D) : Option D :=
  match x, asInt i with
  | .str s, some j => if 0 ≤ j then match s[j.toNat]? with
    | some b => some (.int .u8 b.toNat)
    | none => none
    else none
  | _, _ => none
def byE (x : Option UInt8) : Option D :=
  match x with
  | some b => some (.int .u8 b.toNat)
  | none => none
@[simp] theorem byE_some (b : UInt8) : byE (some b) = some (.int .u8 b.toNat) := rfl
@[simp] theorem sidxE_str (s : List UInt8) (k : IntKind) (j : Int) : sidxE (.str s) (.int k j) = if 0 ≤ j then byE (s[j.toNat]?) else none := rfl
@[simp ↓] theorem ev_sidx (x i : Opd) : DOp.ev call ρ σ (.sidx x i) = onD σ (sidxE (x.ev ρ) (i.ev ρ)) := by
  simp only [DOp.ev, onD, sidxE]
  cases x.ev ρ <;> cases asInt (i.ev ρ) <;> first | rfl | skip
  rename_i s j
  simp only []
  split
  · cases s[j.toNat]? <;> rfl
  · rfl
def extE (d : D) (i : Nat) : Option D :=
  match d with
  | .tup vs => vs[i]?
  | _ => none
@[simp] theorem extE_tup (vs : List D) (i : Nat) : extE (.tup vs) i = vs[i]? := rfl
@[simp ↓] theorem ev_ext (x : Opd) (i : Nat) : DOp.ev call ρ σ (.ext x i) = onD σ (extE (x.ev ρ) i) := by
  simp only [DOp.ev, onD, extE]
  cases x.ev ρ <;> rfl
def lenE (x : Option (List D)) : Option D :=
  match x with
  | some xs => some (.int .i64 xs.length)
  | none => none
@[simp] theorem lenE_some (xs : List D) : lenE (some xs) = some (.int .i64 xs.length) := rfl
theorem lenE_ite (c : Prop) [Decidable c] (x y : Option (List D)) : lenE (if c then x else y) = if c then lenE x else lenE y := by split <;> rfl
@[simp ↓] theorem ev_len (x : Opd) : DOp.ev call ρ σ (.len x) = onD σ (lenE (elems σ (x.ev ρ))) := by
  simp only [DOp.ev, onD, lenE]
  cases elems σ (x.ev ρ) <;> rfl
def lensE (x : D) : Option D :=
  match x with
  | .str s => some (.int .i64 s.length)
  | _ => none
@[simp] theorem lensE_str (s : List UInt8) : lensE (.str s) = some (.int .i64 s.length) := rfl
@[simp ↓] theorem ev_lens (x : Opd) : DOp.ev call ρ σ (.lens x) = onD σ (lensE (x.ev ρ)) := by
  simp only [DOp.ev, onD, lensE]
  cases x.ev ρ <;> rfl
/-- what is appended -/
def srcE (esz : Nat) (x : D) (σ : Store) : Option (List D) :=
  match x with
  | .str t => if esz = 1 then some (bytesD t) else none
  | d => elems σ d
@[simp] theorem srcE_str (t : List UInt8) (esz : Nat) : srcE esz (.str t) σ = if esz = 1 then some (bytesD t) else none := rfl
@[simp] theorem srcE_list (xs : List D) (esz : Nat) : srcE esz (.list xs) σ = some xs := rfl
@[simp] theorem srcE_nils (esz : Nat) : srcE esz .nils σ = some [] := rfl
@[simp] theorem srcE_sl (l n esz : Nat) : srcE esz (.sl l n) σ = elB (σ[l]?) n := rfl
def appE (esz bytes : Nat) (s : D) (ys : Option (List D)) (σ : Store) : Option (D × Store) :=
  match ys with
  | some ys =>
    if ys.all (okEl esz) = true then
      match s with
      | .nils => if ys = [] then some (.nils, σ)
        else if ys.length * bytes ≤ room ∧ ys.length ≤ room then some (.sl σ.length ys.length, σ ++ [.arr esz ys]) else none
      | .sl l n => match σ[l]? with
        | some (.arr e xs) =>
          if xs.length = n ∧ e = esz ∧ (n + ys.length) * bytes ≤ room ∧ n + ys.length ≤ room then
            some (.sl l (n + ys.length), σ.set l (.arr e (xs ++ ys)))
          else none
        | _ => none
      | .list xs => if ys = [] then some (.list xs, σ) else none
      | _ => none
    else none
  | none => none
@[simp ↓] theorem ev_app (esz bytes : Nat) (s x : Opd) : DOp.ev call ρ σ (.app esz bytes s x) = appE esz bytes (s.ev ρ) (srcE esz (x.ev ρ) σ) σ := by
  simp only [DOp.ev, appE, srcE]
  cases x.ev ρ <;> rfl
def apB (esz bytes : Nat) (l n : Nat) (ys : List D) (b : Option Blk) (σ : Store) : Option (D × Store) :=
  match b with
  | some (.arr e xs) =>
    if xs.length = n ∧ e = esz ∧ (n + ys.length) * bytes ≤ room ∧ n + ys.length ≤ room then
      some (.sl l (n + ys.length), σ.set l (.arr e (xs ++ ys)))
    else none
  | _ => none
@[simp] theorem appE_nils (esz bytes : Nat) (ys : List D) : appE esz bytes .nils (some ys) σ = if ys.all (okEl esz) = true then (if ys = [] then some (.nils, σ)
        else if ys.length * bytes ≤ room ∧ ys.length ≤ room then some (.sl σ.length ys.length, σ ++ [.arr esz ys]) else none) else none := rfl
@[simp] theorem appE_sl (esz bytes l n : Nat) (ys : List D) : appE esz bytes (.sl l n) (some ys) σ = if ys.all (okEl esz) = true then apB esz bytes l n ys (σ[l]?) σ else none := rfl
@[simp] theorem apB_arr (esz bytes l n e : Nat) (xs ys : List D) : apB esz bytes l n ys (some (.arr e xs)) σ = if xs.length = n ∧ e = esz ∧ (n + ys.length) * bytes ≤ room ∧ n + ys.length ≤ room then some (.sl l (n + ys.length), σ.set l (.arr e (xs ++ ys))) else none := rfl
@[simp] theorem okEl_def (esz : Nat) (d : D) : okEl esz d = (decide (d.cells.length = esz) && d.cells.all D.atom) := rfl

/-! ### calls -/
def argsE {α : Type} (x : Option (List D × Store)) (f : List D → Store → Option α) : Option α :=
  match x with
  | some (ds, σ) => f ds σ
  | none => none
@[congr] theorem argsE_congr {α : Type} {x y : Option (List D × Store)} {f : List D → Store → Option α} (h : x = y) : argsE x f = argsE y f := by rw [h]
@[simp] theorem argsE_some {α : Type} (ds : List D) (f : List D → Store → Option α) : argsE (some (ds, σ)) f = f ds σ := rfl
def seenE {α : Type} (x : Option (List D)) (f : List D → Option α) : Option α :=
  match x with
  | some ds => f ds
  | none => none
@[congr] theorem seenE_congr {α : Type} {x y : Option (List D)} {f : List D → Option α} (h : x = y) : seenE x f = seenE y f := by rw [h]
@[simp] theorem seenE_some {α : Type} (ds : List D) (f : List D → Option α) : seenE (some ds) f = f ds := rfl
@[simp ↓] theorem ev_call (g : Nat) (m : CM) (as : List Opd) : DOp.ev call ρ σ (.call g m as) = callM call m g (as.map (Opd.ev ρ)) [] σ := rfl
@[simp] theorem callM_frz (g : Nat) (as caps : List D) : callM call .frz g as caps σ = argsE (mapS (frz 8) σ as) fun ds σ1 => callIn call g (ds ++ caps) σ1 := by
  simp only [callM]
  cases mapS (frz 8) σ as <;> rfl
@[simp] theorem callM_raw (g : Nat) (as caps : List D) : callM call .raw g as caps σ = callIn call g (as ++ caps) σ := rfl
@[simp] theorem callM_all (g : Nat) (as caps : List D) : callM call .all g as caps σ = call g (as ++ caps) σ := rfl
@[simp] theorem callM_bor (g : Nat) (as caps : List D) : callM call .bor g as caps σ = seenE (mapV (vw 8 σ) (as ++ caps)) fun ds => borIn call g ds σ := by
  simp only [callM]
  cases mapV (vw 8 σ) (as ++ caps) <;> rfl
def callvE (call : CallD) (m : CM) (f : D) (as : List D) (σ : Store) : Option (D × Store) :=
  match f with
  | .fn g caps => callM call m g as caps σ
  | _ => none
@[simp ↓] theorem ev_callv (f : Opd) (m : CM) (as : List Opd) : DOp.ev call ρ σ (.callv f m as) = callvE call m (f.ev ρ) (as.map (Opd.ev ρ)) σ := by
  simp only [DOp.ev, callvE]
  cases f.ev ρ <;> rfl
@[simp] theorem callvE_fn (m : CM) (g : Nat) (caps as : List D) : callvE call m (.fn g caps) as σ = callM call m g as caps σ := rfl

/-! what is seen -/
@[simp] theorem mapV_nil (f : D → Option D) : mapV f [] = some [] := rfl
def consV (f : List D → Option (List D)) (ds : List D) (x : Option D) : Option (List D) :=
  match x with
  | some e => match f ds with
    | some es => some (e :: es)
    | none => none
  | none => none
def consW (e : D) (x : Option (List D)) : Option (List D) :=
  match x with
  | some es => some (e :: es)
  | none => none
@[simp] theorem mapV_cons (f : D → Option D) (d : D) (ds : List D) : mapV f (d :: ds) = consV (mapV f) ds (f d) := rfl
@[simp] theorem consV_some (f : List D → Option (List D)) (ds : List D) (e : D) : consV f ds (some e) = consW e (f ds) := rfl
@[simp] theorem consW_some (e : D) (es : List D) : consW e (some es) = some (e :: es) := rfl
section
variable (n : Nat)
@[simp] theorem vw_int (k : IntKind) (i : Int) : vw (n + 1) σ (.int k i) = some (.int k i) := rfl
@[simp] theorem vw_bool (b : Bool) : vw (n + 1) σ (.bool b) = some (.bool b) := rfl
@[simp] theorem vw_str (s : List UInt8) : vw (n + 1) σ (.str s) = some (.str s) := rfl
@[simp] theorem vw_list (s : List D) : vw (n + 1) σ (.list s) = some (.list s) := rfl
@[simp] theorem vw_nils : vw (n + 1) σ .nils = some (.list []) := rfl
@[simp] theorem vw_nilp : vw (n + 1) σ .nilp = some .nilp := rfl
@[simp] theorem vw_nilf : vw (n + 1) σ .nilf = some .nilf := rfl
@[simp] theorem vw_fptr (d : D) (o : Nat) : vw (n + 1) σ (.fptr d o) = some (.fptr d o) := rfl
def vaggE (x : Option (List D)) : Option D :=
  match x with
  | some es => some (.agg es)
  | none => none
def vfnE (g : Nat) (x : Option (List D)) : Option D :=
  match x with
  | some es => some (.fn g es)
  | none => none
def vptrE (off : Nat) (x : Option (List D)) : Option D :=
  match x with
  | some es => some (.fptr (.agg es) off)
  | none => none
def vlistE (x : Option (List D)) : Option D :=
  match x with
  | some es => some (.list es)
  | none => none
@[simp] theorem vaggE_some (es : List D) : vaggE (some es) = some (.agg es) := rfl
@[simp] theorem vfnE_some (g : Nat) (es : List D) : vfnE g (some es) = some (.fn g es) := rfl
@[simp] theorem vptrE_some (o : Nat) (es : List D) : vptrE o (some es) = some (.fptr (.agg es) o) := rfl
@[simp] theorem vlistE_some (es : List D) : vlistE (some es) = some (.list es) := rfl
@[simp] theorem vw_agg (cs : List D) : vw (n + 1) σ (.agg cs) = vaggE (mapV (vw n σ) cs) := rfl
@[simp] theorem vw_fn (g : Nat) (cs : List D) : vw (n + 1) σ (.fn g cs) = vfnE g (mapV (vw n σ) cs) := rfl
def vwB (f : Nat) (σ : Store) (n : Nat) (b : Option Blk) : Option D :=
  match b with
  | some (.frz _ xs) => if xs.length = n then some (.list xs) else none
  | some (.arr _ xs) =>
    if xs.length = n then
      match mapV (vw f σ) xs with
      | some ys => some (.list ys)
      | none => none
    else none
  | _ => none
@[simp] theorem vw_sl (l m : Nat) : vw (n + 1) σ (.sl l m) = vwB n σ m (σ[l]?) := rfl
@[simp] theorem vwB_frz (m e : Nat) (xs : List D) : vwB n σ m (some (.frz e xs)) = if xs.length = m then some (.list xs) else none := rfl
@[simp] theorem vwB_arr (m e : Nat) (xs : List D) : vwB n σ m (some (.arr e xs)) = if xs.length = m then vlistE (mapV (vw n σ) xs) else none := rfl
def vwP (f : Nat) (σ : Store) (off : Nat) (b : Option Blk) : Option D :=
  match b with
  | some (.box cs) => match mapV (vw f σ) cs with
    | some es => some (.fptr (.agg es) off)
    | none => none
  | _ => none
@[simp] theorem vw_ptr (l off : Nat) : vw (n + 1) σ (.ptr l off) = vwP n σ off (σ[l]?) := rfl
@[simp] theorem vwP_box (off : Nat) (cs : List D) : vwP n σ off (some (.box cs)) = vptrE off (mapV (vw n σ) cs) := rfl
end
@[simp] theorem sfree_int (k : IntKind) (i : Int) : D.sfree (.int k i) = true := rfl
@[simp] theorem sfree_bool (b : Bool) : D.sfree (.bool b) = true := rfl
@[simp] theorem sfree_str (s : List UInt8) : D.sfree (.str s) = true := rfl
@[simp] theorem sfree_nils : D.sfree .nils = true := rfl
@[simp] theorem sfree_nilp : D.sfree .nilp = true := rfl
@[simp] theorem sfree_sl (l m : Nat) : D.sfree (.sl l m) = true := rfl
@[simp] theorem sfree_ptr (l m : Nat) : D.sfree (.ptr l m) = true := rfl
@[simp] theorem sfree_list (xs : List D) : D.sfree (.list xs) = xs.isEmpty := rfl
@[simp] theorem sfree_agg (cs : List D) : D.sfree (.agg cs) = D.sfreeL cs := by simp [D.sfree]
@[simp] theorem sfree_tup (cs : List D) : D.sfree (.tup cs) = D.sfreeL cs := by simp [D.sfree]
@[simp] theorem sfreeL_nil : D.sfreeL [] = true := rfl
@[simp] theorem sfreeL_cons (d : D) (ds : List D) : D.sfreeL (d :: ds) = (D.sfree d && D.sfreeL ds) := by simp [D.sfreeL]
attribute [simp] Blk.sfree
def borP (σ : Store) (x : Option (D × Store)) : Option (D × Store) :=
  match x with
  | some (r, τ) =>
    if r.sfree && τ.all Blk.sfree then
      match r.ren (backOf [] σ.length), renS (backOf [] σ.length) τ with
      | some r', some τ' => some (r', σ ++ τ')
      | _, _ => none
    else none
  | none => none
@[simp] theorem borIn_eq (g : Nat) (ds : List D) : borIn call g ds σ = borP σ (call g ds []) := rfl

@[simp] theorem mapS_nil (f : Store → D → Option (D × Store)) : mapS f σ [] = some ([], σ) := rfl
def consS (f : Store → List D → Option (List D × Store)) (ds : List D) (x : Option (D × Store)) : Option (List D × Store) :=
  match x with
  | some (e, σ1) => match f σ1 ds with
    | some (es, σ2) => some (e :: es, σ2)
    | none => none
  | none => none
@[simp] theorem mapS_cons (f : Store → D → Option (D × Store)) (d : D) (ds : List D) : mapS f σ (d :: ds) = consS (mapS f) ds (f σ d) := rfl
def consT (e : D) (x : Option (List D × Store)) : Option (List D × Store) :=
  match x with
  | some (es, σ2) => some (e :: es, σ2)
  | none => none
@[simp] theorem consS_some (f : Store → List D → Option (List D × Store)) (ds : List D) (e : D) : consS f ds (some (e, σ)) = consT e (f σ ds) := rfl
@[simp] theorem consT_some (e : D) (es : List D) : consT e (some (es, σ)) = some (e :: es, σ) := rfl

section
variable (n : Nat)
@[simp] theorem frz_int (k : IntKind) (i : Int) : frz (n + 1) σ (.int k i) = some (.int k i, σ) := rfl
@[simp] theorem frz_bool (b : Bool) : frz (n + 1) σ (.bool b) = some (.bool b, σ) := rfl
@[simp] theorem frz_str (s : List UInt8) : frz (n + 1) σ (.str s) = some (.str s, σ) := rfl
@[simp] theorem frz_list (s : List D) : frz (n + 1) σ (.list s) = some (.list s, σ) := rfl
@[simp] theorem frz_nils : frz (n + 1) σ .nils = some (.list [], σ) := rfl
@[simp] theorem frz_nilp : frz (n + 1) σ .nilp = some (.nilp, σ) := rfl
@[simp] theorem frz_nilf : frz (n + 1) σ .nilf = some (.nilf, σ) := rfl
@[simp] theorem frz_bot : frz (n + 1) σ .bot = some (.bot, σ) := rfl
@[simp] theorem frz_ptr (l o : Nat) : frz (n + 1) σ (.ptr l o) = some (.ptr l o, σ) := rfl
@[simp] theorem frz_eptr (l m i o : Nat) : frz (n + 1) σ (.eptr l m i o) = some (.eptr l m i o, σ) := rfl
@[simp] theorem frz_fptr (d : D) (o : Nat) : frz (n + 1) σ (.fptr d o) = some (.fptr d o, σ) := rfl
@[simp] theorem frz_fn (g : Nat) (c : List D) : frz (n + 1) σ (.fn g c) = some (.fn g c, σ) := rfl
def aggE (x : Option (List D × Store)) : Option (D × Store) :=
  match x with
  | some (es, σ1) => some (.agg es, σ1)
  | none => none
def tupE (x : Option (List D × Store)) : Option (D × Store) :=
  match x with
  | some (es, σ1) => some (.tup es, σ1)
  | none => none
@[simp] theorem aggE_some (es : List D) : aggE (some (es, σ)) = some (.agg es, σ) := rfl
@[simp] theorem tupE_some (es : List D) : tupE (some (es, σ)) = some (.tup es, σ) := rfl
@[simp] theorem frz_agg (cs : List D) : frz (n + 1) σ (.agg cs) = aggE (mapS (frz n) σ cs) := rfl
@[simp] theorem frz_tup (cs : List D) : frz (n + 1) σ (.tup cs) = tupE (mapS (frz n) σ cs) := rfl
def frzB (f : Nat) (σ : Store) (l n : Nat) (b : Option Blk) : Option (D × Store) :=
  match b with
  | some (.frz _ xs) => if xs.length = n then some (.list xs, σ) else none
  | some (.arr e xs) =>
    if xs.length = n then
      match mapS (frz f) (σ.set l .dead) xs with
      | some (ys, σ1) => if D.ltL 0 ys then some (.list ys, σ1.set l (.frz e ys)) else none
      | none => none
    else none
  | _ => none
@[simp] theorem frz_sl (l m : Nat) : frz (n + 1) σ (.sl l m) = frzB n σ l m (σ[l]?) := rfl
@[simp] theorem frzB_frz (l m e : Nat) (xs : List D) : frzB n σ l m (some (.frz e xs)) = if xs.length = m then some (.list xs, σ) else none := rfl
/-- an own array whose elements are frozen already -/
def Frzn (n : Nat) (xs : List D) : Prop := D.ltL 0 xs = true ∧ ∀ σ, mapS (frz n) σ xs = some (xs, σ)
theorem frzB_arr {l m e : Nat} {xs : List D} (h : Frzn n xs) (hm : xs.length = m) : frzB n σ l m (some (.arr e xs)) = some (.list xs, (σ.set l .dead).set l (.frz e xs)) := by
  simp only [frzB, hm, if_true, h.2, h.1]
end
attribute [simp] addRefs reach blkRefs Blk.refs posOf backOf subStore renS putBack
@[simp] theorem refs_int (k : IntKind) (i : Int) : D.refs (.int k i) = [] := rfl
@[simp] theorem ren_int (f : Nat → Option Nat) (k : IntKind) (i : Int) : D.ren f (.int k i) = some (.int k i) := rfl
@[simp] theorem refs_bool (b : Bool) : D.refs (.bool b) = [] := rfl
@[simp] theorem ren_bool (f : Nat → Option Nat) (b : Bool) : D.ren f (.bool b) = some (.bool b) := rfl
@[simp] theorem refs_str (s : List UInt8) : D.refs (.str s) = [] := rfl
@[simp] theorem ren_str (f : Nat → Option Nat) (s : List UInt8) : D.ren f (.str s) = some (.str s) := rfl
@[simp] theorem refs_list (s : List D) : D.refs (.list s) = [] := rfl
@[simp] theorem ren_list (f : Nat → Option Nat) (s : List D) : D.ren f (.list s) = some (.list s) := rfl
@[simp] theorem refs_nils  : D.refs .nils = [] := rfl
@[simp] theorem ren_nils (f : Nat → Option Nat)  : D.ren f .nils = some .nils := rfl
@[simp] theorem refs_nilp  : D.refs .nilp = [] := rfl
@[simp] theorem ren_nilp (f : Nat → Option Nat)  : D.ren f .nilp = some .nilp := rfl
@[simp] theorem refs_nilf  : D.refs .nilf = [] := rfl
@[simp] theorem ren_nilf (f : Nat → Option Nat)  : D.ren f .nilf = some .nilf := rfl
@[simp] theorem refs_bot  : D.refs .bot = [] := rfl
@[simp] theorem ren_bot (f : Nat → Option Nat)  : D.ren f .bot = some .bot := rfl
@[simp] theorem refs_fptr (d : D) (o : Nat) : D.refs (.fptr d o) = [] := rfl
@[simp] theorem ren_fptr (f : Nat → Option Nat) (d : D) (o : Nat) : D.ren f (.fptr d o) = some (.fptr d o) := rfl
@[simp] theorem refs_ptr (l o : Nat) : D.refs (.ptr l o) = [l] := rfl
@[simp] theorem refs_eptr (l n i o : Nat) : D.refs (.eptr l n i o) = [l] := rfl
@[simp] theorem refs_sl (l n : Nat) : D.refs (.sl l n) = [l] := rfl
@[simp] theorem refs_fn (g : Nat) (cs : List D) : D.refs (.fn g cs) = D.refsL cs := by simp [D.refs]
@[simp] theorem refs_agg (cs : List D) : D.refs (.agg cs) = D.refsL cs := by simp [D.refs]
@[simp] theorem refs_tup (cs : List D) : D.refs (.tup cs) = D.refsL cs := by simp [D.refs]
@[simp] theorem refsL_nil : D.refsL [] = [] := rfl
@[simp] theorem refsL_cons (d : D) (ds : List D) : D.refsL (d :: ds) = D.refs d ++ D.refsL ds := by simp [D.refsL]
def atE (x : Option Nat) (h : Nat → D) : Option D :=
  match x with
  | some k => some (h k)
  | none => none
@[simp] theorem atE_some (k : Nat) (h : Nat → D) : atE (some k) h = some (h k) := rfl
@[simp] theorem ren_ptr (f : Nat → Option Nat) (l o : Nat) : D.ren f (.ptr l o) = atE (f l) fun k => .ptr k o := by
  simp only [D.ren]; cases f l <;> rfl
@[simp] theorem ren_eptr (f : Nat → Option Nat) (l n i o : Nat) : D.ren f (.eptr l n i o) = atE (f l) fun k => .eptr k n i o := by
  simp only [D.ren]; cases f l <;> rfl
@[simp] theorem ren_sl (f : Nat → Option Nat) (l n : Nat) : D.ren f (.sl l n) = atE (f l) fun k => .sl k n := by
  simp only [D.ren]; cases f l <;> rfl
def manyE (x : Option (List D)) (h : List D → D) : Option D :=
  match x with
  | some es => some (h es)
  | none => none
@[simp] theorem manyE_some (es : List D) (h : List D → D) : manyE (some es) h = some (h es) := rfl
@[simp] theorem ren_fn (f : Nat → Option Nat) (g : Nat) (cs : List D) : D.ren f (.fn g cs) = manyE (D.renL f cs) fun es => .fn g es := by
  simp only [D.ren]; cases D.renL f cs <;> rfl
@[simp] theorem ren_agg (f : Nat → Option Nat) (cs : List D) : D.ren f (.agg cs) = manyE (D.renL f cs) fun es => .agg es := by
  simp only [D.ren]; cases D.renL f cs <;> rfl
@[simp] theorem ren_tup (f : Nat → Option Nat) (cs : List D) : D.ren f (.tup cs) = manyE (D.renL f cs) fun es => .tup es := by
  simp only [D.ren]; cases D.renL f cs <;> rfl
@[simp] theorem renL_nil (f : Nat → Option Nat) : D.renL f [] = some [] := rfl
def conE (x : Option D) (y : Option (List D)) : Option (List D) :=
  match x, y with
  | some e, some es => some (e :: es)
  | _, _ => none
@[simp] theorem conE_some (e : D) (es : List D) : conE (some e) (some es) = some (e :: es) := rfl
@[simp] theorem renL_cons (f : Nat → Option Nat) (d : D) (ds : List D) : D.renL f (d :: ds) = conE (D.ren f d) (D.renL f ds) := by
  simp only [D.renL]; cases D.ren f d <;> cases D.renL f ds <;> rfl
def blkE (x : Option (List D)) (h : List D → Blk) : Option Blk :=
  match x with
  | some es => some (h es)
  | none => none
@[simp] theorem blkE_some (es : List D) (h : List D → Blk) : blkE (some es) h = some (h es) := rfl
@[simp] theorem bren_box (f : Nat → Option Nat) (cs : List D) : Blk.ren f (.box cs) = blkE (D.renL f cs) .box := by
  simp only [Blk.ren]; cases D.renL f cs <;> rfl
@[simp] theorem bren_arr (f : Nat → Option Nat) (e : Nat) (xs : List D) : Blk.ren f (.arr e xs) = blkE (D.renL f xs) (.arr e) := by
  simp only [Blk.ren]; cases D.renL f xs <;> rfl
@[simp] theorem bren_frz (f : Nat → Option Nat) (e : Nat) (xs : List D) : Blk.ren f (.frz e xs) = some (.frz e xs) := rfl
@[simp] theorem bren_dead (f : Nat → Option Nat) : Blk.ren f .dead = some .dead := rfl
def backP (σ : Store) (x : Option (D × Store)) : Option (D × Store) :=
  match x with
  | some (r, τ) => match r.ren (backOf [] σ.length), renS (backOf [] σ.length) τ with
    | some r', some τ' => some (r', σ ++ τ')
    | _, _ => none
  | none => none
mutual
theorem D.free_ren (f : Nat → Option Nat) (d : D) (h : D.lt 0 d = true) : D.refs d = [] ∧ D.ren f d = some d := by
  match d with
  | .int .. | .bool .. | .str .. | .nilp | .nils | .nilf | .fptr .. | .list .. => exact ⟨rfl, rfl⟩
  | .bot => simp [D.lt] at h
  | .ptr .. | .eptr .. | .sl .. => simp [D.lt] at h
  | .fn g cs => have := D.free_renL f cs (by simpa [D.lt] using h); simp [D.refs, D.ren, this]
  | .agg cs => have := D.free_renL f cs (by simpa [D.lt] using h); simp [D.refs, D.ren, this]
  | .tup cs => have := D.free_renL f cs (by simpa [D.lt] using h); simp [D.refs, D.ren, this]
theorem D.free_renL (f : Nat → Option Nat) (ds : List D) (h : D.ltL 0 ds = true) : D.refsL ds = [] ∧ D.renL f ds = some ds := by
  match ds with
  | [] => exact ⟨rfl, rfl⟩
  | d :: ds =>
    simp [D.ltL] at h
    have h1 := D.free_ren f d h.1
    have h2 := D.free_renL f ds h.2
    simp [D.refsL, D.renL, h1, h2]
end
/-- a call that is led nowhere into the store -/
theorem callIn_pure {g : Nat} {ds : List D} (h : D.ltL 0 ds = true) : callIn call g ds σ = backP σ (call g ds []) := by
  have e : reach σ 3 (addRefs [] (D.refsL ds)) = [] := by rw [(D.free_renL (posOf []) ds h).1]; rfl
  unfold callIn callAt
  rw [e, (D.free_renL (posOf []) ds h).2]
  simp only [List.nodup_nil, if_true, subStore, backP, putBack]
  cases call g ds [] <;> rfl
theorem borP_nil {r : D} (h : D.lt 0 r = true) (hs : D.sfree r = true) : borP σ (some (r, [])) = some (r, σ) := by
  simp [borP, hs, (D.free_ren (backOf [] σ.length) r h).2, renS]
@[simp] theorem borP_bool (b : Bool) : borP σ (some (.bool b, [])) = some (.bool b, σ) := borP_nil rfl rfl
@[simp] theorem borP_int (k : IntKind) (i : Int) : borP σ (some (.int k i, [])) = some (.int k i, σ) := borP_nil rfl rfl
@[simp] theorem borP_str (s : List UInt8) : borP σ (some (.str s, [])) = some (.str s, σ) := borP_nil rfl rfl
theorem backP_nil {r : D} (h : D.lt 0 r = true) : backP σ (some (r, [])) = some (r, σ) := by
  simp [backP, (D.free_ren (backOf [] σ.length) r h).2, renS]
@[simp] theorem backP_ret (r : D) : backP σ (some (r, [])) = if D.lt 0 r = true then some (r, σ) else (match r.ren (backOf [] σ.length) with
    | some r' => some (r', σ)
    | none => none) := by
  split
  · rename_i h; exact backP_nil h
  · simp only [backP, renS]
    cases r.ren (backOf [] σ.length) <;> simp
@[simp] theorem lt_int (n : Nat) (k : IntKind) (i : Int) : D.lt n (.int k i) = true := rfl
@[simp] theorem lt_bool (n : Nat) (b : Bool) : D.lt n (.bool b) = true := rfl
@[simp] theorem lt_str (n : Nat) (s : List UInt8) : D.lt n (.str s) = true := rfl
@[simp] theorem lt_list (n : Nat) (s : List D) : D.lt n (.list s) = true := rfl
@[simp] theorem lt_nils (n : Nat) : D.lt n .nils = true := rfl
@[simp] theorem lt_nilp (n : Nat) : D.lt n .nilp = true := rfl
@[simp] theorem lt_nilf (n : Nat) : D.lt n .nilf = true := rfl
@[simp] theorem lt_bot (n : Nat) : D.lt n .bot = false := rfl
@[simp] theorem lt_fptr (n : Nat) (d : D) (o : Nat) : D.lt n (.fptr d o) = true := rfl
@[simp] theorem lt_ptr (n l o : Nat) : D.lt n (.ptr l o) = decide (l < n) := rfl
@[simp] theorem lt_eptr (n l m i o : Nat) : D.lt n (.eptr l m i o) = decide (l < n) := rfl
@[simp] theorem lt_sl (n l m : Nat) : D.lt n (.sl l m) = decide (l < n) := rfl
@[simp] theorem lt_fn (n g : Nat) (cs : List D) : D.lt n (.fn g cs) = D.ltL n cs := by simp [D.lt]
@[simp] theorem lt_agg (n : Nat) (cs : List D) : D.lt n (.agg cs) = D.ltL n cs := by simp [D.lt]
@[simp] theorem lt_tup (n : Nat) (cs : List D) : D.lt n (.tup cs) = D.ltL n cs := by simp [D.lt]
@[simp] theorem ltL_nil (n : Nat) : D.ltL n [] = true := rfl
@[simp] theorem ltL_cons (n : Nat) (d : D) (ds : List D) : D.ltL n (d :: ds) = (D.lt n d && D.ltL n ds) := by simp [D.ltL]
end

/-! ### loops -/
/-- a loop sees no more of its temporaries than it keeps -/
theorem EvC_loop_keep {Γ : Tab} {ks : List Nat} {sc : Option (List Nat)} {b : DCode} {ρ ρ' : Env} {σ : Store} (h : keepOnly ks ρ = keepOnly ks ρ') : EvC Γ (.loop ks sc b) ρ σ = EvC Γ (.loop ks sc b) ρ' σ := by
  rw [EvC_loop, EvC_loop ks sc b ρ', h]
@[congr] theorem trimS_congr {sc : Option (List Nat)} {n : Nat} {x y : Out} (h : x = y) : trimS sc n x = trimS sc n y := by rw [h]
@[simp] theorem trimS_none (n : Nat) (x : Out) : trimS none n x = x := rfl
@[simp] theorem trimS_fail (sc : Option (List Nat)) (n : Nat) : trimS sc n none = none := by cases sc <;> rfl
def scopeE (e : Ex) (ks : List Nat) (vs : Option (List D)) (σ1 σ2 : Option Store) : Out :=
  match vs, σ1, σ2 with
  | some vs, some σ1, some σ2 => some (e, ks.zip vs, σ1 ++ σ2)
  | _, _, _ => none
@[simp] theorem scopeE_some (e : Ex) (ks : List Nat) (vs : List D) (σ1 σ2 : Store) : scopeE e ks (some vs) (some σ1) (some σ2) = some (e, ks.zip vs, σ1 ++ σ2) := rfl
@[simp] theorem trimS_some (ks : List Nat) (n : Nat) (e : Ex) (ρ : Env) (σ : Store) : trimS (some ks) n (some (e, ρ, σ)) = scopeOf n (liveT ks ρ) e ρ σ := rfl
def consN (b : Bool) (t : Nat) (ts : List Nat) : List Nat := if b = true then ts else t :: ts
@[simp] theorem consN_true (t : Nat) (ts : List Nat) : consN true t ts = ts := rfl
@[simp] theorem consN_false (t : Nat) (ts : List Nat) : consN false t ts = t :: ts := rfl
@[simp] theorem liveT_nil (ρ : Env) : liveT [] ρ = [] := rfl
@[simp] theorem liveT_cons (t : Nat) (ts : List Nat) (ρ : Env) : liveT (t :: ts) ρ = consN (get ρ t).isBot t (liveT ts ρ) := by
  unfold liveT consN
  rw [List.filter_cons]
  cases (get ρ t).isBot <;> rfl
@[simp] theorem scopeOf_eq (ks : List Nat) (n : Nat) (e : Ex) (ρ : Env) (σ : Store) : scopeOf n ks e ρ σ = if n ≤ σ.length ∧ (newRefs n (ks.map (get ρ))).Nodup then
    scopeE e ks (D.renL (newPos n (newRefs n (ks.map (get ρ)))) (ks.map (get ρ))) (renS (newPos n (newRefs n (ks.map (get ρ)))) (σ.take n)) (subStore σ (newPos n (newRefs n (ks.map (get ρ)))) (newRefs n (ks.map (get ρ)))) else none := rfl
theorem trimS_ite (sc : Option (List Nat)) (n : Nat) (c : Prop) [Decidable c] (x y : Out) : trimS sc n (if c then x else y) = if c then trimS sc n x else trimS sc n y := by split <;> rfl
attribute [simp] newRefs newPos
@[simp] theorem isBot_int (k : IntKind) (i : Int) : D.isBot (.int k i) = false := rfl
@[simp] theorem isBot_bool (b : Bool) : D.isBot (.bool b) = false := rfl
@[simp] theorem isBot_str (s : List UInt8) : D.isBot (.str s) = false := rfl
@[simp] theorem isBot_list (s : List D) : D.isBot (.list s) = false := rfl
@[simp] theorem isBot_nils  : D.isBot .nils = false := rfl
@[simp] theorem isBot_nilp  : D.isBot .nilp = false := rfl
@[simp] theorem isBot_nilf  : D.isBot .nilf = false := rfl
@[simp] theorem isBot_bot  : D.isBot .bot = true := rfl
@[simp] theorem isBot_fptr (d : D) (o : Nat) : D.isBot (.fptr d o) = false := rfl
@[simp] theorem isBot_ptr (l o : Nat) : D.isBot (.ptr l o) = false := rfl
@[simp] theorem isBot_eptr (l n i o : Nat) : D.isBot (.eptr l n i o) = false := rfl
@[simp] theorem isBot_sl (l n : Nat) : D.isBot (.sl l n) = false := rfl
@[simp] theorem isBot_fn (g : Nat) (cs : List D) : D.isBot (.fn g cs) = false := rfl
@[simp] theorem isBot_agg (cs : List D) : D.isBot (.agg cs) = false := rfl
@[simp] theorem isBot_tup (cs : List D) : D.isBot (.tup cs) = false := rfl

/-! ### functions -/
def finE (n0 : Nat) (x : Option (D × Store)) : Option (D × Store) :=
  match x with
  | some (d, σ') => if d.lt n0 = true ∧ escOk n0 σ' = true then some (d, σ'.take n0) else none
  | none => none
@[simp] theorem finE_some (n0 : Nat) (d : D) (σ : Store) : finE n0 (some (d, σ)) = if d.lt n0 = true ∧ escOk n0 σ = true then some (d, σ.take n0) else none := rfl
def finR (n0 : Nat) (keep : Bool) (σ : Store) (x : Option (List D)) : Option (D × Store) :=
  match x with
  | some ds => if keep then some (wrapRes ds, σ) else finE n0 (frz 8 σ (wrapRes ds))
  | none => none
@[simp] theorem finR_some (n0 : Nat) (keep : Bool) (σ : Store) (ds : List D) : finR n0 keep σ (some ds) = if keep then some (wrapRes ds, σ) else finE n0 (frz 8 σ (wrapRes ds)) := rfl
/-- what a function comes to, out of where its body ends -/
def finF (n0 : Nat) (keep : Bool) (res : List DRes) (x : Out) : Option (D × Store) :=
  match x with
  | some (.exit _, _, _) => none
  | some (_, ρ, σ) => finR n0 keep σ (resL ρ σ res)
  | none => none
@[congr] theorem finF_congr {n0 : Nat} {keep : Bool} {res : List DRes} {x y : Out} (h : x = y) : finF n0 keep res x = finF n0 keep res y := by rw [h]
@[simp] theorem finF_ret (n0 : Nat) (keep : Bool) (res : List DRes) (ρ : Env) (σ : Store) : finF n0 keep res (some (.ret, ρ, σ)) = finR n0 keep σ (resL ρ σ res) := rfl
@[simp] theorem finF_norm (n0 : Nat) (keep : Bool) (res : List DRes) (ρ : Env) (σ : Store) : finF n0 keep res (some (.norm, ρ, σ)) = finR n0 keep σ (resL ρ σ res) := rfl
theorem finish_eq (σ0 : Store) (df : DFn) (x : Out) : finish σ0 df x = finF σ0.length df.keep df.res x := by
  have key : ∀ (ρ : Env) (σ : Store), (match resL ρ σ df.res with
    | some ds =>
      if df.keep then some (wrapRes ds, σ)
      else match frz 8 σ (wrapRes ds) with
      | some (d, σ') => if d.lt σ0.length = true ∧ escOk σ0.length σ' = true then some (d, σ'.take σ0.length) else none
      | none => none
    | none => none) = finR σ0.length df.keep σ (resL ρ σ df.res) := by
    intro ρ σ
    simp only [finR]
    cases resL ρ σ df.res with
    | none => rfl
    | some ds => rfl
  cases x with
  | none => rfl
  | some p =>
    obtain ⟨e, ρ, σ⟩ := p
    cases e with
    | exit id => rfl
    | norm => exact key ρ σ
    | ret => exact key ρ σ
/-- a function's run -/
theorem EvF_run {Γ : Tab} {g : Nat} {df : DFn} (h : Γ g = some (.code df)) {args : List D} {σ : Store} (hn : args.length = df.np) : EvF Γ g args σ = finF σ.length df.keep df.res (EvC Γ df.body (enterE 0 args) σ) := by
  rw [EvF_code h, if_pos hn, finish_eq]
def resE (x : Option D) (y : Option (List D)) : Option (List D) :=
  match x, y with
  | some d, some ds => some (d :: ds)
  | _, _ => none
@[simp] theorem resE_some (d : D) (ds : List D) : resE (some d) (some ds) = some (d :: ds) := rfl
@[simp] theorem resL_nil (ρ : Env) (σ : Store) : resL ρ σ [] = some [] := rfl
@[simp] theorem resL_cons (ρ : Env) (σ : Store) (r : DRes) (rs : List DRes) : resL ρ σ (r :: rs) = resE (r.ev ρ σ) (resL ρ σ rs) := by
  simp only [resL, resE]
  cases r.ev ρ σ <;> cases resL ρ σ rs <;> rfl
@[simp] theorem DRes.ev_t (ρ : Env) (σ : Store) (i : Nat) : DRes.ev ρ σ (.t i) = some (get ρ i) := rfl
@[simp] theorem DRes.ev_cell (ρ : Env) (σ : Store) (i : Nat) (g : Option Nat) : DRes.ev ρ σ (.cell i g) = loadAt g σ (get ρ i) := rfl
@[simp] theorem wrapRes_one (d : D) : wrapRes [d] = d := rfl
@[simp] theorem wrapRes_two (d e : D) (ds : List D) : wrapRes (d :: e :: ds) = .tup (d :: e :: ds) := rfl
attribute [simp] escOk Blk.lt
end Go.DM
