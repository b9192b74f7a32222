/- Expressions: the equations of the functions that tell whether one is right. -/
import Derived.Test.YtpidjgefokgplaaA3
import Derived.Test.YtpidjgefokgplaaGen1
import Derived.Test.YtpidjgefokgplaaOk
set_option linter.unusedVariables false
set_option linter.unusedSimpArgs false
namespace Go.DM
open Go
variable {Γ : Tab}
theorem Xp.ind {P : Xp → Prop} (h : ∀ e, (∀ k ∈ e.kids, P k) → P e) : ∀ e, P e := by
  intro e
  refine Xp.rec (motive_1 := P) (motive_2 := fun ks => ∀ k ∈ ks, P k) ?_ ?_ ?_ e
  · intro k t n ks ih
    exact h _ ih
  · simp
  · intro k ks h1 h2 x hx
    rcases List.mem_cons.1 hx with rfl | hx
    · exact h1
    · exact h2 x hx
mutual
def Xp.nodes : Xp → Nat
  | .mk _ _ _ ks => 1 + Xp.nodesL ks
def Xp.nodesL : List Xp → Nat
  | [] => 0
  | e :: es => Xp.nodes e + Xp.nodesL es
end
theorem Xp.nodesL_eq (es : List Xp) : Xp.nodesL es = szL Xp.nodes es := by
  induction es with
  | nil => rfl
  | cons e es ih => simp [Xp.nodesL, ih]
theorem Xp.nodes_def (e : Xp) : e.nodes = 1 + szL Xp.nodes e.kids := by cases e; simp [Xp.nodes, Xp.nodesL_eq]
def kidsN (k : Int) : Nat := if k ≤ 5 then 0 else if k ≤ 7 then 1 else 2
def textOk (k : Int) (t : Str) : Bool := if k = 0 then nameOk t else if k = 2 then decide (t.length ≤ 100) else decide (t = [])
def numOk (k n : Int) : Bool := if k = 1 then decide (0 ≤ n) && decide (n ≤ 999999999) else decide (n = 0)
def topOk (k : Int) (t : Str) (n : Int) (c : Nat) : Bool := (decide (0 ≤ k) && decide (k ≤ 18)) && decide (c = kidsN k) && textOk k t && numOk k n
mutual
def Xp.shape : Xp → Bool
  | .mk k t n ks => topOk k t n ks.length && Xp.shapeL ks
def Xp.shapeL : List Xp → Bool
  | [] => true
  | e :: es => Xp.shape e && Xp.shapeL es
end
theorem Xp.shapeL_eq (es : List Xp) : Xp.shapeL es = es.all Xp.shape := by
  induction es with
  | nil => rfl
  | cons e es ih => simp [Xp.shapeL, ih]
theorem Xp.shape_def (e : Xp) : e.shape = (topOk e.kind e.text e.num e.kids.length && e.kids.all Xp.shape) := by cases e; simp [Xp.shape, Xp.shapeL_eq]
theorem wrap_add (a b : Int) : IntKind.wrap .i64 (IntKind.wrap .i64 a + b) = IntKind.wrap .i64 (a + b) := by
  unfold IntKind.wrap
  simp [IntKind.bits, IntKind.signed]
  omega
theorem L116 (e : Xp) (hl : e.kids.length ≤ 9223372036854775807) (hk : ∀ k ∈ e.kids, EvF Γ 116 [k.d] [] = some (.int .i64 k.nodes, [])) (a : Int) {ρ : Env}
    (hρ : keepOnly [1, 3, 4] ρ = [(1, .fptr e.d 0), (3, .int .i64 (IntKind.wrap .i64 a)), (4, .int .i64 0)]) :
    inBlk 0 [3] (EvC Γ f116L1 ρ []) = some (.norm, [(3, .int .i64 (IntKind.wrap .i64 (a + szL Xp.nodes e.kids)))], []) := by
  refine loop_list (L := f116L1) rfl (inBlk 0 [3]) e.kids (fun i (a : Int) => [(1, .fptr e.d 0), (3, .int .i64 (IntKind.wrap .i64 a)), (4, .int .i64 i)]) (fun _ _ => []) (fun _ r a => some (.norm, [(3, .int .i64 (IntKind.wrap .i64 (a + szL Xp.nodes r)))], [])) ?_ ?_ a ρ hρ
  · intro a; simp [f116l1]
  · intro i x r a hx hi hr ih
    have hw := wrap64_succ hi hl
    have hi' : (i : Int) < e.kids.length := by omega
    have h1 := hk x (List.mem_of_getElem? hx)
    have ih := ih (a + x.nodes)
    rw [Int.add_assoc] at ih
    simp [f116l1, hi', hw, hx, callIn_pure, h1, wrap_add, ih]
theorem nodes_ev (h : H116 Γ) (e : Xp) : e.nodes ≤ 4611686018427387904 → EvF Γ 116 [e.d] [] = some (.int .i64 e.nodes, []) := by
  induction e using Xp.ind with
  | h e ih =>
    intro hN
    have hd := e.nodes_def
    have hlen : e.kids.length ≤ szL Xp.nodes e.kids := by
      generalize e.kids = ks
      induction ks with
      | nil => simp
      | cons k ks ih => have := k.nodes_def; simp; omega
    have hk : ∀ k ∈ e.kids, EvF Γ 116 [k.d] [] = some (.int .i64 k.nodes, []) := fun k hk => ih k hk (by have := szL_mem Xp.nodes hk; omega)
    rw [EvF_run h.e116 rfl]
    have hw : IntKind.wrap .i64 ((1 : Int) + szL Xp.nodes e.kids) = e.nodes := by
      rw [wrap64 (by omega) (by omega)]; omega
    have h1 : IntKind.wrap .i64 1 = 1 := by decide
    have hL := fun ρ hρ => L116 (Γ := Γ) e (by omega) hk 1 (ρ := ρ) hρ
    rw [h1, hw] at hL
    simp [f116, hL]
theorem kids_ev (h : H118 Γ) (k : Int) : EvF Γ 118 [.int .i64 k] [] = some (.int .i64 (if 0 ≤ k ∧ k ≤ 18 then kidsN k else -1), []) := by
  rw [EvF_run h.e118 rfl]
  by_cases hb : 0 ≤ k ∧ k ≤ 18
  · by_cases h5 : k ≤ 5
    · simp [f118, callIn_pure, l01In_ev h.c28, hb, h5, kidsN]
    · by_cases h7 : k ≤ 7 <;> simp [f118, callIn_pure, l01In_ev h.c28, hb, h5, h7, kidsN]
  · have hb' : (decide (0 ≤ k) && decide (k ≤ 18)) = false := by simpa using hb
    simp [f118, callIn_pure, l01In_ev h.c28, hb, hb']
theorem kidsOf_ev (h : H113 Γ) (k : Int) : EvF Γ 113 [.int .i64 k] [] = some (.int .i64 (kidsN k), []) := by
  rw [EvF_run h.e113 rfl]
  by_cases h5 : k ≤ 5
  · simp [f113, h5, kidsN]
  · by_cases h7 : k ≤ 7 <;> simp [f113, h5, h7, kidsN]
theorem L117 (e : Xp) (hl : e.kids.length ≤ 9223372036854775807) (hk : ∀ k ∈ e.kids, EvF Γ 117 [k.d] [] = some (.bool k.shape, [])) {ρ : Env} (hρ : keepOnly [1, 3] ρ = [(1, .fptr e.d 0), (3, .int .i64 0)]) :
    inBlk 1 [] (EvC Γ f117L1 ρ []) = if e.kids.all Xp.shape = true then some (.norm, [], []) else some (.ret, [(2, .bool false)], []) := by
  refine loop_list (L := f117L1) rfl (inBlk 1 []) e.kids (fun i (_ : Unit) => [(1, .fptr e.d 0), (3, .int .i64 i)]) (fun _ _ => []) (fun _ r _ => if r.all Xp.shape = true then some (.norm, [], []) else some (.ret, [(2, .bool false)], [])) ?_ ?_ () ρ hρ
  · intro _; simp [f117l1]
  · intro i x r _ hx hi hr ih
    have hw := wrap64_succ hi hl
    have hi' : (i : Int) < e.kids.length := by omega
    have h1 := hk x (List.mem_of_getElem? hx)
    have ih := ih ()
    cases hb : x.shape with
    | true =>
      simp only [List.all_cons, hb, Bool.true_and]
      simp [f117l1, hi', hw, hx, callIn_pure, h1, hb, ih]
    | false =>
      simp only [List.all_cons, hb, Bool.false_and]
      simp [f117l1, hi', hx, callIn_pure, h1, hb]
theorem shape_ev (h : H117 Γ) (e : Xp) : e.Ok → EvF Γ 117 [e.d] [] = some (.bool e.shape, []) := by
  induction e using Xp.ind with
  | h e ih =>
    intro hok
    have hk : ∀ k ∈ e.kids, EvF Γ 117 [k.d] [] = some (.bool k.shape, []) := fun k hk => ih k hk (hok.kids.2 k hk)
    have hL := fun ρ hρ => L117 (Γ := Γ) e hok.kids.1 hk (ρ := ρ) hρ
    have hn := specName_ev h.c43 e.text hok.text
    rw [EvF_run h.e117 rfl, Xp.shape_def]
    have hkd := kids_ev h.c118 e.kind
    by_cases hr : 0 ≤ e.kind ∧ e.kind ≤ 18
    · rw [if_pos hr] at hkd
      by_cases hc : e.kids.length = kidsN e.kind
      · have hc' : (e.kids.length : Int) = kidsN e.kind := by omega
        have num : ∀ ρ : Env, True := fun _ => trivial
        by_cases hx : textOk e.kind e.text = true
        · by_cases hz : numOk e.kind e.num = true
          · have ht : topOk e.kind e.text e.num e.kids.length = true := by simp [topOk, hr, hc, hx, hz]
            rw [ht, Bool.true_and]
            by_cases h0 : e.kind = 0
            · simp only [textOk, h0, if_true] at hx
              simp [numOk, h0] at hz
              cases ha : e.kids.all Xp.shape <;> simp only [ha, if_true, Bool.false_eq_true, if_false] at hL <;> simp [f117, callIn_pure, kids_ev h.c118, hr.1, hr.2, hc', h0, hn, hx, hz, hL]
            · by_cases h2 : e.kind = 2
              · simp [textOk, h2] at hx
                have hx' : ¬ (100 : Int) < e.text.length := by omega
                simp [numOk, h2] at hz
                cases ha : e.kids.all Xp.shape <;> simp only [ha, if_true, Bool.false_eq_true, if_false] at hL <;> simp [f117, callIn_pure, kids_ev h.c118, hr.1, hr.2, hc', h2, hx', hz, hL]
              · simp [textOk, h0, h2] at hx
                by_cases h1 : e.kind = 1
                · simp [numOk, h1] at hz
                  cases ha : e.kids.all Xp.shape <;> simp only [ha, if_true, Bool.false_eq_true, if_false] at hL <;> simp [f117, callIn_pure, kids_ev h.c118, hr.1, hr.2, hc', h1, hx, hz, l01In_ev h.c28, hL]
                · simp [numOk, h1] at hz
                  cases ha : e.kids.all Xp.shape <;> simp only [ha, if_true, Bool.false_eq_true, if_false] at hL <;> simp [f117, callIn_pure, kids_ev h.c118, hr.1, hr.2, hc', h0, h1, h2, hx, hz, hL]
          · have ht : topOk e.kind e.text e.num e.kids.length = false := by simp [topOk, hz]
            rw [ht, Bool.false_and]
            by_cases h0 : e.kind = 0
            · simp only [textOk, h0, if_true] at hx
              simp [numOk, h0] at hz
              simp [f117, callIn_pure, kids_ev h.c118, hr.1, hr.2, hc', h0, hn, hx, hz]
            · by_cases h2 : e.kind = 2
              · simp [textOk, h2] at hx
                have hx' : ¬ (100 : Int) < e.text.length := by omega
                simp [numOk, h2] at hz
                simp [f117, callIn_pure, kids_ev h.c118, hr.1, hr.2, hc', h2, hx', hz]
              · simp [textOk, h0, h2] at hx
                by_cases h1 : e.kind = 1
                · have hz' : (decide (0 ≤ e.num) && decide (e.num ≤ 999999999)) = false := by simpa [numOk, h1] using hz
                  simp [f117, callIn_pure, kids_ev h.c118, hr.1, hr.2, hc', h1, hx, l01In_ev h.c28, hz']
                · simp [numOk, h1] at hz
                  simp [f117, callIn_pure, kids_ev h.c118, hr.1, hr.2, hc', h0, h1, h2, hx, hz]
        · have ht : topOk e.kind e.text e.num e.kids.length = false := by simp [topOk, hx]
          rw [ht, Bool.false_and]
          by_cases h0 : e.kind = 0
          · simp only [textOk, h0, if_true, Bool.not_eq_true] at hx
            simp [f117, callIn_pure, kids_ev h.c118, hr.1, hr.2, hc', h0, hn, hx]
          · by_cases h2 : e.kind = 2
            · simp [textOk, h2] at hx
              have hx' : (100 : Int) < e.text.length := by omega
              simp [f117, callIn_pure, kids_ev h.c118, hr.1, hr.2, hc', h2, hx']
            · simp [textOk, h0, h2] at hx
              simp [f117, callIn_pure, kids_ev h.c118, hr.1, hr.2, hc', h0, h2, hx]
      · have hc' : ¬ (e.kids.length : Int) = kidsN e.kind := by omega
        have ht : topOk e.kind e.text e.num e.kids.length = false := by simp [topOk, hc]
        rw [ht, Bool.false_and]
        simp [f117, callIn_pure, kids_ev h.c118, hr.1, hr.2, hc']
    · rw [if_neg hr] at hkd
      have ht : topOk e.kind e.text e.num e.kids.length = false := by
        have : (decide (0 ≤ e.kind) && decide (e.kind ≤ 18)) = false := by simpa using hr
        simp [topOk, this]
      have hc' : ¬ (e.kids.length : Int) = -1 := by omega
      rw [ht, Bool.false_and]
      simp [f117, callIn_pure, hkd, hc']
def exprOk (e : Xp) : Bool := decide (e.nodes ≤ 40) && e.shape
theorem specExpr_ev (h : H111 Γ) (e : Xp) (hok : e.Ok) (hN : e.nodes ≤ 4611686018427387904) : EvF Γ 111 [e.d] [] = some (.bool (exprOk e), []) := by
  rw [EvF_run h.e111 rfl]
  by_cases h4 : e.nodes ≤ 40
  · have h4' : (e.nodes : Int) ≤ 40 := by omega
    simp [f111, callIn_pure, nodes_ev h.c116 e hN, shape_ev h.c117 e hok, h4', h4, exprOk]
  · have h4' : ¬ (e.nodes : Int) ≤ 40 := by omega
    simp [f111, callIn_pure, nodes_ev h.c116 e hN, h4', h4, exprOk]
mutual
def Xp.chk : Xp → Int → Bool × Int
  | .mk k t n ks, l => if l - 1 < 0 ∨ topOk k t n ks.length = false then (false, l - 1) else Xp.chkL ks (l - 1)
def Xp.chkL : List Xp → Int → Bool × Int
  | [], l => (true, l)
  | e :: es, l => if (Xp.chk e l).1 = true then Xp.chkL es (Xp.chk e l).2 else (false, (Xp.chk e l).2)
end
theorem Xp.chk_def (e : Xp) (l : Int) : e.chk l = if l - 1 < 0 ∨ topOk e.kind e.text e.num e.kids.length = false then (false, l - 1) else Xp.chkL e.kids (l - 1) := by
  cases e
  simp only [Xp.chk, Xp.kind_mk, Xp.text_mk, Xp.num_mk, Xp.kids_mk]
  congr
theorem scan_chk : ∀ (ks : List Xp) (i : Nat) (l : Int), (scan (fun (x : Xp) (s : Int) => (!(x.chk s).1, (x.chk s).2)) ks i l).1.isSome = !(Xp.chkL ks l).1 ∧ (scan (fun (x : Xp) (s : Int) => (!(x.chk s).1, (x.chk s).2)) ks i l).2 = (Xp.chkL ks l).2
  | [], i, l => by simp [scan, Xp.chkL]
  | e :: es, i, l => by
    cases h : (e.chk l).1 with
    | true =>
      have ih := scan_chk es (i + 1) (e.chk l).2
      simp only [scan, Xp.chkL, h]
      simpa using ih
    | false => simp [scan, Xp.chkL, h]
theorem Xp.chk_spec (e : Xp) : ∀ l : Int, (e.chk l).1 = (decide ((e.nodes : Int) ≤ l) && e.shape) ∧ ((e.chk l).1 = true → (e.chk l).2 = l - e.nodes) := by
  induction e using Xp.ind with
  | h e ih =>
    intro l
    have hd := e.nodes_def
    have key : ∀ (ks : List Xp), (∀ k ∈ ks, k ∈ e.kids) → ∀ l : Int, 0 ≤ l → (Xp.chkL ks l).1 = (decide ((szL Xp.nodes ks : Int) ≤ l) && ks.all Xp.shape) ∧ ((Xp.chkL ks l).1 = true → (Xp.chkL ks l).2 = l - szL Xp.nodes ks) := by
      intro ks
      induction ks with
      | nil => intro _ l hl; simp [Xp.chkL, hl]
      | cons k ks ihk =>
        intro hm l hl
        obtain ⟨a1, a2⟩ := ih k (hm k (by simp)) l
        cases hc : (k.chk l).1 with
        | true =>
          have a2 := a2 hc
          rw [hc] at a1
          have a1 := a1.symm
          simp at a1
          obtain ⟨b1, b2⟩ := ihk (fun x hx => hm x (by simp [hx])) (k.chk l).2 (by omega)
          simp only [Xp.chkL, hc, if_true]
          refine ⟨?_, fun q => ?_⟩
          · rw [b1, a2]
            simp only [List.all_cons, a1.2, Bool.true_and, szL_cons]
            congr 1
            exact decide_eq_decide.2 (by omega)
          · rw [b2 q, a2]; simp only [szL_cons]; omega
        | false =>
          rw [hc] at a1
          have a1 := a1.symm
          simp only [Xp.chkL, hc, Bool.false_eq_true, if_false]
          refine ⟨?_, fun q => by cases q⟩
          symm
          rw [Bool.and_eq_false_iff] at a1 ⊢
          rcases a1 with a1 | a1
          · left
            rw [decide_eq_false_iff_not] at a1 ⊢
            simp only [szL_cons]
            omega
          · right; simp [a1]
    rw [Xp.chk_def, Xp.shape_def]
    by_cases h0 : l - 1 < 0
    · rw [if_pos (.inl h0)]
      refine ⟨?_, fun q => by cases q⟩
      have : ¬ (e.nodes : Int) ≤ l := by omega
      simp [this]
    · cases ht : topOk e.kind e.text e.num e.kids.length with
      | false => rw [if_pos (.inr rfl)]; simp
      | true =>
        rw [if_neg (by simp [h0])]
        obtain ⟨b1, b2⟩ := key e.kids (fun k h => h) (l - 1) (by omega)
        refine ⟨?_, fun q => ?_⟩
        · rw [b1, Bool.true_and]
          congr 1
          exact decide_eq_decide.2 (by omega)
        · rw [b2 q]; omega
theorem isExpr_ev (h : H102 Γ) (e : Xp) : e.Ok → ∀ l : Int, 0 ≤ l → l ≤ 40 → EvF Γ 102 [e.d, .ptr 0 0] [.box [.int .i64 l]] = some (.bool (e.chk l).1, [.box [.int .i64 (e.chk l).2]]) := by
  induction e using Xp.ind with
  | h e ih =>
    intro hok l hl0 hl1
    have hw : IntKind.wrap .i64 (l - 1) = l - 1 := wrap64 (by omega) (by omega)
    have hn := implName_ev h.c44 e.text
    have hkd := kidsOf_ev h.c113 e.kind
    rw [EvF_run h.e102 rfl, Xp.chk_def]
    by_cases h0 : l - 1 < 0
    · rw [if_pos (.inl h0)]
      simp [f102, hw, h0]
    · by_cases hr : 0 ≤ e.kind ∧ e.kind ≤ 18
      · by_cases hc : e.kids.length = kidsN e.kind
        · have hc' : (e.kids.length : Int) = kidsN e.kind := by omega
          by_cases hx : textOk e.kind e.text = true
          · by_cases hz : numOk e.kind e.num = true
            · have ht : topOk e.kind e.text e.num e.kids.length = true := by simp [topOk, hr, hc, hx, hz]
              rw [if_neg (by simp [h0, ht])]
              have hA := any64_st h.c64 (S := Int) (fun s => [.box [.ptr 1 0], .box [.int .i64 s]]) (fun s => 0 ≤ s ∧ s ≤ 40) 2 (fun _ => rfl) (fun s B hB => by simp at hB; rcases hB with rfl | rfl <;> simp [Blk.lt, D.ltL, D.lt]) 112 [.ptr 0 0] (fun (x : Xp) s => (!(x.chk s).1, (x.chk s).2)) e.kids hok.kids.1
                (fun x hx s hs => by
                  have h1 := ih x hx (hok.kids.2 x hx) s hs.1 hs.2
                  refine ⟨?_, fun q => ?_⟩
                  · rw [EvF_run h.e112 rfl]
                    simp [f112, callIn, callAt, h1]
                  · have q : (x.chk s).1 = true := by simpa using q
                    obtain ⟨a1, a2⟩ := x.chk_spec s
                    rw [a2 q]
                    rw [q] at a1
                    have a1 := a1.symm
                    simp at a1
                    omega) (l - 1) (by omega)
              obtain ⟨s1, s2⟩ := scan_chk e.kids 0 (l - 1)
              rw [s1, s2] at hA
              by_cases k0 : e.kind = 0
              · simp only [textOk, k0, if_true] at hx
                simp [numOk, k0] at hz
                simp [f102, callIn, callAt, hw, h0, within_ev h.c29, kidsOf_ev h.c113, k0, hc', hn, hx, hz, hA]
              · by_cases k2 : e.kind = 2
                · simp [textOk, k2] at hx
                  have hx' : ¬ (100 : Int) < e.text.length := by omega
                  simp [numOk, k2] at hz
                  simp [f102, callIn, callAt, hw, h0, within_ev h.c29, kidsOf_ev h.c113, k2, hc', hx', hz, hA]
                · simp [textOk, k0, k2] at hx
                  by_cases k1 : e.kind = 1
                  · simp [numOk, k1] at hz
                    simp [f102, callIn, callAt, hw, h0, within_ev h.c29, kidsOf_ev h.c113, k1, hc', hx, hz, hA]
                  · simp [numOk, k1] at hz
                    simp [f102, callIn, callAt, hw, h0, within_ev h.c29, kidsOf_ev h.c113, hr.1, hr.2, k0, k1, k2, hc', hx, hz, hA]
            · have ht : topOk e.kind e.text e.num e.kids.length = false := by simp [topOk, hz]
              rw [if_pos (.inr ht)]
              by_cases k0 : e.kind = 0
              · simp only [textOk, k0, if_true] at hx
                simp [numOk, k0] at hz
                simp [f102, callIn_pure, hw, h0, within_ev h.c29, kidsOf_ev h.c113, k0, hc', hn, hx, hz]
              · by_cases k2 : e.kind = 2
                · simp [textOk, k2] at hx
                  have hx' : ¬ (100 : Int) < e.text.length := by omega
                  simp [numOk, k2] at hz
                  simp [f102, callIn_pure, hw, h0, within_ev h.c29, kidsOf_ev h.c113, k2, hc', hx', hz]
                · simp [textOk, k0, k2] at hx
                  by_cases k1 : e.kind = 1
                  · have hz' : (decide (0 ≤ e.num) && decide (e.num ≤ 999999999)) = false := by simpa [numOk, k1] using hz
                    simp [f102, callIn_pure, hw, h0, within_ev h.c29, kidsOf_ev h.c113, k1, hc', hx, hz']
                  · simp [numOk, k1] at hz
                    simp [f102, callIn_pure, hw, h0, within_ev h.c29, kidsOf_ev h.c113, hr.1, hr.2, k0, k1, k2, hc', hx, hz]
          · have ht : topOk e.kind e.text e.num e.kids.length = false := by simp [topOk, hx]
            rw [if_pos (.inr ht)]
            by_cases k0 : e.kind = 0
            · simp only [textOk, k0, if_true, Bool.not_eq_true] at hx
              simp [f102, callIn_pure, hw, h0, within_ev h.c29, kidsOf_ev h.c113, k0, hc', hn, hx]
            · by_cases k2 : e.kind = 2
              · simp [textOk, k2] at hx
                have hx' : (100 : Int) < e.text.length := by omega
                simp [f102, callIn_pure, hw, h0, within_ev h.c29, kidsOf_ev h.c113, k2, hc', hx']
              · simp [textOk, k0, k2] at hx
                simp [f102, callIn_pure, hw, h0, within_ev h.c29, kidsOf_ev h.c113, hr.1, hr.2, k0, k2, hc', hx]
        · have hc' : ¬ (e.kids.length : Int) = kidsN e.kind := by omega
          have ht : topOk e.kind e.text e.num e.kids.length = false := by simp [topOk, hc]
          rw [if_pos (.inr ht)]
          simp [f102, callIn_pure, hw, h0, within_ev h.c29, kidsOf_ev h.c113, hr.1, hr.2, hc']
      · have hb : (decide (0 ≤ e.kind) && decide (e.kind ≤ 18)) = false := by simpa using hr
        have ht : topOk e.kind e.text e.num e.kids.length = false := by simp [topOk, hb]
        rw [if_pos (.inr ht)]
        simp [f102, callIn_pure, hw, h0, within_ev h.c29, hb]
theorem implExpr_ev (h : H100 Γ) (e : Xp) (hok : e.Ok) : EvF Γ 100 [e.d] [] = some (.bool (exprOk e), []) := by
  rw [EvF_run h.e100 rfl]
  have h1 := isExpr_ev h.c102 e hok 40 (by omega) (by omega)
  have h2 : (e.chk 40).1 = exprOk e := by
    rw [(e.chk_spec 40).1, exprOk]
    congr 1
    exact decide_eq_decide.2 (by omega)
  rw [h2] at h1
  simp [f100, callIn, callAt, h1]
end Go.DM
