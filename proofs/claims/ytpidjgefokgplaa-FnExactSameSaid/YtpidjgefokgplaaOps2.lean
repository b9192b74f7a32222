/- The operations on slices: the machine's way is the model's. -/
import Derived.Test.YtpidjgefokgplaaOps1
set_option linter.unnecessarySimpa false
set_option linter.unusedVariables false
set_option linter.unusedSimpArgs false
set_option linter.unusedSectionVars false
namespace Go.DM
open Go

section
variable {num : Cfg} {S S' : Mem} {I I' : Inf} {σ σ' : Store} {w w' : World} {P : Program} {N : Names}

/-- a slice whose elements are told: its value, and its cells -/
theorem elems_sound (hv : Inv num S I σ w) {d : D} {v : Value} {xs : List D} (hr : Rep num S I d v) (h : elems σ d = some xs) :
    ∃ a cap, v = .slice a xs.length cap ∧ (xs = [] ∨ ∃ b o e vs, a = some ⟨b, o, none⟩ ∧ 0 < e ∧ (∀ x ∈ xs, x.cells.length = e) ∧ RepL num S I (xs.flatMap D.cells) vs ∧ CellsAt w b o vs) := by
  unfold elems at h
  split at h
  · cases h
    simp at hr
    obtain ⟨a, rfl⟩ := hr
    exact ⟨a, 0, rfl, .inl rfl⟩
  · cases h
    rw [rep_list] at hr
    obtain ⟨a, cap, rfl, h1, h2⟩ := hr
    refine ⟨a, cap, rfl, h2.imp id ?_⟩
    rintro ⟨b, o, e, rfl, h3, h4⟩
    rw [repE_flat] at h4
    obtain ⟨vs, h5, h6⟩ := repM_cells h4.1
    exact ⟨b, o, e, vs, rfl, h3, h4.2, RepL.mono (SLe.refl S) (ILe.noInf I) _ _ h5, fun j u hj => hv.mem _ _ _ (h6 j u hj)⟩
  · rename_i l n
    rw [rep_sl] at hr
    obtain ⟨li, a, c, h1, h2, h3, rfl, h4⟩ := hr
    split at h
    · rename_i e ys hl
      split at h
      · rename_i hn; cases h
        obtain ⟨vs, k1, k2, k3, k4, k5, k6⟩ := arr_cells hv hl h1
        obtain ⟨rfl, rfl⟩ := h4 (by omega)
        exact ⟨_, _, by rw [hn], .inr ⟨li.b, 0, e, vs, rfl, k6, k5, k1, k2⟩⟩
      · cases h
    · rename_i e ys hl
      split at h
      · rename_i hn; cases h
        obtain ⟨vs, k1, k2, k3, k4, k5, k6⟩ := frz_cells hv hl h1
        obtain ⟨rfl, rfl⟩ := h4 (by omega)
        exact ⟨_, _, by rw [hn], .inr ⟨li.b, 0, e, vs, rfl, k6, k5, k1, k2⟩⟩
      · cases h
    · cases h
  · cases h

section
variable (hN : ∀ f g, N.gid f = some g → num g = f) {ρ : Env} {a : Act} {o : Oper} {r : D}

theorem op_len_str (hv : Inv num S I σ w) {x : Operand} {T : TypeId} {s : List UInt8} (ho : o.op = .call ⟨.builtin .len, #[x], #[T]⟩) (hT : P.underlying T = some .string)
    (hx : Rep num S I (.str s) (a.eval x)) : OpOk num P o a w S I σ (.int .i64 s.length) σ := by
  simp at hx
  refine OpOk.same hv (v := .int .i64 s.length) ?_ (by simp)
  simp [execOp, ho, hx, resolve, invoke, builtin, Builtin.len_, run_underlying hT, goInt, str_size]

theorem op_len_sl (hv : Inv num S I σ w) {x : Operand} {T e : TypeId} {d : D} {xs : List D} (ho : o.op = .call ⟨.builtin .len, #[x], #[T]⟩) (hT : P.underlying T = some (.slice e))
    (hx : Rep num S I d (a.eval x)) (h : elems σ d = some xs) : OpOk num P o a w S I σ (.int .i64 xs.length) σ := by
  obtain ⟨b, c, e1, _⟩ := elems_sound hv hx h
  refine OpOk.same hv (v := .int .i64 xs.length) ?_ (by simp)
  simp [execOp, ho, e1, resolve, invoke, builtin, Builtin.len_, run_underlying hT, goInt]

theorem indexAt_run {T e : TypeId} {i : TypeInfo} {b o' n c : Nat} {j : Int} {k : IntKind} (hT : P.underlying T = some (.slice e)) (hi : P.info? e = some i) (h0 : 0 ≤ j) (h1 : j < n) :
    (Instr.indexAt T (.slice (some ⟨b, o', none⟩) n c) (.int k j)).run P w = .ok (.pointer (some ⟨b, o' + j.toNat * i.size, none⟩)) w := by
  simp [Instr.indexAt, asIntOf, run_underlying hT, h0, h1, Go.sizeOf, typeInfo, hi, addr_add]

theorem op_iaddr_list (hv : Inv num S I σ w) {x i : Operand} {T e : TypeId} {inf : TypeInfo} {xs : List D} {d : D} {k : IntKind} {j : Int} (ho : o.op = .indexAddr T x i) (hT : P.underlying T = some (.slice e)) (hi : P.info? e = some inf)
    (hx : Rep num S I (.list xs) (a.eval x)) (hj : Rep num S I (.int k j) (a.eval i)) (h0 : 0 ≤ j) (hd : xs[j.toNat]? = some d) (hs : d.cells.length = inf.size) : OpOk num P o a w S I σ (.fptr d 0) σ := by
  simp at hj
  rw [rep_list] at hx
  obtain ⟨ad, cap, e1, h1, h2⟩ := hx
  have hlt : j.toNat < xs.length := by
    rcases Nat.lt_or_ge j.toNat xs.length with q | q
    · exact q
    · rw [List.getElem?_eq_none q] at hd; cases hd
  rcases h2 with rfl | ⟨b, o', es, rfl, h3, h4⟩
  · simp at hlt
  obtain ⟨h5, h6⟩ := repE_get h4 hd
  refine OpOk.same hv (v := .pointer (some ⟨b, o' + j.toNat * inf.size, none⟩)) ?_ (rep_fptr.2 ⟨b, o' + j.toNat * inf.size, rfl, by rw [← hs, h5]; exact h6⟩)
  simp only [execOp, ho, e1, hj, Sem.run_bind, indexAt_run hT hi h0 (show j < (xs.length : Int) by omega)]
  rfl

theorem op_iaddr_sl (hv : Inv num S I σ w) {x i : Operand} {T e : TypeId} {inf : TypeInfo} {l n es : Nat} {li : LI} {k : IntKind} {j : Int} (ho : o.op = .indexAddr T x i) (hT : P.underlying T = some (.slice e)) (hi : P.info? e = some inf)
    (hx : Rep num S I (.sl l n) (a.eval x)) (hj : Rep num S I (.int k j) (a.eval i)) (h0 : 0 ≤ j) (h1 : j < n) (hl : I l = some li) (hn : li.n = n) (he : li.esz = es) (hs : es = inf.size) : OpOk num P o a w S I σ (.eptr l n j.toNat 0) σ := by
  simp at hj
  rw [rep_sl] at hx
  obtain ⟨li', ad, c, k1, k2, k3, e1, k4⟩ := hx
  rw [hl] at k1; cases k1
  obtain ⟨rfl, rfl⟩ := k4 hn
  refine OpOk.same hv (v := .pointer (some ⟨li.b, 0 + j.toNat * inf.size, none⟩)) ?_ (rep_eptr.2 ⟨li, _, hl, k2, k3, rfl, fun _ => by rw [he, hs]; simp⟩)
  simp only [execOp, ho, e1, hj, Sem.run_bind, indexAt_run hT hi h0 h1]
  rfl

/-! ### cutting -/

theorem sub_len {α : Type} {xs r : List α} {lo hi : Int} (h : sub? xs lo hi = some r) : 0 ≤ lo ∧ lo ≤ hi ∧ hi ≤ xs.length ∧ r = (xs.take hi.toNat).drop lo.toNat ∧ r.length = hi.toNat - lo.toNat := by
  unfold sub? at h
  split at h
  · rename_i q; cases h
    refine ⟨q.1, q.2.1, q.2.2, rfl, ?_⟩
    simp; omega
  · cases h

theorem lo_run {x : Option Operand} {x' : Option Opd} (hN : ∀ f g, N.gid f = some g → num g = f) (hx : opdO N x = some x') (hr : RT num S I ρ a.tmps) {n : Int} (h : loInt ρ x' = some n) {y : Nat} (h0 : 0 ≤ n) (h1 : n ≤ y) (code : BoundsCode) :
    (match x.map a.eval with | some v => Instr.sliceBound v y code | none => pure 0 : Sem Nat).run P w = .ok n.toNat w := by
  cases x with
  | none =>
    simp [opdO] at hx; subst hx
    simp [loInt] at h; subst h; rfl
  | some x =>
    simp only [opdO, Option.map_eq_some_iff] at hx
    obtain ⟨z, h2, rfl⟩ := hx
    have h3 := opd_sound (num := num) (S := S) (I := I) hN h2 hr
    simp only [loInt] at h
    cases hz : z.ev ρ <;> simp [hz, asInt] at h
    subst h
    rw [hz] at h3
    simp at h3
    simp [h3, Instr.sliceBound, asIntOf, h0, h1]

theorem hi_run {x : Option Operand} {x' : Option Opd} {len cap : Nat} (hN : ∀ f g, N.gid f = some g → num g = f) (hx : opdO N x = some x') (hr : RT num S I ρ a.tmps) {n : Int} (h : hiInt ρ len x' = some n) (h0 : 0 ≤ n) (h1 : n ≤ len) (hc : len ≤ cap) (code : BoundsCode) :
    (match x.map a.eval with | some v => Instr.sliceBound v cap code | none => pure len : Sem Nat).run P w = .ok n.toNat w := by
  cases x with
  | none =>
    simp [opdO] at hx; subst hx
    simp [hiInt] at h; subst h; rfl
  | some x =>
    simp only [opdO, Option.map_eq_some_iff] at hx
    obtain ⟨z, h2, rfl⟩ := hx
    have h3 := opd_sound (num := num) (S := S) (I := I) hN h2 hr
    simp only [hiInt] at h
    cases hz : z.ev ρ <;> simp [hz, asInt] at h
    subst h
    rw [hz] at h3
    simp at h3
    rename_i k n
    have h4 : n ≤ (cap : Int) := by omega
    simp [h3, Instr.sliceBound, asIntOf, h0, h4]

theorem bounds_run {isSlice : Bool} {len cap : Nat} {lo hi : Option Operand} {lo' hi' : Option Opd} {p q : Int} (hN : ∀ f g, N.gid f = some g → num g = f) (hr : RT num S I ρ a.tmps)
    (hlo : opdO N lo = some lo') (hhi : opdO N hi = some hi') (h1 : loInt ρ lo' = some p) (h2 : hiInt ρ len hi' = some q) (h3 : 0 ≤ p) (h4 : p ≤ q) (h5 : q ≤ len) (hc : len ≤ cap) :
    (Instr.sliceBounds isSlice len cap (lo.map a.eval) (hi.map a.eval) none).run P w = .ok (p.toNat, q.toNat, cap) w := by
  have e1 := hi_run (P := P) (w := w) (cap := cap) (a := a) hN hhi hr h2 (by omega) h5 hc (if isSlice then .sliceAcap else .sliceAlen)
  have e2 := lo_run (P := P) (w := w) (a := a) (y := q.toNat) hN hlo hr h1 h3 (by omega) .sliceB
  unfold Instr.sliceBounds
  cases hi <;> cases lo <;> simp at e1 e2 <;> simp [e1, e2]

theorem op_sub_str (hv : Inv num S I σ w) {x : Operand} {T : TypeId} {lo hi : Option Operand} {lo' hi' : Option Opd} {s t : List UInt8} {p q : Int} (hN : ∀ f g, N.gid f = some g → num g = f) (ho : o.op = .slice T x lo hi none) (hT : P.underlying T = some .string)
    (hr : RT num S I ρ a.tmps) (hx : Rep num S I (.str s) (a.eval x)) (hlo : opdO N lo = some lo') (hhi : opdO N hi = some hi') (h1 : loInt ρ lo' = some p) (h2 : hiInt ρ s.length hi' = some q) (h3 : sub? s p q = some t) : OpOk num P o a w S I σ (.str t) σ := by
  simp at hx
  obtain ⟨k1, k2, k3, rfl, k5⟩ := sub_len h3
  refine OpOk.same hv (v := .string ⟨((s.take q.toNat).drop p.toNat).toArray⟩) ?_ (by simp)
  have e3 : (⟨s.toArray⟩ : ByteArray).extract p.toNat q.toNat = ⟨((s.take q.toNat).drop p.toNat).toArray⟩ := by
    apply ByteArray.ext
    rw [ByteArray.data_extract]
    apply Array.ext'
    simp [List.drop_take]
  have e4 := bounds_run (P := P) (w := w) (isSlice := false) (cap := s.length) hN hr hlo hhi h1 h2 k1 k2 k3 (Nat.le_refl _)
  simp [execOp, ho, hx, Instr.sliceAt, Instr.slice, run_underlying hT, str_size, e4, e3]

theorem op_sub_list (hv : Inv num S I σ w) {x : Operand} {T e : TypeId} {i : TypeInfo} {lo hi : Option Operand} {lo' hi' : Option Opd} {xs ys : List D} {p q : Int} (hN : ∀ f g, N.gid f = some g → num g = f) (ho : o.op = .slice T x lo hi none) (hT : P.underlying T = some (.slice e))
    (hinf : P.info? e = some i) (hsz : headOk i.size xs = true)
    (hr : RT num S I ρ a.tmps) (hx : Rep num S I (.list xs) (a.eval x)) (hlo : opdO N lo = some lo') (hhi : opdO N hi = some hi') (h1 : loInt ρ lo' = some p) (h2 : hiInt ρ xs.length hi' = some q) (h3 : sub? xs p q = some ys) : OpOk num P o a w S I σ (.list ys) σ := by
  rw [rep_list] at hx
  obtain ⟨ad, cap, e1, hc, h4⟩ := hx
  obtain ⟨k1, k2, k3, rfl, k5⟩ := sub_len h3
  have e4 := bounds_run (P := P) (w := w) (isSlice := true) (cap := cap) hN hr hlo hhi h1 h2 k1 k2 k3 hc
  refine OpOk.same hv (v := .slice (if cap = p.toNat then ad else ad.map (·.add (p.toNat * i.size))) (q.toNat - p.toNat) (cap - p.toNat)) ?_ ?_
  · simp [execOp, ho, e1, Instr.sliceAt, Instr.slice, run_underlying hT, e4, Go.sizeOf, typeInfo, hinf]
  · rw [rep_list]
    refine ⟨_, _, by rw [k5], by rw [k5]; omega, ?_⟩
    by_cases hemp : (List.take q.toNat xs).drop p.toNat = []
    · exact .inl hemp
    · right
      have hlen : p.toNat < q.toNat := by
        rcases Nat.lt_or_ge p.toNat q.toNat with z | z
        · exact z
        · exfalso; apply hemp; apply List.eq_nil_of_length_eq_zero; omega
      have hne : xs ≠ [] := by rintro rfl; simp at k3; omega
      rcases h4 with h4 | ⟨b, o', es, rfl, h5, h6⟩
      · exact absurd h4 hne
      have hes : i.size = es := by
        cases xs with
        | nil => exact absurd rfl hne
        | cons z zs =>
          rw [repE_cons] at h6
          simp [headOk] at hsz
          rw [← hsz]; exact h6.1
      refine ⟨b, o' + p.toNat * es, es, ?_, h5, ?_⟩
      · rw [if_neg (by omega), hes]; simp [addr_add]
      · rw [List.drop_take]
        exact repE_take (repE_drop h6 p.toNat (by omega)) _
theorem op_sub0 (hv : Inv num S I σ w) {x : Operand} {T e : TypeId} {i : TypeInfo} {hi mx : Option Operand} {d : D} {xs : List D} (ho : o.op = .slice T x none hi mx) (hT : P.underlying T = some (.slice e)) (hinf : P.info? e = some i)
    (hhi : isConst0 hi = true) (hmx : isConst0 mx = true) (hx : Rep num S I d (a.eval x)) (h : elems σ d = some xs) : OpOk num P o a w S I σ .nils σ := by
  have c0 : ∀ z : Option Operand, isConst0 z = true → ∃ k, z = some (.const (.int k 0)) := by
    intro z hz
    unfold isConst0 at hz
    split at hz
    · rename_i k n; simp at hz; subst hz; exact ⟨k, rfl⟩
    · cases hz
  obtain ⟨k1, rfl⟩ := c0 hi hhi
  obtain ⟨k2, rfl⟩ := c0 mx hmx
  obtain ⟨ad, c, e1, _⟩ := elems_sound hv hx h
  refine OpOk.same hv (v := .slice ad 0 0) ?_ (by simp)
  have b1 : ∀ (k : IntKind) (y : Nat) (code : BoundsCode), (Instr.sliceBound (.int k 0) y code).run P w = .ok 0 w := by
    intro k y code
    simp [Instr.sliceBound, asIntOf]
  have e2 : (Instr.sliceBounds true xs.length c none (some (.int k1 0)) (some (.int k2 0))).run P w = .ok (0, 0, 0) w := by
    simp [Instr.sliceBounds, b1]
  have ec : ∀ k, a.eval (.const (.int k 0)) = .int k 0 := fun _ => rfl
  simp [execOp, ho, e1, ec, Instr.sliceAt, Instr.slice, run_underlying hT, e2, Go.sizeOf, typeInfo, hinf]

/-! ### making slices -/

theorem zeroEl_sound {T : TypeId} {z : D} (h : zeroEl P T = some z) : ∃ i v, P.info? T = some i ∧ (∀ w, (zeroValue T).run P w = .ok v w) ∧ RepL num S I z.cells v.cells.toList ∧ z.cells.all D.atom = true ∧ z.cells.length = i.size := by
  unfold zeroEl at h
  split at h
  · rename_i cs g i hz ha hi
    obtain ⟨v, h1, h2, h3⟩ := zeroCs_sound (num := num) (S := S) (I := I) hz
    split at h
    · rename_i hl
      cases g with
      | some n =>
        simp only at h
        split at h
        · cases h
          exact ⟨i, v, hi, h1, h2, h3, hl⟩
        · cases h
      | none =>
        simp only at h
        split at h
        · rename_i c
          cases h
          have hc' : z.cells = [z] := by
            simp at h3
            cases z <;> simp [D.atom] at h3 <;> rfl
          exact ⟨i, v, hi, h1, by rw [hc']; exact h2, by rw [hc']; exact h3, by rw [hc']; exact hl⟩
        · cases h
    · cases h
  · cases h

/-- cells of which each is the zero's, in turn -/
theorem zeros_eq {z : List Value} {n : Nat} : ((List.range (n * z.length)).map fun i => z[i % z.length]!) = (List.replicate n z).flatten := by
  induction n with
  | zero => simp
  | succ n ih =>
    rw [List.replicate_succ', List.flatten_append, ← ih, Nat.succ_mul, List.range_add, List.map_append]
    congr 1
    simp
    apply List.ext_getElem
    · simp
    · intro i h1 h2
      simp at h1 h2
      have e : (n * z.length + i) % z.length = i := by rw [Nat.mul_comm, Nat.mul_add_mod]; exact Nat.mod_eq_of_lt h2
      simp [e, h2]

theorem repL_replicate {z : List D} {v : List Value} (h : RepL num S I z v) (n : Nat) : RepL num S I (List.replicate n z).flatten (List.replicate n v).flatten := by
  induction n with
  | zero => simp
  | succ n ih => rw [List.replicate_succ, List.replicate_succ, List.flatten_cons, List.flatten_cons]; exact repL_append.2 ⟨_, _, rfl, h, ih⟩

theorem flatMap_replicate_cells (n : Nat) (z : D) : (List.replicate n z).flatMap D.cells = (List.replicate n z.cells).flatten := by
  induction n with
  | zero => rfl
  | succ n ih => simp [List.replicate_succ, ih]

theorem op_mkSl (hv : Inv num S I σ w) {T e : TypeId} {i : TypeInfo} {l c : Operand} {z : D} {n m : Int} (ho : o.op = .makeSlice T l c) (hT : P.underlying T = some (.slice e)) (hi : P.info? e = some i) (hz : zeroEl P e = some z)
    (hs : 0 < i.size) (hl : Rep num S I (.int .i64 n) (a.eval l)) (hc : Rep num S I (.int .i64 m) (a.eval c)) (h0 : 0 ≤ n) (h1 : n ≤ m) (h2 : i.bytes * m ≤ room) (h3 : m ≤ room) :
    OpOk num P o a w S I σ (.sl σ.length n.toNat) (σ ++ [.arr i.size (List.replicate n.toNat z)]) := by
  simp at hl hc
  obtain ⟨i', v, hi', k1, k2, k3, k4⟩ := zeroEl_sound (num := num) (S := S) (I := I) hz
  rw [hi] at hi'; cases hi'
  have hvl : v.cells.toList.length = i.size := by rw [repL_length k2, k4]
  have hvs : v.cells.size = i.size := by simpa using hvl
  obtain ⟨p, rfl⟩ := Int.eq_ofNat_of_zero_le h0
  obtain ⟨q, rfl⟩ := Int.eq_ofNat_of_zero_le (show 0 ≤ m by omega)
  simp only [Int.toNat_natCast]
  have hpq : p ≤ q := by omega
  have hrep := repL_replicate (num := num) (S := S) (I := I) k2 p
  rw [← flatMap_replicate_cells] at hrep
  have hall : ∀ x ∈ List.replicate p z, x.cells.length = i.size ∧ x.cells.all D.atom = true := by
    intro x hx; rw [List.eq_of_mem_replicate hx]; exact ⟨k4, k3⟩
  have hcells : ((List.replicate p v.cells.toList).flatten ++ (List.replicate (q - p) v.cells.toList).flatten) = (List.replicate q v.cells.toList).flatten := by
    rw [← List.flatten_append, List.replicate_append_replicate, show p + (q - p) = q by omega]
  have hlen : ((List.replicate p v.cells.toList).flatten ++ (List.replicate (q - p) v.cells.toList).flatten).length = q * i.size := by
    rw [hcells]; simp [hvs]
  obtain ⟨I', h4, h5⟩ := post_arr (T := e) hv hs hrep hall hlen
  refine ⟨_, _, S, I', .inl ?_, by simpa using h5, h4⟩
  have w1 : IntKind.i64.wrap (p : Int) = p := by unfold room at h3; simp [IntKind.wrap, IntKind.bits, IntKind.signed]; omega
  have w2 : IntKind.i64.wrap (q : Int) = q := by unfold room at h3; simp [IntKind.wrap, IntKind.bits, IntKind.signed]; omega
  have g1 : ¬ ((i.bytes : Int) * q > 2 ^ 48) := by unfold room at h2; omega
  have e1 : ((Array.range (q * i.size)).map fun k => v.cells[k % v.cells.size]!) = ((List.replicate p v.cells.toList).flatten ++ (List.replicate (q - p) v.cells.toList).flatten).toArray := by
    rw [hcells]
    apply Array.ext'
    have := zeros_eq (z := v.cells.toList) (n := q)
    simp only [Array.toList_map, Array.toList_range]
    rw [← this, hvl, hvs]
    apply List.map_congr_left
    intro k hk
    rw [getElem!_def, getElem!_def]
    simp
  have run : (Instr.makeSlice T (.int .i64 p) (.int .i64 q)).run P w = .ok (.slice (some ⟨w.heap.size, 0, none⟩) p q) (wpush w (.cells ((List.replicate p v.cells.toList).flatten ++ (List.replicate (q - p) v.cells.toList).flatten).toArray e)) := by
    unfold Instr.makeSlice
    simp only [Bool.or_eq_true, decide_eq_true_eq]
    simp [run_underlying hT, Go.asInt, asIntOf, typeInfo, hi, w1, w2, Go.sizeOf, newRow_run]
    by_cases hq : q = 0
    · subst hq
      have : p = 0 := by omega
      subst this
      simp
      simp [Array.range_zero']
    · have hs' : ¬ (i.size = 0) := by omega
      have hqs : ¬ (q * i.size = 0) := by
        intro h; rcases Nat.mul_eq_zero.1 h with h | h
        · exact hq h
        · exact hs' h
      simp [k1, e1]
      rw [if_neg (by omega), if_neg hqs]
  simp only [execOp, ho, hl, hc, Sem.run_bind, run]
  rfl
end
end
end Go.DM
