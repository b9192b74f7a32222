/- The plain operations: the machine's way is the model's. -/
import Derived.Test.YtpidjgefokgplaaWrite
import Derived.Laws.StructEq
import Derived.Laws.Strings
set_option linter.unnecessarySimpa false
set_option linter.unusedVariables false
set_option linter.unusedSimpArgs false
set_option linter.unusedSectionVars false
namespace Go.DM
open Go

section
variable {num : Cfg} {S S' : Mem} {I I' : Inf} {σ σ' : Store} {w w' : World} {P : Program} {N : Names}

def RT (num : Cfg) (S : Mem) (I : Inf) (ρ : Env) (tmps : Array Value) : Prop := ∀ t, Rep num S I (get ρ t) (tmps.getD t undef)

theorem RT.mono {ρ : Env} {tmps : Array Value} (h : RT num S I ρ tmps) (hS : SLe S S') (hI : ILe I I') : RT num S' I' ρ tmps := fun t => Rep.mono hS hI _ _ (h t)

/-- what an operation comes to, by the machine's account -/
def OpOk (num : Cfg) (P : Program) (o : Oper) (a : Act) (w : World) (S : Mem) (I : Inf) (σ : Store) (r : D) (σ' : Store) : Prop :=
  ∃ v w' S' I', ((execOp a.eval o).run P w = .ok (.value v) w' ∨ ((execOp a.eval o).run P w = .ok .skip w' ∧ v = undef)) ∧ Rep num S' I' r v ∧ Post num S I σ w S' I' σ' w'

theorem OpOk.same {o : Oper} {a : Act} {r : D} {v : Value} (hv : Inv num S I σ w) (hrun : (execOp a.eval o).run P w = .ok (.value v) w) (hr : Rep num S I r v) : OpOk num P o a w S I σ r σ :=
  ⟨v, w, S, I, .inl hrun, hr, Post.refl hv⟩

theorem dOfV_sound {v : Value} {d : D} (h : dOfV v = some d) : Rep num S I d v ∧ d.atom = true := by
  unfold dOfV at h
  split at h <;> cases h <;> refine ⟨?_, rfl⟩ <;> simp

theorem mapO_dOfV {vs : List Value} {ds : List D} (h : mapO dOfV vs = some ds) : RepL num S I ds vs ∧ ds.all D.atom = true := by
  induction vs generalizing ds with
  | nil => simp [mapO] at h; subst h; simp
  | cons v vs ih =>
    simp only [mapO] at h
    split at h
    · rename_i d hd
      split at h
      · rename_i es hes
        cases h
        have h1 := dOfV_sound (num := num) (S := S) (I := I) hd
        have h2 := ih hes
        exact ⟨repL_cons.2 ⟨v, vs, rfl, h1.1, h2.1⟩, by simp [h1.2, h2.2]⟩
      · cases h
    · cases h

theorem opd_sound (hN : ∀ f g, N.gid f = some g → num g = f) {x : Operand} {x' : Opd} (h : opd N x = some x') {ρ : Env} {a : Act} (hr : RT num S I ρ a.tmps) : Rep num S I (x'.ev ρ) (a.eval x) := by
  cases x with
  | tmp t => simp [opd] at h; subst h; exact hr t
  | const v =>
    simp only [opd, Option.map_eq_some_iff] at h
    obtain ⟨d, h1, rfl⟩ := h
    exact (dOfV_sound h1).1
  | global g => simp [opd] at h
  | func f =>
    simp only [opd, Option.map_eq_some_iff] at h
    obtain ⟨g, h1, rfl⟩ := h
    exact rep_fn.2 ⟨[], by simp [Act.eval, hN f g h1], by simp⟩

theorem opds_sound (hN : ∀ f g, N.gid f = some g → num g = f) {xs : List Operand} {xs' : List Opd} (h : mapO (opd N) xs = some xs') {ρ : Env} {a : Act} (hr : RT num S I ρ a.tmps) :
    RepL num S I (xs'.map (Opd.ev ρ)) (xs.map a.eval) := by
  induction xs generalizing xs' with
  | nil => simp [mapO] at h; subst h; simp
  | cons x xs ih =>
    simp only [mapO] at h
    split at h
    · rename_i d hd
      split at h
      · rename_i es hes
        cases h
        exact repL_cons.2 ⟨_, _, rfl, opd_sound hN hd hr, ih hes⟩
      · cases h
    · cases h

/-! ### blocks that are new -/

theorem newRow_run {T : TypeId} {cs : Array Value} : (newRow T cs).run P w = .ok ⟨w.heap.size, 0, none⟩ (wpush w (.cells cs T)) := by
  simp [newRow, wpush]

theorem post_box (hv : Inv num S I σ w) {cs : List D} {vs : List Value} {T : TypeId} (h : RepL num S I cs vs) (ha : cs.all D.atom = true) :
    ∃ I', Post num S I σ w S I' (σ ++ [.box cs]) (wpush w (.cells vs.toArray T)) ∧ Rep num S I' (.ptr σ.length 0) (.pointer (some ⟨w.heap.size, 0, none⟩)) := by
  let li : LI := ⟨true, w.heap.size, 0, 0, 0⟩
  have hI : ILe I (setI I σ.length li) := ILe.setNew (hv.dom _ (Nat.le_refl _))
  refine ⟨setI I σ.length li, post_new hv rfl rfl ⟨rfl, ha, vs, T, wpush_new, RepL.mono (SLe.refl S) hI _ _ h⟩, rep_ptr.2 ⟨li, setI_same, rfl, rfl⟩⟩

/-- a new block that nobody will write -/
theorem post_fbox (hv : Inv num S I σ w) {cs : List D} {vs : List Value} {T : TypeId} (h : RepL num S noInf cs vs) :
    ∃ S', Post num S I σ w S' I σ (wpush w (.cells vs.toArray T)) ∧ RepM num S' w.heap.size 0 cs := by
  let S2 : Mem := fun b o => if b = w.heap.size then vs[o]? else S b o
  have hS : SLe S S2 := fun b o v e => by
    have := hv.mem_lt e
    simp only [S2]
    rw [if_neg (by omega)]
    exact e
  have hcell : ∀ o v, vs[o]? = some v → (wpush w (.cells vs.toArray T)).cell? ⟨w.heap.size, o, none⟩ = some v := fun o v e => by
    simp only [World.cell?, wpush_new]
    simpa using e
  refine ⟨S2, ⟨hS, ILe.refl I, ⟨hv.glob.trans hS, ?_, hv.dom, ?_, hv.sep, ?_⟩, rfl, rfl, rfl, by simp [wpush], fun b hb _ => wpush_old hb, fun _ e => .inl e, ?_⟩, ?_⟩
  · intro b o v e
    simp only [S2] at e
    split at e
    · rename_i hb; subst hb; exact hcell o v e
    · rw [cell_of_heap (w := w) (wpush_old (hv.mem_lt e))]
      exact hv.mem b o v e
  · intro l B e hl
    obtain ⟨li, h1, h2⟩ := hv.blk l B e hl
    exact ⟨li, h1, h2.mono hS (ILe.refl I) fun hl' => wpush_old (hv.live_lt e hl' h1)⟩
  · intro l B li o e hl hi
    have := hv.live_lt e hl hi
    simp only [S2]
    rw [if_neg (by omega)]
    exact hv.own l B li o e hl hi
  · intro b o v e
    simp only [S2] at e
    split at e
    · rename_i hb; exact .inr (.inl (by omega))
    · exact .inl e
  · refine repM_of_cells (RepL.mono hS (ILe.refl _) _ _ h) fun j v hj => ?_
    simp [S2, hj]

theorem post_arr (hv : Inv num S I σ w) {xs : List D} {vs sp : List Value} {T : TypeId} {e cap : Nat} (he : 0 < e) (h : RepL num S I (xs.flatMap D.cells) vs)
    (ha : ∀ x ∈ xs, x.cells.length = e ∧ x.cells.all D.atom = true) (hl : (vs ++ sp).length = cap * e) :
    ∃ I', Post num S I σ w S I' (σ ++ [.arr e xs]) (wpush w (.cells (vs ++ sp).toArray T)) ∧ Rep num S I' (.sl σ.length xs.length) (.slice (some ⟨w.heap.size, 0, none⟩) xs.length cap) := by
  let li : LI := ⟨false, w.heap.size, e, xs.length, cap⟩
  have hI : ILe I (setI I σ.length li) := ILe.setNew (hv.dom _ (Nat.le_refl _))
  refine ⟨setI I σ.length li, post_new hv rfl rfl ⟨rfl, rfl, he, rfl, ha, vs, sp, T, (0, 0), wpush_new, RepL.mono (SLe.refl S) hI _ _ h, hl, fun o _ => by simp⟩, rep_sl.2 ⟨li, _, _, setI_same, rfl, Nat.le_refl _, rfl, fun _ => ⟨rfl, rfl⟩⟩⟩

theorem zeroCs_sound {T : TypeId} {zs : List D} (h : zeroCs P T = some zs) : ∃ z, (∀ w, (zeroValue T).run P w = .ok z w) ∧ RepL num S I zs z.cells.toList ∧ zs.all D.atom = true := by
  unfold zeroCs at h
  split at h
  · rename_i i hi
    split at h
    · rename_i z hz
      have h1 := mapO_dOfV (num := num) (S := S) (I := I) h
      exact ⟨z, fun w => by simp [zeroValue, typeInfo, hi, hz], h1.1, h1.2⟩
    · cases h
  · cases h

section
variable (hN : ∀ f g, N.gid f = some g → num g = f) {ρ : Env} {a : Act} {o : Oper} {r : D}

theorem op_alloc (hv : Inv num S I σ w) {T : TypeId} {zs : List D} (ho : o.op = .alloc T) (h : zeroCs P T = some zs) : OpOk num P o a w S I σ (.ptr σ.length 0) (σ ++ [.box zs]) := by
  obtain ⟨z, hz, h1, h2⟩ := zeroCs_sound (num := num) (S := S) (I := I) h
  obtain ⟨I', h3, h4⟩ := post_box (T := T) hv h1 h2
  refine ⟨_, _, S, I', .inl ?_, h4, h3⟩
  simp [execOp, ho, Instr.alloc, hz, newVar, newRow_run]

theorem op_box (hv : Inv num S I σ w) {T : TypeId} {x : Operand} {d : D} (ho : o.op = .box T x) (h : Rep num S I d (a.eval x)) (ha : d.cells.all D.atom = true) :
    OpOk num P o a w S I σ (.ptr σ.length 0) (σ ++ [.box d.cells]) := by
  have h1 := rep_cells h ha
  obtain ⟨I', h3, h4⟩ := post_box (T := T) hv h1 ha
  refine ⟨_, _, S, I', .inl ?_, h4, h3⟩
  simp [execOp, ho, Instr.box, newVar, newRow_run]

theorem op_nilck (hv : Inv num S I σ w) {x : Operand} {d : D} (ho : o.op = .nilCheck x) (h : Rep num S I d (a.eval x))
    (hd : match d with | .ptr .. | .eptr .. | .fptr .. | .fn .. => True | _ => False) : OpOk num P o a w S I σ d σ := by
  refine OpOk.same hv (v := a.eval x) ?_ h
  cases d <;> simp at hd
  · rw [rep_ptr] at h; obtain ⟨li, _, _, e⟩ := h; simp [execOp, ho, e]
  · rw [rep_eptr] at h; obtain ⟨li, _, _, _, _, e, _⟩ := h; simp [execOp, ho, e]
  · rw [rep_fptr] at h; obtain ⟨_, _, e, _⟩ := h; simp [execOp, ho, e]
  · rw [rep_fn] at h; obtain ⟨_, e, _⟩ := h; simp [execOp, ho, e]

/-! ### arithmetic -/

theorem bytesLess_eq (a b : List UInt8) : Op.bytesLess a b = lessB a b := by
  induction a generalizing b with
  | nil => cases b <;> rfl
  | cons x a ih => cases b <;> simp [Op.bytesLess, lessB, ih]

theorem str_toList (s : List UInt8) : (⟨s.toArray⟩ : ByteArray).toList = s := by
  rw [ByteArray.toList_eq]

theorem str_append (s t : List UInt8) : (⟨s.toArray⟩ : ByteArray) ++ ⟨t.toArray⟩ = ⟨(s ++ t).toArray⟩ := by
  apply ByteArray.ext
  simp

theorem str_size (s : List UInt8) : (⟨s.toArray⟩ : ByteArray).size = s.length := by
  simp [ByteArray.size]

theorem beqL (x y : List UInt8) : (x == y) = decide (x = y) := by rw [Bool.eq_iff_iff]; simp

theorem run_bin_int {op : BinOp} {T : TypeId} {k k' : IntKind} {x y : Int} {r : D} (h : binD op (.int k x) (.int k' y) = some r) :
    ∃ v, (binOp op T (.int k x) (.int k' y)).run P w = .ok v w ∧ Rep num S I r v := by
  cases op
  case shl =>
    simp only [binD] at h
    split at h
    · cases h
    · rename_i hy; cases h
      exact ⟨_, by simp [binOp, Op.shift, hy]; rfl, by simp⟩
  case shr =>
    simp only [binD] at h
    split at h
    · cases h
    · rename_i hy; cases h
      exact ⟨_, by simp [binOp, Op.shift, hy]; rfl, by simp⟩
  all_goals
    simp only [binD] at h
    split at h
    · rename_i hk; subst hk
      simp only [intBin] at h
      first
        | (cases h; exact ⟨_, by simp [binOp, Op.intArith, Op.intBits, Op.intCmp]; rfl, by simp⟩)
        | (split at h
           · cases h
           · rename_i hy; cases h
             exact ⟨_, by simp [binOp, Op.intDiv, hy]; rfl, by simp⟩)
        | cases h
    · cases h

theorem run_bin_str {op : BinOp} {T : TypeId} {x y : List UInt8} {r : D} (h : binD op (.str x) (.str y) = some r) :
    ∃ v, (binOp op T (.string ⟨x.toArray⟩) (.string ⟨y.toArray⟩)).run P w = .ok v w ∧ Rep num S I r v := by
  have e : ∀ X Y, binOp op T (.string X) (.string Y) = Op.stringOp op X Y := by intro X Y; cases op <;> rfl
  rw [e]
  cases op <;> simp only [binD, strBin] at h <;> (try (cases h; done))
  case add =>
    split at h
    · rename_i hl; cases h
      refine ⟨.string ⟨(x ++ y).toArray⟩, ?_, by simp⟩
      have e : ¬ ((((x.length + y.length : Nat)) : Int) > IntKind.i64.max) := by rw [IntKind.max_i64]; omega
      simp only [Op.stringOp, str_size, e, if_false, str_append]
      rfl
    · cases h
  all_goals
    cases h
    refine ⟨_, ?_, rep_bool.2 rfl⟩
    simp only [Op.stringOp, str_toList, bytesLess_eq, beqL, Sem.run_pure]

theorem run_bin_bool {op : BinOp} {T : TypeId} (hT : P.underlying T = some .bool) {x y : Bool} {r : D} (h : binD op (.bool x) (.bool y) = some r) :
    ∃ v, (binOp op T (.bool x) (.bool y)).run P w = .ok v w ∧ Rep num S I r v := by
  have e : (Op.equal T (.bool x) (.bool y)).run P w = .ok (x == y) w := run_equalIn_bool' w 9999 T x y hT
  simp only [binD] at h
  split at h
  · cases h
    refine ⟨.bool (x == y), ?_, by simp⟩
    show ((do pure (Value.bool (← Op.equal T (.bool x) (.bool y)))) : Sem Value).run P w = _
    rw [Sem.run_bind, e]; rfl
  · cases h
    refine ⟨.bool (!(x == y)), ?_, by simp⟩
    show ((do pure (Value.bool (!(← Op.equal T (.bool x) (.bool y))))) : Sem Value).run P w = _
    rw [Sem.run_bind, e]; rfl
  · cases h

theorem op_bin (hv : Inv num S I σ w) {op : BinOp} {T U : TypeId} {x y : Operand} {dx dy : D} (ho : o.op = .binOp op T x y U)
    (hT : P.underlying T = some .bool ∨ (∀ b, dx ≠ .bool b)) (hx : Rep num S I dx (a.eval x)) (hy : Rep num S I dy (a.eval y)) (h : binD op dx dy = some r) : OpOk num P o a w S I σ r σ := by
  cases dx <;> cases dy <;> first
    | (simp [binD] at h; done)
    | skip
  · simp at hx hy
    obtain ⟨v, h1, h2⟩ := run_bin_int (T := T) (P := P) (w := w) (num := num) (S := S) (I := I) h
    refine OpOk.same hv (v := v) ?_ h2
    simp [execOp, ho, hx, hy, eqGuard_at_int, h1]
  · simp at hx hy
    obtain ⟨v, h1, h2⟩ := run_bin_bool (T := T) (P := P) (w := w) (num := num) (S := S) (I := I) (hT.resolve_right (fun q => q _ rfl)) h
    refine OpOk.same hv (v := v) ?_ h2
    simp [execOp, ho, hx, hy, eqGuard_at_bool, h1]
  · simp at hx hy
    obtain ⟨v, h1, h2⟩ := run_bin_str (T := T) (P := P) (w := w) (num := num) (S := S) (I := I) h
    refine OpOk.same hv (v := v) ?_ h2
    simp [execOp, ho, hx, hy, eqGuard_at_string, h1]

theorem op_un (hv : Inv num S I σ w) {op : UnOp} {T : TypeId} {x : Operand} {dx : D} (ho : o.op = .unOp op T x) (hx : Rep num S I dx (a.eval x)) (h : unD op dx = some r) : OpOk num P o a w S I σ r σ := by
  unfold unD at h
  split at h
  · rename_i k n
    cases h
    simp at hx
    exact OpOk.same hv (v := .int k (k.wrap (0 - n))) (by simp [execOp, ho, hx, Op.unary, Op.intArith]) (by simp)
  · rename_i k n
    cases h
    simp at hx
    exact OpOk.same hv (v := .int k (k.wrap (BitVec.ofInt k.bits (if k.signed then -1 else k.max) ^^^ BitVec.ofInt k.bits n).toNat)) (by simp [execOp, ho, hx, Op.unary, Op.intBits]) (by simp)
  · rename_i b
    cases h
    simp at hx
    exact OpOk.same hv (v := .bool !b) (by simp [execOp, ho, hx, Op.unary]) (by simp)
  · cases h

theorem op_conv (hv : Inv num S I σ w) {src dst : TypeId} {k k' : IntKind} {n : Int} {x : Operand} {ks : IntKind} (ho : o.op = .convert src dst x) (hs : P.underlying src = some (.int ks)) (hd : P.underlying dst = some (.int k))
    (hx : Rep num S I (.int k' n) (a.eval x)) : OpOk num P o a w S I σ (.int k (k.wrap n)) σ := by
  simp at hx
  refine OpOk.same hv (v := .int k (k.wrap n)) ?_ (by simp)
  simp [execOp, ho, hx, convert, run_underlying hs, run_underlying hd, Conv.intToInt]

theorem op_same (hv : Inv num S I σ w) {src dst : TypeId} {s : List UInt8} {x : Operand} (ho : o.op = .convert src dst x) (hs : P.underlying src = some .string) (hd : P.underlying dst = some .string)
    (hx : Rep num S I (.str s) (a.eval x)) : OpOk num P o a w S I σ (.str s) σ := by
  have hx' := hx
  simp at hx
  refine OpOk.same hv (v := a.eval x) ?_ hx'
  simp [execOp, ho, hx, convert, run_underlying hs, run_underlying hd]

theorem op_mkfn (hv : Inv num S I σ w) {f : FuncId} {g : Nat} {cs : Array Operand} {ds : List D} (ho : o.op = .makeFunc (.func f) #[] cs) (hg : num g = f) (hx : RepL num S I ds (cs.toList.map a.eval)) :
    OpOk num P o a w S I σ (.fn g ds) σ := by
  refine OpOk.same hv (v := .func (.func f) #[] (cs.map a.eval)) ?_ (rep_fn.2 ⟨_, ?_, hx⟩)
  · simp [execOp, ho, Instr.makeFunc]
  · rw [hg]; congr 1; apply Array.ext'; simp

theorem op_ext (hv : Inv num S I σ w) {x : Operand} {i : Nat} {ds : List D} (ho : o.op = .extract x i) (hx : Rep num S I (.tup ds) (a.eval x)) (h : ds[i]? = some r) : OpOk num P o a w S I σ r σ := by
  rw [rep_tup] at hx
  obtain ⟨vs, e, h1⟩ := hx
  obtain ⟨v, h2, h3⟩ := repL_get h1 h
  refine OpOk.same hv (v := v) ?_ h3
  simp [execOp, ho, e, Instr.extract, h2]

theorem fieldPlace_run {b o : Nat} {f : Field} {i : TypeInfo} (hi : P.info? f.type = some i) (h0 : i.size ≠ 0) : (fieldPlace ⟨b, o, none⟩ f).run P w = .ok ⟨b, o + f.offset, none⟩ w := by
  simp [fieldPlace, Go.sizeOf, typeInfo, hi, h0, addr_add]

theorem op_faddr (hv : Inv num S I σ w) {T : TypeId} {x : Operand} {k : Nat} {fs : Array Field} {f : Field} {i : TypeInfo} {dx : D} (ho : o.op = .fieldAddr T x k) (hT : P.underlying T = some (.struct fs)) (hf : fs[k]? = some f)
    (hi : P.info? f.type = some i) (h0 : i.size ≠ 0) (hx : Rep num S I dx (a.eval x))
    (h : (match dx with | .ptr l o => some (D.ptr l (o + f.offset)) | .eptr l n i o => some (.eptr l n i (o + f.offset)) | .fptr d o => some (.fptr d (o + f.offset)) | _ => none) = some r) : OpOk num P o a w S I σ r σ := by
  have run : ∀ b o', a.eval x = .pointer (some ⟨b, o', none⟩) → (execOp a.eval o).run P w = .ok (.value (.pointer (some ⟨b, o' + f.offset, none⟩))) w := by
    intro b o' e
    simp [execOp, ho, e, Instr.fieldAt, run_underlying hT, hf, Instr.sureAddr, fieldPlace_run hi h0]
  cases dx <;> simp at h <;> subst h
  · rw [rep_ptr] at hx; obtain ⟨li, h1, h2, e⟩ := hx
    exact OpOk.same hv (run _ _ e) (rep_ptr.2 ⟨li, h1, h2, rfl⟩)
  · rw [rep_eptr] at hx; obtain ⟨li, ad, h1, h2, h3, e, h4⟩ := hx
    refine ⟨_, w, S, I, .inl ?_, rep_eptr.2 ⟨li, ad.add f.offset, h1, h2, h3, rfl, fun q => ?_⟩, Post.refl hv⟩
    · simp [execOp, ho, e, Instr.fieldAt, run_underlying hT, hf, Instr.sureAddr, fieldPlace, Go.sizeOf, typeInfo, hi, h0]
    · rw [h4 q, addr_add, Nat.add_assoc]
  · rw [rep_fptr] at hx; obtain ⟨b, o', e, h1⟩ := hx
    exact OpOk.same hv (run _ _ e) (rep_fptr.2 ⟨b, o', by rw [Nat.add_assoc], h1⟩)

theorem part_sound {T : TypeId} {g : Option Nat} (hT : aggOf P T = some g) {cs : List D} {vs : List Value} (hr : RepL num S I cs vs) {off : Nat} (h : readCells g cs off = some r) :
    ∃ v, (part T vs.toArray off).run P w = .ok v w ∧ Rep num S I r v := by
  unfold readCells at h
  cases g with
  | none =>
    simp only at h
    cases hd : cs[off]? with
    | none => simp [hd] at h
    | some d =>
      simp only [hd] at h
      split at h
      · cases h
        obtain ⟨v, h1, h2⟩ := repL_get hr hd
        exact ⟨v, by simp [part, run_isAgg_none hT, h1], h2⟩
      · cases h
  | some n =>
    simp only at h
    split at h
    · cases h
      refine ⟨.agg ((vs.drop off).take n).toArray, ?_, rep_agg.2 ⟨_, rfl, repL_take (repL_drop hr off) n⟩⟩
      simp [part, run_isAgg_some hT]
    · cases h

theorem op_field (hv : Inv num S I σ w) {T : TypeId} {x : Operand} {k : Nat} {fs : Array Field} {f : Field} {g : Option Nat} {cs : List D} (ho : o.op = .field T x k) (hT : P.underlying T = some (.struct fs)) (hf : fs[k]? = some f)
    (hg : aggOf P f.type = some g) (hx : Rep num S I (.agg cs) (a.eval x)) (h : readCells g cs f.offset = some r) : OpOk num P o a w S I σ r σ := by
  rw [rep_agg] at hx
  obtain ⟨vs, e, h1⟩ := hx
  obtain ⟨v, h2, h3⟩ := part_sound (w := w) hg h1 h
  refine OpOk.same hv (v := v) ?_ h3
  simp [execOp, ho, e, Instr.field, run_underlying hT, hf, asAgg, h2]

theorem op_sidx (hv : Inv num S I σ w) {T : TypeId} {x i : Operand} {s : List UInt8} {k : IntKind} {j : Int} {b : UInt8} (ho : o.op = .index T x i) (hT : P.underlying T = some .string)
    (hx : Rep num S I (.str s) (a.eval x)) (hi : Rep num S I (.int k j) (a.eval i)) (h0 : 0 ≤ j) (h : s[j.toNat]? = some b) : OpOk num P o a w S I σ (.int .u8 b.toNat) σ := by
  simp at hx hi
  refine OpOk.same hv (v := .int .u8 b.toNat) ?_ (by simp)
  have e : (⟨s.toArray⟩ : ByteArray)[j.toNat]? = some b := by
    have hlt : j.toNat < s.length := by
      rcases Nat.lt_or_ge j.toNat s.length with q | q
      · exact q
      · rw [List.getElem?_eq_none q] at h; cases h
    rw [List.getElem?_eq_getElem hlt] at h
    cases h
    rw [getElem?_pos _ _ (by simpa [ByteArray.size] using hlt)]
    rfl
  simp [execOp, ho, hx, hi, Instr.index, asIntOf, run_underlying hT, h0, e]
end
end
end Go.DM
