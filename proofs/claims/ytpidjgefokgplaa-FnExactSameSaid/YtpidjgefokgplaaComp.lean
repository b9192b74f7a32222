/- From the model's own code of a function to the abstract machine's. -/
import Derived.Test.YtpidjgefokgplaaMach
set_option linter.unnecessarySimpa false
set_option linter.unusedVariables false
set_option linter.unusedSimpArgs false
set_option linter.unusedSectionVars false
namespace Go.DM
open Go

def dOfV : Value → Option D
  | .bool b => some (.bool b)
  | .int k n => some (.int k n)
  | .string s => some (.str s.data.toList)
  | .pointer none => some .nilp
  | .slice none 0 0 => some .nils
  | .nilFunc => some .nilf
  | _ => none

def notInt : TypeDesc → Bool
  | .int _ => false
  | _ => true

def mapO {α β : Type} (f : α → Option β) : List α → Option (List β)
  | [] => some []
  | a :: as => match f a with
    | some b => match mapO f as with
      | some bs => some (b :: bs)
      | none => none
    | none => none

/-- which functions, and by which numbers -/
structure Names where
  gid : FuncId → Option Nat

section
variable (P : Program) (N : Names)

def isAggD : TypeDesc → Bool
  | .struct _ | .array _ _ => true
  | _ => false

def aggOf (T : TypeId) : Option (Option Nat) :=
  match P.underlying T, P.info? T with
  | some d, some i => some (if isAggD d then some i.size else none)
  | _, _ => none

def zeroCs (T : TypeId) : Option (List D) :=
  match P.info? T with
  | some i => match i.zero with
    | some v => mapO dOfV v.cells.toList
    | none => none
  | none => none

def zeroEl (T : TypeId) : Option D :=
  match zeroCs P T, aggOf P T, P.info? T with
  | some cs, some g, some i =>
    if cs.length = i.size then
      match g with
      | some n => if n = i.size then some (.agg cs) else none
      | none => match cs with
        | [c] => some c
        | _ => none
    else none
  | _, _, _ => none

def opd : Operand → Option Opd
  | .tmp t => some (.t t)
  | .const v => (dOfV v).map .c
  | .func f => (N.gid f).map fun g => .c (.fn g [])
  | .global _ => none

def plainK : Option TypeDesc → Option FK
  | some .bool => some .b
  | some (.int _) => some .i
  | some .string => some .s
  | _ => none

/-- a struct all of whose fields are plain: their kinds -/
def flatEq : Nat → List Field → Option (List FK)
  | _, [] => some []
  | k, f :: fs => if f.name ≠ "_" ∧ f.offset = k then
      match plainK (P.underlying f.type), flatEq (k + 1) fs with
      | some t, some ts => some (t :: ts)
      | _, _ => none
    else none

def opdO : Option Operand → Option (Option Opd)
  | none => some none
  | some x => (opd N x).map some

def isConst0 : Option Operand → Bool
  | some (.const (.int _ n)) => n == 0
  | _ => false

def compileOp (o : Oper) : Option DOp :=
  match o.op with
  | .move x | .assign x => (opd N x).map .mv
  | .pick c a b => match opd N c, opd N a, opd N b with
    | some c, some a, some b => some (.pick c a b)
    | _, _, _ => none
  | .alloc T => (zeroCs P T).map .alloc
  | .box _ x => (opd N x).map .box
  | .load T a => match aggOf P T, opd N a with
    | some g, some a => some (.load g a)
    | _, _ => none
  | .store T a v => match P.info? T, opd N a, opd N v with
    | some i, some a, some v => some (.store i.size a v)
    | _, _, _ => none
  | .nilCheck x => (opd N x).map .nilck
  | .binOp op T x y _ => match opd N x, opd N y, P.underlying T with
    | some x, some y, some (.int _) => some (.bin op x y)
    | some x, some y, some .string => some (.bin op x y)
    | some x, some y, some .bool => some (.binb op x y)
    | some x, some y, some (.struct fs) => match flatEq P 0 fs.toList with
      | some ks => if !P.stoodInHeld T && !P.eqGuardType P.depth T then (match op with | .eql => some (.eqs false ks x y) | .neq => some (.eqs true ks x y) | _ => none) else none
      | none => none
    | _, _, _ => none
  | .unOp op _ x => (opd N x).map (.un op)
  | .convert src dst x => match opd N x, P.underlying src, P.underlying dst with
    | some x, some (.int _), some (.int k) => some (.conv k x)
    | some x, some .string, some .string => some (.same x)
    | some x, some .string, some (.slice e) => match P.underlying e with
      | some (.int .u8) => some (.s2b x)
      | _ => none
    | some x, some (.slice e), some .string => match P.underlying e with
      | some (.int .u8) => some (.b2s x)
      | _ => none
    | _, _, _ => none
  | .makeFunc (.func f) first caps => if first.size = 0 then match N.gid f, mapO (opd N) caps.toList with
      | some g, some cs => some (.mkfn g cs)
      | _, _ => none
    else none
  | .build T parts => match P.underlying T, zeroCs P T with
    | some (.struct fs), some z => match mapO (fun (p : Nat × Operand) => match fs[p.1]? with
        | some f => match P.info? f.type, opd N p.2 with
          | some i, some x => some (f.offset, i.size, x)
          | _, _ => none
        | none => none) parts.toList, mapO (fun (f : Field) => P.info? f.type) fs.toList with
      | some ps, some _ => some (.build z ps)
      | _, _ => none
    | _, _ => none
  | .buildSlice T n parts => match P.underlying T with
    | some (.slice e) => match P.info? e, zeroEl P e, mapO (fun (p : Nat × Operand) => (opd N p.2).map fun x => (p.1, x)) parts.toList with
      | some i, some z, some ps => if 0 < i.size ∧ n * i.size ≤ 16777216 then some (.buildSl i.size (List.replicate n z) ps) else none
      | _, _, _ => none
    | _ => none
  | .makeSlice T l c => match P.underlying T with
    | some (.slice e) => match P.info? e, zeroEl P e, opd N l, opd N c with
      | some i, some z, some l, some c => if 0 < i.size ∧ i.bytes ≤ 65536 then some (.mkSl i.size i.bytes z l c) else none
      | _, _, _, _ => none
    | _ => none
  | .slice T x lo hi mx => match opd N x, P.underlying T, opdO N lo, opdO N hi with
    | some x, some .string, some lo, some hi => if mx.isNone then some (.subs x lo hi) else none
    | some x, some (.slice e), some lo', some hi' =>
      match P.info? e with
      | some i => if mx.isNone then some (.sub i.size x lo' hi') else if lo.isNone && isConst0 hi && isConst0 mx then some (.sub0 x) else none
      | none => none
    | _, _, _, _ => none
  | .fieldAddr T x f => match P.underlying T, opd N x with
    | some (.struct fs), some x => match fs[f]? with
      | some fd => match P.info? fd.type with
        | some i => if i.size = 0 then none else some (.faddr fd.offset x)
        | none => none
      | none => none
    | _, _ => none
  | .field T x f => match P.underlying T, opd N x with
    | some (.struct fs), some x => match fs[f]? with
      | some fd => (aggOf P fd.type).map fun g => .field fd.offset g x
      | none => none
    | _, _ => none
  | .indexAddr T x i => match P.underlying T, opd N x, opd N i with
    | some (.slice e), some x, some i => match P.info? e with
      | some inf => if 0 < inf.size then some (.iaddr inf.size x i) else none
      | none => none
    | _, _, _ => none
  | .index T x i => match P.underlying T, opd N x, opd N i with
    | some .string, some x, some i => some (.sidx x i)
    | _, _, _ => none
  | .extract x i => (opd N x).map fun x => .ext x i
  | .call c => match c.callee with
    | .builtin .len => match c.args.toList, c.argTypes.toList with
      | [x], [T] => match opd N x, P.underlying T with
        | some x, some .string => some (.lens x)
        | some x, some (.slice _) => some (.len x)
        | _, _ => none
      | _, _ => none
    | .builtin .append => match c.args.toList, c.argTypes.toList with
      | [s, x], [T, U] => match opd N s, opd N x, P.underlying T, P.underlying U with
        | some s, some x, some (.slice e), some u =>
          match P.info? e with
          | some i => if decide (0 < i.size) && decide (0 < i.bytes) && decide (i.bytes ≤ 65536) && notInt u && (zeroEl P e).isSome then some (.app i.size i.bytes s x) else none
          | none => none
        | _, _, _, _ => none
      | _, _ => none
    | .value (.func f) => match N.gid f, mapO (opd N) c.args.toList, P.funcs[f]? with
      | some g, some as, some fn => if fn.body.isSome && fn.name != "runtime.NumGoroutine" then some (.call g .frz as) else none
      | _, _, _ => none
    | .value x => match opd N x, mapO (opd N) c.args.toList with
      | some x, some as => some (.callv x .frz as)
      | _, _ => none
    | _ => none
  | _ => none

def dstOk (nt : Nat) : Option Tmp → Bool
  | none => true
  | some t => t < nt

def compileI (nt : Nat) (ops : Array Oper) (o : Oper) : Option DI :=
  if dstOk nt o.dst then
    match o.guard with
    | none => some ⟨o.dst, (compileOp P N o).getD .bad, none⟩
    | some (j, b) => match (ops[j]?).bind (·.dst) with
      | some t => if t < nt then some ⟨o.dst, (compileOp P N o).getD .bad, some (t, b)⟩ else none
      | none => none
  else none

/-- temporaries that are read before they are written (to say which ones a loop keeps) -/
def Opd.ts : Opd → List Nat
  | .t i => [i]
  | .c _ => []
def optT : Option Opd → List Nat
  | some x => x.ts
  | none => []

def DOp.ts : DOp → List Nat
  | .mv x | .box x | .boxf x | .fz x | .load _ x | .nilck x | .un _ x | .conv _ x | .same x | .s2b x | .b2s x | .sub0 x | .faddr _ x | .field _ _ x | .ext x _ | .len x | .lens x => x.ts
  | .pick a b c => a.ts ++ b.ts ++ c.ts
  | .alloc _ | .pend _ | .bad => []
  | .init _ t x => t :: x.ts
  | .store _ a x | .bin _ a x | .binb _ a x | .eqs _ _ a x | .iaddr _ a x | .sidx a x | .app _ _ a x | .mkSl _ _ _ a x => a.ts ++ x.ts
  | .mkfn _ cs => cs.flatMap Opd.ts
  | .build _ ps => ps.flatMap fun p => p.2.2.ts
  | .buildSl _ _ ps => ps.flatMap fun p => p.2.ts
  | .sub _ x a b | .subs x a b => x.ts ++ optT a ++ optT b
  | .call _ _ as => as.flatMap Opd.ts
  | .callv f _ as => f.ts ++ as.flatMap Opd.ts

/-- what an instruction reads -/
def DI.reads (i : DI) : List Nat := i.op.ts ++ (match i.g with | some (t, _) => [t] | none => [])

/-- neither reads or writes what the other writes -/
def apartD (x y : DI) : Bool :=
  (match x.to with | some d => !(y.reads.contains d) && y.to != some d | none => true) &&
  (match y.to with | some d => !(x.reads.contains d) | none => true)

def freeD (ops : Array Oper) (is : List (Nat × DI)) (listed : Array Bool) (k : Nat) (x : DI) : Bool :=
  (List.range is.length).all fun j => j == k || listed.getD j true || (match ops[j]?, is[j]? with
    | some oj, some y => oj.after.any (fun e => Region.binds .any e && e.on == k) || apartD x y.2
    | _, _ => true)

/-- all that can be listed while i is not (in the order of the text) -/
def stuck (ops : Array Oper) (i : Nat) : Array Bool :=
  (List.range ops.size).foldl (fun M j => M.push (j != i && (match ops[j]? with
    | some o => o.after.all fun e => !Region.binds .any e || M.getD e.on false
    | none => false))) #[]

/-- those that turn nothing, and the others, in the order of the text -/
def weave : List Bool → List (Nat × DI) → List DI → List (Nat × DI)
  | [], _, _ => []
  | false :: ms, h :: hs, ts => h :: weave ms hs ts
  | true :: ms, hs, t :: ts => (2, t) :: weave ms hs ts
  | _ :: _, _, _ => []

/-- none that turns something comes before i -/
def sinkD (ops : Array Oper) (is : List (Nat × DI)) (i : Nat) : Bool :=
  let M := stuck ops i
  decide (M.size = ops.size) && !M.getD i true && (Region.ready .any ops M).all (fun j => j == i) && (List.range ops.size).all fun j => (match is[j]? with | some (2, _) => !M.getD j true | _ => true)

/-- each that turns nothing, in its turn, may be the first of those that are left -/
def lexD (ops : Array Oper) (is : List (Nat × DI)) : List Bool → List (Nat × DI) → Nat → Array Bool → Option (Array Bool)
  | [], _, _, listed => some listed
  | false :: ms, (n, x) :: hs, k, listed =>
    if (Region.ready .any ops listed).contains k && freeD ops is listed k x && n != 2 && (n == 0 || sinkD ops is k) then lexD ops is ms hs (k + 1) (listed.setIfInBounds k true) else none
  | false :: _, [], _, _ => none
  | true :: ms, hs, k, listed => lexD ops is ms hs (k + 1) listed

/-- of the others there is but one order -/
def tailD (ops : Array Oper) : List Bool → Nat → Array Bool → Bool
  | [], _, listed => (Region.ready .any ops listed).isEmpty
  | false :: ms, k, listed => tailD ops ms (k + 1) listed
  | true :: ms, k, listed => Region.ready .any ops listed == [k] && tailD ops ms (k + 1) (listed.setIfInBounds k true)

/-- a variable's making ahead of its first store, each once -/
def pendD (ops : Array Oper) (is : List (Nat × DI)) : Bool :=
  (List.range is.length).all fun j => match is[j]? with
    | some (_, ⟨dst, .pend zs, g⟩) => g.isNone && dst.isSome && (List.range is.length).all fun i => i == j || (match is[i]? with
      | some (_, y) => y.dst != dst
      | none => true)
    | some (_, ⟨dst, .init n t _, g⟩) => g.isNone && dst.isNone && (List.range is.length).any (fun i => match is[i]?, ops[j]? with
        | some (_, ⟨some u, .pend zs, _⟩), some oj => u == t && zs.length == n && oj.after.any (fun e => Region.binds .any e && e.on == i)
        | _, _ => false) && (List.range is.length).all fun i => i == j || (match is[i]? with
      | some (_, y) => y.op.tgt != some t
      | none => true)
    | _ => true

/-- may the region's operations come in any order that its edges allow? -/
def anyOk (ops : Array Oper) (ms : List Bool) (hs : List (Nat × DI)) (ts : List DI) : Bool :=
  let is := weave ms hs ts
  decide (is.length = ops.size) && decide (ms.length = ops.size) && decide (hs.length + ts.length = ops.size) && pendD ops is && (match lexD ops is ms hs 0 (Array.replicate ops.size false) with
    | some listed => tailD ops ms 0 listed
    | none => false)

/-- without what is only told to the machine -/
def DOp.bare : DOp → DOp
  | .boxf x => .box x
  | .pend zs => .alloc zs
  | .init n t x => .store n (.t t) x
  | .call g _ as => .call g .frz as
  | .callv f _ as => .callv f .frz as
  | o => o
def DI.bare (i : DI) : DI := ⟨i.dst, i.op.bare, i.g⟩
/-- a freezing that is only told -/
def DI.ghost : DI → Bool
  | ⟨some t, .fz (.t u), none⟩ => t == u
  | _ => false
/-- in a region of one order: a variable's making ahead of its first store -/
def pendN (pd : List (Nat × List D)) : Option Nat → Option (List (Nat × List D))
  | some t => if (pd.map Prod.fst).contains t then none else some pd
  | none => some pd
def pendS : List (Nat × List D) → DI → Option (List (Nat × List D))
  | pd, ⟨dst, .pend zs, g⟩ => match dst, g with
    | some t, none => if (pd.map Prod.fst).contains t then none else some ((t, zs) :: pd)
    | _, _ => none
  | pd, ⟨dst, .init n t _, g⟩ => match dst, g with
    | none, none => if pd.any (fun p => p.1 == t && p.2.length == n) then some (pd.filter fun p => p.1 != t) else none
    | _, _ => none
  | pd, i => pendN pd i.dst
def pendL : List (Nat × List D) → List DI → Bool
  | _, [] => true
  | pd, i :: is => if i.ghost then pendL pd is else match pendS pd i with
    | some pd' => pendL pd' is
    | none => false
def unghost : List DI → List DI
  | [] => []
  | i :: is => if i.ghost then unghost is else i.bare :: unghost is
def DCode.bare : DCode → DCode
  | .reg is => .reg (unghost is)
  | .any ms hs ts => .any [] ((weave ms hs ts).map fun p => (0, p.2.bare)) []
  | .seq a b => .seq a.bare b.bare
  | .cond c a b => .cond c a.bare b.bare
  | .block id _ b => .block id [] b.bare
  | .loop _ _ b => .loop [] none b.bare
  | .ret _ => .ret []
  | .badr is => .any [] (is.map fun i => (0, i.bare)) []
  | c => c
def DFn.bare (df : DFn) : DFn := { np := df.np, keep := false, res := df.res, body := df.body.bare }

def compileC (nt : Nat) : Code → Option DCode
  | .skip => some .skip
  | .region _ ops draw =>
    match mapO (compileI P N nt ops) ops.toList with
    | some is => if draw then some (.any [] (is.map fun i => (0, i)) []) else some (.reg is)
    | none => none
  | .seq a b => match compileC nt a, compileC nt b with
    | some a, some b => some (.seq a b)
    | _, _ => none
  | .cond c a b => match opd N c, compileC nt a, compileC nt b with
    | some c, some a, some b => some (.cond c a b)
    | _, _, _ => none
  | .block id b => (compileC nt b).map (.block id [])
  | .loop b => (compileC nt b).map (.loop [] none)
  | .exit id => some (.exit id)
  | .ret => some (.ret [])
  | _ => some .bad

def compileR (nt : Nat) : ResultVar → Option DRes
  | .tmp t => if t < nt then some (.t t) else none
  | .cell t T => if t < nt then (aggOf P T).map (.cell t) else none

/-- are the machine's regions such as the model's may come? -/
def okC : Code → DCode → Bool
  | .region _ ops true, .any ms hs ts => anyOk ops ms hs ts
  | .region _ _ false, .reg is => pendL [] is
  | .seq a b, .seq c d => okC a c && okC b d
  | .cond _ a b, .cond _ c d => okC a c && okC b d
  | .block _ b, .block _ _ d => okC b d
  | .loop b, .loop _ _ d => okC b d
  | _, _ => true
def okF (fn : Func) (df : DFn) : Bool :=
  match fn.body with
  | some c => okC c df.body
  | none => false

/-- the function, by what the model holds of it -/
def compileF (fn : Func) : Option DFn :=
  match fn.body, mapO (compileR P fn.ntmps) fn.results.toList with
  | some c, some rs => match compileC P N fn.ntmps c with
    | some dc =>
      let np := fn.params.size + fn.nfree
      if np ≤ fn.ntmps then some { np := np, keep := false, res := rs, body := dc } else none
    | none => none
  | _, _ => none
end
end Go.DM
