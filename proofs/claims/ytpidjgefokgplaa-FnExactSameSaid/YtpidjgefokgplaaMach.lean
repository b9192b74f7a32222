/- An abstract machine over data: values without addresses, a store of the call's own blocks, an evaluator. Nothing is proved here of Go. -/
import Derived.Calls
import Derived.LoopN
import Derived.Orders
set_option linter.unnecessarySimpa false
set_option linter.unusedVariables false
set_option linter.unusedSimpArgs false
set_option linter.unusedSectionVars false
namespace Go.DM
open Go

/-- A datum: a frozen slice is the list of its elements; what the call itself made and may write is a place in the store. -/
inductive D where
  | int (k : IntKind) (n : Int)
  | bool (b : Bool)
  | str (s : List UInt8)
  | nilp
  | nils
  | nilf
  | ptr (l off : Nat)
  | eptr (l n i off : Nat)
  | fptr (d : D) (off : Nat)
  | list (xs : List D)
  | sl (l n : Nat)
  | fn (g : Nat) (caps : List D)
  | agg (cs : List D)
  | tup (vs : List D)
  | bot
  deriving Inhabited

def D.cells : D → List D
  | .agg cs => cs
  | d => [d]

/-- One cell's datum. -/
def D.atom : D → Bool
  | .agg _ | .tup _ | .bot => false
  | _ => true

mutual
/-- No place in the store at or behind n. -/
def D.lt (n : Nat) : D → Bool
  | .ptr l _ => l < n
  | .eptr l _ _ _ => l < n
  | .sl l _ => l < n
  | .fn _ cs => D.ltL n cs
  | .agg cs => D.ltL n cs
  | .tup cs => D.ltL n cs
  | .bot => false
  | _ => true
def D.ltL (n : Nat) : List D → Bool
  | [] => true
  | d :: ds => D.lt n d && D.ltL n ds
end

inductive Blk where
  | box (cs : List D)
  | arr (esz : Nat) (xs : List D)
  | frz (esz : Nat) (xs : List D)
  | dead
  deriving Inhabited

def Blk.lt (n : Nat) : Blk → Bool
  | .box cs => D.ltL n cs
  | .arr _ xs => D.ltL n xs
  | .frz _ _ => true
  | .dead => true

abbrev Store := List Blk
abbrev Env := List (Nat × D)

def get : Env → Nat → D
  | [], _ => .bot
  | (u, d) :: r, t => if u = t then d else get r t

def put (ρ : Env) (dst : Option Nat) (d : D) : Env :=
  match dst with
  | some t => (t, d) :: ρ
  | none => ρ

def keepOnly (ks : List Nat) (ρ : Env) : Env := ks.map fun t => (t, get ρ t)

inductive Opd where
  | t (i : Nat)
  | c (d : D)
  deriving Inhabited

def Opd.ev (ρ : Env) : Opd → D
  | .t i => get ρ i
  | .c d => d

/-- a plain field's kind -/
inductive FK where
  | b
  | i
  | s
  deriving Inhabited, DecidableEq

/-- how a call is given its arguments: frozen for good; by their places, in a store of their own; seen as they are now, for that call alone; by their places in the whole store -/
inductive CM where
  | frz
  | raw
  | bor
  | all
  deriving Inhabited, DecidableEq

inductive DOp where
  | bad
  | mv (x : Opd)
  | pick (c a b : Opd)
  | alloc (zero : List D)
  | box (x : Opd)
  | boxf (x : Opd)
  | fz (x : Opd)
  | pend (zero : List D)
  | init (n t : Nat) (x : Opd)
  | load (agg : Option Nat) (a : Opd)
  | store (n : Nat) (a x : Opd)
  | nilck (x : Opd)
  | bin (op : BinOp) (x y : Opd)
  | binb (op : BinOp) (x y : Opd)
  | eqs (neg : Bool) (ks : List FK) (x y : Opd)
  | un (op : UnOp) (x : Opd)
  | conv (k : IntKind) (x : Opd)
  | same (x : Opd)
  | s2b (x : Opd)
  | b2s (x : Opd)
  | mkfn (g : Nat) (caps : List Opd)
  | build (zero : List D) (parts : List (Nat × Nat × Opd))
  | buildSl (esz : Nat) (zero : List D) (parts : List (Nat × Opd))
  | mkSl (esz bytes : Nat) (zero : D) (l c : Opd)
  | sub (esz : Nat) (x : Opd) (lo hi : Option Opd)
  | subs (x : Opd) (lo hi : Option Opd)
  | sub0 (x : Opd)
  | faddr (off : Nat) (x : Opd)
  | field (off : Nat) (agg : Option Nat) (x : Opd)
  | iaddr (esz : Nat) (x i : Opd)
  | sidx (x i : Opd)
  | ext (x : Opd) (i : Nat)
  | len (x : Opd)
  | lens (x : Opd)
  | app (esz bytes : Nat) (s x : Opd)
  | call (g : Nat) (m : CM) (args : List Opd)
  | callv (f : Opd) (m : CM) (args : List Opd)
  deriving Inhabited

/-- An instruction: where its value goes, what it is, and its guard. -/
structure DI where
  dst : Option Nat
  op : DOp
  g : Option (Nat × Bool)
  deriving Inhabited

inductive DCode where
  | skip
  | reg (is : List DI)
  | any (ms : List Bool) (hs : List (Nat × DI)) (ts : List DI)
  | seq (a b : DCode)
  | cond (c : Opd) (a b : DCode)
  | block (id : Nat) (keep : List Nat) (b : DCode)
  | loop (keep : List Nat) (sc : Option (List Nat)) (b : DCode)
  | exit (id : Nat)
  | ret (keep : List Nat)
  | bad
  | badr (is : List DI)
  deriving Inhabited

inductive DRes where
  | t (i : Nat)
  | cell (i : Nat) (agg : Option Nat)
  deriving Inhabited

structure DFn where
  np : Nat
  keep : Bool
  res : List DRes
  body : DCode
  deriving Inhabited

inductive Ex where
  | norm
  | exit (id : Nat)
  | ret
  deriving Inhabited, DecidableEq

/-! ### reading and writing -/

def readCells (agg : Option Nat) (cs : List D) (off : Nat) : Option D :=
  match agg with
  | none => match cs[off]? with
    | some d => if d.atom then some d else none
    | none => none
  | some n => if off + n ≤ cs.length then some (.agg ((cs.drop off).take n)) else none

def loadAt (agg : Option Nat) (σ : Store) : D → Option D
  | .ptr l off => match σ[l]? with
    | some (.box cs) => readCells agg cs off
    | _ => none
  | .eptr l n i off => match σ[l]? with
    | some (.arr _ xs) | some (.frz _ xs) => if xs.length = n then (xs[i]?).bind fun x => readCells agg x.cells off else none
    | _ => none
  | .fptr d off => readCells agg d.cells off
  | _ => none

/-- cells with some others laid over them from a place on -/
def splice (cs : List D) (off : Nat) (ns : List D) : List D := cs.take off ++ ns ++ cs.drop (off + ns.length)

/-- an element whose cells have turned -/
def reElem (x : D) (cs : List D) : D :=
  match x with
  | .agg _ => .agg cs
  | _ => cs.headD .bot

def storeAt (n : Nat) (σ : Store) (a x : D) : Option Store :=
  if x.cells.length = n ∧ x.cells.all D.atom = true then
    match a with
    | .ptr l off => match σ[l]? with
      | some (.box cs) => if off + n ≤ cs.length then some (σ.set l (.box (splice cs off x.cells))) else none
      | _ => none
    | .eptr l m i off => match σ[l]? with
      | some (.arr e xs) =>
        if xs.length = m then
          match xs[i]? with
          | some y => if off + n ≤ y.cells.length then some (σ.set l (.arr e (xs.set i (reElem y (splice y.cells off x.cells))))) else none
          | none => none
        else none
      | _ => none
    | _ => none
  else none

/-- the elements of a slice, and how many; none where it is stale -/
def elems (σ : Store) : D → Option (List D)
  | .nils => some []
  | .list xs => some xs
  | .sl l n => match σ[l]? with
    | some (.arr _ xs) | some (.frz _ xs) => if xs.length = n then some xs else none
    | _ => none
  | _ => none

def bytesD (s : List UInt8) : List D := s.map fun b => .int .u8 b.toNat

def byteD : D → Option UInt8
  | .int .u8 n => if 0 ≤ n ∧ n < 256 then some (UInt8.ofNat n.toNat) else none
  | _ => none

def bytesOf? : List D → Option (List UInt8)
  | [] => some []
  | d :: r => match byteD d, bytesOf? r with
    | some b, some bs => some (b :: bs)
    | _, _ => none

/-! ### arithmetic -/

def lessB : List UInt8 → List UInt8 → Bool
  | _, [] => false
  | [], _ :: _ => true
  | a :: x, b :: y => a < b || (a == b && lessB x y)

def intBin (op : BinOp) (k : IntKind) (a b : Int) : Option D :=
  match op with
  | .add => some (.int k (k.wrap (a + b)))
  | .sub => some (.int k (k.wrap (a - b)))
  | .mul => some (.int k (k.wrap (a * b)))
  | .quo => if b = 0 then none else some (.int k (k.wrap (a.tdiv b)))
  | .rem => if b = 0 then none else some (.int k (a.tmod b))
  | .and => some (.int k (k.wrap (BitVec.ofInt k.bits a &&& BitVec.ofInt k.bits b).toNat))
  | .or => some (.int k (k.wrap (BitVec.ofInt k.bits a ||| BitVec.ofInt k.bits b).toNat))
  | .xor => some (.int k (k.wrap (BitVec.ofInt k.bits a ^^^ BitVec.ofInt k.bits b).toNat))
  | .eql => some (.bool (a == b))
  | .neq => some (.bool (a != b))
  | .lss => some (.bool (a < b))
  | .leq => some (.bool (a ≤ b))
  | .gtr => some (.bool (a > b))
  | .geq => some (.bool (a ≥ b))
  | _ => none

def strBin (op : BinOp) (a b : List UInt8) : Option D :=
  match op with
  | .add => if a.length + b.length ≤ 9223372036854775807 then some (.str (a ++ b)) else none
  | .eql => some (.bool (decide (a = b)))
  | .neq => some (.bool (!decide (a = b)))
  | .lss => some (.bool (lessB a b))
  | .leq => some (.bool (lessB a b || decide (a = b)))
  | .gtr => some (.bool !(lessB a b || decide (a = b)))
  | .geq => some (.bool !(lessB a b))
  | _ => none

def binD (op : BinOp) (x y : D) : Option D :=
  match x, y with
  | .int k a, .int k' b =>
    match op with
    | .shl => if b < 0 then none else some (.int k (k.wrap (a * 2 ^ (min b.toNat k.bits))))
    | .shr => if b < 0 then none else some (.int k (a.fdiv (2 ^ (min b.toNat k.bits))))
    | _ => if k = k' then intBin op k a b else none
  | .str a, .str b => strBin op a b
  | .bool a, .bool b => match op with
    | .eql => some (.bool (a == b))
    | .neq => some (.bool !(a == b))
    | _ => none
  | _, _ => none

/-- equality of two rows of plain cells -/
def eqCells : List FK → List D → List D → Option Bool
  | [], [], [] => some true
  | .i :: ks, .int k a :: x, .int k' b :: y => if k = k' then (eqCells ks x y).map (decide (a = b) && ·) else none
  | .s :: ks, .str a :: x, .str b :: y => (eqCells ks x y).map (decide (a = b) && ·)
  | .b :: ks, .bool a :: x, .bool b :: y => (eqCells ks x y).map (decide (a = b) && ·)
  | _, _, _ => none

def unD (op : UnOp) (x : D) : Option D :=
  match op, x with
  | .neg, .int k n => some (.int k (k.wrap (0 - n)))
  | .xor, .int k n => some (.int k (k.wrap (BitVec.ofInt k.bits (if k.signed then -1 else k.max) ^^^ BitVec.ofInt k.bits n).toNat))
  | .not, .bool b => some (.bool !b)
  | _, _ => none

/-! ### freezing what the call has made -/

def mapS (f : Store → D → Option (D × Store)) : Store → List D → Option (List D × Store)
  | σ, [] => some ([], σ)
  | σ, d :: ds => match f σ d with
    | some (e, σ1) => match mapS f σ1 ds with
      | some (es, σ2) => some (e :: es, σ2)
      | none => none
    | none => none

def frz : Nat → Store → D → Option (D × Store)
  | 0, _, _ => none
  | f + 1, σ, d => match d with
    | .nils => some (.list [], σ)
    | .agg cs => match mapS (frz f) σ cs with
      | some (es, σ1) => some (.agg es, σ1)
      | none => none
    | .tup cs => match mapS (frz f) σ cs with
      | some (es, σ1) => some (.tup es, σ1)
      | none => none
    | .sl l n => match σ[l]? with
      | some (.frz _ xs) => if xs.length = n then some (.list xs, σ) else none
      | some (.arr e xs) =>
        if xs.length = n then
          match mapS (frz f) (σ.set l .dead) xs with
          | some (ys, σ1) => if D.ltL 0 ys then some (.list ys, σ1.set l (.frz e ys)) else none
          | none => none
        else none
      | _ => none
    | d => some (d, σ)

/-! ### what a datum is now, seen without its places -/

def mapV (f : D → Option D) : List D → Option (List D)
  | [] => some []
  | d :: ds => match f d with
    | some e => match mapV f ds with
      | some es => some (e :: es)
      | none => none
    | none => none

def vw : Nat → Store → D → Option D
  | 0, _, _ => none
  | f + 1, σ, d => match d with
    | .nils => some (.list [])
    | .agg cs => match mapV (vw f σ) cs with
      | some es => some (.agg es)
      | none => none
    | .tup cs => match mapV (vw f σ) cs with
      | some es => some (.tup es)
      | none => none
    | .fn g cs => match mapV (vw f σ) cs with
      | some es => some (.fn g es)
      | none => none
    | .sl l n => match σ[l]? with
      | some (.frz _ xs) => if xs.length = n then some (.list xs) else none
      | some (.arr _ xs) =>
        if xs.length = n then
          match mapV (vw f σ) xs with
          | some ys => some (.list ys)
          | none => none
        else none
      | _ => none
    | .ptr l off => match σ[l]? with
      | some (.box cs) => match mapV (vw f σ) cs with
        | some es => some (.fptr (.agg es) off)
        | none => none
      | _ => none
    | .eptr .. => none
    | .bot => none
    | d => some d

mutual
/-- nothing frozen is meant -/
def D.sfree : D → Bool
  | .list xs => xs.isEmpty
  | .fptr _ _ => false
  | .fn _ cs => D.sfreeL cs
  | .agg cs => D.sfreeL cs
  | .tup cs => D.sfreeL cs
  | _ => true
def D.sfreeL : List D → Bool
  | [] => true
  | d :: ds => D.sfree d && D.sfreeL ds
end

def Blk.sfree : Blk → Bool
  | .box cs => D.sfreeL cs
  | .arr _ xs => D.sfreeL xs
  | .frz _ _ => false
  | .dead => true

/-! ### operations -/

def setParts (cs : List D) (ρ : Env) : List (Nat × Nat × Opd) → Option (List D)
  | [] => some cs
  | (off, n, x) :: r =>
    let d := x.ev ρ
    if d.cells.length = n ∧ off + n ≤ cs.length ∧ d.cells.all D.atom = true then setParts (splice cs off d.cells) ρ r else none

def setElems (esz : Nat) (xs : List D) (ρ : Env) : List (Nat × Opd) → Option (List D)
  | [] => some xs
  | (i, x) :: r =>
    let d := x.ev ρ
    if d.cells.length = esz ∧ i < xs.length ∧ d.cells.all D.atom = true then setElems esz (xs.set i d) ρ r else none

def asInt : D → Option Int
  | .int _ n => some n
  | _ => none

def sub? {α : Type} (xs : List α) (lo hi : Int) : Option (List α) :=
  if 0 ≤ lo ∧ lo ≤ hi ∧ hi ≤ xs.length then some ((xs.take hi.toNat).drop lo.toNat) else none

/-- an element so wide, of single cells -/
def okEl (esz : Nat) (d : D) : Bool := decide (d.cells.length = esz) && d.cells.all D.atom

/-- the elements are so wide -/
def headOk (esz : Nat) : List D → Bool
  | [] => true
  | d :: _ => d.cells.length == esz

def loInt (ρ : Env) : Option Opd → Option Int
  | none => some 0
  | some x => asInt (x.ev ρ)
def hiInt (ρ : Env) (n : Nat) : Option Opd → Option Int
  | none => some n
  | some x => asInt (x.ev ρ)

/-- The size, in bytes, up to which what grows is followed. -/
def room : Nat := 70368744177664

/-! ### a call sees no more of the store than its arguments lead to -/

mutual
def D.refs : D → List Nat
  | .ptr l _ => [l]
  | .eptr l _ _ _ => [l]
  | .sl l _ => [l]
  | .fn _ cs => D.refsL cs
  | .agg cs => D.refsL cs
  | .tup cs => D.refsL cs
  | _ => []
def D.refsL : List D → List Nat
  | [] => []
  | d :: ds => D.refs d ++ D.refsL ds
end

mutual
def D.ren (f : Nat → Option Nat) : D → Option D
  | .ptr l o => match f l with
    | some k => some (.ptr k o)
    | none => none
  | .eptr l n i o => match f l with
    | some k => some (.eptr k n i o)
    | none => none
  | .sl l n => match f l with
    | some k => some (.sl k n)
    | none => none
  | .fn g cs => match D.renL f cs with
    | some es => some (.fn g es)
    | none => none
  | .agg cs => match D.renL f cs with
    | some es => some (.agg es)
    | none => none
  | .tup cs => match D.renL f cs with
    | some es => some (.tup es)
    | none => none
  | d => some d
def D.renL (f : Nat → Option Nat) : List D → Option (List D)
  | [] => some []
  | d :: ds => match D.ren f d, D.renL f ds with
    | some e, some es => some (e :: es)
    | _, _ => none
end

def Blk.refs : Blk → List Nat
  | .box cs => D.refsL cs
  | .arr _ xs => D.refsL xs
  | _ => []

def Blk.ren (f : Nat → Option Nat) : Blk → Option Blk
  | .box cs => match D.renL f cs with
    | some es => some (.box es)
    | none => none
  | .arr e xs => match D.renL f xs with
    | some es => some (.arr e es)
    | none => none
  | b => some b

def addRefs : List Nat → List Nat → List Nat
  | ls, [] => ls
  | ls, l :: r => addRefs (if ls.contains l then ls else ls ++ [l]) r

def blkRefs (σ : Store) : List Nat → List Nat
  | [] => []
  | l :: ls => (match σ[l]? with | some b => b.refs | none => []) ++ blkRefs σ ls

/-- what the arguments lead to, and what that leads to, thrice -/
def reach (σ : Store) : Nat → List Nat → List Nat
  | 0, ls => ls
  | n + 1, ls => match blkRefs σ ls with
    | [] => ls
    | rs => reach σ n (addRefs ls rs)

def posOf : List Nat → Nat → Option Nat
  | [], _ => none
  | x :: r, l => if x = l then some 0 else match posOf r l with
    | some k => some (k + 1)
    | none => none

def backOf (ls : List Nat) (n : Nat) (k : Nat) : Option Nat := if k < ls.length then ls[k]? else some (n + (k - ls.length))

def subStore (σ : Store) (f : Nat → Option Nat) : List Nat → Option Store
  | [] => some []
  | l :: ls => match σ[l]? with
    | some b => match b.ren f, subStore σ f ls with
      | some b', some τ => some (b' :: τ)
      | _, _ => none
    | none => none

def renS (f : Nat → Option Nat) : Store → Option Store
  | [] => some []
  | b :: τ => match b.ren f, renS f τ with
    | some b', some τ' => some (b' :: τ')
    | _, _ => none

def putBack : Store → List Nat → Store → Store
  | σ, l :: ls, b :: τ => putBack (σ.set l b) ls τ
  | σ, _, τ => σ ++ τ

abbrev CallD := Nat → List D → Store → Option (D × Store)

def callAt (call : CallD) (g : Nat) (ds : List D) (σ : Store) (ls : List Nat) : Option (D × Store) :=
  if ls.Nodup then
    match D.renL (posOf ls) ds, subStore σ (posOf ls) ls with
    | some es, some τ => match call g es τ with
      | some (r, τ') => if ls.length ≤ τ'.length then
          match r.ren (backOf ls σ.length), renS (backOf ls σ.length) τ' with
          | some r', some τ'' => some (r', putBack σ ls τ'')
          | _, _ => none
        else none
      | none => none
    | _, _ => none
  else none

def callIn (call : CallD) (g : Nat) (ds : List D) (σ : Store) : Option (D × Store) := callAt call g ds σ (reach σ 3 (addRefs [] (D.refsL ds)))

/-- a call that sees its arguments as they are now, and hands back nothing that means them -/
def borIn (call : CallD) (g : Nat) (ds : List D) (σ : Store) : Option (D × Store) :=
  match call g ds [] with
  | some (r, τ) =>
    if r.sfree && τ.all Blk.sfree then
      match r.ren (backOf [] σ.length), renS (backOf [] σ.length) τ with
      | some r', some τ' => some (r', σ ++ τ')
      | _, _ => none
    else none
  | none => none

def callM (call : CallD) (m : CM) (g : Nat) (as caps : List D) (σ : Store) : Option (D × Store) :=
  match m with
  | .raw => callIn call g (as ++ caps) σ
  | .all => call g (as ++ caps) σ
  | .bor => match mapV (vw 8 σ) (as ++ caps) with
    | some ds => borIn call g ds σ
    | none => none
  | .frz => match mapS (frz 8) σ as with
    | some (ds, σ1) => callIn call g (ds ++ caps) σ1
    | none => none

def pure1 (σ : Store) : Option D → Option (D × Store)
  | some d => some (d, σ)
  | none => none

def DOp.ev (call : CallD) (ρ : Env) (σ : Store) : DOp → Option (D × Store)
  | .bad => none
  | .mv x => some (x.ev ρ, σ)
  | .pick c a b => match c.ev ρ with
    | .bool t => some (if t then a.ev ρ else b.ev ρ, σ)
    | _ => none
  | .alloc zero => some (.ptr σ.length 0, σ ++ [.box zero])
  | .box x => if (x.ev ρ).cells.all D.atom = true then some (.ptr σ.length 0, σ ++ [.box (x.ev ρ).cells]) else none
  | .boxf x => match frz 8 σ (x.ev ρ) with
    | some (d, σ1) => if D.lt 0 d = true ∧ d.cells.all D.atom = true then some (.fptr d 0, σ1) else none
    | none => none
  | .fz x => frz 8 σ (x.ev ρ)
  | .pend _ => some (.bot, σ)
  | .init n _ x => match frz 8 σ (x.ev ρ) with
    | some (d, σ1) => if d.cells.length = n ∧ D.lt 0 d = true ∧ d.cells.all D.atom = true then some (.fptr d 0, σ1) else none
    | none => none
  | .load agg a => pure1 σ (loadAt agg σ (a.ev ρ))
  | .store n a x => match storeAt n σ (a.ev ρ) (x.ev ρ) with
    | some σ' => some (.bot, σ')
    | none => none
  | .nilck x => match x.ev ρ with
    | .ptr l o => some (.ptr l o, σ)
    | .eptr l n i o => some (.eptr l n i o, σ)
    | .fptr d o => some (.fptr d o, σ)
    | .fn g cs => some (.fn g cs, σ)
    | _ => none
  | .bin op x y => match x.ev ρ with
    | .bool _ => none
    | d => pure1 σ (binD op d (y.ev ρ))
  | .binb op x y => pure1 σ (binD op (x.ev ρ) (y.ev ρ))
  | .eqs neg ks x y => match x.ev ρ, y.ev ρ with
    | .agg a, .agg b => match eqCells ks a b with
      | some t => some (.bool (if neg then !t else t), σ)
      | none => none
    | _, _ => none
  | .un op x => pure1 σ (unD op (x.ev ρ))
  | .conv k x => match x.ev ρ with
    | .int _ n => some (.int k (k.wrap n), σ)
    | _ => none
  | .same x => match x.ev ρ with
    | .str s => some (.str s, σ)
    | _ => none
  | .s2b x => match x.ev ρ with
    | .str s => if s.length ≤ room then some (.sl σ.length s.length, σ ++ [.arr 1 (bytesD s)]) else none
    | _ => none
  | .b2s x => match (elems σ (x.ev ρ)).bind bytesOf? with
    | some s => some (.str s, σ)
    | none => none
  | .mkfn g caps => some (.fn g (caps.map (Opd.ev ρ)), σ)
  | .build zero parts => match setParts zero ρ parts with
    | some cs => some (.agg cs, σ)
    | none => none
  | .buildSl esz zero parts => match setElems esz zero ρ parts with
    | some xs => some (.sl σ.length xs.length, σ ++ [.arr esz xs])
    | none => none
  | .mkSl esz bytes zero l c => match l.ev ρ, c.ev ρ with
    | .int .i64 n, .int .i64 m =>
      if 0 ≤ n ∧ n ≤ m ∧ bytes * m ≤ room ∧ m ≤ room then some (.sl σ.length n.toNat, σ ++ [.arr esz (List.replicate n.toNat zero)]) else none
    | _, _ => none
  | .subs x lo hi => match x.ev ρ with
    | .str s => match loInt ρ lo, hiInt ρ s.length hi with
      | some a, some b => match sub? s a b with
        | some r => some (.str r, σ)
        | none => none
      | _, _ => none
    | _ => none
  | .sub esz x lo hi => match x.ev ρ with
    | .list xs => match loInt ρ lo, hiInt ρ xs.length hi with
      | some a, some b => match sub? xs a b with
        | some r => if headOk esz xs = true then some (.list r, σ) else none
        | none => none
      | _, _ => none
    | _ => none
  | .sub0 x => match elems σ (x.ev ρ) with
    | some _ => some (.nils, σ)
    | none => none
  | .faddr off x => match x.ev ρ with
    | .ptr l o => some (.ptr l (o + off), σ)
    | .eptr l n i o => some (.eptr l n i (o + off), σ)
    | .fptr d o => some (.fptr d (o + off), σ)
    | _ => none
  | .field off agg x => match x.ev ρ with
    | .agg cs => pure1 σ (readCells agg cs off)
    | _ => none
  | .iaddr esz x i => match asInt (i.ev ρ) with
    | some j =>
      if 0 ≤ j then
        match x.ev ρ with
        | .list xs => match xs[j.toNat]? with
          | some d => if d.cells.length = esz then some (.fptr d 0, σ) else none
          | none => none
        | .sl l n => match σ[l]? with
          | some (.arr e xs) | some (.frz e xs) => if xs.length = n ∧ e = esz ∧ j < n then some (.eptr l n j.toNat 0, σ) else none
          | _ => none
        | _ => none
      else none
    | none => none
  | .sidx x i => match x.ev ρ, asInt (i.ev ρ) with
    | .str s, some j => if 0 ≤ j then match s[j.toNat]? with
      | some b => some (.int .u8 b.toNat, σ)
      | none => none
      else none
    | _, _ => none
  | .ext x i => match x.ev ρ with
    | .tup vs => match vs[i]? with
      | some d => some (d, σ)
      | none => none
    | _ => none
  | .lens x => match x.ev ρ with
    | .str s => some (.int .i64 s.length, σ)
    | _ => none
  | .len x => match elems σ (x.ev ρ) with
    | some xs => some (.int .i64 xs.length, σ)
    | none => none
  | .app esz bytes s x =>
    let ys := match x.ev ρ with
      | .str t => if esz = 1 then some (bytesD t) else none
      | d => elems σ d
    match ys with
    | some ys =>
      if ys.all (okEl esz) = true then
        match s.ev ρ with
        | .nils => if ys = [] then some (.nils, σ)
          else if ys.length * bytes ≤ room ∧ ys.length ≤ room then some (.sl σ.length ys.length, σ ++ [.arr esz ys]) else none
        | .sl l n => match σ[l]? with
          | some (.arr e xs) =>
            if xs.length = n ∧ e = esz ∧ (n + ys.length) * bytes ≤ room ∧ n + ys.length ≤ room then
              some (.sl l (n + ys.length), σ.set l (.arr e (xs ++ ys)))
            else none
          | _ => none
        | .list xs => if ys = [] then some (.list xs, σ) else none
        | _ => none
      else none
    | none => none
  | .call g m args => callM call m g (args.map (Opd.ev ρ)) [] σ
  | .callv f m args => match f.ev ρ with
    | .fn g caps => callM call m g (args.map (Opd.ev ρ)) caps σ
    | _ => none

def DOp.isCall : DOp → Bool
  | .call .. | .callv .. => true
  | _ => false

def DOp.pends : DOp → Bool
  | .pend _ | .init .. => true
  | _ => false

/-- the temporary that a first store into a variable tells of -/
def DOp.tgt : DOp → Option Nat
  | .init _ t _ => some t
  | _ => none
def DI.to (i : DI) : Option Nat :=
  match i.dst with
  | some t => some t
  | none => i.op.tgt

/-- the value that an instruction puts -/
def DI.val (call : CallD) (i : DI) (ρ : Env) (σ : Store) : Option (D × Store) :=
  match i.g with
  | none => i.op.ev call ρ σ
  | some (t, want) => match get ρ t with
    | .bool b => if b = want then i.op.ev call ρ σ else some (.tup [], σ)
    | .tup [] => some (.tup [], σ)
    | _ => none

def DI.ev (call : CallD) (i : DI) (ρ : Env) (σ : Store) : Option (Env × Store) :=
  match i.val call ρ σ with
  | some (d, σ') => some (put ρ i.to d, σ')
  | none => none

def evIs (call : CallD) : List DI → Env → Store → Option (Env × Store)
  | [], ρ, σ => some (ρ, σ)
  | i :: is, ρ, σ => match i.ev call ρ σ with
    | some (ρ', σ') => evIs call is ρ' σ'
    | none => none

/-- may its value be told from no store at all? -/
def DOp.freeOk : DOp → D → Bool
  | .call _ .all _, _ => false
  | .callv _ .all _, _ => false
  | .app .., _ => false
  | .call .., v => D.lt 0 v
  | .callv .., v => D.lt 0 v
  | _, _ => true

/-- those that turn nothing: of kind 0, whose value is of no store; of the others, whose value is of this store -/
noncomputable def evH (call : CallD) : List (Nat × DI) → Env → Store → Option Env
  | [], ρ, _ => some ρ
  | (0, i) :: r, ρ, σ => match i.val call ρ [] with
    | some (d, []) => if i.op.freeOk d = true then evH call r (put ρ i.to d) σ else none
    | _ => none
  | (_ + 1, i) :: r, ρ, σ => match i.val call ρ σ with
    | some (d, σ') => open Classical in if σ' = σ then evH call r (put ρ i.to d) σ else none
    | none => none

abbrev Out := Option (Ex × Env × Store)

/-- what older blocks have turned to holds no place of the call's own -/
def escOk (n : Nat) (σ : Store) : Bool := (σ.take n).all (Blk.lt n)

def D.isBot : D → Bool
  | .bot => true
  | _ => false
/-- the places of what a round has made and still means, behind the older ones -/
def newPos (n : Nat) (ls : List Nat) (l : Nat) : Option Nat :=
  if l < n then some l else match posOf ls l with
    | some k => some (n + k)
    | none => none
def newRefs (n : Nat) (vs : List D) : List Nat := addRefs [] ((D.refsL vs).filter fun l => decide (n ≤ l))
def liveT (ks : List Nat) (ρ : Env) : List Nat := ks.filter fun t => !(get ρ t).isBot
def scopeOf (n : Nat) (ks : List Nat) (e : Ex) (ρ : Env) (σ : Store) : Out :=
  if n ≤ σ.length ∧ (newRefs n (ks.map (get ρ))).Nodup then
    match D.renL (newPos n (newRefs n (ks.map (get ρ)))) (ks.map (get ρ)), renS (newPos n (newRefs n (ks.map (get ρ)))) (σ.take n), subStore σ (newPos n (newRefs n (ks.map (get ρ)))) (newRefs n (ks.map (get ρ))) with
    | some vs, some σ1, some σ2 => some (e, ks.zip vs, σ1 ++ σ2)
    | _, _, _ => none
  else none
/-- of what was made inside only that is kept which what is kept means -/
def inScope (n : Nat) (ks : List Nat) (r : Out) : Out :=
  match r with
  | some (e, ρ, σ) => scopeOf n (liveT ks ρ) e ρ σ
  | none => none
def trimS (sc : Option (List Nat)) (n : Nat) (r : Out) : Out :=
  match sc with
  | none => r
  | some ks => inScope n ks r

def andThen (r : Out) (f : Env → Store → Out) : Out :=
  match r with
  | some (.norm, ρ, σ) => f ρ σ
  | r => r

def inBlk (id : Nat) (ks : List Nat) (r : Out) : Out :=
  match r with
  | some (.exit id', ρ, σ) => if id' = id then some (.norm, keepOnly ks ρ, σ) else some (.exit id', ρ, σ)
  | some (.norm, ρ, σ) => some (.norm, keepOnly ks ρ, σ)
  | r => r

def iter (f : Env → Store → Out) : Nat → Env → Store → Out
  | 0, _, _ => none
  | n + 1, ρ, σ => andThen (f ρ σ) (iter f n)

def ofIs : Option (Env × Store) → Out
  | some (ρ, σ) => some (.norm, ρ, σ)
  | none => none
noncomputable def evC (call : CallD) (n : Nat) : DCode → Env → Store → Out
  | .skip, ρ, σ => some (.norm, ρ, σ)
  | .reg is, ρ, σ => ofIs (evIs call is ρ σ)
  | .any _ hs ts, ρ, σ => match evH call hs ρ σ with
    | some ρ1 => ofIs (evIs call ts ρ1 σ)
    | none => none
  | .seq a b, ρ, σ => andThen (evC call n a ρ σ) (evC call n b)
  | .cond c a b, ρ, σ => match c.ev ρ with
    | .bool true => evC call n a ρ σ
    | .bool false => evC call n b ρ σ
    | _ => none
  | .block id ks b, ρ, σ => inBlk id ks (evC call n b ρ σ)
  | .loop ks sc b, ρ, σ => iter (fun ρ σ => trimS sc σ.length (evC call n b (keepOnly ks ρ) σ)) n ρ σ
  | .exit id, ρ, σ => some (.exit id, ρ, σ)
  | .ret ks, ρ, σ => some (.ret, keepOnly ks ρ, σ)
  | .bad, _, _ => none
  | .badr _, _, _ => none

def enterE : Nat → List D → Env
  | _, [] => []
  | i, d :: ds => (i, d) :: enterE (i + 1) ds

def DRes.ev (ρ : Env) (σ : Store) : DRes → Option D
  | .t i => some (get ρ i)
  | .cell i agg => loadAt agg σ (get ρ i)

def resL (ρ : Env) (σ : Store) : List DRes → Option (List D)
  | [] => some []
  | r :: rs => match r.ev ρ σ with
    | some d => match resL ρ σ rs with
      | some ds => some (d :: ds)
      | none => none
    | none => none

def wrapRes : List D → D
  | [d] => d
  | ds => .tup ds

def finish (σ0 : Store) (df : DFn) (r : Out) : Option (D × Store) :=
  match r with
  | some (.exit _, _, _) => none
  | some (_, ρ, σ) => match resL ρ σ df.res with
    | some ds =>
      if df.keep then some (wrapRes ds, σ)
      else match frz 8 σ (wrapRes ds) with
      | some (d, σ') => if d.lt σ0.length = true ∧ escOk σ0.length σ' = true then some (d, σ'.take σ0.length) else none
      | none => none
    | none => none
  | none => none

/-- a function: its code, or a law that stands for it -/
inductive Def where
  | code (df : DFn)
  | law (f : List D → Store → Option (D × Store))

abbrev Tab := Nat → Option Def

noncomputable def evF (Γ : Tab) : Nat → CallD
  | 0, _, _, _ => none
  | n + 1, g, args, σ => match Γ g with
    | some (.code df) => if args.length = df.np then finish σ df (evC (evF Γ n) n df.body (enterE 0 args) σ) else none
    | some (.law f) => f args σ
    | none => none

end Go.DM
