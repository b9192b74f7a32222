/- The program's structs as Lean's, and as the machine's data. -/
import Derived.Test.YtpidjgefokgplaaLoop
set_option linter.unusedVariables false
set_option linter.unusedSimpArgs false
namespace Go.DM
open Go
abbrev Str := List UInt8
inductive Xp where
  | mk (kind : Int) (text : Str) (num : Int) (kids : List Xp)
def Xp.kind : Xp → Int | .mk k _ _ _ => k
def Xp.text : Xp → Str | .mk _ t _ _ => t
def Xp.num : Xp → Int | .mk _ _ n _ => n
def Xp.kids : Xp → List Xp | .mk _ _ _ ks => ks
@[simp] theorem Xp.kind_mk (k : Int) (t : Str) (n : Int) (ks : List Xp) : (Xp.mk k t n ks).kind = k := rfl
@[simp] theorem Xp.text_mk (k : Int) (t : Str) (n : Int) (ks : List Xp) : (Xp.mk k t n ks).text = t := rfl
@[simp] theorem Xp.num_mk (k : Int) (t : Str) (n : Int) (ks : List Xp) : (Xp.mk k t n ks).num = n := rfl
@[simp] theorem Xp.kids_mk (k : Int) (t : Str) (n : Int) (ks : List Xp) : (Xp.mk k t n ks).kids = ks := rfl
theorem Xp.eta (e : Xp) : Xp.mk e.kind e.text e.num e.kids = e := by cases e; rfl
mutual
def Xp.d : Xp → D
  | .mk k t n ks => .agg [.int .i64 k, .str t, .int .i64 n, .list (Xp.ds ks)]
def Xp.ds : List Xp → List D
  | [] => []
  | e :: es => Xp.d e :: Xp.ds es
end
@[simp] theorem Xp.ds_map (es : List Xp) : Xp.ds es = es.map Xp.d := by
  induction es with
  | nil => simp [Xp.ds]
  | cons e es ih => simp [Xp.ds, ih]
theorem Xp.d_def (e : Xp) : e.d = .agg [.int .i64 e.kind, .str e.text, .int .i64 e.num, .list (e.kids.map Xp.d)] := by
  cases e; simp [Xp.d]
@[simp] theorem Xp.d_cells (x : Xp) : (D.cells x.d) = [.int .i64 x.kind, .str x.text, .int .i64 x.num, .list (x.kids.map Xp.d)] := by rw [Xp.d_def]; rfl
@[simp] theorem Xp.d_fold (x : Xp) : D.agg [.int .i64 x.kind, .str x.text, .int .i64 x.num, .list (x.kids.map Xp.d)] = x.d := (Xp.d_def x).symm
@[simp] theorem Xp.d_atom (x : Xp) : D.atom x.d = false := by rw [Xp.d_def]; rfl
theorem Xp.d_lts (n : Nat) (x : Xp) : D.ltL n [.int .i64 x.kind, .str x.text, .int .i64 x.num, .list (x.kids.map Xp.d)] = true := by simp
@[simp] theorem Xp.d_lt (n : Nat) (x : Xp) : D.lt n x.d = true := by rw [Xp.d_def, lt_agg]; exact Xp.d_lts n x
@[simp] theorem Xp.d_frz (n : Nat) (σ : Store) (x : Xp) : frz (n + 2) σ x.d = some (x.d, σ) := by rw [Xp.d_def, frz_agg]; rfl
@[simp] theorem Xp.d_vw (n : Nat) (σ : Store) (x : Xp) : vw (n + 2) σ x.d = some x.d := by rw [Xp.d_def, vw_agg]; rfl
@[simp] theorem Xp.d_refs (x : Xp) : D.refs x.d = [] := (D.free_ren (fun _ => none) _ (Xp.d_lt 0 x)).1
@[simp] theorem Xp.d_ren (f : Nat → Option Nat) (x : Xp) : D.ren f x.d = some x.d := (D.free_ren f _ (Xp.d_lt 0 x)).2
@[simp] theorem Xp.d_bot (x : Xp) : D.isBot x.d = false := by rw [Xp.d_def]; rfl
@[simp] theorem Xp.d_field (x : Xp) (off : Nat) (g : Option Nat) : fieldE off g x.d = readCells g [.int .i64 x.kind, .str x.text, .int .i64 x.num, .list (x.kids.map Xp.d)] off := by rw [Xp.d_def]; rfl
@[simp] theorem Xp.d_eqs (x y : Xp) (neg : Bool) (ks : List FK) (σ : Store) : eqsE neg ks x.d y.d σ = eqsR neg (eqCells ks [.int .i64 x.kind, .str x.text, .int .i64 x.num, .list (x.kids.map Xp.d)] [.int .i64 y.kind, .str y.text, .int .i64 y.num, .list (y.kids.map Xp.d)]) σ := by rw [Xp.d_def, Xp.d_def y]; rfl
@[simp] theorem Xp.d_eqsl (x : Xp) (cs : List D) (neg : Bool) (ks : List FK) (σ : Store) : eqsE neg ks x.d (.agg cs) σ = eqsR neg (eqCells ks [.int .i64 x.kind, .str x.text, .int .i64 x.num, .list (x.kids.map Xp.d)] cs) σ := by rw [Xp.d_def]; rfl
@[simp] theorem Xp.d_eqsr (y : Xp) (cs : List D) (neg : Bool) (ks : List FK) (σ : Store) : eqsE neg ks (.agg cs) y.d σ = eqsR neg (eqCells ks cs [.int .i64 y.kind, .str y.text, .int .i64 y.num, .list (y.kids.map Xp.d)]) σ := by rw [Xp.d_def]; rfl
@[simp] theorem Xp.d_re (x : Xp) (cs : List D) : reElem x.d cs = .agg cs := by rw [Xp.d_def]; rfl
@[simp] theorem Xp.d_okEl (x : Xp) (n : Nat) : okEl n x.d = (decide (4 = n)) := by simp [okEl]
structure Ty where
  kind : Int
  len : Int
  name : Str
  deriving DecidableEq
def Ty.d (x : Ty) : D := .agg [.int .i64 x.kind, .int .i64 x.len, .str x.name]
theorem Ty.d_def (x : Ty) : x.d = .agg [.int .i64 x.kind, .int .i64 x.len, .str x.name] := rfl
@[simp] theorem Ty.d_cells (x : Ty) : (D.cells x.d) = [.int .i64 x.kind, .int .i64 x.len, .str x.name] := by rw [Ty.d_def]; rfl
@[simp] theorem Ty.d_fold (x : Ty) : D.agg [.int .i64 x.kind, .int .i64 x.len, .str x.name] = x.d := (Ty.d_def x).symm
@[simp] theorem Ty.d_atom (x : Ty) : D.atom x.d = false := by rw [Ty.d_def]; rfl
theorem Ty.d_lts (n : Nat) (x : Ty) : D.ltL n [.int .i64 x.kind, .int .i64 x.len, .str x.name] = true := by simp
@[simp] theorem Ty.d_lt (n : Nat) (x : Ty) : D.lt n x.d = true := by rw [Ty.d_def, lt_agg]; exact Ty.d_lts n x
@[simp] theorem Ty.d_frz (n : Nat) (σ : Store) (x : Ty) : frz (n + 2) σ x.d = some (x.d, σ) := by rw [Ty.d_def, frz_agg]; rfl
@[simp] theorem Ty.d_vw (n : Nat) (σ : Store) (x : Ty) : vw (n + 2) σ x.d = some x.d := by rw [Ty.d_def, vw_agg]; rfl
@[simp] theorem Ty.d_refs (x : Ty) : D.refs x.d = [] := (D.free_ren (fun _ => none) _ (Ty.d_lt 0 x)).1
@[simp] theorem Ty.d_ren (f : Nat → Option Nat) (x : Ty) : D.ren f x.d = some x.d := (D.free_ren f _ (Ty.d_lt 0 x)).2
@[simp] theorem Ty.d_bot (x : Ty) : D.isBot x.d = false := by rw [Ty.d_def]; rfl
@[simp] theorem Ty.d_field (x : Ty) (off : Nat) (g : Option Nat) : fieldE off g x.d = readCells g [.int .i64 x.kind, .int .i64 x.len, .str x.name] off := by rw [Ty.d_def]; rfl
@[simp] theorem Ty.d_eqs (x y : Ty) (neg : Bool) (ks : List FK) (σ : Store) : eqsE neg ks x.d y.d σ = eqsR neg (eqCells ks [.int .i64 x.kind, .int .i64 x.len, .str x.name] [.int .i64 y.kind, .int .i64 y.len, .str y.name]) σ := by rw [Ty.d_def, Ty.d_def y]; rfl
@[simp] theorem Ty.d_eqsl (x : Ty) (cs : List D) (neg : Bool) (ks : List FK) (σ : Store) : eqsE neg ks x.d (.agg cs) σ = eqsR neg (eqCells ks [.int .i64 x.kind, .int .i64 x.len, .str x.name] cs) σ := by rw [Ty.d_def]; rfl
@[simp] theorem Ty.d_eqsr (y : Ty) (cs : List D) (neg : Bool) (ks : List FK) (σ : Store) : eqsE neg ks (.agg cs) y.d σ = eqsR neg (eqCells ks cs [.int .i64 y.kind, .int .i64 y.len, .str y.name]) σ := by rw [Ty.d_def]; rfl
@[simp] theorem Ty.d_re (x : Ty) (cs : List D) : reElem x.d cs = .agg cs := by rw [Ty.d_def]; rfl
@[simp] theorem Ty.d_okEl (x : Ty) (n : Nat) : okEl n x.d = (decide (3 = n)) := by simp [okEl]
structure Col where
  name : Str
  ty : Ty
  notNull : Bool
  dflt : List Xp
def Col.d (x : Col) : D := .agg [.str x.name, .int .i64 x.ty.kind, .int .i64 x.ty.len, .str x.ty.name, .bool x.notNull, .list (x.dflt.map Xp.d)]
theorem Col.d_def (x : Col) : x.d = .agg [.str x.name, .int .i64 x.ty.kind, .int .i64 x.ty.len, .str x.ty.name, .bool x.notNull, .list (x.dflt.map Xp.d)] := rfl
@[simp] theorem Col.d_cells (x : Col) : (D.cells x.d) = [.str x.name, .int .i64 x.ty.kind, .int .i64 x.ty.len, .str x.ty.name, .bool x.notNull, .list (x.dflt.map Xp.d)] := by rw [Col.d_def]; rfl
@[simp] theorem Col.d_fold (x : Col) : D.agg [.str x.name, .int .i64 x.ty.kind, .int .i64 x.ty.len, .str x.ty.name, .bool x.notNull, .list (x.dflt.map Xp.d)] = x.d := (Col.d_def x).symm
@[simp] theorem Col.d_atom (x : Col) : D.atom x.d = false := by rw [Col.d_def]; rfl
theorem Col.d_lts (n : Nat) (x : Col) : D.ltL n [.str x.name, .int .i64 x.ty.kind, .int .i64 x.ty.len, .str x.ty.name, .bool x.notNull, .list (x.dflt.map Xp.d)] = true := by simp
@[simp] theorem Col.d_lt (n : Nat) (x : Col) : D.lt n x.d = true := by rw [Col.d_def, lt_agg]; exact Col.d_lts n x
@[simp] theorem Col.d_frz (n : Nat) (σ : Store) (x : Col) : frz (n + 2) σ x.d = some (x.d, σ) := by rw [Col.d_def, frz_agg]; rfl
@[simp] theorem Col.d_vw (n : Nat) (σ : Store) (x : Col) : vw (n + 2) σ x.d = some x.d := by rw [Col.d_def, vw_agg]; rfl
@[simp] theorem Col.d_refs (x : Col) : D.refs x.d = [] := (D.free_ren (fun _ => none) _ (Col.d_lt 0 x)).1
@[simp] theorem Col.d_ren (f : Nat → Option Nat) (x : Col) : D.ren f x.d = some x.d := (D.free_ren f _ (Col.d_lt 0 x)).2
@[simp] theorem Col.d_bot (x : Col) : D.isBot x.d = false := by rw [Col.d_def]; rfl
@[simp] theorem Col.d_field (x : Col) (off : Nat) (g : Option Nat) : fieldE off g x.d = readCells g [.str x.name, .int .i64 x.ty.kind, .int .i64 x.ty.len, .str x.ty.name, .bool x.notNull, .list (x.dflt.map Xp.d)] off := by rw [Col.d_def]; rfl
@[simp] theorem Col.d_eqs (x y : Col) (neg : Bool) (ks : List FK) (σ : Store) : eqsE neg ks x.d y.d σ = eqsR neg (eqCells ks [.str x.name, .int .i64 x.ty.kind, .int .i64 x.ty.len, .str x.ty.name, .bool x.notNull, .list (x.dflt.map Xp.d)] [.str y.name, .int .i64 y.ty.kind, .int .i64 y.ty.len, .str y.ty.name, .bool y.notNull, .list (y.dflt.map Xp.d)]) σ := by rw [Col.d_def, Col.d_def y]; rfl
@[simp] theorem Col.d_eqsl (x : Col) (cs : List D) (neg : Bool) (ks : List FK) (σ : Store) : eqsE neg ks x.d (.agg cs) σ = eqsR neg (eqCells ks [.str x.name, .int .i64 x.ty.kind, .int .i64 x.ty.len, .str x.ty.name, .bool x.notNull, .list (x.dflt.map Xp.d)] cs) σ := by rw [Col.d_def]; rfl
@[simp] theorem Col.d_eqsr (y : Col) (cs : List D) (neg : Bool) (ks : List FK) (σ : Store) : eqsE neg ks (.agg cs) y.d σ = eqsR neg (eqCells ks cs [.str y.name, .int .i64 y.ty.kind, .int .i64 y.ty.len, .str y.ty.name, .bool y.notNull, .list (y.dflt.map Xp.d)]) σ := by rw [Col.d_def]; rfl
@[simp] theorem Col.d_re (x : Col) (cs : List D) : reElem x.d cs = .agg cs := by rw [Col.d_def]; rfl
@[simp] theorem Col.d_okEl (x : Col) (n : Nat) : okEl n x.d = (decide (6 = n)) := by simp [okEl]
structure Labels where
  name : Str
  list : List Str
  deriving DecidableEq
def Labels.d (x : Labels) : D := .agg [.str x.name, .list (x.list.map .str)]
theorem Labels.d_def (x : Labels) : x.d = .agg [.str x.name, .list (x.list.map .str)] := rfl
@[simp] theorem Labels.d_cells (x : Labels) : (D.cells x.d) = [.str x.name, .list (x.list.map .str)] := by rw [Labels.d_def]; rfl
@[simp] theorem Labels.d_fold (x : Labels) : D.agg [.str x.name, .list (x.list.map .str)] = x.d := (Labels.d_def x).symm
@[simp] theorem Labels.d_atom (x : Labels) : D.atom x.d = false := by rw [Labels.d_def]; rfl
theorem Labels.d_lts (n : Nat) (x : Labels) : D.ltL n [.str x.name, .list (x.list.map .str)] = true := by simp
@[simp] theorem Labels.d_lt (n : Nat) (x : Labels) : D.lt n x.d = true := by rw [Labels.d_def, lt_agg]; exact Labels.d_lts n x
@[simp] theorem Labels.d_frz (n : Nat) (σ : Store) (x : Labels) : frz (n + 2) σ x.d = some (x.d, σ) := by rw [Labels.d_def, frz_agg]; rfl
@[simp] theorem Labels.d_vw (n : Nat) (σ : Store) (x : Labels) : vw (n + 2) σ x.d = some x.d := by rw [Labels.d_def, vw_agg]; rfl
@[simp] theorem Labels.d_refs (x : Labels) : D.refs x.d = [] := (D.free_ren (fun _ => none) _ (Labels.d_lt 0 x)).1
@[simp] theorem Labels.d_ren (f : Nat → Option Nat) (x : Labels) : D.ren f x.d = some x.d := (D.free_ren f _ (Labels.d_lt 0 x)).2
@[simp] theorem Labels.d_bot (x : Labels) : D.isBot x.d = false := by rw [Labels.d_def]; rfl
@[simp] theorem Labels.d_field (x : Labels) (off : Nat) (g : Option Nat) : fieldE off g x.d = readCells g [.str x.name, .list (x.list.map .str)] off := by rw [Labels.d_def]; rfl
@[simp] theorem Labels.d_eqs (x y : Labels) (neg : Bool) (ks : List FK) (σ : Store) : eqsE neg ks x.d y.d σ = eqsR neg (eqCells ks [.str x.name, .list (x.list.map .str)] [.str y.name, .list (y.list.map .str)]) σ := by rw [Labels.d_def, Labels.d_def y]; rfl
@[simp] theorem Labels.d_eqsl (x : Labels) (cs : List D) (neg : Bool) (ks : List FK) (σ : Store) : eqsE neg ks x.d (.agg cs) σ = eqsR neg (eqCells ks [.str x.name, .list (x.list.map .str)] cs) σ := by rw [Labels.d_def]; rfl
@[simp] theorem Labels.d_eqsr (y : Labels) (cs : List D) (neg : Bool) (ks : List FK) (σ : Store) : eqsE neg ks (.agg cs) y.d σ = eqsR neg (eqCells ks cs [.str y.name, .list (y.list.map .str)]) σ := by rw [Labels.d_def]; rfl
@[simp] theorem Labels.d_re (x : Labels) (cs : List D) : reElem x.d cs = .agg cs := by rw [Labels.d_def]; rfl
@[simp] theorem Labels.d_okEl (x : Labels) (n : Nat) : okEl n x.d = (decide (2 = n)) := by simp [okEl]
structure Seq where
  name : Str
  start : Int
  deriving DecidableEq
def Seq.d (x : Seq) : D := .agg [.str x.name, .int .i64 x.start]
theorem Seq.d_def (x : Seq) : x.d = .agg [.str x.name, .int .i64 x.start] := rfl
@[simp] theorem Seq.d_cells (x : Seq) : (D.cells x.d) = [.str x.name, .int .i64 x.start] := by rw [Seq.d_def]; rfl
@[simp] theorem Seq.d_fold (x : Seq) : D.agg [.str x.name, .int .i64 x.start] = x.d := (Seq.d_def x).symm
@[simp] theorem Seq.d_atom (x : Seq) : D.atom x.d = false := by rw [Seq.d_def]; rfl
theorem Seq.d_lts (n : Nat) (x : Seq) : D.ltL n [.str x.name, .int .i64 x.start] = true := by simp
@[simp] theorem Seq.d_lt (n : Nat) (x : Seq) : D.lt n x.d = true := by rw [Seq.d_def, lt_agg]; exact Seq.d_lts n x
@[simp] theorem Seq.d_frz (n : Nat) (σ : Store) (x : Seq) : frz (n + 2) σ x.d = some (x.d, σ) := by rw [Seq.d_def, frz_agg]; rfl
@[simp] theorem Seq.d_vw (n : Nat) (σ : Store) (x : Seq) : vw (n + 2) σ x.d = some x.d := by rw [Seq.d_def, vw_agg]; rfl
@[simp] theorem Seq.d_refs (x : Seq) : D.refs x.d = [] := (D.free_ren (fun _ => none) _ (Seq.d_lt 0 x)).1
@[simp] theorem Seq.d_ren (f : Nat → Option Nat) (x : Seq) : D.ren f x.d = some x.d := (D.free_ren f _ (Seq.d_lt 0 x)).2
@[simp] theorem Seq.d_bot (x : Seq) : D.isBot x.d = false := by rw [Seq.d_def]; rfl
@[simp] theorem Seq.d_field (x : Seq) (off : Nat) (g : Option Nat) : fieldE off g x.d = readCells g [.str x.name, .int .i64 x.start] off := by rw [Seq.d_def]; rfl
@[simp] theorem Seq.d_eqs (x y : Seq) (neg : Bool) (ks : List FK) (σ : Store) : eqsE neg ks x.d y.d σ = eqsR neg (eqCells ks [.str x.name, .int .i64 x.start] [.str y.name, .int .i64 y.start]) σ := by rw [Seq.d_def, Seq.d_def y]; rfl
@[simp] theorem Seq.d_eqsl (x : Seq) (cs : List D) (neg : Bool) (ks : List FK) (σ : Store) : eqsE neg ks x.d (.agg cs) σ = eqsR neg (eqCells ks [.str x.name, .int .i64 x.start] cs) σ := by rw [Seq.d_def]; rfl
@[simp] theorem Seq.d_eqsr (y : Seq) (cs : List D) (neg : Bool) (ks : List FK) (σ : Store) : eqsE neg ks (.agg cs) y.d σ = eqsR neg (eqCells ks cs [.str y.name, .int .i64 y.start]) σ := by rw [Seq.d_def]; rfl
@[simp] theorem Seq.d_re (x : Seq) (cs : List D) : reElem x.d cs = .agg cs := by rw [Seq.d_def]; rfl
@[simp] theorem Seq.d_okEl (x : Seq) (n : Nat) : okEl n x.d = (decide (2 = n)) := by simp [okEl]
structure Rule where
  name : Str
  kind : Int
  cols : List Str
  expr : List Xp
  table : Str
  to : List Str
def Rule.d (x : Rule) : D := .agg [.str x.name, .int .i64 x.kind, .list (x.cols.map .str), .list (x.expr.map Xp.d), .str x.table, .list (x.to.map .str)]
theorem Rule.d_def (x : Rule) : x.d = .agg [.str x.name, .int .i64 x.kind, .list (x.cols.map .str), .list (x.expr.map Xp.d), .str x.table, .list (x.to.map .str)] := rfl
@[simp] theorem Rule.d_cells (x : Rule) : (D.cells x.d) = [.str x.name, .int .i64 x.kind, .list (x.cols.map .str), .list (x.expr.map Xp.d), .str x.table, .list (x.to.map .str)] := by rw [Rule.d_def]; rfl
@[simp] theorem Rule.d_fold (x : Rule) : D.agg [.str x.name, .int .i64 x.kind, .list (x.cols.map .str), .list (x.expr.map Xp.d), .str x.table, .list (x.to.map .str)] = x.d := (Rule.d_def x).symm
@[simp] theorem Rule.d_atom (x : Rule) : D.atom x.d = false := by rw [Rule.d_def]; rfl
theorem Rule.d_lts (n : Nat) (x : Rule) : D.ltL n [.str x.name, .int .i64 x.kind, .list (x.cols.map .str), .list (x.expr.map Xp.d), .str x.table, .list (x.to.map .str)] = true := by simp
@[simp] theorem Rule.d_lt (n : Nat) (x : Rule) : D.lt n x.d = true := by rw [Rule.d_def, lt_agg]; exact Rule.d_lts n x
@[simp] theorem Rule.d_frz (n : Nat) (σ : Store) (x : Rule) : frz (n + 2) σ x.d = some (x.d, σ) := by rw [Rule.d_def, frz_agg]; rfl
@[simp] theorem Rule.d_vw (n : Nat) (σ : Store) (x : Rule) : vw (n + 2) σ x.d = some x.d := by rw [Rule.d_def, vw_agg]; rfl
@[simp] theorem Rule.d_refs (x : Rule) : D.refs x.d = [] := (D.free_ren (fun _ => none) _ (Rule.d_lt 0 x)).1
@[simp] theorem Rule.d_ren (f : Nat → Option Nat) (x : Rule) : D.ren f x.d = some x.d := (D.free_ren f _ (Rule.d_lt 0 x)).2
@[simp] theorem Rule.d_bot (x : Rule) : D.isBot x.d = false := by rw [Rule.d_def]; rfl
@[simp] theorem Rule.d_field (x : Rule) (off : Nat) (g : Option Nat) : fieldE off g x.d = readCells g [.str x.name, .int .i64 x.kind, .list (x.cols.map .str), .list (x.expr.map Xp.d), .str x.table, .list (x.to.map .str)] off := by rw [Rule.d_def]; rfl
@[simp] theorem Rule.d_eqs (x y : Rule) (neg : Bool) (ks : List FK) (σ : Store) : eqsE neg ks x.d y.d σ = eqsR neg (eqCells ks [.str x.name, .int .i64 x.kind, .list (x.cols.map .str), .list (x.expr.map Xp.d), .str x.table, .list (x.to.map .str)] [.str y.name, .int .i64 y.kind, .list (y.cols.map .str), .list (y.expr.map Xp.d), .str y.table, .list (y.to.map .str)]) σ := by rw [Rule.d_def, Rule.d_def y]; rfl
@[simp] theorem Rule.d_eqsl (x : Rule) (cs : List D) (neg : Bool) (ks : List FK) (σ : Store) : eqsE neg ks x.d (.agg cs) σ = eqsR neg (eqCells ks [.str x.name, .int .i64 x.kind, .list (x.cols.map .str), .list (x.expr.map Xp.d), .str x.table, .list (x.to.map .str)] cs) σ := by rw [Rule.d_def]; rfl
@[simp] theorem Rule.d_eqsr (y : Rule) (cs : List D) (neg : Bool) (ks : List FK) (σ : Store) : eqsE neg ks (.agg cs) y.d σ = eqsR neg (eqCells ks cs [.str y.name, .int .i64 y.kind, .list (y.cols.map .str), .list (y.expr.map Xp.d), .str y.table, .list (y.to.map .str)]) σ := by rw [Rule.d_def]; rfl
@[simp] theorem Rule.d_re (x : Rule) (cs : List D) : reElem x.d cs = .agg cs := by rw [Rule.d_def]; rfl
@[simp] theorem Rule.d_okEl (x : Rule) (n : Nat) : okEl n x.d = (decide (6 = n)) := by simp [okEl]
structure Table where
  name : Str
  cols : List Col
  rules : List Rule
  token : Int
def Table.d (x : Table) : D := .agg [.str x.name, .list (x.cols.map Col.d), .list (x.rules.map Rule.d), .int .i64 x.token]
theorem Table.d_def (x : Table) : x.d = .agg [.str x.name, .list (x.cols.map Col.d), .list (x.rules.map Rule.d), .int .i64 x.token] := rfl
@[simp] theorem Table.d_cells (x : Table) : (D.cells x.d) = [.str x.name, .list (x.cols.map Col.d), .list (x.rules.map Rule.d), .int .i64 x.token] := by rw [Table.d_def]; rfl
@[simp] theorem Table.d_fold (x : Table) : D.agg [.str x.name, .list (x.cols.map Col.d), .list (x.rules.map Rule.d), .int .i64 x.token] = x.d := (Table.d_def x).symm
@[simp] theorem Table.d_atom (x : Table) : D.atom x.d = false := by rw [Table.d_def]; rfl
theorem Table.d_lts (n : Nat) (x : Table) : D.ltL n [.str x.name, .list (x.cols.map Col.d), .list (x.rules.map Rule.d), .int .i64 x.token] = true := by simp
@[simp] theorem Table.d_lt (n : Nat) (x : Table) : D.lt n x.d = true := by rw [Table.d_def, lt_agg]; exact Table.d_lts n x
@[simp] theorem Table.d_frz (n : Nat) (σ : Store) (x : Table) : frz (n + 2) σ x.d = some (x.d, σ) := by rw [Table.d_def, frz_agg]; rfl
@[simp] theorem Table.d_vw (n : Nat) (σ : Store) (x : Table) : vw (n + 2) σ x.d = some x.d := by rw [Table.d_def, vw_agg]; rfl
@[simp] theorem Table.d_refs (x : Table) : D.refs x.d = [] := (D.free_ren (fun _ => none) _ (Table.d_lt 0 x)).1
@[simp] theorem Table.d_ren (f : Nat → Option Nat) (x : Table) : D.ren f x.d = some x.d := (D.free_ren f _ (Table.d_lt 0 x)).2
@[simp] theorem Table.d_bot (x : Table) : D.isBot x.d = false := by rw [Table.d_def]; rfl
@[simp] theorem Table.d_field (x : Table) (off : Nat) (g : Option Nat) : fieldE off g x.d = readCells g [.str x.name, .list (x.cols.map Col.d), .list (x.rules.map Rule.d), .int .i64 x.token] off := by rw [Table.d_def]; rfl
@[simp] theorem Table.d_eqs (x y : Table) (neg : Bool) (ks : List FK) (σ : Store) : eqsE neg ks x.d y.d σ = eqsR neg (eqCells ks [.str x.name, .list (x.cols.map Col.d), .list (x.rules.map Rule.d), .int .i64 x.token] [.str y.name, .list (y.cols.map Col.d), .list (y.rules.map Rule.d), .int .i64 y.token]) σ := by rw [Table.d_def, Table.d_def y]; rfl
@[simp] theorem Table.d_eqsl (x : Table) (cs : List D) (neg : Bool) (ks : List FK) (σ : Store) : eqsE neg ks x.d (.agg cs) σ = eqsR neg (eqCells ks [.str x.name, .list (x.cols.map Col.d), .list (x.rules.map Rule.d), .int .i64 x.token] cs) σ := by rw [Table.d_def]; rfl
@[simp] theorem Table.d_eqsr (y : Table) (cs : List D) (neg : Bool) (ks : List FK) (σ : Store) : eqsE neg ks (.agg cs) y.d σ = eqsR neg (eqCells ks cs [.str y.name, .list (y.cols.map Col.d), .list (y.rules.map Rule.d), .int .i64 y.token]) σ := by rw [Table.d_def]; rfl
@[simp] theorem Table.d_re (x : Table) (cs : List D) : reElem x.d cs = .agg cs := by rw [Table.d_def]; rfl
@[simp] theorem Table.d_okEl (x : Table) (n : Nat) : okEl n x.d = (decide (4 = n)) := by simp [okEl]
structure Index where
  name : Str
  table : Str
  cols : List Str
  unique : Bool
  deriving DecidableEq
def Index.d (x : Index) : D := .agg [.str x.name, .str x.table, .list (x.cols.map .str), .bool x.unique]
theorem Index.d_def (x : Index) : x.d = .agg [.str x.name, .str x.table, .list (x.cols.map .str), .bool x.unique] := rfl
@[simp] theorem Index.d_cells (x : Index) : (D.cells x.d) = [.str x.name, .str x.table, .list (x.cols.map .str), .bool x.unique] := by rw [Index.d_def]; rfl
@[simp] theorem Index.d_fold (x : Index) : D.agg [.str x.name, .str x.table, .list (x.cols.map .str), .bool x.unique] = x.d := (Index.d_def x).symm
@[simp] theorem Index.d_atom (x : Index) : D.atom x.d = false := by rw [Index.d_def]; rfl
theorem Index.d_lts (n : Nat) (x : Index) : D.ltL n [.str x.name, .str x.table, .list (x.cols.map .str), .bool x.unique] = true := by simp
@[simp] theorem Index.d_lt (n : Nat) (x : Index) : D.lt n x.d = true := by rw [Index.d_def, lt_agg]; exact Index.d_lts n x
@[simp] theorem Index.d_frz (n : Nat) (σ : Store) (x : Index) : frz (n + 2) σ x.d = some (x.d, σ) := by rw [Index.d_def, frz_agg]; rfl
@[simp] theorem Index.d_vw (n : Nat) (σ : Store) (x : Index) : vw (n + 2) σ x.d = some x.d := by rw [Index.d_def, vw_agg]; rfl
@[simp] theorem Index.d_refs (x : Index) : D.refs x.d = [] := (D.free_ren (fun _ => none) _ (Index.d_lt 0 x)).1
@[simp] theorem Index.d_ren (f : Nat → Option Nat) (x : Index) : D.ren f x.d = some x.d := (D.free_ren f _ (Index.d_lt 0 x)).2
@[simp] theorem Index.d_bot (x : Index) : D.isBot x.d = false := by rw [Index.d_def]; rfl
@[simp] theorem Index.d_field (x : Index) (off : Nat) (g : Option Nat) : fieldE off g x.d = readCells g [.str x.name, .str x.table, .list (x.cols.map .str), .bool x.unique] off := by rw [Index.d_def]; rfl
@[simp] theorem Index.d_eqs (x y : Index) (neg : Bool) (ks : List FK) (σ : Store) : eqsE neg ks x.d y.d σ = eqsR neg (eqCells ks [.str x.name, .str x.table, .list (x.cols.map .str), .bool x.unique] [.str y.name, .str y.table, .list (y.cols.map .str), .bool y.unique]) σ := by rw [Index.d_def, Index.d_def y]; rfl
@[simp] theorem Index.d_eqsl (x : Index) (cs : List D) (neg : Bool) (ks : List FK) (σ : Store) : eqsE neg ks x.d (.agg cs) σ = eqsR neg (eqCells ks [.str x.name, .str x.table, .list (x.cols.map .str), .bool x.unique] cs) σ := by rw [Index.d_def]; rfl
@[simp] theorem Index.d_eqsr (y : Index) (cs : List D) (neg : Bool) (ks : List FK) (σ : Store) : eqsE neg ks (.agg cs) y.d σ = eqsR neg (eqCells ks cs [.str y.name, .str y.table, .list (y.cols.map .str), .bool y.unique]) σ := by rw [Index.d_def]; rfl
@[simp] theorem Index.d_re (x : Index) (cs : List D) : reElem x.d cs = .agg cs := by rw [Index.d_def]; rfl
@[simp] theorem Index.d_okEl (x : Index) (n : Nat) : okEl n x.d = (decide (4 = n)) := by simp [okEl]
structure View where
  name : Str
  table : Str
  cols : List Str
  cond : List Xp
def View.d (x : View) : D := .agg [.str x.name, .str x.table, .list (x.cols.map .str), .list (x.cond.map Xp.d)]
theorem View.d_def (x : View) : x.d = .agg [.str x.name, .str x.table, .list (x.cols.map .str), .list (x.cond.map Xp.d)] := rfl
@[simp] theorem View.d_cells (x : View) : (D.cells x.d) = [.str x.name, .str x.table, .list (x.cols.map .str), .list (x.cond.map Xp.d)] := by rw [View.d_def]; rfl
@[simp] theorem View.d_fold (x : View) : D.agg [.str x.name, .str x.table, .list (x.cols.map .str), .list (x.cond.map Xp.d)] = x.d := (View.d_def x).symm
@[simp] theorem View.d_atom (x : View) : D.atom x.d = false := by rw [View.d_def]; rfl
theorem View.d_lts (n : Nat) (x : View) : D.ltL n [.str x.name, .str x.table, .list (x.cols.map .str), .list (x.cond.map Xp.d)] = true := by simp
@[simp] theorem View.d_lt (n : Nat) (x : View) : D.lt n x.d = true := by rw [View.d_def, lt_agg]; exact View.d_lts n x
@[simp] theorem View.d_frz (n : Nat) (σ : Store) (x : View) : frz (n + 2) σ x.d = some (x.d, σ) := by rw [View.d_def, frz_agg]; rfl
@[simp] theorem View.d_vw (n : Nat) (σ : Store) (x : View) : vw (n + 2) σ x.d = some x.d := by rw [View.d_def, vw_agg]; rfl
@[simp] theorem View.d_refs (x : View) : D.refs x.d = [] := (D.free_ren (fun _ => none) _ (View.d_lt 0 x)).1
@[simp] theorem View.d_ren (f : Nat → Option Nat) (x : View) : D.ren f x.d = some x.d := (D.free_ren f _ (View.d_lt 0 x)).2
@[simp] theorem View.d_bot (x : View) : D.isBot x.d = false := by rw [View.d_def]; rfl
@[simp] theorem View.d_field (x : View) (off : Nat) (g : Option Nat) : fieldE off g x.d = readCells g [.str x.name, .str x.table, .list (x.cols.map .str), .list (x.cond.map Xp.d)] off := by rw [View.d_def]; rfl
@[simp] theorem View.d_eqs (x y : View) (neg : Bool) (ks : List FK) (σ : Store) : eqsE neg ks x.d y.d σ = eqsR neg (eqCells ks [.str x.name, .str x.table, .list (x.cols.map .str), .list (x.cond.map Xp.d)] [.str y.name, .str y.table, .list (y.cols.map .str), .list (y.cond.map Xp.d)]) σ := by rw [View.d_def, View.d_def y]; rfl
@[simp] theorem View.d_eqsl (x : View) (cs : List D) (neg : Bool) (ks : List FK) (σ : Store) : eqsE neg ks x.d (.agg cs) σ = eqsR neg (eqCells ks [.str x.name, .str x.table, .list (x.cols.map .str), .list (x.cond.map Xp.d)] cs) σ := by rw [View.d_def]; rfl
@[simp] theorem View.d_eqsr (y : View) (cs : List D) (neg : Bool) (ks : List FK) (σ : Store) : eqsE neg ks (.agg cs) y.d σ = eqsR neg (eqCells ks cs [.str y.name, .str y.table, .list (y.cols.map .str), .list (y.cond.map Xp.d)]) σ := by rw [View.d_def]; rfl
@[simp] theorem View.d_re (x : View) (cs : List D) : reElem x.d cs = .agg cs := by rw [View.d_def]; rfl
@[simp] theorem View.d_okEl (x : View) (n : Nat) : okEl n x.d = (decide (4 = n)) := by simp [okEl]
structure Plan where
  enums : List Labels
  seqs : List Seq
  tables : List Table
  indexes : List Index
  views : List View
  next : Int
def Plan.d (x : Plan) : D := .agg [.list (x.enums.map Labels.d), .list (x.seqs.map Seq.d), .list (x.tables.map Table.d), .list (x.indexes.map Index.d), .list (x.views.map View.d), .int .i64 x.next]
theorem Plan.d_def (x : Plan) : x.d = .agg [.list (x.enums.map Labels.d), .list (x.seqs.map Seq.d), .list (x.tables.map Table.d), .list (x.indexes.map Index.d), .list (x.views.map View.d), .int .i64 x.next] := rfl
@[simp] theorem Plan.d_cells (x : Plan) : (D.cells x.d) = [.list (x.enums.map Labels.d), .list (x.seqs.map Seq.d), .list (x.tables.map Table.d), .list (x.indexes.map Index.d), .list (x.views.map View.d), .int .i64 x.next] := by rw [Plan.d_def]; rfl
@[simp] theorem Plan.d_fold (x : Plan) : D.agg [.list (x.enums.map Labels.d), .list (x.seqs.map Seq.d), .list (x.tables.map Table.d), .list (x.indexes.map Index.d), .list (x.views.map View.d), .int .i64 x.next] = x.d := (Plan.d_def x).symm
@[simp] theorem Plan.d_atom (x : Plan) : D.atom x.d = false := by rw [Plan.d_def]; rfl
theorem Plan.d_lts (n : Nat) (x : Plan) : D.ltL n [.list (x.enums.map Labels.d), .list (x.seqs.map Seq.d), .list (x.tables.map Table.d), .list (x.indexes.map Index.d), .list (x.views.map View.d), .int .i64 x.next] = true := by simp
@[simp] theorem Plan.d_lt (n : Nat) (x : Plan) : D.lt n x.d = true := by rw [Plan.d_def, lt_agg]; exact Plan.d_lts n x
@[simp] theorem Plan.d_frz (n : Nat) (σ : Store) (x : Plan) : frz (n + 2) σ x.d = some (x.d, σ) := by rw [Plan.d_def, frz_agg]; rfl
@[simp] theorem Plan.d_vw (n : Nat) (σ : Store) (x : Plan) : vw (n + 2) σ x.d = some x.d := by rw [Plan.d_def, vw_agg]; rfl
@[simp] theorem Plan.d_refs (x : Plan) : D.refs x.d = [] := (D.free_ren (fun _ => none) _ (Plan.d_lt 0 x)).1
@[simp] theorem Plan.d_ren (f : Nat → Option Nat) (x : Plan) : D.ren f x.d = some x.d := (D.free_ren f _ (Plan.d_lt 0 x)).2
@[simp] theorem Plan.d_bot (x : Plan) : D.isBot x.d = false := by rw [Plan.d_def]; rfl
@[simp] theorem Plan.d_field (x : Plan) (off : Nat) (g : Option Nat) : fieldE off g x.d = readCells g [.list (x.enums.map Labels.d), .list (x.seqs.map Seq.d), .list (x.tables.map Table.d), .list (x.indexes.map Index.d), .list (x.views.map View.d), .int .i64 x.next] off := by rw [Plan.d_def]; rfl
@[simp] theorem Plan.d_eqs (x y : Plan) (neg : Bool) (ks : List FK) (σ : Store) : eqsE neg ks x.d y.d σ = eqsR neg (eqCells ks [.list (x.enums.map Labels.d), .list (x.seqs.map Seq.d), .list (x.tables.map Table.d), .list (x.indexes.map Index.d), .list (x.views.map View.d), .int .i64 x.next] [.list (y.enums.map Labels.d), .list (y.seqs.map Seq.d), .list (y.tables.map Table.d), .list (y.indexes.map Index.d), .list (y.views.map View.d), .int .i64 y.next]) σ := by rw [Plan.d_def, Plan.d_def y]; rfl
@[simp] theorem Plan.d_eqsl (x : Plan) (cs : List D) (neg : Bool) (ks : List FK) (σ : Store) : eqsE neg ks x.d (.agg cs) σ = eqsR neg (eqCells ks [.list (x.enums.map Labels.d), .list (x.seqs.map Seq.d), .list (x.tables.map Table.d), .list (x.indexes.map Index.d), .list (x.views.map View.d), .int .i64 x.next] cs) σ := by rw [Plan.d_def]; rfl
@[simp] theorem Plan.d_eqsr (y : Plan) (cs : List D) (neg : Bool) (ks : List FK) (σ : Store) : eqsE neg ks (.agg cs) y.d σ = eqsR neg (eqCells ks cs [.list (y.enums.map Labels.d), .list (y.seqs.map Seq.d), .list (y.tables.map Table.d), .list (y.indexes.map Index.d), .list (y.views.map View.d), .int .i64 y.next]) σ := by rw [Plan.d_def]; rfl
@[simp] theorem Plan.d_re (x : Plan) (cs : List D) : reElem x.d cs = .agg cs := by rw [Plan.d_def]; rfl
@[simp] theorem Plan.d_okEl (x : Plan) (n : Nat) : okEl n x.d = (decide (6 = n)) := by simp [okEl]
structure Stmt where
  kind : Int
  name : Str
  on : Str
  list : List Str
  num : Int
  flag : Bool
  ty : Ty
  cols : List Col
  rules : List Rule
  exprs : List Xp
def Stmt.d (x : Stmt) : D := .agg [.int .i64 x.kind, .str x.name, .str x.on, .list (x.list.map .str), .int .i64 x.num, .bool x.flag, .int .i64 x.ty.kind, .int .i64 x.ty.len, .str x.ty.name, .list (x.cols.map Col.d), .list (x.rules.map Rule.d), .list (x.exprs.map Xp.d)]
theorem Stmt.d_def (x : Stmt) : x.d = .agg [.int .i64 x.kind, .str x.name, .str x.on, .list (x.list.map .str), .int .i64 x.num, .bool x.flag, .int .i64 x.ty.kind, .int .i64 x.ty.len, .str x.ty.name, .list (x.cols.map Col.d), .list (x.rules.map Rule.d), .list (x.exprs.map Xp.d)] := rfl
@[simp] theorem Stmt.d_cells (x : Stmt) : (D.cells x.d) = [.int .i64 x.kind, .str x.name, .str x.on, .list (x.list.map .str), .int .i64 x.num, .bool x.flag, .int .i64 x.ty.kind, .int .i64 x.ty.len, .str x.ty.name, .list (x.cols.map Col.d), .list (x.rules.map Rule.d), .list (x.exprs.map Xp.d)] := by rw [Stmt.d_def]; rfl
@[simp] theorem Stmt.d_fold (x : Stmt) : D.agg [.int .i64 x.kind, .str x.name, .str x.on, .list (x.list.map .str), .int .i64 x.num, .bool x.flag, .int .i64 x.ty.kind, .int .i64 x.ty.len, .str x.ty.name, .list (x.cols.map Col.d), .list (x.rules.map Rule.d), .list (x.exprs.map Xp.d)] = x.d := (Stmt.d_def x).symm
@[simp] theorem Stmt.d_atom (x : Stmt) : D.atom x.d = false := by rw [Stmt.d_def]; rfl
theorem Stmt.d_lts (n : Nat) (x : Stmt) : D.ltL n [.int .i64 x.kind, .str x.name, .str x.on, .list (x.list.map .str), .int .i64 x.num, .bool x.flag, .int .i64 x.ty.kind, .int .i64 x.ty.len, .str x.ty.name, .list (x.cols.map Col.d), .list (x.rules.map Rule.d), .list (x.exprs.map Xp.d)] = true := by simp
@[simp] theorem Stmt.d_lt (n : Nat) (x : Stmt) : D.lt n x.d = true := by rw [Stmt.d_def, lt_agg]; exact Stmt.d_lts n x
@[simp] theorem Stmt.d_frz (n : Nat) (σ : Store) (x : Stmt) : frz (n + 2) σ x.d = some (x.d, σ) := by rw [Stmt.d_def, frz_agg]; rfl
@[simp] theorem Stmt.d_vw (n : Nat) (σ : Store) (x : Stmt) : vw (n + 2) σ x.d = some x.d := by rw [Stmt.d_def, vw_agg]; rfl
@[simp] theorem Stmt.d_refs (x : Stmt) : D.refs x.d = [] := (D.free_ren (fun _ => none) _ (Stmt.d_lt 0 x)).1
@[simp] theorem Stmt.d_ren (f : Nat → Option Nat) (x : Stmt) : D.ren f x.d = some x.d := (D.free_ren f _ (Stmt.d_lt 0 x)).2
@[simp] theorem Stmt.d_bot (x : Stmt) : D.isBot x.d = false := by rw [Stmt.d_def]; rfl
@[simp] theorem Stmt.d_field (x : Stmt) (off : Nat) (g : Option Nat) : fieldE off g x.d = readCells g [.int .i64 x.kind, .str x.name, .str x.on, .list (x.list.map .str), .int .i64 x.num, .bool x.flag, .int .i64 x.ty.kind, .int .i64 x.ty.len, .str x.ty.name, .list (x.cols.map Col.d), .list (x.rules.map Rule.d), .list (x.exprs.map Xp.d)] off := by rw [Stmt.d_def]; rfl
@[simp] theorem Stmt.d_eqs (x y : Stmt) (neg : Bool) (ks : List FK) (σ : Store) : eqsE neg ks x.d y.d σ = eqsR neg (eqCells ks [.int .i64 x.kind, .str x.name, .str x.on, .list (x.list.map .str), .int .i64 x.num, .bool x.flag, .int .i64 x.ty.kind, .int .i64 x.ty.len, .str x.ty.name, .list (x.cols.map Col.d), .list (x.rules.map Rule.d), .list (x.exprs.map Xp.d)] [.int .i64 y.kind, .str y.name, .str y.on, .list (y.list.map .str), .int .i64 y.num, .bool y.flag, .int .i64 y.ty.kind, .int .i64 y.ty.len, .str y.ty.name, .list (y.cols.map Col.d), .list (y.rules.map Rule.d), .list (y.exprs.map Xp.d)]) σ := by rw [Stmt.d_def, Stmt.d_def y]; rfl
@[simp] theorem Stmt.d_eqsl (x : Stmt) (cs : List D) (neg : Bool) (ks : List FK) (σ : Store) : eqsE neg ks x.d (.agg cs) σ = eqsR neg (eqCells ks [.int .i64 x.kind, .str x.name, .str x.on, .list (x.list.map .str), .int .i64 x.num, .bool x.flag, .int .i64 x.ty.kind, .int .i64 x.ty.len, .str x.ty.name, .list (x.cols.map Col.d), .list (x.rules.map Rule.d), .list (x.exprs.map Xp.d)] cs) σ := by rw [Stmt.d_def]; rfl
@[simp] theorem Stmt.d_eqsr (y : Stmt) (cs : List D) (neg : Bool) (ks : List FK) (σ : Store) : eqsE neg ks (.agg cs) y.d σ = eqsR neg (eqCells ks cs [.int .i64 y.kind, .str y.name, .str y.on, .list (y.list.map .str), .int .i64 y.num, .bool y.flag, .int .i64 y.ty.kind, .int .i64 y.ty.len, .str y.ty.name, .list (y.cols.map Col.d), .list (y.rules.map Rule.d), .list (y.exprs.map Xp.d)]) σ := by rw [Stmt.d_def]; rfl
@[simp] theorem Stmt.d_re (x : Stmt) (cs : List D) : reElem x.d cs = .agg cs := by rw [Stmt.d_def]; rfl
@[simp] theorem Stmt.d_okEl (x : Stmt) (n : Nat) : okEl n x.d = (decide (12 = n)) := by simp [okEl]
structure Kept1 where
  name : Str
  bytes : Str
  deriving DecidableEq
def Kept1.d (x : Kept1) : D := .agg [.str x.name, .str x.bytes]
theorem Kept1.d_def (x : Kept1) : x.d = .agg [.str x.name, .str x.bytes] := rfl
@[simp] theorem Kept1.d_cells (x : Kept1) : (D.cells x.d) = [.str x.name, .str x.bytes] := by rw [Kept1.d_def]; rfl
@[simp] theorem Kept1.d_fold (x : Kept1) : D.agg [.str x.name, .str x.bytes] = x.d := (Kept1.d_def x).symm
@[simp] theorem Kept1.d_atom (x : Kept1) : D.atom x.d = false := by rw [Kept1.d_def]; rfl
theorem Kept1.d_lts (n : Nat) (x : Kept1) : D.ltL n [.str x.name, .str x.bytes] = true := by simp
@[simp] theorem Kept1.d_lt (n : Nat) (x : Kept1) : D.lt n x.d = true := by rw [Kept1.d_def, lt_agg]; exact Kept1.d_lts n x
@[simp] theorem Kept1.d_frz (n : Nat) (σ : Store) (x : Kept1) : frz (n + 2) σ x.d = some (x.d, σ) := by rw [Kept1.d_def, frz_agg]; rfl
@[simp] theorem Kept1.d_vw (n : Nat) (σ : Store) (x : Kept1) : vw (n + 2) σ x.d = some x.d := by rw [Kept1.d_def, vw_agg]; rfl
@[simp] theorem Kept1.d_refs (x : Kept1) : D.refs x.d = [] := (D.free_ren (fun _ => none) _ (Kept1.d_lt 0 x)).1
@[simp] theorem Kept1.d_ren (f : Nat → Option Nat) (x : Kept1) : D.ren f x.d = some x.d := (D.free_ren f _ (Kept1.d_lt 0 x)).2
@[simp] theorem Kept1.d_bot (x : Kept1) : D.isBot x.d = false := by rw [Kept1.d_def]; rfl
@[simp] theorem Kept1.d_field (x : Kept1) (off : Nat) (g : Option Nat) : fieldE off g x.d = readCells g [.str x.name, .str x.bytes] off := by rw [Kept1.d_def]; rfl
@[simp] theorem Kept1.d_eqs (x y : Kept1) (neg : Bool) (ks : List FK) (σ : Store) : eqsE neg ks x.d y.d σ = eqsR neg (eqCells ks [.str x.name, .str x.bytes] [.str y.name, .str y.bytes]) σ := by rw [Kept1.d_def, Kept1.d_def y]; rfl
@[simp] theorem Kept1.d_eqsl (x : Kept1) (cs : List D) (neg : Bool) (ks : List FK) (σ : Store) : eqsE neg ks x.d (.agg cs) σ = eqsR neg (eqCells ks [.str x.name, .str x.bytes] cs) σ := by rw [Kept1.d_def]; rfl
@[simp] theorem Kept1.d_eqsr (y : Kept1) (cs : List D) (neg : Bool) (ks : List FK) (σ : Store) : eqsE neg ks (.agg cs) y.d σ = eqsR neg (eqCells ks cs [.str y.name, .str y.bytes]) σ := by rw [Kept1.d_def]; rfl
@[simp] theorem Kept1.d_re (x : Kept1) (cs : List D) : reElem x.d cs = .agg cs := by rw [Kept1.d_def]; rfl
@[simp] theorem Kept1.d_okEl (x : Kept1) (n : Nat) : okEl n x.d = (decide (2 = n)) := by simp [okEl]
structure Desk where
  plan : Plan
  list : List Kept1
def Desk.d (x : Desk) : D := .agg [.list (x.plan.enums.map Labels.d), .list (x.plan.seqs.map Seq.d), .list (x.plan.tables.map Table.d), .list (x.plan.indexes.map Index.d), .list (x.plan.views.map View.d), .int .i64 x.plan.next, .list (x.list.map Kept1.d)]
theorem Desk.d_def (x : Desk) : x.d = .agg [.list (x.plan.enums.map Labels.d), .list (x.plan.seqs.map Seq.d), .list (x.plan.tables.map Table.d), .list (x.plan.indexes.map Index.d), .list (x.plan.views.map View.d), .int .i64 x.plan.next, .list (x.list.map Kept1.d)] := rfl
@[simp] theorem Desk.d_cells (x : Desk) : (D.cells x.d) = [.list (x.plan.enums.map Labels.d), .list (x.plan.seqs.map Seq.d), .list (x.plan.tables.map Table.d), .list (x.plan.indexes.map Index.d), .list (x.plan.views.map View.d), .int .i64 x.plan.next, .list (x.list.map Kept1.d)] := by rw [Desk.d_def]; rfl
@[simp] theorem Desk.d_fold (x : Desk) : D.agg [.list (x.plan.enums.map Labels.d), .list (x.plan.seqs.map Seq.d), .list (x.plan.tables.map Table.d), .list (x.plan.indexes.map Index.d), .list (x.plan.views.map View.d), .int .i64 x.plan.next, .list (x.list.map Kept1.d)] = x.d := (Desk.d_def x).symm
@[simp] theorem Desk.d_atom (x : Desk) : D.atom x.d = false := by rw [Desk.d_def]; rfl
theorem Desk.d_lts (n : Nat) (x : Desk) : D.ltL n [.list (x.plan.enums.map Labels.d), .list (x.plan.seqs.map Seq.d), .list (x.plan.tables.map Table.d), .list (x.plan.indexes.map Index.d), .list (x.plan.views.map View.d), .int .i64 x.plan.next, .list (x.list.map Kept1.d)] = true := by simp
@[simp] theorem Desk.d_lt (n : Nat) (x : Desk) : D.lt n x.d = true := by rw [Desk.d_def, lt_agg]; exact Desk.d_lts n x
@[simp] theorem Desk.d_frz (n : Nat) (σ : Store) (x : Desk) : frz (n + 2) σ x.d = some (x.d, σ) := by rw [Desk.d_def, frz_agg]; rfl
@[simp] theorem Desk.d_vw (n : Nat) (σ : Store) (x : Desk) : vw (n + 2) σ x.d = some x.d := by rw [Desk.d_def, vw_agg]; rfl
@[simp] theorem Desk.d_refs (x : Desk) : D.refs x.d = [] := (D.free_ren (fun _ => none) _ (Desk.d_lt 0 x)).1
@[simp] theorem Desk.d_ren (f : Nat → Option Nat) (x : Desk) : D.ren f x.d = some x.d := (D.free_ren f _ (Desk.d_lt 0 x)).2
@[simp] theorem Desk.d_bot (x : Desk) : D.isBot x.d = false := by rw [Desk.d_def]; rfl
@[simp] theorem Desk.d_field (x : Desk) (off : Nat) (g : Option Nat) : fieldE off g x.d = readCells g [.list (x.plan.enums.map Labels.d), .list (x.plan.seqs.map Seq.d), .list (x.plan.tables.map Table.d), .list (x.plan.indexes.map Index.d), .list (x.plan.views.map View.d), .int .i64 x.plan.next, .list (x.list.map Kept1.d)] off := by rw [Desk.d_def]; rfl
@[simp] theorem Desk.d_eqs (x y : Desk) (neg : Bool) (ks : List FK) (σ : Store) : eqsE neg ks x.d y.d σ = eqsR neg (eqCells ks [.list (x.plan.enums.map Labels.d), .list (x.plan.seqs.map Seq.d), .list (x.plan.tables.map Table.d), .list (x.plan.indexes.map Index.d), .list (x.plan.views.map View.d), .int .i64 x.plan.next, .list (x.list.map Kept1.d)] [.list (y.plan.enums.map Labels.d), .list (y.plan.seqs.map Seq.d), .list (y.plan.tables.map Table.d), .list (y.plan.indexes.map Index.d), .list (y.plan.views.map View.d), .int .i64 y.plan.next, .list (y.list.map Kept1.d)]) σ := by rw [Desk.d_def, Desk.d_def y]; rfl
@[simp] theorem Desk.d_eqsl (x : Desk) (cs : List D) (neg : Bool) (ks : List FK) (σ : Store) : eqsE neg ks x.d (.agg cs) σ = eqsR neg (eqCells ks [.list (x.plan.enums.map Labels.d), .list (x.plan.seqs.map Seq.d), .list (x.plan.tables.map Table.d), .list (x.plan.indexes.map Index.d), .list (x.plan.views.map View.d), .int .i64 x.plan.next, .list (x.list.map Kept1.d)] cs) σ := by rw [Desk.d_def]; rfl
@[simp] theorem Desk.d_eqsr (y : Desk) (cs : List D) (neg : Bool) (ks : List FK) (σ : Store) : eqsE neg ks (.agg cs) y.d σ = eqsR neg (eqCells ks cs [.list (y.plan.enums.map Labels.d), .list (y.plan.seqs.map Seq.d), .list (y.plan.tables.map Table.d), .list (y.plan.indexes.map Index.d), .list (y.plan.views.map View.d), .int .i64 y.plan.next, .list (y.list.map Kept1.d)]) σ := by rw [Desk.d_def]; rfl
@[simp] theorem Desk.d_re (x : Desk) (cs : List D) : reElem x.d cs = .agg cs := by rw [Desk.d_def]; rfl
@[simp] theorem Desk.d_okEl (x : Desk) (n : Nat) : okEl n x.d = (decide (7 = n)) := by simp [okEl]
structure Token where
  kind : Int
  text : Str
  at_ : Int
  deriving DecidableEq
def Token.d (x : Token) : D := .agg [.int .i64 x.kind, .str x.text, .int .i64 x.at_]
theorem Token.d_def (x : Token) : x.d = .agg [.int .i64 x.kind, .str x.text, .int .i64 x.at_] := rfl
@[simp] theorem Token.d_cells (x : Token) : (D.cells x.d) = [.int .i64 x.kind, .str x.text, .int .i64 x.at_] := by rw [Token.d_def]; rfl
@[simp] theorem Token.d_fold (x : Token) : D.agg [.int .i64 x.kind, .str x.text, .int .i64 x.at_] = x.d := (Token.d_def x).symm
@[simp] theorem Token.d_atom (x : Token) : D.atom x.d = false := by rw [Token.d_def]; rfl
theorem Token.d_lts (n : Nat) (x : Token) : D.ltL n [.int .i64 x.kind, .str x.text, .int .i64 x.at_] = true := by simp
@[simp] theorem Token.d_lt (n : Nat) (x : Token) : D.lt n x.d = true := by rw [Token.d_def, lt_agg]; exact Token.d_lts n x
@[simp] theorem Token.d_frz (n : Nat) (σ : Store) (x : Token) : frz (n + 2) σ x.d = some (x.d, σ) := by rw [Token.d_def, frz_agg]; rfl
@[simp] theorem Token.d_vw (n : Nat) (σ : Store) (x : Token) : vw (n + 2) σ x.d = some x.d := by rw [Token.d_def, vw_agg]; rfl
@[simp] theorem Token.d_refs (x : Token) : D.refs x.d = [] := (D.free_ren (fun _ => none) _ (Token.d_lt 0 x)).1
@[simp] theorem Token.d_ren (f : Nat → Option Nat) (x : Token) : D.ren f x.d = some x.d := (D.free_ren f _ (Token.d_lt 0 x)).2
@[simp] theorem Token.d_bot (x : Token) : D.isBot x.d = false := by rw [Token.d_def]; rfl
@[simp] theorem Token.d_field (x : Token) (off : Nat) (g : Option Nat) : fieldE off g x.d = readCells g [.int .i64 x.kind, .str x.text, .int .i64 x.at_] off := by rw [Token.d_def]; rfl
@[simp] theorem Token.d_eqs (x y : Token) (neg : Bool) (ks : List FK) (σ : Store) : eqsE neg ks x.d y.d σ = eqsR neg (eqCells ks [.int .i64 x.kind, .str x.text, .int .i64 x.at_] [.int .i64 y.kind, .str y.text, .int .i64 y.at_]) σ := by rw [Token.d_def, Token.d_def y]; rfl
@[simp] theorem Token.d_eqsl (x : Token) (cs : List D) (neg : Bool) (ks : List FK) (σ : Store) : eqsE neg ks x.d (.agg cs) σ = eqsR neg (eqCells ks [.int .i64 x.kind, .str x.text, .int .i64 x.at_] cs) σ := by rw [Token.d_def]; rfl
@[simp] theorem Token.d_eqsr (y : Token) (cs : List D) (neg : Bool) (ks : List FK) (σ : Store) : eqsE neg ks (.agg cs) y.d σ = eqsR neg (eqCells ks cs [.int .i64 y.kind, .str y.text, .int .i64 y.at_]) σ := by rw [Token.d_def]; rfl
@[simp] theorem Token.d_re (x : Token) (cs : List D) : reElem x.d cs = .agg cs := by rw [Token.d_def]; rfl
@[simp] theorem Token.d_okEl (x : Token) (n : Nat) : okEl n x.d = (decide (3 = n)) := by simp [okEl]
structure Val where
  kind : Int
  num : Int
  text : Str
  deriving DecidableEq
def Val.d (x : Val) : D := .agg [.int .i64 x.kind, .int .i64 x.num, .str x.text]
theorem Val.d_def (x : Val) : x.d = .agg [.int .i64 x.kind, .int .i64 x.num, .str x.text] := rfl
@[simp] theorem Val.d_cells (x : Val) : (D.cells x.d) = [.int .i64 x.kind, .int .i64 x.num, .str x.text] := by rw [Val.d_def]; rfl
@[simp] theorem Val.d_fold (x : Val) : D.agg [.int .i64 x.kind, .int .i64 x.num, .str x.text] = x.d := (Val.d_def x).symm
@[simp] theorem Val.d_atom (x : Val) : D.atom x.d = false := by rw [Val.d_def]; rfl
theorem Val.d_lts (n : Nat) (x : Val) : D.ltL n [.int .i64 x.kind, .int .i64 x.num, .str x.text] = true := by simp
@[simp] theorem Val.d_lt (n : Nat) (x : Val) : D.lt n x.d = true := by rw [Val.d_def, lt_agg]; exact Val.d_lts n x
@[simp] theorem Val.d_frz (n : Nat) (σ : Store) (x : Val) : frz (n + 2) σ x.d = some (x.d, σ) := by rw [Val.d_def, frz_agg]; rfl
@[simp] theorem Val.d_vw (n : Nat) (σ : Store) (x : Val) : vw (n + 2) σ x.d = some x.d := by rw [Val.d_def, vw_agg]; rfl
@[simp] theorem Val.d_refs (x : Val) : D.refs x.d = [] := (D.free_ren (fun _ => none) _ (Val.d_lt 0 x)).1
@[simp] theorem Val.d_ren (f : Nat → Option Nat) (x : Val) : D.ren f x.d = some x.d := (D.free_ren f _ (Val.d_lt 0 x)).2
@[simp] theorem Val.d_bot (x : Val) : D.isBot x.d = false := by rw [Val.d_def]; rfl
@[simp] theorem Val.d_field (x : Val) (off : Nat) (g : Option Nat) : fieldE off g x.d = readCells g [.int .i64 x.kind, .int .i64 x.num, .str x.text] off := by rw [Val.d_def]; rfl
@[simp] theorem Val.d_eqs (x y : Val) (neg : Bool) (ks : List FK) (σ : Store) : eqsE neg ks x.d y.d σ = eqsR neg (eqCells ks [.int .i64 x.kind, .int .i64 x.num, .str x.text] [.int .i64 y.kind, .int .i64 y.num, .str y.text]) σ := by rw [Val.d_def, Val.d_def y]; rfl
@[simp] theorem Val.d_eqsl (x : Val) (cs : List D) (neg : Bool) (ks : List FK) (σ : Store) : eqsE neg ks x.d (.agg cs) σ = eqsR neg (eqCells ks [.int .i64 x.kind, .int .i64 x.num, .str x.text] cs) σ := by rw [Val.d_def]; rfl
@[simp] theorem Val.d_eqsr (y : Val) (cs : List D) (neg : Bool) (ks : List FK) (σ : Store) : eqsE neg ks (.agg cs) y.d σ = eqsR neg (eqCells ks cs [.int .i64 y.kind, .int .i64 y.num, .str y.text]) σ := by rw [Val.d_def]; rfl
@[simp] theorem Val.d_re (x : Val) (cs : List D) : reElem x.d cs = .agg cs := by rw [Val.d_def]; rfl
@[simp] theorem Val.d_okEl (x : Val) (n : Nat) : okEl n x.d = (decide (3 = n)) := by simp [okEl]
structure Srt where
  kind : Int
  name : Str
  deriving DecidableEq
def Srt.d (x : Srt) : D := .agg [.int .i64 x.kind, .str x.name]
theorem Srt.d_def (x : Srt) : x.d = .agg [.int .i64 x.kind, .str x.name] := rfl
@[simp] theorem Srt.d_cells (x : Srt) : (D.cells x.d) = [.int .i64 x.kind, .str x.name] := by rw [Srt.d_def]; rfl
@[simp] theorem Srt.d_fold (x : Srt) : D.agg [.int .i64 x.kind, .str x.name] = x.d := (Srt.d_def x).symm
@[simp] theorem Srt.d_atom (x : Srt) : D.atom x.d = false := by rw [Srt.d_def]; rfl
theorem Srt.d_lts (n : Nat) (x : Srt) : D.ltL n [.int .i64 x.kind, .str x.name] = true := by simp
@[simp] theorem Srt.d_lt (n : Nat) (x : Srt) : D.lt n x.d = true := by rw [Srt.d_def, lt_agg]; exact Srt.d_lts n x
@[simp] theorem Srt.d_frz (n : Nat) (σ : Store) (x : Srt) : frz (n + 2) σ x.d = some (x.d, σ) := by rw [Srt.d_def, frz_agg]; rfl
@[simp] theorem Srt.d_vw (n : Nat) (σ : Store) (x : Srt) : vw (n + 2) σ x.d = some x.d := by rw [Srt.d_def, vw_agg]; rfl
@[simp] theorem Srt.d_refs (x : Srt) : D.refs x.d = [] := (D.free_ren (fun _ => none) _ (Srt.d_lt 0 x)).1
@[simp] theorem Srt.d_ren (f : Nat → Option Nat) (x : Srt) : D.ren f x.d = some x.d := (D.free_ren f _ (Srt.d_lt 0 x)).2
@[simp] theorem Srt.d_bot (x : Srt) : D.isBot x.d = false := by rw [Srt.d_def]; rfl
@[simp] theorem Srt.d_field (x : Srt) (off : Nat) (g : Option Nat) : fieldE off g x.d = readCells g [.int .i64 x.kind, .str x.name] off := by rw [Srt.d_def]; rfl
@[simp] theorem Srt.d_eqs (x y : Srt) (neg : Bool) (ks : List FK) (σ : Store) : eqsE neg ks x.d y.d σ = eqsR neg (eqCells ks [.int .i64 x.kind, .str x.name] [.int .i64 y.kind, .str y.name]) σ := by rw [Srt.d_def, Srt.d_def y]; rfl
@[simp] theorem Srt.d_eqsl (x : Srt) (cs : List D) (neg : Bool) (ks : List FK) (σ : Store) : eqsE neg ks x.d (.agg cs) σ = eqsR neg (eqCells ks [.int .i64 x.kind, .str x.name] cs) σ := by rw [Srt.d_def]; rfl
@[simp] theorem Srt.d_eqsr (y : Srt) (cs : List D) (neg : Bool) (ks : List FK) (σ : Store) : eqsE neg ks (.agg cs) y.d σ = eqsR neg (eqCells ks cs [.int .i64 y.kind, .str y.name]) σ := by rw [Srt.d_def]; rfl
@[simp] theorem Srt.d_re (x : Srt) (cs : List D) : reElem x.d cs = .agg cs := by rw [Srt.d_def]; rfl
@[simp] theorem Srt.d_okEl (x : Srt) (n : Nat) : okEl n x.d = (decide (2 = n)) := by simp [okEl]
end Go.DM
