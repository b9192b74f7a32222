/- What an argument reads as, as the program's structs. -/
import Derived.Test.YtpidjgefokgplaaEnter
import Derived.Test.YtpidjgefokgplaaData
set_option linter.unnecessarySimpa false
set_option linter.unusedVariables false
set_option linter.unusedSimpArgs false
set_option linter.unusedSectionVars false
namespace Go.DM
open Go
def I64 (i : Int) : Prop := -9223372036854775808 ≤ i ∧ i ≤ 9223372036854775807
def StrOk (s : Str) : Prop := s.length ≤ 9223372036854775807
def LOk {α : Type} (p : α → Prop) (l : List α) : Prop := l.length ≤ 9223372036854775807 ∧ ∀ x ∈ l, p x
inductive Xp.Ok : Xp → Prop
  | mk {k : Int} {t : Str} {n : Int} {ks : List Xp} (h1 : I64 k) (h2 : StrOk t) (h3 : I64 n) (h4 : ks.length ≤ 9223372036854775807) (h5 : ∀ e ∈ ks, Xp.Ok e) : Xp.Ok (.mk k t n ks)
theorem Xp.Ok.kids {e : Xp} (h : Xp.Ok e) : LOk Xp.Ok e.kids := by cases h with | mk h1 h2 h3 h4 h5 => exact ⟨h4, h5⟩
theorem Xp.Ok.kind {e : Xp} (h : Xp.Ok e) : I64 e.kind := by cases h with | mk h1 h2 h3 h4 h5 => exact h1
theorem Xp.Ok.text {e : Xp} (h : Xp.Ok e) : StrOk e.text := by cases h with | mk h1 h2 h3 h4 h5 => exact h2
theorem Xp.Ok.num {e : Xp} (h : Xp.Ok e) : I64 e.num := by cases h with | mk h1 h2 h3 h4 h5 => exact h3
structure Ty.Ok (x : Ty) : Prop where
  kind : I64 x.kind
  len : I64 x.len
  name : StrOk x.name
structure Col.Ok (x : Col) : Prop where
  name : StrOk x.name
  ty : Ty.Ok x.ty
  dflt : LOk Xp.Ok x.dflt
structure Labels.Ok (x : Labels) : Prop where
  name : StrOk x.name
  list : LOk StrOk x.list
structure Seq.Ok (x : Seq) : Prop where
  name : StrOk x.name
  start : I64 x.start
structure Rule.Ok (x : Rule) : Prop where
  name : StrOk x.name
  kind : I64 x.kind
  cols : LOk StrOk x.cols
  expr : LOk Xp.Ok x.expr
  table : StrOk x.table
  to : LOk StrOk x.to
structure Table.Ok (x : Table) : Prop where
  name : StrOk x.name
  cols : LOk Col.Ok x.cols
  rules : LOk Rule.Ok x.rules
  token : I64 x.token
structure Index.Ok (x : Index) : Prop where
  name : StrOk x.name
  table : StrOk x.table
  cols : LOk StrOk x.cols
structure View.Ok (x : View) : Prop where
  name : StrOk x.name
  table : StrOk x.table
  cols : LOk StrOk x.cols
  cond : LOk Xp.Ok x.cond
structure Plan.Ok (x : Plan) : Prop where
  enums : LOk Labels.Ok x.enums
  seqs : LOk Seq.Ok x.seqs
  tables : LOk Table.Ok x.tables
  indexes : LOk Index.Ok x.indexes
  views : LOk View.Ok x.views
  next : I64 x.next
structure Stmt.Ok (x : Stmt) : Prop where
  kind : I64 x.kind
  name : StrOk x.name
  on : StrOk x.on
  list : LOk StrOk x.list
  num : I64 x.num
  ty : Ty.Ok x.ty
  cols : LOk Col.Ok x.cols
  rules : LOk Rule.Ok x.rules
  exprs : LOk Xp.Ok x.exprs
structure Kept1.Ok (x : Kept1) : Prop where
  name : StrOk x.name
  bytes : StrOk x.bytes
structure Desk.Ok (x : Desk) : Prop where
  plan : Plan.Ok x.plan
  list : LOk Kept1.Ok x.list
structure Token.Ok (x : Token) : Prop where
  kind : I64 x.kind
  text : StrOk x.text
  at_ : I64 x.at_
structure Val.Ok (x : Val) : Prop where
  kind : I64 x.kind
  num : I64 x.num
  text : StrOk x.text
structure Srt.Ok (x : Srt) : Prop where
  kind : I64 x.kind
  name : StrOk x.name

section
variable {P : Program}
theorem maxLen_eq : maxLen = 9223372036854775807 := by decide
theorem ent_int {n : Nat} {t : TypeId} {cs : List D} (hu : P.underlying t = some (.int .i64)) (h : HasT P n t cs) : ∃ i, cs = [.int .i64 i] ∧ I64 i := by
  cases n with
  | zero => exact h.elim
  | succ n =>
    simp only [HasT, hu] at h
    obtain ⟨i, rfl, hi⟩ := h
    refine ⟨i, rfl, ?_⟩
    simp [Lit.wf, IntKind.min, IntKind.max, IntKind.bits, IntKind.signed] at hi
    unfold I64
    omega
theorem ent_bool {n : Nat} {t : TypeId} {cs : List D} (hu : P.underlying t = some .bool) (h : HasT P n t cs) : ∃ i, cs = [.bool i] := by
  cases n with
  | zero => exact h.elim
  | succ n =>
    simp only [HasT, hu] at h
    exact h
theorem ent_str {n : Nat} {t : TypeId} {cs : List D} (hu : P.underlying t = some .string) (h : HasT P n t cs) : ∃ s : Str, cs = [.str s] ∧ StrOk s := by
  cases n with
  | zero => exact h.elim
  | succ n =>
    simp only [HasT, hu] at h
    obtain ⟨s, rfl, hs⟩ := h
    exact ⟨s, rfl, by rw [maxLen_eq] at hs; exact hs⟩
theorem ent_els {α : Type} {d : α → D} {ok : α → Prop} {e : TypeId} {n : Nat} (hE : ∀ xs, HasT P n e xs → ∃ x, mkEl P e xs = d x ∧ ok x) : ∀ (xss : List (List D)), (∀ x ∈ xss, HasT P n e x) → ∃ l : List α, xss.map (mkEl P e) = l.map d ∧ l.length = xss.length ∧ ∀ x ∈ l, ok x
  | [], _ => ⟨[], rfl, rfl, by simp⟩
  | xs :: xss, h => by
    obtain ⟨x, h1, h2⟩ := hE xs (h xs (by simp))
    obtain ⟨l, h3, h4, h5⟩ := ent_els hE xss fun y hy => h y (by simp [hy])
    refine ⟨x :: l, by simp [h1, h3], by simp [h4], fun y hy => ?_⟩
    rcases List.mem_cons.1 hy with rfl | hy
    · exact h2
    · exact h5 y hy
theorem ent_sl {α : Type} {d : α → D} {ok : α → Prop} {n : Nat} {t e : TypeId} {cs : List D} (hu : P.underlying t = some (.slice e)) (hE : ∀ m xs, m < n → HasT P m e xs → ∃ x, mkEl P e xs = d x ∧ ok x) (h : HasT P n t cs) : ∃ l : List α, cs = [.list (l.map d)] ∧ LOk ok l := by
  cases n with
  | zero => exact h.elim
  | succ n =>
    simp only [HasT, hu] at h
    obtain ⟨xss, rfl, hl, hx⟩ := h
    obtain ⟨l, h1, h2, h3⟩ := ent_els (fun xs => hE n xs (by omega)) xss hx
    rw [maxLen_eq] at hl
    exact ⟨l, by rw [h1], by rw [h2]; exact hl, h3⟩
theorem mk_agg {e : TypeId} {fs : Array Field} (hu : P.underlying e = some (.struct fs)) (cs : List D) : mkEl P e cs = .agg cs := by simp [mkEl, hu]
theorem mk_one {e : TypeId} {d : D} (hu : ∀ fs, P.underlying e ≠ some (.struct fs)) : mkEl P e [d] = d := by
  unfold mkEl
  split
  · rename_i fs h; exact absurd h (hu fs)
  · rfl
theorem ent_elS {e : TypeId} (hu : P.underlying e = some .string) : ∀ m xs, HasT P m e xs → ∃ x : Str, mkEl P e xs = D.str x ∧ StrOk x := fun m xs h => by
  obtain ⟨s, rfl, hs⟩ := ent_str hu h
  exact ⟨s, mk_one (by rw [hu]; intro fs q; cases q), hs⟩
end
end Go.DM
