/-
  NARROWER THAN 'FOR EVERY INPUT', by the rows' own cells (each row's printed sentence says how): FnExactStmtOk: loops.
  DERIVED. THE GIVEN ROWS OF THIS SEAT. 6 by the template 'for every input the law returns true; each argument reads behind the call as it read before'; 0 by the template 'total and deterministic' (their statements: YtimekmohoobndaaTotals.lean).
  GIVEN WITH THE SEED: the statements are not yours to turn. If you find one false, say at which input.
  Laid BY PROGRAM, IN A SANDBOX (cutbox-rows.mjs): the forced cells as the released guide's own fill.sh prints them over the translation 6e8d3be5e55beb65… (all of the seat's roots in one cut). By AI agents, Wed Nov 11 2026. No macro, syntax, notation, axiom, sorry.
-/
import Derived.Test.YtimekmohoobndaaChecked
import GoSem.Claim
import GoSem.ClaimJoined
import GoSem.ClaimMapViews
import Derived.JoinedTies
import Derived.KernelRfl
namespace Go.Proofs.Ytimekmohoobndaa
/- THE CELL 'sum', in the pinned program and in every row, IS THE sha256 OF THE DUMP (.gsa) THAT YtimekmohoobndaaProg.lean LOADS. Nothing in Lean hashes anything: it is a label: what it is worth is what the hold of that sum in a sandbox is worth. -/
noncomputable def Try.pinned : Pinned := { name := "ytimekmohoobndaa", sum := "6e8d3be5e55beb653dc5fec16de47d14dad11fbb6066b1fa89bb669491f82cd3", checked := Try.checked }
namespace Rows
def none {H : Type} : Left H := { results := [], args := [] }

/-- 'laws.FnExactCrc': WHATEVER THE INPUT: true; the input reads as it did. -/
def fnExactCrcSpec : ChangeSpec := { name := "fnExactCrc", fn := fun _ => fun
  | [d] => { results := [.lit (.bool true)], args := [d] }
  | _ => none }
def fnExactCrcRow : OpenClaim := { program := "ytimekmohoobndaa", sum := "6e8d3be5e55beb653dc5fec16de47d14dad11fbb6066b1fa89bb669491f82cd3", func := "loop.example/g00751/laws.FnExactCrc", spec := "fnExactCrc", apart := false }
def FnExactCrcSaid : Prop := fnExactCrcRow.holds Try.pinned (OpenSpec.ofChange fnExactCrcSpec)

/-- ITS FALSE NEIGHBOUR: 'it returns false'. Refute it at one input. -/
def fnExactCrcWrong : ChangeSpec := { name := "fnExactCrc", fn := fun _ => fun
  | [d] => { results := [.lit (.bool false)], args := [d] }
  | _ => none }
def FnExactCrcWrongFalsely : Prop := fnExactCrcRow.holds Try.pinned (OpenSpec.ofChange fnExactCrcWrong)

/-- 'laws.FnExactValueOk': WHATEVER THE INPUT: true; the input reads as it did. -/
def fnExactValueOkSpec : ChangeSpec := { name := "fnExactValueOk", fn := fun _ => fun
  | [d] => { results := [.lit (.bool true)], args := [d] }
  | _ => none }
def fnExactValueOkRow : OpenClaim := { program := "ytimekmohoobndaa", sum := "6e8d3be5e55beb653dc5fec16de47d14dad11fbb6066b1fa89bb669491f82cd3", func := "loop.example/g00751/laws.FnExactValueOk", spec := "fnExactValueOk", apart := false }
def FnExactValueOkSaid : Prop := fnExactValueOkRow.holds Try.pinned (OpenSpec.ofChange fnExactValueOkSpec)

/-- ITS FALSE NEIGHBOUR: 'it returns false'. Refute it at one input. -/
def fnExactValueOkWrong : ChangeSpec := { name := "fnExactValueOk", fn := fun _ => fun
  | [d] => { results := [.lit (.bool false)], args := [d] }
  | _ => none }
def FnExactValueOkWrongFalsely : Prop := fnExactValueOkRow.holds Try.pinned (OpenSpec.ofChange fnExactValueOkWrong)

/-- 'laws.FnExactWhole': WHATEVER THE INPUT: true; the input reads as it did. -/
def fnExactWholeSpec : ChangeSpec := { name := "fnExactWhole", fn := fun _ => fun
  | [d] => { results := [.lit (.bool true)], args := [d] }
  | _ => none }
def fnExactWholeRow : OpenClaim := { program := "ytimekmohoobndaa", sum := "6e8d3be5e55beb653dc5fec16de47d14dad11fbb6066b1fa89bb669491f82cd3", func := "loop.example/g00751/laws.FnExactWhole", spec := "fnExactWhole", apart := false }
def FnExactWholeSaid : Prop := fnExactWholeRow.holds Try.pinned (OpenSpec.ofChange fnExactWholeSpec)

/-- ITS FALSE NEIGHBOUR: 'it returns false'. Refute it at one input. -/
def fnExactWholeWrong : ChangeSpec := { name := "fnExactWhole", fn := fun _ => fun
  | [d] => { results := [.lit (.bool false)], args := [d] }
  | _ => none }
def FnExactWholeWrongFalsely : Prop := fnExactWholeRow.holds Try.pinned (OpenSpec.ofChange fnExactWholeWrong)

/-- 'laws.FnCrc': WHATEVER THE INPUT: true; the input reads as it did. -/
def fnCrcSpec : ChangeSpec := { name := "fnCrc", fn := fun _ => fun
  | [d] => { results := [.lit (.bool true)], args := [d] }
  | _ => none }
def fnCrcRow : OpenClaim := { program := "ytimekmohoobndaa", sum := "6e8d3be5e55beb653dc5fec16de47d14dad11fbb6066b1fa89bb669491f82cd3", func := "loop.example/g00751/laws.FnCrc", spec := "fnCrc", apart := false }
def FnCrcSaid : Prop := fnCrcRow.holds Try.pinned (OpenSpec.ofChange fnCrcSpec)

/-- ITS FALSE NEIGHBOUR: 'it returns false'. Refute it at one input. -/
def fnCrcWrong : ChangeSpec := { name := "fnCrc", fn := fun _ => fun
  | [d] => { results := [.lit (.bool false)], args := [d] }
  | _ => none }
def FnCrcWrongFalsely : Prop := fnCrcRow.holds Try.pinned (OpenSpec.ofChange fnCrcWrong)

/-- 'laws.FnHolds': WHATEVER THE INPUT: true; the input reads as it did. -/
def fnHoldsSpec : ChangeSpec := { name := "fnHolds", fn := fun _ => fun
  | [d] => { results := [.lit (.bool true)], args := [d] }
  | _ => none }
def fnHoldsRow : OpenClaim := { program := "ytimekmohoobndaa", sum := "6e8d3be5e55beb653dc5fec16de47d14dad11fbb6066b1fa89bb669491f82cd3", func := "loop.example/g00751/laws.FnHolds", spec := "fnHolds", inPlace := ["internal/bytealg.IndexByteString", "internal/bytealg.IndexString"], unfollowed := true, recurses := true, named := ["internal/bytealg.MaxLen"], apart := false }
def FnHoldsSaid : Prop := fnHoldsRow.holds Try.pinned (OpenSpec.ofChange fnHoldsSpec)

/-- ITS FALSE NEIGHBOUR: 'it returns false'. Refute it at one input. -/
def fnHoldsWrong : ChangeSpec := { name := "fnHolds", fn := fun _ => fun
  | [d] => { results := [.lit (.bool false)], args := [d] }
  | _ => none }
def FnHoldsWrongFalsely : Prop := fnHoldsRow.holds Try.pinned (OpenSpec.ofChange fnHoldsWrong)

/-- 'laws.FnExactStmtOk': WHATEVER THE INPUT: true; the input reads as it did. -/
def fnExactStmtOkSpec : ChangeSpec := { name := "fnExactStmtOk", fn := fun _ => fun
  | [d] => { results := [.lit (.bool true)], args := [d] }
  | _ => none }
def fnExactStmtOkRow : OpenClaim := { program := "ytimekmohoobndaa", sum := "6e8d3be5e55beb653dc5fec16de47d14dad11fbb6066b1fa89bb669491f82cd3", func := "loop.example/g00751/laws.FnExactStmtOk", spec := "fnExactStmtOk", inPlace := ["internal/bytealg.IndexByteString", "internal/bytealg.IndexString"], unfollowed := true, recurses := true, named := ["internal/bytealg.MaxLen"], loops := true, apart := false }
def FnExactStmtOkSaid : Prop := fnExactStmtOkRow.holds Try.pinned (OpenSpec.ofChange fnExactStmtOkSpec)

/-- ITS FALSE NEIGHBOUR: 'it returns false'. Refute it at one input. -/
def fnExactStmtOkWrong : ChangeSpec := { name := "fnExactStmtOk", fn := fun _ => fun
  | [d] => { results := [.lit (.bool false)], args := [d] }
  | _ => none }
def FnExactStmtOkWrongFalsely : Prop := fnExactStmtOkRow.holds Try.pinned (OpenSpec.ofChange fnExactStmtOkWrong)

/- THE SECOND FORM. 'bulk': how many values and letters a reading holds, each counted each time it is reached (what is shared counts as often as it is met; a slice's spare places count too). A statement '..UptoSaid' is the law's where the arguments, and the package variables that the reading takes, are together of bulk at most 1048576: NARROWER than '..Said'. Prove '..Said' where nothing that the law and all that it calls make is longer than what came in: it says more and counts as full. Else prove '..UptoSaid'. A law counts once. -/
mutual
def uptoBulk {H : Type} : DataW H → Nat
  | .lit (.string bytes) => bytes.length + 1
  | .lit _ => 1
  | .nil => 1
  | .ptr d => uptoBulk d + 1
  | .slice elems spare => uptoBulkAll elems + uptoBulkAll spare + 1
  | .agg parts => uptoBulkAll parts + 1
  | .iface _ d => uptoBulk d + 1
  | .map entries => uptoBulkEntries entries + 1
  | .held _ => 1
def uptoBulkAll {H : Type} : List (DataW H) → Nat
  | [] => 0
  | d :: r => uptoBulk d + uptoBulkAll r
def uptoBulkEntries {H : Type} : List (Lit × DataW H) → Nat
  | [] => 0
  | x :: r => uptoBulkEntry x + uptoBulkEntries r
def uptoBulkEntry {H : Type} : Lit × DataW H → Nat
  | (.string bytes, d) => bytes.length + uptoBulk d + 1
  | (_, d) => uptoBulk d + 1
 end
def uptoSmall : (H : Type) → List (DataW H) → Bool := fun _ ds => decide (uptoBulkAll ds ≤ 1048576)
def OpenSpec.upto (s : _root_.Go.ChangeSpec) : _root_.Go.OpenSpec := { _root_.Go.OpenSpec.ofChange s with cond := some uptoSmall }

/-- 'laws.FnExactCrc', WHERE WHAT IT READS IS OF BULK AT MOST 1048576: true; the input reads as it did. -/
def fnExactCrcUptoRow : OpenClaim := { program := "ytimekmohoobndaa", sum := "6e8d3be5e55beb653dc5fec16de47d14dad11fbb6066b1fa89bb669491f82cd3", func := "loop.example/g00751/laws.FnExactCrc", spec := "fnExactCrc", apart := false, narrowed := true }
def FnExactCrcUptoSaid : Prop := fnExactCrcUptoRow.holds Try.pinned (OpenSpec.upto fnExactCrcSpec)

/-- 'laws.FnExactValueOk', WHERE WHAT IT READS IS OF BULK AT MOST 1048576: true; the input reads as it did. -/
def fnExactValueOkUptoRow : OpenClaim := { program := "ytimekmohoobndaa", sum := "6e8d3be5e55beb653dc5fec16de47d14dad11fbb6066b1fa89bb669491f82cd3", func := "loop.example/g00751/laws.FnExactValueOk", spec := "fnExactValueOk", apart := false, narrowed := true }
def FnExactValueOkUptoSaid : Prop := fnExactValueOkUptoRow.holds Try.pinned (OpenSpec.upto fnExactValueOkSpec)

/-- 'laws.FnExactWhole', WHERE WHAT IT READS IS OF BULK AT MOST 1048576: true; the input reads as it did. -/
def fnExactWholeUptoRow : OpenClaim := { program := "ytimekmohoobndaa", sum := "6e8d3be5e55beb653dc5fec16de47d14dad11fbb6066b1fa89bb669491f82cd3", func := "loop.example/g00751/laws.FnExactWhole", spec := "fnExactWhole", apart := false, narrowed := true }
def FnExactWholeUptoSaid : Prop := fnExactWholeUptoRow.holds Try.pinned (OpenSpec.upto fnExactWholeSpec)

/-- 'laws.FnCrc', WHERE WHAT IT READS IS OF BULK AT MOST 1048576: true; the input reads as it did. -/
def fnCrcUptoRow : OpenClaim := { program := "ytimekmohoobndaa", sum := "6e8d3be5e55beb653dc5fec16de47d14dad11fbb6066b1fa89bb669491f82cd3", func := "loop.example/g00751/laws.FnCrc", spec := "fnCrc", apart := false, narrowed := true }
def FnCrcUptoSaid : Prop := fnCrcUptoRow.holds Try.pinned (OpenSpec.upto fnCrcSpec)

/-- 'laws.FnHolds', WHERE WHAT IT READS IS OF BULK AT MOST 1048576: true; the input reads as it did. -/
def fnHoldsUptoRow : OpenClaim := { program := "ytimekmohoobndaa", sum := "6e8d3be5e55beb653dc5fec16de47d14dad11fbb6066b1fa89bb669491f82cd3", func := "loop.example/g00751/laws.FnHolds", spec := "fnHolds", inPlace := ["internal/bytealg.IndexByteString", "internal/bytealg.IndexString"], unfollowed := true, recurses := true, named := ["internal/bytealg.MaxLen"], apart := false, narrowed := true }
def FnHoldsUptoSaid : Prop := fnHoldsUptoRow.holds Try.pinned (OpenSpec.upto fnHoldsSpec)

/-- 'laws.FnExactStmtOk', WHERE WHAT IT READS IS OF BULK AT MOST 1048576: true; the input reads as it did. -/
def fnExactStmtOkUptoRow : OpenClaim := { program := "ytimekmohoobndaa", sum := "6e8d3be5e55beb653dc5fec16de47d14dad11fbb6066b1fa89bb669491f82cd3", func := "loop.example/g00751/laws.FnExactStmtOk", spec := "fnExactStmtOk", inPlace := ["internal/bytealg.IndexByteString", "internal/bytealg.IndexString"], unfollowed := true, recurses := true, named := ["internal/bytealg.MaxLen"], loops := true, apart := false, narrowed := true }
def FnExactStmtOkUptoSaid : Prop := fnExactStmtOkUptoRow.holds Try.pinned (OpenSpec.upto fnExactStmtOkSpec)

end Rows
end Go.Proofs.Ytimekmohoobndaa
