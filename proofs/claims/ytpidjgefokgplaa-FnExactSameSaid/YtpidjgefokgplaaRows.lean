/-
  NARROWER THAN 'FOR EVERY INPUT', by the rows' own cells (each row's printed sentence says how): FnExactStmtOk: loops · FnExactSame: loops.
  DERIVED. THE GIVEN ROWS OF THIS SEAT. 4 by the template 'for every input the law returns true; each argument reads behind the call as it read before'; 0 by the template 'total and deterministic' (their statements: YtpidjgefokgplaaTotals.lean).
  GIVEN WITH THE SEED: the statements are not yours to turn. If you find one false, say at which input.
  Laid BY PROGRAM, IN A SANDBOX (cutbox-rows.mjs): the forced cells as the released guide's own fill.sh prints them over the translation e0f8c1913b22261f… (all of the seat's roots in one cut). By AI agents, Wed Nov 11 2026. No macro, syntax, notation, axiom, sorry.
-/
import Derived.Test.YtpidjgefokgplaaChecked
import GoSem.Claim
import GoSem.ClaimJoined
import GoSem.ClaimMapViews
import Derived.JoinedTies
import Derived.KernelRfl
namespace Go.Proofs.Ytpidjgefokgplaa
/- THE CELL 'sum', in the pinned program and in every row, IS THE sha256 OF THE DUMP (.gsa) THAT YtpidjgefokgplaaProg.lean LOADS. Nothing in Lean hashes anything: it is a label: what it is worth is what the hold of that sum in a sandbox is worth. -/
noncomputable def Try.pinned : Pinned := { name := "ytpidjgefokgplaa", sum := "e0f8c1913b22261f52a12d262fa1b3656b4289c08591e0c9343f8b4d20cf9af9", checked := Try.checked }
namespace Rows
def none {H : Type} : Left H := { results := [], args := [] }

/-- 'laws.FnExactWhole': WHATEVER THE INPUT: true; the input reads as it did. -/
def fnExactWholeSpec : ChangeSpec := { name := "fnExactWhole", fn := fun _ => fun
  | [d] => { results := [.lit (.bool true)], args := [d] }
  | _ => none }
def fnExactWholeRow : OpenClaim := { program := "ytpidjgefokgplaa", sum := "e0f8c1913b22261f52a12d262fa1b3656b4289c08591e0c9343f8b4d20cf9af9", func := "loop.example/g00751/laws.FnExactWhole", spec := "fnExactWhole", apart := false }
def FnExactWholeSaid : Prop := fnExactWholeRow.holds Try.pinned (OpenSpec.ofChange fnExactWholeSpec)

/-- ITS FALSE NEIGHBOUR: 'it returns false'. Refute it at one input. -/
def fnExactWholeWrong : ChangeSpec := { name := "fnExactWhole", fn := fun _ => fun
  | [d] => { results := [.lit (.bool false)], args := [d] }
  | _ => none }
def FnExactWholeWrongFalsely : Prop := fnExactWholeRow.holds Try.pinned (OpenSpec.ofChange fnExactWholeWrong)

/-- 'laws.FnExactStmtOk': WHATEVER THE INPUT: true; the input reads as it did. -/
def fnExactStmtOkSpec : ChangeSpec := { name := "fnExactStmtOk", fn := fun _ => fun
  | [d] => { results := [.lit (.bool true)], args := [d] }
  | _ => none }
def fnExactStmtOkRow : OpenClaim := { program := "ytpidjgefokgplaa", sum := "e0f8c1913b22261f52a12d262fa1b3656b4289c08591e0c9343f8b4d20cf9af9", func := "loop.example/g00751/laws.FnExactStmtOk", spec := "fnExactStmtOk", inPlace := ["internal/bytealg.IndexByteString", "internal/bytealg.IndexString"], unfollowed := true, recurses := true, named := ["internal/bytealg.MaxLen"], loops := true, apart := false }
def FnExactStmtOkSaid : Prop := fnExactStmtOkRow.holds Try.pinned (OpenSpec.ofChange fnExactStmtOkSpec)

/-- ITS FALSE NEIGHBOUR: 'it returns false'. Refute it at one input. -/
def fnExactStmtOkWrong : ChangeSpec := { name := "fnExactStmtOk", fn := fun _ => fun
  | [d] => { results := [.lit (.bool false)], args := [d] }
  | _ => none }
def FnExactStmtOkWrongFalsely : Prop := fnExactStmtOkRow.holds Try.pinned (OpenSpec.ofChange fnExactStmtOkWrong)

/-- 'laws.FnExactSame': WHATEVER THE INPUT: true; the input reads as it did. -/
def fnExactSameSpec : ChangeSpec := { name := "fnExactSame", fn := fun _ => fun
  | [d1, d2] => { results := [.lit (.bool true)], args := [d1, d2] }
  | _ => none }
def fnExactSameRow : OpenClaim := { program := "ytpidjgefokgplaa", sum := "e0f8c1913b22261f52a12d262fa1b3656b4289c08591e0c9343f8b4d20cf9af9", func := "loop.example/g00751/laws.FnExactSame", spec := "fnExactSame", unfollowed := true, recurses := true, loops := true, apart := false }
def FnExactSameSaid : Prop := fnExactSameRow.holds Try.pinned (OpenSpec.ofChange fnExactSameSpec)

/-- ITS FALSE NEIGHBOUR: 'it returns false'. Refute it at one input. -/
def fnExactSameWrong : ChangeSpec := { name := "fnExactSame", fn := fun _ => fun
  | [d1, d2] => { results := [.lit (.bool false)], args := [d1, d2] }
  | _ => none }
def FnExactSameWrongFalsely : Prop := fnExactSameRow.holds Try.pinned (OpenSpec.ofChange fnExactSameWrong)

/-- 'laws.FnHolds': WHATEVER THE INPUT: true; the input reads as it did. -/
def fnHoldsSpec : ChangeSpec := { name := "fnHolds", fn := fun _ => fun
  | [d] => { results := [.lit (.bool true)], args := [d] }
  | _ => none }
def fnHoldsRow : OpenClaim := { program := "ytpidjgefokgplaa", sum := "e0f8c1913b22261f52a12d262fa1b3656b4289c08591e0c9343f8b4d20cf9af9", func := "loop.example/g00751/laws.FnHolds", spec := "fnHolds", inPlace := ["internal/bytealg.IndexByteString", "internal/bytealg.IndexString"], unfollowed := true, recurses := true, named := ["internal/bytealg.MaxLen"], apart := false }
def FnHoldsSaid : Prop := fnHoldsRow.holds Try.pinned (OpenSpec.ofChange fnHoldsSpec)

/-- ITS FALSE NEIGHBOUR: 'it returns false'. Refute it at one input. -/
def fnHoldsWrong : ChangeSpec := { name := "fnHolds", fn := fun _ => fun
  | [d] => { results := [.lit (.bool false)], args := [d] }
  | _ => none }
def FnHoldsWrongFalsely : Prop := fnHoldsRow.holds Try.pinned (OpenSpec.ofChange fnHoldsWrong)

/- THE SECOND FORM. 'bulk': how many values and letters a reading holds, each counted each time it is reached (what is shared counts as often as it is met; a slice's spare places count too). A statement '..UptoSaid' is the law's where the arguments, and the package variables that the reading takes, are together of bulk at most 1048576: NARROWER than '..Said'. Prove '..Said' where nothing that the law and all that it calls make is longer than what came in: it says more and counts as full. Else prove '..UptoSaid'. A law counts once. -/
mutual
def uptoBulk {H : Type} : DataW H → Nat
  | .lit (.string bytes) => bytes.length + 1
  | .lit _ => 1
  | .nil => 1
  | .ptr d => uptoBulk d + 1
  | .slice elems spare => uptoBulkAll elems + uptoBulkAll spare + 1
  | .agg parts => uptoBulkAll parts + 1
  | .iface _ d => uptoBulk d + 1
  | .map entries => uptoBulkEntries entries + 1
  | .held _ => 1
def uptoBulkAll {H : Type} : List (DataW H) → Nat
  | [] => 0
  | d :: r => uptoBulk d + uptoBulkAll r
def uptoBulkEntries {H : Type} : List (Lit × DataW H) → Nat
  | [] => 0
  | x :: r => uptoBulkEntry x + uptoBulkEntries r
def uptoBulkEntry {H : Type} : Lit × DataW H → Nat
  | (.string bytes, d) => bytes.length + uptoBulk d + 1
  | (_, d) => uptoBulk d + 1
 end
def uptoSmall : (H : Type) → List (DataW H) → Bool := fun _ ds => decide (uptoBulkAll ds ≤ 1048576)
def OpenSpec.upto (s : _root_.Go.ChangeSpec) : _root_.Go.OpenSpec := { _root_.Go.OpenSpec.ofChange s with cond := some uptoSmall }

/-- 'laws.FnExactWhole', WHERE WHAT IT READS IS OF BULK AT MOST 1048576: true; the input reads as it did. -/
def fnExactWholeUptoRow : OpenClaim := { program := "ytpidjgefokgplaa", sum := "e0f8c1913b22261f52a12d262fa1b3656b4289c08591e0c9343f8b4d20cf9af9", func := "loop.example/g00751/laws.FnExactWhole", spec := "fnExactWhole", apart := false, narrowed := true }
def FnExactWholeUptoSaid : Prop := fnExactWholeUptoRow.holds Try.pinned (OpenSpec.upto fnExactWholeSpec)

/-- 'laws.FnExactStmtOk', WHERE WHAT IT READS IS OF BULK AT MOST 1048576: true; the input reads as it did. -/
def fnExactStmtOkUptoRow : OpenClaim := { program := "ytpidjgefokgplaa", sum := "e0f8c1913b22261f52a12d262fa1b3656b4289c08591e0c9343f8b4d20cf9af9", func := "loop.example/g00751/laws.FnExactStmtOk", spec := "fnExactStmtOk", inPlace := ["internal/bytealg.IndexByteString", "internal/bytealg.IndexString"], unfollowed := true, recurses := true, named := ["internal/bytealg.MaxLen"], loops := true, apart := false, narrowed := true }
def FnExactStmtOkUptoSaid : Prop := fnExactStmtOkUptoRow.holds Try.pinned (OpenSpec.upto fnExactStmtOkSpec)

/-- 'laws.FnExactSame', WHERE WHAT IT READS IS OF BULK AT MOST 1048576: true; the input reads as it did. -/
def fnExactSameUptoRow : OpenClaim := { program := "ytpidjgefokgplaa", sum := "e0f8c1913b22261f52a12d262fa1b3656b4289c08591e0c9343f8b4d20cf9af9", func := "loop.example/g00751/laws.FnExactSame", spec := "fnExactSame", unfollowed := true, recurses := true, loops := true, apart := false, narrowed := true }
def FnExactSameUptoSaid : Prop := fnExactSameUptoRow.holds Try.pinned (OpenSpec.upto fnExactSameSpec)

/-- 'laws.FnHolds', WHERE WHAT IT READS IS OF BULK AT MOST 1048576: true; the input reads as it did. -/
def fnHoldsUptoRow : OpenClaim := { program := "ytpidjgefokgplaa", sum := "e0f8c1913b22261f52a12d262fa1b3656b4289c08591e0c9343f8b4d20cf9af9", func := "loop.example/g00751/laws.FnHolds", spec := "fnHolds", inPlace := ["internal/bytealg.IndexByteString", "internal/bytealg.IndexString"], unfollowed := true, recurses := true, named := ["internal/bytealg.MaxLen"], apart := false, narrowed := true }
def FnHoldsUptoSaid : Prop := fnHoldsUptoRow.holds Try.pinned (OpenSpec.upto fnHoldsSpec)

end Rows
end Go.Proofs.Ytpidjgefokgplaa
