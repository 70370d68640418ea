/-
  No cell of these rows narrows 'for every input' (looked for: loops, veiled, ifaces, maps, wideKeys, modest, calm, conditions, laid).
  DERIVED. THE GIVEN ROWS OF THIS SEAT. 6 by the template 'for every input the law returns true; each argument reads behind the call as it read before'; 0 by the template 'total and deterministic' (their statements: YtbcmpgagceomgaaTotals.lean).
  GIVEN WITH THE SEED: the statements are not yours to turn. If you find one false, say at which input.
  Laid BY PROGRAM, IN A SANDBOX (cutbox-rows.mjs): the forced cells as the released guide's own fill.sh prints them over the translation a55624bf1ef6da69… (all of the seat's roots in one cut). By AI agents, Wed Nov 11 2026. No macro, syntax, notation, axiom, sorry.
-/
import Derived.Test.YtbcmpgagceomgaaChecked
import GoSem.Claim
import GoSem.ClaimJoined
import GoSem.ClaimMapViews
import Derived.JoinedTies
import Derived.KernelRfl
namespace Go.Proofs.Ytbcmpgagceomgaa
/- THE CELL 'sum', in the pinned program and in every row, IS THE sha256 OF THE DUMP (.gsa) THAT YtbcmpgagceomgaaProg.lean LOADS. Nothing in Lean hashes anything: it is a label: what it is worth is what the hold of that sum in a sandbox is worth. -/
noncomputable def Try.pinned : Pinned := { name := "ytbcmpgagceomgaa", sum := "a55624bf1ef6da696879829f1a9033d7db82dbc1fbbd3051cb74a3b78f8a72e4", checked := Try.checked }
namespace Rows
def none {H : Type} : Left H := { results := [], args := [] }

/-- 'laws.FnExactShiftPoly': WHATEVER THE INPUT: true; the input reads as it did. -/
def fnExactShiftPolySpec : ChangeSpec := { name := "fnExactShiftPoly", fn := fun _ => fun
  | [d1, d2] => { results := [.lit (.bool true)], args := [d1, d2] }
  | _ => none }
def fnExactShiftPolyRow : OpenClaim := { program := "ytbcmpgagceomgaa", sum := "a55624bf1ef6da696879829f1a9033d7db82dbc1fbbd3051cb74a3b78f8a72e4", func := "loop.example/differenceengine/laws.FnExactShiftPoly", spec := "fnExactShiftPoly", apart := false }
def FnExactShiftPolySaid : Prop := fnExactShiftPolyRow.holds Try.pinned (OpenSpec.ofChange fnExactShiftPolySpec)

/-- ITS FALSE NEIGHBOUR: 'it returns false'. Refute it at one input. -/
def fnExactShiftPolyWrong : ChangeSpec := { name := "fnExactShiftPoly", fn := fun _ => fun
  | [d1, d2] => { results := [.lit (.bool false)], args := [d1, d2] }
  | _ => none }
def FnExactShiftPolyWrongFalsely : Prop := fnExactShiftPolyRow.holds Try.pinned (OpenSpec.ofChange fnExactShiftPolyWrong)

/-- 'laws.FnExactDiffTable': WHATEVER THE INPUT: true; the input reads as it did. -/
def fnExactDiffTableSpec : ChangeSpec := { name := "fnExactDiffTable", fn := fun _ => fun
  | [d] => { results := [.lit (.bool true)], args := [d] }
  | _ => none }
def fnExactDiffTableRow : OpenClaim := { program := "ytbcmpgagceomgaa", sum := "a55624bf1ef6da696879829f1a9033d7db82dbc1fbbd3051cb74a3b78f8a72e4", func := "loop.example/differenceengine/laws.FnExactDiffTable", spec := "fnExactDiffTable", apart := false }
def FnExactDiffTableSaid : Prop := fnExactDiffTableRow.holds Try.pinned (OpenSpec.ofChange fnExactDiffTableSpec)

/-- ITS FALSE NEIGHBOUR: 'it returns false'. Refute it at one input. -/
def fnExactDiffTableWrong : ChangeSpec := { name := "fnExactDiffTable", fn := fun _ => fun
  | [d] => { results := [.lit (.bool false)], args := [d] }
  | _ => none }
def FnExactDiffTableWrongFalsely : Prop := fnExactDiffTableRow.holds Try.pinned (OpenSpec.ofChange fnExactDiffTableWrong)

/-- 'laws.FnExactMulPolys': WHATEVER THE INPUT: true; the input reads as it did. -/
def fnExactMulPolysSpec : ChangeSpec := { name := "fnExactMulPolys", fn := fun _ => fun
  | [d1, d2] => { results := [.lit (.bool true)], args := [d1, d2] }
  | _ => none }
def fnExactMulPolysRow : OpenClaim := { program := "ytbcmpgagceomgaa", sum := "a55624bf1ef6da696879829f1a9033d7db82dbc1fbbd3051cb74a3b78f8a72e4", func := "loop.example/differenceengine/laws.FnExactMulPolys", spec := "fnExactMulPolys", apart := false }
def FnExactMulPolysSaid : Prop := fnExactMulPolysRow.holds Try.pinned (OpenSpec.ofChange fnExactMulPolysSpec)

/-- ITS FALSE NEIGHBOUR: 'it returns false'. Refute it at one input. -/
def fnExactMulPolysWrong : ChangeSpec := { name := "fnExactMulPolys", fn := fun _ => fun
  | [d1, d2] => { results := [.lit (.bool false)], args := [d1, d2] }
  | _ => none }
def FnExactMulPolysWrongFalsely : Prop := fnExactMulPolysRow.holds Try.pinned (OpenSpec.ofChange fnExactMulPolysWrong)

/-- 'laws.FnBinomialPascal': WHATEVER THE INPUT: true; the input reads as it did. -/
def fnBinomialPascalSpec : ChangeSpec := { name := "fnBinomialPascal", fn := fun _ => fun
  | [d] => { results := [.lit (.bool true)], args := [d] }
  | _ => none }
def fnBinomialPascalRow : OpenClaim := { program := "ytbcmpgagceomgaa", sum := "a55624bf1ef6da696879829f1a9033d7db82dbc1fbbd3051cb74a3b78f8a72e4", func := "loop.example/differenceengine/laws.FnBinomialPascal", spec := "fnBinomialPascal", apart := false }
def FnBinomialPascalSaid : Prop := fnBinomialPascalRow.holds Try.pinned (OpenSpec.ofChange fnBinomialPascalSpec)

/-- ITS FALSE NEIGHBOUR: 'it returns false'. Refute it at one input. -/
def fnBinomialPascalWrong : ChangeSpec := { name := "fnBinomialPascal", fn := fun _ => fun
  | [d] => { results := [.lit (.bool false)], args := [d] }
  | _ => none }
def FnBinomialPascalWrongFalsely : Prop := fnBinomialPascalRow.holds Try.pinned (OpenSpec.ofChange fnBinomialPascalWrong)

/-- 'laws.FnBinomialTurned': WHATEVER THE INPUT: true; the input reads as it did. -/
def fnBinomialTurnedSpec : ChangeSpec := { name := "fnBinomialTurned", fn := fun _ => fun
  | [d] => { results := [.lit (.bool true)], args := [d] }
  | _ => none }
def fnBinomialTurnedRow : OpenClaim := { program := "ytbcmpgagceomgaa", sum := "a55624bf1ef6da696879829f1a9033d7db82dbc1fbbd3051cb74a3b78f8a72e4", func := "loop.example/differenceengine/laws.FnBinomialTurned", spec := "fnBinomialTurned", apart := false }
def FnBinomialTurnedSaid : Prop := fnBinomialTurnedRow.holds Try.pinned (OpenSpec.ofChange fnBinomialTurnedSpec)

/-- ITS FALSE NEIGHBOUR: 'it returns false'. Refute it at one input. -/
def fnBinomialTurnedWrong : ChangeSpec := { name := "fnBinomialTurned", fn := fun _ => fun
  | [d] => { results := [.lit (.bool false)], args := [d] }
  | _ => none }
def FnBinomialTurnedWrongFalsely : Prop := fnBinomialTurnedRow.holds Try.pinned (OpenSpec.ofChange fnBinomialTurnedWrong)

/-- 'laws.FnEvalDifference': WHATEVER THE INPUT: true; the input reads as it did. -/
def fnEvalDifferenceSpec : ChangeSpec := { name := "fnEvalDifference", fn := fun _ => fun
  | [d] => { results := [.lit (.bool true)], args := [d] }
  | _ => none }
def fnEvalDifferenceRow : OpenClaim := { program := "ytbcmpgagceomgaa", sum := "a55624bf1ef6da696879829f1a9033d7db82dbc1fbbd3051cb74a3b78f8a72e4", func := "loop.example/differenceengine/laws.FnEvalDifference", spec := "fnEvalDifference", apart := false }
def FnEvalDifferenceSaid : Prop := fnEvalDifferenceRow.holds Try.pinned (OpenSpec.ofChange fnEvalDifferenceSpec)

/-- ITS FALSE NEIGHBOUR: 'it returns false'. Refute it at one input. -/
def fnEvalDifferenceWrong : ChangeSpec := { name := "fnEvalDifference", fn := fun _ => fun
  | [d] => { results := [.lit (.bool false)], args := [d] }
  | _ => none }
def FnEvalDifferenceWrongFalsely : Prop := fnEvalDifferenceRow.holds Try.pinned (OpenSpec.ofChange fnEvalDifferenceWrong)

/- THE SECOND FORM. 'bulk': how many values and letters a reading holds, each counted each time it is reached (what is shared counts as often as it is met; a slice's spare places count too). A statement '..UptoSaid' is the law's where the arguments, and the package variables that the reading takes, are together of bulk at most 1048576: NARROWER than '..Said'. Prove '..Said' where nothing that the law and all that it calls make is longer than what came in: it says more and counts as full. Else prove '..UptoSaid'. A law counts once. -/
mutual
def uptoBulk {H : Type} : DataW H → Nat
  | .lit (.string bytes) => bytes.length + 1
  | .lit _ => 1
  | .nil => 1
  | .ptr d => uptoBulk d + 1
  | .slice elems spare => uptoBulkAll elems + uptoBulkAll spare + 1
  | .agg parts => uptoBulkAll parts + 1
  | .iface _ d => uptoBulk d + 1
  | .map entries => uptoBulkEntries entries + 1
  | .held _ => 1
def uptoBulkAll {H : Type} : List (DataW H) → Nat
  | [] => 0
  | d :: r => uptoBulk d + uptoBulkAll r
def uptoBulkEntries {H : Type} : List (Lit × DataW H) → Nat
  | [] => 0
  | x :: r => uptoBulkEntry x + uptoBulkEntries r
def uptoBulkEntry {H : Type} : Lit × DataW H → Nat
  | (.string bytes, d) => bytes.length + uptoBulk d + 1
  | (_, d) => uptoBulk d + 1
 end
def uptoSmall : (H : Type) → List (DataW H) → Bool := fun _ ds => decide (uptoBulkAll ds ≤ 1048576)
def OpenSpec.upto (s : _root_.Go.ChangeSpec) : _root_.Go.OpenSpec := { _root_.Go.OpenSpec.ofChange s with cond := some uptoSmall }

/-- 'laws.FnExactShiftPoly', WHERE WHAT IT READS IS OF BULK AT MOST 1048576: true; the input reads as it did. -/
def fnExactShiftPolyUptoRow : OpenClaim := { program := "ytbcmpgagceomgaa", sum := "a55624bf1ef6da696879829f1a9033d7db82dbc1fbbd3051cb74a3b78f8a72e4", func := "loop.example/differenceengine/laws.FnExactShiftPoly", spec := "fnExactShiftPoly", apart := false, narrowed := true }
def FnExactShiftPolyUptoSaid : Prop := fnExactShiftPolyUptoRow.holds Try.pinned (OpenSpec.upto fnExactShiftPolySpec)

/-- 'laws.FnExactDiffTable', WHERE WHAT IT READS IS OF BULK AT MOST 1048576: true; the input reads as it did. -/
def fnExactDiffTableUptoRow : OpenClaim := { program := "ytbcmpgagceomgaa", sum := "a55624bf1ef6da696879829f1a9033d7db82dbc1fbbd3051cb74a3b78f8a72e4", func := "loop.example/differenceengine/laws.FnExactDiffTable", spec := "fnExactDiffTable", apart := false, narrowed := true }
def FnExactDiffTableUptoSaid : Prop := fnExactDiffTableUptoRow.holds Try.pinned (OpenSpec.upto fnExactDiffTableSpec)

/-- 'laws.FnExactMulPolys', WHERE WHAT IT READS IS OF BULK AT MOST 1048576: true; the input reads as it did. -/
def fnExactMulPolysUptoRow : OpenClaim := { program := "ytbcmpgagceomgaa", sum := "a55624bf1ef6da696879829f1a9033d7db82dbc1fbbd3051cb74a3b78f8a72e4", func := "loop.example/differenceengine/laws.FnExactMulPolys", spec := "fnExactMulPolys", apart := false, narrowed := true }
def FnExactMulPolysUptoSaid : Prop := fnExactMulPolysUptoRow.holds Try.pinned (OpenSpec.upto fnExactMulPolysSpec)

/-- 'laws.FnBinomialPascal', WHERE WHAT IT READS IS OF BULK AT MOST 1048576: true; the input reads as it did. -/
def fnBinomialPascalUptoRow : OpenClaim := { program := "ytbcmpgagceomgaa", sum := "a55624bf1ef6da696879829f1a9033d7db82dbc1fbbd3051cb74a3b78f8a72e4", func := "loop.example/differenceengine/laws.FnBinomialPascal", spec := "fnBinomialPascal", apart := false, narrowed := true }
def FnBinomialPascalUptoSaid : Prop := fnBinomialPascalUptoRow.holds Try.pinned (OpenSpec.upto fnBinomialPascalSpec)

/-- 'laws.FnBinomialTurned', WHERE WHAT IT READS IS OF BULK AT MOST 1048576: true; the input reads as it did. -/
def fnBinomialTurnedUptoRow : OpenClaim := { program := "ytbcmpgagceomgaa", sum := "a55624bf1ef6da696879829f1a9033d7db82dbc1fbbd3051cb74a3b78f8a72e4", func := "loop.example/differenceengine/laws.FnBinomialTurned", spec := "fnBinomialTurned", apart := false, narrowed := true }
def FnBinomialTurnedUptoSaid : Prop := fnBinomialTurnedUptoRow.holds Try.pinned (OpenSpec.upto fnBinomialTurnedSpec)

/-- 'laws.FnEvalDifference', WHERE WHAT IT READS IS OF BULK AT MOST 1048576: true; the input reads as it did. -/
def fnEvalDifferenceUptoRow : OpenClaim := { program := "ytbcmpgagceomgaa", sum := "a55624bf1ef6da696879829f1a9033d7db82dbc1fbbd3051cb74a3b78f8a72e4", func := "loop.example/differenceengine/laws.FnEvalDifference", spec := "fnEvalDifference", apart := false, narrowed := true }
def FnEvalDifferenceUptoSaid : Prop := fnEvalDifferenceUptoRow.holds Try.pinned (OpenSpec.upto fnEvalDifferenceSpec)

end Rows
end Go.Proofs.Ytbcmpgagceomgaa
