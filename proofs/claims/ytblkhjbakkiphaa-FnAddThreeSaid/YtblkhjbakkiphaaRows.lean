/-
  No cell of these rows narrows 'for every input' (looked for: loops, veiled, ifaces, maps, wideKeys, modest, calm, conditions, laid).
  DERIVED. THE GIVEN ROWS OF THIS SEAT. 9 by the template 'for every input the law returns true; each argument reads behind the call as it read before'; 0 by the template 'total and deterministic' (their statements: YtblkhjbakkiphaaTotals.lean).
  GIVEN WITH THE SEED: the statements are not yours to turn. If you find one false, say at which input.
  Laid BY PROGRAM, IN A SANDBOX (cutbox-rows.mjs): the forced cells as the released guide's own fill.sh prints them over the translation 20a6e55060f45fdb… (all of the seat's roots in one cut). By AI agents, Wed Nov 11 2026. No macro, syntax, notation, axiom, sorry.
-/
import Derived.Test.YtblkhjbakkiphaaChecked
import GoSem.Claim
import GoSem.ClaimJoined
import GoSem.ClaimMapViews
import Derived.JoinedTies
import Derived.KernelRfl
namespace Go.Proofs.Ytblkhjbakkiphaa
/- THE CELL 'sum', in the pinned program and in every row, IS THE sha256 OF THE DUMP (.gsa) THAT YtblkhjbakkiphaaProg.lean LOADS. Nothing in Lean hashes anything: it is a label: what it is worth is what the hold of that sum in a sandbox is worth. -/
noncomputable def Try.pinned : Pinned := { name := "ytblkhjbakkiphaa", sum := "20a6e55060f45fdb33a090fbdd6842914a46233697409365d537137028c9d41e", checked := Try.checked }
namespace Rows
def none {H : Type} : Left H := { results := [], args := [] }

/-- 'laws.FnWidthFor': WHATEVER THE INPUT: true; the input reads as it did. -/
def fnWidthForSpec : ChangeSpec := { name := "fnWidthFor", fn := fun _ => fun
  | [d] => { results := [.lit (.bool true)], args := [d] }
  | _ => none }
def fnWidthForRow : OpenClaim := { program := "ytblkhjbakkiphaa", sum := "20a6e55060f45fdb33a090fbdd6842914a46233697409365d537137028c9d41e", func := "loop.example/differenceengine/laws.FnWidthFor", spec := "fnWidthFor", apart := false }
def FnWidthForSaid : Prop := fnWidthForRow.holds Try.pinned (OpenSpec.ofChange fnWidthForSpec)

/-- ITS FALSE NEIGHBOUR: 'it returns false'. Refute it at one input. -/
def fnWidthForWrong : ChangeSpec := { name := "fnWidthFor", fn := fun _ => fun
  | [d] => { results := [.lit (.bool false)], args := [d] }
  | _ => none }
def FnWidthForWrongFalsely : Prop := fnWidthForRow.holds Try.pinned (OpenSpec.ofChange fnWidthForWrong)

/-- 'laws.FnWarned': WHATEVER THE INPUT: true; the input reads as it did. -/
def fnWarnedSpec : ChangeSpec := { name := "fnWarned", fn := fun _ => fun
  | [d] => { results := [.lit (.bool true)], args := [d] }
  | _ => none }
def fnWarnedRow : OpenClaim := { program := "ytblkhjbakkiphaa", sum := "20a6e55060f45fdb33a090fbdd6842914a46233697409365d537137028c9d41e", func := "loop.example/differenceengine/laws.FnWarned", spec := "fnWarned", apart := false }
def FnWarnedSaid : Prop := fnWarnedRow.holds Try.pinned (OpenSpec.ofChange fnWarnedSpec)

/-- ITS FALSE NEIGHBOUR: 'it returns false'. Refute it at one input. -/
def fnWarnedWrong : ChangeSpec := { name := "fnWarned", fn := fun _ => fun
  | [d] => { results := [.lit (.bool false)], args := [d] }
  | _ => none }
def FnWarnedWrongFalsely : Prop := fnWarnedRow.holds Try.pinned (OpenSpec.ofChange fnWarnedWrong)

/-- 'laws.FnColumnOf': WHATEVER THE INPUT: true; the input reads as it did. -/
def fnColumnOfSpec : ChangeSpec := { name := "fnColumnOf", fn := fun _ => fun
  | [d] => { results := [.lit (.bool true)], args := [d] }
  | _ => none }
def fnColumnOfRow : OpenClaim := { program := "ytblkhjbakkiphaa", sum := "20a6e55060f45fdb33a090fbdd6842914a46233697409365d537137028c9d41e", func := "loop.example/differenceengine/laws.FnColumnOf", spec := "fnColumnOf", apart := false }
def FnColumnOfSaid : Prop := fnColumnOfRow.holds Try.pinned (OpenSpec.ofChange fnColumnOfSpec)

/-- ITS FALSE NEIGHBOUR: 'it returns false'. Refute it at one input. -/
def fnColumnOfWrong : ChangeSpec := { name := "fnColumnOf", fn := fun _ => fun
  | [d] => { results := [.lit (.bool false)], args := [d] }
  | _ => none }
def FnColumnOfWrongFalsely : Prop := fnColumnOfRow.holds Try.pinned (OpenSpec.ofChange fnColumnOfWrong)

/-- 'laws.FnAddThree': WHATEVER THE INPUT: true; the input reads as it did. -/
def fnAddThreeSpec : ChangeSpec := { name := "fnAddThree", fn := fun _ => fun
  | [d1, d2] => { results := [.lit (.bool true)], args := [d1, d2] }
  | _ => none }
def fnAddThreeRow : OpenClaim := { program := "ytblkhjbakkiphaa", sum := "20a6e55060f45fdb33a090fbdd6842914a46233697409365d537137028c9d41e", func := "loop.example/differenceengine/laws.FnAddThree", spec := "fnAddThree", apart := false }
def FnAddThreeSaid : Prop := fnAddThreeRow.holds Try.pinned (OpenSpec.ofChange fnAddThreeSpec)

/-- ITS FALSE NEIGHBOUR: 'it returns false'. Refute it at one input. -/
def fnAddThreeWrong : ChangeSpec := { name := "fnAddThree", fn := fun _ => fun
  | [d1, d2] => { results := [.lit (.bool false)], args := [d1, d2] }
  | _ => none }
def FnAddThreeWrongFalsely : Prop := fnAddThreeRow.holds Try.pinned (OpenSpec.ofChange fnAddThreeWrong)

/-- 'laws.FnAddTurned': WHATEVER THE INPUT: true; the input reads as it did. -/
def fnAddTurnedSpec : ChangeSpec := { name := "fnAddTurned", fn := fun _ => fun
  | [d] => { results := [.lit (.bool true)], args := [d] }
  | _ => none }
def fnAddTurnedRow : OpenClaim := { program := "ytblkhjbakkiphaa", sum := "20a6e55060f45fdb33a090fbdd6842914a46233697409365d537137028c9d41e", func := "loop.example/differenceengine/laws.FnAddTurned", spec := "fnAddTurned", apart := false }
def FnAddTurnedSaid : Prop := fnAddTurnedRow.holds Try.pinned (OpenSpec.ofChange fnAddTurnedSpec)

/-- ITS FALSE NEIGHBOUR: 'it returns false'. Refute it at one input. -/
def fnAddTurnedWrong : ChangeSpec := { name := "fnAddTurned", fn := fun _ => fun
  | [d] => { results := [.lit (.bool false)], args := [d] }
  | _ => none }
def FnAddTurnedWrongFalsely : Prop := fnAddTurnedRow.holds Try.pinned (OpenSpec.ofChange fnAddTurnedWrong)

/-- 'laws.FnCast': WHATEVER THE INPUT: true; the input reads as it did. -/
def fnCastSpec : ChangeSpec := { name := "fnCast", fn := fun _ => fun
  | [d] => { results := [.lit (.bool true)], args := [d] }
  | _ => none }
def fnCastRow : OpenClaim := { program := "ytblkhjbakkiphaa", sum := "20a6e55060f45fdb33a090fbdd6842914a46233697409365d537137028c9d41e", func := "loop.example/differenceengine/laws.FnCast", spec := "fnCast", apart := false }
def FnCastSaid : Prop := fnCastRow.holds Try.pinned (OpenSpec.ofChange fnCastSpec)

/-- ITS FALSE NEIGHBOUR: 'it returns false'. Refute it at one input. -/
def fnCastWrong : ChangeSpec := { name := "fnCast", fn := fun _ => fun
  | [d] => { results := [.lit (.bool false)], args := [d] }
  | _ => none }
def FnCastWrongFalsely : Prop := fnCastRow.holds Try.pinned (OpenSpec.ofChange fnCastWrong)

/-- 'laws.FnNegate': WHATEVER THE INPUT: true; the input reads as it did. -/
def fnNegateSpec : ChangeSpec := { name := "fnNegate", fn := fun _ => fun
  | [d] => { results := [.lit (.bool true)], args := [d] }
  | _ => none }
def fnNegateRow : OpenClaim := { program := "ytblkhjbakkiphaa", sum := "20a6e55060f45fdb33a090fbdd6842914a46233697409365d537137028c9d41e", func := "loop.example/differenceengine/laws.FnNegate", spec := "fnNegate", apart := false }
def FnNegateSaid : Prop := fnNegateRow.holds Try.pinned (OpenSpec.ofChange fnNegateSpec)

/-- ITS FALSE NEIGHBOUR: 'it returns false'. Refute it at one input. -/
def fnNegateWrong : ChangeSpec := { name := "fnNegate", fn := fun _ => fun
  | [d] => { results := [.lit (.bool false)], args := [d] }
  | _ => none }
def FnNegateWrongFalsely : Prop := fnNegateRow.holds Try.pinned (OpenSpec.ofChange fnNegateWrong)

/-- 'laws.FnAddSigned': WHATEVER THE INPUT: true; the input reads as it did. -/
def fnAddSignedSpec : ChangeSpec := { name := "fnAddSigned", fn := fun _ => fun
  | [d] => { results := [.lit (.bool true)], args := [d] }
  | _ => none }
def fnAddSignedRow : OpenClaim := { program := "ytblkhjbakkiphaa", sum := "20a6e55060f45fdb33a090fbdd6842914a46233697409365d537137028c9d41e", func := "loop.example/differenceengine/laws.FnAddSigned", spec := "fnAddSigned", apart := false }
def FnAddSignedSaid : Prop := fnAddSignedRow.holds Try.pinned (OpenSpec.ofChange fnAddSignedSpec)

/-- ITS FALSE NEIGHBOUR: 'it returns false'. Refute it at one input. -/
def fnAddSignedWrong : ChangeSpec := { name := "fnAddSigned", fn := fun _ => fun
  | [d] => { results := [.lit (.bool false)], args := [d] }
  | _ => none }
def FnAddSignedWrongFalsely : Prop := fnAddSignedRow.holds Try.pinned (OpenSpec.ofChange fnAddSignedWrong)

/-- 'laws.FnWiden': WHATEVER THE INPUT: true; the input reads as it did. -/
def fnWidenSpec : ChangeSpec := { name := "fnWiden", fn := fun _ => fun
  | [d] => { results := [.lit (.bool true)], args := [d] }
  | _ => none }
def fnWidenRow : OpenClaim := { program := "ytblkhjbakkiphaa", sum := "20a6e55060f45fdb33a090fbdd6842914a46233697409365d537137028c9d41e", func := "loop.example/differenceengine/laws.FnWiden", spec := "fnWiden", apart := false }
def FnWidenSaid : Prop := fnWidenRow.holds Try.pinned (OpenSpec.ofChange fnWidenSpec)

/-- ITS FALSE NEIGHBOUR: 'it returns false'. Refute it at one input. -/
def fnWidenWrong : ChangeSpec := { name := "fnWiden", fn := fun _ => fun
  | [d] => { results := [.lit (.bool false)], args := [d] }
  | _ => none }
def FnWidenWrongFalsely : Prop := fnWidenRow.holds Try.pinned (OpenSpec.ofChange fnWidenWrong)

/- THE SECOND FORM. 'bulk': how many values and letters a reading holds, each counted each time it is reached (what is shared counts as often as it is met; a slice's spare places count too). A statement '..UptoSaid' is the law's where the arguments, and the package variables that the reading takes, are together of bulk at most 1048576: NARROWER than '..Said'. Prove '..Said' where nothing that the law and all that it calls make is longer than what came in: it says more and counts as full. Else prove '..UptoSaid'. A law counts once. -/
mutual
def uptoBulk {H : Type} : DataW H → Nat
  | .lit (.string bytes) => bytes.length + 1
  | .lit _ => 1
  | .nil => 1
  | .ptr d => uptoBulk d + 1
  | .slice elems spare => uptoBulkAll elems + uptoBulkAll spare + 1
  | .agg parts => uptoBulkAll parts + 1
  | .iface _ d => uptoBulk d + 1
  | .map entries => uptoBulkEntries entries + 1
  | .held _ => 1
def uptoBulkAll {H : Type} : List (DataW H) → Nat
  | [] => 0
  | d :: r => uptoBulk d + uptoBulkAll r
def uptoBulkEntries {H : Type} : List (Lit × DataW H) → Nat
  | [] => 0
  | x :: r => uptoBulkEntry x + uptoBulkEntries r
def uptoBulkEntry {H : Type} : Lit × DataW H → Nat
  | (.string bytes, d) => bytes.length + uptoBulk d + 1
  | (_, d) => uptoBulk d + 1
 end
def uptoSmall : (H : Type) → List (DataW H) → Bool := fun _ ds => decide (uptoBulkAll ds ≤ 1048576)
def OpenSpec.upto (s : _root_.Go.ChangeSpec) : _root_.Go.OpenSpec := { _root_.Go.OpenSpec.ofChange s with cond := some uptoSmall }

/-- 'laws.FnWidthFor', WHERE WHAT IT READS IS OF BULK AT MOST 1048576: true; the input reads as it did. -/
def fnWidthForUptoRow : OpenClaim := { program := "ytblkhjbakkiphaa", sum := "20a6e55060f45fdb33a090fbdd6842914a46233697409365d537137028c9d41e", func := "loop.example/differenceengine/laws.FnWidthFor", spec := "fnWidthFor", apart := false, narrowed := true }
def FnWidthForUptoSaid : Prop := fnWidthForUptoRow.holds Try.pinned (OpenSpec.upto fnWidthForSpec)

/-- 'laws.FnWarned', WHERE WHAT IT READS IS OF BULK AT MOST 1048576: true; the input reads as it did. -/
def fnWarnedUptoRow : OpenClaim := { program := "ytblkhjbakkiphaa", sum := "20a6e55060f45fdb33a090fbdd6842914a46233697409365d537137028c9d41e", func := "loop.example/differenceengine/laws.FnWarned", spec := "fnWarned", apart := false, narrowed := true }
def FnWarnedUptoSaid : Prop := fnWarnedUptoRow.holds Try.pinned (OpenSpec.upto fnWarnedSpec)

/-- 'laws.FnColumnOf', WHERE WHAT IT READS IS OF BULK AT MOST 1048576: true; the input reads as it did. -/
def fnColumnOfUptoRow : OpenClaim := { program := "ytblkhjbakkiphaa", sum := "20a6e55060f45fdb33a090fbdd6842914a46233697409365d537137028c9d41e", func := "loop.example/differenceengine/laws.FnColumnOf", spec := "fnColumnOf", apart := false, narrowed := true }
def FnColumnOfUptoSaid : Prop := fnColumnOfUptoRow.holds Try.pinned (OpenSpec.upto fnColumnOfSpec)

/-- 'laws.FnAddThree', WHERE WHAT IT READS IS OF BULK AT MOST 1048576: true; the input reads as it did. -/
def fnAddThreeUptoRow : OpenClaim := { program := "ytblkhjbakkiphaa", sum := "20a6e55060f45fdb33a090fbdd6842914a46233697409365d537137028c9d41e", func := "loop.example/differenceengine/laws.FnAddThree", spec := "fnAddThree", apart := false, narrowed := true }
def FnAddThreeUptoSaid : Prop := fnAddThreeUptoRow.holds Try.pinned (OpenSpec.upto fnAddThreeSpec)

/-- 'laws.FnAddTurned', WHERE WHAT IT READS IS OF BULK AT MOST 1048576: true; the input reads as it did. -/
def fnAddTurnedUptoRow : OpenClaim := { program := "ytblkhjbakkiphaa", sum := "20a6e55060f45fdb33a090fbdd6842914a46233697409365d537137028c9d41e", func := "loop.example/differenceengine/laws.FnAddTurned", spec := "fnAddTurned", apart := false, narrowed := true }
def FnAddTurnedUptoSaid : Prop := fnAddTurnedUptoRow.holds Try.pinned (OpenSpec.upto fnAddTurnedSpec)

/-- 'laws.FnCast', WHERE WHAT IT READS IS OF BULK AT MOST 1048576: true; the input reads as it did. -/
def fnCastUptoRow : OpenClaim := { program := "ytblkhjbakkiphaa", sum := "20a6e55060f45fdb33a090fbdd6842914a46233697409365d537137028c9d41e", func := "loop.example/differenceengine/laws.FnCast", spec := "fnCast", apart := false, narrowed := true }
def FnCastUptoSaid : Prop := fnCastUptoRow.holds Try.pinned (OpenSpec.upto fnCastSpec)

/-- 'laws.FnNegate', WHERE WHAT IT READS IS OF BULK AT MOST 1048576: true; the input reads as it did. -/
def fnNegateUptoRow : OpenClaim := { program := "ytblkhjbakkiphaa", sum := "20a6e55060f45fdb33a090fbdd6842914a46233697409365d537137028c9d41e", func := "loop.example/differenceengine/laws.FnNegate", spec := "fnNegate", apart := false, narrowed := true }
def FnNegateUptoSaid : Prop := fnNegateUptoRow.holds Try.pinned (OpenSpec.upto fnNegateSpec)

/-- 'laws.FnAddSigned', WHERE WHAT IT READS IS OF BULK AT MOST 1048576: true; the input reads as it did. -/
def fnAddSignedUptoRow : OpenClaim := { program := "ytblkhjbakkiphaa", sum := "20a6e55060f45fdb33a090fbdd6842914a46233697409365d537137028c9d41e", func := "loop.example/differenceengine/laws.FnAddSigned", spec := "fnAddSigned", apart := false, narrowed := true }
def FnAddSignedUptoSaid : Prop := fnAddSignedUptoRow.holds Try.pinned (OpenSpec.upto fnAddSignedSpec)

/-- 'laws.FnWiden', WHERE WHAT IT READS IS OF BULK AT MOST 1048576: true; the input reads as it did. -/
def fnWidenUptoRow : OpenClaim := { program := "ytblkhjbakkiphaa", sum := "20a6e55060f45fdb33a090fbdd6842914a46233697409365d537137028c9d41e", func := "loop.example/differenceengine/laws.FnWiden", spec := "fnWiden", apart := false, narrowed := true }
def FnWidenUptoSaid : Prop := fnWidenUptoRow.holds Try.pinned (OpenSpec.upto fnWidenSpec)

end Rows
end Go.Proofs.Ytblkhjbakkiphaa
