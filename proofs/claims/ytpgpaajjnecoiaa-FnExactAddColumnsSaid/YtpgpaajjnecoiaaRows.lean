/-
  No cell of these rows narrows 'for every input' (looked for: loops, veiled, ifaces, maps, wideKeys, modest, calm, conditions, laid).
  DERIVED. THE GIVEN ROWS OF THIS SEAT. 12 by the template 'for every input the law returns true; each argument reads behind the call as it read before'; 0 by the template 'total and deterministic' (their statements: YtpgpaajjnecoiaaTotals.lean).
  GIVEN WITH THE SEED: the statements are not yours to turn. If you find one false, say at which input.
  Laid BY PROGRAM, IN A SANDBOX (cutbox-rows.mjs): the forced cells as the released guide's own fill.sh prints them over the translation 69b0e0fbb5717738… (all of the seat's roots in one cut). By AI agents, Wed Nov 11 2026. No macro, syntax, notation, axiom, sorry.
-/
import Derived.Test.YtpgpaajjnecoiaaChecked
import GoSem.Claim
import GoSem.ClaimJoined
import GoSem.ClaimMapViews
import Derived.JoinedTies
import Derived.KernelRfl
namespace Go.Proofs.Ytpgpaajjnecoiaa
/- THE CELL 'sum', in the pinned program and in every row, IS THE sha256 OF THE DUMP (.gsa) THAT YtpgpaajjnecoiaaProg.lean LOADS. Nothing in Lean hashes anything: it is a label: what it is worth is what the hold of that sum in a sandbox is worth. -/
noncomputable def Try.pinned : Pinned := { name := "ytpgpaajjnecoiaa", sum := "69b0e0fbb5717738937808b4e884258a59ac7fdab6d12c24747a278838a8bb3b", checked := Try.checked }
namespace Rows
def none {H : Type} : Left H := { results := [], args := [] }

/-- 'laws.FnExactTurnWheels': WHATEVER THE INPUT: true; the input reads as it did. -/
def fnExactTurnWheelsSpec : ChangeSpec := { name := "fnExactTurnWheels", fn := fun _ => fun
  | [d1, d2] => { results := [.lit (.bool true)], args := [d1, d2] }
  | _ => none }
def fnExactTurnWheelsRow : OpenClaim := { program := "ytpgpaajjnecoiaa", sum := "69b0e0fbb5717738937808b4e884258a59ac7fdab6d12c24747a278838a8bb3b", func := "loop.example/differenceengine/laws.FnExactTurnWheels", spec := "fnExactTurnWheels", apart := false }
def FnExactTurnWheelsSaid : Prop := fnExactTurnWheelsRow.holds Try.pinned (OpenSpec.ofChange fnExactTurnWheelsSpec)

/-- ITS FALSE NEIGHBOUR: 'it returns false'. Refute it at one input. -/
def fnExactTurnWheelsWrong : ChangeSpec := { name := "fnExactTurnWheels", fn := fun _ => fun
  | [d1, d2] => { results := [.lit (.bool false)], args := [d1, d2] }
  | _ => none }
def FnExactTurnWheelsWrongFalsely : Prop := fnExactTurnWheelsRow.holds Try.pinned (OpenSpec.ofChange fnExactTurnWheelsWrong)

/-- 'laws.FnExactWarnedWheels': WHATEVER THE INPUT: true; the input reads as it did. -/
def fnExactWarnedWheelsSpec : ChangeSpec := { name := "fnExactWarnedWheels", fn := fun _ => fun
  | [d1, d2] => { results := [.lit (.bool true)], args := [d1, d2] }
  | _ => none }
def fnExactWarnedWheelsRow : OpenClaim := { program := "ytpgpaajjnecoiaa", sum := "69b0e0fbb5717738937808b4e884258a59ac7fdab6d12c24747a278838a8bb3b", func := "loop.example/differenceengine/laws.FnExactWarnedWheels", spec := "fnExactWarnedWheels", apart := false }
def FnExactWarnedWheelsSaid : Prop := fnExactWarnedWheelsRow.holds Try.pinned (OpenSpec.ofChange fnExactWarnedWheelsSpec)

/-- ITS FALSE NEIGHBOUR: 'it returns false'. Refute it at one input. -/
def fnExactWarnedWheelsWrong : ChangeSpec := { name := "fnExactWarnedWheels", fn := fun _ => fun
  | [d1, d2] => { results := [.lit (.bool false)], args := [d1, d2] }
  | _ => none }
def FnExactWarnedWheelsWrongFalsely : Prop := fnExactWarnedWheelsRow.holds Try.pinned (OpenSpec.ofChange fnExactWarnedWheelsWrong)

/-- 'laws.FnExactCastElevens': WHATEVER THE INPUT: true; the input reads as it did. -/
def fnExactCastElevensSpec : ChangeSpec := { name := "fnExactCastElevens", fn := fun _ => fun
  | [d] => { results := [.lit (.bool true)], args := [d] }
  | _ => none }
def fnExactCastElevensRow : OpenClaim := { program := "ytpgpaajjnecoiaa", sum := "69b0e0fbb5717738937808b4e884258a59ac7fdab6d12c24747a278838a8bb3b", func := "loop.example/differenceengine/laws.FnExactCastElevens", spec := "fnExactCastElevens", apart := false }
def FnExactCastElevensSaid : Prop := fnExactCastElevensRow.holds Try.pinned (OpenSpec.ofChange fnExactCastElevensSpec)

/-- ITS FALSE NEIGHBOUR: 'it returns false'. Refute it at one input. -/
def fnExactCastElevensWrong : ChangeSpec := { name := "fnExactCastElevens", fn := fun _ => fun
  | [d] => { results := [.lit (.bool false)], args := [d] }
  | _ => none }
def FnExactCastElevensWrongFalsely : Prop := fnExactCastElevensRow.holds Try.pinned (OpenSpec.ofChange fnExactCastElevensWrong)

/-- 'laws.FnExactCastNines': WHATEVER THE INPUT: true; the input reads as it did. -/
def fnExactCastNinesSpec : ChangeSpec := { name := "fnExactCastNines", fn := fun _ => fun
  | [d] => { results := [.lit (.bool true)], args := [d] }
  | _ => none }
def fnExactCastNinesRow : OpenClaim := { program := "ytpgpaajjnecoiaa", sum := "69b0e0fbb5717738937808b4e884258a59ac7fdab6d12c24747a278838a8bb3b", func := "loop.example/differenceengine/laws.FnExactCastNines", spec := "fnExactCastNines", apart := false }
def FnExactCastNinesSaid : Prop := fnExactCastNinesRow.holds Try.pinned (OpenSpec.ofChange fnExactCastNinesSpec)

/-- ITS FALSE NEIGHBOUR: 'it returns false'. Refute it at one input. -/
def fnExactCastNinesWrong : ChangeSpec := { name := "fnExactCastNines", fn := fun _ => fun
  | [d] => { results := [.lit (.bool false)], args := [d] }
  | _ => none }
def FnExactCastNinesWrongFalsely : Prop := fnExactCastNinesRow.holds Try.pinned (OpenSpec.ofChange fnExactCastNinesWrong)

/-- 'laws.FnExactWidthFor': WHATEVER THE INPUT: true; the input reads as it did. -/
def fnExactWidthForSpec : ChangeSpec := { name := "fnExactWidthFor", fn := fun _ => fun
  | [d] => { results := [.lit (.bool true)], args := [d] }
  | _ => none }
def fnExactWidthForRow : OpenClaim := { program := "ytpgpaajjnecoiaa", sum := "69b0e0fbb5717738937808b4e884258a59ac7fdab6d12c24747a278838a8bb3b", func := "loop.example/differenceengine/laws.FnExactWidthFor", spec := "fnExactWidthFor", apart := false }
def FnExactWidthForSaid : Prop := fnExactWidthForRow.holds Try.pinned (OpenSpec.ofChange fnExactWidthForSpec)

/-- ITS FALSE NEIGHBOUR: 'it returns false'. Refute it at one input. -/
def fnExactWidthForWrong : ChangeSpec := { name := "fnExactWidthFor", fn := fun _ => fun
  | [d] => { results := [.lit (.bool false)], args := [d] }
  | _ => none }
def FnExactWidthForWrongFalsely : Prop := fnExactWidthForRow.holds Try.pinned (OpenSpec.ofChange fnExactWidthForWrong)

/-- 'laws.FnExactColumnOf': WHATEVER THE INPUT: true; the input reads as it did. -/
def fnExactColumnOfSpec : ChangeSpec := { name := "fnExactColumnOf", fn := fun _ => fun
  | [d1, d2] => { results := [.lit (.bool true)], args := [d1, d2] }
  | _ => none }
def fnExactColumnOfRow : OpenClaim := { program := "ytpgpaajjnecoiaa", sum := "69b0e0fbb5717738937808b4e884258a59ac7fdab6d12c24747a278838a8bb3b", func := "loop.example/differenceengine/laws.FnExactColumnOf", spec := "fnExactColumnOf", apart := false }
def FnExactColumnOfSaid : Prop := fnExactColumnOfRow.holds Try.pinned (OpenSpec.ofChange fnExactColumnOfSpec)

/-- ITS FALSE NEIGHBOUR: 'it returns false'. Refute it at one input. -/
def fnExactColumnOfWrong : ChangeSpec := { name := "fnExactColumnOf", fn := fun _ => fun
  | [d1, d2] => { results := [.lit (.bool false)], args := [d1, d2] }
  | _ => none }
def FnExactColumnOfWrongFalsely : Prop := fnExactColumnOfRow.holds Try.pinned (OpenSpec.ofChange fnExactColumnOfWrong)

/-- 'laws.FnExactSignedOf': WHATEVER THE INPUT: true; the input reads as it did. -/
def fnExactSignedOfSpec : ChangeSpec := { name := "fnExactSignedOf", fn := fun _ => fun
  | [d] => { results := [.lit (.bool true)], args := [d] }
  | _ => none }
def fnExactSignedOfRow : OpenClaim := { program := "ytpgpaajjnecoiaa", sum := "69b0e0fbb5717738937808b4e884258a59ac7fdab6d12c24747a278838a8bb3b", func := "loop.example/differenceengine/laws.FnExactSignedOf", spec := "fnExactSignedOf", apart := false }
def FnExactSignedOfSaid : Prop := fnExactSignedOfRow.holds Try.pinned (OpenSpec.ofChange fnExactSignedOfSpec)

/-- ITS FALSE NEIGHBOUR: 'it returns false'. Refute it at one input. -/
def fnExactSignedOfWrong : ChangeSpec := { name := "fnExactSignedOf", fn := fun _ => fun
  | [d] => { results := [.lit (.bool false)], args := [d] }
  | _ => none }
def FnExactSignedOfWrongFalsely : Prop := fnExactSignedOfRow.holds Try.pinned (OpenSpec.ofChange fnExactSignedOfWrong)

/-- 'laws.FnExactNegateColumn': WHATEVER THE INPUT: true; the input reads as it did. -/
def fnExactNegateColumnSpec : ChangeSpec := { name := "fnExactNegateColumn", fn := fun _ => fun
  | [d] => { results := [.lit (.bool true)], args := [d] }
  | _ => none }
def fnExactNegateColumnRow : OpenClaim := { program := "ytpgpaajjnecoiaa", sum := "69b0e0fbb5717738937808b4e884258a59ac7fdab6d12c24747a278838a8bb3b", func := "loop.example/differenceengine/laws.FnExactNegateColumn", spec := "fnExactNegateColumn", apart := false }
def FnExactNegateColumnSaid : Prop := fnExactNegateColumnRow.holds Try.pinned (OpenSpec.ofChange fnExactNegateColumnSpec)

/-- ITS FALSE NEIGHBOUR: 'it returns false'. Refute it at one input. -/
def fnExactNegateColumnWrong : ChangeSpec := { name := "fnExactNegateColumn", fn := fun _ => fun
  | [d] => { results := [.lit (.bool false)], args := [d] }
  | _ => none }
def FnExactNegateColumnWrongFalsely : Prop := fnExactNegateColumnRow.holds Try.pinned (OpenSpec.ofChange fnExactNegateColumnWrong)

/-- 'laws.FnExactAddColumns': WHATEVER THE INPUT: true; the input reads as it did. -/
def fnExactAddColumnsSpec : ChangeSpec := { name := "fnExactAddColumns", fn := fun _ => fun
  | [d1, d2] => { results := [.lit (.bool true)], args := [d1, d2] }
  | _ => none }
def fnExactAddColumnsRow : OpenClaim := { program := "ytpgpaajjnecoiaa", sum := "69b0e0fbb5717738937808b4e884258a59ac7fdab6d12c24747a278838a8bb3b", func := "loop.example/differenceengine/laws.FnExactAddColumns", spec := "fnExactAddColumns", apart := false }
def FnExactAddColumnsSaid : Prop := fnExactAddColumnsRow.holds Try.pinned (OpenSpec.ofChange fnExactAddColumnsSpec)

/-- ITS FALSE NEIGHBOUR: 'it returns false'. Refute it at one input. -/
def fnExactAddColumnsWrong : ChangeSpec := { name := "fnExactAddColumns", fn := fun _ => fun
  | [d1, d2] => { results := [.lit (.bool false)], args := [d1, d2] }
  | _ => none }
def FnExactAddColumnsWrongFalsely : Prop := fnExactAddColumnsRow.holds Try.pinned (OpenSpec.ofChange fnExactAddColumnsWrong)

/-- 'laws.FnExactSubtractColumns': WHATEVER THE INPUT: true; the input reads as it did. -/
def fnExactSubtractColumnsSpec : ChangeSpec := { name := "fnExactSubtractColumns", fn := fun _ => fun
  | [d1, d2] => { results := [.lit (.bool true)], args := [d1, d2] }
  | _ => none }
def fnExactSubtractColumnsRow : OpenClaim := { program := "ytpgpaajjnecoiaa", sum := "69b0e0fbb5717738937808b4e884258a59ac7fdab6d12c24747a278838a8bb3b", func := "loop.example/differenceengine/laws.FnExactSubtractColumns", spec := "fnExactSubtractColumns", apart := false }
def FnExactSubtractColumnsSaid : Prop := fnExactSubtractColumnsRow.holds Try.pinned (OpenSpec.ofChange fnExactSubtractColumnsSpec)

/-- ITS FALSE NEIGHBOUR: 'it returns false'. Refute it at one input. -/
def fnExactSubtractColumnsWrong : ChangeSpec := { name := "fnExactSubtractColumns", fn := fun _ => fun
  | [d1, d2] => { results := [.lit (.bool false)], args := [d1, d2] }
  | _ => none }
def FnExactSubtractColumnsWrongFalsely : Prop := fnExactSubtractColumnsRow.holds Try.pinned (OpenSpec.ofChange fnExactSubtractColumnsWrong)

/-- 'laws.FnExactWidenColumn': WHATEVER THE INPUT: true; the input reads as it did. -/
def fnExactWidenColumnSpec : ChangeSpec := { name := "fnExactWidenColumn", fn := fun _ => fun
  | [d1, d2] => { results := [.lit (.bool true)], args := [d1, d2] }
  | _ => none }
def fnExactWidenColumnRow : OpenClaim := { program := "ytpgpaajjnecoiaa", sum := "69b0e0fbb5717738937808b4e884258a59ac7fdab6d12c24747a278838a8bb3b", func := "loop.example/differenceengine/laws.FnExactWidenColumn", spec := "fnExactWidenColumn", apart := false }
def FnExactWidenColumnSaid : Prop := fnExactWidenColumnRow.holds Try.pinned (OpenSpec.ofChange fnExactWidenColumnSpec)

/-- ITS FALSE NEIGHBOUR: 'it returns false'. Refute it at one input. -/
def fnExactWidenColumnWrong : ChangeSpec := { name := "fnExactWidenColumn", fn := fun _ => fun
  | [d1, d2] => { results := [.lit (.bool false)], args := [d1, d2] }
  | _ => none }
def FnExactWidenColumnWrongFalsely : Prop := fnExactWidenColumnRow.holds Try.pinned (OpenSpec.ofChange fnExactWidenColumnWrong)

/-- 'laws.FnExactCarryAhead': WHATEVER THE INPUT: true; the input reads as it did. -/
def fnExactCarryAheadSpec : ChangeSpec := { name := "fnExactCarryAhead", fn := fun _ => fun
  | [d1, d2] => { results := [.lit (.bool true)], args := [d1, d2] }
  | _ => none }
def fnExactCarryAheadRow : OpenClaim := { program := "ytpgpaajjnecoiaa", sum := "69b0e0fbb5717738937808b4e884258a59ac7fdab6d12c24747a278838a8bb3b", func := "loop.example/differenceengine/laws.FnExactCarryAhead", spec := "fnExactCarryAhead", apart := false }
def FnExactCarryAheadSaid : Prop := fnExactCarryAheadRow.holds Try.pinned (OpenSpec.ofChange fnExactCarryAheadSpec)

/-- ITS FALSE NEIGHBOUR: 'it returns false'. Refute it at one input. -/
def fnExactCarryAheadWrong : ChangeSpec := { name := "fnExactCarryAhead", fn := fun _ => fun
  | [d1, d2] => { results := [.lit (.bool false)], args := [d1, d2] }
  | _ => none }
def FnExactCarryAheadWrongFalsely : Prop := fnExactCarryAheadRow.holds Try.pinned (OpenSpec.ofChange fnExactCarryAheadWrong)

/- THE SECOND FORM. 'bulk': how many values and letters a reading holds, each counted each time it is reached (what is shared counts as often as it is met; a slice's spare places count too). A statement '..UptoSaid' is the law's where the arguments, and the package variables that the reading takes, are together of bulk at most 1048576: NARROWER than '..Said'. Prove '..Said' where nothing that the law and all that it calls make is longer than what came in: it says more and counts as full. Else prove '..UptoSaid'. A law counts once. -/
mutual
def uptoBulk {H : Type} : DataW H → Nat
  | .lit (.string bytes) => bytes.length + 1
  | .lit _ => 1
  | .nil => 1
  | .ptr d => uptoBulk d + 1
  | .slice elems spare => uptoBulkAll elems + uptoBulkAll spare + 1
  | .agg parts => uptoBulkAll parts + 1
  | .iface _ d => uptoBulk d + 1
  | .map entries => uptoBulkEntries entries + 1
  | .held _ => 1
def uptoBulkAll {H : Type} : List (DataW H) → Nat
  | [] => 0
  | d :: r => uptoBulk d + uptoBulkAll r
def uptoBulkEntries {H : Type} : List (Lit × DataW H) → Nat
  | [] => 0
  | x :: r => uptoBulkEntry x + uptoBulkEntries r
def uptoBulkEntry {H : Type} : Lit × DataW H → Nat
  | (.string bytes, d) => bytes.length + uptoBulk d + 1
  | (_, d) => uptoBulk d + 1
 end
def uptoSmall : (H : Type) → List (DataW H) → Bool := fun _ ds => decide (uptoBulkAll ds ≤ 1048576)
def OpenSpec.upto (s : _root_.Go.ChangeSpec) : _root_.Go.OpenSpec := { _root_.Go.OpenSpec.ofChange s with cond := some uptoSmall }

/-- 'laws.FnExactTurnWheels', WHERE WHAT IT READS IS OF BULK AT MOST 1048576: true; the input reads as it did. -/
def fnExactTurnWheelsUptoRow : OpenClaim := { program := "ytpgpaajjnecoiaa", sum := "69b0e0fbb5717738937808b4e884258a59ac7fdab6d12c24747a278838a8bb3b", func := "loop.example/differenceengine/laws.FnExactTurnWheels", spec := "fnExactTurnWheels", apart := false, narrowed := true }
def FnExactTurnWheelsUptoSaid : Prop := fnExactTurnWheelsUptoRow.holds Try.pinned (OpenSpec.upto fnExactTurnWheelsSpec)

/-- 'laws.FnExactWarnedWheels', WHERE WHAT IT READS IS OF BULK AT MOST 1048576: true; the input reads as it did. -/
def fnExactWarnedWheelsUptoRow : OpenClaim := { program := "ytpgpaajjnecoiaa", sum := "69b0e0fbb5717738937808b4e884258a59ac7fdab6d12c24747a278838a8bb3b", func := "loop.example/differenceengine/laws.FnExactWarnedWheels", spec := "fnExactWarnedWheels", apart := false, narrowed := true }
def FnExactWarnedWheelsUptoSaid : Prop := fnExactWarnedWheelsUptoRow.holds Try.pinned (OpenSpec.upto fnExactWarnedWheelsSpec)

/-- 'laws.FnExactCastElevens', WHERE WHAT IT READS IS OF BULK AT MOST 1048576: true; the input reads as it did. -/
def fnExactCastElevensUptoRow : OpenClaim := { program := "ytpgpaajjnecoiaa", sum := "69b0e0fbb5717738937808b4e884258a59ac7fdab6d12c24747a278838a8bb3b", func := "loop.example/differenceengine/laws.FnExactCastElevens", spec := "fnExactCastElevens", apart := false, narrowed := true }
def FnExactCastElevensUptoSaid : Prop := fnExactCastElevensUptoRow.holds Try.pinned (OpenSpec.upto fnExactCastElevensSpec)

/-- 'laws.FnExactCastNines', WHERE WHAT IT READS IS OF BULK AT MOST 1048576: true; the input reads as it did. -/
def fnExactCastNinesUptoRow : OpenClaim := { program := "ytpgpaajjnecoiaa", sum := "69b0e0fbb5717738937808b4e884258a59ac7fdab6d12c24747a278838a8bb3b", func := "loop.example/differenceengine/laws.FnExactCastNines", spec := "fnExactCastNines", apart := false, narrowed := true }
def FnExactCastNinesUptoSaid : Prop := fnExactCastNinesUptoRow.holds Try.pinned (OpenSpec.upto fnExactCastNinesSpec)

/-- 'laws.FnExactWidthFor', WHERE WHAT IT READS IS OF BULK AT MOST 1048576: true; the input reads as it did. -/
def fnExactWidthForUptoRow : OpenClaim := { program := "ytpgpaajjnecoiaa", sum := "69b0e0fbb5717738937808b4e884258a59ac7fdab6d12c24747a278838a8bb3b", func := "loop.example/differenceengine/laws.FnExactWidthFor", spec := "fnExactWidthFor", apart := false, narrowed := true }
def FnExactWidthForUptoSaid : Prop := fnExactWidthForUptoRow.holds Try.pinned (OpenSpec.upto fnExactWidthForSpec)

/-- 'laws.FnExactColumnOf', WHERE WHAT IT READS IS OF BULK AT MOST 1048576: true; the input reads as it did. -/
def fnExactColumnOfUptoRow : OpenClaim := { program := "ytpgpaajjnecoiaa", sum := "69b0e0fbb5717738937808b4e884258a59ac7fdab6d12c24747a278838a8bb3b", func := "loop.example/differenceengine/laws.FnExactColumnOf", spec := "fnExactColumnOf", apart := false, narrowed := true }
def FnExactColumnOfUptoSaid : Prop := fnExactColumnOfUptoRow.holds Try.pinned (OpenSpec.upto fnExactColumnOfSpec)

/-- 'laws.FnExactSignedOf', WHERE WHAT IT READS IS OF BULK AT MOST 1048576: true; the input reads as it did. -/
def fnExactSignedOfUptoRow : OpenClaim := { program := "ytpgpaajjnecoiaa", sum := "69b0e0fbb5717738937808b4e884258a59ac7fdab6d12c24747a278838a8bb3b", func := "loop.example/differenceengine/laws.FnExactSignedOf", spec := "fnExactSignedOf", apart := false, narrowed := true }
def FnExactSignedOfUptoSaid : Prop := fnExactSignedOfUptoRow.holds Try.pinned (OpenSpec.upto fnExactSignedOfSpec)

/-- 'laws.FnExactNegateColumn', WHERE WHAT IT READS IS OF BULK AT MOST 1048576: true; the input reads as it did. -/
def fnExactNegateColumnUptoRow : OpenClaim := { program := "ytpgpaajjnecoiaa", sum := "69b0e0fbb5717738937808b4e884258a59ac7fdab6d12c24747a278838a8bb3b", func := "loop.example/differenceengine/laws.FnExactNegateColumn", spec := "fnExactNegateColumn", apart := false, narrowed := true }
def FnExactNegateColumnUptoSaid : Prop := fnExactNegateColumnUptoRow.holds Try.pinned (OpenSpec.upto fnExactNegateColumnSpec)

/-- 'laws.FnExactAddColumns', WHERE WHAT IT READS IS OF BULK AT MOST 1048576: true; the input reads as it did. -/
def fnExactAddColumnsUptoRow : OpenClaim := { program := "ytpgpaajjnecoiaa", sum := "69b0e0fbb5717738937808b4e884258a59ac7fdab6d12c24747a278838a8bb3b", func := "loop.example/differenceengine/laws.FnExactAddColumns", spec := "fnExactAddColumns", apart := false, narrowed := true }
def FnExactAddColumnsUptoSaid : Prop := fnExactAddColumnsUptoRow.holds Try.pinned (OpenSpec.upto fnExactAddColumnsSpec)

/-- 'laws.FnExactSubtractColumns', WHERE WHAT IT READS IS OF BULK AT MOST 1048576: true; the input reads as it did. -/
def fnExactSubtractColumnsUptoRow : OpenClaim := { program := "ytpgpaajjnecoiaa", sum := "69b0e0fbb5717738937808b4e884258a59ac7fdab6d12c24747a278838a8bb3b", func := "loop.example/differenceengine/laws.FnExactSubtractColumns", spec := "fnExactSubtractColumns", apart := false, narrowed := true }
def FnExactSubtractColumnsUptoSaid : Prop := fnExactSubtractColumnsUptoRow.holds Try.pinned (OpenSpec.upto fnExactSubtractColumnsSpec)

/-- 'laws.FnExactWidenColumn', WHERE WHAT IT READS IS OF BULK AT MOST 1048576: true; the input reads as it did. -/
def fnExactWidenColumnUptoRow : OpenClaim := { program := "ytpgpaajjnecoiaa", sum := "69b0e0fbb5717738937808b4e884258a59ac7fdab6d12c24747a278838a8bb3b", func := "loop.example/differenceengine/laws.FnExactWidenColumn", spec := "fnExactWidenColumn", apart := false, narrowed := true }
def FnExactWidenColumnUptoSaid : Prop := fnExactWidenColumnUptoRow.holds Try.pinned (OpenSpec.upto fnExactWidenColumnSpec)

/-- 'laws.FnExactCarryAhead', WHERE WHAT IT READS IS OF BULK AT MOST 1048576: true; the input reads as it did. -/
def fnExactCarryAheadUptoRow : OpenClaim := { program := "ytpgpaajjnecoiaa", sum := "69b0e0fbb5717738937808b4e884258a59ac7fdab6d12c24747a278838a8bb3b", func := "loop.example/differenceengine/laws.FnExactCarryAhead", spec := "fnExactCarryAhead", apart := false, narrowed := true }
def FnExactCarryAheadUptoSaid : Prop := fnExactCarryAheadUptoRow.holds Try.pinned (OpenSpec.upto fnExactCarryAheadSpec)

end Rows
end Go.Proofs.Ytpgpaajjnecoiaa
