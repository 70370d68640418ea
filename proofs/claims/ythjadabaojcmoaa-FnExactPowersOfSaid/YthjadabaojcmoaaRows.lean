/-
  No cell of these rows narrows 'for every input' (looked for: loops, veiled, ifaces, maps, wideKeys, modest, calm, conditions, laid).
  DERIVED. THE GIVEN ROWS OF THIS SEAT. 12 by the template 'for every input the law returns true; each argument reads behind the call as it read before'; 0 by the template 'total and deterministic' (their statements: YthjadabaojcmoaaTotals.lean).
  GIVEN WITH THE SEED: the statements are not yours to turn. If you find one false, say at which input.
  Laid BY PROGRAM, IN A SANDBOX (cutbox-rows.mjs): the forced cells as the released guide's own fill.sh prints them over the translation 6893728fa91b0b59… (all of the seat's roots in one cut). By AI agents, Wed Nov 11 2026. No macro, syntax, notation, axiom, sorry.
-/
import Derived.Test.YthjadabaojcmoaaChecked
import GoSem.Claim
import GoSem.ClaimJoined
import GoSem.ClaimMapViews
import Derived.JoinedTies
import Derived.KernelRfl
namespace Go.Proofs.Ythjadabaojcmoaa
/- THE CELL 'sum', in the pinned program and in every row, IS THE sha256 OF THE DUMP (.gsa) THAT YthjadabaojcmoaaProg.lean LOADS. Nothing in Lean hashes anything: it is a label: what it is worth is what the hold of that sum in a sandbox is worth. -/
noncomputable def Try.pinned : Pinned := { name := "ythjadabaojcmoaa", sum := "6893728fa91b0b5900056d6c8d0260492cd1b9d92a7093891d49e81390dd78b6", checked := Try.checked }
namespace Rows
def none {H : Type} : Left H := { results := [], args := [] }

/-- 'laws.FnExactSumPoly': WHATEVER THE INPUT: true; the input reads as it did. -/
def fnExactSumPolySpec : ChangeSpec := { name := "fnExactSumPoly", fn := fun _ => fun
  | [d1, d2] => { results := [.lit (.bool true)], args := [d1, d2] }
  | _ => none }
def fnExactSumPolyRow : OpenClaim := { program := "ythjadabaojcmoaa", sum := "6893728fa91b0b5900056d6c8d0260492cd1b9d92a7093891d49e81390dd78b6", func := "loop.example/differenceengine/laws.FnExactSumPoly", spec := "fnExactSumPoly", apart := false }
def FnExactSumPolySaid : Prop := fnExactSumPolyRow.holds Try.pinned (OpenSpec.ofChange fnExactSumPolySpec)

/-- ITS FALSE NEIGHBOUR: 'it returns false'. Refute it at one input. -/
def fnExactSumPolyWrong : ChangeSpec := { name := "fnExactSumPoly", fn := fun _ => fun
  | [d1, d2] => { results := [.lit (.bool false)], args := [d1, d2] }
  | _ => none }
def FnExactSumPolyWrongFalsely : Prop := fnExactSumPolyRow.holds Try.pinned (OpenSpec.ofChange fnExactSumPolyWrong)

/-- 'laws.FnExactEvalPoly': WHATEVER THE INPUT: true; the input reads as it did. -/
def fnExactEvalPolySpec : ChangeSpec := { name := "fnExactEvalPoly", fn := fun _ => fun
  | [d1, d2] => { results := [.lit (.bool true)], args := [d1, d2] }
  | _ => none }
def fnExactEvalPolyRow : OpenClaim := { program := "ythjadabaojcmoaa", sum := "6893728fa91b0b5900056d6c8d0260492cd1b9d92a7093891d49e81390dd78b6", func := "loop.example/differenceengine/laws.FnExactEvalPoly", spec := "fnExactEvalPoly", apart := false }
def FnExactEvalPolySaid : Prop := fnExactEvalPolyRow.holds Try.pinned (OpenSpec.ofChange fnExactEvalPolySpec)

/-- ITS FALSE NEIGHBOUR: 'it returns false'. Refute it at one input. -/
def fnExactEvalPolyWrong : ChangeSpec := { name := "fnExactEvalPoly", fn := fun _ => fun
  | [d1, d2] => { results := [.lit (.bool false)], args := [d1, d2] }
  | _ => none }
def FnExactEvalPolyWrongFalsely : Prop := fnExactEvalPolyRow.holds Try.pinned (OpenSpec.ofChange fnExactEvalPolyWrong)

/-- 'laws.FnExactDifferencePoly': WHATEVER THE INPUT: true; the input reads as it did. -/
def fnExactDifferencePolySpec : ChangeSpec := { name := "fnExactDifferencePoly", fn := fun _ => fun
  | [d] => { results := [.lit (.bool true)], args := [d] }
  | _ => none }
def fnExactDifferencePolyRow : OpenClaim := { program := "ythjadabaojcmoaa", sum := "6893728fa91b0b5900056d6c8d0260492cd1b9d92a7093891d49e81390dd78b6", func := "loop.example/differenceengine/laws.FnExactDifferencePoly", spec := "fnExactDifferencePoly", apart := false }
def FnExactDifferencePolySaid : Prop := fnExactDifferencePolyRow.holds Try.pinned (OpenSpec.ofChange fnExactDifferencePolySpec)

/-- ITS FALSE NEIGHBOUR: 'it returns false'. Refute it at one input. -/
def fnExactDifferencePolyWrong : ChangeSpec := { name := "fnExactDifferencePoly", fn := fun _ => fun
  | [d] => { results := [.lit (.bool false)], args := [d] }
  | _ => none }
def FnExactDifferencePolyWrongFalsely : Prop := fnExactDifferencePolyRow.holds Try.pinned (OpenSpec.ofChange fnExactDifferencePolyWrong)

/-- 'laws.FnExactScalePoly': WHATEVER THE INPUT: true; the input reads as it did. -/
def fnExactScalePolySpec : ChangeSpec := { name := "fnExactScalePoly", fn := fun _ => fun
  | [d1, d2] => { results := [.lit (.bool true)], args := [d1, d2] }
  | _ => none }
def fnExactScalePolyRow : OpenClaim := { program := "ythjadabaojcmoaa", sum := "6893728fa91b0b5900056d6c8d0260492cd1b9d92a7093891d49e81390dd78b6", func := "loop.example/differenceengine/laws.FnExactScalePoly", spec := "fnExactScalePoly", apart := false }
def FnExactScalePolySaid : Prop := fnExactScalePolyRow.holds Try.pinned (OpenSpec.ofChange fnExactScalePolySpec)

/-- ITS FALSE NEIGHBOUR: 'it returns false'. Refute it at one input. -/
def fnExactScalePolyWrong : ChangeSpec := { name := "fnExactScalePoly", fn := fun _ => fun
  | [d1, d2] => { results := [.lit (.bool false)], args := [d1, d2] }
  | _ => none }
def FnExactScalePolyWrongFalsely : Prop := fnExactScalePolyRow.holds Try.pinned (OpenSpec.ofChange fnExactScalePolyWrong)

/-- 'laws.FnExactDegreeOf': WHATEVER THE INPUT: true; the input reads as it did. -/
def fnExactDegreeOfSpec : ChangeSpec := { name := "fnExactDegreeOf", fn := fun _ => fun
  | [d] => { results := [.lit (.bool true)], args := [d] }
  | _ => none }
def fnExactDegreeOfRow : OpenClaim := { program := "ythjadabaojcmoaa", sum := "6893728fa91b0b5900056d6c8d0260492cd1b9d92a7093891d49e81390dd78b6", func := "loop.example/differenceengine/laws.FnExactDegreeOf", spec := "fnExactDegreeOf", apart := false }
def FnExactDegreeOfSaid : Prop := fnExactDegreeOfRow.holds Try.pinned (OpenSpec.ofChange fnExactDegreeOfSpec)

/-- ITS FALSE NEIGHBOUR: 'it returns false'. Refute it at one input. -/
def fnExactDegreeOfWrong : ChangeSpec := { name := "fnExactDegreeOf", fn := fun _ => fun
  | [d] => { results := [.lit (.bool false)], args := [d] }
  | _ => none }
def FnExactDegreeOfWrongFalsely : Prop := fnExactDegreeOfRow.holds Try.pinned (OpenSpec.ofChange fnExactDegreeOfWrong)

/-- 'laws.FnExactTrimPoly': WHATEVER THE INPUT: true; the input reads as it did. -/
def fnExactTrimPolySpec : ChangeSpec := { name := "fnExactTrimPoly", fn := fun _ => fun
  | [d] => { results := [.lit (.bool true)], args := [d] }
  | _ => none }
def fnExactTrimPolyRow : OpenClaim := { program := "ythjadabaojcmoaa", sum := "6893728fa91b0b5900056d6c8d0260492cd1b9d92a7093891d49e81390dd78b6", func := "loop.example/differenceengine/laws.FnExactTrimPoly", spec := "fnExactTrimPoly", apart := false }
def FnExactTrimPolySaid : Prop := fnExactTrimPolyRow.holds Try.pinned (OpenSpec.ofChange fnExactTrimPolySpec)

/-- ITS FALSE NEIGHBOUR: 'it returns false'. Refute it at one input. -/
def fnExactTrimPolyWrong : ChangeSpec := { name := "fnExactTrimPoly", fn := fun _ => fun
  | [d] => { results := [.lit (.bool false)], args := [d] }
  | _ => none }
def FnExactTrimPolyWrongFalsely : Prop := fnExactTrimPolyRow.holds Try.pinned (OpenSpec.ofChange fnExactTrimPolyWrong)

/-- 'laws.FnExactAddPolys': WHATEVER THE INPUT: true; the input reads as it did. -/
def fnExactAddPolysSpec : ChangeSpec := { name := "fnExactAddPolys", fn := fun _ => fun
  | [d1, d2] => { results := [.lit (.bool true)], args := [d1, d2] }
  | _ => none }
def fnExactAddPolysRow : OpenClaim := { program := "ythjadabaojcmoaa", sum := "6893728fa91b0b5900056d6c8d0260492cd1b9d92a7093891d49e81390dd78b6", func := "loop.example/differenceengine/laws.FnExactAddPolys", spec := "fnExactAddPolys", apart := false }
def FnExactAddPolysSaid : Prop := fnExactAddPolysRow.holds Try.pinned (OpenSpec.ofChange fnExactAddPolysSpec)

/-- ITS FALSE NEIGHBOUR: 'it returns false'. Refute it at one input. -/
def fnExactAddPolysWrong : ChangeSpec := { name := "fnExactAddPolys", fn := fun _ => fun
  | [d1, d2] => { results := [.lit (.bool false)], args := [d1, d2] }
  | _ => none }
def FnExactAddPolysWrongFalsely : Prop := fnExactAddPolysRow.holds Try.pinned (OpenSpec.ofChange fnExactAddPolysWrong)

/-- 'laws.FnExactLeastDegree': WHATEVER THE INPUT: true; the input reads as it did. -/
def fnExactLeastDegreeSpec : ChangeSpec := { name := "fnExactLeastDegree", fn := fun _ => fun
  | [d] => { results := [.lit (.bool true)], args := [d] }
  | _ => none }
def fnExactLeastDegreeRow : OpenClaim := { program := "ythjadabaojcmoaa", sum := "6893728fa91b0b5900056d6c8d0260492cd1b9d92a7093891d49e81390dd78b6", func := "loop.example/differenceengine/laws.FnExactLeastDegree", spec := "fnExactLeastDegree", apart := false }
def FnExactLeastDegreeSaid : Prop := fnExactLeastDegreeRow.holds Try.pinned (OpenSpec.ofChange fnExactLeastDegreeSpec)

/-- ITS FALSE NEIGHBOUR: 'it returns false'. Refute it at one input. -/
def fnExactLeastDegreeWrong : ChangeSpec := { name := "fnExactLeastDegree", fn := fun _ => fun
  | [d] => { results := [.lit (.bool false)], args := [d] }
  | _ => none }
def FnExactLeastDegreeWrongFalsely : Prop := fnExactLeastDegreeRow.holds Try.pinned (OpenSpec.ofChange fnExactLeastDegreeWrong)

/-- 'laws.FnExactDiffsOf': WHATEVER THE INPUT: true; the input reads as it did. -/
def fnExactDiffsOfSpec : ChangeSpec := { name := "fnExactDiffsOf", fn := fun _ => fun
  | [d] => { results := [.lit (.bool true)], args := [d] }
  | _ => none }
def fnExactDiffsOfRow : OpenClaim := { program := "ythjadabaojcmoaa", sum := "6893728fa91b0b5900056d6c8d0260492cd1b9d92a7093891d49e81390dd78b6", func := "loop.example/differenceengine/laws.FnExactDiffsOf", spec := "fnExactDiffsOf", apart := false }
def FnExactDiffsOfSaid : Prop := fnExactDiffsOfRow.holds Try.pinned (OpenSpec.ofChange fnExactDiffsOfSpec)

/-- ITS FALSE NEIGHBOUR: 'it returns false'. Refute it at one input. -/
def fnExactDiffsOfWrong : ChangeSpec := { name := "fnExactDiffsOf", fn := fun _ => fun
  | [d] => { results := [.lit (.bool false)], args := [d] }
  | _ => none }
def FnExactDiffsOfWrongFalsely : Prop := fnExactDiffsOfRow.holds Try.pinned (OpenSpec.ofChange fnExactDiffsOfWrong)

/-- 'laws.FnExactPowersOf': WHATEVER THE INPUT: true; the input reads as it did. -/
def fnExactPowersOfSpec : ChangeSpec := { name := "fnExactPowersOf", fn := fun _ => fun
  | [d] => { results := [.lit (.bool true)], args := [d] }
  | _ => none }
def fnExactPowersOfRow : OpenClaim := { program := "ythjadabaojcmoaa", sum := "6893728fa91b0b5900056d6c8d0260492cd1b9d92a7093891d49e81390dd78b6", func := "loop.example/differenceengine/laws.FnExactPowersOf", spec := "fnExactPowersOf", apart := false }
def FnExactPowersOfSaid : Prop := fnExactPowersOfRow.holds Try.pinned (OpenSpec.ofChange fnExactPowersOfSpec)

/-- ITS FALSE NEIGHBOUR: 'it returns false'. Refute it at one input. -/
def fnExactPowersOfWrong : ChangeSpec := { name := "fnExactPowersOf", fn := fun _ => fun
  | [d] => { results := [.lit (.bool false)], args := [d] }
  | _ => none }
def FnExactPowersOfWrongFalsely : Prop := fnExactPowersOfRow.holds Try.pinned (OpenSpec.ofChange fnExactPowersOfWrong)

/-- 'laws.FnExactValuesOf': WHATEVER THE INPUT: true; the input reads as it did. -/
def fnExactValuesOfSpec : ChangeSpec := { name := "fnExactValuesOf", fn := fun _ => fun
  | [d1, d2, d3] => { results := [.lit (.bool true)], args := [d1, d2, d3] }
  | _ => none }
def fnExactValuesOfRow : OpenClaim := { program := "ythjadabaojcmoaa", sum := "6893728fa91b0b5900056d6c8d0260492cd1b9d92a7093891d49e81390dd78b6", func := "loop.example/differenceengine/laws.FnExactValuesOf", spec := "fnExactValuesOf", apart := false }
def FnExactValuesOfSaid : Prop := fnExactValuesOfRow.holds Try.pinned (OpenSpec.ofChange fnExactValuesOfSpec)

/-- ITS FALSE NEIGHBOUR: 'it returns false'. Refute it at one input. -/
def fnExactValuesOfWrong : ChangeSpec := { name := "fnExactValuesOf", fn := fun _ => fun
  | [d1, d2, d3] => { results := [.lit (.bool false)], args := [d1, d2, d3] }
  | _ => none }
def FnExactValuesOfWrongFalsely : Prop := fnExactValuesOfRow.holds Try.pinned (OpenSpec.ofChange fnExactValuesOfWrong)

/-- 'laws.FnExactFromPowers': WHATEVER THE INPUT: true; the input reads as it did. -/
def fnExactFromPowersSpec : ChangeSpec := { name := "fnExactFromPowers", fn := fun _ => fun
  | [d] => { results := [.lit (.bool true)], args := [d] }
  | _ => none }
def fnExactFromPowersRow : OpenClaim := { program := "ythjadabaojcmoaa", sum := "6893728fa91b0b5900056d6c8d0260492cd1b9d92a7093891d49e81390dd78b6", func := "loop.example/differenceengine/laws.FnExactFromPowers", spec := "fnExactFromPowers", apart := false }
def FnExactFromPowersSaid : Prop := fnExactFromPowersRow.holds Try.pinned (OpenSpec.ofChange fnExactFromPowersSpec)

/-- ITS FALSE NEIGHBOUR: 'it returns false'. Refute it at one input. -/
def fnExactFromPowersWrong : ChangeSpec := { name := "fnExactFromPowers", fn := fun _ => fun
  | [d] => { results := [.lit (.bool false)], args := [d] }
  | _ => none }
def FnExactFromPowersWrongFalsely : Prop := fnExactFromPowersRow.holds Try.pinned (OpenSpec.ofChange fnExactFromPowersWrong)

/- THE SECOND FORM. 'bulk': how many values and letters a reading holds, each counted each time it is reached (what is shared counts as often as it is met; a slice's spare places count too). A statement '..UptoSaid' is the law's where the arguments, and the package variables that the reading takes, are together of bulk at most 1048576: NARROWER than '..Said'. Prove '..Said' where nothing that the law and all that it calls make is longer than what came in: it says more and counts as full. Else prove '..UptoSaid'. A law counts once. -/
mutual
def uptoBulk {H : Type} : DataW H → Nat
  | .lit (.string bytes) => bytes.length + 1
  | .lit _ => 1
  | .nil => 1
  | .ptr d => uptoBulk d + 1
  | .slice elems spare => uptoBulkAll elems + uptoBulkAll spare + 1
  | .agg parts => uptoBulkAll parts + 1
  | .iface _ d => uptoBulk d + 1
  | .map entries => uptoBulkEntries entries + 1
  | .held _ => 1
def uptoBulkAll {H : Type} : List (DataW H) → Nat
  | [] => 0
  | d :: r => uptoBulk d + uptoBulkAll r
def uptoBulkEntries {H : Type} : List (Lit × DataW H) → Nat
  | [] => 0
  | x :: r => uptoBulkEntry x + uptoBulkEntries r
def uptoBulkEntry {H : Type} : Lit × DataW H → Nat
  | (.string bytes, d) => bytes.length + uptoBulk d + 1
  | (_, d) => uptoBulk d + 1
 end
def uptoSmall : (H : Type) → List (DataW H) → Bool := fun _ ds => decide (uptoBulkAll ds ≤ 1048576)
def OpenSpec.upto (s : _root_.Go.ChangeSpec) : _root_.Go.OpenSpec := { _root_.Go.OpenSpec.ofChange s with cond := some uptoSmall }

/-- 'laws.FnExactSumPoly', WHERE WHAT IT READS IS OF BULK AT MOST 1048576: true; the input reads as it did. -/
def fnExactSumPolyUptoRow : OpenClaim := { program := "ythjadabaojcmoaa", sum := "6893728fa91b0b5900056d6c8d0260492cd1b9d92a7093891d49e81390dd78b6", func := "loop.example/differenceengine/laws.FnExactSumPoly", spec := "fnExactSumPoly", apart := false, narrowed := true }
def FnExactSumPolyUptoSaid : Prop := fnExactSumPolyUptoRow.holds Try.pinned (OpenSpec.upto fnExactSumPolySpec)

/-- 'laws.FnExactEvalPoly', WHERE WHAT IT READS IS OF BULK AT MOST 1048576: true; the input reads as it did. -/
def fnExactEvalPolyUptoRow : OpenClaim := { program := "ythjadabaojcmoaa", sum := "6893728fa91b0b5900056d6c8d0260492cd1b9d92a7093891d49e81390dd78b6", func := "loop.example/differenceengine/laws.FnExactEvalPoly", spec := "fnExactEvalPoly", apart := false, narrowed := true }
def FnExactEvalPolyUptoSaid : Prop := fnExactEvalPolyUptoRow.holds Try.pinned (OpenSpec.upto fnExactEvalPolySpec)

/-- 'laws.FnExactDifferencePoly', WHERE WHAT IT READS IS OF BULK AT MOST 1048576: true; the input reads as it did. -/
def fnExactDifferencePolyUptoRow : OpenClaim := { program := "ythjadabaojcmoaa", sum := "6893728fa91b0b5900056d6c8d0260492cd1b9d92a7093891d49e81390dd78b6", func := "loop.example/differenceengine/laws.FnExactDifferencePoly", spec := "fnExactDifferencePoly", apart := false, narrowed := true }
def FnExactDifferencePolyUptoSaid : Prop := fnExactDifferencePolyUptoRow.holds Try.pinned (OpenSpec.upto fnExactDifferencePolySpec)

/-- 'laws.FnExactScalePoly', WHERE WHAT IT READS IS OF BULK AT MOST 1048576: true; the input reads as it did. -/
def fnExactScalePolyUptoRow : OpenClaim := { program := "ythjadabaojcmoaa", sum := "6893728fa91b0b5900056d6c8d0260492cd1b9d92a7093891d49e81390dd78b6", func := "loop.example/differenceengine/laws.FnExactScalePoly", spec := "fnExactScalePoly", apart := false, narrowed := true }
def FnExactScalePolyUptoSaid : Prop := fnExactScalePolyUptoRow.holds Try.pinned (OpenSpec.upto fnExactScalePolySpec)

/-- 'laws.FnExactDegreeOf', WHERE WHAT IT READS IS OF BULK AT MOST 1048576: true; the input reads as it did. -/
def fnExactDegreeOfUptoRow : OpenClaim := { program := "ythjadabaojcmoaa", sum := "6893728fa91b0b5900056d6c8d0260492cd1b9d92a7093891d49e81390dd78b6", func := "loop.example/differenceengine/laws.FnExactDegreeOf", spec := "fnExactDegreeOf", apart := false, narrowed := true }
def FnExactDegreeOfUptoSaid : Prop := fnExactDegreeOfUptoRow.holds Try.pinned (OpenSpec.upto fnExactDegreeOfSpec)

/-- 'laws.FnExactTrimPoly', WHERE WHAT IT READS IS OF BULK AT MOST 1048576: true; the input reads as it did. -/
def fnExactTrimPolyUptoRow : OpenClaim := { program := "ythjadabaojcmoaa", sum := "6893728fa91b0b5900056d6c8d0260492cd1b9d92a7093891d49e81390dd78b6", func := "loop.example/differenceengine/laws.FnExactTrimPoly", spec := "fnExactTrimPoly", apart := false, narrowed := true }
def FnExactTrimPolyUptoSaid : Prop := fnExactTrimPolyUptoRow.holds Try.pinned (OpenSpec.upto fnExactTrimPolySpec)

/-- 'laws.FnExactAddPolys', WHERE WHAT IT READS IS OF BULK AT MOST 1048576: true; the input reads as it did. -/
def fnExactAddPolysUptoRow : OpenClaim := { program := "ythjadabaojcmoaa", sum := "6893728fa91b0b5900056d6c8d0260492cd1b9d92a7093891d49e81390dd78b6", func := "loop.example/differenceengine/laws.FnExactAddPolys", spec := "fnExactAddPolys", apart := false, narrowed := true }
def FnExactAddPolysUptoSaid : Prop := fnExactAddPolysUptoRow.holds Try.pinned (OpenSpec.upto fnExactAddPolysSpec)

/-- 'laws.FnExactLeastDegree', WHERE WHAT IT READS IS OF BULK AT MOST 1048576: true; the input reads as it did. -/
def fnExactLeastDegreeUptoRow : OpenClaim := { program := "ythjadabaojcmoaa", sum := "6893728fa91b0b5900056d6c8d0260492cd1b9d92a7093891d49e81390dd78b6", func := "loop.example/differenceengine/laws.FnExactLeastDegree", spec := "fnExactLeastDegree", apart := false, narrowed := true }
def FnExactLeastDegreeUptoSaid : Prop := fnExactLeastDegreeUptoRow.holds Try.pinned (OpenSpec.upto fnExactLeastDegreeSpec)

/-- 'laws.FnExactDiffsOf', WHERE WHAT IT READS IS OF BULK AT MOST 1048576: true; the input reads as it did. -/
def fnExactDiffsOfUptoRow : OpenClaim := { program := "ythjadabaojcmoaa", sum := "6893728fa91b0b5900056d6c8d0260492cd1b9d92a7093891d49e81390dd78b6", func := "loop.example/differenceengine/laws.FnExactDiffsOf", spec := "fnExactDiffsOf", apart := false, narrowed := true }
def FnExactDiffsOfUptoSaid : Prop := fnExactDiffsOfUptoRow.holds Try.pinned (OpenSpec.upto fnExactDiffsOfSpec)

/-- 'laws.FnExactPowersOf', WHERE WHAT IT READS IS OF BULK AT MOST 1048576: true; the input reads as it did. -/
def fnExactPowersOfUptoRow : OpenClaim := { program := "ythjadabaojcmoaa", sum := "6893728fa91b0b5900056d6c8d0260492cd1b9d92a7093891d49e81390dd78b6", func := "loop.example/differenceengine/laws.FnExactPowersOf", spec := "fnExactPowersOf", apart := false, narrowed := true }
def FnExactPowersOfUptoSaid : Prop := fnExactPowersOfUptoRow.holds Try.pinned (OpenSpec.upto fnExactPowersOfSpec)

/-- 'laws.FnExactValuesOf', WHERE WHAT IT READS IS OF BULK AT MOST 1048576: true; the input reads as it did. -/
def fnExactValuesOfUptoRow : OpenClaim := { program := "ythjadabaojcmoaa", sum := "6893728fa91b0b5900056d6c8d0260492cd1b9d92a7093891d49e81390dd78b6", func := "loop.example/differenceengine/laws.FnExactValuesOf", spec := "fnExactValuesOf", apart := false, narrowed := true }
def FnExactValuesOfUptoSaid : Prop := fnExactValuesOfUptoRow.holds Try.pinned (OpenSpec.upto fnExactValuesOfSpec)

/-- 'laws.FnExactFromPowers', WHERE WHAT IT READS IS OF BULK AT MOST 1048576: true; the input reads as it did. -/
def fnExactFromPowersUptoRow : OpenClaim := { program := "ythjadabaojcmoaa", sum := "6893728fa91b0b5900056d6c8d0260492cd1b9d92a7093891d49e81390dd78b6", func := "loop.example/differenceengine/laws.FnExactFromPowers", spec := "fnExactFromPowers", apart := false, narrowed := true }
def FnExactFromPowersUptoSaid : Prop := fnExactFromPowersUptoRow.holds Try.pinned (OpenSpec.upto fnExactFromPowersSpec)

end Rows
end Go.Proofs.Ythjadabaojcmoaa
