/-
  No cell of these rows narrows 'for every input' (looked for: loops, veiled, ifaces, maps, wideKeys, modest, calm, conditions, laid).
  DERIVED. THE GIVEN ROWS OF THIS SEAT. 6 by the template 'for every input the law returns true; each argument reads behind the call as it read before'; 0 by the template 'total and deterministic' (their statements: YtlneejhfjnjhjaaTotals.lean).
  GIVEN WITH THE SEED: the statements are not yours to turn. If you find one false, say at which input.
  Laid BY PROGRAM, IN A SANDBOX (cutbox-rows.mjs): the forced cells as the released guide's own fill.sh prints them over the translation e58f9d9bc65d0586… (all of the seat's roots in one cut). By AI agents, Wed Nov 11 2026. No macro, syntax, notation, axiom, sorry.
-/
import Derived.Test.YtlneejhfjnjhjaaChecked
import GoSem.Claim
import GoSem.ClaimJoined
import GoSem.ClaimMapViews
import Derived.JoinedTies
import Derived.KernelRfl
namespace Go.Proofs.Ytlneejhfjnjhjaa
/- THE CELL 'sum', in the pinned program and in every row, IS THE sha256 OF THE DUMP (.gsa) THAT YtlneejhfjnjhjaaProg.lean LOADS. Nothing in Lean hashes anything: it is a label: what it is worth is what the hold of that sum in a sandbox is worth. -/
noncomputable def Try.pinned : Pinned := { name := "ytlneejhfjnjhjaa", sum := "e58f9d9bc65d0586804dd738b19eb3eb28b2320590dc0345e3107da04a4b44f3", checked := Try.checked }
namespace Rows
def none {H : Type} : Left H := { results := [], args := [] }

/-- 'laws.FnExactConstants': WHATEVER THE INPUT: true; the input reads as it did. -/
def fnExactConstantsSpec : ChangeSpec := { name := "fnExactConstants", fn := fun _ => fun
  | [] => { results := [.lit (.bool true)], args := [] }
  | _ => none }
def fnExactConstantsRow : OpenClaim := { program := "ytlneejhfjnjhjaa", sum := "e58f9d9bc65d0586804dd738b19eb3eb28b2320590dc0345e3107da04a4b44f3", func := "loop.example/differenceengine/laws.FnExactConstants", spec := "fnExactConstants", apart := false }
def FnExactConstantsSaid : Prop := fnExactConstantsRow.holds Try.pinned (OpenSpec.ofChange fnExactConstantsSpec)

/-- ITS FALSE NEIGHBOUR: 'it returns false'. Refute it at one input. -/
def fnExactConstantsWrong : ChangeSpec := { name := "fnExactConstants", fn := fun _ => fun
  | [] => { results := [.lit (.bool false)], args := [] }
  | _ => none }
def FnExactConstantsWrongFalsely : Prop := fnExactConstantsRow.holds Try.pinned (OpenSpec.ofChange fnExactConstantsWrong)

/-- 'laws.FnExactColumnValid': WHATEVER THE INPUT: true; the input reads as it did. -/
def fnExactColumnValidSpec : ChangeSpec := { name := "fnExactColumnValid", fn := fun _ => fun
  | [d] => { results := [.lit (.bool true)], args := [d] }
  | _ => none }
def fnExactColumnValidRow : OpenClaim := { program := "ytlneejhfjnjhjaa", sum := "e58f9d9bc65d0586804dd738b19eb3eb28b2320590dc0345e3107da04a4b44f3", func := "loop.example/differenceengine/laws.FnExactColumnValid", spec := "fnExactColumnValid", apart := false }
def FnExactColumnValidSaid : Prop := fnExactColumnValidRow.holds Try.pinned (OpenSpec.ofChange fnExactColumnValidSpec)

/-- ITS FALSE NEIGHBOUR: 'it returns false'. Refute it at one input. -/
def fnExactColumnValidWrong : ChangeSpec := { name := "fnExactColumnValid", fn := fun _ => fun
  | [d] => { results := [.lit (.bool false)], args := [d] }
  | _ => none }
def FnExactColumnValidWrongFalsely : Prop := fnExactColumnValidRow.holds Try.pinned (OpenSpec.ofChange fnExactColumnValidWrong)

/-- 'laws.FnExactBinomial': WHATEVER THE INPUT: true; the input reads as it did. -/
def fnExactBinomialSpec : ChangeSpec := { name := "fnExactBinomial", fn := fun _ => fun
  | [d1, d2] => { results := [.lit (.bool true)], args := [d1, d2] }
  | _ => none }
def fnExactBinomialRow : OpenClaim := { program := "ytlneejhfjnjhjaa", sum := "e58f9d9bc65d0586804dd738b19eb3eb28b2320590dc0345e3107da04a4b44f3", func := "loop.example/differenceengine/laws.FnExactBinomial", spec := "fnExactBinomial", apart := false }
def FnExactBinomialSaid : Prop := fnExactBinomialRow.holds Try.pinned (OpenSpec.ofChange fnExactBinomialSpec)

/-- ITS FALSE NEIGHBOUR: 'it returns false'. Refute it at one input. -/
def fnExactBinomialWrong : ChangeSpec := { name := "fnExactBinomial", fn := fun _ => fun
  | [d1, d2] => { results := [.lit (.bool false)], args := [d1, d2] }
  | _ => none }
def FnExactBinomialWrongFalsely : Prop := fnExactBinomialRow.holds Try.pinned (OpenSpec.ofChange fnExactBinomialWrong)

/-- 'laws.FnExactPolyValid': WHATEVER THE INPUT: true; the input reads as it did. -/
def fnExactPolyValidSpec : ChangeSpec := { name := "fnExactPolyValid", fn := fun _ => fun
  | [d] => { results := [.lit (.bool true)], args := [d] }
  | _ => none }
def fnExactPolyValidRow : OpenClaim := { program := "ytlneejhfjnjhjaa", sum := "e58f9d9bc65d0586804dd738b19eb3eb28b2320590dc0345e3107da04a4b44f3", func := "loop.example/differenceengine/laws.FnExactPolyValid", spec := "fnExactPolyValid", apart := false }
def FnExactPolyValidSaid : Prop := fnExactPolyValidRow.holds Try.pinned (OpenSpec.ofChange fnExactPolyValidSpec)

/-- ITS FALSE NEIGHBOUR: 'it returns false'. Refute it at one input. -/
def fnExactPolyValidWrong : ChangeSpec := { name := "fnExactPolyValid", fn := fun _ => fun
  | [d] => { results := [.lit (.bool false)], args := [d] }
  | _ => none }
def FnExactPolyValidWrongFalsely : Prop := fnExactPolyValidRow.holds Try.pinned (OpenSpec.ofChange fnExactPolyValidWrong)

/-- 'laws.FnExactTableValid': WHATEVER THE INPUT: true; the input reads as it did. -/
def fnExactTableValidSpec : ChangeSpec := { name := "fnExactTableValid", fn := fun _ => fun
  | [d] => { results := [.lit (.bool true)], args := [d] }
  | _ => none }
def fnExactTableValidRow : OpenClaim := { program := "ytlneejhfjnjhjaa", sum := "e58f9d9bc65d0586804dd738b19eb3eb28b2320590dc0345e3107da04a4b44f3", func := "loop.example/differenceengine/laws.FnExactTableValid", spec := "fnExactTableValid", apart := false }
def FnExactTableValidSaid : Prop := fnExactTableValidRow.holds Try.pinned (OpenSpec.ofChange fnExactTableValidSpec)

/-- ITS FALSE NEIGHBOUR: 'it returns false'. Refute it at one input. -/
def fnExactTableValidWrong : ChangeSpec := { name := "fnExactTableValid", fn := fun _ => fun
  | [d] => { results := [.lit (.bool false)], args := [d] }
  | _ => none }
def FnExactTableValidWrongFalsely : Prop := fnExactTableValidRow.holds Try.pinned (OpenSpec.ofChange fnExactTableValidWrong)

/-- 'laws.FnExactValueOf': WHATEVER THE INPUT: true; the input reads as it did. -/
def fnExactValueOfSpec : ChangeSpec := { name := "fnExactValueOf", fn := fun _ => fun
  | [d] => { results := [.lit (.bool true)], args := [d] }
  | _ => none }
def fnExactValueOfRow : OpenClaim := { program := "ytlneejhfjnjhjaa", sum := "e58f9d9bc65d0586804dd738b19eb3eb28b2320590dc0345e3107da04a4b44f3", func := "loop.example/differenceengine/laws.FnExactValueOf", spec := "fnExactValueOf", apart := false }
def FnExactValueOfSaid : Prop := fnExactValueOfRow.holds Try.pinned (OpenSpec.ofChange fnExactValueOfSpec)

/-- ITS FALSE NEIGHBOUR: 'it returns false'. Refute it at one input. -/
def fnExactValueOfWrong : ChangeSpec := { name := "fnExactValueOf", fn := fun _ => fun
  | [d] => { results := [.lit (.bool false)], args := [d] }
  | _ => none }
def FnExactValueOfWrongFalsely : Prop := fnExactValueOfRow.holds Try.pinned (OpenSpec.ofChange fnExactValueOfWrong)

/- THE SECOND FORM. 'bulk': how many values and letters a reading holds, each counted each time it is reached (what is shared counts as often as it is met; a slice's spare places count too). A statement '..UptoSaid' is the law's where the arguments, and the package variables that the reading takes, are together of bulk at most 1048576: NARROWER than '..Said'. Prove '..Said' where nothing that the law and all that it calls make is longer than what came in: it says more and counts as full. Else prove '..UptoSaid'. A law counts once. -/
mutual
def uptoBulk {H : Type} : DataW H → Nat
  | .lit (.string bytes) => bytes.length + 1
  | .lit _ => 1
  | .nil => 1
  | .ptr d => uptoBulk d + 1
  | .slice elems spare => uptoBulkAll elems + uptoBulkAll spare + 1
  | .agg parts => uptoBulkAll parts + 1
  | .iface _ d => uptoBulk d + 1
  | .map entries => uptoBulkEntries entries + 1
  | .held _ => 1
def uptoBulkAll {H : Type} : List (DataW H) → Nat
  | [] => 0
  | d :: r => uptoBulk d + uptoBulkAll r
def uptoBulkEntries {H : Type} : List (Lit × DataW H) → Nat
  | [] => 0
  | x :: r => uptoBulkEntry x + uptoBulkEntries r
def uptoBulkEntry {H : Type} : Lit × DataW H → Nat
  | (.string bytes, d) => bytes.length + uptoBulk d + 1
  | (_, d) => uptoBulk d + 1
 end
def uptoSmall : (H : Type) → List (DataW H) → Bool := fun _ ds => decide (uptoBulkAll ds ≤ 1048576)
def OpenSpec.upto (s : _root_.Go.ChangeSpec) : _root_.Go.OpenSpec := { _root_.Go.OpenSpec.ofChange s with cond := some uptoSmall }

/-- 'laws.FnExactConstants', WHERE WHAT IT READS IS OF BULK AT MOST 1048576: true; the input reads as it did. -/
def fnExactConstantsUptoRow : OpenClaim := { program := "ytlneejhfjnjhjaa", sum := "e58f9d9bc65d0586804dd738b19eb3eb28b2320590dc0345e3107da04a4b44f3", func := "loop.example/differenceengine/laws.FnExactConstants", spec := "fnExactConstants", apart := false, narrowed := true }
def FnExactConstantsUptoSaid : Prop := fnExactConstantsUptoRow.holds Try.pinned (OpenSpec.upto fnExactConstantsSpec)

/-- 'laws.FnExactColumnValid', WHERE WHAT IT READS IS OF BULK AT MOST 1048576: true; the input reads as it did. -/
def fnExactColumnValidUptoRow : OpenClaim := { program := "ytlneejhfjnjhjaa", sum := "e58f9d9bc65d0586804dd738b19eb3eb28b2320590dc0345e3107da04a4b44f3", func := "loop.example/differenceengine/laws.FnExactColumnValid", spec := "fnExactColumnValid", apart := false, narrowed := true }
def FnExactColumnValidUptoSaid : Prop := fnExactColumnValidUptoRow.holds Try.pinned (OpenSpec.upto fnExactColumnValidSpec)

/-- 'laws.FnExactBinomial', WHERE WHAT IT READS IS OF BULK AT MOST 1048576: true; the input reads as it did. -/
def fnExactBinomialUptoRow : OpenClaim := { program := "ytlneejhfjnjhjaa", sum := "e58f9d9bc65d0586804dd738b19eb3eb28b2320590dc0345e3107da04a4b44f3", func := "loop.example/differenceengine/laws.FnExactBinomial", spec := "fnExactBinomial", apart := false, narrowed := true }
def FnExactBinomialUptoSaid : Prop := fnExactBinomialUptoRow.holds Try.pinned (OpenSpec.upto fnExactBinomialSpec)

/-- 'laws.FnExactPolyValid', WHERE WHAT IT READS IS OF BULK AT MOST 1048576: true; the input reads as it did. -/
def fnExactPolyValidUptoRow : OpenClaim := { program := "ytlneejhfjnjhjaa", sum := "e58f9d9bc65d0586804dd738b19eb3eb28b2320590dc0345e3107da04a4b44f3", func := "loop.example/differenceengine/laws.FnExactPolyValid", spec := "fnExactPolyValid", apart := false, narrowed := true }
def FnExactPolyValidUptoSaid : Prop := fnExactPolyValidUptoRow.holds Try.pinned (OpenSpec.upto fnExactPolyValidSpec)

/-- 'laws.FnExactTableValid', WHERE WHAT IT READS IS OF BULK AT MOST 1048576: true; the input reads as it did. -/
def fnExactTableValidUptoRow : OpenClaim := { program := "ytlneejhfjnjhjaa", sum := "e58f9d9bc65d0586804dd738b19eb3eb28b2320590dc0345e3107da04a4b44f3", func := "loop.example/differenceengine/laws.FnExactTableValid", spec := "fnExactTableValid", apart := false, narrowed := true }
def FnExactTableValidUptoSaid : Prop := fnExactTableValidUptoRow.holds Try.pinned (OpenSpec.upto fnExactTableValidSpec)

/-- 'laws.FnExactValueOf', WHERE WHAT IT READS IS OF BULK AT MOST 1048576: true; the input reads as it did. -/
def fnExactValueOfUptoRow : OpenClaim := { program := "ytlneejhfjnjhjaa", sum := "e58f9d9bc65d0586804dd738b19eb3eb28b2320590dc0345e3107da04a4b44f3", func := "loop.example/differenceengine/laws.FnExactValueOf", spec := "fnExactValueOf", apart := false, narrowed := true }
def FnExactValueOfUptoSaid : Prop := fnExactValueOfUptoRow.holds Try.pinned (OpenSpec.upto fnExactValueOfSpec)

end Rows
end Go.Proofs.Ytlneejhfjnjhjaa
