/-
  No cell of these rows narrows 'for every input' (looked for: loops, veiled, ifaces, maps, wideKeys, modest, calm, conditions, laid).
  DERIVED. THE GIVEN ROWS OF THIS SEAT. 7 by the template 'for every input the law returns true; each argument reads behind the call as it read before'; 0 by the template 'total and deterministic' (their statements: YtghgienpkffcbaaTotals.lean).
  GIVEN WITH THE SEED: the statements are not yours to turn. If you find one false, say at which input.
  Laid BY PROGRAM, IN A SANDBOX (cutbox-rows.mjs): the forced cells as the released guide's own fill.sh prints them over the translation f72e09fa20c075ca… (all of the seat's roots in one cut). By AI agents, Wed Nov 11 2026. No macro, syntax, notation, axiom, sorry.
-/
import Derived.Test.YtghgienpkffcbaaChecked
import GoSem.Claim
import GoSem.ClaimJoined
import GoSem.ClaimMapViews
import Derived.JoinedTies
import Derived.KernelRfl
namespace Go.Proofs.Ytghgienpkffcbaa
/- THE CELL 'sum', in the pinned program and in every row, IS THE sha256 OF THE DUMP (.gsa) THAT YtghgienpkffcbaaProg.lean LOADS. Nothing in Lean hashes anything: it is a label: what it is worth is what the hold of that sum in a sandbox is worth. -/
noncomputable def Try.pinned : Pinned := { name := "ytghgienpkffcbaa", sum := "f72e09fa20c075caf6716f68a0b67963977ac0bb9d6f9b4ecbc2ef6fe2afd382", checked := Try.checked }
namespace Rows
def none {H : Type} : Left H := { results := [], args := [] }

/-- 'laws.FnExactCarryOnce': WHATEVER THE INPUT: true; the input reads as it did. -/
def fnExactCarryOnceSpec : ChangeSpec := { name := "fnExactCarryOnce", fn := fun _ => fun
  | [d1, d2] => { results := [.lit (.bool true)], args := [d1, d2] }
  | _ => none }
def fnExactCarryOnceRow : OpenClaim := { program := "ytghgienpkffcbaa", sum := "f72e09fa20c075caf6716f68a0b67963977ac0bb9d6f9b4ecbc2ef6fe2afd382", func := "loop.example/differenceengine/laws.FnExactCarryOnce", spec := "fnExactCarryOnce", inPlace := ["internal/abi.NoEscape", "internal/bytealg.MakeNoZero"], apart := false }
def FnExactCarryOnceSaid : Prop := fnExactCarryOnceRow.holds Try.pinned (OpenSpec.ofChange fnExactCarryOnceSpec)

/-- ITS FALSE NEIGHBOUR: 'it returns false'. Refute it at one input. -/
def fnExactCarryOnceWrong : ChangeSpec := { name := "fnExactCarryOnce", fn := fun _ => fun
  | [d1, d2] => { results := [.lit (.bool false)], args := [d1, d2] }
  | _ => none }
def FnExactCarryOnceWrongFalsely : Prop := fnExactCarryOnceRow.holds Try.pinned (OpenSpec.ofChange fnExactCarryOnceWrong)

/-- 'laws.FnExactCarryAll': WHATEVER THE INPUT: true; the input reads as it did. -/
def fnExactCarryAllSpec : ChangeSpec := { name := "fnExactCarryAll", fn := fun _ => fun
  | [d1, d2] => { results := [.lit (.bool true)], args := [d1, d2] }
  | _ => none }
def fnExactCarryAllRow : OpenClaim := { program := "ytghgienpkffcbaa", sum := "f72e09fa20c075caf6716f68a0b67963977ac0bb9d6f9b4ecbc2ef6fe2afd382", func := "loop.example/differenceengine/laws.FnExactCarryAll", spec := "fnExactCarryAll", inPlace := ["internal/bytealg.IndexByteString", "internal/bytealg.IndexString", "internal/abi.NoEscape", "internal/bytealg.MakeNoZero"], named := ["internal/bytealg.MaxLen"], apart := false }
def FnExactCarryAllSaid : Prop := fnExactCarryAllRow.holds Try.pinned (OpenSpec.ofChange fnExactCarryAllSpec)

/-- ITS FALSE NEIGHBOUR: 'it returns false'. Refute it at one input. -/
def fnExactCarryAllWrong : ChangeSpec := { name := "fnExactCarryAll", fn := fun _ => fun
  | [d1, d2] => { results := [.lit (.bool false)], args := [d1, d2] }
  | _ => none }
def FnExactCarryAllWrongFalsely : Prop := fnExactCarryAllRow.holds Try.pinned (OpenSpec.ofChange fnExactCarryAllWrong)

/-- 'laws.FnExactCarryTimes': WHATEVER THE INPUT: true; the input reads as it did. -/
def fnExactCarryTimesSpec : ChangeSpec := { name := "fnExactCarryTimes", fn := fun _ => fun
  | [d1, d2] => { results := [.lit (.bool true)], args := [d1, d2] }
  | _ => none }
def fnExactCarryTimesRow : OpenClaim := { program := "ytghgienpkffcbaa", sum := "f72e09fa20c075caf6716f68a0b67963977ac0bb9d6f9b4ecbc2ef6fe2afd382", func := "loop.example/differenceengine/laws.FnExactCarryTimes", spec := "fnExactCarryTimes", inPlace := ["internal/bytealg.IndexByteString", "internal/bytealg.IndexString", "internal/abi.NoEscape", "internal/bytealg.MakeNoZero"], named := ["internal/bytealg.MaxLen"], apart := false }
def FnExactCarryTimesSaid : Prop := fnExactCarryTimesRow.holds Try.pinned (OpenSpec.ofChange fnExactCarryTimesSpec)

/-- ITS FALSE NEIGHBOUR: 'it returns false'. Refute it at one input. -/
def fnExactCarryTimesWrong : ChangeSpec := { name := "fnExactCarryTimes", fn := fun _ => fun
  | [d1, d2] => { results := [.lit (.bool false)], args := [d1, d2] }
  | _ => none }
def FnExactCarryTimesWrongFalsely : Prop := fnExactCarryTimesRow.holds Try.pinned (OpenSpec.ofChange fnExactCarryTimesWrong)

/-- 'laws.FnCarryOnce': WHATEVER THE INPUT: true; the input reads as it did. -/
def fnCarryOnceSpec : ChangeSpec := { name := "fnCarryOnce", fn := fun _ => fun
  | [d] => { results := [.lit (.bool true)], args := [d] }
  | _ => none }
def fnCarryOnceRow : OpenClaim := { program := "ytghgienpkffcbaa", sum := "f72e09fa20c075caf6716f68a0b67963977ac0bb9d6f9b4ecbc2ef6fe2afd382", func := "loop.example/differenceengine/laws.FnCarryOnce", spec := "fnCarryOnce", inPlace := ["internal/abi.NoEscape", "internal/bytealg.MakeNoZero"], apart := false }
def FnCarryOnceSaid : Prop := fnCarryOnceRow.holds Try.pinned (OpenSpec.ofChange fnCarryOnceSpec)

/-- ITS FALSE NEIGHBOUR: 'it returns false'. Refute it at one input. -/
def fnCarryOnceWrong : ChangeSpec := { name := "fnCarryOnce", fn := fun _ => fun
  | [d] => { results := [.lit (.bool false)], args := [d] }
  | _ => none }
def FnCarryOnceWrongFalsely : Prop := fnCarryOnceRow.holds Try.pinned (OpenSpec.ofChange fnCarryOnceWrong)

/-- 'laws.FnCarryAll': WHATEVER THE INPUT: true; the input reads as it did. -/
def fnCarryAllSpec : ChangeSpec := { name := "fnCarryAll", fn := fun _ => fun
  | [d] => { results := [.lit (.bool true)], args := [d] }
  | _ => none }
def fnCarryAllRow : OpenClaim := { program := "ytghgienpkffcbaa", sum := "f72e09fa20c075caf6716f68a0b67963977ac0bb9d6f9b4ecbc2ef6fe2afd382", func := "loop.example/differenceengine/laws.FnCarryAll", spec := "fnCarryAll", inPlace := ["internal/bytealg.IndexByteString", "internal/bytealg.IndexString", "internal/abi.NoEscape", "internal/bytealg.MakeNoZero"], named := ["internal/bytealg.MaxLen"], apart := false }
def FnCarryAllSaid : Prop := fnCarryAllRow.holds Try.pinned (OpenSpec.ofChange fnCarryAllSpec)

/-- ITS FALSE NEIGHBOUR: 'it returns false'. Refute it at one input. -/
def fnCarryAllWrong : ChangeSpec := { name := "fnCarryAll", fn := fun _ => fun
  | [d] => { results := [.lit (.bool false)], args := [d] }
  | _ => none }
def FnCarryAllWrongFalsely : Prop := fnCarryAllRow.holds Try.pinned (OpenSpec.ofChange fnCarryAllWrong)

/-- 'laws.FnCarryChain': WHATEVER THE INPUT: true; the input reads as it did. -/
def fnCarryChainSpec : ChangeSpec := { name := "fnCarryChain", fn := fun _ => fun
  | [d] => { results := [.lit (.bool true)], args := [d] }
  | _ => none }
def fnCarryChainRow : OpenClaim := { program := "ytghgienpkffcbaa", sum := "f72e09fa20c075caf6716f68a0b67963977ac0bb9d6f9b4ecbc2ef6fe2afd382", func := "loop.example/differenceengine/laws.FnCarryChain", spec := "fnCarryChain", inPlace := ["internal/bytealg.IndexByteString", "internal/bytealg.IndexString", "internal/abi.NoEscape", "internal/bytealg.MakeNoZero"], named := ["internal/bytealg.MaxLen"], apart := false }
def FnCarryChainSaid : Prop := fnCarryChainRow.holds Try.pinned (OpenSpec.ofChange fnCarryChainSpec)

/-- ITS FALSE NEIGHBOUR: 'it returns false'. Refute it at one input. -/
def fnCarryChainWrong : ChangeSpec := { name := "fnCarryChain", fn := fun _ => fun
  | [d] => { results := [.lit (.bool false)], args := [d] }
  | _ => none }
def FnCarryChainWrongFalsely : Prop := fnCarryChainRow.holds Try.pinned (OpenSpec.ofChange fnCarryChainWrong)

/-- 'laws.FnTurnCarry': WHATEVER THE INPUT: true; the input reads as it did. -/
def fnTurnCarrySpec : ChangeSpec := { name := "fnTurnCarry", fn := fun _ => fun
  | [d] => { results := [.lit (.bool true)], args := [d] }
  | _ => none }
def fnTurnCarryRow : OpenClaim := { program := "ytghgienpkffcbaa", sum := "f72e09fa20c075caf6716f68a0b67963977ac0bb9d6f9b4ecbc2ef6fe2afd382", func := "loop.example/differenceengine/laws.FnTurnCarry", spec := "fnTurnCarry", inPlace := ["internal/bytealg.IndexByteString", "internal/bytealg.IndexString", "internal/abi.NoEscape", "internal/bytealg.MakeNoZero"], named := ["internal/bytealg.MaxLen"], apart := false }
def FnTurnCarrySaid : Prop := fnTurnCarryRow.holds Try.pinned (OpenSpec.ofChange fnTurnCarrySpec)

/-- ITS FALSE NEIGHBOUR: 'it returns false'. Refute it at one input. -/
def fnTurnCarryWrong : ChangeSpec := { name := "fnTurnCarry", fn := fun _ => fun
  | [d] => { results := [.lit (.bool false)], args := [d] }
  | _ => none }
def FnTurnCarryWrongFalsely : Prop := fnTurnCarryRow.holds Try.pinned (OpenSpec.ofChange fnTurnCarryWrong)

/- THE SECOND FORM. 'bulk': how many values and letters a reading holds, each counted each time it is reached (what is shared counts as often as it is met; a slice's spare places count too). A statement '..UptoSaid' is the law's where the arguments, and the package variables that the reading takes, are together of bulk at most 1048576: NARROWER than '..Said'. Prove '..Said' where nothing that the law and all that it calls make is longer than what came in: it says more and counts as full. Else prove '..UptoSaid'. A law counts once. -/
mutual
def uptoBulk {H : Type} : DataW H → Nat
  | .lit (.string bytes) => bytes.length + 1
  | .lit _ => 1
  | .nil => 1
  | .ptr d => uptoBulk d + 1
  | .slice elems spare => uptoBulkAll elems + uptoBulkAll spare + 1
  | .agg parts => uptoBulkAll parts + 1
  | .iface _ d => uptoBulk d + 1
  | .map entries => uptoBulkEntries entries + 1
  | .held _ => 1
def uptoBulkAll {H : Type} : List (DataW H) → Nat
  | [] => 0
  | d :: r => uptoBulk d + uptoBulkAll r
def uptoBulkEntries {H : Type} : List (Lit × DataW H) → Nat
  | [] => 0
  | x :: r => uptoBulkEntry x + uptoBulkEntries r
def uptoBulkEntry {H : Type} : Lit × DataW H → Nat
  | (.string bytes, d) => bytes.length + uptoBulk d + 1
  | (_, d) => uptoBulk d + 1
 end
def uptoSmall : (H : Type) → List (DataW H) → Bool := fun _ ds => decide (uptoBulkAll ds ≤ 1048576)
def OpenSpec.upto (s : _root_.Go.ChangeSpec) : _root_.Go.OpenSpec := { _root_.Go.OpenSpec.ofChange s with cond := some uptoSmall }

/-- 'laws.FnExactCarryOnce', WHERE WHAT IT READS IS OF BULK AT MOST 1048576: true; the input reads as it did. -/
def fnExactCarryOnceUptoRow : OpenClaim := { program := "ytghgienpkffcbaa", sum := "f72e09fa20c075caf6716f68a0b67963977ac0bb9d6f9b4ecbc2ef6fe2afd382", func := "loop.example/differenceengine/laws.FnExactCarryOnce", spec := "fnExactCarryOnce", inPlace := ["internal/abi.NoEscape", "internal/bytealg.MakeNoZero"], apart := false, narrowed := true }
def FnExactCarryOnceUptoSaid : Prop := fnExactCarryOnceUptoRow.holds Try.pinned (OpenSpec.upto fnExactCarryOnceSpec)

/-- 'laws.FnExactCarryAll', WHERE WHAT IT READS IS OF BULK AT MOST 1048576: true; the input reads as it did. -/
def fnExactCarryAllUptoRow : OpenClaim := { program := "ytghgienpkffcbaa", sum := "f72e09fa20c075caf6716f68a0b67963977ac0bb9d6f9b4ecbc2ef6fe2afd382", func := "loop.example/differenceengine/laws.FnExactCarryAll", spec := "fnExactCarryAll", inPlace := ["internal/bytealg.IndexByteString", "internal/bytealg.IndexString", "internal/abi.NoEscape", "internal/bytealg.MakeNoZero"], named := ["internal/bytealg.MaxLen"], apart := false, narrowed := true }
def FnExactCarryAllUptoSaid : Prop := fnExactCarryAllUptoRow.holds Try.pinned (OpenSpec.upto fnExactCarryAllSpec)

/-- 'laws.FnExactCarryTimes', WHERE WHAT IT READS IS OF BULK AT MOST 1048576: true; the input reads as it did. -/
def fnExactCarryTimesUptoRow : OpenClaim := { program := "ytghgienpkffcbaa", sum := "f72e09fa20c075caf6716f68a0b67963977ac0bb9d6f9b4ecbc2ef6fe2afd382", func := "loop.example/differenceengine/laws.FnExactCarryTimes", spec := "fnExactCarryTimes", inPlace := ["internal/bytealg.IndexByteString", "internal/bytealg.IndexString", "internal/abi.NoEscape", "internal/bytealg.MakeNoZero"], named := ["internal/bytealg.MaxLen"], apart := false, narrowed := true }
def FnExactCarryTimesUptoSaid : Prop := fnExactCarryTimesUptoRow.holds Try.pinned (OpenSpec.upto fnExactCarryTimesSpec)

/-- 'laws.FnCarryOnce', WHERE WHAT IT READS IS OF BULK AT MOST 1048576: true; the input reads as it did. -/
def fnCarryOnceUptoRow : OpenClaim := { program := "ytghgienpkffcbaa", sum := "f72e09fa20c075caf6716f68a0b67963977ac0bb9d6f9b4ecbc2ef6fe2afd382", func := "loop.example/differenceengine/laws.FnCarryOnce", spec := "fnCarryOnce", inPlace := ["internal/abi.NoEscape", "internal/bytealg.MakeNoZero"], apart := false, narrowed := true }
def FnCarryOnceUptoSaid : Prop := fnCarryOnceUptoRow.holds Try.pinned (OpenSpec.upto fnCarryOnceSpec)

/-- 'laws.FnCarryAll', WHERE WHAT IT READS IS OF BULK AT MOST 1048576: true; the input reads as it did. -/
def fnCarryAllUptoRow : OpenClaim := { program := "ytghgienpkffcbaa", sum := "f72e09fa20c075caf6716f68a0b67963977ac0bb9d6f9b4ecbc2ef6fe2afd382", func := "loop.example/differenceengine/laws.FnCarryAll", spec := "fnCarryAll", inPlace := ["internal/bytealg.IndexByteString", "internal/bytealg.IndexString", "internal/abi.NoEscape", "internal/bytealg.MakeNoZero"], named := ["internal/bytealg.MaxLen"], apart := false, narrowed := true }
def FnCarryAllUptoSaid : Prop := fnCarryAllUptoRow.holds Try.pinned (OpenSpec.upto fnCarryAllSpec)

/-- 'laws.FnCarryChain', WHERE WHAT IT READS IS OF BULK AT MOST 1048576: true; the input reads as it did. -/
def fnCarryChainUptoRow : OpenClaim := { program := "ytghgienpkffcbaa", sum := "f72e09fa20c075caf6716f68a0b67963977ac0bb9d6f9b4ecbc2ef6fe2afd382", func := "loop.example/differenceengine/laws.FnCarryChain", spec := "fnCarryChain", inPlace := ["internal/bytealg.IndexByteString", "internal/bytealg.IndexString", "internal/abi.NoEscape", "internal/bytealg.MakeNoZero"], named := ["internal/bytealg.MaxLen"], apart := false, narrowed := true }
def FnCarryChainUptoSaid : Prop := fnCarryChainUptoRow.holds Try.pinned (OpenSpec.upto fnCarryChainSpec)

/-- 'laws.FnTurnCarry', WHERE WHAT IT READS IS OF BULK AT MOST 1048576: true; the input reads as it did. -/
def fnTurnCarryUptoRow : OpenClaim := { program := "ytghgienpkffcbaa", sum := "f72e09fa20c075caf6716f68a0b67963977ac0bb9d6f9b4ecbc2ef6fe2afd382", func := "loop.example/differenceengine/laws.FnTurnCarry", spec := "fnTurnCarry", inPlace := ["internal/bytealg.IndexByteString", "internal/bytealg.IndexString", "internal/abi.NoEscape", "internal/bytealg.MakeNoZero"], named := ["internal/bytealg.MaxLen"], apart := false, narrowed := true }
def FnTurnCarryUptoSaid : Prop := fnTurnCarryUptoRow.holds Try.pinned (OpenSpec.upto fnTurnCarrySpec)

end Rows
end Go.Proofs.Ytghgienpkffcbaa
