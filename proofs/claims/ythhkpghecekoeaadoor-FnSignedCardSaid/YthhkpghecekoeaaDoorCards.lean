/-
  DERIVED. GIVEN WITH THE SEED: THE CARDS: each row of YthhkpghecekoeaaDoorRows.lean that lists a variable, with what it lists TIED to the program's text (the seventh form; the later family's looks); each row that meets fmt, with fmt's text TOLD by the authors' own Lean function (tested against real Go, not proved from fmt's source: count such statements apart). THE CARD IS WHAT COUNTS. Prove the row's statement (the work); the ties are given (YthhkpghecekoeaaDoorTie.lean); close each card by the builder's one call (the guide's Derived/Test/ToyasCard.lean, 'card_holds'). Laid BY PROGRAM, IN A SANDBOX (cutbox-door.mjs). By AI agents, Wed Nov 11 2026. No macro, syntax, notation, axiom, sorry.
-/
import Derived.Test.YthhkpghecekoeaaDoorRows
import GoSem.ClaimSeven
namespace Go.Proofs.YthhkpghecekoeaaDoor
namespace Rows

/-- THE TIED CARD OF 'laws.FnExactParseSigned'. -/
def fnExactParseSignedCard : Claim7 := { stood := { row := fnExactParseSignedRow, standIns := [], harness := (true, "a537e4c643242fda6143ad6d14939ad034e690aae22d4aab1fec061332ba9bd8"), looks := true }, kinds := [], alts := [], laidByText := true, laidKinds := [.data, .data, .data, .sentinel, .sentinel], laidTests := true, laidLooks := .later }
def FnExactParseSignedCardSaid : Prop := Claim7.holds Tryd.pinned (.plain (OpenSpec.ofChange fnExactParseSignedSpec)) fnExactParseSignedCard

/-- THE TIED CARD OF 'laws.FnExactFormatSigned'. -/
def fnExactFormatSignedCard : Claim7 := { stood := { row := fnExactFormatSignedRow, standIns := [], harness := (true, "a537e4c643242fda6143ad6d14939ad034e690aae22d4aab1fec061332ba9bd8"), looks := true }, kinds := [], alts := [], laidByText := true, laidKinds := [.data, .data, .data], laidTests := true, laidLooks := .later }
def FnExactFormatSignedCardSaid : Prop := Claim7.holds Tryd.pinned (.plain (OpenSpec.ofChange fnExactFormatSignedSpec)) fnExactFormatSignedCard

/-- THE TIED CARD OF 'laws.FnSigned'. -/
def fnSignedCard : Claim7 := { stood := { row := fnSignedRow, standIns := [], harness := (true, "a537e4c643242fda6143ad6d14939ad034e690aae22d4aab1fec061332ba9bd8"), looks := true }, kinds := [], alts := [], laidByText := true, laidKinds := [.data, .data, .data, .sentinel, .sentinel], laidTests := true, laidLooks := .later }
def FnSignedCardSaid : Prop := Claim7.holds Tryd.pinned (.plain (OpenSpec.ofChange fnSignedSpec)) fnSignedCard

/-- THE SECOND FORM's CARD OF 'laws.FnExactParseSigned'. -/
def fnExactParseSignedUptoCard : Claim7 := { stood := { row := fnExactParseSignedUptoRow, standIns := [], harness := (true, "a537e4c643242fda6143ad6d14939ad034e690aae22d4aab1fec061332ba9bd8"), looks := true }, kinds := [], alts := [], laidByText := true, laidKinds := [.data, .data, .data, .sentinel, .sentinel], laidTests := true, laidLooks := .later }
def FnExactParseSignedUptoCardSaid : Prop := Claim7.holds Tryd.pinned (.plain (OpenSpec.upto fnExactParseSignedSpec)) fnExactParseSignedUptoCard

/-- THE SECOND FORM's CARD OF 'laws.FnExactFormatSigned'. -/
def fnExactFormatSignedUptoCard : Claim7 := { stood := { row := fnExactFormatSignedUptoRow, standIns := [], harness := (true, "a537e4c643242fda6143ad6d14939ad034e690aae22d4aab1fec061332ba9bd8"), looks := true }, kinds := [], alts := [], laidByText := true, laidKinds := [.data, .data, .data], laidTests := true, laidLooks := .later }
def FnExactFormatSignedUptoCardSaid : Prop := Claim7.holds Tryd.pinned (.plain (OpenSpec.upto fnExactFormatSignedSpec)) fnExactFormatSignedUptoCard

/-- THE SECOND FORM's CARD OF 'laws.FnSigned'. -/
def fnSignedUptoCard : Claim7 := { stood := { row := fnSignedUptoRow, standIns := [], harness := (true, "a537e4c643242fda6143ad6d14939ad034e690aae22d4aab1fec061332ba9bd8"), looks := true }, kinds := [], alts := [], laidByText := true, laidKinds := [.data, .data, .data, .sentinel, .sentinel], laidTests := true, laidLooks := .later }
def FnSignedUptoCardSaid : Prop := Claim7.holds Tryd.pinned (.plain (OpenSpec.upto fnSignedSpec)) fnSignedUptoCard
end Rows
end Go.Proofs.YthhkpghecekoeaaDoor
