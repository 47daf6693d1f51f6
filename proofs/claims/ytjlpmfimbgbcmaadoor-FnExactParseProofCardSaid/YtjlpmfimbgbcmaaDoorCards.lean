/-
  DERIVED. GIVEN WITH THE SEED: THE CARDS: each row of YtjlpmfimbgbcmaaDoorRows.lean that lists a variable, with what it lists TIED to the program's text (the seventh form; the later family's looks); each row that meets fmt, with fmt's text TOLD by the authors' own Lean function (tested against real Go, not proved from fmt's source: count such statements apart). THE CARD IS WHAT COUNTS. Prove the row's statement (the work); the ties are given (YtjlpmfimbgbcmaaDoorTie.lean); close each card by the builder's one call (the guide's Derived/Test/ToyasCard.lean, 'card_holds'). Laid BY PROGRAM, IN A SANDBOX (cutbox-door.mjs). By AI agents, Wed Nov 11 2026. No macro, syntax, notation, axiom, sorry.
-/
import Derived.Test.YtjlpmfimbgbcmaaDoorRows
import GoSem.ClaimSeven
namespace Go.Proofs.YtjlpmfimbgbcmaaDoor
namespace Rows

/-- THE TIED CARD OF 'laws.FnExactFormulaText'. -/
def fnExactFormulaTextCard : Claim7 := { stood := { row := fnExactFormulaTextRow, standIns := [], harness := (true, "ff2dec984ed3971f12589f5a132c2cfb707b118204f82a689bcb74b4904b07d8"), looks := true }, kinds := [], alts := [], laidByText := true, laidKinds := [.data, .data, .data], laidTests := true, laidLooks := .later }
def FnExactFormulaTextCardSaid : Prop := Claim7.holds Tryd.pinned (.plain (OpenSpec.ofChange fnExactFormulaTextSpec)) fnExactFormulaTextCard

/-- THE TIED CARD OF 'laws.FnExactParseProof'. -/
def fnExactParseProofCard : Claim7 := { stood := { row := fnExactParseProofRow, standIns := [], harness := (true, "ff2dec984ed3971f12589f5a132c2cfb707b118204f82a689bcb74b4904b07d8"), looks := true }, kinds := [], alts := [], laidByText := true, laidKinds := [.data, .data, .data, .data, .sentinel, .sentinel, .pinned], laidTests := true, laidLooks := .later }
def FnExactParseProofCardSaid : Prop := Claim7.holds Tryd.pinned (.plain (OpenSpec.ofChange fnExactParseProofSpec)) fnExactParseProofCard

/-- THE TIED CARD OF 'laws.FnExactParseDiagram'. -/
def fnExactParseDiagramCard : Claim7 := { stood := { row := fnExactParseDiagramRow, standIns := [], harness := (true, "ff2dec984ed3971f12589f5a132c2cfb707b118204f82a689bcb74b4904b07d8"), looks := true }, kinds := [], alts := [], laidByText := true, laidKinds := [.sentinel], laidTests := true, laidLooks := .later }
def FnExactParseDiagramCardSaid : Prop := Claim7.holds Tryd.pinned (.plain (OpenSpec.ofChange fnExactParseDiagramSpec)) fnExactParseDiagramCard

/-- THE SECOND FORM's CARD OF 'laws.FnExactFormulaText'. -/
def fnExactFormulaTextUptoCard : Claim7 := { stood := { row := fnExactFormulaTextUptoRow, standIns := [], harness := (true, "ff2dec984ed3971f12589f5a132c2cfb707b118204f82a689bcb74b4904b07d8"), looks := true }, kinds := [], alts := [], laidByText := true, laidKinds := [.data, .data, .data], laidTests := true, laidLooks := .later }
def FnExactFormulaTextUptoCardSaid : Prop := Claim7.holds Tryd.pinned (.plain (OpenSpec.upto fnExactFormulaTextSpec)) fnExactFormulaTextUptoCard

/-- THE SECOND FORM's CARD OF 'laws.FnExactParseProof'. -/
def fnExactParseProofUptoCard : Claim7 := { stood := { row := fnExactParseProofUptoRow, standIns := [], harness := (true, "ff2dec984ed3971f12589f5a132c2cfb707b118204f82a689bcb74b4904b07d8"), looks := true }, kinds := [], alts := [], laidByText := true, laidKinds := [.data, .data, .data, .data, .sentinel, .sentinel, .pinned], laidTests := true, laidLooks := .later }
def FnExactParseProofUptoCardSaid : Prop := Claim7.holds Tryd.pinned (.plain (OpenSpec.upto fnExactParseProofSpec)) fnExactParseProofUptoCard

/-- THE SECOND FORM's CARD OF 'laws.FnExactParseDiagram'. -/
def fnExactParseDiagramUptoCard : Claim7 := { stood := { row := fnExactParseDiagramUptoRow, standIns := [], harness := (true, "ff2dec984ed3971f12589f5a132c2cfb707b118204f82a689bcb74b4904b07d8"), looks := true }, kinds := [], alts := [], laidByText := true, laidKinds := [.sentinel], laidTests := true, laidLooks := .later }
def FnExactParseDiagramUptoCardSaid : Prop := Claim7.holds Tryd.pinned (.plain (OpenSpec.upto fnExactParseDiagramSpec)) fnExactParseDiagramUptoCard
end Rows
end Go.Proofs.YtjlpmfimbgbcmaaDoor
