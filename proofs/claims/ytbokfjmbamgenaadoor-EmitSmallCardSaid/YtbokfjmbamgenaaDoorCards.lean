/-
  DERIVED. GIVEN WITH THE SEED: THE CARDS: each row of YtbokfjmbamgenaaDoorRows.lean that lists a variable, with what it lists TIED to the program's text (the seventh form; the later family's looks); each row that meets fmt, with fmt's text TOLD by the authors' own Lean function (tested against real Go, not proved from fmt's source: count such statements apart). THE CARD IS WHAT COUNTS. Prove the row's statement (the work); the ties are given (YtbokfjmbamgenaaDoorTie.lean); close each card by the builder's one call (the guide's Derived/Test/ToyasCard.lean, 'card_holds'). Laid BY PROGRAM, IN A SANDBOX (cutbox-door.mjs). By AI agents, Wed Nov 11 2026. No macro, syntax, notation, axiom, sorry.
-/
import Derived.Test.YtbokfjmbamgenaaDoorRows
import GoSem.ClaimSeven
namespace Go.Proofs.YtbokfjmbamgenaaDoor
namespace Rows

/-- THE TIED CARD OF 'salvorlaw17.EmitPlays'. -/
def emitPlaysCard : Claim7 := { stood := { row := emitPlaysRow, standIns := [], harness := (true, "a0b5c79530755c82b70895b14afd1175a6ad0bc1a0d119662daee9ffd2e9b4e2"), looks := true }, kinds := [], alts := [], laidByText := true, laidKinds := [.data, .data, .data], laidTests := true, laidLooks := .later }
def EmitPlaysCardSaid : Prop := Claim7.holds Tryd.pinned (.plain (OpenSpec.ofChange emitPlaysSpec)) emitPlaysCard

/-- THE TIED CARD OF 'salvorlaw17.EmitSmall'. -/
def emitSmallCard : Claim7 := { stood := { row := emitSmallRow, standIns := [], harness := (true, "a0b5c79530755c82b70895b14afd1175a6ad0bc1a0d119662daee9ffd2e9b4e2"), looks := true }, kinds := [], alts := [], laidByText := true, laidKinds := [.data, .data, .data], laidTests := true, laidLooks := .later }
def EmitSmallCardSaid : Prop := Claim7.holds Tryd.pinned (.plain (OpenSpec.ofChange emitSmallSpec)) emitSmallCard

/-- THE TIED CARD OF 'salvorlaw17.EmitTexts'. -/
def emitTextsCard : Claim7 := { stood := { row := emitTextsRow, standIns := [], harness := (true, "a0b5c79530755c82b70895b14afd1175a6ad0bc1a0d119662daee9ffd2e9b4e2"), looks := true }, kinds := [], alts := [], laidByText := true, laidKinds := [.data, .data, .data, .data, .sentinel, .sentinel, .pinned], laidTests := true, laidLooks := .later }
def EmitTextsCardSaid : Prop := Claim7.holds Tryd.pinned (.plain (OpenSpec.ofChange emitTextsSpec)) emitTextsCard

/-- THE SECOND FORM's CARD OF 'salvorlaw17.EmitPlays'. -/
def emitPlaysUptoCard : Claim7 := { stood := { row := emitPlaysUptoRow, standIns := [], harness := (true, "a0b5c79530755c82b70895b14afd1175a6ad0bc1a0d119662daee9ffd2e9b4e2"), looks := true }, kinds := [], alts := [], laidByText := true, laidKinds := [.data, .data, .data], laidTests := true, laidLooks := .later }
def EmitPlaysUptoCardSaid : Prop := Claim7.holds Tryd.pinned (.plain (OpenSpec.upto emitPlaysSpec)) emitPlaysUptoCard

/-- THE SECOND FORM's CARD OF 'salvorlaw17.EmitSmall'. -/
def emitSmallUptoCard : Claim7 := { stood := { row := emitSmallUptoRow, standIns := [], harness := (true, "a0b5c79530755c82b70895b14afd1175a6ad0bc1a0d119662daee9ffd2e9b4e2"), looks := true }, kinds := [], alts := [], laidByText := true, laidKinds := [.data, .data, .data], laidTests := true, laidLooks := .later }
def EmitSmallUptoCardSaid : Prop := Claim7.holds Tryd.pinned (.plain (OpenSpec.upto emitSmallSpec)) emitSmallUptoCard

/-- THE SECOND FORM's CARD OF 'salvorlaw17.EmitTexts'. -/
def emitTextsUptoCard : Claim7 := { stood := { row := emitTextsUptoRow, standIns := [], harness := (true, "a0b5c79530755c82b70895b14afd1175a6ad0bc1a0d119662daee9ffd2e9b4e2"), looks := true }, kinds := [], alts := [], laidByText := true, laidKinds := [.data, .data, .data, .data, .sentinel, .sentinel, .pinned], laidTests := true, laidLooks := .later }
def EmitTextsUptoCardSaid : Prop := Claim7.holds Tryd.pinned (.plain (OpenSpec.upto emitTextsSpec)) emitTextsUptoCard
end Rows
end Go.Proofs.YtbokfjmbamgenaaDoor
