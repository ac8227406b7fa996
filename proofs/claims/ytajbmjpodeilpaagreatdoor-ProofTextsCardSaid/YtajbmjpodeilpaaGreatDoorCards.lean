/-
  DERIVED. GIVEN WITH THE SEED: THE CARDS: each row of YtajbmjpodeilpaaGreatDoorRows.lean that lists a variable, with what it lists TIED to the program's text (the seventh form; the later family's looks); each row that meets fmt, with fmt's text TOLD by the authors' own Lean function (tested against real Go, not proved from fmt's source: count such statements apart). THE CARD IS WHAT COUNTS. Prove the row's statement (the work); the ties are given (YtajbmjpodeilpaaGreatDoorTie.lean); close each card by the builder's one call (the guide's Derived/Test/ToyasCard.lean, 'card_holds'). Laid BY PROGRAM, IN A SANDBOX (cutbox-door.mjs). By AI agents, Wed Nov 11 2026. No macro, syntax, notation, axiom, sorry.
-/
import Derived.Test.YtajbmjpodeilpaaGreatDoorRows
import GoSem.ClaimSeven
namespace Go.Proofs.YtajbmjpodeilpaaGreatDoor
namespace Rows

/-- THE TIED CARD OF 'salvorlaw10.ProofTexts'. -/
def proofTextsCard : Claim7 := { stood := { row := proofTextsRow, standIns := [], harness := (true, "63f9845d590c57d07a61a3015f756811b142c7b08b33cb5e3eb0b6479715b95b"), looks := true }, kinds := [], alts := [], laidByText := true, laidKinds := [.data, .data, .data, .data, .sentinel, .sentinel, .pinned], laidTests := true, laidLooks := .later }
def ProofTextsCardSaid : Prop := Claim7.holds Tryz.pinned (.plain (OpenSpec.ofChange proofTextsSpec)) proofTextsCard

/-- THE TIED CARD OF 'salvorlaw10.ProofSmall'. -/
def proofSmallCard : Claim7 := { stood := { row := proofSmallRow, standIns := [], harness := (true, "63f9845d590c57d07a61a3015f756811b142c7b08b33cb5e3eb0b6479715b95b"), looks := true }, kinds := [], alts := [], laidByText := true, laidKinds := [.data, .data, .data, .data, .sentinel, .sentinel, .pinned], laidTests := true, laidLooks := .later }
def ProofSmallCardSaid : Prop := Claim7.holds Tryz.pinned (.plain (OpenSpec.ofChange proofSmallSpec)) proofSmallCard

/-- THE SECOND FORM's CARD OF 'salvorlaw10.ProofTexts'. -/
def proofTextsUptoCard : Claim7 := { stood := { row := proofTextsUptoRow, standIns := [], harness := (true, "63f9845d590c57d07a61a3015f756811b142c7b08b33cb5e3eb0b6479715b95b"), looks := true }, kinds := [], alts := [], laidByText := true, laidKinds := [.data, .data, .data, .data, .sentinel, .sentinel, .pinned], laidTests := true, laidLooks := .later }
def ProofTextsUptoCardSaid : Prop := Claim7.holds Tryz.pinned (.plain (OpenSpec.upto proofTextsSpec)) proofTextsUptoCard

/-- THE SECOND FORM's CARD OF 'salvorlaw10.ProofSmall'. -/
def proofSmallUptoCard : Claim7 := { stood := { row := proofSmallUptoRow, standIns := [], harness := (true, "63f9845d590c57d07a61a3015f756811b142c7b08b33cb5e3eb0b6479715b95b"), looks := true }, kinds := [], alts := [], laidByText := true, laidKinds := [.data, .data, .data, .data, .sentinel, .sentinel, .pinned], laidTests := true, laidLooks := .later }
def ProofSmallUptoCardSaid : Prop := Claim7.holds Tryz.pinned (.plain (OpenSpec.upto proofSmallSpec)) proofSmallUptoCard
end Rows
end Go.Proofs.YtajbmjpodeilpaaGreatDoor
