/-
  DERIVED. GIVEN WITH THE SEED: THE CARDS: each row of YtkfgplfllddhnaaGreatDoorRows.lean that lists a variable, with what it lists TIED to the program's text (the seventh form; the later family's looks); each row that meets fmt, with fmt's text TOLD by the authors' own Lean function (tested against real Go, not proved from fmt's source: count such statements apart). THE CARD IS WHAT COUNTS. Prove the row's statement (the work); the ties are given (YtkfgplfllddhnaaGreatDoorTie.lean); close each card by the builder's one call (the guide's Derived/Test/ToyasCard.lean, 'card_holds'). Laid BY PROGRAM, IN A SANDBOX (cutbox-door.mjs). By AI agents, Wed Nov 11 2026. No macro, syntax, notation, axiom, sorry.
-/
import Derived.Test.YtkfgplfllddhnaaGreatDoorRows
import GoSem.ClaimSeven
namespace Go.Proofs.YtkfgplfllddhnaaGreatDoor
namespace Rows

/-- THE TIED CARD OF 'salvorlaw10.ProofWrong'. -/
def proofWrongCard : Claim7 := { stood := { row := proofWrongRow, standIns := [], harness := (true, "0e1ffcccfe3d807acd1f3fa91d1432eed85fe23c36f5a4f9172eaac8a33513c1"), looks := true }, kinds := [], alts := [], laidByText := true, laidKinds := [.data, .data, .data, .data, .sentinel, .sentinel, .pinned], laidTests := true, laidLooks := .later }
def ProofWrongCardSaid : Prop := Claim7.holds Tryz.pinned (.plain (OpenSpec.ofChange proofWrongSpec)) proofWrongCard

/-- THE SECOND FORM's CARD OF 'salvorlaw10.ProofWrong'. -/
def proofWrongUptoCard : Claim7 := { stood := { row := proofWrongUptoRow, standIns := [], harness := (true, "0e1ffcccfe3d807acd1f3fa91d1432eed85fe23c36f5a4f9172eaac8a33513c1"), looks := true }, kinds := [], alts := [], laidByText := true, laidKinds := [.data, .data, .data, .data, .sentinel, .sentinel, .pinned], laidTests := true, laidLooks := .later }
def ProofWrongUptoCardSaid : Prop := Claim7.holds Tryz.pinned (.plain (OpenSpec.upto proofWrongSpec)) proofWrongUptoCard
end Rows
end Go.Proofs.YtkfgplfllddhnaaGreatDoor
