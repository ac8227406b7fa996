/-
  DERIVED. GIVEN WITH THE SEED: THE CARDS: each row of YtcbjjdpngeabgaaGreatDoorRows.lean that lists a variable, with what it lists TIED to the program's text (the seventh form; the later family's looks); each row that meets fmt, with fmt's text TOLD by the authors' own Lean function (tested against real Go, not proved from fmt's source: count such statements apart). THE CARD IS WHAT COUNTS. Prove the row's statement (the work); the ties are given (YtcbjjdpngeabgaaGreatDoorTie.lean); close each card by the builder's one call (the guide's Derived/Test/ToyasCard.lean, 'card_holds'). Laid BY PROGRAM, IN A SANDBOX (cutbox-door.mjs). By AI agents, Wed Nov 11 2026. No macro, syntax, notation, axiom, sorry.
-/
import Derived.Test.YtcbjjdpngeabgaaGreatDoorRows
import GoSem.ClaimSeven
namespace Go.Proofs.YtcbjjdpngeabgaaGreatDoor
namespace Rows

/-- THE TIED CARD OF 'salvorlaw17.EmitProves'. -/
def emitProvesCard : Claim7 := { stood := { row := emitProvesRow, standIns := [], harness := (true, "a07a54cdda537bb436baaa7b87b9c3be9b21a95cbb92155b7326d10014452d10"), looks := true }, kinds := [], alts := [], laidByText := true, laidKinds := [.data, .data, .data], laidTests := true, laidLooks := .later }
def EmitProvesCardSaid : Prop := Claim7.holds Tryz.pinned (.plain (OpenSpec.ofChange emitProvesSpec)) emitProvesCard

/-- THE SECOND FORM's CARD OF 'salvorlaw17.EmitProves'. -/
def emitProvesUptoCard : Claim7 := { stood := { row := emitProvesUptoRow, standIns := [], harness := (true, "a07a54cdda537bb436baaa7b87b9c3be9b21a95cbb92155b7326d10014452d10"), looks := true }, kinds := [], alts := [], laidByText := true, laidKinds := [.data, .data, .data], laidTests := true, laidLooks := .later }
def EmitProvesUptoCardSaid : Prop := Claim7.holds Tryz.pinned (.plain (OpenSpec.upto emitProvesSpec)) emitProvesUptoCard
end Rows
end Go.Proofs.YtcbjjdpngeabgaaGreatDoor
