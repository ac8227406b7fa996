/-
  DERIVED. GIVEN WITH THE SEED: THE CARDS: each row of YthhpffdbipgkcaaGreatDoorRows.lean that lists a variable, with what it lists TIED to the program's text (the seventh form; the later family's looks); each row that meets fmt, with fmt's text TOLD by the authors' own Lean function (tested against real Go, not proved from fmt's source: count such statements apart). THE CARD IS WHAT COUNTS. Prove the row's statement (the work); the ties are given (YthhpffdbipgkcaaGreatDoorTie.lean); close each card by the builder's one call (the guide's Derived/Test/ToyasCard.lean, 'card_holds'). Laid BY PROGRAM, IN A SANDBOX (cutbox-door.mjs). By AI agents, Wed Nov 11 2026. No macro, syntax, notation, axiom, sorry.
-/
import Derived.Test.YthhpffdbipgkcaaGreatDoorRows
import GoSem.ClaimSeven
namespace Go.Proofs.YthhpffdbipgkcaaGreatDoor
namespace Rows

/-- THE TIED CARD OF 'salvorlaw17.EmitHints'. -/
def emitHintsCard : Claim7 := { stood := { row := emitHintsRow, standIns := [], harness := (true, "9d73280032d1a4c67f05fed2ca0e93975537d9c94782ec6b9bc004cb7f026251"), looks := false }, kinds := [], alts := [], laidByText := true, laidKinds := [.data, .data, .data], laidTests := true, laidLooks := .later }
def EmitHintsCardSaid : Prop := Claim7.holds Tryz.pinned (.plain (OpenSpec.ofChange emitHintsSpec)) emitHintsCard

/-- THE SECOND FORM's CARD OF 'salvorlaw17.EmitHints'. -/
def emitHintsUptoCard : Claim7 := { stood := { row := emitHintsUptoRow, standIns := [], harness := (true, "9d73280032d1a4c67f05fed2ca0e93975537d9c94782ec6b9bc004cb7f026251"), looks := false }, kinds := [], alts := [], laidByText := true, laidKinds := [.data, .data, .data], laidTests := true, laidLooks := .later }
def EmitHintsUptoCardSaid : Prop := Claim7.holds Tryz.pinned (.plain (OpenSpec.upto emitHintsSpec)) emitHintsUptoCard
end Rows
end Go.Proofs.YthhpffdbipgkcaaGreatDoor
