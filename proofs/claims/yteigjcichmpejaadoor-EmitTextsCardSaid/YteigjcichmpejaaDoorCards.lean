/-
  DERIVED. GIVEN WITH THE SEED: THE CARDS: each row of YteigjcichmpejaaDoorRows.lean that lists a variable, with what it lists TIED to the program's text (the seventh form; the later family's looks); each row that meets fmt, with fmt's text TOLD by the authors' own Lean function (tested against real Go, not proved from fmt's source: count such statements apart). THE CARD IS WHAT COUNTS. Prove the row's statement (the work); the ties are given (YteigjcichmpejaaDoorTie.lean); close each card by the builder's one call (the guide's Derived/Test/ToyasCard.lean, 'card_holds'). Laid BY PROGRAM, IN A SANDBOX (cutbox-door.mjs). By AI agents, Wed Nov 11 2026. No macro, syntax, notation, axiom, sorry.
-/
import Derived.Test.YteigjcichmpejaaDoorRows
import GoSem.ClaimSeven
namespace Go.Proofs.YteigjcichmpejaaDoor
namespace Rows

/-- THE TIED CARD OF 'salvorlaw17.EmitTexts'. -/
def emitTextsCard : Claim7 := { stood := { row := emitTextsRow, standIns := [], harness := (true, "13e00ccea027e7b7958dae16d1830daf80e49d8905567f66a46095b71cb2046a"), looks := true }, kinds := [], alts := [], laidByText := true, laidKinds := [.data, .data, .data, .data, .sentinel, .sentinel, .pinned], laidTests := true, laidLooks := .later }
def EmitTextsCardSaid : Prop := Claim7.holds Tryd.pinned (.plain (OpenSpec.ofChange emitTextsSpec)) emitTextsCard

/-- THE SECOND FORM's CARD OF 'salvorlaw17.EmitTexts'. -/
def emitTextsUptoCard : Claim7 := { stood := { row := emitTextsUptoRow, standIns := [], harness := (true, "13e00ccea027e7b7958dae16d1830daf80e49d8905567f66a46095b71cb2046a"), looks := true }, kinds := [], alts := [], laidByText := true, laidKinds := [.data, .data, .data, .data, .sentinel, .sentinel, .pinned], laidTests := true, laidLooks := .later }
def EmitTextsUptoCardSaid : Prop := Claim7.holds Tryd.pinned (.plain (OpenSpec.upto emitTextsSpec)) emitTextsUptoCard
end Rows
end Go.Proofs.YteigjcichmpejaaDoor
