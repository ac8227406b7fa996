/-
  DERIVED. GIVEN WITH THE SEED: THE CARDS: each row of YtihigfpikiaaiaaDoorRows.lean that lists a variable, with what it lists TIED to the program's text (the seventh form; the later family's looks); each row that meets fmt, with fmt's text TOLD by the authors' own Lean function (tested against real Go, not proved from fmt's source: count such statements apart). THE CARD IS WHAT COUNTS. Prove the row's statement (the work); the ties are given (YtihigfpikiaaiaaDoorTie.lean); close each card by the builder's one call (the guide's Derived/Test/ToyasCard.lean, 'card_holds'). Laid BY PROGRAM, IN A SANDBOX (cutbox-door.mjs). By AI agents, Wed Nov 11 2026. No macro, syntax, notation, axiom, sorry.
-/
import Derived.Test.YtihigfpikiaaiaaDoorRows
import GoSem.ClaimSeven
namespace Go.Proofs.YtihigfpikiaaiaaDoor
namespace Rows

/-- THE TIED CARD OF 'salvorlaw28.TokensCovers'. -/
def tokensCoversCard : Claim7 := { stood := { row := tokensCoversRow, standIns := [], harness := (true, "967e911160ed70d72a95c0edcfd8323cb2f5be931032ea186f0d18a5376e6027"), looks := false }, kinds := [], alts := [], laidByText := true, laidKinds := [.data, .pinned], laidTests := true, laidLooks := .later }
def TokensCoversCardSaid : Prop := Claim7.holds Tryd.pinned (.plain (OpenSpec.ofChange tokensCoversSpec)) tokensCoversCard

/-- THE TIED CARD OF 'salvorlaw28.TokensMoves'. -/
def tokensMovesCard : Claim7 := { stood := { row := tokensMovesRow, standIns := [], harness := (true, "967e911160ed70d72a95c0edcfd8323cb2f5be931032ea186f0d18a5376e6027"), looks := false }, kinds := [], alts := [], laidByText := true, laidKinds := [.data, .pinned], laidTests := true, laidLooks := .later }
def TokensMovesCardSaid : Prop := Claim7.holds Tryd.pinned (.plain (OpenSpec.ofChange tokensMovesSpec)) tokensMovesCard

/-- THE TIED CARD OF 'salvorlaw28.TokensValues'. -/
def tokensValuesCard : Claim7 := { stood := { row := tokensValuesRow, standIns := [], harness := (true, "967e911160ed70d72a95c0edcfd8323cb2f5be931032ea186f0d18a5376e6027"), looks := false }, kinds := [], alts := [], laidByText := true, laidKinds := [.data, .pinned], laidTests := true, laidLooks := .later }
def TokensValuesCardSaid : Prop := Claim7.holds Tryd.pinned (.plain (OpenSpec.ofChange tokensValuesSpec)) tokensValuesCard

/-- THE TIED CARD OF 'salvorlaw28.TokensTells'. -/
def tokensTellsCard : Claim7 := { stood := { row := tokensTellsRow, standIns := [], harness := (true, "967e911160ed70d72a95c0edcfd8323cb2f5be931032ea186f0d18a5376e6027"), looks := false }, kinds := [], alts := [], laidByText := true, laidKinds := [.data, .pinned], laidTests := true, laidLooks := .later }
def TokensTellsCardSaid : Prop := Claim7.holds Tryd.pinned (.plain (OpenSpec.ofChange tokensTellsSpec)) tokensTellsCard

/-- THE TIED CARD OF 'salvorlaw28.TokensBack'. -/
def tokensBackCard : Claim7 := { stood := { row := tokensBackRow, standIns := [], harness := (true, "967e911160ed70d72a95c0edcfd8323cb2f5be931032ea186f0d18a5376e6027"), looks := false }, kinds := [], alts := [], laidByText := true, laidKinds := [.data, .pinned], laidTests := true, laidLooks := .later }
def TokensBackCardSaid : Prop := Claim7.holds Tryd.pinned (.plain (OpenSpec.ofChange tokensBackSpec)) tokensBackCard

/-- THE TIED CARD OF 'salvorlaw28.TokensNumbers'. -/
def tokensNumbersCard : Claim7 := { stood := { row := tokensNumbersRow, standIns := [], harness := (true, "967e911160ed70d72a95c0edcfd8323cb2f5be931032ea186f0d18a5376e6027"), looks := false }, kinds := [], alts := [], laidByText := true, laidKinds := [.data, .pinned], laidTests := true, laidLooks := .later }
def TokensNumbersCardSaid : Prop := Claim7.holds Tryd.pinned (.plain (OpenSpec.ofChange tokensNumbersSpec)) tokensNumbersCard

/-- THE TIED CARD OF 'salvorlaw28.TokensSmall'. -/
def tokensSmallCard : Claim7 := { stood := { row := tokensSmallRow, standIns := [], harness := (true, "967e911160ed70d72a95c0edcfd8323cb2f5be931032ea186f0d18a5376e6027"), looks := false }, kinds := [], alts := [], laidByText := true, laidKinds := [.data, .pinned], laidTests := true, laidLooks := .later }
def TokensSmallCardSaid : Prop := Claim7.holds Tryd.pinned (.plain (OpenSpec.ofChange tokensSmallSpec)) tokensSmallCard

/-- THE SECOND FORM's CARD OF 'salvorlaw28.TokensCovers'. -/
def tokensCoversUptoCard : Claim7 := { stood := { row := tokensCoversUptoRow, standIns := [], harness := (true, "967e911160ed70d72a95c0edcfd8323cb2f5be931032ea186f0d18a5376e6027"), looks := false }, kinds := [], alts := [], laidByText := true, laidKinds := [.data, .pinned], laidTests := true, laidLooks := .later }
def TokensCoversUptoCardSaid : Prop := Claim7.holds Tryd.pinned (.plain (OpenSpec.upto tokensCoversSpec)) tokensCoversUptoCard

/-- THE SECOND FORM's CARD OF 'salvorlaw28.TokensMoves'. -/
def tokensMovesUptoCard : Claim7 := { stood := { row := tokensMovesUptoRow, standIns := [], harness := (true, "967e911160ed70d72a95c0edcfd8323cb2f5be931032ea186f0d18a5376e6027"), looks := false }, kinds := [], alts := [], laidByText := true, laidKinds := [.data, .pinned], laidTests := true, laidLooks := .later }
def TokensMovesUptoCardSaid : Prop := Claim7.holds Tryd.pinned (.plain (OpenSpec.upto tokensMovesSpec)) tokensMovesUptoCard

/-- THE SECOND FORM's CARD OF 'salvorlaw28.TokensValues'. -/
def tokensValuesUptoCard : Claim7 := { stood := { row := tokensValuesUptoRow, standIns := [], harness := (true, "967e911160ed70d72a95c0edcfd8323cb2f5be931032ea186f0d18a5376e6027"), looks := false }, kinds := [], alts := [], laidByText := true, laidKinds := [.data, .pinned], laidTests := true, laidLooks := .later }
def TokensValuesUptoCardSaid : Prop := Claim7.holds Tryd.pinned (.plain (OpenSpec.upto tokensValuesSpec)) tokensValuesUptoCard

/-- THE SECOND FORM's CARD OF 'salvorlaw28.TokensTells'. -/
def tokensTellsUptoCard : Claim7 := { stood := { row := tokensTellsUptoRow, standIns := [], harness := (true, "967e911160ed70d72a95c0edcfd8323cb2f5be931032ea186f0d18a5376e6027"), looks := false }, kinds := [], alts := [], laidByText := true, laidKinds := [.data, .pinned], laidTests := true, laidLooks := .later }
def TokensTellsUptoCardSaid : Prop := Claim7.holds Tryd.pinned (.plain (OpenSpec.upto tokensTellsSpec)) tokensTellsUptoCard

/-- THE SECOND FORM's CARD OF 'salvorlaw28.TokensBack'. -/
def tokensBackUptoCard : Claim7 := { stood := { row := tokensBackUptoRow, standIns := [], harness := (true, "967e911160ed70d72a95c0edcfd8323cb2f5be931032ea186f0d18a5376e6027"), looks := false }, kinds := [], alts := [], laidByText := true, laidKinds := [.data, .pinned], laidTests := true, laidLooks := .later }
def TokensBackUptoCardSaid : Prop := Claim7.holds Tryd.pinned (.plain (OpenSpec.upto tokensBackSpec)) tokensBackUptoCard

/-- THE SECOND FORM's CARD OF 'salvorlaw28.TokensNumbers'. -/
def tokensNumbersUptoCard : Claim7 := { stood := { row := tokensNumbersUptoRow, standIns := [], harness := (true, "967e911160ed70d72a95c0edcfd8323cb2f5be931032ea186f0d18a5376e6027"), looks := false }, kinds := [], alts := [], laidByText := true, laidKinds := [.data, .pinned], laidTests := true, laidLooks := .later }
def TokensNumbersUptoCardSaid : Prop := Claim7.holds Tryd.pinned (.plain (OpenSpec.upto tokensNumbersSpec)) tokensNumbersUptoCard

/-- THE SECOND FORM's CARD OF 'salvorlaw28.TokensSmall'. -/
def tokensSmallUptoCard : Claim7 := { stood := { row := tokensSmallUptoRow, standIns := [], harness := (true, "967e911160ed70d72a95c0edcfd8323cb2f5be931032ea186f0d18a5376e6027"), looks := false }, kinds := [], alts := [], laidByText := true, laidKinds := [.data, .pinned], laidTests := true, laidLooks := .later }
def TokensSmallUptoCardSaid : Prop := Claim7.holds Tryd.pinned (.plain (OpenSpec.upto tokensSmallSpec)) tokensSmallUptoCard
end Rows
end Go.Proofs.YtihigfpikiaaiaaDoor
