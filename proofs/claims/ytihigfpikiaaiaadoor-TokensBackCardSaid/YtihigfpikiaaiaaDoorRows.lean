/-
  NARROWER THAN 'FOR EVERY INPUT', by the rows' own cells (each row's printed sentence says how): TokensCovers: laid · TokensMoves: laid · TokensValues: laid · TokensTells: laid · TokensBack: laid · TokensNumbers: laid · TokensSmall: laid.
  DERIVED. THE GIVEN ROWS OF THIS SEAT. 7 by the template 'for every input the law returns true; each argument reads behind the call as it read before'; 0 by the template 'total and deterministic' (their statements: YtihigfpikiaaiaaDoorTotals.lean).
  GIVEN WITH THE SEED: the statements are not yours to turn. If you find one false, say at which input.
  Laid BY PROGRAM, IN A SANDBOX (cutbox-rows.mjs): the forced cells as the released guide's own fill.sh prints them over the translation 20948df62a7b1b5d… (all of the seat's roots in one cut). By AI agents, Wed Nov 11 2026. No macro, syntax, notation, axiom, sorry.
-/
import Derived.Test.YtihigfpikiaaiaaDoorChecked
import GoSem.PinnedTables
import GoSem.Claim
import GoSem.ClaimJoined
import GoSem.ClaimMapViews
import Derived.JoinedTies
import Derived.KernelRfl
namespace Go.Proofs.YtihigfpikiaaiaaDoor
/- THE CELL 'sum', in the pinned program and in every row, IS THE sha256 OF THE DUMP (.gsa) THAT YtihigfpikiaaiaaDoorProg.lean LOADS. Nothing in Lean hashes anything: it is a label: what it is worth is what the hold of that sum in a sandbox is worth. -/
noncomputable def Tryd.pinned : Pinned := { name := "ytihigfpikiaaiaadoor", sum := "20948df62a7b1b5d9dfa40bdf1eef62d1be8143a9aa212f6d272381baee74806", checked := Tryd.checked }
namespace Rows
def none {H : Type} : Left H := { results := [], args := [] }

/- WHAT THE LISTED PACKAGE-LEVEL VARIABLES READ AS WHEN THE CALL BEGINS. Each datum BY PROGRAM (the guide's laid-datum.mjs) off the statement by which the dump's own 'gosem.cut.vars' lays the variable. In a bare row this is a premise. The card (YtihigfpikiaaiaaDoorCards.lean) ties it to the program's text. -/
def laid_unicode_utf8_acceptRanges {H : Type} : DataW H := .agg [.agg [.lit (.int .u8 128), .lit (.int .u8 191)], .agg [.lit (.int .u8 160), .lit (.int .u8 191)], .agg [.lit (.int .u8 128), .lit (.int .u8 159)], .agg [.lit (.int .u8 144), .lit (.int .u8 191)], .agg [.lit (.int .u8 128), .lit (.int .u8 143)], .agg [.lit (.int .u8 0), .lit (.int .u8 0)], .agg [.lit (.int .u8 0), .lit (.int .u8 0)], .agg [.lit (.int .u8 0), .lit (.int .u8 0)], .agg [.lit (.int .u8 0), .lit (.int .u8 0)], .agg [.lit (.int .u8 0), .lit (.int .u8 0)], .agg [.lit (.int .u8 0), .lit (.int .u8 0)], .agg [.lit (.int .u8 0), .lit (.int .u8 0)], .agg [.lit (.int .u8 0), .lit (.int .u8 0)], .agg [.lit (.int .u8 0), .lit (.int .u8 0)], .agg [.lit (.int .u8 0), .lit (.int .u8 0)], .agg [.lit (.int .u8 0), .lit (.int .u8 0)]]
/-- One of Go's own tables, pinned by name: the form's constant. -/
def laid_unicode_utf8_first : DataW Unit := Go.Pinned.utf8First

/-- 'salvorlaw28.TokensCovers': WHATEVER THE INPUT: true; the input reads as it did. -/
def tokensCoversSpec : ChangeSpec := { name := "tokensCovers", fn := fun _ => fun
  | [d] => { results := [.lit (.bool true)], args := [d] }
  | _ => none }
def tokensCoversRow : OpenClaim := { program := "ytihigfpikiaaiaadoor", sum := "20948df62a7b1b5d9dfa40bdf1eef62d1be8143a9aa212f6d272381baee74806", func := "salvor/salvorlaw28.TokensCovers", spec := "tokensCovers", inPlace := ["internal/bytealg.IndexByteString", "internal/bytealg.CountString", "internal/bytealg.IndexString"], unfollowed := true, recurses := true, named := ["unicode/utf8.first", "unicode/utf8.acceptRanges", "internal/bytealg.MaxLen"], apart := false, laid := [("unicode/utf8.acceptRanges", laid_unicode_utf8_acceptRanges), ("unicode/utf8.first", laid_unicode_utf8_first)] }
def TokensCoversSaid : Prop := tokensCoversRow.holds Tryd.pinned (OpenSpec.ofChange tokensCoversSpec)

/-- ITS FALSE NEIGHBOUR: 'it returns false'. Refute it at one input. -/
def tokensCoversWrong : ChangeSpec := { name := "tokensCovers", fn := fun _ => fun
  | [d] => { results := [.lit (.bool false)], args := [d] }
  | _ => none }
def TokensCoversWrongFalsely : Prop := tokensCoversRow.holds Tryd.pinned (OpenSpec.ofChange tokensCoversWrong)

/-- 'salvorlaw28.TokensMoves': WHATEVER THE INPUT: true; the input reads as it did. -/
def tokensMovesSpec : ChangeSpec := { name := "tokensMoves", fn := fun _ => fun
  | [d1, d2, d3] => { results := [.lit (.bool true)], args := [d1, d2, d3] }
  | _ => none }
def tokensMovesRow : OpenClaim := { program := "ytihigfpikiaaiaadoor", sum := "20948df62a7b1b5d9dfa40bdf1eef62d1be8143a9aa212f6d272381baee74806", func := "salvor/salvorlaw28.TokensMoves", spec := "tokensMoves", inPlace := ["internal/bytealg.IndexByteString", "internal/bytealg.CountString", "internal/bytealg.IndexString"], unfollowed := true, recurses := true, named := ["unicode/utf8.first", "unicode/utf8.acceptRanges", "internal/bytealg.MaxLen"], apart := false, laid := [("unicode/utf8.acceptRanges", laid_unicode_utf8_acceptRanges), ("unicode/utf8.first", laid_unicode_utf8_first)] }
def TokensMovesSaid : Prop := tokensMovesRow.holds Tryd.pinned (OpenSpec.ofChange tokensMovesSpec)

/-- ITS FALSE NEIGHBOUR: 'it returns false'. Refute it at one input. -/
def tokensMovesWrong : ChangeSpec := { name := "tokensMoves", fn := fun _ => fun
  | [d1, d2, d3] => { results := [.lit (.bool false)], args := [d1, d2, d3] }
  | _ => none }
def TokensMovesWrongFalsely : Prop := tokensMovesRow.holds Tryd.pinned (OpenSpec.ofChange tokensMovesWrong)

/-- 'salvorlaw28.TokensValues': WHATEVER THE INPUT: true; the input reads as it did. -/
def tokensValuesSpec : ChangeSpec := { name := "tokensValues", fn := fun _ => fun
  | [d] => { results := [.lit (.bool true)], args := [d] }
  | _ => none }
def tokensValuesRow : OpenClaim := { program := "ytihigfpikiaaiaadoor", sum := "20948df62a7b1b5d9dfa40bdf1eef62d1be8143a9aa212f6d272381baee74806", func := "salvor/salvorlaw28.TokensValues", spec := "tokensValues", inPlace := ["internal/bytealg.IndexByteString", "internal/bytealg.IndexString", "internal/bytealg.CountString"], unfollowed := true, recurses := true, named := ["internal/bytealg.MaxLen", "unicode/utf8.first", "unicode/utf8.acceptRanges"], apart := false, laid := [("unicode/utf8.acceptRanges", laid_unicode_utf8_acceptRanges), ("unicode/utf8.first", laid_unicode_utf8_first)] }
def TokensValuesSaid : Prop := tokensValuesRow.holds Tryd.pinned (OpenSpec.ofChange tokensValuesSpec)

/-- ITS FALSE NEIGHBOUR: 'it returns false'. Refute it at one input. -/
def tokensValuesWrong : ChangeSpec := { name := "tokensValues", fn := fun _ => fun
  | [d] => { results := [.lit (.bool false)], args := [d] }
  | _ => none }
def TokensValuesWrongFalsely : Prop := tokensValuesRow.holds Tryd.pinned (OpenSpec.ofChange tokensValuesWrong)

/-- 'salvorlaw28.TokensTells': WHATEVER THE INPUT: true; the input reads as it did. -/
def tokensTellsSpec : ChangeSpec := { name := "tokensTells", fn := fun _ => fun
  | [d1, d2, d3] => { results := [.lit (.bool true)], args := [d1, d2, d3] }
  | _ => none }
def tokensTellsRow : OpenClaim := { program := "ytihigfpikiaaiaadoor", sum := "20948df62a7b1b5d9dfa40bdf1eef62d1be8143a9aa212f6d272381baee74806", func := "salvor/salvorlaw28.TokensTells", spec := "tokensTells", inPlace := ["internal/bytealg.IndexByteString", "internal/bytealg.CountString", "internal/bytealg.IndexString", "internal/abi.NoEscape", "internal/bytealg.MakeNoZero"], unfollowed := true, recurses := true, named := ["unicode/utf8.first", "unicode/utf8.acceptRanges", "internal/bytealg.MaxLen"], apart := false, laid := [("unicode/utf8.acceptRanges", laid_unicode_utf8_acceptRanges), ("unicode/utf8.first", laid_unicode_utf8_first)] }
def TokensTellsSaid : Prop := tokensTellsRow.holds Tryd.pinned (OpenSpec.ofChange tokensTellsSpec)

/-- ITS FALSE NEIGHBOUR: 'it returns false'. Refute it at one input. -/
def tokensTellsWrong : ChangeSpec := { name := "tokensTells", fn := fun _ => fun
  | [d1, d2, d3] => { results := [.lit (.bool false)], args := [d1, d2, d3] }
  | _ => none }
def TokensTellsWrongFalsely : Prop := tokensTellsRow.holds Tryd.pinned (OpenSpec.ofChange tokensTellsWrong)

/-- 'salvorlaw28.TokensBack': WHATEVER THE INPUT: true; the input reads as it did. -/
def tokensBackSpec : ChangeSpec := { name := "tokensBack", fn := fun _ => fun
  | [d1, d2] => { results := [.lit (.bool true)], args := [d1, d2] }
  | _ => none }
def tokensBackRow : OpenClaim := { program := "ytihigfpikiaaiaadoor", sum := "20948df62a7b1b5d9dfa40bdf1eef62d1be8143a9aa212f6d272381baee74806", func := "salvor/salvorlaw28.TokensBack", spec := "tokensBack", inPlace := ["internal/bytealg.IndexByteString", "internal/bytealg.CountString", "internal/bytealg.IndexString", "internal/abi.NoEscape", "internal/bytealg.MakeNoZero"], unfollowed := true, recurses := true, named := ["unicode/utf8.first", "unicode/utf8.acceptRanges", "internal/bytealg.MaxLen"], apart := false, laid := [("unicode/utf8.acceptRanges", laid_unicode_utf8_acceptRanges), ("unicode/utf8.first", laid_unicode_utf8_first)] }
def TokensBackSaid : Prop := tokensBackRow.holds Tryd.pinned (OpenSpec.ofChange tokensBackSpec)

/-- ITS FALSE NEIGHBOUR: 'it returns false'. Refute it at one input. -/
def tokensBackWrong : ChangeSpec := { name := "tokensBack", fn := fun _ => fun
  | [d1, d2] => { results := [.lit (.bool false)], args := [d1, d2] }
  | _ => none }
def TokensBackWrongFalsely : Prop := tokensBackRow.holds Tryd.pinned (OpenSpec.ofChange tokensBackWrong)

/-- 'salvorlaw28.TokensNumbers': WHATEVER THE INPUT: true; the input reads as it did. -/
def tokensNumbersSpec : ChangeSpec := { name := "tokensNumbers", fn := fun _ => fun
  | [d1, d2, d3] => { results := [.lit (.bool true)], args := [d1, d2, d3] }
  | _ => none }
def tokensNumbersRow : OpenClaim := { program := "ytihigfpikiaaiaadoor", sum := "20948df62a7b1b5d9dfa40bdf1eef62d1be8143a9aa212f6d272381baee74806", func := "salvor/salvorlaw28.TokensNumbers", spec := "tokensNumbers", inPlace := ["internal/bytealg.IndexByteString", "internal/bytealg.CountString", "internal/bytealg.IndexString", "internal/abi.NoEscape", "internal/bytealg.MakeNoZero"], unfollowed := true, recurses := true, named := ["unicode/utf8.first", "unicode/utf8.acceptRanges", "internal/bytealg.MaxLen"], apart := false, laid := [("unicode/utf8.acceptRanges", laid_unicode_utf8_acceptRanges), ("unicode/utf8.first", laid_unicode_utf8_first)] }
def TokensNumbersSaid : Prop := tokensNumbersRow.holds Tryd.pinned (OpenSpec.ofChange tokensNumbersSpec)

/-- ITS FALSE NEIGHBOUR: 'it returns false'. Refute it at one input. -/
def tokensNumbersWrong : ChangeSpec := { name := "tokensNumbers", fn := fun _ => fun
  | [d1, d2, d3] => { results := [.lit (.bool false)], args := [d1, d2, d3] }
  | _ => none }
def TokensNumbersWrongFalsely : Prop := tokensNumbersRow.holds Tryd.pinned (OpenSpec.ofChange tokensNumbersWrong)

/-- 'salvorlaw28.TokensSmall': WHATEVER THE INPUT: true; the input reads as it did. -/
def tokensSmallSpec : ChangeSpec := { name := "tokensSmall", fn := fun _ => fun
  | [] => { results := [.lit (.bool true)], args := [] }
  | _ => none }
def tokensSmallRow : OpenClaim := { program := "ytihigfpikiaaiaadoor", sum := "20948df62a7b1b5d9dfa40bdf1eef62d1be8143a9aa212f6d272381baee74806", func := "salvor/salvorlaw28.TokensSmall", spec := "tokensSmall", inPlace := ["internal/bytealg.IndexByteString", "internal/bytealg.CountString", "internal/bytealg.IndexString", "internal/abi.NoEscape", "internal/bytealg.MakeNoZero"], unfollowed := true, recurses := true, named := ["unicode/utf8.first", "unicode/utf8.acceptRanges", "internal/bytealg.MaxLen"], apart := false, laid := [("unicode/utf8.acceptRanges", laid_unicode_utf8_acceptRanges), ("unicode/utf8.first", laid_unicode_utf8_first)] }
def TokensSmallSaid : Prop := tokensSmallRow.holds Tryd.pinned (OpenSpec.ofChange tokensSmallSpec)

/-- ITS FALSE NEIGHBOUR: 'it returns false'. Refute it at one input. -/
def tokensSmallWrong : ChangeSpec := { name := "tokensSmall", fn := fun _ => fun
  | [] => { results := [.lit (.bool false)], args := [] }
  | _ => none }
def TokensSmallWrongFalsely : Prop := tokensSmallRow.holds Tryd.pinned (OpenSpec.ofChange tokensSmallWrong)

/- THE SECOND FORM. 'bulk': how many values and letters a reading holds, each counted each time it is reached (what is shared counts as often as it is met; a slice's spare places count too). A statement '..UptoSaid' is the law's where the arguments, and the package variables that the reading takes, are together of bulk at most 1048576: NARROWER than '..Said'. Prove '..Said' where nothing that the law and all that it calls make is longer than what came in: it says more and counts as full. Else prove '..UptoSaid'. A law counts once. -/
mutual
def uptoBulk {H : Type} : DataW H → Nat
  | .lit (.string bytes) => bytes.length + 1
  | .lit _ => 1
  | .nil => 1
  | .ptr d => uptoBulk d + 1
  | .slice elems spare => uptoBulkAll elems + uptoBulkAll spare + 1
  | .agg parts => uptoBulkAll parts + 1
  | .iface _ d => uptoBulk d + 1
  | .map entries => uptoBulkEntries entries + 1
  | .held _ => 1
def uptoBulkAll {H : Type} : List (DataW H) → Nat
  | [] => 0
  | d :: r => uptoBulk d + uptoBulkAll r
def uptoBulkEntries {H : Type} : List (Lit × DataW H) → Nat
  | [] => 0
  | x :: r => uptoBulkEntry x + uptoBulkEntries r
def uptoBulkEntry {H : Type} : Lit × DataW H → Nat
  | (.string bytes, d) => bytes.length + uptoBulk d + 1
  | (_, d) => uptoBulk d + 1
 end
def uptoSmall : (H : Type) → List (DataW H) → Bool := fun _ ds => decide (uptoBulkAll ds ≤ 1048576)
def OpenSpec.upto (s : _root_.Go.ChangeSpec) : _root_.Go.OpenSpec := { _root_.Go.OpenSpec.ofChange s with cond := some uptoSmall }

/-- 'salvorlaw28.TokensCovers', WHERE WHAT IT READS IS OF BULK AT MOST 1048576: true; the input reads as it did. -/
def tokensCoversUptoRow : OpenClaim := { program := "ytihigfpikiaaiaadoor", sum := "20948df62a7b1b5d9dfa40bdf1eef62d1be8143a9aa212f6d272381baee74806", func := "salvor/salvorlaw28.TokensCovers", spec := "tokensCovers", inPlace := ["internal/bytealg.IndexByteString", "internal/bytealg.CountString", "internal/bytealg.IndexString"], unfollowed := true, recurses := true, named := ["unicode/utf8.first", "unicode/utf8.acceptRanges", "internal/bytealg.MaxLen"], apart := false, laid := [("unicode/utf8.acceptRanges", laid_unicode_utf8_acceptRanges), ("unicode/utf8.first", laid_unicode_utf8_first)], narrowed := true }
def TokensCoversUptoSaid : Prop := tokensCoversUptoRow.holds Tryd.pinned (OpenSpec.upto tokensCoversSpec)

/-- 'salvorlaw28.TokensMoves', WHERE WHAT IT READS IS OF BULK AT MOST 1048576: true; the input reads as it did. -/
def tokensMovesUptoRow : OpenClaim := { program := "ytihigfpikiaaiaadoor", sum := "20948df62a7b1b5d9dfa40bdf1eef62d1be8143a9aa212f6d272381baee74806", func := "salvor/salvorlaw28.TokensMoves", spec := "tokensMoves", inPlace := ["internal/bytealg.IndexByteString", "internal/bytealg.CountString", "internal/bytealg.IndexString"], unfollowed := true, recurses := true, named := ["unicode/utf8.first", "unicode/utf8.acceptRanges", "internal/bytealg.MaxLen"], apart := false, laid := [("unicode/utf8.acceptRanges", laid_unicode_utf8_acceptRanges), ("unicode/utf8.first", laid_unicode_utf8_first)], narrowed := true }
def TokensMovesUptoSaid : Prop := tokensMovesUptoRow.holds Tryd.pinned (OpenSpec.upto tokensMovesSpec)

/-- 'salvorlaw28.TokensValues', WHERE WHAT IT READS IS OF BULK AT MOST 1048576: true; the input reads as it did. -/
def tokensValuesUptoRow : OpenClaim := { program := "ytihigfpikiaaiaadoor", sum := "20948df62a7b1b5d9dfa40bdf1eef62d1be8143a9aa212f6d272381baee74806", func := "salvor/salvorlaw28.TokensValues", spec := "tokensValues", inPlace := ["internal/bytealg.IndexByteString", "internal/bytealg.IndexString", "internal/bytealg.CountString"], unfollowed := true, recurses := true, named := ["internal/bytealg.MaxLen", "unicode/utf8.first", "unicode/utf8.acceptRanges"], apart := false, laid := [("unicode/utf8.acceptRanges", laid_unicode_utf8_acceptRanges), ("unicode/utf8.first", laid_unicode_utf8_first)], narrowed := true }
def TokensValuesUptoSaid : Prop := tokensValuesUptoRow.holds Tryd.pinned (OpenSpec.upto tokensValuesSpec)

/-- 'salvorlaw28.TokensTells', WHERE WHAT IT READS IS OF BULK AT MOST 1048576: true; the input reads as it did. -/
def tokensTellsUptoRow : OpenClaim := { program := "ytihigfpikiaaiaadoor", sum := "20948df62a7b1b5d9dfa40bdf1eef62d1be8143a9aa212f6d272381baee74806", func := "salvor/salvorlaw28.TokensTells", spec := "tokensTells", inPlace := ["internal/bytealg.IndexByteString", "internal/bytealg.CountString", "internal/bytealg.IndexString", "internal/abi.NoEscape", "internal/bytealg.MakeNoZero"], unfollowed := true, recurses := true, named := ["unicode/utf8.first", "unicode/utf8.acceptRanges", "internal/bytealg.MaxLen"], apart := false, laid := [("unicode/utf8.acceptRanges", laid_unicode_utf8_acceptRanges), ("unicode/utf8.first", laid_unicode_utf8_first)], narrowed := true }
def TokensTellsUptoSaid : Prop := tokensTellsUptoRow.holds Tryd.pinned (OpenSpec.upto tokensTellsSpec)

/-- 'salvorlaw28.TokensBack', WHERE WHAT IT READS IS OF BULK AT MOST 1048576: true; the input reads as it did. -/
def tokensBackUptoRow : OpenClaim := { program := "ytihigfpikiaaiaadoor", sum := "20948df62a7b1b5d9dfa40bdf1eef62d1be8143a9aa212f6d272381baee74806", func := "salvor/salvorlaw28.TokensBack", spec := "tokensBack", inPlace := ["internal/bytealg.IndexByteString", "internal/bytealg.CountString", "internal/bytealg.IndexString", "internal/abi.NoEscape", "internal/bytealg.MakeNoZero"], unfollowed := true, recurses := true, named := ["unicode/utf8.first", "unicode/utf8.acceptRanges", "internal/bytealg.MaxLen"], apart := false, laid := [("unicode/utf8.acceptRanges", laid_unicode_utf8_acceptRanges), ("unicode/utf8.first", laid_unicode_utf8_first)], narrowed := true }
def TokensBackUptoSaid : Prop := tokensBackUptoRow.holds Tryd.pinned (OpenSpec.upto tokensBackSpec)

/-- 'salvorlaw28.TokensNumbers', WHERE WHAT IT READS IS OF BULK AT MOST 1048576: true; the input reads as it did. -/
def tokensNumbersUptoRow : OpenClaim := { program := "ytihigfpikiaaiaadoor", sum := "20948df62a7b1b5d9dfa40bdf1eef62d1be8143a9aa212f6d272381baee74806", func := "salvor/salvorlaw28.TokensNumbers", spec := "tokensNumbers", inPlace := ["internal/bytealg.IndexByteString", "internal/bytealg.CountString", "internal/bytealg.IndexString", "internal/abi.NoEscape", "internal/bytealg.MakeNoZero"], unfollowed := true, recurses := true, named := ["unicode/utf8.first", "unicode/utf8.acceptRanges", "internal/bytealg.MaxLen"], apart := false, laid := [("unicode/utf8.acceptRanges", laid_unicode_utf8_acceptRanges), ("unicode/utf8.first", laid_unicode_utf8_first)], narrowed := true }
def TokensNumbersUptoSaid : Prop := tokensNumbersUptoRow.holds Tryd.pinned (OpenSpec.upto tokensNumbersSpec)

/-- 'salvorlaw28.TokensSmall', WHERE WHAT IT READS IS OF BULK AT MOST 1048576: true; the input reads as it did. -/
def tokensSmallUptoRow : OpenClaim := { program := "ytihigfpikiaaiaadoor", sum := "20948df62a7b1b5d9dfa40bdf1eef62d1be8143a9aa212f6d272381baee74806", func := "salvor/salvorlaw28.TokensSmall", spec := "tokensSmall", inPlace := ["internal/bytealg.IndexByteString", "internal/bytealg.CountString", "internal/bytealg.IndexString", "internal/abi.NoEscape", "internal/bytealg.MakeNoZero"], unfollowed := true, recurses := true, named := ["unicode/utf8.first", "unicode/utf8.acceptRanges", "internal/bytealg.MaxLen"], apart := false, laid := [("unicode/utf8.acceptRanges", laid_unicode_utf8_acceptRanges), ("unicode/utf8.first", laid_unicode_utf8_first)], narrowed := true }
def TokensSmallUptoSaid : Prop := tokensSmallUptoRow.holds Tryd.pinned (OpenSpec.upto tokensSmallSpec)

end Rows
end Go.Proofs.YtihigfpikiaaiaaDoor
