/-
  No cell of these rows narrows 'for every input' (looked for: loops, veiled, ifaces, maps, wideKeys, modest, calm, conditions, laid).
  DERIVED. THE GIVEN ROWS OF THIS SEAT. 2 by the template 'for every input the law returns true; each argument reads behind the call as it read before'; 0 by the template 'total and deterministic' (their statements: YtfbiaclpopjipaaGreatTotals.lean).
  GIVEN WITH THE SEED: the statements are not yours to turn. If you find one false, say at which input.
  Laid BY PROGRAM, IN A SANDBOX (cutbox-rows.mjs): the forced cells as the released guide's own fill.sh prints them over the translation 837795d37f5b5675… (all of the seat's roots in one cut). By AI agents, Wed Nov 11 2026. No macro, syntax, notation, axiom, sorry.
-/
import Derived.Test.YtfbiaclpopjipaaGreatChecked
import GoSem.Claim
import GoSem.ClaimJoined
import GoSem.ClaimMapViews
import Derived.JoinedTies
import Derived.KernelRfl
namespace Go.Proofs.YtfbiaclpopjipaaGreat
/- THE CELL 'sum', in the pinned program and in every row, IS THE sha256 OF THE DUMP (.gsa) THAT YtfbiaclpopjipaaGreatProg.lean LOADS. Nothing in Lean hashes anything: it is a label: what it is worth is what the hold of that sum in a sandbox is worth. -/
noncomputable def Tryz.pinned : Pinned := { name := "ytfbiaclpopjipaagreat", sum := "837795d37f5b5675a866acf0f4e5adc3649cd7b27301d7c84c3ecceb96128082", checked := Tryz.checked }
namespace Rows
def none {H : Type} : Left H := { results := [], args := [] }

/-- 'salvorlaw14.AnalyzeTells': WHATEVER THE INPUT: true; the input reads as it did. -/
def analyzeTellsSpec : ChangeSpec := { name := "analyzeTells", fn := fun _ => fun
  | [d1, d2, d3, d4, d5, d6] => { results := [.lit (.bool true)], args := [d1, d2, d3, d4, d5, d6] }
  | _ => none }
def analyzeTellsRow : OpenClaim := { program := "ytfbiaclpopjipaagreat", sum := "837795d37f5b5675a866acf0f4e5adc3649cd7b27301d7c84c3ecceb96128082", func := "salvor/salvorlaw14.AnalyzeTells", spec := "analyzeTells", unfollowed := true, recurses := true, apart := false }
def AnalyzeTellsSaid : Prop := analyzeTellsRow.holds Tryz.pinned (OpenSpec.ofChange analyzeTellsSpec)

/-- ITS FALSE NEIGHBOUR: 'it returns false'. Refute it at one input. -/
def analyzeTellsWrong : ChangeSpec := { name := "analyzeTells", fn := fun _ => fun
  | [d1, d2, d3, d4, d5, d6] => { results := [.lit (.bool false)], args := [d1, d2, d3, d4, d5, d6] }
  | _ => none }
def AnalyzeTellsWrongFalsely : Prop := analyzeTellsRow.holds Tryz.pinned (OpenSpec.ofChange analyzeTellsWrong)

/-- 'salvorlaw14.AnalyzeSmall': WHATEVER THE INPUT: true; the input reads as it did. -/
def analyzeSmallSpec : ChangeSpec := { name := "analyzeSmall", fn := fun _ => fun
  | [] => { results := [.lit (.bool true)], args := [] }
  | _ => none }
def analyzeSmallRow : OpenClaim := { program := "ytfbiaclpopjipaagreat", sum := "837795d37f5b5675a866acf0f4e5adc3649cd7b27301d7c84c3ecceb96128082", func := "salvor/salvorlaw14.AnalyzeSmall", spec := "analyzeSmall", unfollowed := true, recurses := true, apart := false }
def AnalyzeSmallSaid : Prop := analyzeSmallRow.holds Tryz.pinned (OpenSpec.ofChange analyzeSmallSpec)

/-- ITS FALSE NEIGHBOUR: 'it returns false'. Refute it at one input. -/
def analyzeSmallWrong : ChangeSpec := { name := "analyzeSmall", fn := fun _ => fun
  | [] => { results := [.lit (.bool false)], args := [] }
  | _ => none }
def AnalyzeSmallWrongFalsely : Prop := analyzeSmallRow.holds Tryz.pinned (OpenSpec.ofChange analyzeSmallWrong)

/- THE SECOND FORM. 'bulk': how many values and letters a reading holds, each counted each time it is reached (what is shared counts as often as it is met; a slice's spare places count too). A statement '..UptoSaid' is the law's where the arguments, and the package variables that the reading takes, are together of bulk at most 1048576: NARROWER than '..Said'. Prove '..Said' where nothing that the law and all that it calls make is longer than what came in: it says more and counts as full. Else prove '..UptoSaid'. A law counts once. -/
mutual
def uptoBulk {H : Type} : DataW H → Nat
  | .lit (.string bytes) => bytes.length + 1
  | .lit _ => 1
  | .nil => 1
  | .ptr d => uptoBulk d + 1
  | .slice elems spare => uptoBulkAll elems + uptoBulkAll spare + 1
  | .agg parts => uptoBulkAll parts + 1
  | .iface _ d => uptoBulk d + 1
  | .map entries => uptoBulkEntries entries + 1
  | .held _ => 1
def uptoBulkAll {H : Type} : List (DataW H) → Nat
  | [] => 0
  | d :: r => uptoBulk d + uptoBulkAll r
def uptoBulkEntries {H : Type} : List (Lit × DataW H) → Nat
  | [] => 0
  | x :: r => uptoBulkEntry x + uptoBulkEntries r
def uptoBulkEntry {H : Type} : Lit × DataW H → Nat
  | (.string bytes, d) => bytes.length + uptoBulk d + 1
  | (_, d) => uptoBulk d + 1
 end
def uptoSmall : (H : Type) → List (DataW H) → Bool := fun _ ds => decide (uptoBulkAll ds ≤ 1048576)
def OpenSpec.upto (s : _root_.Go.ChangeSpec) : _root_.Go.OpenSpec := { _root_.Go.OpenSpec.ofChange s with cond := some uptoSmall }

/-- 'salvorlaw14.AnalyzeTells', WHERE WHAT IT READS IS OF BULK AT MOST 1048576: true; the input reads as it did. -/
def analyzeTellsUptoRow : OpenClaim := { program := "ytfbiaclpopjipaagreat", sum := "837795d37f5b5675a866acf0f4e5adc3649cd7b27301d7c84c3ecceb96128082", func := "salvor/salvorlaw14.AnalyzeTells", spec := "analyzeTells", unfollowed := true, recurses := true, apart := false, narrowed := true }
def AnalyzeTellsUptoSaid : Prop := analyzeTellsUptoRow.holds Tryz.pinned (OpenSpec.upto analyzeTellsSpec)

/-- 'salvorlaw14.AnalyzeSmall', WHERE WHAT IT READS IS OF BULK AT MOST 1048576: true; the input reads as it did. -/
def analyzeSmallUptoRow : OpenClaim := { program := "ytfbiaclpopjipaagreat", sum := "837795d37f5b5675a866acf0f4e5adc3649cd7b27301d7c84c3ecceb96128082", func := "salvor/salvorlaw14.AnalyzeSmall", spec := "analyzeSmall", unfollowed := true, recurses := true, apart := false, narrowed := true }
def AnalyzeSmallUptoSaid : Prop := analyzeSmallUptoRow.holds Tryz.pinned (OpenSpec.upto analyzeSmallSpec)

end Rows
end Go.Proofs.YtfbiaclpopjipaaGreat
