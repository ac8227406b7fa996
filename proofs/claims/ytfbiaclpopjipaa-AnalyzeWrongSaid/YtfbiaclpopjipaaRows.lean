/-
  No cell of these rows narrows 'for every input' (looked for: loops, veiled, ifaces, maps, wideKeys, modest, calm, conditions, laid).
  DERIVED. THE GIVEN ROWS OF THIS SEAT. 2 by the template 'for every input the law returns true; each argument reads behind the call as it read before'; 0 by the template 'total and deterministic' (their statements: YtfbiaclpopjipaaTotals.lean).
  GIVEN WITH THE SEED: the statements are not yours to turn. If you find one false, say at which input.
  Laid BY PROGRAM, IN A SANDBOX (cutbox-rows.mjs): the forced cells as the released guide's own fill.sh prints them over the translation 2d002eb9233fb168… (all of the seat's roots in one cut). By AI agents, Wed Nov 11 2026. No macro, syntax, notation, axiom, sorry.
-/
import Derived.Test.YtfbiaclpopjipaaChecked
import GoSem.Claim
import GoSem.ClaimJoined
import GoSem.ClaimMapViews
import Derived.JoinedTies
import Derived.KernelRfl
namespace Go.Proofs.Ytfbiaclpopjipaa
/- THE CELL 'sum', in the pinned program and in every row, IS THE sha256 OF THE DUMP (.gsa) THAT YtfbiaclpopjipaaProg.lean LOADS. Nothing in Lean hashes anything: it is a label: what it is worth is what the hold of that sum in a sandbox is worth. -/
noncomputable def Try.pinned : Pinned := { name := "ytfbiaclpopjipaa", sum := "2d002eb9233fb168d1a163664b9d2cff26eb2310c9c92cdd0d285253707c9e6a", checked := Try.checked }
namespace Rows
def none {H : Type} : Left H := { results := [], args := [] }

/-- 'salvorlaw14.AnalyzeLevels': WHATEVER THE INPUT: true; the input reads as it did. -/
def analyzeLevelsSpec : ChangeSpec := { name := "analyzeLevels", fn := fun _ => fun
  | [d1, d2, d3] => { results := [.lit (.bool true)], args := [d1, d2, d3] }
  | _ => none }
def analyzeLevelsRow : OpenClaim := { program := "ytfbiaclpopjipaa", sum := "2d002eb9233fb168d1a163664b9d2cff26eb2310c9c92cdd0d285253707c9e6a", func := "salvor/salvorlaw14.AnalyzeLevels", spec := "analyzeLevels", unfollowed := true, recurses := true, apart := false }
def AnalyzeLevelsSaid : Prop := analyzeLevelsRow.holds Try.pinned (OpenSpec.ofChange analyzeLevelsSpec)

/-- ITS FALSE NEIGHBOUR: 'it returns false'. Refute it at one input. -/
def analyzeLevelsWrong : ChangeSpec := { name := "analyzeLevels", fn := fun _ => fun
  | [d1, d2, d3] => { results := [.lit (.bool false)], args := [d1, d2, d3] }
  | _ => none }
def AnalyzeLevelsWrongFalsely : Prop := analyzeLevelsRow.holds Try.pinned (OpenSpec.ofChange analyzeLevelsWrong)

/-- 'salvorlaw14.AnalyzeWrong': WHATEVER THE INPUT: true; the input reads as it did. -/
def analyzeWrongSpec : ChangeSpec := { name := "analyzeWrong", fn := fun _ => fun
  | [d1, d2] => { results := [.lit (.bool true)], args := [d1, d2] }
  | _ => none }
def analyzeWrongRow : OpenClaim := { program := "ytfbiaclpopjipaa", sum := "2d002eb9233fb168d1a163664b9d2cff26eb2310c9c92cdd0d285253707c9e6a", func := "salvor/salvorlaw14.AnalyzeWrong", spec := "analyzeWrong", unfollowed := true, recurses := true, apart := false }
def AnalyzeWrongSaid : Prop := analyzeWrongRow.holds Try.pinned (OpenSpec.ofChange analyzeWrongSpec)

/-- ITS FALSE NEIGHBOUR: 'it returns false'. Refute it at one input. -/
def analyzeWrongWrong : ChangeSpec := { name := "analyzeWrong", fn := fun _ => fun
  | [d1, d2] => { results := [.lit (.bool false)], args := [d1, d2] }
  | _ => none }
def AnalyzeWrongWrongFalsely : Prop := analyzeWrongRow.holds Try.pinned (OpenSpec.ofChange analyzeWrongWrong)

/- THE SECOND FORM. 'bulk': how many values and letters a reading holds, each counted each time it is reached (what is shared counts as often as it is met; a slice's spare places count too). A statement '..UptoSaid' is the law's where the arguments, and the package variables that the reading takes, are together of bulk at most 1048576: NARROWER than '..Said'. Prove '..Said' where nothing that the law and all that it calls make is longer than what came in: it says more and counts as full. Else prove '..UptoSaid'. A law counts once. -/
mutual
def uptoBulk {H : Type} : DataW H → Nat
  | .lit (.string bytes) => bytes.length + 1
  | .lit _ => 1
  | .nil => 1
  | .ptr d => uptoBulk d + 1
  | .slice elems spare => uptoBulkAll elems + uptoBulkAll spare + 1
  | .agg parts => uptoBulkAll parts + 1
  | .iface _ d => uptoBulk d + 1
  | .map entries => uptoBulkEntries entries + 1
  | .held _ => 1
def uptoBulkAll {H : Type} : List (DataW H) → Nat
  | [] => 0
  | d :: r => uptoBulk d + uptoBulkAll r
def uptoBulkEntries {H : Type} : List (Lit × DataW H) → Nat
  | [] => 0
  | x :: r => uptoBulkEntry x + uptoBulkEntries r
def uptoBulkEntry {H : Type} : Lit × DataW H → Nat
  | (.string bytes, d) => bytes.length + uptoBulk d + 1
  | (_, d) => uptoBulk d + 1
 end
def uptoSmall : (H : Type) → List (DataW H) → Bool := fun _ ds => decide (uptoBulkAll ds ≤ 1048576)
def OpenSpec.upto (s : _root_.Go.ChangeSpec) : _root_.Go.OpenSpec := { _root_.Go.OpenSpec.ofChange s with cond := some uptoSmall }

/-- 'salvorlaw14.AnalyzeLevels', WHERE WHAT IT READS IS OF BULK AT MOST 1048576: true; the input reads as it did. -/
def analyzeLevelsUptoRow : OpenClaim := { program := "ytfbiaclpopjipaa", sum := "2d002eb9233fb168d1a163664b9d2cff26eb2310c9c92cdd0d285253707c9e6a", func := "salvor/salvorlaw14.AnalyzeLevels", spec := "analyzeLevels", unfollowed := true, recurses := true, apart := false, narrowed := true }
def AnalyzeLevelsUptoSaid : Prop := analyzeLevelsUptoRow.holds Try.pinned (OpenSpec.upto analyzeLevelsSpec)

/-- 'salvorlaw14.AnalyzeWrong', WHERE WHAT IT READS IS OF BULK AT MOST 1048576: true; the input reads as it did. -/
def analyzeWrongUptoRow : OpenClaim := { program := "ytfbiaclpopjipaa", sum := "2d002eb9233fb168d1a163664b9d2cff26eb2310c9c92cdd0d285253707c9e6a", func := "salvor/salvorlaw14.AnalyzeWrong", spec := "analyzeWrong", unfollowed := true, recurses := true, apart := false, narrowed := true }
def AnalyzeWrongUptoSaid : Prop := analyzeWrongUptoRow.holds Try.pinned (OpenSpec.upto analyzeWrongSpec)

end Rows
end Go.Proofs.Ytfbiaclpopjipaa
