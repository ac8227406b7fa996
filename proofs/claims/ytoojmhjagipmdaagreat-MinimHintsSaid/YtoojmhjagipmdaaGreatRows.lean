/-
  No cell of these rows narrows 'for every input' (looked for: loops, veiled, ifaces, maps, wideKeys, modest, calm, conditions, laid).
  DERIVED. THE GIVEN ROWS OF THIS SEAT. 7 by the template 'for every input the law returns true; each argument reads behind the call as it read before'; 0 by the template 'total and deterministic' (their statements: YtoojmhjagipmdaaGreatTotals.lean).
  GIVEN WITH THE SEED: the statements are not yours to turn. If you find one false, say at which input.
  Laid BY PROGRAM, IN A SANDBOX (cutbox-rows.mjs): the forced cells as the released guide's own fill.sh prints them over the translation a8d88c4400043272… (all of the seat's roots in one cut). By AI agents, Wed Nov 11 2026. No macro, syntax, notation, axiom, sorry.
-/
import Derived.Test.YtoojmhjagipmdaaGreatChecked
import GoSem.Claim
import GoSem.ClaimJoined
import GoSem.ClaimMapViews
import Derived.JoinedTies
import Derived.KernelRfl
namespace Go.Proofs.YtoojmhjagipmdaaGreat
/- THE CELL 'sum', in the pinned program and in every row, IS THE sha256 OF THE DUMP (.gsa) THAT YtoojmhjagipmdaaGreatProg.lean LOADS. Nothing in Lean hashes anything: it is a label: what it is worth is what the hold of that sum in a sandbox is worth. -/
noncomputable def Tryz.pinned : Pinned := { name := "ytoojmhjagipmdaagreat", sum := "a8d88c4400043272e97a23b30fea98f3bb17694a55b057cf5949268466dbaed0", checked := Tryz.checked }
namespace Rows
def none {H : Type} : Left H := { results := [], args := [] }

/-- 'salvorlaw14.AnalyzeReasons': WHATEVER THE INPUT: true; the input reads as it did. -/
def analyzeReasonsSpec : ChangeSpec := { name := "analyzeReasons", fn := fun _ => fun
  | [d1, d2] => { results := [.lit (.bool true)], args := [d1, d2] }
  | _ => none }
def analyzeReasonsRow : OpenClaim := { program := "ytoojmhjagipmdaagreat", sum := "a8d88c4400043272e97a23b30fea98f3bb17694a55b057cf5949268466dbaed0", func := "salvor/salvorlaw14.AnalyzeReasons", spec := "analyzeReasons", inPlace := ["slices.overlaps[int]"], unfollowed := true, recurses := true, apart := false }
def AnalyzeReasonsSaid : Prop := analyzeReasonsRow.holds Tryz.pinned (OpenSpec.ofChange analyzeReasonsSpec)

/-- ITS FALSE NEIGHBOUR: 'it returns false'. Refute it at one input. -/
def analyzeReasonsWrong : ChangeSpec := { name := "analyzeReasons", fn := fun _ => fun
  | [d1, d2] => { results := [.lit (.bool false)], args := [d1, d2] }
  | _ => none }
def AnalyzeReasonsWrongFalsely : Prop := analyzeReasonsRow.holds Tryz.pinned (OpenSpec.ofChange analyzeReasonsWrong)

/-- 'salvorlaw15.MinimOnce': WHATEVER THE INPUT: true; the input reads as it did. -/
def minimOnceSpec : ChangeSpec := { name := "minimOnce", fn := fun _ => fun
  | [d1, d2, d3] => { results := [.lit (.bool true)], args := [d1, d2, d3] }
  | _ => none }
def minimOnceRow : OpenClaim := { program := "ytoojmhjagipmdaagreat", sum := "a8d88c4400043272e97a23b30fea98f3bb17694a55b057cf5949268466dbaed0", func := "salvor/salvorlaw15.MinimOnce", spec := "minimOnce", inPlace := ["slices.overlaps[int]"], unfollowed := true, recurses := true, apart := false }
def MinimOnceSaid : Prop := minimOnceRow.holds Tryz.pinned (OpenSpec.ofChange minimOnceSpec)

/-- ITS FALSE NEIGHBOUR: 'it returns false'. Refute it at one input. -/
def minimOnceWrong : ChangeSpec := { name := "minimOnce", fn := fun _ => fun
  | [d1, d2, d3] => { results := [.lit (.bool false)], args := [d1, d2, d3] }
  | _ => none }
def MinimOnceWrongFalsely : Prop := minimOnceRow.holds Tryz.pinned (OpenSpec.ofChange minimOnceWrong)

/-- 'salvorlaw14.AnalyzeFollows': WHATEVER THE INPUT: true; the input reads as it did. -/
def analyzeFollowsSpec : ChangeSpec := { name := "analyzeFollows", fn := fun _ => fun
  | [d1, d2] => { results := [.lit (.bool true)], args := [d1, d2] }
  | _ => none }
def analyzeFollowsRow : OpenClaim := { program := "ytoojmhjagipmdaagreat", sum := "a8d88c4400043272e97a23b30fea98f3bb17694a55b057cf5949268466dbaed0", func := "salvor/salvorlaw14.AnalyzeFollows", spec := "analyzeFollows", inPlace := ["slices.overlaps[int]"], unfollowed := true, recurses := true, apart := false }
def AnalyzeFollowsSaid : Prop := analyzeFollowsRow.holds Tryz.pinned (OpenSpec.ofChange analyzeFollowsSpec)

/-- ITS FALSE NEIGHBOUR: 'it returns false'. Refute it at one input. -/
def analyzeFollowsWrong : ChangeSpec := { name := "analyzeFollows", fn := fun _ => fun
  | [d1, d2] => { results := [.lit (.bool false)], args := [d1, d2] }
  | _ => none }
def AnalyzeFollowsWrongFalsely : Prop := analyzeFollowsRow.holds Tryz.pinned (OpenSpec.ofChange analyzeFollowsWrong)

/-- 'salvorlaw14.AnalyzeSearch': WHATEVER THE INPUT: true; the input reads as it did. -/
def analyzeSearchSpec : ChangeSpec := { name := "analyzeSearch", fn := fun _ => fun
  | [d1, d2] => { results := [.lit (.bool true)], args := [d1, d2] }
  | _ => none }
def analyzeSearchRow : OpenClaim := { program := "ytoojmhjagipmdaagreat", sum := "a8d88c4400043272e97a23b30fea98f3bb17694a55b057cf5949268466dbaed0", func := "salvor/salvorlaw14.AnalyzeSearch", spec := "analyzeSearch", inPlace := ["slices.overlaps[int]"], unfollowed := true, recurses := true, apart := false }
def AnalyzeSearchSaid : Prop := analyzeSearchRow.holds Tryz.pinned (OpenSpec.ofChange analyzeSearchSpec)

/-- ITS FALSE NEIGHBOUR: 'it returns false'. Refute it at one input. -/
def analyzeSearchWrong : ChangeSpec := { name := "analyzeSearch", fn := fun _ => fun
  | [d1, d2] => { results := [.lit (.bool false)], args := [d1, d2] }
  | _ => none }
def AnalyzeSearchWrongFalsely : Prop := analyzeSearchRow.holds Tryz.pinned (OpenSpec.ofChange analyzeSearchWrong)

/-- 'salvorlaw15.MinimHints': WHATEVER THE INPUT: true; the input reads as it did. -/
def minimHintsSpec : ChangeSpec := { name := "minimHints", fn := fun _ => fun
  | [d1, d2, d3, d4] => { results := [.lit (.bool true)], args := [d1, d2, d3, d4] }
  | _ => none }
def minimHintsRow : OpenClaim := { program := "ytoojmhjagipmdaagreat", sum := "a8d88c4400043272e97a23b30fea98f3bb17694a55b057cf5949268466dbaed0", func := "salvor/salvorlaw15.MinimHints", spec := "minimHints", inPlace := ["slices.overlaps[int]"], unfollowed := true, recurses := true, apart := false }
def MinimHintsSaid : Prop := minimHintsRow.holds Tryz.pinned (OpenSpec.ofChange minimHintsSpec)

/-- ITS FALSE NEIGHBOUR: 'it returns false'. Refute it at one input. -/
def minimHintsWrong : ChangeSpec := { name := "minimHints", fn := fun _ => fun
  | [d1, d2, d3, d4] => { results := [.lit (.bool false)], args := [d1, d2, d3, d4] }
  | _ => none }
def MinimHintsWrongFalsely : Prop := minimHintsRow.holds Tryz.pinned (OpenSpec.ofChange minimHintsWrong)

/-- 'salvorlaw15.MinimSearch': WHATEVER THE INPUT: true; the input reads as it did. -/
def minimSearchSpec : ChangeSpec := { name := "minimSearch", fn := fun _ => fun
  | [d1, d2] => { results := [.lit (.bool true)], args := [d1, d2] }
  | _ => none }
def minimSearchRow : OpenClaim := { program := "ytoojmhjagipmdaagreat", sum := "a8d88c4400043272e97a23b30fea98f3bb17694a55b057cf5949268466dbaed0", func := "salvor/salvorlaw15.MinimSearch", spec := "minimSearch", inPlace := ["slices.overlaps[int]"], unfollowed := true, recurses := true, apart := false }
def MinimSearchSaid : Prop := minimSearchRow.holds Tryz.pinned (OpenSpec.ofChange minimSearchSpec)

/-- ITS FALSE NEIGHBOUR: 'it returns false'. Refute it at one input. -/
def minimSearchWrong : ChangeSpec := { name := "minimSearch", fn := fun _ => fun
  | [d1, d2] => { results := [.lit (.bool false)], args := [d1, d2] }
  | _ => none }
def MinimSearchWrongFalsely : Prop := minimSearchRow.holds Tryz.pinned (OpenSpec.ofChange minimSearchWrong)

/-- 'salvorlaw15.MinimFollows': WHATEVER THE INPUT: true; the input reads as it did. -/
def minimFollowsSpec : ChangeSpec := { name := "minimFollows", fn := fun _ => fun
  | [d1, d2] => { results := [.lit (.bool true)], args := [d1, d2] }
  | _ => none }
def minimFollowsRow : OpenClaim := { program := "ytoojmhjagipmdaagreat", sum := "a8d88c4400043272e97a23b30fea98f3bb17694a55b057cf5949268466dbaed0", func := "salvor/salvorlaw15.MinimFollows", spec := "minimFollows", inPlace := ["slices.overlaps[int]"], unfollowed := true, recurses := true, apart := false }
def MinimFollowsSaid : Prop := minimFollowsRow.holds Tryz.pinned (OpenSpec.ofChange minimFollowsSpec)

/-- ITS FALSE NEIGHBOUR: 'it returns false'. Refute it at one input. -/
def minimFollowsWrong : ChangeSpec := { name := "minimFollows", fn := fun _ => fun
  | [d1, d2] => { results := [.lit (.bool false)], args := [d1, d2] }
  | _ => none }
def MinimFollowsWrongFalsely : Prop := minimFollowsRow.holds Tryz.pinned (OpenSpec.ofChange minimFollowsWrong)

/- THE SECOND FORM. 'bulk': how many values and letters a reading holds, each counted each time it is reached (what is shared counts as often as it is met; a slice's spare places count too). A statement '..UptoSaid' is the law's where the arguments, and the package variables that the reading takes, are together of bulk at most 1048576: NARROWER than '..Said'. Prove '..Said' where nothing that the law and all that it calls make is longer than what came in: it says more and counts as full. Else prove '..UptoSaid'. A law counts once. -/
mutual
def uptoBulk {H : Type} : DataW H → Nat
  | .lit (.string bytes) => bytes.length + 1
  | .lit _ => 1
  | .nil => 1
  | .ptr d => uptoBulk d + 1
  | .slice elems spare => uptoBulkAll elems + uptoBulkAll spare + 1
  | .agg parts => uptoBulkAll parts + 1
  | .iface _ d => uptoBulk d + 1
  | .map entries => uptoBulkEntries entries + 1
  | .held _ => 1
def uptoBulkAll {H : Type} : List (DataW H) → Nat
  | [] => 0
  | d :: r => uptoBulk d + uptoBulkAll r
def uptoBulkEntries {H : Type} : List (Lit × DataW H) → Nat
  | [] => 0
  | x :: r => uptoBulkEntry x + uptoBulkEntries r
def uptoBulkEntry {H : Type} : Lit × DataW H → Nat
  | (.string bytes, d) => bytes.length + uptoBulk d + 1
  | (_, d) => uptoBulk d + 1
 end
def uptoSmall : (H : Type) → List (DataW H) → Bool := fun _ ds => decide (uptoBulkAll ds ≤ 1048576)
def OpenSpec.upto (s : _root_.Go.ChangeSpec) : _root_.Go.OpenSpec := { _root_.Go.OpenSpec.ofChange s with cond := some uptoSmall }

/-- 'salvorlaw14.AnalyzeReasons', WHERE WHAT IT READS IS OF BULK AT MOST 1048576: true; the input reads as it did. -/
def analyzeReasonsUptoRow : OpenClaim := { program := "ytoojmhjagipmdaagreat", sum := "a8d88c4400043272e97a23b30fea98f3bb17694a55b057cf5949268466dbaed0", func := "salvor/salvorlaw14.AnalyzeReasons", spec := "analyzeReasons", inPlace := ["slices.overlaps[int]"], unfollowed := true, recurses := true, apart := false, narrowed := true }
def AnalyzeReasonsUptoSaid : Prop := analyzeReasonsUptoRow.holds Tryz.pinned (OpenSpec.upto analyzeReasonsSpec)

/-- 'salvorlaw15.MinimOnce', WHERE WHAT IT READS IS OF BULK AT MOST 1048576: true; the input reads as it did. -/
def minimOnceUptoRow : OpenClaim := { program := "ytoojmhjagipmdaagreat", sum := "a8d88c4400043272e97a23b30fea98f3bb17694a55b057cf5949268466dbaed0", func := "salvor/salvorlaw15.MinimOnce", spec := "minimOnce", inPlace := ["slices.overlaps[int]"], unfollowed := true, recurses := true, apart := false, narrowed := true }
def MinimOnceUptoSaid : Prop := minimOnceUptoRow.holds Tryz.pinned (OpenSpec.upto minimOnceSpec)

/-- 'salvorlaw14.AnalyzeFollows', WHERE WHAT IT READS IS OF BULK AT MOST 1048576: true; the input reads as it did. -/
def analyzeFollowsUptoRow : OpenClaim := { program := "ytoojmhjagipmdaagreat", sum := "a8d88c4400043272e97a23b30fea98f3bb17694a55b057cf5949268466dbaed0", func := "salvor/salvorlaw14.AnalyzeFollows", spec := "analyzeFollows", inPlace := ["slices.overlaps[int]"], unfollowed := true, recurses := true, apart := false, narrowed := true }
def AnalyzeFollowsUptoSaid : Prop := analyzeFollowsUptoRow.holds Tryz.pinned (OpenSpec.upto analyzeFollowsSpec)

/-- 'salvorlaw14.AnalyzeSearch', WHERE WHAT IT READS IS OF BULK AT MOST 1048576: true; the input reads as it did. -/
def analyzeSearchUptoRow : OpenClaim := { program := "ytoojmhjagipmdaagreat", sum := "a8d88c4400043272e97a23b30fea98f3bb17694a55b057cf5949268466dbaed0", func := "salvor/salvorlaw14.AnalyzeSearch", spec := "analyzeSearch", inPlace := ["slices.overlaps[int]"], unfollowed := true, recurses := true, apart := false, narrowed := true }
def AnalyzeSearchUptoSaid : Prop := analyzeSearchUptoRow.holds Tryz.pinned (OpenSpec.upto analyzeSearchSpec)

/-- 'salvorlaw15.MinimHints', WHERE WHAT IT READS IS OF BULK AT MOST 1048576: true; the input reads as it did. -/
def minimHintsUptoRow : OpenClaim := { program := "ytoojmhjagipmdaagreat", sum := "a8d88c4400043272e97a23b30fea98f3bb17694a55b057cf5949268466dbaed0", func := "salvor/salvorlaw15.MinimHints", spec := "minimHints", inPlace := ["slices.overlaps[int]"], unfollowed := true, recurses := true, apart := false, narrowed := true }
def MinimHintsUptoSaid : Prop := minimHintsUptoRow.holds Tryz.pinned (OpenSpec.upto minimHintsSpec)

/-- 'salvorlaw15.MinimSearch', WHERE WHAT IT READS IS OF BULK AT MOST 1048576: true; the input reads as it did. -/
def minimSearchUptoRow : OpenClaim := { program := "ytoojmhjagipmdaagreat", sum := "a8d88c4400043272e97a23b30fea98f3bb17694a55b057cf5949268466dbaed0", func := "salvor/salvorlaw15.MinimSearch", spec := "minimSearch", inPlace := ["slices.overlaps[int]"], unfollowed := true, recurses := true, apart := false, narrowed := true }
def MinimSearchUptoSaid : Prop := minimSearchUptoRow.holds Tryz.pinned (OpenSpec.upto minimSearchSpec)

/-- 'salvorlaw15.MinimFollows', WHERE WHAT IT READS IS OF BULK AT MOST 1048576: true; the input reads as it did. -/
def minimFollowsUptoRow : OpenClaim := { program := "ytoojmhjagipmdaagreat", sum := "a8d88c4400043272e97a23b30fea98f3bb17694a55b057cf5949268466dbaed0", func := "salvor/salvorlaw15.MinimFollows", spec := "minimFollows", inPlace := ["slices.overlaps[int]"], unfollowed := true, recurses := true, apart := false, narrowed := true }
def MinimFollowsUptoSaid : Prop := minimFollowsUptoRow.holds Tryz.pinned (OpenSpec.upto minimFollowsSpec)

end Rows
end Go.Proofs.YtoojmhjagipmdaaGreat
