/-
  No cell of these rows narrows 'for every input' (looked for: loops, veiled, ifaces, maps, wideKeys, modest, calm, conditions, laid).
  DERIVED. THE GIVEN ROWS OF THIS SEAT. 8 by the template 'for every input the law returns true; each argument reads behind the call as it read before'; 0 by the template 'total and deterministic' (their statements: YtobcnejecogfoaaGreatTotals.lean).
  GIVEN WITH THE SEED: the statements are not yours to turn. If you find one false, say at which input.
  Laid BY PROGRAM, IN A SANDBOX (cutbox-rows.mjs): the forced cells as the released guide's own fill.sh prints them over the translation fe52c18f2f3a52b6… (all of the seat's roots in one cut). By AI agents, Wed Nov 11 2026. No macro, syntax, notation, axiom, sorry.
-/
import Derived.Test.YtobcnejecogfoaaGreatChecked
import GoSem.Claim
import GoSem.ClaimJoined
import GoSem.ClaimMapViews
import Derived.JoinedTies
import Derived.KernelRfl
namespace Go.Proofs.YtobcnejecogfoaaGreat
/- THE CELL 'sum', in the pinned program and in every row, IS THE sha256 OF THE DUMP (.gsa) THAT YtobcnejecogfoaaGreatProg.lean LOADS. Nothing in Lean hashes anything: it is a label: what it is worth is what the hold of that sum in a sandbox is worth. -/
noncomputable def Tryz.pinned : Pinned := { name := "ytobcnejecogfoaagreat", sum := "fe52c18f2f3a52b6ef08200923c5bb5f82830745339d7ad5b1b06705a14413e9", checked := Tryz.checked }
namespace Rows
def none {H : Type} : Left H := { results := [], args := [] }

/-- 'salvorlaw13.WatchFinds': WHATEVER THE INPUT: true; the input reads as it did. -/
def watchFindsSpec : ChangeSpec := { name := "watchFinds", fn := fun _ => fun
  | [d1, d2] => { results := [.lit (.bool true)], args := [d1, d2] }
  | _ => none }
def watchFindsRow : OpenClaim := { program := "ytobcnejecogfoaagreat", sum := "fe52c18f2f3a52b6ef08200923c5bb5f82830745339d7ad5b1b06705a14413e9", func := "salvor/salvorlaw13.WatchFinds", spec := "watchFinds", inPlace := ["slices.overlaps[int]"], unfollowed := true, recurses := true, apart := false }
def WatchFindsSaid : Prop := watchFindsRow.holds Tryz.pinned (OpenSpec.ofChange watchFindsSpec)

/-- ITS FALSE NEIGHBOUR: 'it returns false'. Refute it at one input. -/
def watchFindsWrong : ChangeSpec := { name := "watchFinds", fn := fun _ => fun
  | [d1, d2] => { results := [.lit (.bool false)], args := [d1, d2] }
  | _ => none }
def WatchFindsWrongFalsely : Prop := watchFindsRow.holds Tryz.pinned (OpenSpec.ofChange watchFindsWrong)

/-- 'salvorlaw13.WatchAdds': WHATEVER THE INPUT: true; the input reads as it did. -/
def watchAddsSpec : ChangeSpec := { name := "watchAdds", fn := fun _ => fun
  | [d1, d2] => { results := [.lit (.bool true)], args := [d1, d2] }
  | _ => none }
def watchAddsRow : OpenClaim := { program := "ytobcnejecogfoaagreat", sum := "fe52c18f2f3a52b6ef08200923c5bb5f82830745339d7ad5b1b06705a14413e9", func := "salvor/salvorlaw13.WatchAdds", spec := "watchAdds", inPlace := ["slices.overlaps[int]"], unfollowed := true, recurses := true, apart := false }
def WatchAddsSaid : Prop := watchAddsRow.holds Tryz.pinned (OpenSpec.ofChange watchAddsSpec)

/-- ITS FALSE NEIGHBOUR: 'it returns false'. Refute it at one input. -/
def watchAddsWrong : ChangeSpec := { name := "watchAdds", fn := fun _ => fun
  | [d1, d2] => { results := [.lit (.bool false)], args := [d1, d2] }
  | _ => none }
def WatchAddsWrongFalsely : Prop := watchAddsRow.holds Tryz.pinned (OpenSpec.ofChange watchAddsWrong)

/-- 'salvorlaw13.WatchWrong': WHATEVER THE INPUT: true; the input reads as it did. -/
def watchWrongSpec : ChangeSpec := { name := "watchWrong", fn := fun _ => fun
  | [d1, d2] => { results := [.lit (.bool true)], args := [d1, d2] }
  | _ => none }
def watchWrongRow : OpenClaim := { program := "ytobcnejecogfoaagreat", sum := "fe52c18f2f3a52b6ef08200923c5bb5f82830745339d7ad5b1b06705a14413e9", func := "salvor/salvorlaw13.WatchWrong", spec := "watchWrong", inPlace := ["slices.overlaps[int]"], unfollowed := true, recurses := true, apart := false }
def WatchWrongSaid : Prop := watchWrongRow.holds Tryz.pinned (OpenSpec.ofChange watchWrongSpec)

/-- ITS FALSE NEIGHBOUR: 'it returns false'. Refute it at one input. -/
def watchWrongWrong : ChangeSpec := { name := "watchWrong", fn := fun _ => fun
  | [d1, d2] => { results := [.lit (.bool false)], args := [d1, d2] }
  | _ => none }
def WatchWrongWrongFalsely : Prop := watchWrongRow.holds Tryz.pinned (OpenSpec.ofChange watchWrongWrong)

/-- 'salvorlaw13.WatchAgain': WHATEVER THE INPUT: true; the input reads as it did. -/
def watchAgainSpec : ChangeSpec := { name := "watchAgain", fn := fun _ => fun
  | [d1, d2, d3, d4] => { results := [.lit (.bool true)], args := [d1, d2, d3, d4] }
  | _ => none }
def watchAgainRow : OpenClaim := { program := "ytobcnejecogfoaagreat", sum := "fe52c18f2f3a52b6ef08200923c5bb5f82830745339d7ad5b1b06705a14413e9", func := "salvor/salvorlaw13.WatchAgain", spec := "watchAgain", inPlace := ["slices.overlaps[int]"], unfollowed := true, recurses := true, apart := false }
def WatchAgainSaid : Prop := watchAgainRow.holds Tryz.pinned (OpenSpec.ofChange watchAgainSpec)

/-- ITS FALSE NEIGHBOUR: 'it returns false'. Refute it at one input. -/
def watchAgainWrong : ChangeSpec := { name := "watchAgain", fn := fun _ => fun
  | [d1, d2, d3, d4] => { results := [.lit (.bool false)], args := [d1, d2, d3, d4] }
  | _ => none }
def WatchAgainWrongFalsely : Prop := watchAgainRow.holds Tryz.pinned (OpenSpec.ofChange watchAgainWrong)

/-- 'salvorlaw13.WatchPlays': WHATEVER THE INPUT: true; the input reads as it did. -/
def watchPlaysSpec : ChangeSpec := { name := "watchPlays", fn := fun _ => fun
  | [d1, d2, d3] => { results := [.lit (.bool true)], args := [d1, d2, d3] }
  | _ => none }
def watchPlaysRow : OpenClaim := { program := "ytobcnejecogfoaagreat", sum := "fe52c18f2f3a52b6ef08200923c5bb5f82830745339d7ad5b1b06705a14413e9", func := "salvor/salvorlaw13.WatchPlays", spec := "watchPlays", inPlace := ["slices.overlaps[int]"], unfollowed := true, recurses := true, apart := false }
def WatchPlaysSaid : Prop := watchPlaysRow.holds Tryz.pinned (OpenSpec.ofChange watchPlaysSpec)

/-- ITS FALSE NEIGHBOUR: 'it returns false'. Refute it at one input. -/
def watchPlaysWrong : ChangeSpec := { name := "watchPlays", fn := fun _ => fun
  | [d1, d2, d3] => { results := [.lit (.bool false)], args := [d1, d2, d3] }
  | _ => none }
def WatchPlaysWrongFalsely : Prop := watchPlaysRow.holds Tryz.pinned (OpenSpec.ofChange watchPlaysWrong)

/-- 'salvorlaw13.WatchRemoves': WHATEVER THE INPUT: true; the input reads as it did. -/
def watchRemovesSpec : ChangeSpec := { name := "watchRemoves", fn := fun _ => fun
  | [d1, d2, d3] => { results := [.lit (.bool true)], args := [d1, d2, d3] }
  | _ => none }
def watchRemovesRow : OpenClaim := { program := "ytobcnejecogfoaagreat", sum := "fe52c18f2f3a52b6ef08200923c5bb5f82830745339d7ad5b1b06705a14413e9", func := "salvor/salvorlaw13.WatchRemoves", spec := "watchRemoves", inPlace := ["slices.overlaps[int]"], unfollowed := true, recurses := true, apart := false }
def WatchRemovesSaid : Prop := watchRemovesRow.holds Tryz.pinned (OpenSpec.ofChange watchRemovesSpec)

/-- ITS FALSE NEIGHBOUR: 'it returns false'. Refute it at one input. -/
def watchRemovesWrong : ChangeSpec := { name := "watchRemoves", fn := fun _ => fun
  | [d1, d2, d3] => { results := [.lit (.bool false)], args := [d1, d2, d3] }
  | _ => none }
def WatchRemovesWrongFalsely : Prop := watchRemovesRow.holds Tryz.pinned (OpenSpec.ofChange watchRemovesWrong)

/-- 'salvorlaw13.WatchSmall': WHATEVER THE INPUT: true; the input reads as it did. -/
def watchSmallSpec : ChangeSpec := { name := "watchSmall", fn := fun _ => fun
  | [] => { results := [.lit (.bool true)], args := [] }
  | _ => none }
def watchSmallRow : OpenClaim := { program := "ytobcnejecogfoaagreat", sum := "fe52c18f2f3a52b6ef08200923c5bb5f82830745339d7ad5b1b06705a14413e9", func := "salvor/salvorlaw13.WatchSmall", spec := "watchSmall", inPlace := ["slices.overlaps[int]"], unfollowed := true, recurses := true, apart := false }
def WatchSmallSaid : Prop := watchSmallRow.holds Tryz.pinned (OpenSpec.ofChange watchSmallSpec)

/-- ITS FALSE NEIGHBOUR: 'it returns false'. Refute it at one input. -/
def watchSmallWrong : ChangeSpec := { name := "watchSmall", fn := fun _ => fun
  | [] => { results := [.lit (.bool false)], args := [] }
  | _ => none }
def WatchSmallWrongFalsely : Prop := watchSmallRow.holds Tryz.pinned (OpenSpec.ofChange watchSmallWrong)

/-- 'salvorlaw13.WatchTwo': WHATEVER THE INPUT: true; the input reads as it did. -/
def watchTwoSpec : ChangeSpec := { name := "watchTwo", fn := fun _ => fun
  | [d1, d2] => { results := [.lit (.bool true)], args := [d1, d2] }
  | _ => none }
def watchTwoRow : OpenClaim := { program := "ytobcnejecogfoaagreat", sum := "fe52c18f2f3a52b6ef08200923c5bb5f82830745339d7ad5b1b06705a14413e9", func := "salvor/salvorlaw13.WatchTwo", spec := "watchTwo", inPlace := ["slices.overlaps[int]"], unfollowed := true, recurses := true, apart := false }
def WatchTwoSaid : Prop := watchTwoRow.holds Tryz.pinned (OpenSpec.ofChange watchTwoSpec)

/-- ITS FALSE NEIGHBOUR: 'it returns false'. Refute it at one input. -/
def watchTwoWrong : ChangeSpec := { name := "watchTwo", fn := fun _ => fun
  | [d1, d2] => { results := [.lit (.bool false)], args := [d1, d2] }
  | _ => none }
def WatchTwoWrongFalsely : Prop := watchTwoRow.holds Tryz.pinned (OpenSpec.ofChange watchTwoWrong)

/- THE SECOND FORM. 'bulk': how many values and letters a reading holds, each counted each time it is reached (what is shared counts as often as it is met; a slice's spare places count too). A statement '..UptoSaid' is the law's where the arguments, and the package variables that the reading takes, are together of bulk at most 1048576: NARROWER than '..Said'. Prove '..Said' where nothing that the law and all that it calls make is longer than what came in: it says more and counts as full. Else prove '..UptoSaid'. A law counts once. -/
mutual
def uptoBulk {H : Type} : DataW H → Nat
  | .lit (.string bytes) => bytes.length + 1
  | .lit _ => 1
  | .nil => 1
  | .ptr d => uptoBulk d + 1
  | .slice elems spare => uptoBulkAll elems + uptoBulkAll spare + 1
  | .agg parts => uptoBulkAll parts + 1
  | .iface _ d => uptoBulk d + 1
  | .map entries => uptoBulkEntries entries + 1
  | .held _ => 1
def uptoBulkAll {H : Type} : List (DataW H) → Nat
  | [] => 0
  | d :: r => uptoBulk d + uptoBulkAll r
def uptoBulkEntries {H : Type} : List (Lit × DataW H) → Nat
  | [] => 0
  | x :: r => uptoBulkEntry x + uptoBulkEntries r
def uptoBulkEntry {H : Type} : Lit × DataW H → Nat
  | (.string bytes, d) => bytes.length + uptoBulk d + 1
  | (_, d) => uptoBulk d + 1
 end
def uptoSmall : (H : Type) → List (DataW H) → Bool := fun _ ds => decide (uptoBulkAll ds ≤ 1048576)
def OpenSpec.upto (s : _root_.Go.ChangeSpec) : _root_.Go.OpenSpec := { _root_.Go.OpenSpec.ofChange s with cond := some uptoSmall }

/-- 'salvorlaw13.WatchFinds', WHERE WHAT IT READS IS OF BULK AT MOST 1048576: true; the input reads as it did. -/
def watchFindsUptoRow : OpenClaim := { program := "ytobcnejecogfoaagreat", sum := "fe52c18f2f3a52b6ef08200923c5bb5f82830745339d7ad5b1b06705a14413e9", func := "salvor/salvorlaw13.WatchFinds", spec := "watchFinds", inPlace := ["slices.overlaps[int]"], unfollowed := true, recurses := true, apart := false, narrowed := true }
def WatchFindsUptoSaid : Prop := watchFindsUptoRow.holds Tryz.pinned (OpenSpec.upto watchFindsSpec)

/-- 'salvorlaw13.WatchAdds', WHERE WHAT IT READS IS OF BULK AT MOST 1048576: true; the input reads as it did. -/
def watchAddsUptoRow : OpenClaim := { program := "ytobcnejecogfoaagreat", sum := "fe52c18f2f3a52b6ef08200923c5bb5f82830745339d7ad5b1b06705a14413e9", func := "salvor/salvorlaw13.WatchAdds", spec := "watchAdds", inPlace := ["slices.overlaps[int]"], unfollowed := true, recurses := true, apart := false, narrowed := true }
def WatchAddsUptoSaid : Prop := watchAddsUptoRow.holds Tryz.pinned (OpenSpec.upto watchAddsSpec)

/-- 'salvorlaw13.WatchWrong', WHERE WHAT IT READS IS OF BULK AT MOST 1048576: true; the input reads as it did. -/
def watchWrongUptoRow : OpenClaim := { program := "ytobcnejecogfoaagreat", sum := "fe52c18f2f3a52b6ef08200923c5bb5f82830745339d7ad5b1b06705a14413e9", func := "salvor/salvorlaw13.WatchWrong", spec := "watchWrong", inPlace := ["slices.overlaps[int]"], unfollowed := true, recurses := true, apart := false, narrowed := true }
def WatchWrongUptoSaid : Prop := watchWrongUptoRow.holds Tryz.pinned (OpenSpec.upto watchWrongSpec)

/-- 'salvorlaw13.WatchAgain', WHERE WHAT IT READS IS OF BULK AT MOST 1048576: true; the input reads as it did. -/
def watchAgainUptoRow : OpenClaim := { program := "ytobcnejecogfoaagreat", sum := "fe52c18f2f3a52b6ef08200923c5bb5f82830745339d7ad5b1b06705a14413e9", func := "salvor/salvorlaw13.WatchAgain", spec := "watchAgain", inPlace := ["slices.overlaps[int]"], unfollowed := true, recurses := true, apart := false, narrowed := true }
def WatchAgainUptoSaid : Prop := watchAgainUptoRow.holds Tryz.pinned (OpenSpec.upto watchAgainSpec)

/-- 'salvorlaw13.WatchPlays', WHERE WHAT IT READS IS OF BULK AT MOST 1048576: true; the input reads as it did. -/
def watchPlaysUptoRow : OpenClaim := { program := "ytobcnejecogfoaagreat", sum := "fe52c18f2f3a52b6ef08200923c5bb5f82830745339d7ad5b1b06705a14413e9", func := "salvor/salvorlaw13.WatchPlays", spec := "watchPlays", inPlace := ["slices.overlaps[int]"], unfollowed := true, recurses := true, apart := false, narrowed := true }
def WatchPlaysUptoSaid : Prop := watchPlaysUptoRow.holds Tryz.pinned (OpenSpec.upto watchPlaysSpec)

/-- 'salvorlaw13.WatchRemoves', WHERE WHAT IT READS IS OF BULK AT MOST 1048576: true; the input reads as it did. -/
def watchRemovesUptoRow : OpenClaim := { program := "ytobcnejecogfoaagreat", sum := "fe52c18f2f3a52b6ef08200923c5bb5f82830745339d7ad5b1b06705a14413e9", func := "salvor/salvorlaw13.WatchRemoves", spec := "watchRemoves", inPlace := ["slices.overlaps[int]"], unfollowed := true, recurses := true, apart := false, narrowed := true }
def WatchRemovesUptoSaid : Prop := watchRemovesUptoRow.holds Tryz.pinned (OpenSpec.upto watchRemovesSpec)

/-- 'salvorlaw13.WatchSmall', WHERE WHAT IT READS IS OF BULK AT MOST 1048576: true; the input reads as it did. -/
def watchSmallUptoRow : OpenClaim := { program := "ytobcnejecogfoaagreat", sum := "fe52c18f2f3a52b6ef08200923c5bb5f82830745339d7ad5b1b06705a14413e9", func := "salvor/salvorlaw13.WatchSmall", spec := "watchSmall", inPlace := ["slices.overlaps[int]"], unfollowed := true, recurses := true, apart := false, narrowed := true }
def WatchSmallUptoSaid : Prop := watchSmallUptoRow.holds Tryz.pinned (OpenSpec.upto watchSmallSpec)

/-- 'salvorlaw13.WatchTwo', WHERE WHAT IT READS IS OF BULK AT MOST 1048576: true; the input reads as it did. -/
def watchTwoUptoRow : OpenClaim := { program := "ytobcnejecogfoaagreat", sum := "fe52c18f2f3a52b6ef08200923c5bb5f82830745339d7ad5b1b06705a14413e9", func := "salvor/salvorlaw13.WatchTwo", spec := "watchTwo", inPlace := ["slices.overlaps[int]"], unfollowed := true, recurses := true, apart := false, narrowed := true }
def WatchTwoUptoSaid : Prop := watchTwoUptoRow.holds Tryz.pinned (OpenSpec.upto watchTwoSpec)

end Rows
end Go.Proofs.YtobcnejecogfoaaGreat
