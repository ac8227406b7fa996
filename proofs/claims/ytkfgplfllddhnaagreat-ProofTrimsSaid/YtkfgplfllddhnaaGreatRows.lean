/-
  No cell of these rows narrows 'for every input' (looked for: loops, veiled, ifaces, maps, wideKeys, modest, calm, conditions, laid).
  DERIVED. THE GIVEN ROWS OF THIS SEAT. 5 by the template 'for every input the law returns true; each argument reads behind the call as it read before'; 0 by the template 'total and deterministic' (their statements: YtkfgplfllddhnaaGreatTotals.lean).
  GIVEN WITH THE SEED: the statements are not yours to turn. If you find one false, say at which input.
  Laid BY PROGRAM, IN A SANDBOX (cutbox-rows.mjs): the forced cells as the released guide's own fill.sh prints them over the translation 3d8829f660723c95… (all of the seat's roots in one cut). By AI agents, Wed Nov 11 2026. No macro, syntax, notation, axiom, sorry.
-/
import Derived.Test.YtkfgplfllddhnaaGreatChecked
import GoSem.Claim
import GoSem.ClaimJoined
import GoSem.ClaimMapViews
import Derived.JoinedTies
import Derived.KernelRfl
namespace Go.Proofs.YtkfgplfllddhnaaGreat
/- THE CELL 'sum', in the pinned program and in every row, IS THE sha256 OF THE DUMP (.gsa) THAT YtkfgplfllddhnaaGreatProg.lean LOADS. Nothing in Lean hashes anything: it is a label: what it is worth is what the hold of that sum in a sandbox is worth. -/
noncomputable def Tryz.pinned : Pinned := { name := "ytkfgplfllddhnaagreat", sum := "3d8829f660723c95f5b71314dea9fcbb531cbbaf947d456b8af3f5897c1ea476", checked := Tryz.checked }
namespace Rows
def none {H : Type} : Left H := { results := [], args := [] }

/-- 'salvorlaw10.ProofSound': WHATEVER THE INPUT: true; the input reads as it did. -/
def proofSoundSpec : ChangeSpec := { name := "proofSound", fn := fun _ => fun
  | [d1, d2, d3] => { results := [.lit (.bool true)], args := [d1, d2, d3] }
  | _ => none }
def proofSoundRow : OpenClaim := { program := "ytkfgplfllddhnaagreat", sum := "3d8829f660723c95f5b71314dea9fcbb531cbbaf947d456b8af3f5897c1ea476", func := "salvor/salvorlaw10.ProofSound", spec := "proofSound", inPlace := ["maps.clone"], unfollowed := true, recurses := true, apart := false }
def ProofSoundSaid : Prop := proofSoundRow.holds Tryz.pinned (OpenSpec.ofChange proofSoundSpec)

/-- ITS FALSE NEIGHBOUR: 'it returns false'. Refute it at one input. -/
def proofSoundWrong : ChangeSpec := { name := "proofSound", fn := fun _ => fun
  | [d1, d2, d3] => { results := [.lit (.bool false)], args := [d1, d2, d3] }
  | _ => none }
def ProofSoundWrongFalsely : Prop := proofSoundRow.holds Tryz.pinned (OpenSpec.ofChange proofSoundWrong)

/-- 'salvorlaw10.ProofResolves': WHATEVER THE INPUT: true; the input reads as it did. -/
def proofResolvesSpec : ChangeSpec := { name := "proofResolves", fn := fun _ => fun
  | [d1, d2] => { results := [.lit (.bool true)], args := [d1, d2] }
  | _ => none }
def proofResolvesRow : OpenClaim := { program := "ytkfgplfllddhnaagreat", sum := "3d8829f660723c95f5b71314dea9fcbb531cbbaf947d456b8af3f5897c1ea476", func := "salvor/salvorlaw10.ProofResolves", spec := "proofResolves", inPlace := ["maps.clone"], unfollowed := true, recurses := true, apart := false }
def ProofResolvesSaid : Prop := proofResolvesRow.holds Tryz.pinned (OpenSpec.ofChange proofResolvesSpec)

/-- ITS FALSE NEIGHBOUR: 'it returns false'. Refute it at one input. -/
def proofResolvesWrong : ChangeSpec := { name := "proofResolves", fn := fun _ => fun
  | [d1, d2] => { results := [.lit (.bool false)], args := [d1, d2] }
  | _ => none }
def ProofResolvesWrongFalsely : Prop := proofResolvesRow.holds Tryz.pinned (OpenSpec.ofChange proofResolvesWrong)

/-- 'salvorlaw10.ProofStops': WHATEVER THE INPUT: true; the input reads as it did. -/
def proofStopsSpec : ChangeSpec := { name := "proofStops", fn := fun _ => fun
  | [d1, d2, d3] => { results := [.lit (.bool true)], args := [d1, d2, d3] }
  | _ => none }
def proofStopsRow : OpenClaim := { program := "ytkfgplfllddhnaagreat", sum := "3d8829f660723c95f5b71314dea9fcbb531cbbaf947d456b8af3f5897c1ea476", func := "salvor/salvorlaw10.ProofStops", spec := "proofStops", inPlace := ["maps.clone"], unfollowed := true, recurses := true, apart := false }
def ProofStopsSaid : Prop := proofStopsRow.holds Tryz.pinned (OpenSpec.ofChange proofStopsSpec)

/-- ITS FALSE NEIGHBOUR: 'it returns false'. Refute it at one input. -/
def proofStopsWrong : ChangeSpec := { name := "proofStops", fn := fun _ => fun
  | [d1, d2, d3] => { results := [.lit (.bool false)], args := [d1, d2, d3] }
  | _ => none }
def ProofStopsWrongFalsely : Prop := proofStopsRow.holds Tryz.pinned (OpenSpec.ofChange proofStopsWrong)

/-- 'salvorlaw10.ProofDeletes': WHATEVER THE INPUT: true; the input reads as it did. -/
def proofDeletesSpec : ChangeSpec := { name := "proofDeletes", fn := fun _ => fun
  | [d1, d2, d3] => { results := [.lit (.bool true)], args := [d1, d2, d3] }
  | _ => none }
def proofDeletesRow : OpenClaim := { program := "ytkfgplfllddhnaagreat", sum := "3d8829f660723c95f5b71314dea9fcbb531cbbaf947d456b8af3f5897c1ea476", func := "salvor/salvorlaw10.ProofDeletes", spec := "proofDeletes", inPlace := ["maps.clone"], unfollowed := true, recurses := true, apart := false }
def ProofDeletesSaid : Prop := proofDeletesRow.holds Tryz.pinned (OpenSpec.ofChange proofDeletesSpec)

/-- ITS FALSE NEIGHBOUR: 'it returns false'. Refute it at one input. -/
def proofDeletesWrong : ChangeSpec := { name := "proofDeletes", fn := fun _ => fun
  | [d1, d2, d3] => { results := [.lit (.bool false)], args := [d1, d2, d3] }
  | _ => none }
def ProofDeletesWrongFalsely : Prop := proofDeletesRow.holds Tryz.pinned (OpenSpec.ofChange proofDeletesWrong)

/-- 'salvorlaw10.ProofTrims': WHATEVER THE INPUT: true; the input reads as it did. -/
def proofTrimsSpec : ChangeSpec := { name := "proofTrims", fn := fun _ => fun
  | [d1, d2, d3] => { results := [.lit (.bool true)], args := [d1, d2, d3] }
  | _ => none }
def proofTrimsRow : OpenClaim := { program := "ytkfgplfllddhnaagreat", sum := "3d8829f660723c95f5b71314dea9fcbb531cbbaf947d456b8af3f5897c1ea476", func := "salvor/salvorlaw10.ProofTrims", spec := "proofTrims", inPlace := ["maps.clone"], unfollowed := true, recurses := true, apart := false }
def ProofTrimsSaid : Prop := proofTrimsRow.holds Tryz.pinned (OpenSpec.ofChange proofTrimsSpec)

/-- ITS FALSE NEIGHBOUR: 'it returns false'. Refute it at one input. -/
def proofTrimsWrong : ChangeSpec := { name := "proofTrims", fn := fun _ => fun
  | [d1, d2, d3] => { results := [.lit (.bool false)], args := [d1, d2, d3] }
  | _ => none }
def ProofTrimsWrongFalsely : Prop := proofTrimsRow.holds Tryz.pinned (OpenSpec.ofChange proofTrimsWrong)

/- THE SECOND FORM. 'bulk': how many values and letters a reading holds, each counted each time it is reached (what is shared counts as often as it is met; a slice's spare places count too). A statement '..UptoSaid' is the law's where the arguments, and the package variables that the reading takes, are together of bulk at most 1048576: NARROWER than '..Said'. Prove '..Said' where nothing that the law and all that it calls make is longer than what came in: it says more and counts as full. Else prove '..UptoSaid'. A law counts once. -/
mutual
def uptoBulk {H : Type} : DataW H → Nat
  | .lit (.string bytes) => bytes.length + 1
  | .lit _ => 1
  | .nil => 1
  | .ptr d => uptoBulk d + 1
  | .slice elems spare => uptoBulkAll elems + uptoBulkAll spare + 1
  | .agg parts => uptoBulkAll parts + 1
  | .iface _ d => uptoBulk d + 1
  | .map entries => uptoBulkEntries entries + 1
  | .held _ => 1
def uptoBulkAll {H : Type} : List (DataW H) → Nat
  | [] => 0
  | d :: r => uptoBulk d + uptoBulkAll r
def uptoBulkEntries {H : Type} : List (Lit × DataW H) → Nat
  | [] => 0
  | x :: r => uptoBulkEntry x + uptoBulkEntries r
def uptoBulkEntry {H : Type} : Lit × DataW H → Nat
  | (.string bytes, d) => bytes.length + uptoBulk d + 1
  | (_, d) => uptoBulk d + 1
 end
def uptoSmall : (H : Type) → List (DataW H) → Bool := fun _ ds => decide (uptoBulkAll ds ≤ 1048576)
def OpenSpec.upto (s : _root_.Go.ChangeSpec) : _root_.Go.OpenSpec := { _root_.Go.OpenSpec.ofChange s with cond := some uptoSmall }

/-- 'salvorlaw10.ProofSound', WHERE WHAT IT READS IS OF BULK AT MOST 1048576: true; the input reads as it did. -/
def proofSoundUptoRow : OpenClaim := { program := "ytkfgplfllddhnaagreat", sum := "3d8829f660723c95f5b71314dea9fcbb531cbbaf947d456b8af3f5897c1ea476", func := "salvor/salvorlaw10.ProofSound", spec := "proofSound", inPlace := ["maps.clone"], unfollowed := true, recurses := true, apart := false, narrowed := true }
def ProofSoundUptoSaid : Prop := proofSoundUptoRow.holds Tryz.pinned (OpenSpec.upto proofSoundSpec)

/-- 'salvorlaw10.ProofResolves', WHERE WHAT IT READS IS OF BULK AT MOST 1048576: true; the input reads as it did. -/
def proofResolvesUptoRow : OpenClaim := { program := "ytkfgplfllddhnaagreat", sum := "3d8829f660723c95f5b71314dea9fcbb531cbbaf947d456b8af3f5897c1ea476", func := "salvor/salvorlaw10.ProofResolves", spec := "proofResolves", inPlace := ["maps.clone"], unfollowed := true, recurses := true, apart := false, narrowed := true }
def ProofResolvesUptoSaid : Prop := proofResolvesUptoRow.holds Tryz.pinned (OpenSpec.upto proofResolvesSpec)

/-- 'salvorlaw10.ProofStops', WHERE WHAT IT READS IS OF BULK AT MOST 1048576: true; the input reads as it did. -/
def proofStopsUptoRow : OpenClaim := { program := "ytkfgplfllddhnaagreat", sum := "3d8829f660723c95f5b71314dea9fcbb531cbbaf947d456b8af3f5897c1ea476", func := "salvor/salvorlaw10.ProofStops", spec := "proofStops", inPlace := ["maps.clone"], unfollowed := true, recurses := true, apart := false, narrowed := true }
def ProofStopsUptoSaid : Prop := proofStopsUptoRow.holds Tryz.pinned (OpenSpec.upto proofStopsSpec)

/-- 'salvorlaw10.ProofDeletes', WHERE WHAT IT READS IS OF BULK AT MOST 1048576: true; the input reads as it did. -/
def proofDeletesUptoRow : OpenClaim := { program := "ytkfgplfllddhnaagreat", sum := "3d8829f660723c95f5b71314dea9fcbb531cbbaf947d456b8af3f5897c1ea476", func := "salvor/salvorlaw10.ProofDeletes", spec := "proofDeletes", inPlace := ["maps.clone"], unfollowed := true, recurses := true, apart := false, narrowed := true }
def ProofDeletesUptoSaid : Prop := proofDeletesUptoRow.holds Tryz.pinned (OpenSpec.upto proofDeletesSpec)

/-- 'salvorlaw10.ProofTrims', WHERE WHAT IT READS IS OF BULK AT MOST 1048576: true; the input reads as it did. -/
def proofTrimsUptoRow : OpenClaim := { program := "ytkfgplfllddhnaagreat", sum := "3d8829f660723c95f5b71314dea9fcbb531cbbaf947d456b8af3f5897c1ea476", func := "salvor/salvorlaw10.ProofTrims", spec := "proofTrims", inPlace := ["maps.clone"], unfollowed := true, recurses := true, apart := false, narrowed := true }
def ProofTrimsUptoSaid : Prop := proofTrimsUptoRow.holds Tryz.pinned (OpenSpec.upto proofTrimsSpec)

end Rows
end Go.Proofs.YtkfgplfllddhnaaGreat
