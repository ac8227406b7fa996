/-
  No cell of these rows narrows 'for every input' (looked for: loops, veiled, ifaces, maps, wideKeys, modest, calm, conditions, laid).
  DERIVED. THE GIVEN ROWS OF THIS SEAT. 2 by the template 'for every input the law returns true; each argument reads behind the call as it read before'; 0 by the template 'total and deterministic' (their statements: YtiodfolcnnkdjaaGreatTotals.lean).
  GIVEN WITH THE SEED: the statements are not yours to turn. If you find one false, say at which input.
  Laid BY PROGRAM, IN A SANDBOX (cutbox-rows.mjs): the forced cells as the released guide's own fill.sh prints them over the translation 9146a545894a0e14… (all of the seat's roots in one cut). By AI agents, Wed Nov 11 2026. No macro, syntax, notation, axiom, sorry.
-/
import Derived.Test.YtiodfolcnnkdjaaGreatChecked
import GoSem.Claim
import GoSem.ClaimJoined
import GoSem.ClaimMapViews
import Derived.JoinedTies
import Derived.KernelRfl
namespace Go.Proofs.YtiodfolcnnkdjaaGreat
/- THE CELL 'sum', in the pinned program and in every row, IS THE sha256 OF THE DUMP (.gsa) THAT YtiodfolcnnkdjaaGreatProg.lean LOADS. Nothing in Lean hashes anything: it is a label: what it is worth is what the hold of that sum in a sandbox is worth. -/
noncomputable def Tryz.pinned : Pinned := { name := "ytiodfolcnnkdjaagreat", sum := "9146a545894a0e14742a8154d3b3688b7b8527c8172e87108ed8fde88fe4d10d", checked := Tryz.checked }
namespace Rows
def none {H : Type} : Left H := { results := [], args := [] }

/-- 'salvorlaw15.MinimTells': WHATEVER THE INPUT: true; the input reads as it did. -/
def minimTellsSpec : ChangeSpec := { name := "minimTells", fn := fun _ => fun
  | [d1, d2, d3, d4, d5, d6] => { results := [.lit (.bool true)], args := [d1, d2, d3, d4, d5, d6] }
  | _ => none }
def minimTellsRow : OpenClaim := { program := "ytiodfolcnnkdjaagreat", sum := "9146a545894a0e14742a8154d3b3688b7b8527c8172e87108ed8fde88fe4d10d", func := "salvor/salvorlaw15.MinimTells", spec := "minimTells", unfollowed := true, recurses := true, apart := false }
def MinimTellsSaid : Prop := minimTellsRow.holds Tryz.pinned (OpenSpec.ofChange minimTellsSpec)

/-- ITS FALSE NEIGHBOUR: 'it returns false'. Refute it at one input. -/
def minimTellsWrong : ChangeSpec := { name := "minimTells", fn := fun _ => fun
  | [d1, d2, d3, d4, d5, d6] => { results := [.lit (.bool false)], args := [d1, d2, d3, d4, d5, d6] }
  | _ => none }
def MinimTellsWrongFalsely : Prop := minimTellsRow.holds Tryz.pinned (OpenSpec.ofChange minimTellsWrong)

/-- 'salvorlaw15.MinimSmall': WHATEVER THE INPUT: true; the input reads as it did. -/
def minimSmallSpec : ChangeSpec := { name := "minimSmall", fn := fun _ => fun
  | [] => { results := [.lit (.bool true)], args := [] }
  | _ => none }
def minimSmallRow : OpenClaim := { program := "ytiodfolcnnkdjaagreat", sum := "9146a545894a0e14742a8154d3b3688b7b8527c8172e87108ed8fde88fe4d10d", func := "salvor/salvorlaw15.MinimSmall", spec := "minimSmall", unfollowed := true, recurses := true, apart := false }
def MinimSmallSaid : Prop := minimSmallRow.holds Tryz.pinned (OpenSpec.ofChange minimSmallSpec)

/-- ITS FALSE NEIGHBOUR: 'it returns false'. Refute it at one input. -/
def minimSmallWrong : ChangeSpec := { name := "minimSmall", fn := fun _ => fun
  | [] => { results := [.lit (.bool false)], args := [] }
  | _ => none }
def MinimSmallWrongFalsely : Prop := minimSmallRow.holds Tryz.pinned (OpenSpec.ofChange minimSmallWrong)

/- THE SECOND FORM. 'bulk': how many values and letters a reading holds, each counted each time it is reached (what is shared counts as often as it is met; a slice's spare places count too). A statement '..UptoSaid' is the law's where the arguments, and the package variables that the reading takes, are together of bulk at most 1048576: NARROWER than '..Said'. Prove '..Said' where nothing that the law and all that it calls make is longer than what came in: it says more and counts as full. Else prove '..UptoSaid'. A law counts once. -/
mutual
def uptoBulk {H : Type} : DataW H → Nat
  | .lit (.string bytes) => bytes.length + 1
  | .lit _ => 1
  | .nil => 1
  | .ptr d => uptoBulk d + 1
  | .slice elems spare => uptoBulkAll elems + uptoBulkAll spare + 1
  | .agg parts => uptoBulkAll parts + 1
  | .iface _ d => uptoBulk d + 1
  | .map entries => uptoBulkEntries entries + 1
  | .held _ => 1
def uptoBulkAll {H : Type} : List (DataW H) → Nat
  | [] => 0
  | d :: r => uptoBulk d + uptoBulkAll r
def uptoBulkEntries {H : Type} : List (Lit × DataW H) → Nat
  | [] => 0
  | x :: r => uptoBulkEntry x + uptoBulkEntries r
def uptoBulkEntry {H : Type} : Lit × DataW H → Nat
  | (.string bytes, d) => bytes.length + uptoBulk d + 1
  | (_, d) => uptoBulk d + 1
 end
def uptoSmall : (H : Type) → List (DataW H) → Bool := fun _ ds => decide (uptoBulkAll ds ≤ 1048576)
def OpenSpec.upto (s : _root_.Go.ChangeSpec) : _root_.Go.OpenSpec := { _root_.Go.OpenSpec.ofChange s with cond := some uptoSmall }

/-- 'salvorlaw15.MinimTells', WHERE WHAT IT READS IS OF BULK AT MOST 1048576: true; the input reads as it did. -/
def minimTellsUptoRow : OpenClaim := { program := "ytiodfolcnnkdjaagreat", sum := "9146a545894a0e14742a8154d3b3688b7b8527c8172e87108ed8fde88fe4d10d", func := "salvor/salvorlaw15.MinimTells", spec := "minimTells", unfollowed := true, recurses := true, apart := false, narrowed := true }
def MinimTellsUptoSaid : Prop := minimTellsUptoRow.holds Tryz.pinned (OpenSpec.upto minimTellsSpec)

/-- 'salvorlaw15.MinimSmall', WHERE WHAT IT READS IS OF BULK AT MOST 1048576: true; the input reads as it did. -/
def minimSmallUptoRow : OpenClaim := { program := "ytiodfolcnnkdjaagreat", sum := "9146a545894a0e14742a8154d3b3688b7b8527c8172e87108ed8fde88fe4d10d", func := "salvor/salvorlaw15.MinimSmall", spec := "minimSmall", unfollowed := true, recurses := true, apart := false, narrowed := true }
def MinimSmallUptoSaid : Prop := minimSmallUptoRow.holds Tryz.pinned (OpenSpec.upto minimSmallSpec)

end Rows
end Go.Proofs.YtiodfolcnnkdjaaGreat
