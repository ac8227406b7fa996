/- Numbers that come in: an unsigned one is a natural number. -/
import Derived.Test.YtihigfpikiaaiaaDoorZa
namespace Go.Proofs.YtihigfpikiaaiaaDoor
open Go.RowKit
theorem nat_of_wf {k : IntKind} {n : Int} (hk : k.signed = false) (h : (Lit.int k n).wf = true) : ∃ m : Nat, n = (m : Int) ∧ (m : Int) < 2 ^ k.bits := by
  simp only [Lit.wf, IntKind.min, IntKind.max, hk, Bool.and_eq_true, decide_eq_true_eq] at h
  simp at h
  exact ⟨n.toNat, by omega, by omega⟩
end Go.Proofs.YtihigfpikiaaiaaDoor
