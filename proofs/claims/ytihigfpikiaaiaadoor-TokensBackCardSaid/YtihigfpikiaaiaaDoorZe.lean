/- Numbers that come in: an unsigned one is a natural number. -/
import Derived.Test.YtihigfpikiaaiaaDoorZa
namespace Go.Proofs.YtihigfpikiaaiaaDoor
open Go.RowKit
theorem nat_of_wf {k : IntKind} {n : Int} (hk : k.signed = false) (h : (Lit.int k n).wf = true) : ∃ m : Nat, n = (m : Int) ∧ (m : Int) < 2 ^ k.bits := by
  simp only [Lit.wf, IntKind.min, IntKind.max, hk, Bool.and_eq_true, decide_eq_true_eq] at h
  simp at h
  exact ⟨n.toNat, by omega, by omega⟩
theorem u8_of_wf {n : Int} (h : (Lit.int .u8 n).wf = true) : 0 ≤ n ∧ n ≤ 255 := by
  obtain ⟨m, rfl, hm⟩ := nat_of_wf rfl h
  have : (m : Int) < 256 := hm
  omega
end Go.Proofs.YtihigfpikiaaiaaDoor
