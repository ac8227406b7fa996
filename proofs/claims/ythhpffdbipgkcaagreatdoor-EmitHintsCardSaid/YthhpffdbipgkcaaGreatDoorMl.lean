/- Clauses in memory. -/
import Derived.Test.YthhpffdbipgkcaaGreatDoorMx
namespace Go.Proofs.YthhpffdbipgkcaaGreatDoor
open Go.RowKit

/-- clauses in memory -/
def ClsAt (w : World) (v : Value) (cs : List (List Int)) : Prop :=
  ∃ A c, v = .slice A cs.length c ∧ ∀ i xs, cs[i]? = some xs → ∃ g o u, A = some ⟨g, o, none⟩ ∧ g < w.heap.size ∧ w.cell? ⟨g, o + i, none⟩ = some u ∧ IntsIn (fun g => g < w.heap.size) w u xs
theorem ClsAt.below {w w' : World} {v : Value} {cs : List (List Int)} (h : ClsAt w v cs) (hb : Below w.heap.size w w') : ClsAt w' v cs := by
  obtain ⟨A, c, hv, hx⟩ := h
  refine ⟨A, c, hv, fun i xs hi => ?_⟩
  obtain ⟨g, o, u, h1, h2, h3, h4⟩ := hx i xs hi
  exact ⟨g, o, u, h1, Nat.lt_of_lt_of_le h2 hb.size, (hb.cell (p := ⟨g, o + i, none⟩) h2).trans h3, (h4.below hb).mono (fun g hg => Nat.lt_of_lt_of_le hg hb.size)⟩
theorem ClsAt.nil (w : World) : ClsAt w (.slice none 0 0) [] := ⟨none, 0, rfl, fun i xs h => by simp at h⟩
end Go.Proofs.YthhpffdbipgkcaaGreatDoor
