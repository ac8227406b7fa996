/- Rows of integers that came in, and rows of such rows. -/
import Derived.Test.YthhpffdbipgkcaaGreatDoorMa
namespace Go.Proofs.YthhpffdbipgkcaaGreatDoor
open Go.RowKit

/-- a slice of integers of a kind that reads as xs -/
def RowAt (k : IntKind) (w : World) (v : Value) (xs : List Int) : Prop :=
  ∃ A c, v = .slice A xs.length c ∧ xs.length ≤ c ∧ c ≤ maxLen ∧ (A = none → c = 0) ∧ (∀ n ∈ xs, (Lit.int k n).wf = true) ∧ ∀ i x, xs[i]? = some x → ∃ g o, A = some ⟨g, o, none⟩ ∧ g < w.heap.size ∧ w.cell? ⟨g, o + i, none⟩ = some (.int k x)
theorem RowAt.below {k : IntKind} {w w' : World} {v : Value} {xs : List Int} (h : RowAt k w v xs) (hb : Below w.heap.size w w') : RowAt k w' v xs := by
  obtain ⟨A, c, hv, hc, hm, hn, hw, hx⟩ := h
  refine ⟨A, c, hv, hc, hm, hn, hw, fun i x hi => ?_⟩
  obtain ⟨g, o, h1, h2, h3⟩ := hx i x hi
  exact ⟨g, o, h1, Nat.lt_of_lt_of_le h2 hb.size, (hb.cell (p := ⟨g, o + i, none⟩) h2).trans h3⟩
theorem RowAt.ints {w : World} {v : Value} {xs : List Int} (h : RowAt .i64 w v xs) : IntsIn (fun g => g < w.heap.size) w v xs := by
  obtain ⟨A, c, hv, hc, _, hn, _, hx⟩ := h
  refine ⟨A, c, hv, hc, hn, fun i x hi => ?_⟩
  obtain ⟨g, o, h1, h2, h3⟩ := hx i x hi
  exact ⟨g, o, h1, h2, h2, h3⟩
/-- a slice of slices of integers -/
def RowsAt (k : IntKind) (w : World) (v : Value) (xss : List (List Int)) : Prop :=
  ∃ A c, v = .slice A xss.length c ∧ xss.length ≤ c ∧ c ≤ maxLen ∧ (A = none → c = 0) ∧ ∀ i xs, xss[i]? = some xs → ∃ g o u, A = some ⟨g, o, none⟩ ∧ g < w.heap.size ∧ w.cell? ⟨g, o + i, none⟩ = some u ∧ RowAt k w u xs
theorem RowsAt.below {k : IntKind} {w w' : World} {v : Value} {xss : List (List Int)} (h : RowsAt k w v xss) (hb : Below w.heap.size w w') : RowsAt k w' v xss := by
  obtain ⟨A, c, hv, hc, hm, hn, hx⟩ := h
  refine ⟨A, c, hv, hc, hm, hn, fun i x hi => ?_⟩
  obtain ⟨g, o, u, h1, h2, h3, h4⟩ := hx i x hi
  exact ⟨g, o, u, h1, Nat.lt_of_lt_of_le h2 hb.size, (hb.cell (p := ⟨g, o + i, none⟩) h2).trans h3, h4.below hb⟩
end Go.Proofs.YthhpffdbipgkcaaGreatDoor
