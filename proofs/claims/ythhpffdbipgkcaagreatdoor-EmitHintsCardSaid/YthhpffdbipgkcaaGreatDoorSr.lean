/- Reverse at rows that are owned. -/
import Derived.Test.YthhpffdbipgkcaaGreatDoorShelf
import Derived.Test.YthhpffdbipgkcaaGreatDoorSg
namespace Go.Proofs.YthhpffdbipgkcaaGreatDoor
open Go.RowKit Go.Sort

theorem own_reverse {base : Nat} (v : Value) (xs : List Int) (w : World) (h : w.ownsRow base 3 1 v xs.length (xs.map (Value.int .i64))) (hl : xs.length < 4611686018427387904) :
    Calls Tryz.prog 46 #[v] w fun e w' => e = .returned (.tuple #[]) ∧ w'.ownsRow base 3 1 v xs.reverse.length (xs.reverse.map (Value.int .i64)) ∧ Kept (fun g => v.ownBlock = some g) w w' := by
  rcases h.2 with ⟨rfl, h0⟩ | ⟨g, cap, cur, rfl, hb, hg, h1, h2, h3, h4⟩
  · obtain rfl : xs = [] := List.eq_nil_of_length_eq_zero h0
    refine (Tryz.slices_Reverse_int_empty none 0 w).mono ?_
    rintro e w' ⟨rfl, rfl⟩
    exact ⟨rfl, h, Kept.refl _ _⟩
  · refine (Tryz.slices_Reverse_int g 0 cap xs w (st_holds hg (by simpa using h4)) (by omega)).mono ?_
    rintro e w' ⟨rfl, n, rfl⟩
    refine ⟨rfl, ?_, st_kept1 _⟩
    rw [List.length_reverse]
    refine ⟨by simp, .inr ⟨g, cap, _, rfl, hb, st_heap1 _ hg, h1, h2, by simp [putCells, h3], ?_⟩⟩
    have e : xs.length * 1 = xs.reverse.length := by simp
    rw [e]
    exact st_take cur xs.reverse (by rw [List.length_reverse]; omega)
end Go.Proofs.YthhpffdbipgkcaaGreatDoor
