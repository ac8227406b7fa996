/- slices.SortFunc and SortedFunc at literals, with lits.Compare. -/
import Derived.Test.YthhpffdbipgkcaaGreatDoorCb
import Derived.Test.YthhpffdbipgkcaaGreatDoorSg
import Derived.Test.YthhpffdbipgkcaaGreatDoorShelf
import Derived.Shelf.SlSortCmp.NoneTotal
namespace Go.Proofs.YthhpffdbipgkcaaGreatDoor
open Go.RowKit Go.Shelf Go.Sort

/-- literals in order -/
def sortL (xs : List Int) : List Int := xs.mergeSort fun x y => !(ltOf litC) y x
theorem sortL_length (xs : List Int) : (sortL xs).length = xs.length := by simp [sortL]
theorem sortL_perm (xs : List Int) : (sortL xs).Perm xs := List.mergeSort_perm _ _
theorem sortL_mem {xs : List Int} {x : Int} : x ∈ sortL xs ↔ x ∈ xs := (sortL_perm xs).mem_iff
theorem compare_reads (blk off size : Nat) (w : World) : CmpReads Tryz.prog 40 #[] (Value.int .i64) litC blk off size w :=
  fun _ _ _ _ x y => (lit_compare x y _).mono fun _ _ ⟨he, hw⟩ => ⟨he, 0, hw.symm⟩
theorem own_sortL {base : Nat} (v : Value) (xs : List Int) (w : World) (h : w.ownsRow base 45 1 v xs.length (xs.map (Value.int .i64))) (hl : xs.length < 4611686018427387904) :
    Calls Tryz.prog 39 #[v, .func (.func 40) #[] #[]] w fun e w' => e = .returned (.tuple #[]) ∧ w'.ownsRow base 45 1 v (sortL xs).length ((sortL xs).map (Value.int .i64)) ∧ Kept (fun g => v.ownBlock = some g) w w' := by
  rcases h.2 with ⟨rfl, h0⟩ | ⟨g, cap, cur, rfl, hb, hg, h1, h2, h3, h4⟩
  · obtain rfl : xs = [] := List.eq_nil_of_length_eq_zero h0
    have hs : sortL [] = [] := by simp [sortL]
    have H := AnyF.slices_SortFunc_none (P := Tryz.prog) (ρ := Tryz.sortLit_ren) { Tryz.sortLit with } none 0 (.func (.func 40) #[] #[]) w
    change Calls Tryz.prog 39 _ _ _ at H
    refine H.mono ?_
    rintro e w' ⟨rfl, rfl⟩
    rw [hs]
    exact ⟨rfl, h, Kept.refl _ _⟩
  · have eg : ∀ args w, (callFunc 40 args).run Tryz.prog w = .ok (.enter 40 args) w := enters_of Tryz.func40 (by kernel_rfl) rfl
    have H := Any.slices_SortFunc_total Tryz.sortLit (Value.int .i64) (fun _ => rfl) litC ltC_swo 40 #[] g 0 cap xs.toArray w eg (compare_reads g 0 _ w).lays (st_holds hg (by simpa using h4)) (heap_lt hg) (by simpa using hl) ltC_total
    change Calls Tryz.prog 39 _ _ _ at H
    rw [List.size_toArray] at H
    refine H.mono ?_
    rintro e w' ⟨rfl, n, os, rfl⟩
    refine ⟨rfl, ?_, st_kept _⟩
    rw [sortL_length]
    refine ⟨by simp [sortL], .inr ⟨g, cap, _, rfl, hb, st_heap _ hg, h1, h2, by simp [putCells, h3], ?_⟩⟩
    have e : xs.length * 1 = (sortL xs).length := by rw [sortL_length, Nat.mul_one]
    rw [e]
    exact st_take cur (sortL xs) (by rw [sortL_length]; omega)
theorem sorted_values {O : Nat → Prop} (Bb : Nat) (u : Value) (xs : List Int) (w : World) (hB : w.cell? ⟨Bb, 0, none⟩ = some u) (hu : IntsIn O w u xs) (hlen : xs.length ≤ 1000000000000) :
    Calls Tryz.prog 89 #[.func (.func 99) #[] #[.pointer (some ⟨Bb, 0, none⟩)], .func (.func 40) #[] #[]] w fun e w' => ∃ v, e = .returned v ∧ w'.ownsRow w.heap.size 45 1 v (sortL xs).length ((sortL xs).map (Value.int .i64)) ∧ Below w.heap.size w w' := by
  have H := Lib.hid (collect_values Bb u xs w hB hu hlen)
  clear hB hu
  go_enter Tryz.func89, Tryz.ntmps89
  go_wp2_with fail
  refine H.out.mono ?_
  rintro e w1 ⟨v, rfl, hr, hb⟩
  have HS := Lib.hid (own_sortL v xs w1 hr (by omega))
  have HR := Lib.hid hr
  have HB := Lib.hid hb
  clear hr hb
  go_wp2_with fail
  refine HS.out.mono ?_
  rintro e w2 ⟨rfl, hr, hk⟩
  have HR2 := Lib.hid hr
  have HB2 := Lib.hid (HB.out.trans (hk.below (fun g hg => (own_lt HR.out g hg).1) HB.out.size))
  clear hr hk
  go_wp2_with fail
  go_ret
  exact ⟨_, rfl, HR2.out, HB2.out⟩
end Go.Proofs.YthhpffdbipgkcaaGreatDoor
