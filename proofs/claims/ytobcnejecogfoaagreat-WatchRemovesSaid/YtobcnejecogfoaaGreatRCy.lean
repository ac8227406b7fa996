/- slices.Clone at clauses. -/
import Derived.Test.YtobcnejecogfoaaGreatQ31
import Derived.Test.YtobcnejecogfoaaGreatQ04
import Derived.Test.YtobcnejecogfoaaGreatQ30
namespace Go.Proofs.YtobcnejecogfoaaGreat
open Go.RowKit

set_option maxRecDepth 100000 in
set_option maxHeartbeats 2000000 in
theorem clone_row (A : Option Addr) (k c : Nat) (us : List Value) (w : World) (h : SrcAt w (.slice A k c) k us) (hn : A = none → k = 0 ∧ c = 0) (hl : us.length = k) (h1 : ∀ z ∈ us, z.oneCell' = true) (hk : k ≤ 1000000000) :
    Calls Tryz.prog 43 #[.slice A k c] w fun e w' => ∃ v, e = .returned v ∧ w'.ownsRow w.heap.size 41 1 v k us ∧ Below w.heap.size w w' := by
  obtain ⟨i0, hi, hz0, hz1, hz2⟩ := info_parts info_cls
  cases A with
  | none =>
    obtain ⟨rfl, rfl⟩ := hn rfl
    obtain rfl : us = [] := List.eq_nil_of_length_eq_zero hl
    have hq := fun w => Lib.run_eql_slice_nil (P := Tryz.prog) w 25 41 none 0 0 0 0 Tryz.underlying25
    clear h h1
    go_enter Tryz.func43, Tryz.ntmps43
    go_wp2
    go_ret
    exact ⟨_, rfl, World.ownsRow_nil _ _ _ _, Below.refl _ _⟩
  | some a =>
    have hq := fun w => Lib.run_eql_slice_nil (P := Tryz.prog) w 25 41 (some a) k c 0 0 Tryz.underlying25
    have hnews : ∀ j u, us[j]? = some u → (w.alloc (.cells #[] 41)).cell? (a.add j) = some u := fun j u hj => by
      rcases h with ⟨h, _⟩ | ⟨ad, c', hv, hx⟩
      · cases h
      · cases hv
        have h0 := hx j u hj
        exact ((mx_al w _).cell (World.block_lt_of_cell? w _ h0)).trans h0
    have HN := Lib.hid hnews
    have H1 := Lib.hid h1
    have h0 : (w.alloc (.cells #[] 41)).ownsRow w.heap.size 41 1 (.slice (some ⟨w.heap.size, 0, none⟩) 0 0) 0 [] := ⟨rfl, .inr ⟨w.heap.size, 0, #[], rfl, Nat.le_refl _, World.alloc_heap_new _ _, Nat.le_refl _, Nat.zero_le _, rfl, rfl⟩⟩
    have H0 := Lib.hid h0
    have HLU := Lib.hid hl
    clear hnews h0 h h1 hn hl
    go_enter Tryz.func43, Tryz.ntmps43
    go_wp2_with (at_builtin; refine wpList_append_own_at _ rfl _ _ 25 rfl w.heap.size 41 i0 (.slice none 0 0) 1 24 Tryz.underlying25 hi hz0 hz1 hz2 rfl (by decide) _ _ _ rfl H0.out a k c us rfl (by rw [HLU.out, Nat.mul_one]) HN.out H1.out (by unfold maxLen; omega) (by omega) (by simp) ?_; intro v' w1 hown hgrow hnl hat)
    go_ret
    have hB : Below w.heap.size w w1 := ((Below.refl w.heap.size w).alloc (Nat.le_refl _) (.cells #[] 41)).grown hgrow (by simp) (fun g hg => by cases hg; exact Nat.le_refl _)
    exact ⟨_, rfl, by simpa using hown, hB⟩
end Go.Proofs.YtobcnejecogfoaaGreat
