/- lratext.Right at steps that are right. -/
import Derived.Test.YthhpffdbipgkcaaGreatDoorEj
namespace Go.Proofs.YthhpffdbipgkcaaGreatDoor
open Go.RowKit

structure StepOk (s : EStep) : Prop where
  id0 : 1 ≤ s.id
  id1 : s.id ≤ 1073741824
  del : s.del = true → s.lits = []
  lits : clauseB s.lits = true
  len : s.hints.length ≤ 65536
  hints : ∀ x ∈ s.hints, HintOk x
theorem wrong_any (r : Bool) (w : World) : Calls Tryz.prog 85 #[.bool r] w fun e w' => ∃ bx, e = .returned (.func (.func 96) #[] #[.pointer (some ⟨bx, 0, none⟩)]) ∧ w'.cell? ⟨bx, 0, none⟩ = some (.bool r) ∧ Below w.heap.size w w' := by
  go_enter Tryz.func85, Tryz.ntmps85
  go_wp2
  go_ret
  exact ⟨_, rfl, cell_new _ _ _ _, (Below.refl _ _).alloc (Nat.le_refl _) _⟩
set_option maxRecDepth 100000 in
set_option maxHeartbeats 1000000 in
theorem right_step {O O' : Nat → Prop} (s : EStep) (lv hv : Value) (w : World) (h : StepOk s) (hl : IntsIn O w lv s.lits) (hh : IntsIn O' w hv s.hints) :
    Calls Tryz.prog 67 #[.agg #[.bool s.del, .int .i64 s.id, lv, hv]] w fun e w' => e = .returned (.bool true) ∧ Below w.heap.size w w' := by
  obtain ⟨i0, i1, hd, hc, hlen, hok⟩ := h
  have hcl : s.lits.length ≤ 4096 := by
    unfold clauseB at hc
    rw [Bool.and_eq_true, decide_eq_true_eq] at hc
    exact hc.1
  have HR := fun w' k => right_clause (O := O) lv s.lits w' (hl.below k) (by omega)
  rw [hc] at HR
  have HR := Lib.hid HR
  have HH := Lib.hid hh
  have HOK := Lib.hid hok
  have q1 : decide (s.id < 0) = false := by simp; omega
  have q2 : decide ((1073741824 : Int) < s.id) = false := by simp; omega
  have q3 : (s.id == 0) = false := by simp; omega
  have q4 : decide ((s.hints.length : Int) ≤ 65536) = true := by simp; omega
  have q5 : s.del = true → decide ((0 : Int) < (s.lits.length : Int)) = false := fun h => by rw [hd h]; simp
  have q6 : s.del = true → s.lits.length = 0 := fun h => by rw [hd h]; rfl
  obtain ⟨A, c, rfl, hcc, _⟩ := hl
  obtain ⟨A', c', rfl, hcc', _⟩ := hh
  clear hc hok hd
  cases hdel : s.del with
  | false =>
    clear q5 q6
    have HD := Lib.hid hdel
    clear hdel
    have hB1 : Below w.heap.size w (w.alloc (.cells #[.bool false, .int .i64 s.id, .slice A s.lits.length c, .slice A' s.hints.length c'] 71)) := (Below.refl _ _).alloc (Nat.le_refl _) _
    have HB1 := Lib.hid hB1
    clear hB1
    go_enter Tryz.func67, Tryz.ntmps67
    go_wp2_with fail
    refine wp_region_held_drew (S := fun w' => w'.cell? ⟨w.heap.size, 0, none⟩ = some (.bool false) ∧ w'.cell? ⟨w.heap.size, 2, none⟩ = some (.slice A s.lits.length c) ∧ w'.cell? ⟨w.heap.size, 3, none⟩ = some (.slice A' s.hints.length c')) (by kernel_rfl) ⟨cell_new _ _ _ _, cell_new _ _ _ _, cell_new _ _ _ _⟩ (fun hHeld => ?_)
    refine takeS 0 31 ?_
    refine takeS 1 32 ?_
    refine ready1 2 (fun K hK => ?_)
    go_simp
    refine (HR.out _ HB1.out.drew).mono ?_
    rintro e w' ⟨rfl, rfl⟩
    refine hK.out _ _ hHeld (fun hHeld1 => ?_)
    clear hK hHeld
    refine takeS 3 34 ?_
    refine takeS 4 35 ?_
    refine takeS 5 36 ?_
    refine takeS 6 37 ?_
    refine takeS 7 38 ?_
    refine takeS 8 39 ?_
    refine takeS 9 40 ?_
    refine takeS 10 41 ?_
    refine takeS 11 42 ?_
    refine takeS 12 43 ?_
    refine takeS 13 44 ?_
    refine ready1 14 (fun K hK => ?_)
    go_simp
    refine (wrong_any false _).mono ?_
    rintro e w2 ⟨bx, rfl, hcb, hB3⟩
    have hB2 : Below w.heap.size w w2 := HB1.out.drew.trans (hB3.mono (by simp))
    refine hK.out _ _ ⟨(hB3.cell (p := ⟨w.heap.size, 0, none⟩) (by simp)).trans hHeld1.1, (hB3.cell (p := ⟨w.heap.size, 2, none⟩) (by simp)).trans hHeld1.2.1, (hB3.cell (p := ⟨w.heap.size, 3, none⟩) (by simp)).trans hHeld1.2.2⟩ (fun hHeld2 => ?_)
    clear hK hHeld1
    have HC := contains_hints _ s.hints _ false _ (HH.out.below hB2) (by omega) HOK.out hcb
    have HC := Lib.hid HC
    have HB2 := Lib.hid hB2
    clear hB2 hB3 hcb
    refine ready1 15 (fun K hK => ?_)
    go_simp
    refine HC.out.mono ?_
    rintro e w' ⟨rfl, rfl⟩
    refine hK.out _ _ hHeld2 (fun hHeld3 => ?_)
    clear hK hHeld2
    refine takeS 16 47 ?_
    refine takeS 17 48 ?_
    refine takeS 18 2 ?_
    refine wpAnyH_done (by kernel_rfl) ?_ _
    go_wp2
    go_ret
    exact ⟨rfl, HB2.out⟩
  | true =>
    have q8 := q5 hdel
    have q9 : decide (0 < s.lits.length) = false := by rw [q6 hdel]; rfl
    have Q7 := Lib.hid (q6 hdel)
    clear q5 q6
    have HD := Lib.hid hdel
    clear hdel
    have hB1 : Below w.heap.size w (w.alloc (.cells #[.bool true, .int .i64 s.id, .slice A s.lits.length c, .slice A' s.hints.length c'] 71)) := (Below.refl _ _).alloc (Nat.le_refl _) _
    have HB1 := Lib.hid hB1
    clear hB1
    go_enter Tryz.func67, Tryz.ntmps67
    go_wp2_with fail
    refine wp_region_held_drew (S := fun w' => w'.cell? ⟨w.heap.size, 0, none⟩ = some (.bool true) ∧ w'.cell? ⟨w.heap.size, 2, none⟩ = some (.slice A s.lits.length c) ∧ w'.cell? ⟨w.heap.size, 3, none⟩ = some (.slice A' s.hints.length c')) (by kernel_rfl) ⟨cell_new _ _ _ _, cell_new _ _ _ _, cell_new _ _ _ _⟩ (fun hHeld => ?_)
    refine takeS 0 31 ?_
    refine takeS 1 32 ?_
    refine ready1 2 (fun K hK => ?_)
    go_simp
    refine (HR.out _ HB1.out.drew).mono ?_
    rintro e w' ⟨rfl, rfl⟩
    refine hK.out _ _ hHeld (fun hHeld1 => ?_)
    clear hK hHeld
    refine takeS 3 34 ?_
    refine takeS 4 35 ?_
    refine takeS 5 36 ?_
    refine takeS 6 37 ?_
    refine takeS 7 38 ?_
    refine takeS 8 39 ?_
    refine takeS 9 40 ?_
    refine takeS 10 41 ?_
    refine takeS 11 42 ?_
    refine takeS 12 43 ?_
    refine takeS 13 44 ?_
    refine ready1 14 (fun K hK => ?_)
    go_simp
    refine (wrong_any true _).mono ?_
    rintro e w2 ⟨bx, rfl, hcb, hB3⟩
    have hB2 : Below w.heap.size w w2 := HB1.out.drew.trans (hB3.mono (by simp))
    refine hK.out _ _ ⟨(hB3.cell (p := ⟨w.heap.size, 0, none⟩) (by simp)).trans hHeld1.1, (hB3.cell (p := ⟨w.heap.size, 2, none⟩) (by simp)).trans hHeld1.2.1, (hB3.cell (p := ⟨w.heap.size, 3, none⟩) (by simp)).trans hHeld1.2.2⟩ (fun hHeld2 => ?_)
    clear hK hHeld1
    have HC := contains_hints _ s.hints _ true _ (HH.out.below hB2) (by omega) HOK.out hcb
    have HC := Lib.hid HC
    have HB2 := Lib.hid hB2
    clear hB2 hB3 hcb
    refine ready1 15 (fun K hK => ?_)
    go_simp
    refine HC.out.mono ?_
    rintro e w' ⟨rfl, rfl⟩
    refine hK.out _ _ hHeld2 (fun hHeld3 => ?_)
    clear hK hHeld2
    refine takeS 16 47 ?_
    refine takeS 17 48 ?_
    refine takeS 18 2 ?_
    refine wpAnyH_done (by kernel_rfl) ?_ _
    go_wp2
    go_ret
    exact ⟨rfl, HB2.out⟩
end Go.Proofs.YthhpffdbipgkcaaGreatDoor
