/- The references of layers 1 and 2: Right. -/
import Derived.Test.YtiodfolcnnkdjaaGreatEa
namespace Go.Proofs.YtiodfolcnnkdjaaGreat
open Go.RowKit

set_option maxHeartbeats 400000 in
theorem ref_right_lit (x : Int) (w : World) : Calls Tryz.prog 92 #[.int .i64 x] w fun e w' => e = .returned (.bool (litB x)) ∧ w = w' := by
  by_cases h1 : 1 ≤ x
  · have q1 : decide (1 ≤ x) = true := by simpa using h1
    by_cases h2 : x ≤ 1048576
    · have q2 : decide (x ≤ 1048576) = true := by simpa using h2
      have hl : litB x = true := (litB_iff x).2 ⟨by omega, by omega, h2⟩
      rw [hl]
      clear hl
      go_enter Tryz.func92, Tryz.ntmps92
      go_wp2
      go_ret
      exact ⟨rfl, rfl⟩
    · have q2 : decide (x ≤ 1048576) = false := by simpa using h2
      have q3 : decide (-1048576 ≤ x) = true := by simp; omega
      have q4 : decide (x ≤ -1) = false := by simp; omega
      have hl : litB x = false := Bool.eq_false_iff.2 (fun h => by have := (litB_iff x).1 h; omega)
      rw [hl]
      clear hl
      go_enter Tryz.func92, Tryz.ntmps92
      go_wp2
      go_ret
      exact ⟨rfl, rfl⟩
  · have q1 : decide (1 ≤ x) = false := by simpa using h1
    by_cases h2 : -1048576 ≤ x
    · have q2 : decide (-1048576 ≤ x) = true := by simpa using h2
      by_cases h3 : x ≤ -1
      · have q3 : decide (x ≤ -1) = true := by simpa using h3
        have hl : litB x = true := (litB_iff x).2 ⟨by omega, by omega, by omega⟩
        rw [hl]
        clear hl
        go_enter Tryz.func92, Tryz.ntmps92
        go_wp2
        go_ret
        exact ⟨rfl, rfl⟩
      · have q3 : decide (x ≤ -1) = false := by simpa using h3
        have hl : litB x = false := Bool.eq_false_iff.2 (fun h => by have := (litB_iff x).1 h; omega)
        rw [hl]
        clear hl
        go_enter Tryz.func92, Tryz.ntmps92
        go_wp2
        go_ret
        exact ⟨rfl, rfl⟩
    · have q2 : decide (-1048576 ≤ x) = false := by simpa using h2
      have hl : litB x = false := Bool.eq_false_iff.2 (fun h => by have := (litB_iff x).1 h; omega)
      rw [hl]
      clear hl
      go_enter Tryz.func92, Tryz.ntmps92
      go_wp2
      go_ret
      exact ⟨rfl, rfl⟩
theorem clauseB_take (xs : List Int) (k : Nat) (x : Int) (h : xs[k]? = some x) (hl : litB x = false) : clauseB xs = false := by
  unfold clauseB
  have : xs.all litB = false := Bool.eq_false_iff.2 (fun ha => by
    have := List.all_eq_true.1 ha x (List.mem_of_getElem? h)
    rw [hl] at this
    cases this)
  rw [this, Bool.and_false]
set_option maxRecDepth 100000 in
set_option maxHeartbeats 1000000 in
theorem ref_right_clause {O : Nat → Prop} (u : Value) (xs : List Int) (w : World) (h1 : IntsIn O w u xs) (hs : xs.length ≤ 140737488355328) :
    Calls Tryz.prog 55 #[u] w fun e w' => e = .returned (.bool (clauseB xs)) ∧ w = w' := by
  obtain ⟨A, c, rfl, hc, _, hx⟩ := h1
  have HX := Lib.hid hx
  clear hx
  obtain ⟨bb, hbb⟩ : ∃ bb, clauseB xs = bb := ⟨_, rfl⟩
  rw [hbb]
  have HB := Lib.hid hbb
  clear hbb
  by_cases hle : xs.length ≤ 4096
  · have q1 : decide ((4096 : Int) < (xs.length : Int)) = false := by simp; omega
    have q2 : decide (4096 < xs.length) = false := by simp; omega
    go_enter Tryz.func55, Tryz.ntmps55
    go_wp2
    go_loop [3] (fun i => ∃ k : Nat, k ≤ xs.length ∧ i = .int .i64 k ∧ Hid (∀ j x, j < k → xs[j]? = some x → litB x = true)) (fun i => xs.length - (intOf i).toNat)
    case atStart => exact ⟨0, Nat.zero_le _, rfl, Lib.hid (fun j x hj => by omega)⟩
    case round =>
      obtain ⟨k, hk, rfl, HE⟩ := hrel
      by_cases hlt : k < xs.length
      · obtain ⟨x, hxk⟩ := getElem_of hlt
        obtain ⟨g, o, rfl, hg, _, d1⟩ := HX.out k x hxk
        have HXK := Lib.hid hxk
        have HW := fun w => ref_right_lit x w
        clear hxk
        cases hl : litB x with
        | false =>
          rw [hl] at HW
          have HW := Lib.hid HW
          have HF := Lib.hid (clauseB_take xs k x HXK.out hl)
          clear hl
          go_wp2_with fail
          refine (HW.out _).mono ?_
          rintro e w' ⟨rfl, rfl⟩
          go_wp2
          go_ret
          exact ⟨ret_bool (by rw [← HB.out, HF.out]), rfl⟩
        | true =>
          rw [hl] at HW
          have HW := Lib.hid HW
          have HL := Lib.hid hl
          clear hl
          go_wp2_with fail
          refine (HW.out _).mono ?_
          rintro e w' ⟨rfl, rfl⟩
          go_wp2
          go_round
          case rel => exact ⟨k + 1, by omega, by go_num, Lib.hid (fun j y hj hy => by
            rcases Nat.lt_or_ge j k with h | h
            · exact HE.out j y h hy
            · obtain rfl : j = k := by omega
              rw [HXK.out] at hy
              obtain rfl := Option.some.inj hy
              exact HL.out)⟩
          case measure => simp [intOf]; omega
      · obtain rfl : k = xs.length := by omega
        go_wp2
        go_ret
        refine ⟨ret_bool ?_, rfl⟩
        rw [← HB.out]
        unfold clauseB
        rw [decide_eq_true hle, Bool.true_and]
        exact (List.all_eq_true.2 (fun x hx => by
          obtain ⟨j, hj⟩ := List.getElem?_of_mem hx
          exact HE.out j x (List.getElem?_eq_some_iff.1 hj).1 hj)).symm
  · have q1 : decide ((4096 : Int) < (xs.length : Int)) = true := by simp; omega
    go_enter Tryz.func55, Tryz.ntmps55
    go_wp2
    go_ret
    refine ⟨ret_bool ?_, rfl⟩
    rw [← HB.out]
    unfold clauseB
    rw [decide_eq_false hle, Bool.false_and]
end Go.Proofs.YtiodfolcnnkdjaaGreat
