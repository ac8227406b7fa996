/- Literals and clauses: Right. -/
import Derived.Test.YthhpffdbipgkcaaGreatDoorMc
namespace Go.Proofs.YthhpffdbipgkcaaGreatDoor
open Go.RowKit

/-- a number that is a literal -/
def litB (x : Int) : Bool := decide (x ≠ 0 ∧ -1048576 ≤ x ∧ x ≤ 1048576)
theorem litB_iff (x : Int) : litB x = true ↔ x ≠ 0 ∧ -1048576 ≤ x ∧ x ≤ 1048576 := by simp [litB]
/-- a list that is a clause -/
def clauseB (xs : List Int) : Bool := decide (xs.length ≤ 4096) && xs.all litB
set_option maxHeartbeats 400000 in
theorem right_lit (x : Int) (w : World) : Calls Tryz.prog 41 #[.int .i64 x] w fun e w' => e = .returned (.bool (litB x)) ∧ w = w' := by
  obtain ⟨b, hb⟩ : ∃ b, litB x = b := ⟨_, rfl⟩
  rw [hb]
  have HB := Lib.hid hb
  clear hb
  by_cases h0 : x = 0
  · subst h0
    go_enter Tryz.func41, Tryz.ntmps41
    go_wp2
    go_ret
    exact ⟨ret_bool (by rw [← HB.out]; rfl), rfl⟩
  · have h1 : (x != 0) = true := by simpa using h0
    have H0 := Lib.hid h0
    clear h0
    by_cases h2 : -1048576 ≤ x
    · have h2' : decide (-1048576 ≤ x) = true := by simpa using h2
      by_cases h3 : x ≤ 1048576
      · have h3' : decide (x ≤ 1048576) = true := by simpa using h3
        go_enter Tryz.func41, Tryz.ntmps41
        go_wp2
        go_ret
        exact ⟨ret_bool (by rw [← HB.out]; exact ((litB_iff x).2 ⟨H0.out, h2, h3⟩).symm), rfl⟩
      · have h3' : decide (x ≤ 1048576) = false := by simpa using h3
        go_enter Tryz.func41, Tryz.ntmps41
        go_wp2
        go_ret
        exact ⟨ret_bool (by rw [← HB.out]; exact (Bool.eq_false_iff.2 (fun h => by have := (litB_iff x).1 h; omega)).symm), rfl⟩
    · have h2' : decide (-1048576 ≤ x) = false := by simpa using h2
      go_enter Tryz.func41, Tryz.ntmps41
      go_wp2
      go_ret
      exact ⟨ret_bool (by rw [← HB.out]; exact (Bool.eq_false_iff.2 (fun h => by have := (litB_iff x).1 h; omega)).symm), rfl⟩
theorem wrong_lit (x : Int) (w : World) : Calls Tryz.prog 49 #[.int .i64 x] w fun e w' => e = .returned (.bool (!litB x)) ∧ w = w' := by
  have H := fun w => right_lit x w
  obtain ⟨b, hb⟩ : ∃ b, litB x = b := ⟨_, rfl⟩
  rw [hb]
  rw [hb] at H
  clear hb
  have H := Lib.hid H
  go_enter Tryz.func49, Tryz.ntmps49
  go_wp2_with fail
  refine (H.out _).mono ?_
  rintro e w' ⟨rfl, rfl⟩
  go_wp2_with fail
  go_ret
  exact ⟨rfl, rfl⟩
set_option maxRecDepth 100000 in
set_option maxHeartbeats 1000000 in
theorem index_wrong {O : Nat → Prop} (u : Value) (xs : List Int) (w : World) (h1 : IntsIn O w u xs) (hs : xs.length ≤ 140737488355328) :
    Calls Tryz.prog 66 #[u, .func (.func 49) #[] #[]] w (IdxPost (!xs.all litB) w) := by
  obtain ⟨A, c, rfl, hc, _, hx⟩ := h1
  obtain ⟨b, hb⟩ : ∃ b, (!xs.all litB) = b := ⟨_, rfl⟩
  rw [hb]
  have HB := Lib.hid hb
  have HX := Lib.hid hx
  clear hx hb
  go_enter Tryz.func66, Tryz.ntmps66
  go_wp2
  go_loop [8] (fun i => ∃ k : Nat, k ≤ xs.length ∧ i = .int .i64 k ∧ Hid (∀ j x, j < k → xs[j]? = some x → litB x = true)) (fun i => xs.length - (intOf i).toNat)
  case atStart => exact ⟨0, Nat.zero_le _, rfl, Lib.hid (fun j x hj => by omega)⟩
  case round =>
    obtain ⟨k, hk, rfl, HE⟩ := hrel
    by_cases hlt : k < xs.length
    · obtain ⟨x, hxk⟩ := getElem_of hlt
      obtain ⟨g, o, rfl, hg, _, d1⟩ := HX.out k x hxk
      have HXK := Lib.hid hxk
      have HW := wrong_lit x
      clear hxk
      cases hl : litB x with
      | false =>
        rw [hl] at HW
        have HL := Lib.hid hl
        have HW := Lib.hid HW
        clear hl
        go_wp2_with fail
        refine (HW.out _).mono ?_
        rintro e w' ⟨rfl, rfl⟩
        go_wp2
        go_ret
        refine ⟨⟨_, rfl, ?_⟩, rfl⟩
        have hm : (xs.all litB) = false := Bool.eq_false_iff.2 (fun h => by
          have := List.all_eq_true.1 h x (List.mem_of_getElem? HXK.out)
          rw [HL.out] at this
          cases this)
        rw [← HB.out, hm]
        exact decide_eq_true (by omega)
      | true =>
        rw [hl] at HW
        have HL := Lib.hid hl
        have HW := Lib.hid HW
        clear hl
        go_wp2_with fail
        refine (HW.out _).mono ?_
        rintro e w' ⟨rfl, rfl⟩
        go_wp2
        go_round
        case rel => exact ⟨k + 1, by omega, by go_num, Lib.hid (fun j y hj hy => by
          rcases Nat.lt_or_ge j k with h | h
          · exact HE.out j y h hy
          · obtain rfl : j = k := by omega
            rw [HXK.out] at hy
            obtain rfl := Option.some.inj hy
            exact HL.out)⟩
        case measure => simp [intOf]; omega
    · obtain rfl : k = xs.length := by omega
      go_wp2
      go_ret
      refine ⟨⟨_, rfl, ?_⟩, rfl⟩
      have hm : (xs.all litB) = true := List.all_eq_true.2 (fun x hx => by
        obtain ⟨j, hj⟩ := List.getElem?_of_mem hx
        exact HE.out j x (List.getElem?_eq_some_iff.1 hj).1 hj)
      rw [← HB.out, hm]
      rfl
set_option maxHeartbeats 400000 in
theorem contains_wrong {O : Nat → Prop} (u : Value) (xs : List Int) (w : World) (h1 : IntsIn O w u xs) (hs : xs.length ≤ 140737488355328) :
    Calls Tryz.prog 48 #[u, .func (.func 49) #[] #[]] w fun e w' => e = .returned (.bool (!xs.all litB)) ∧ w = w' := by
  have H0 := index_wrong u xs w h1 hs
  obtain ⟨b, hb⟩ : ∃ b, (!xs.all litB) = b := ⟨_, rfl⟩
  rw [hb] at H0 ⊢
  have H := Lib.hid H0
  clear H0 hb
  go_enter Tryz.func48, Tryz.ntmps48
  go_wp2_with fail
  refine H.out.mono ?_
  rintro e w' ⟨⟨i, rfl, hi⟩, rfl⟩
  have HI := Lib.hid hi
  clear hi
  go_wp2_with fail
  go_ret
  exact ⟨ret_bool HI.out, rfl⟩
set_option maxHeartbeats 400000 in
theorem right_clause {O : Nat → Prop} (u : Value) (xs : List Int) (w : World) (h1 : IntsIn O w u xs) (hs : xs.length ≤ 140737488355328) :
    Calls Tryz.prog 28 #[u] w fun e w' => e = .returned (.bool (clauseB xs)) ∧ w = w' := by
  have H0 := contains_wrong u xs w h1 hs
  obtain ⟨A, c, rfl, _⟩ := h1
  unfold clauseB
  by_cases hl : xs.length ≤ 4096
  · have hl' : decide ((xs.length : Int) ≤ 4096) = true := by simp; omega
    rw [decide_eq_true hl, Bool.true_and]
    cases ha : xs.all litB with
    | true =>
      rw [ha] at H0
      have H := Lib.hid H0
      clear H0 ha
      go_enter Tryz.func28, Tryz.ntmps28
      go_wp2_with fail
      refine H.out.mono ?_
      rintro e w' ⟨rfl, rfl⟩
      go_wp2_with fail
      go_ret
      exact ⟨rfl, rfl⟩
    | false =>
      rw [ha] at H0
      have H := Lib.hid H0
      clear H0 ha
      go_enter Tryz.func28, Tryz.ntmps28
      go_wp2_with fail
      refine H.out.mono ?_
      rintro e w' ⟨rfl, rfl⟩
      go_wp2_with fail
      go_ret
      exact ⟨rfl, rfl⟩
  · have hl' : decide ((xs.length : Int) ≤ 4096) = false := by simp; omega
    rw [decide_eq_false hl, Bool.false_and]
    clear H0
    go_enter Tryz.func28, Tryz.ntmps28
    go_wp2_with fail
    go_ret
    exact ⟨rfl, rfl⟩
end Go.Proofs.YthhpffdbipgkcaaGreatDoor
