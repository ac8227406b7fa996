/- Steps that are right (package lratext). -/
import Derived.Test.YthhpffdbipgkcaaGreatDoorEh
namespace Go.Proofs.YthhpffdbipgkcaaGreatDoor
open Go.RowKit

/-- bounds that every log keeps -/
structure ELog.Ok (L : ELog) : Prop where
  steps : L.steps.length ≤ 262144
  last : L.last ≤ 1073741824
  each : ∀ s ∈ L.steps, s.lits.length ≤ 4096 ∧ s.hints.length ≤ 65536
set_option maxHeartbeats 400000 in
theorem log_steps {O : Nat → Prop} (b : Nat) (L : ELog) (w : World) (h : LogAt O w b L) (hk : L.Ok) :
    Calls Tryz.prog 16 #[.pointer (some ⟨b, 0, none⟩)] w fun e w' => ∃ v' ms', e = .returned v' ∧ StepsAt (fun g => w.heap.size ≤ g) w' v' L.steps ms' ∧ w'.ownsRow w.heap.size 71 4 v' ms'.length (ms'.flatMap MStep.cells) ∧ Below w.heap.size w w' := by
  obtain ⟨mb, sv, ms, h⟩ := h
  obtain ⟨c0, c1, c2, c3, c4⟩ := h.cells
  have hms : ms.length = L.steps.length := by rw [← h.steps, List.length_map]
  have hs := hk.steps
  have HC := Lib.hid (copy_any sv L.steps ms w ⟨h.row, h.steps, h.each⟩ (by omega) (fun s hs => by have := hk.each s hs; omega))
  obtain ⟨As, cs, rfl, hcs⟩ := own_slice h.row
  clear h c0 c1 c2 c4 hms hs
  go_enter Tryz.func16, Tryz.ntmps16
  go_wp2_with fail
  refine HC.out.mono ?_
  rintro e w1 ⟨v', ms', rfl, hs1, hr1, hb1⟩
  have H1 := Lib.hid hs1
  have H2 := Lib.hid hr1
  have H3 := Lib.hid hb1
  clear hs1 hr1 hb1
  go_wp2_with fail
  go_ret
  exact ⟨v', ms', rfl, H1.out, H2.out, H3.out⟩
theorem steps_nil (w : World) : Calls Tryz.prog 16 #[.pointer none] w fun e w' => e = .returned (.slice none 0 0) ∧ w = w' := by
  go_enter Tryz.func16, Tryz.ntmps16
  go_wp2
  go_ret
  exact ⟨rfl, rfl⟩
theorem learn_keeps {L : ELog} {c h : List Int} (hk : L.Ok) (he : learnErr L c h = 0) : (L.learn c h).Ok := by
  unfold learnErr at he
  split at he
  · cases he
  · split at he
    · cases he
    · rename_i h2
      split at he
      · cases he
      · split at he
        · cases he
        · split at he
          · cases he
          · rename_i h3 _ h5
            have hc : c.length ≤ 4096 := by
              rw [Bool.not_eq_false] at h2
              unfold clauseB at h2
              rw [Bool.and_eq_true, decide_eq_true_eq] at h2
              exact h2.1
            unfold ELog.full at h5
            simp only [Bool.or_eq_true, decide_eq_true_eq, not_or] at h5
            refine ⟨?_, ?_, fun s hs => ?_⟩
            · simp only [ELog.learn, List.length_append, List.length_singleton]; omega
            · simp only [ELog.learn]; omega
            · simp only [ELog.learn, List.mem_append, List.mem_singleton] at hs
              rcases hs with hs | rfl
              · exact hk.each s hs
              · exact ⟨hc, by show h.length ≤ 65536; omega⟩
end Go.Proofs.YthhpffdbipgkcaaGreatDoor
namespace Go.Proofs.YthhpffdbipgkcaaGreatDoor
open Go.RowKit

/-- a hint that is right in whatever step -/
def HintOk (x : Int) : Prop := 1 ≤ x ∧ x ≤ 1073741824
set_option maxHeartbeats 400000 in
theorem wrong_hint (x : Int) (bx : Nat) (r : Bool) (w : World) (hx : HintOk x) (hb : w.cell? ⟨bx, 0, none⟩ = some (.bool r)) :
    Calls Tryz.prog 96 #[.int .i64 x, .pointer (some ⟨bx, 0, none⟩)] w fun e w' => e = .returned (.bool false) ∧ w = w' := by
  obtain ⟨h1, h2⟩ := hx
  have q1 : (x == 0) = false := by simp; omega
  have q2 : decide ((1073741824 : Int) < x) = false := by simp; omega
  have q3 : decide (x < -1073741824) = false := by simp; omega
  have q4 : decide (x < 0) = false := by simp; omega
  cases r
  all_goals
    go_enter Tryz.func96, Tryz.ntmps96
    go_wp2
    go_ret
    exact ⟨rfl, rfl⟩
set_option maxRecDepth 100000 in
set_option maxHeartbeats 1000000 in
theorem index_hints {O : Nat → Prop} (u : Value) (xs : List Int) (bx : Nat) (r : Bool) (w : World) (h1 : IntsIn O w u xs) (hs : xs.length ≤ 140737488355328) (hok : ∀ x ∈ xs, HintOk x) (hb : w.cell? ⟨bx, 0, none⟩ = some (.bool r)) :
    Calls Tryz.prog 50 #[u, .func (.func 96) #[] #[.pointer (some ⟨bx, 0, none⟩)]] w fun e w' => e = .returned (.int .i64 (-1)) ∧ w = w' := by
  obtain ⟨A, c, rfl, hc, _, hx⟩ := h1
  have HX := Lib.hid hx
  have HF := Lib.hid (fun x hx => wrong_hint x bx r w hx hb)
  have HOK := Lib.hid hok
  clear hx hb hok
  go_enter Tryz.func50, Tryz.ntmps50
  go_wp2
  go_loop [8] (fun i => ∃ k : Nat, k ≤ xs.length ∧ i = .int .i64 k) (fun i => xs.length - (intOf i).toNat)
  case atStart => exact ⟨0, Nat.zero_le _, rfl⟩
  case round =>
    obtain ⟨k, hk, rfl⟩ := hrel
    by_cases hlt : k < xs.length
    · obtain ⟨x, hxk⟩ := getElem_of hlt
      obtain ⟨g, o, rfl, hg, _, d1⟩ := HX.out k x hxk
      have HW := Lib.hid (HF.out x (HOK.out x (List.mem_of_getElem? hxk)))
      clear hxk
      go_wp2_with fail
      refine HW.out.mono ?_
      rintro e w' ⟨rfl, rfl⟩
      go_wp2
      go_round
      case rel => exact ⟨k + 1, by omega, by go_num⟩
      case measure => simp [intOf]; omega
    · obtain rfl : k = xs.length := by omega
      go_wp2
      go_ret
      exact ⟨rfl, rfl⟩
set_option maxHeartbeats 400000 in
theorem contains_hints {O : Nat → Prop} (u : Value) (xs : List Int) (bx : Nat) (r : Bool) (w : World) (h1 : IntsIn O w u xs) (hs : xs.length ≤ 140737488355328) (hok : ∀ x ∈ xs, HintOk x) (hb : w.cell? ⟨bx, 0, none⟩ = some (.bool r)) :
    Calls Tryz.prog 29 #[u, .func (.func 96) #[] #[.pointer (some ⟨bx, 0, none⟩)]] w fun e w' => e = .returned (.bool false) ∧ w = w' := by
  have H := Lib.hid (index_hints u xs bx r w h1 hs hok hb)
  clear hok hb
  go_enter Tryz.func29, Tryz.ntmps29
  go_wp2_with fail
  refine H.out.mono ?_
  rintro e w' ⟨rfl, rfl⟩
  go_wp2_with fail
  go_ret
  exact ⟨rfl, rfl⟩
end Go.Proofs.YthhpffdbipgkcaaGreatDoor
