/- Steps that are right (package lratext). -/
import Derived.Test.YtbokfjmbamgenaaDoorEi
namespace Go.Proofs.YtbokfjmbamgenaaDoor
open Go.RowKit

/-- a hint that is right in whatever step -/
def HintOk (x : Int) : Prop := 1 ≤ x ∧ x ≤ 1073741824
set_option maxHeartbeats 400000 in
theorem wrong_hint (x : Int) (bx : Nat) (r : Bool) (w : World) (hx : HintOk x) (hb : w.cell? ⟨bx, 0, none⟩ = some (.bool r)) :
    Calls Tryd.prog 77 #[.int .i64 x, .pointer (some ⟨bx, 0, none⟩)] w fun e w' => e = .returned (.bool false) ∧ w = w' := by
  obtain ⟨h1, h2⟩ := hx
  have q1 : (x == 0) = false := by simp; omega
  have q2 : decide ((1073741824 : Int) < x) = false := by simp; omega
  have q3 : decide (x < -1073741824) = false := by simp; omega
  have q4 : decide (x < 0) = false := by simp; omega
  cases r
  all_goals
    go_enter Tryd.func77, Tryd.ntmps77
    go_wp2
    go_ret
    exact ⟨rfl, rfl⟩
set_option maxRecDepth 100000 in
set_option maxHeartbeats 1000000 in
theorem index_hints {O : Nat → Prop} (u : Value) (xs : List Int) (bx : Nat) (r : Bool) (w : World) (h1 : IntsIn O w u xs) (hs : xs.length ≤ 140737488355328) (hok : ∀ x ∈ xs, HintOk x) (hb : w.cell? ⟨bx, 0, none⟩ = some (.bool r)) :
    Calls Tryd.prog 55 #[u, .func (.func 77) #[] #[.pointer (some ⟨bx, 0, none⟩)]] w fun e w' => e = .returned (.int .i64 (-1)) ∧ w = w' := by
  obtain ⟨A, c, rfl, hc, _, hx⟩ := h1
  have HX := Lib.hid hx
  have HF := Lib.hid (fun x hx => wrong_hint x bx r w hx hb)
  have HOK := Lib.hid hok
  clear hx hb hok
  go_enter Tryd.func55, Tryd.ntmps55
  go_wp2
  go_loop [8] (fun i => ∃ k : Nat, k ≤ xs.length ∧ i = .int .i64 k) (fun i => xs.length - (intOf i).toNat)
  case atStart => exact ⟨0, Nat.zero_le _, rfl⟩
  case round =>
    obtain ⟨k, hk, rfl⟩ := hrel
    by_cases hlt : k < xs.length
    · obtain ⟨x, hxk⟩ := getElem_of hlt
      obtain ⟨g, o, rfl, hg, _, d1⟩ := HX.out k x hxk
      have HW := Lib.hid (HF.out x (HOK.out x (List.mem_of_getElem? hxk)))
      clear hxk
      go_wp2_with fail
      refine HW.out.mono ?_
      rintro e w' ⟨rfl, rfl⟩
      go_wp2
      go_round
      case rel => exact ⟨k + 1, by omega, by go_num⟩
      case measure => simp [intOf]; omega
    · obtain rfl : k = xs.length := by omega
      go_wp2
      go_ret
      exact ⟨rfl, rfl⟩
set_option maxHeartbeats 400000 in
theorem contains_hints {O : Nat → Prop} (u : Value) (xs : List Int) (bx : Nat) (r : Bool) (w : World) (h1 : IntsIn O w u xs) (hs : xs.length ≤ 140737488355328) (hok : ∀ x ∈ xs, HintOk x) (hb : w.cell? ⟨bx, 0, none⟩ = some (.bool r)) :
    Calls Tryd.prog 36 #[u, .func (.func 77) #[] #[.pointer (some ⟨bx, 0, none⟩)]] w fun e w' => e = .returned (.bool false) ∧ w = w' := by
  have H := Lib.hid (index_hints u xs bx r w h1 hs hok hb)
  clear hok hb
  go_enter Tryd.func36, Tryd.ntmps36
  go_wp2_with fail
  refine H.out.mono ?_
  rintro e w' ⟨rfl, rfl⟩
  go_wp2_with fail
  go_ret
  exact ⟨rfl, rfl⟩
end Go.Proofs.YtbokfjmbamgenaaDoor
