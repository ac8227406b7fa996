/- The walks of the reference's inside, numeral and kind: they tell what the plain lists of bytes say; texts of at most 2^47 bytes. -/
import Derived.Test.YtihigfpikiaaiaaDoorXb
namespace Go.Proofs.YtihigfpikiaaiaaDoor
open Go.RowKit

def goodB (letters : Bool) (more : ByteArray) (c : UInt8) : Bool := Tk.digit c || letters && Tk.letter c || more.data.toList.contains c
def baseB (letters : Bool) (c : UInt8) : Bool := Tk.digit c || letters && Tk.letter c
/-- after k bytes of 'more' -/
def goodTo (letters : Bool) (more : ByteArray) (c : UInt8) (k : Nat) : Bool := baseB letters c || (more.data.toList.take k).contains c
theorem goodTo_step (letters : Bool) (more : ByteArray) (c : UInt8) (k : Nat) (h : k < more.size) : goodTo letters more c (k + 1) = (goodTo letters more c k || c == bt more k) := by
  unfold goodTo
  rw [List.take_add_one, List.getElem?_eq_getElem (by simpa using h)]
  have e : (more.data.toList)[k]'(by simpa using h) = bt more k := by
    unfold bt; rw [List.getD_eq_getElem?_getD, List.getElem?_eq_getElem (by simpa using h)]; rfl
  rw [e]
  simp only [Option.toList_some, List.contains_eq_mem, List.mem_append, List.mem_singleton, Bool.decide_or, Bool.or_assoc]
  congr 1
theorem goodTo_all (letters : Bool) (more : ByteArray) (c : UInt8) : goodTo letters more c more.size = goodB letters more c := by
  unfold goodTo goodB baseB
  rw [List.take_of_length_le (by simp)]
theorem all_step (p : UInt8 → Bool) (s : ByteArray) (k : Nat) (h : k < s.size) : (s.data.toList.take (k + 1)).all p = ((s.data.toList.take k).all p && p (bt s k)) := by
  rw [List.take_add_one, List.getElem?_eq_getElem (by simpa using h)]
  have e : (s.data.toList)[k]'(by simpa using h) = bt s k := by
    unfold bt; rw [List.getD_eq_getElem?_getD, List.getElem?_eq_getElem (by simpa using h)]; rfl
  rw [e]
  simp
theorem all_bad (p : UInt8 → Bool) (s : ByteArray) (k : Nat) (h : k < s.size) (hp : p (bt s k) = false) : s.data.toList.all p = false := by
  rw [Bool.eq_false_iff]
  intro ha
  have := List.all_eq_true.1 ha (bt s k) (by
    unfold bt
    rw [List.getD_eq_getElem?_getD, List.getElem?_eq_getElem (by simpa using h)]
    exact List.getElem_mem _)
  rw [hp] at this
  cases this
def insideB (s more : ByteArray) (letters : Bool) : Bool := s.data.toList.all (goodB letters more)
theorem inside_bad (s more : ByteArray) (letters : Bool) (k : Nat) (h : k < s.size) (hp : goodB letters more (bt s k) = false) : insideB s more letters = false := all_bad _ s k h hp
theorem inside_all (s more : ByteArray) (letters : Bool) (h : (s.data.toList.take s.size).all (goodB letters more) = true) : insideB s more letters = true := by
  rw [List.take_of_length_le (by simp)] at h
  exact h
theorem ranges (c : UInt8) : c.toNat < 48 ∨ (48 ≤ c.toNat ∧ c.toNat ≤ 57) ∨ (58 ≤ c.toNat ∧ c.toNat < 97) ∨ (97 ≤ c.toNat ∧ c.toNat ≤ 122) ∨ 122 < c.toNat := by omega

set_option maxRecDepth 100000 in
set_option maxHeartbeats 2000000 in
theorem inside_any (s more : ByteArray) (letters : Bool) (w : World) (hs : s.size ≤ 140737488355328) (hm : more.size ≤ 140737488355328) :
    Calls Tryd.prog 76 #[.string s, .bool letters, .string more] w fun e w' => e = .returned (.bool (insideB s more letters)) ∧ w = w' := by
  have hg := get_bt s
  have hg2 := get_bt more
  go_enter Tryd.func76, Tryd.ntmps76
  go_wp2
  go_loop [7] (fun i => ∃ k : Nat, k ≤ s.size ∧ i = .int .i64 k ∧ (s.data.toList.take k).all (goodB letters more) = true) (fun i => s.size - (intOf i).toNat)
  case atStart => exact ⟨0, Nat.zero_le _, rfl, rfl⟩
  case round =>
    obtain ⟨k, hk, rfl, hall⟩ := hrel
    have HA := Lib.hid hall
    clear hall
    by_cases hlt : k < s.size
    · have hb := toNat_le' (bt s k)
      have hr := ranges (bt s k)
      cases letters with
      | false =>
        rcases hr with hr | hr | hr | hr | hr
        case' inl =>
          have D1 : decide ((48 : Int) ≤ ((bt s k).toNat : Int)) = false := by simp; omega
          have D2 : decide (((bt s k).toNat : Int) ≤ (57 : Int)) = true := by simp; omega
          have D3 : decide ((97 : Int) ≤ ((bt s k).toNat : Int)) = false := by simp; omega
          have D4 : decide (((bt s k).toNat : Int) ≤ (122 : Int)) = true := by simp; omega
          have hg0 : goodTo false more (bt s k) 0 = false := by unfold goodTo baseB; simp [Tk.digit, Tk.letter]; try omega
        case' inr.inl =>
          have D1 : decide ((48 : Int) ≤ ((bt s k).toNat : Int)) = true := by simp; omega
          have D2 : decide (((bt s k).toNat : Int) ≤ (57 : Int)) = true := by simp; omega
          have D3 : decide ((97 : Int) ≤ ((bt s k).toNat : Int)) = false := by simp; omega
          have D4 : decide (((bt s k).toNat : Int) ≤ (122 : Int)) = true := by simp; omega
          have hg0 : goodTo false more (bt s k) 0 = true := by unfold goodTo baseB; simp [Tk.digit, Tk.letter]; try omega
        case' inr.inr.inl =>
          have D1 : decide ((48 : Int) ≤ ((bt s k).toNat : Int)) = true := by simp; omega
          have D2 : decide (((bt s k).toNat : Int) ≤ (57 : Int)) = false := by simp; omega
          have D3 : decide ((97 : Int) ≤ ((bt s k).toNat : Int)) = false := by simp; omega
          have D4 : decide (((bt s k).toNat : Int) ≤ (122 : Int)) = true := by simp; omega
          have hg0 : goodTo false more (bt s k) 0 = false := by unfold goodTo baseB; simp [Tk.digit, Tk.letter]; try omega
        case' inr.inr.inr.inl =>
          have D1 : decide ((48 : Int) ≤ ((bt s k).toNat : Int)) = true := by simp; omega
          have D2 : decide (((bt s k).toNat : Int) ≤ (57 : Int)) = false := by simp; omega
          have D3 : decide ((97 : Int) ≤ ((bt s k).toNat : Int)) = true := by simp; omega
          have D4 : decide (((bt s k).toNat : Int) ≤ (122 : Int)) = true := by simp; omega
          have hg0 : goodTo false more (bt s k) 0 = false := by unfold goodTo baseB; simp [Tk.digit, Tk.letter]; try omega
        case' inr.inr.inr.inr =>
          have D1 : decide ((48 : Int) ≤ ((bt s k).toNat : Int)) = true := by simp; omega
          have D2 : decide (((bt s k).toNat : Int) ≤ (57 : Int)) = false := by simp; omega
          have D3 : decide ((97 : Int) ≤ ((bt s k).toNat : Int)) = true := by simp; omega
          have D4 : decide (((bt s k).toNat : Int) ≤ (122 : Int)) = false := by simp; omega
          have hg0 : goodTo false more (bt s k) 0 = false := by unfold goodTo baseB; simp [Tk.digit, Tk.letter]; try omega
        all_goals
          have HG0 := Lib.hid hg0
          clear hg0
          go_wp2_with fail
          go_loop [9, 10] (fun gv i => ∃ (m : Nat) (gb : Bool), m ≤ more.size ∧ i = .int .i64 m ∧ gv = .bool gb ∧ goodTo false more (bt s k) m = gb) (fun _ i => more.size - (intOf i).toNat)
          case atStart => exact ⟨0, _, Nat.zero_le _, rfl, rfl, HG0.out⟩
          case round =>
            obtain ⟨m, gb, hmm, rfl, rfl, hgb⟩ := hrel
            by_cases hml : m < more.size
            · have hst := goodTo_step false more (bt s k) m hml
              rw [hgb] at hst
              have HGB := Lib.hid hgb
              have HST := Lib.hid hst
              clear hgb hst
              cases gb
              · cases hq : (bt s k == bt more m) with
                | true =>
                  have eq : (((bt s k).toNat : Int) == ((bt more m).toNat : Int)) = true := by rw [← beq_toNat]; exact hq
                  have HQ := Lib.hid hq
                  clear hq
                  go_wp2
                  go_round
                  case rel => exact ⟨m + 1, true, by omega, by go_num, rfl, by rw [HST.out, HQ.out]; rfl⟩
                  case measure => simp [intOf]; omega
                | false =>
                  have eq : (((bt s k).toNat : Int) == ((bt more m).toNat : Int)) = false := by rw [← beq_toNat]; exact hq
                  have HQ := Lib.hid hq
                  clear hq
                  go_wp2
                  go_round
                  case rel => exact ⟨m + 1, false, by omega, by go_num, rfl, by rw [HST.out, HQ.out]; rfl⟩
                  case measure => simp [intOf]; omega
              · go_wp2
                go_round
                case rel => exact ⟨m + 1, true, by omega, by go_num, rfl, by rw [HST.out]; rfl⟩
                case measure => simp [intOf]; omega
            · obtain rfl : m = more.size := by omega
              rw [goodTo_all] at hgb
              have HGB := Lib.hid hgb
              clear hgb
              cases gb
              · go_wp2
                go_ret
                exact ⟨ret_bool (by rw [inside_bad s more false k hlt HGB.out]), rfl⟩
              · go_wp2
                go_round
                case rel => exact ⟨k + 1, by omega, by go_num, by rw [all_step _ s k hlt, HA.out, HGB.out]; rfl⟩
                case measure => simp [intOf]; omega
      | true =>
        rcases hr with hr | hr | hr | hr | hr
        case' inl =>
          have D1 : decide ((48 : Int) ≤ ((bt s k).toNat : Int)) = false := by simp; omega
          have D2 : decide (((bt s k).toNat : Int) ≤ (57 : Int)) = true := by simp; omega
          have D3 : decide ((97 : Int) ≤ ((bt s k).toNat : Int)) = false := by simp; omega
          have D4 : decide (((bt s k).toNat : Int) ≤ (122 : Int)) = true := by simp; omega
          have hg0 : goodTo true more (bt s k) 0 = false := by unfold goodTo baseB; simp [Tk.digit, Tk.letter]; try omega
        case' inr.inl =>
          have D1 : decide ((48 : Int) ≤ ((bt s k).toNat : Int)) = true := by simp; omega
          have D2 : decide (((bt s k).toNat : Int) ≤ (57 : Int)) = true := by simp; omega
          have D3 : decide ((97 : Int) ≤ ((bt s k).toNat : Int)) = false := by simp; omega
          have D4 : decide (((bt s k).toNat : Int) ≤ (122 : Int)) = true := by simp; omega
          have hg0 : goodTo true more (bt s k) 0 = true := by unfold goodTo baseB; simp [Tk.digit, Tk.letter]; try omega
        case' inr.inr.inl =>
          have D1 : decide ((48 : Int) ≤ ((bt s k).toNat : Int)) = true := by simp; omega
          have D2 : decide (((bt s k).toNat : Int) ≤ (57 : Int)) = false := by simp; omega
          have D3 : decide ((97 : Int) ≤ ((bt s k).toNat : Int)) = false := by simp; omega
          have D4 : decide (((bt s k).toNat : Int) ≤ (122 : Int)) = true := by simp; omega
          have hg0 : goodTo true more (bt s k) 0 = false := by unfold goodTo baseB; simp [Tk.digit, Tk.letter]; try omega
        case' inr.inr.inr.inl =>
          have D1 : decide ((48 : Int) ≤ ((bt s k).toNat : Int)) = true := by simp; omega
          have D2 : decide (((bt s k).toNat : Int) ≤ (57 : Int)) = false := by simp; omega
          have D3 : decide ((97 : Int) ≤ ((bt s k).toNat : Int)) = true := by simp; omega
          have D4 : decide (((bt s k).toNat : Int) ≤ (122 : Int)) = true := by simp; omega
          have hg0 : goodTo true more (bt s k) 0 = true := by unfold goodTo baseB; simp [Tk.digit, Tk.letter]; try omega
        case' inr.inr.inr.inr =>
          have D1 : decide ((48 : Int) ≤ ((bt s k).toNat : Int)) = true := by simp; omega
          have D2 : decide (((bt s k).toNat : Int) ≤ (57 : Int)) = false := by simp; omega
          have D3 : decide ((97 : Int) ≤ ((bt s k).toNat : Int)) = true := by simp; omega
          have D4 : decide (((bt s k).toNat : Int) ≤ (122 : Int)) = false := by simp; omega
          have hg0 : goodTo true more (bt s k) 0 = false := by unfold goodTo baseB; simp [Tk.digit, Tk.letter]; try omega
        all_goals
          have HG0 := Lib.hid hg0
          clear hg0
          go_wp2_with fail
          go_loop [9, 10] (fun gv i => ∃ (m : Nat) (gb : Bool), m ≤ more.size ∧ i = .int .i64 m ∧ gv = .bool gb ∧ goodTo true more (bt s k) m = gb) (fun _ i => more.size - (intOf i).toNat)
          case atStart => exact ⟨0, _, Nat.zero_le _, rfl, rfl, HG0.out⟩
          case round =>
            obtain ⟨m, gb, hmm, rfl, rfl, hgb⟩ := hrel
            by_cases hml : m < more.size
            · have hst := goodTo_step true more (bt s k) m hml
              rw [hgb] at hst
              have HGB := Lib.hid hgb
              have HST := Lib.hid hst
              clear hgb hst
              cases gb
              · cases hq : (bt s k == bt more m) with
                | true =>
                  have eq : (((bt s k).toNat : Int) == ((bt more m).toNat : Int)) = true := by rw [← beq_toNat]; exact hq
                  have HQ := Lib.hid hq
                  clear hq
                  go_wp2
                  go_round
                  case rel => exact ⟨m + 1, true, by omega, by go_num, rfl, by rw [HST.out, HQ.out]; rfl⟩
                  case measure => simp [intOf]; omega
                | false =>
                  have eq : (((bt s k).toNat : Int) == ((bt more m).toNat : Int)) = false := by rw [← beq_toNat]; exact hq
                  have HQ := Lib.hid hq
                  clear hq
                  go_wp2
                  go_round
                  case rel => exact ⟨m + 1, false, by omega, by go_num, rfl, by rw [HST.out, HQ.out]; rfl⟩
                  case measure => simp [intOf]; omega
              · go_wp2
                go_round
                case rel => exact ⟨m + 1, true, by omega, by go_num, rfl, by rw [HST.out]; rfl⟩
                case measure => simp [intOf]; omega
            · obtain rfl : m = more.size := by omega
              rw [goodTo_all] at hgb
              have HGB := Lib.hid hgb
              clear hgb
              cases gb
              · go_wp2
                go_ret
                exact ⟨ret_bool (by rw [inside_bad s more true k hlt HGB.out]), rfl⟩
              · go_wp2
                go_round
                case rel => exact ⟨k + 1, by omega, by go_num, by rw [all_step _ s k hlt, HA.out, HGB.out]; rfl⟩
                case measure => simp [intOf]; omega
    · obtain rfl : k = s.size := by omega
      go_wp2
      go_ret
      exact ⟨ret_bool (by rw [inside_all s more letters HA.out]), rfl⟩
end Go.Proofs.YtihigfpikiaaiaaDoor
