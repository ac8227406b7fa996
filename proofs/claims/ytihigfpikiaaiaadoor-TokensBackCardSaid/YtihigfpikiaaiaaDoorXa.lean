/- The walk of says: a text has some tokens. -/
import Derived.Test.YtihigfpikiaaiaaDoorWk
import Derived.Deep.RegionHeld3
namespace Go.Proofs.YtihigfpikiaaiaaDoor
open Go.RowKit

theorem text_tok (s : ByteArray) (p : Nat) (w : World) (h2 : p ≤ s.size) :
    Calls Tryd.prog 13 #[.string s, .agg #[.int .u8 (tkKind s p : Nat), .int .i64 (p : Int), .int .i64 (tkEnd s p : Nat)]] w fun r w' => r = .returned (.string (tokS s p)) ∧ Below w.heap.size w w' :=
  text_in s _ p _ w (tkEnd_ge s p) (tkEnd_le s p h2)

set_option maxRecDepth 100000 in
set_option maxHeartbeats 1000000 in
theorem says_true (s : ByteArray) (g c : Nat) (w : World) (hs : s.size ≤ 65536) (h1 : scanErr s = 0) (h2 : stopAt s = s.size) (hg : g < w.heap.size)
    (hw : ∀ i p, (scanL s)[i]? = some p → w.cell? ⟨g, i, none⟩ = some (.string (tokS s p))) :
    Calls Tryd.prog 31 #[.string s, .slice (some ⟨g, 0, none⟩) (scanL s).length c] w fun e w' => e = .returned (.bool true) ∧ Below w.heap.size w w' := by
  have hdec : ((scanErr s : Int) != 0) = false := by rw [h1]; rfl
  have hdec2 : ((stopAt s : Int) != (s.size : Int)) = false := by rw [h2]; simp
  obtain ⟨tl, hL⟩ : ∃ tl, scanL s = tl := ⟨_, rfl⟩
  have hmem := scanL_le s
  have hlen := scanL_len s
  have hsc := fun w => scan_toks s hs w
  rw [hL] at hw hmem hlen ⊢
  rw [hL] at hsc
  have HSC := Lib.hid hsc
  have HM := Lib.hid hmem
  have HW := Lib.hid hw
  clear h1 h2 hL hmem hsc hw
  go_enter Tryd.func31, Tryd.ntmps31
  go_wp2_with fail
  refine (HSC.out _).mono ?_
  rintro e w1 ⟨A, c', rfl, hT, hb1⟩
  have hcap := hT.1
  have HT := Lib.hid hT
  have HB1 := Lib.hid hb1
  have hz1 := hb1.size
  clear hT hb1
  go_wp2_with fail
  go_loopw [33] (fun i wr => ∃ k : Nat, k ≤ tl.length ∧ i = .int .i64 k ∧ Below w1.heap.size w1 wr) (fun i _ => tl.length - (intOf i).toNat)
  case atStart => exact ⟨0, Nat.zero_le _, rfl, Below.refl _ _⟩
  case round =>
    obtain ⟨k, hk, rfl, hB⟩ := hrel
    by_cases hlt : k < tl.length
    · obtain ⟨p, hp⟩ : ∃ p, tl[k]? = some p := ⟨_, List.getElem?_eq_getElem hlt⟩
      obtain ⟨g', rfl, hg', c0, c1, c2⟩ := HT.out.2.2 k p hp
      have d0 := (hB.cell (p := ⟨g', k * 3, none⟩) hg').trans c0
      have d1 := (hB.cell (p := ⟨g', k * 3 + 1, none⟩) hg').trans c1
      have d2 := (hB.cell (p := ⟨g', k * 3 + 2, none⟩) hg').trans c2
      have d3 : wr.cell? ⟨g, k, none⟩ = some (.string (tokS s p)) := (hB.cell (p := ⟨g, k, none⟩) (Nat.lt_of_lt_of_le hg hz1)).trans ((HB1.out.cell (p := ⟨g, k, none⟩) hg).trans (HW.out k p hp))
      have hpm : p ≤ s.size := HM.out p (List.mem_of_getElem? hp)
      have hsz := hB.size
      have HB := Lib.hid hB
      clear hp c0 c1 c2 hB
      go_wp2_with fail
      go_region_held3 (fun w' => w'.cell? ⟨wr.heap.size, 0, none⟩ = some (.int .u8 (tkKind s p : Nat)) ∧ w'.cell? ⟨wr.heap.size, 1, none⟩ = some (.int .i64 (p : Int)) ∧ w'.cell? ⟨wr.heap.size, 2, none⟩ = some (.int .i64 (tkEnd s p : Nat)) ∧ w'.cell? ⟨g, k, none⟩ = some (.string (tokS s p)))
        (first | (go_split_ands; exact ⟨(hc2 wr.heap.size 0 (by simp)).trans (by first | assumption | (simp [*]; done)), (hc2 wr.heap.size 1 (by simp)).trans (by first | assumption | (simp [*]; done)), (hc2 wr.heap.size 2 (by simp)).trans (by first | assumption | (simp [*]; done)), (hc2 g k (by simp; omega)).trans (by first | assumption | (simp [*]; done))⟩) | go_keep) ((go_at_call 13; refine (text_tok s p _ hpm).mono ?_; rintro e w2 ⟨rfl, hb2⟩; obtain ⟨hc2, hf2⟩ := bcell hb2))
      have hB3 : Below w1.heap.size w1 w2 := ((HB.out.alloc hsz _).drew).trans (hb2.mono (by simp; omega))
      go_wp2
      go_roundw
      case rel => exact ⟨k + 1, by omega, by go_num, hB3⟩
      case measure => simp [intOf]; omega
    · go_wp2_with fail
      go_ret
      exact ⟨rfl, HB1.out.trans (hB.mono hz1)⟩
end Go.Proofs.YtihigfpikiaaiaaDoor
