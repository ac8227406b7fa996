/- lratext.Write at proofs that are right; Text (package emit). -/
import Derived.Test.YthhpffdbipgkcaaGreatDoorSx
namespace Go.Proofs.YthhpffdbipgkcaaGreatDoor
open Go.RowKit

/-- the text of a proof -/
def proofT (l : List EStep) : List UInt8 := l.flatMap fun s => stepT s ++ [10]
theorem proofT_take (l : List EStep) (k : Nat) (s : EStep) (h : l[k]? = some s) : proofT (l.take (k + 1)) = proofT (l.take k) ++ (stepT s ++ [10]) := by
  rw [proofT, proofT, List.take_add_one, h, List.flatMap_append]
  simp
theorem proofT_le (l : List EStep) (k : Nat) : (proofT (l.take k)).length ≤ (proofT l).length := by
  have : proofT l = proofT (l.take k) ++ proofT (l.drop k) := by
    rw [proofT, proofT, proofT, ← List.flatMap_append, List.take_append_drop]
  rw [this, List.length_append]
  omega
set_option maxRecDepth 100000 in
set_option maxHeartbeats 2000000 in
theorem write_ok {O : Nat → Prop} (v : Value) (l : List EStep) (ms : List MStep) (w : World) (h : StepsAt O w v l ms) (hp : ProofOk l) (ht : TabW w) (hlen : (proofT l).length ≤ 16777216) :
    Calls Tryz.prog 34 #[v] w fun e w' => e = .returned (.tuple #[.string ⟨(proofT l).toArray⟩, .int .i64 (-1), .int .i64 0]) ∧ Below w.heap.size w w' := by
  have hms : ms.length = l.length := by rw [← h.steps, List.length_map]
  have hml : ms.length ≤ 262144 := by have := hp.len; omega
  have HC := Lib.hid (check_ok v l ms w h hp)
  obtain ⟨As, cs, rfl, hcs⟩ := own_slice h.row
  have H := Lib.hid h
  have HP := Lib.hid hp
  have HM := Lib.hid hms
  have HT := Lib.hid ht
  clear h hp hms ht
  go_enter Tryz.func34, Tryz.ntmps34
  go_wp2_with fail
  refine HC.out.mono ?_
  rintro e w1 ⟨rfl, hb1⟩
  have hz1 := hb1.size
  have HB1 := Lib.hid hb1
  clear hb1
  go_wp2_with fail
  obtain ⟨wb, hwb⟩ : ∃ wb, w1.alloc (.cells #[.pointer none, .slice none 0 0] 101) = wb := ⟨_, rfl⟩
  have hB : Below w1.heap.size w1 wb := by rw [← hwb]; exact (Below.refl _ _).alloc (Nat.le_refl _) _
  have hS : wb.heap.size = w1.heap.size + 1 := by rw [← hwb]; simp
  have hI : IsB w1.heap.size w1.heap.size [] wb := by rw [← hwb]; exact IsB.new _ _ (Nat.le_refl _)
  rw [hwb]
  have HWB := Lib.hid (HB1.out.trans (hB.mono hz1))
  have HWS := Lib.hid hS
  have HI := Lib.hid hI
  clear hwb hB hS hI
  go_loopw [21] (fun i wr => ∃ k : Nat, k ≤ ms.length ∧ i = .int .i64 k ∧ Hid (IsB w1.heap.size w1.heap.size (proofT (l.take k)) wr) ∧ Hid (Below w1.heap.size wb wr)) (fun i _ => ms.length - (intOf i).toNat)
  case atStart => exact ⟨0, Nat.zero_le _, rfl, HI, Lib.hid (Below.refl _ _)⟩
  case round =>
    obtain ⟨k, hk, rfl, HIB, HBr⟩ := hrel
    have hzr := HBr.out.size
    have hzb := HWS.out
    have hbW : Below w.heap.size w wr := HWB.out.trans (HBr.out.mono hz1)
    by_cases hlt : k < ms.length
    · obtain ⟨m, g, hm, hl, hat, ⟨c, hv⟩, hg, c0, c1, c2, c3⟩ := step_cells H.out hlt
      simp only [Value.slice.injEq] at hv
      obtain ⟨rfl, _, rfl⟩ := hv
      have d0 : wr.cell? ⟨g, k * 4, none⟩ = some (.bool m.s.del) := (hbW.cell (p := ⟨g, k * 4, none⟩) hg).trans c0
      have d1 : wr.cell? ⟨g, k * 4 + 1, none⟩ = some (.int .i64 m.s.id) := (hbW.cell (p := ⟨g, k * 4 + 1, none⟩) hg).trans c1
      have d2 : wr.cell? ⟨g, k * 4 + 2, none⟩ = some m.lv := (hbW.cell (p := ⟨g, k * 4 + 2, none⟩) hg).trans c2
      have d3 : wr.cell? ⟨g, k * 4 + 3, none⟩ = some m.hv := (hbW.cell (p := ⟨g, k * 4 + 3, none⟩) hg).trans c3
      have hso := HP.out.each _ (List.mem_of_getElem? hl)
      obtain ⟨A1, k1, hlv, _⟩ := own_slice hat.lits
      obtain ⟨A2, k2, hhv, _⟩ := own_slice hat.hints
      rw [hlv] at d2
      rw [hhv] at d3
      have hIL : ∀ w', Below w.heap.size w w' → IntsIn (fun _ => True) w' (.slice A1 m.s.lits.length k1) m.s.lits := fun w' hb => by rw [← hlv]; exact ((IntsIn.of_own hat.lits).below hb).mono (fun _ _ => trivial)
      have hIH : ∀ w', Below w.heap.size w w' → IntsIn (fun _ => True) w' (.slice A2 m.s.hints.length k2) m.s.hints := fun w' hb => by rw [← hhv]; exact ((IntsIn.of_own hat.hints).below hb).mono (fun _ _ => trivial)
      have hpt := proofT_take l k m.s hl
      have hple : (proofT (l.take (k + 1))).length ≤ 16777216 := Nat.le_trans (proofT_le _ _) hlen
      have hpl2 : (proofT (l.take k)).length + ((stepT m.s).length + 1) ≤ 16777216 := by
        rw [hpt] at hple
        simpa [List.length_append, Nat.add_assoc] using hple
      have hsl : (stepT m.s).length ≤ 16777216 := by omega
      have HIL := Lib.hid hIL
      have HIH := Lib.hid hIH
      have HSO := Lib.hid hso
      have HPT := Lib.hid hpt
      have HPL := Lib.hid hpl2
      have hpd : decide ((16777216 : Int) < (((proofT (l.take (k + 1))).length : Nat) : Int)) = false := by simp; omega
      have hpd2 : decide (16777216 < (proofT (l.take (k + 1))).length) = false := by simp; omega
      have HBW := Lib.hid hbW
      clear c0 c1 c2 c3 hat hso hl hlv hhv hIL hIH hpt hple hpl2 hm hbW
      go_wp2_with fail
      obtain ⟨wa, hwa⟩ : ∃ wa, wr.alloc (.cells #[.bool m.s.del, .int .i64 m.s.id, .slice A1 m.s.lits.length k1, .slice A2 m.s.hints.length k2] 71) = wa := ⟨_, rfl⟩
      have hwb2 : Below wr.heap.size wr wa := by rw [← hwa]; exact (Below.refl _ _).alloc (Nat.le_refl _) _
      rw [hwa]
      have hwB : Below w.heap.size w wa := HBW.out.trans (hwb2.mono HBW.out.size)
      have hza := hwb2.size
      have HWA := Lib.hid hwb2
      have HWB2 := Lib.hid hwB
      clear hwa hwb2 hwB d0 d1 d2 d3
      refine (line_any m.s _ _ _ HSO.out (HIL.out _ HWB2.out) (HIH.out _ HWB2.out) (HT.out.below HWB2.out HT.out.lt)).mono ?_
      rintro e w2 ⟨rfl, hb2⟩
      have hz2 := hb2.size
      have hi2 : IsB w1.heap.size w1.heap.size (proofT (l.take k)) w2 := HIB.out.kept (HWA.out.trans (hb2.mono hza))
      have HI2 := Lib.hid hi2
      have HB2 := Lib.hid hb2
      clear hi2 hb2
      go_wp2_with fail
      refine (bw_write _ _ _ _ _ HI2.out (by rw [ba_size _ [10]]; have := HPL.out; simp only [List.length_cons, List.length_nil]; omega) (by omega)).mono ?_
      rintro e w3 ⟨rfl, hi3, hb3⟩
      have hz3 := hb3.size
      have hi3' : IsB w1.heap.size w1.heap.size (proofT (l.take (k + 1))) w3 := by rw [HPT.out]; simpa using hi3
      have HI3 := Lib.hid hi3'
      have HB3 := Lib.hid hb3
      clear hi3 hb3 hi3'
      go_wp2_with fail
      refine (bw_len _ _ _ _ HI3.out).mono ?_
      rintro e w4 ⟨rfl, rfl⟩
      go_wp2_with fail
      go_roundw
      case rel =>
        exact ⟨k + 1, by omega, by go_num, HI3, Lib.hid (HBr.out.trans (((HWA.out.mono (by omega)).trans (HB2.out.mono (by omega))).trans HB3.out))⟩
      case measure => simp [intOf]; omega
    · obtain rfl : k = ms.length := by omega
      have HI1 := HIB
      rw [HM.out, List.take_length] at HI1
      go_wp2_with fail
      refine (bw_string _ _ _ _ HI1.out (by omega)).mono ?_
      rintro e wg ⟨rfl, hbg⟩
      have HBG := Lib.hid hbg
      have HBW := Lib.hid hbW
      clear hbg hbW
      go_wp2_with fail
      go_ret3
      exact ⟨rfl, HBW.out.trans (HBG.out.mono (by omega))⟩
/-- what every log keeps, for its text -/
theorem log_text {O : Nat → Prop} (b : Nat) (L : ELog) (w : World) (h : LogAt O w b L) (hp : ProofOk L.steps) (ht : TabW w) (hlen : (proofT L.steps).length ≤ 16777216) :
    Calls Tryz.prog 15 #[.pointer (some ⟨b, 0, none⟩)] w fun e w' => e = .returned (.tuple #[.string ⟨(proofT L.steps).toArray⟩, .int .i64 0]) ∧ Below w.heap.size w w' := by
  obtain ⟨mb, sv, ms, h⟩ := h
  obtain ⟨c0, c1, c2, c3, c4⟩ := h.cells
  have HW := Lib.hid (write_ok sv L.steps ms w ⟨h.row, h.steps, h.each⟩ hp ht hlen)
  obtain ⟨As, cs, rfl, hcs⟩ := own_slice h.row
  clear h c0 c1 c2 c4 hp ht hlen
  go_enter Tryz.func15, Tryz.ntmps15
  go_wp2_with fail
  refine HW.out.mono ?_
  rintro e w1 ⟨rfl, hb1⟩
  have HB := Lib.hid hb1
  clear hb1
  go_wp2_with fail
  go_ret2
  exact ⟨rfl, HB.out⟩
end Go.Proofs.YthhpffdbipgkcaaGreatDoor
