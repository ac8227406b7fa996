/- The reference's Write and Text. -/
import Derived.Test.YtbokfjmbamgenaaDoorRf
namespace Go.Proofs.YtbokfjmbamgenaaDoor
open Go.RowKit

theorem rsteps_at {O : Nat → Prop} {w : World} {A : Option Addr} {n c k : Nat} {l : List EStep} {ms : List MStep} {m : MStep} (h : RStepsAt O w (.slice A n c) l ms) (hm : ms[k]? = some m) :
    ∃ g, A = some ⟨g, 0, none⟩ ∧ g < w.heap.size ∧ (IntsIn O w m.lv m.s.lits ∧ IntsIn O w m.hv m.s.hints) ∧ w.cell? ⟨g, k * 4, none⟩ = some (.bool m.s.del) ∧ w.cell? ⟨g, k * 4 + 1, none⟩ = some (.int .i64 m.s.id) ∧ w.cell? ⟨g, k * 4 + 2, none⟩ = some m.lv ∧ w.cell? ⟨g, k * 4 + 3, none⟩ = some m.hv := by
  have hcell : ∀ j, j < 4 → (ms.flatMap MStep.cells)[k * 4 + j]? = m.cells[j]? := fun j hj => cells_at ms k m hm j hj
  obtain ⟨g, c', hv, hg, hO, h0⟩ := h.cells (k * 4 + 0) (.bool m.s.del) (by rw [hcell 0 (by omega)]; rfl)
  have hA : A = some ⟨g, 0, none⟩ := by cases hv; rfl
  have hrest : ∀ j u, (ms.flatMap MStep.cells)[k * 4 + j]? = some u → w.cell? ⟨g, k * 4 + j, none⟩ = some u := fun j u hj => by
    obtain ⟨g', c'', hv', _, _, hc⟩ := h.cells (k * 4 + j) u hj
    have hA' : A = some ⟨g', 0, none⟩ := by cases hv'; rfl
    rw [hA] at hA'
    cases hA'
    exact hc
  exact ⟨g, hA, hg, h.each m (List.mem_of_getElem? hm), h0, hrest 1 _ (by rw [hcell 1 (by omega)]; rfl), hrest 2 _ (by rw [hcell 2 (by omega)]; rfl), hrest 3 _ (by rw [hcell 3 (by omega)]; rfl)⟩
set_option maxRecDepth 100000 in
set_option maxHeartbeats 2000000 in
theorem ref_write {O : Nat → Prop} (v : Value) (l : List EStep) (ms : List MStep) (w : World) (h : RStepsAt O w v l ms) (hp : ∀ s ∈ l, StepOk s) (hll : l.length ≤ 262144) (hlen : (proofT l).length ≤ 16777216) :
    Calls Tryd.prog 52 #[v] w fun e w' => e = .returned (.string ⟨(proofT l).toArray⟩) ∧ Below w.heap.size w w' := by
  have HS := Lib.hid h
  obtain ⟨A, c, rfl, hc, _⟩ := h.form
  have hms : l.length = ms.length := by rw [← h.steps, List.length_map]
  have HM := Lib.hid h.steps
  have HP := Lib.hid hp
  clear h hp
  go_enter Tryd.func52, Tryd.ntmps52
  go_wp2_with fail
  go_loopw [3, 4] (fun t i wr => ∃ k : Nat, k ≤ ms.length ∧ i = .int .i64 k ∧ t = .string ⟨(proofT (l.take k)).toArray⟩ ∧ Hid (Below w.heap.size w wr)) (fun _ i _ => ms.length - (intOf i).toNat)
  case atStart => exact ⟨0, Nat.zero_le _, rfl, by simp [proofT], Lib.hid (Below.refl _ _)⟩
  case round =>
    obtain ⟨k, hk, rfl, rfl, HW⟩ := hrel
    by_cases hlt : k < ms.length
    · obtain ⟨m, hm⟩ := getElem_of hlt
      obtain ⟨g, rfl, hg, hints, e0, e1, e2, e3⟩ := rsteps_at HS.out hm
      have d0 := (HW.out.cell (p := ⟨g, k * 4, none⟩) hg).trans e0
      have d1 := (HW.out.cell (p := ⟨g, k * 4 + 1, none⟩) hg).trans e1
      have d2 := (HW.out.cell (p := ⟨g, k * 4 + 2, none⟩) hg).trans e2
      have d3 := (HW.out.cell (p := ⟨g, k * 4 + 3, none⟩) hg).trans e3
      have hl : l[k]? = some m.s := by rw [← HM.out, List.getElem?_map, hm]; rfl
      have hok := HP.out m.s (List.mem_of_getElem? hl)
      have hpt := proofT_take l k m.s hl
      have hple : (proofT (l.take (k + 1))).length ≤ 16777216 := Nat.le_trans (proofT_le _ _) hlen
      rw [hpt, List.length_append, List.length_append] at hple
      have HLN := Lib.hid (ref_line m.s m.lv m.hv wr hok (hints.1.below HW.out) (hints.2.below HW.out))
      obtain ⟨⟨A1, c1, hv1, _⟩, ⟨A2, c2, hv2, _⟩⟩ := hints
      have HPT := Lib.hid hpt
      obtain ⟨S, hS⟩ : ∃ S, proofT (l.take k) = S := ⟨_, rfl⟩
      obtain ⟨X, hX⟩ : ∃ X, stepT m.s = X := ⟨_, rfl⟩
      rw [hS] at hple HPT ⊢
      rw [hX] at hple HPT HLN
      rw [hv1] at d2 HLN
      rw [hv2] at d3 HLN
      have hsl : S.length + (X.length + 1) ≤ 16777216 := hple
      clear hS hX hpt hple hok hl hm e0 e1 e2 e3 hv1 hv2
      go_wp2_with fail
      refine HLN.out.mono ?_
      rintro e w1 ⟨rfl, hb1⟩
      have HB1 := Lib.hid (HW.out.trans (hb1.mono HW.out.size))
      clear d0 d1 d2 d3 hb1
      go_wp2_with fail
      go_roundw
      case rel => exact ⟨k + 1, by omega, by go_num, by rw [HPT.out, show (⟨#[10]⟩ : ByteArray) = ⟨[(10 : UInt8)].toArray⟩ from rfl, cat_bytes, cat_bytes, List.append_assoc], HB1⟩
      case measure => simp [intOf]; omega
    · obtain rfl : k = ms.length := by omega
      have hfull : l.take ms.length = l := by rw [← hms, List.take_length]
      rw [hfull]
      go_wp2_with fail
      go_ret
      exact ⟨rfl, HW.out⟩
set_option maxRecDepth 100000 in
set_option maxHeartbeats 1000000 in
theorem ref_text {O : Nat → Prop} (tv stv : Value) (R : RLog) (w : World) (h : RLogAt O w tv stv R) (hp : ∀ s ∈ R.steps, StepOk s) (hll : R.steps.length ≤ 262144) (hlen : (proofT R.steps).length ≤ 16777216) :
    Calls Tryd.prog 34 #[rVal tv stv R] w fun e w' => e = .returned (.tuple #[.string ⟨(proofT R.steps).toArray⟩, .int .i64 0]) ∧ Below w.heap.size w w' := by
  obtain ⟨ht, ms, hs⟩ := h
  obtain ⟨A, c, rfl, _, _⟩ := hs.form
  obtain ⟨A0, c0, rfl, _, _⟩ := ht
  obtain ⟨wb, hwb⟩ : ∃ x, w.alloc (.cells #[.slice A0 R.there.length c0, .int .i64 R.last, .slice A ms.length c, .bool R.done] 62) = x := ⟨_, rfl⟩
  have hB : Below w.heap.size w wb := by rw [← hwb]; exact below_al _ _
  have c2 : wb.cell? ⟨w.heap.size, 2, none⟩ = some (.slice A ms.length c) := by rw [← hwb]; exact cell_new _ _ _ _
  have HW := Lib.hid (ref_write _ R.steps ms wb (hs.kept (O' := fun _ => False) (Kept.of_below hB) (fun _ _ h => h)) hp hll hlen)
  have HWB := Lib.hid hwb
  have HB := Lib.hid hB
  obtain ⟨X, hX⟩ : ∃ X, proofT R.steps = X := ⟨_, rfl⟩
  rw [hX] at hlen HW ⊢
  clear hs hwb hB hX hp
  unfold rVal
  go_enter Tryd.func34, Tryd.ntmps34
  go_wp2_with fail
  rw [HWB.out]
  go_wp2_with fail
  refine HW.out.mono ?_
  rintro e w1 ⟨rfl, hb1⟩
  have HB1 := Lib.hid (HB.out.trans (hb1.mono HB.out.size))
  clear c2 hb1
  go_wp2_with fail
  go_ret2
  exact ⟨rfl, HB1.out⟩
end Go.Proofs.YtbokfjmbamgenaaDoor
