/- salvorlaw07.Equal at steps that are equal. -/
import Derived.Test.YtbokfjmbamgenaaDoorRi
namespace Go.Proofs.YtbokfjmbamgenaaDoor
open Go.RowKit

set_option maxRecDepth 100000 in
set_option maxHeartbeats 4000000 in
theorem equal_func {O O' : Nat → Prop} (v v' : Value) (l : List EStep) (ms ms' : List MStep) (w : World) (h : StepsAt O w v l ms) (h' : RStepsAt O' w v' l ms') (hp : ∀ s ∈ l, StepOk s) (hll : l.length ≤ 262144) :
    Calls Tryd.prog 68 #[v, v', .func (.func 69) #[] #[]] w fun e w' => e = .returned (.bool true) ∧ Below w.heap.size w w' := by
  have H := Lib.hid h
  have H' := Lib.hid h'
  have HP := Lib.hid hp
  have hm1 : ms.length = l.length := by rw [← h.steps, List.length_map]
  have hm2 : ms'.length = l.length := by rw [← h'.steps, List.length_map]
  obtain ⟨As, cs, rfl, hcs⟩ := own_slice h.row
  obtain ⟨As', cs', rfl, hcs', _⟩ := h'.form
  obtain ⟨Z, hZ⟩ : ∃ Z, ms.length = Z := ⟨_, rfl⟩
  rw [hZ] at hm1 hcs ⊢
  rw [hm2, ← hm1] at hcs' ⊢
  have HZ := Lib.hid hZ
  rw [← hm1] at hll
  have HM1 := Lib.hid hm1
  have HM2 := Lib.hid (hm2.trans hm1.symm)
  clear h h' hp hZ hm1 hm2
  go_enter Tryd.func68, Tryd.ntmps68
  go_wp2_with fail
  go_loopw [17] (fun i wr => ∃ k : Nat, k ≤ Z ∧ i = .int .i64 k ∧ Hid (Below w.heap.size w wr)) (fun i _ => Z - (intOf i).toNat)
  case atStart => exact ⟨0, Nat.zero_le _, rfl, Lib.hid (Below.refl _ _)⟩
  case round =>
    obtain ⟨k, hk, rfl, HW⟩ := hrel
    by_cases hlt : k < Z
    · obtain ⟨m, g, hm, hl, hat, ⟨c, hv⟩, hg, c0, c1, c2, c3⟩ := step_cells H.out (by rw [HZ.out]; exact hlt)
      simp only [Value.slice.injEq] at hv
      obtain ⟨rfl, _, rfl⟩ := hv
      obtain ⟨m', hm'⟩ := getElem_of (show k < ms'.length by rw [HM2.out]; exact hlt)
      have hst := H'.out
      obtain ⟨g', hA', hg', hin', e0, e1, e2, e3⟩ := rsteps_at hst hm'
      subst hA'
      have hl' : l[k]? = some m'.s := by rw [← H'.out.steps, List.getElem?_map, hm']; rfl
      have hss : m'.s = m.s := by rw [hl] at hl'; exact (Option.some.inj hl').symm
      rw [hss] at hin' e0 e1
      have hok := HP.out m.s (List.mem_of_getElem? hl)
      have d0 := (HW.out.cell (p := ⟨g, k * 4, none⟩) hg).trans c0
      have d1 := (HW.out.cell (p := ⟨g, k * 4 + 1, none⟩) hg).trans c1
      have d2 := (HW.out.cell (p := ⟨g, k * 4 + 2, none⟩) hg).trans c2
      have d3 := (HW.out.cell (p := ⟨g, k * 4 + 3, none⟩) hg).trans c3
      obtain ⟨A1, k1, hlv, _⟩ := own_slice hat.lits
      obtain ⟨A2, k2, hhv, _⟩ := own_slice hat.hints
      have hIL := IntsIn.of_own hat.lits
      have hIH := IntsIn.of_own hat.hints
      have hI3 := hin'.1
      have hI4 := hin'.2
      obtain ⟨A3, c3', hv3, _⟩ := hin'.1
      obtain ⟨A4, c4', hv4, _⟩ := hin'.2
      rw [hv3] at hI3 e2
      rw [hv4] at hI4 e3
      rw [hlv] at hIL d2
      rw [hhv] at hIH d3
      have HIL := Lib.hid hIL
      have HIH := Lib.hid hIH
      have HI3 := Lib.hid hI3
      have HI4 := Lib.hid hI4
      have HOK := Lib.hid hok
      have f0 := (HW.out.cell (p := ⟨g', k * 4, none⟩) hg').trans e0
      have f1 := (HW.out.cell (p := ⟨g', k * 4 + 1, none⟩) hg').trans e1
      have f2 := (HW.out.cell (p := ⟨g', k * 4 + 2, none⟩) hg').trans e2
      have f3 := (HW.out.cell (p := ⟨g', k * 4 + 3, none⟩) hg').trans e3
      obtain ⟨wa, hwa⟩ : ∃ x, wr.alloc (.cells #[.bool m.s.del, .int .i64 m.s.id, .slice A1 m.s.lits.length k1, .slice A2 m.s.hints.length k2] 57) = x := ⟨_, rfl⟩
      have hba : Below wr.heap.size wr wa := by rw [← hwa]; exact below_al _ _
      have hza : wa.heap.size = wr.heap.size + 1 := by rw [← hwa]; simp
      have hsa : wa.heap[wr.heap.size]? = some (.cells #[.bool m.s.del, .int .i64 m.s.id, .slice A1 m.s.lits.length k1, .slice A2 m.s.hints.length k2] 57 (0, 0)) := by rw [← hwa]; exact World.alloc_heap_new _ _
      have HWA := Lib.hid hwa
      have HBA := Lib.hid hba
      have HSA := Lib.hid hsa
      have hgr : g' < wr.heap.size := Nat.lt_of_lt_of_le hg' HW.out.size
      clear hI3 hI4 hIL hIH hok hst hm hm' hl hl' hss hat hin' hlv hhv hv3 hv4 c0 c1 c2 c3 e0 e1 e2 e3 hwa hba hsa
      go_upto_region 6 with fail
      rw [HWA.out]
      have p0 := (HBA.out.cell (p := ⟨g', k * 4, none⟩) hgr).trans f0
      have p1 := (HBA.out.cell (p := ⟨g', k * 4 + 1, none⟩) hgr).trans f1
      have p2 := (HBA.out.cell (p := ⟨g', k * 4 + 2, none⟩) hgr).trans f2
      have p3 := (HBA.out.cell (p := ⟨g', k * 4 + 3, none⟩) hgr).trans f3
      clear d0 d1 d2 d3 f0 f1 f2 f3
      obtain ⟨wb, hwb⟩ : ∃ x, wa.alloc (.cells #[.bool m.s.del, .int .i64 m.s.id, .slice A3 m.s.lits.length c3', .slice A4 m.s.hints.length c4'] 98) = x := ⟨_, rfl⟩
      have hbb : Below wa.heap.size wa wb := by rw [← hwb]; exact below_al _ _
      have hsb : wb.heap[wa.heap.size]? = some (.cells #[.bool m.s.del, .int .i64 m.s.id, .slice A3 m.s.lits.length c3', .slice A4 m.s.hints.length c4'] 98 (0, 0)) := by rw [← hwb]; exact World.alloc_heap_new _ _
      rw [hza] at hsb
      have hsa2 := (hbb.block wr.heap.size (by omega)).trans HSA.out
      have HWB := Lib.hid hwb
      have HBB := Lib.hid (HW.out.trans ((HBA.out.trans (hbb.mono HBA.out.size)).mono HW.out.size))
      have HSB := Lib.hid hsb
      have HSA2 := Lib.hid hsa2
      clear hwb hbb hsb hsa2
      go_upto_region 7 with fail
      rw [HWB.out]
      clear p0 p1 p2 p3
      have q0 := cell_of_block (j := 0) HSA2.out
      have q1 := cell_of_block (j := 1) HSA2.out
      have q2 := cell_of_block (j := 2) HSA2.out
      have q3 := cell_of_block (j := 3) HSA2.out
      have r0 := cell_of_block (j := 0) HSB.out
      have r1 := cell_of_block (j := 1) HSB.out
      have r2 := cell_of_block (j := 2) HSB.out
      have r3 := cell_of_block (j := 3) HSB.out
      simp only [List.getElem?_toArray, List.getElem?_cons_zero, List.getElem?_cons_succ] at q0 q1 q2 q3 r0 r1 r2 r3
      have HE := Lib.hid (equal_step m.s _ _ _ _ wb ((HIL.out.below HBB.out).mono (O' := fun _ => True) (fun _ _ => trivial)) ((HIH.out.below HBB.out).mono (fun _ _ => trivial)) (HI3.out.below HBB.out) (HI4.out.below HBB.out) (by have := stepOk_rng HOK.out; exact this.2.2.2) HOK.out.len)
      go_wp2_with fail
      refine HE.out.mono ?_
      rintro e w1 ⟨rfl, hb1⟩
      have HB1 := Lib.hid (HBB.out.trans (hb1.mono HBB.out.size))
      clear q0 q1 q2 q3 r0 r1 r2 r3 hb1
      go_wp2_with fail
      go_roundw
      case rel => exact ⟨k + 1, by omega, by go_num, HB1⟩
      case measure => simp [intOf]; omega
    · obtain rfl : k = Z := by omega
      go_wp2_with fail
      go_ret
      exact ⟨rfl, HW.out⟩
theorem equal_07 {O O' : Nat → Prop} (v v' : Value) (l : List EStep) (ms ms' : List MStep) (w : World) (h : StepsAt O w v l ms) (h' : RStepsAt O' w v' l ms') (hp : ∀ s ∈ l, StepOk s) (hll : l.length ≤ 262144) :
    Calls Tryd.prog 51 #[v, v'] w fun e w' => e = .returned (.bool true) ∧ Below w.heap.size w w' := by
  have HE := Lib.hid (equal_func v v' l ms ms' w h h' hp hll)
  obtain ⟨As, cs, rfl, hcs⟩ := own_slice h.row
  obtain ⟨As', cs', rfl, hcs', _⟩ := h'.form
  clear h h' hp
  go_enter Tryd.func51, Tryd.ntmps51
  go_wp2_with fail
  refine HE.out.mono ?_
  rintro e w1 ⟨rfl, hb1⟩
  have HB1 := Lib.hid hb1
  clear hb1
  go_wp2_with fail
  go_ret
  exact ⟨rfl, HB1.out⟩
end Go.Proofs.YtbokfjmbamgenaaDoor
