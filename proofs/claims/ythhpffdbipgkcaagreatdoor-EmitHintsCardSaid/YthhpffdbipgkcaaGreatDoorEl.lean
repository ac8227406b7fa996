/- lratext.fits and lratext.Check at proofs that are right. -/
import Derived.Test.YthhpffdbipgkcaaGreatDoorEk
namespace Go.Proofs.YthhpffdbipgkcaaGreatDoor
open Go.RowKit

/-- the ID of the step before step k -/
def prevId (l : List EStep) : Nat → Int
  | 0 => 0
  | k + 1 => ((l[k]?).map EStep.id).getD 0
/-- a proof that is right -/
structure ProofOk (l : List EStep) : Prop where
  each : ∀ s ∈ l, StepOk s
  fits : ∀ k s, l[k]? = some s → prevId l k < s.id ∨ s.del = true ∧ s.id = prevId l k
  len : l.length ≤ 262144
set_option maxHeartbeats 400000 in
theorem fits_ok (d : Bool) (i last : Int) (lv hv : Value) (w : World) (h : last < i ∨ d = true ∧ i = last) :
    Calls Tryz.prog 68 #[.agg #[.bool d, .int .i64 i, lv, hv], .int .i64 last] w fun e w' => e = .returned (.bool true) ∧ Below w.heap.size w w' := by
  rcases h with h | ⟨rfl, rfl⟩
  · go_enter Tryz.func68, Tryz.ntmps68
    go_wp2
    go_ret
    exact ⟨rfl, (Below.refl _ _).alloc (Nat.le_refl _) _⟩
  · go_enter Tryz.func68, Tryz.ntmps68
    go_wp2
    go_ret
    exact ⟨rfl, (Below.refl _ _).alloc (Nat.le_refl _) _⟩
/-- the cells of step k -/
theorem step_cells {O : Nat → Prop} {w : World} {v : Value} {l : List EStep} {ms : List MStep} (h : StepsAt O w v l ms) {k : Nat} (hk : k < ms.length) :
    ∃ m g, ms[k]? = some m ∧ l[k]? = some m.s ∧ m.At O w ∧ (∃ c, v = .slice (some ⟨g, 0, none⟩) ms.length c) ∧ g < w.heap.size ∧
      w.cell? ⟨g, k * 4, none⟩ = some (.bool m.s.del) ∧ w.cell? ⟨g, k * 4 + 1, none⟩ = some (.int .i64 m.s.id) ∧ w.cell? ⟨g, k * 4 + 2, none⟩ = some m.lv ∧ w.cell? ⟨g, k * 4 + 3, none⟩ = some m.hv := by
  obtain ⟨m, hm⟩ : ∃ m, ms[k]? = some m := ⟨_, List.getElem?_eq_getElem hk⟩
  have hl : l[k]? = some m.s := by rw [← h.steps, List.getElem?_map, hm]; rfl
  have hat := h.each m (List.mem_of_getElem? hm)
  rcases h.row.2 with ⟨_, h0⟩ | ⟨g, cap, cur, rfl, _, hg, _⟩
  · omega
  · have hc := h.row.cells (g := g) rfl
    have hcell : ∀ j, j < 4 → (ms.flatMap MStep.cells)[k * 4 + j]? = m.cells[j]? := fun j hj => cells_at ms k m hm j hj
    refine ⟨m, g, hm, hl, hat, ⟨cap, rfl⟩, heap_lt hg, ?_, ?_, ?_, ?_⟩
    · have := hc (k * 4 + 0) _ (hcell 0 (by omega)); rw [addr_add] at this; exact this
    · have := hc _ _ (hcell 1 (by omega)); rw [addr_add] at this; exact this
    · have := hc _ _ (hcell 2 (by omega)); rw [addr_add] at this; exact this
    · have := hc _ _ (hcell 3 (by omega)); rw [addr_add] at this; exact this
theorem prevId_succ {l : List EStep} {k : Nat} {s : EStep} (h : l[k]? = some s) : prevId l (k + 1) = s.id := by
  simp only [prevId, h, Option.map_some, Option.getD_some]
set_option maxRecDepth 100000 in
set_option maxHeartbeats 1000000 in
theorem check_ok {O : Nat → Prop} (v : Value) (l : List EStep) (ms : List MStep) (w : World) (h : StepsAt O w v l ms) (hp : ProofOk l) :
    Calls Tryz.prog 51 #[v] w fun e w' => e = .returned (.tuple #[.int .i64 (-1), .int .i64 0]) ∧ Below w.heap.size w w' := by
  have hms : ms.length = l.length := by rw [← h.steps, List.length_map]
  have hml : ms.length ≤ 262144 := by have := hp.len; omega
  obtain ⟨As, cs, rfl, hcs⟩ := own_slice h.row
  have q1 : decide ((262144 : Int) < (ms.length : Int)) = false := by simp; omega
  have q2 : decide (262144 < ms.length) = false := by simp; omega
  have H := Lib.hid h
  have HP := Lib.hid hp
  have HM := Lib.hid hms
  clear h hp hms
  go_enter Tryz.func51, Tryz.ntmps51
  go_wp2
  go_loopw [4, 12] (fun t i wr => ∃ k : Nat, k ≤ ms.length ∧ i = .int .i64 k ∧ t = .int .i64 (prevId l k) ∧ Below w.heap.size w wr) (fun _ i _ => ms.length - (intOf i).toNat)
  case atStart => exact ⟨0, Nat.zero_le _, rfl, rfl, Below.refl _ _⟩
  case round =>
    obtain ⟨k, hk, rfl, rfl, hb⟩ := hrel
    by_cases hlt : k < ms.length
    · obtain ⟨m, g, hm, hl, hat, ⟨c, hv⟩, hg, c0, c1, c2, c3⟩ := step_cells H.out hlt
      simp only [Value.slice.injEq] at hv
      obtain ⟨rfl, _, rfl⟩ := hv
      have hz := hb.size
      have d0 : wr.cell? ⟨g, k * 4, none⟩ = some (.bool m.s.del) := (hb.cell (p := ⟨g, k * 4, none⟩) hg).trans c0
      have d1 : wr.cell? ⟨g, k * 4 + 1, none⟩ = some (.int .i64 m.s.id) := (hb.cell (p := ⟨g, k * 4 + 1, none⟩) hg).trans c1
      have d2 : wr.cell? ⟨g, k * 4 + 2, none⟩ = some m.lv := (hb.cell (p := ⟨g, k * 4 + 2, none⟩) hg).trans c2
      have d3 : wr.cell? ⟨g, k * 4 + 3, none⟩ = some m.hv := (hb.cell (p := ⟨g, k * 4 + 3, none⟩) hg).trans c3
      have hso := HP.out.each _ (List.mem_of_getElem? hl)
      have hft := HP.out.fits k _ hl
      have hnx := prevId_succ hl
      have HB := Lib.hid hb
      have HA := Lib.hid hat
      have HSO := Lib.hid hso
      have HF := Lib.hid hft
      have HN := Lib.hid hnx
      obtain ⟨A1, k1, hlv, _⟩ := own_slice hat.lits
      obtain ⟨A2, k2, hhv, _⟩ := own_slice hat.hints
      rw [hlv] at d2
      rw [hhv] at d3
      have hIL : ∀ w', Below w.heap.size w w' → IntsIn (fun _ => True) w' (.slice A1 m.s.lits.length k1) m.s.lits := fun w' hb => by rw [← hlv]; exact ((IntsIn.of_own hat.lits).below hb).mono (fun _ _ => trivial)
      have hIH : ∀ w', Below w.heap.size w w' → IntsIn (fun _ => True) w' (.slice A2 m.s.hints.length k2) m.s.hints := fun w' hb => by rw [← hhv]; exact ((IntsIn.of_own hat.hints).below hb).mono (fun _ _ => trivial)
      have HIL := Lib.hid hIL
      have HIH := Lib.hid hIH
      clear c0 c1 c2 c3 hb hat hso hft hnx hm hl hlv hhv hIL hIH
      go_wp2_with fail
      obtain ⟨wa, hwa⟩ : ∃ wa, wr.alloc (.cells #[.bool m.s.del, .int .i64 m.s.id, .slice A1 m.s.lits.length k1, .slice A2 m.s.hints.length k2] 71) = wa := ⟨_, rfl⟩
      have hwb : Below wr.heap.size wr wa := by rw [← hwa]; exact (Below.refl _ _).alloc (Nat.le_refl _) _
      have hws : wa.heap.size = wr.heap.size + 1 := by rw [← hwa]; simp
      have e0 : wa.cell? ⟨wr.heap.size, 0, none⟩ = some (.bool m.s.del) := by rw [← hwa]; exact cell_new _ _ _ _
      have e1 : wa.cell? ⟨wr.heap.size, 1, none⟩ = some (.int .i64 m.s.id) := by rw [← hwa]; exact cell_new _ _ _ _
      have e2 : wa.cell? ⟨wr.heap.size, 2, none⟩ = some (.slice A1 m.s.lits.length k1) := by rw [← hwa]; exact cell_new _ _ _ _
      have e3 : wa.cell? ⟨wr.heap.size, 3, none⟩ = some (.slice A2 m.s.hints.length k2) := by rw [← hwa]; exact cell_new _ _ _ _
      rw [hwa]
      have hwB : Below w.heap.size w wa := HB.out.trans (hwb.mono hz)
      have HWS := Lib.hid hws
      have HWB := Lib.hid hwB
      clear hwa hwb hws hwB
      refine (right_step m.s _ _ _ HSO.out (HIL.out _ HWB.out) (HIH.out _ HWB.out)).mono ?_
      rintro e w1 ⟨rfl, hb1⟩
      have hlt1 : wr.heap.size < wa.heap.size := by have := HWS.out; omega
      have f0 := (hb1.cell (p := ⟨wr.heap.size, 0, none⟩) hlt1).trans e0
      have f1 := (hb1.cell (p := ⟨wr.heap.size, 1, none⟩) hlt1).trans e1
      have f2 := (hb1.cell (p := ⟨wr.heap.size, 2, none⟩) hlt1).trans e2
      have f3 := (hb1.cell (p := ⟨wr.heap.size, 3, none⟩) hlt1).trans e3
      have HB1 := Lib.hid hb1
      clear hb1 e0 e1 e2 e3 d0 d1 d2 d3
      go_wp2_with fail
      refine (fits_ok _ _ _ _ _ _ HF.out).mono ?_
      rintro e w2 ⟨rfl, hb2⟩
      have hlt2 : wr.heap.size < w1.heap.size := Nat.lt_of_lt_of_le hlt1 HB1.out.size
      have g1 := (hb2.cell (p := ⟨wr.heap.size, 1, none⟩) hlt2).trans f1
      have HB2 := Lib.hid hb2
      clear hb2 f0 f1 f2 f3
      go_wp2_with fail
      go_roundw
      case rel =>
        have h1 := HWB.out.trans (HB1.out.mono HWB.out.size)
        exact ⟨k + 1, by omega, by go_num, by rw [HN.out], h1.trans (HB2.out.mono h1.size)⟩
      case measure => simp [intOf]; omega
    · obtain rfl : k = ms.length := by omega
      go_wp2
      go_ret2
      exact ⟨rfl, hb⟩
end Go.Proofs.YthhpffdbipgkcaaGreatDoor
