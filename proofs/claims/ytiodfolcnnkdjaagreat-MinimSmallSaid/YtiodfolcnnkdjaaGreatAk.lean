/- analyze: Conflict's inner function; what the loop keeps. -/
import Derived.Test.YtiodfolcnnkdjaaGreatAi
import Derived.Test.YtiodfolcnnkdjaaGreatTf
import Derived.Test.YtiodfolcnnkdjaaGreatMu
namespace Go.Proofs.YtiodfolcnnkdjaaGreat
open Go.RowKit Go.Shelf Go.Maps

/-- whether a variable has to go -/
def Trl.goes (T : Trl) (lv op v : Int) : Bool := T.level v == 0 || (T.level v == lv && decide (1 < op))
set_option maxRecDepth 100000 in
set_option maxHeartbeats 2000000 in
theorem goes_zero {O : Nat → Prop} (a b mb wb lb ob : Nat) (T : Trl) (lv op v : Int) (w : World) (h : TrAt O w b T) (hw : w.heap[wb]? = some (.cells #[.pointer (some ⟨a, 0, none⟩), .pointer (some ⟨b, 0, none⟩), .map (some mb)] 141 (0, 0)))
  (hl : w.cell? ⟨lb, 0, none⟩ = some (.int .i64 lv)) (ho : w.cell? ⟨ob, 0, none⟩ = some (.int .i64 op)) (hv : T.level v = 0) :
  Calls Tryz.prog 74 #[.int .i64 v, .pointer (some ⟨wb, 0, none⟩), .pointer (some ⟨lb, 0, none⟩), .pointer (some ⟨ob, 0, none⟩)] w fun e w' => e = .returned (.bool (true)) ∧ Below w.heap.size w w' := by
 have HT := Lib.hid h
 have HL := Lib.hid hv
 have hwb := heap_lt hw
 have hlb := World.block_lt_of_cell? w _ hl
 have hob := World.block_lt_of_cell? w _ ho
 have C0 := Lib.hid (mx_cell (j := 0) hw)
 have C1 := Lib.hid (mx_cell (j := 1) hw)
 have C2 := Lib.hid (mx_cell (j := 2) hw)
 have CL := Lib.hid hl
 have CO := Lib.hid ho
 clear h hv hw hl ho
 go_enter Tryz.func74, Tryz.ntmps74
 go_upto_region 1 with fail
 refine wp_region_held_drew (S := fun w' => Below w.heap.size w w') (by kernel_rfl) (mx_drew w) (fun hS => ?_)
 refine takeF 0 6 (fun w hSw => And.intro ((hSw.cell (p := ⟨wb, 0, none⟩) hwb).trans C0.out) (And.intro ((hSw.cell (p := ⟨wb, 1, none⟩) hwb).trans C1.out) ((hSw.cell (p := ⟨wb, 2, none⟩) hwb).trans C2.out))) ?_
 refine takeE 1 7 ?_
 refine ready1 2 (fun K hK => ?_)
 go_simp
 refine (wk_level a b (some mb) T v _ (HT.out.below hS)).mono ?_
 rintro e w3 ⟨rfl, hb3⟩
 rw [HL.out]
 have hS3 := hS.trans (hb3.mono hS.size)
 refine hK.out _ _ hS3 (fun _ => ?_)
 clear hK hb3 hS
 rename Below w.heap.size w w3 => hS
 refine takeE 3 9 ?_
 refine takeE 4 10 ?_
 refine takeU 5 11 ?_
 refine takeU 6 12 ?_
 refine takeU 7 13 ?_
 refine takeU 8 14 ?_
 refine takeU 9 15 ?_
 refine takeU 10 16 ?_
 refine takeU 11 17 ?_
 refine takeU 12 18 ?_
 refine takeU 13 19 ?_
 refine takeE 14 20 ?_
 refine takeE 15 5 ?_
 refine wpAnyH_done (by kernel_rfl) ?_ _
 go_wp2_with fail
 go_ret
 exact ⟨rfl, hS⟩
set_option maxRecDepth 100000 in
set_option maxHeartbeats 2000000 in
theorem goes_top {O : Nat → Prop} (a b mb wb lb ob : Nat) (T : Trl) (lv op v : Int) (w : World) (h : TrAt O w b T) (hw : w.heap[wb]? = some (.cells #[.pointer (some ⟨a, 0, none⟩), .pointer (some ⟨b, 0, none⟩), .map (some mb)] 141 (0, 0)))
  (hl : w.cell? ⟨lb, 0, none⟩ = some (.int .i64 lv)) (ho : w.cell? ⟨ob, 0, none⟩ = some (.int .i64 op)) (hv : T.level v = lv) (hq : (lv == 0) = false) :
  Calls Tryz.prog 74 #[.int .i64 v, .pointer (some ⟨wb, 0, none⟩), .pointer (some ⟨lb, 0, none⟩), .pointer (some ⟨ob, 0, none⟩)] w fun e w' => e = .returned (.bool (decide (1 < op))) ∧ Below w.heap.size w w' := by
 have HT := Lib.hid h
 have HL := Lib.hid hv
 have hwb := heap_lt hw
 have hlb := World.block_lt_of_cell? w _ hl
 have hob := World.block_lt_of_cell? w _ ho
 have C0 := Lib.hid (mx_cell (j := 0) hw)
 have C1 := Lib.hid (mx_cell (j := 1) hw)
 have C2 := Lib.hid (mx_cell (j := 2) hw)
 have CL := Lib.hid hl
 have CO := Lib.hid ho
 clear h hv hw hl ho
 go_enter Tryz.func74, Tryz.ntmps74
 go_upto_region 1 with fail
 refine wp_region_held_drew (S := fun w' => Below w.heap.size w w') (by kernel_rfl) (mx_drew w) (fun hS => ?_)
 refine takeF 0 6 (fun w hSw => And.intro ((hSw.cell (p := ⟨wb, 0, none⟩) hwb).trans C0.out) (And.intro ((hSw.cell (p := ⟨wb, 1, none⟩) hwb).trans C1.out) ((hSw.cell (p := ⟨wb, 2, none⟩) hwb).trans C2.out))) ?_
 refine takeE 1 7 ?_
 refine ready1 2 (fun K hK => ?_)
 go_simp
 refine (wk_level a b (some mb) T v _ (HT.out.below hS)).mono ?_
 rintro e w3 ⟨rfl, hb3⟩
 rw [HL.out]
 have hS3 := hS.trans (hb3.mono hS.size)
 refine hK.out _ _ hS3 (fun _ => ?_)
 clear hK hb3 hS
 rename Below w.heap.size w w3 => hS
 refine takeE 3 9 ?_
 refine takeE 4 10 ?_
 refine takeF 5 11 (fun w hSw => And.intro ((hSw.cell (p := ⟨wb, 0, none⟩) hwb).trans C0.out) (And.intro ((hSw.cell (p := ⟨wb, 1, none⟩) hwb).trans C1.out) ((hSw.cell (p := ⟨wb, 2, none⟩) hwb).trans C2.out))) ?_
 refine takeE 6 12 ?_
 refine takeF 8 14 (fun w hSw => (hSw.cell (p := ⟨lb, 0, none⟩) hlb).trans CL.out) ?_
 refine ready1 7 (fun K hK => ?_)
 go_simp
 refine (wk_level a b (some mb) T v _ (HT.out.below hS)).mono ?_
 rintro e w3 ⟨rfl, hb3⟩
 rw [HL.out]
 have hS3 := hS.trans (hb3.mono hS.size)
 refine hK.out _ _ hS3 (fun _ => ?_)
 clear hK hb3 hS
 rename Below w.heap.size w w3 => hS
 refine takeE 9 15 ?_
 refine takeE 10 16 ?_
 refine takeF 11 17 (fun w hSw => (hSw.cell (p := ⟨ob, 0, none⟩) hob).trans CO.out) ?_
 refine takeE 12 18 ?_
 refine takeE 13 19 ?_
 refine takeE 14 20 ?_
 refine takeE 15 5 ?_
 refine wpAnyH_done (by kernel_rfl) ?_ _
 go_wp2_with fail
 go_ret
 exact ⟨rfl, hS⟩
set_option maxRecDepth 100000 in
set_option maxHeartbeats 2000000 in
theorem goes_low {O : Nat → Prop} (a b mb wb lb ob : Nat) (T : Trl) (lv op v : Int) (w : World) (h : TrAt O w b T) (hw : w.heap[wb]? = some (.cells #[.pointer (some ⟨a, 0, none⟩), .pointer (some ⟨b, 0, none⟩), .map (some mb)] 141 (0, 0)))
  (hl : w.cell? ⟨lb, 0, none⟩ = some (.int .i64 lv)) (ho : w.cell? ⟨ob, 0, none⟩ = some (.int .i64 op)) (y : Int) (hv : T.level v = y) (hq : (y == 0) = false) (hq2 : (y == lv) = false) :
  Calls Tryz.prog 74 #[.int .i64 v, .pointer (some ⟨wb, 0, none⟩), .pointer (some ⟨lb, 0, none⟩), .pointer (some ⟨ob, 0, none⟩)] w fun e w' => e = .returned (.bool (false)) ∧ Below w.heap.size w w' := by
 have HT := Lib.hid h
 have HL := Lib.hid hv
 have hwb := heap_lt hw
 have hlb := World.block_lt_of_cell? w _ hl
 have hob := World.block_lt_of_cell? w _ ho
 have C0 := Lib.hid (mx_cell (j := 0) hw)
 have C1 := Lib.hid (mx_cell (j := 1) hw)
 have C2 := Lib.hid (mx_cell (j := 2) hw)
 have CL := Lib.hid hl
 have CO := Lib.hid ho
 clear h hv hw hl ho
 go_enter Tryz.func74, Tryz.ntmps74
 go_upto_region 1 with fail
 refine wp_region_held_drew (S := fun w' => Below w.heap.size w w') (by kernel_rfl) (mx_drew w) (fun hS => ?_)
 refine takeF 0 6 (fun w hSw => And.intro ((hSw.cell (p := ⟨wb, 0, none⟩) hwb).trans C0.out) (And.intro ((hSw.cell (p := ⟨wb, 1, none⟩) hwb).trans C1.out) ((hSw.cell (p := ⟨wb, 2, none⟩) hwb).trans C2.out))) ?_
 refine takeE 1 7 ?_
 refine ready1 2 (fun K hK => ?_)
 go_simp
 refine (wk_level a b (some mb) T v _ (HT.out.below hS)).mono ?_
 rintro e w3 ⟨rfl, hb3⟩
 rw [HL.out]
 have hS3 := hS.trans (hb3.mono hS.size)
 refine hK.out _ _ hS3 (fun _ => ?_)
 clear hK hb3 hS
 rename Below w.heap.size w w3 => hS
 refine takeE 3 9 ?_
 refine takeE 4 10 ?_
 refine takeF 5 11 (fun w hSw => And.intro ((hSw.cell (p := ⟨wb, 0, none⟩) hwb).trans C0.out) (And.intro ((hSw.cell (p := ⟨wb, 1, none⟩) hwb).trans C1.out) ((hSw.cell (p := ⟨wb, 2, none⟩) hwb).trans C2.out))) ?_
 refine takeE 6 12 ?_
 refine takeF 8 14 (fun w hSw => (hSw.cell (p := ⟨lb, 0, none⟩) hlb).trans CL.out) ?_
 refine ready1 7 (fun K hK => ?_)
 go_simp
 refine (wk_level a b (some mb) T v _ (HT.out.below hS)).mono ?_
 rintro e w3 ⟨rfl, hb3⟩
 rw [HL.out]
 have hS3 := hS.trans (hb3.mono hS.size)
 refine hK.out _ _ hS3 (fun _ => ?_)
 clear hK hb3 hS
 rename Below w.heap.size w w3 => hS
 refine takeE 9 15 ?_
 refine takeE 10 16 ?_
 refine takeU 11 17 ?_
 refine takeU 12 18 ?_
 refine takeE 13 19 ?_
 refine takeE 14 20 ?_
 refine takeE 15 5 ?_
 refine wpAnyH_done (by kernel_rfl) ?_ _
 go_wp2_with fail
 go_ret
 exact ⟨rfl, hS⟩
theorem goes_any {O : Nat → Prop} (a b mb wb lb ob : Nat) (T : Trl) (lv op v : Int) (w : World) (h : TrAt O w b T) (hw : w.heap[wb]? = some (.cells #[.pointer (some ⟨a, 0, none⟩), .pointer (some ⟨b, 0, none⟩), .map (some mb)] 141 (0, 0)))
  (hl : w.cell? ⟨lb, 0, none⟩ = some (.int .i64 lv)) (ho : w.cell? ⟨ob, 0, none⟩ = some (.int .i64 op)) :
  Calls Tryz.prog 74 #[.int .i64 v, .pointer (some ⟨wb, 0, none⟩), .pointer (some ⟨lb, 0, none⟩), .pointer (some ⟨ob, 0, none⟩)] w fun e w' => e = .returned (.bool (T.goes lv op v)) ∧ Below w.heap.size w w' := by
 unfold Trl.goes
 by_cases h0 : T.level v = 0
 ·
  rw [h0]
  exact goes_zero a b mb wb lb ob T lv op v w h hw hl ho h0
 ·
  have q0 : (T.level v == 0) = false := by simpa using h0
  rw [q0]
  by_cases h1 : T.level v = lv
  ·
   rw [h1, beq_self_eq_true]
   rw [h1] at q0
   exact goes_top a b mb wb lb ob T lv op v w h hw hl ho h1 q0
  ·
   have q1 : (T.level v == lv) = false := by simpa using h1
   rw [q1]
   exact goes_low a b mb wb lb ob T lv op v w h hw hl ho _ rfl q0 q1
def litN (l : Int) : Int := if litB l = true then -l else 0
theorem lit_neg (l : Int) (w : World) : Calls Tryz.prog 77 #[.int .i64 l] w fun e w' => e = .returned (.int .i64 (litN l)) ∧ w = w' := by
 have HR := right_lit l w
 cases hb : litB l
 ·
  rw [hb] at HR
  have HR := Lib.hid HR
  have hv : litN l = 0 := by unfold litN; rw [if_neg (by rw [hb]; decide)]
  rw [hv]
  clear hb hv
  go_enter Tryz.func77, Tryz.ntmps77
  go_wp2_with fail
  refine HR.out.mono ?_
  rintro e w' ⟨rfl, rfl⟩
  go_wp2_with fail
  go_ret
  exact ⟨rfl, rfl⟩
 ·
  rw [hb] at HR
  have HR := Lib.hid HR
  have hr := (litB_iff l).1 hb
  have hv : litN l = -l := by unfold litN; rw [if_pos hb]
  rw [hv]
  obtain ⟨h0, h1, h2⟩ := hr
  clear hb hv
  have hw : IntKind.i64.wrap (-l) = -l := IntWalk.i64_in _ (by omega)
  go_enter Tryz.func77, Tryz.ntmps77
  go_wp2_with fail
  refine HR.out.mono ?_
  rintro e w' ⟨rfl, rfl⟩
  go_wp2_with fail
  go_ret
  exact ⟨rfl, rfl⟩
end Go.Proofs.YtiodfolcnnkdjaaGreat
