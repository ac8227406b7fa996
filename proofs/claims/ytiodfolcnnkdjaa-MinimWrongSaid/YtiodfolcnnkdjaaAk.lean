/- analyze: Conflict's inner function; what the loop keeps. -/
import Derived.Test.YtiodfolcnnkdjaaAi
import Derived.Test.YtiodfolcnnkdjaaTf
import Derived.Test.YtiodfolcnnkdjaaMu
namespace Go.Proofs.Ytiodfolcnnkdjaa
open Go.RowKit Go.Shelf Go.Maps

/-- whether a variable has to go -/
def Trl.goes (T : Trl) (lv op v : Int) : Bool := T.level v == 0 || (T.level v == lv && decide (1 < op))
set_option maxRecDepth 100000 in
set_option maxHeartbeats 2000000 in
theorem goes_zero {O : Nat → Prop} (a b mb wb lb ob : Nat) (T : Trl) (lv op v : Int) (w : World) (h : TrAt O w b T) (hw : w.heap[wb]? = some (.cells #[.pointer (some ⟨a, 0, none⟩), .pointer (some ⟨b, 0, none⟩), .map (some mb)] 108 (0, 0)))
    (hl : w.cell? ⟨lb, 0, none⟩ = some (.int .i64 lv)) (ho : w.cell? ⟨ob, 0, none⟩ = some (.int .i64 op)) (hv : T.level v = 0) :
    Calls Try.prog 49 #[.int .i64 v, .pointer (some ⟨wb, 0, none⟩), .pointer (some ⟨lb, 0, none⟩), .pointer (some ⟨ob, 0, none⟩)] w fun e w' => e = .returned (.bool (true)) ∧ Below w.heap.size w w' := by
  have HT := Lib.hid h
  have HL := Lib.hid hv
  have hwb := heap_lt hw
  have hlb := World.block_lt_of_cell? w _ hl
  have hob := World.block_lt_of_cell? w _ ho
  have C0 := Lib.hid (mx_cell (j := 0) hw)
  have C1 := Lib.hid (mx_cell (j := 1) hw)
  have C2 := Lib.hid (mx_cell (j := 2) hw)
  have CL := Lib.hid hl
  have CO := Lib.hid ho
  clear h hv hw hl ho
  go_enter Try.func49, Try.ntmps49
  go_upto_region 1 with fail
  refine wp_region_held_drew (S := fun w' => Below w.heap.size w w') (by kernel_rfl) (mx_drew w) (fun hS => ?_)
  refine takeD 0 6 (v := ?_) rfl (by rfl) (by kernel_rfl) (by kernel_rfl) (by kernel_rfl) (fun _ _ _ h => h) (Or.inl ⟨by rfl, ?_⟩) (by assumption) ?_
  rotate_left
  · intro w hSw
    have k0 := (hSw.cell (p := ⟨wb, 0, none⟩) hwb).trans C0.out
    have k1 := (hSw.cell (p := ⟨wb, 1, none⟩) hwb).trans C1.out
    have k2 := (hSw.cell (p := ⟨wb, 2, none⟩) hwb).trans C2.out
    clear hSw
    go_simp
    try with_reducible rfl
  simp only [Act.put, List.setIfInBounds_toArray, List.set_cons_zero, List.set_cons_succ]
  refine takeD 1 7 (v := ?_) rfl (by rfl) (by kernel_rfl) (by kernel_rfl) (by kernel_rfl) (fun _ _ _ h => h) (Or.inl ⟨by rfl, ?_⟩) (by assumption) ?_
  rotate_left
  · intro w hSw
    clear hSw
    go_simp
    try with_reducible rfl
  simp only [Act.put, List.setIfInBounds_toArray, List.set_cons_zero, List.set_cons_succ]
  refine wpAnyH_ready (rs := [2]) (by kernel_rfl) (by simp) ?_
  refine AllReadyH.cons rfl (fun K hK => ?_) AllReadyH.nil
  go_simp
  refine (wk_level a b (some mb) T v _ (HT.out.below hS)).mono ?_
  rintro e w3 ⟨rfl, hb3⟩
  rw [HL.out]
  have hS3 := hS.trans (hb3.mono hS.size)
  refine hK.out _ _ hS3 (fun _ => ?_)
  clear hK hb3 hS
  rename Below w.heap.size w w3 => hS
  refine takeD 3 9 (v := ?_) rfl (by rfl) (by kernel_rfl) (by kernel_rfl) (by kernel_rfl) (fun _ _ _ h => h) (Or.inl ⟨by rfl, ?_⟩) (by assumption) ?_
  rotate_left
  · intro w hSw
    clear hSw
    go_simp
    try with_reducible rfl
  simp only [Act.put, List.setIfInBounds_toArray, List.set_cons_zero, List.set_cons_succ]
  refine takeD 4 10 (v := ?_) rfl (by rfl) (by kernel_rfl) (by kernel_rfl) (by kernel_rfl) (fun _ _ _ h => h) (Or.inl ⟨by rfl, ?_⟩) (by assumption) ?_
  rotate_left
  · intro w hSw
    clear hSw
    go_simp
    try with_reducible rfl
  simp only [Act.put, List.setIfInBounds_toArray, List.set_cons_zero, List.set_cons_succ]
  refine takeD 5 11 (v := undef) rfl (by rfl) (by kernel_rfl) (by kernel_rfl) (by kernel_rfl) (fun _ _ _ h => h) (Or.inr ⟨by rfl, rfl⟩) (by assumption) ?_
  simp only [Act.put, List.setIfInBounds_toArray, List.set_cons_zero, List.set_cons_succ]
  refine takeD 6 12 (v := undef) rfl (by rfl) (by kernel_rfl) (by kernel_rfl) (by kernel_rfl) (fun _ _ _ h => h) (Or.inr ⟨by rfl, rfl⟩) (by assumption) ?_
  simp only [Act.put, List.setIfInBounds_toArray, List.set_cons_zero, List.set_cons_succ]
  refine takeD 7 13 (v := undef) rfl (by rfl) (by kernel_rfl) (by kernel_rfl) (by kernel_rfl) (fun _ _ _ h => h) (Or.inr ⟨by rfl, rfl⟩) (by assumption) ?_
  simp only [Act.put, List.setIfInBounds_toArray, List.set_cons_zero, List.set_cons_succ]
  refine takeD 8 14 (v := undef) rfl (by rfl) (by kernel_rfl) (by kernel_rfl) (by kernel_rfl) (fun _ _ _ h => h) (Or.inr ⟨by rfl, rfl⟩) (by assumption) ?_
  simp only [Act.put, List.setIfInBounds_toArray, List.set_cons_zero, List.set_cons_succ]
  refine takeD 9 15 (v := undef) rfl (by rfl) (by kernel_rfl) (by kernel_rfl) (by kernel_rfl) (fun _ _ _ h => h) (Or.inr ⟨by rfl, rfl⟩) (by assumption) ?_
  simp only [Act.put, List.setIfInBounds_toArray, List.set_cons_zero, List.set_cons_succ]
  refine takeD 10 16 (v := undef) rfl (by rfl) (by kernel_rfl) (by kernel_rfl) (by kernel_rfl) (fun _ _ _ h => h) (Or.inr ⟨by rfl, rfl⟩) (by assumption) ?_
  simp only [Act.put, List.setIfInBounds_toArray, List.set_cons_zero, List.set_cons_succ]
  refine takeD 11 17 (v := undef) rfl (by rfl) (by kernel_rfl) (by kernel_rfl) (by kernel_rfl) (fun _ _ _ h => h) (Or.inr ⟨by rfl, rfl⟩) (by assumption) ?_
  simp only [Act.put, List.setIfInBounds_toArray, List.set_cons_zero, List.set_cons_succ]
  refine takeD 12 18 (v := undef) rfl (by rfl) (by kernel_rfl) (by kernel_rfl) (by kernel_rfl) (fun _ _ _ h => h) (Or.inr ⟨by rfl, rfl⟩) (by assumption) ?_
  simp only [Act.put, List.setIfInBounds_toArray, List.set_cons_zero, List.set_cons_succ]
  refine takeD 13 19 (v := undef) rfl (by rfl) (by kernel_rfl) (by kernel_rfl) (by kernel_rfl) (fun _ _ _ h => h) (Or.inr ⟨by rfl, rfl⟩) (by assumption) ?_
  simp only [Act.put, List.setIfInBounds_toArray, List.set_cons_zero, List.set_cons_succ]
  refine takeD 14 20 (v := ?_) rfl (by rfl) (by kernel_rfl) (by kernel_rfl) (by kernel_rfl) (fun _ _ _ h => h) (Or.inl ⟨by rfl, ?_⟩) (by assumption) ?_
  rotate_left
  · intro w hSw
    clear hSw
    go_simp
    try with_reducible rfl
  simp only [Act.put, List.setIfInBounds_toArray, List.set_cons_zero, List.set_cons_succ]
  refine takeD 15 5 (v := ?_) rfl (by rfl) (by kernel_rfl) (by kernel_rfl) (by kernel_rfl) (fun _ _ _ h => h) (Or.inl ⟨by rfl, ?_⟩) (by assumption) ?_
  rotate_left
  · intro w hSw
    clear hSw
    go_simp
    try with_reducible rfl
  simp only [Act.put, List.setIfInBounds_toArray, List.set_cons_zero, List.set_cons_succ]
  refine wpAnyH_done (by kernel_rfl) ?_ _
  go_wp2_with fail
  go_ret
  exact ⟨rfl, hS⟩
set_option maxRecDepth 100000 in
set_option maxHeartbeats 2000000 in
theorem goes_top {O : Nat → Prop} (a b mb wb lb ob : Nat) (T : Trl) (lv op v : Int) (w : World) (h : TrAt O w b T) (hw : w.heap[wb]? = some (.cells #[.pointer (some ⟨a, 0, none⟩), .pointer (some ⟨b, 0, none⟩), .map (some mb)] 108 (0, 0)))
    (hl : w.cell? ⟨lb, 0, none⟩ = some (.int .i64 lv)) (ho : w.cell? ⟨ob, 0, none⟩ = some (.int .i64 op)) (hv : T.level v = lv) (hq : (lv == 0) = false) :
    Calls Try.prog 49 #[.int .i64 v, .pointer (some ⟨wb, 0, none⟩), .pointer (some ⟨lb, 0, none⟩), .pointer (some ⟨ob, 0, none⟩)] w fun e w' => e = .returned (.bool (decide (1 < op))) ∧ Below w.heap.size w w' := by
  have HT := Lib.hid h
  have HL := Lib.hid hv
  have hwb := heap_lt hw
  have hlb := World.block_lt_of_cell? w _ hl
  have hob := World.block_lt_of_cell? w _ ho
  have C0 := Lib.hid (mx_cell (j := 0) hw)
  have C1 := Lib.hid (mx_cell (j := 1) hw)
  have C2 := Lib.hid (mx_cell (j := 2) hw)
  have CL := Lib.hid hl
  have CO := Lib.hid ho
  clear h hv hw hl ho
  go_enter Try.func49, Try.ntmps49
  go_upto_region 1 with fail
  refine wp_region_held_drew (S := fun w' => Below w.heap.size w w') (by kernel_rfl) (mx_drew w) (fun hS => ?_)
  refine takeD 0 6 (v := ?_) rfl (by rfl) (by kernel_rfl) (by kernel_rfl) (by kernel_rfl) (fun _ _ _ h => h) (Or.inl ⟨by rfl, ?_⟩) (by assumption) ?_
  rotate_left
  · intro w hSw
    have k0 := (hSw.cell (p := ⟨wb, 0, none⟩) hwb).trans C0.out
    have k1 := (hSw.cell (p := ⟨wb, 1, none⟩) hwb).trans C1.out
    have k2 := (hSw.cell (p := ⟨wb, 2, none⟩) hwb).trans C2.out
    clear hSw
    go_simp
    try with_reducible rfl
  simp only [Act.put, List.setIfInBounds_toArray, List.set_cons_zero, List.set_cons_succ]
  refine takeD 1 7 (v := ?_) rfl (by rfl) (by kernel_rfl) (by kernel_rfl) (by kernel_rfl) (fun _ _ _ h => h) (Or.inl ⟨by rfl, ?_⟩) (by assumption) ?_
  rotate_left
  · intro w hSw
    clear hSw
    go_simp
    try with_reducible rfl
  simp only [Act.put, List.setIfInBounds_toArray, List.set_cons_zero, List.set_cons_succ]
  refine wpAnyH_ready (rs := [2]) (by kernel_rfl) (by simp) ?_
  refine AllReadyH.cons rfl (fun K hK => ?_) AllReadyH.nil
  go_simp
  refine (wk_level a b (some mb) T v _ (HT.out.below hS)).mono ?_
  rintro e w3 ⟨rfl, hb3⟩
  rw [HL.out]
  have hS3 := hS.trans (hb3.mono hS.size)
  refine hK.out _ _ hS3 (fun _ => ?_)
  clear hK hb3 hS
  rename Below w.heap.size w w3 => hS
  refine takeD 3 9 (v := ?_) rfl (by rfl) (by kernel_rfl) (by kernel_rfl) (by kernel_rfl) (fun _ _ _ h => h) (Or.inl ⟨by rfl, ?_⟩) (by assumption) ?_
  rotate_left
  · intro w hSw
    clear hSw
    go_simp
    try with_reducible rfl
  simp only [Act.put, List.setIfInBounds_toArray, List.set_cons_zero, List.set_cons_succ]
  refine takeD 4 10 (v := ?_) rfl (by rfl) (by kernel_rfl) (by kernel_rfl) (by kernel_rfl) (fun _ _ _ h => h) (Or.inl ⟨by rfl, ?_⟩) (by assumption) ?_
  rotate_left
  · intro w hSw
    clear hSw
    go_simp
    try with_reducible rfl
  simp only [Act.put, List.setIfInBounds_toArray, List.set_cons_zero, List.set_cons_succ]
  refine takeD 5 11 (v := ?_) rfl (by rfl) (by kernel_rfl) (by kernel_rfl) (by kernel_rfl) (fun _ _ _ h => h) (Or.inl ⟨by rfl, ?_⟩) (by assumption) ?_
  rotate_left
  · intro w hSw
    have k0 := (hSw.cell (p := ⟨wb, 0, none⟩) hwb).trans C0.out
    have k1 := (hSw.cell (p := ⟨wb, 1, none⟩) hwb).trans C1.out
    have k2 := (hSw.cell (p := ⟨wb, 2, none⟩) hwb).trans C2.out
    clear hSw
    go_simp
    try with_reducible rfl
  simp only [Act.put, List.setIfInBounds_toArray, List.set_cons_zero, List.set_cons_succ]
  refine takeD 6 12 (v := ?_) rfl (by rfl) (by kernel_rfl) (by kernel_rfl) (by kernel_rfl) (fun _ _ _ h => h) (Or.inl ⟨by rfl, ?_⟩) (by assumption) ?_
  rotate_left
  · intro w hSw
    clear hSw
    go_simp
    try with_reducible rfl
  simp only [Act.put, List.setIfInBounds_toArray, List.set_cons_zero, List.set_cons_succ]
  refine takeD 8 14 (v := ?_) rfl (by rfl) (by kernel_rfl) (by kernel_rfl) (by kernel_rfl) (fun _ _ _ h => h) (Or.inl ⟨by rfl, ?_⟩) (by assumption) ?_
  rotate_left
  · intro w hSw
    have k0 := (hSw.cell (p := ⟨lb, 0, none⟩) hlb).trans CL.out
    clear hSw
    go_simp
    try with_reducible rfl
  simp only [Act.put, List.setIfInBounds_toArray, List.set_cons_zero, List.set_cons_succ]
  refine wpAnyH_ready (rs := [7]) (by kernel_rfl) (by simp) ?_
  refine AllReadyH.cons rfl (fun K hK => ?_) AllReadyH.nil
  go_simp
  refine (wk_level a b (some mb) T v _ (HT.out.below hS)).mono ?_
  rintro e w3 ⟨rfl, hb3⟩
  rw [HL.out]
  have hS3 := hS.trans (hb3.mono hS.size)
  refine hK.out _ _ hS3 (fun _ => ?_)
  clear hK hb3 hS
  rename Below w.heap.size w w3 => hS
  refine takeD 9 15 (v := ?_) rfl (by rfl) (by kernel_rfl) (by kernel_rfl) (by kernel_rfl) (fun _ _ _ h => h) (Or.inl ⟨by rfl, ?_⟩) (by assumption) ?_
  rotate_left
  · intro w hSw
    clear hSw
    go_simp
    try with_reducible rfl
  simp only [Act.put, List.setIfInBounds_toArray, List.set_cons_zero, List.set_cons_succ]
  refine takeD 10 16 (v := ?_) rfl (by rfl) (by kernel_rfl) (by kernel_rfl) (by kernel_rfl) (fun _ _ _ h => h) (Or.inl ⟨by rfl, ?_⟩) (by assumption) ?_
  rotate_left
  · intro w hSw
    clear hSw
    go_simp
    try with_reducible rfl
  simp only [Act.put, List.setIfInBounds_toArray, List.set_cons_zero, List.set_cons_succ]
  refine takeD 11 17 (v := ?_) rfl (by rfl) (by kernel_rfl) (by kernel_rfl) (by kernel_rfl) (fun _ _ _ h => h) (Or.inl ⟨by rfl, ?_⟩) (by assumption) ?_
  rotate_left
  · intro w hSw
    have k0 := (hSw.cell (p := ⟨ob, 0, none⟩) hob).trans CO.out
    clear hSw
    go_simp
    try with_reducible rfl
  simp only [Act.put, List.setIfInBounds_toArray, List.set_cons_zero, List.set_cons_succ]
  refine takeD 12 18 (v := ?_) rfl (by rfl) (by kernel_rfl) (by kernel_rfl) (by kernel_rfl) (fun _ _ _ h => h) (Or.inl ⟨by rfl, ?_⟩) (by assumption) ?_
  rotate_left
  · intro w hSw
    clear hSw
    go_simp
    try with_reducible rfl
  simp only [Act.put, List.setIfInBounds_toArray, List.set_cons_zero, List.set_cons_succ]
  refine takeD 13 19 (v := ?_) rfl (by rfl) (by kernel_rfl) (by kernel_rfl) (by kernel_rfl) (fun _ _ _ h => h) (Or.inl ⟨by rfl, ?_⟩) (by assumption) ?_
  rotate_left
  · intro w hSw
    clear hSw
    go_simp
    try with_reducible rfl
  simp only [Act.put, List.setIfInBounds_toArray, List.set_cons_zero, List.set_cons_succ]
  refine takeD 14 20 (v := ?_) rfl (by rfl) (by kernel_rfl) (by kernel_rfl) (by kernel_rfl) (fun _ _ _ h => h) (Or.inl ⟨by rfl, ?_⟩) (by assumption) ?_
  rotate_left
  · intro w hSw
    clear hSw
    go_simp
    try with_reducible rfl
  simp only [Act.put, List.setIfInBounds_toArray, List.set_cons_zero, List.set_cons_succ]
  refine takeD 15 5 (v := ?_) rfl (by rfl) (by kernel_rfl) (by kernel_rfl) (by kernel_rfl) (fun _ _ _ h => h) (Or.inl ⟨by rfl, ?_⟩) (by assumption) ?_
  rotate_left
  · intro w hSw
    clear hSw
    go_simp
    try with_reducible rfl
  simp only [Act.put, List.setIfInBounds_toArray, List.set_cons_zero, List.set_cons_succ]
  refine wpAnyH_done (by kernel_rfl) ?_ _
  go_wp2_with fail
  go_ret
  exact ⟨rfl, hS⟩
set_option maxRecDepth 100000 in
set_option maxHeartbeats 2000000 in
theorem goes_low {O : Nat → Prop} (a b mb wb lb ob : Nat) (T : Trl) (lv op v : Int) (w : World) (h : TrAt O w b T) (hw : w.heap[wb]? = some (.cells #[.pointer (some ⟨a, 0, none⟩), .pointer (some ⟨b, 0, none⟩), .map (some mb)] 108 (0, 0)))
    (hl : w.cell? ⟨lb, 0, none⟩ = some (.int .i64 lv)) (ho : w.cell? ⟨ob, 0, none⟩ = some (.int .i64 op)) (y : Int) (hv : T.level v = y) (hq : (y == 0) = false) (hq2 : (y == lv) = false) :
    Calls Try.prog 49 #[.int .i64 v, .pointer (some ⟨wb, 0, none⟩), .pointer (some ⟨lb, 0, none⟩), .pointer (some ⟨ob, 0, none⟩)] w fun e w' => e = .returned (.bool (false)) ∧ Below w.heap.size w w' := by
  have HT := Lib.hid h
  have HL := Lib.hid hv
  have hwb := heap_lt hw
  have hlb := World.block_lt_of_cell? w _ hl
  have hob := World.block_lt_of_cell? w _ ho
  have C0 := Lib.hid (mx_cell (j := 0) hw)
  have C1 := Lib.hid (mx_cell (j := 1) hw)
  have C2 := Lib.hid (mx_cell (j := 2) hw)
  have CL := Lib.hid hl
  have CO := Lib.hid ho
  clear h hv hw hl ho
  go_enter Try.func49, Try.ntmps49
  go_upto_region 1 with fail
  refine wp_region_held_drew (S := fun w' => Below w.heap.size w w') (by kernel_rfl) (mx_drew w) (fun hS => ?_)
  refine takeD 0 6 (v := ?_) rfl (by rfl) (by kernel_rfl) (by kernel_rfl) (by kernel_rfl) (fun _ _ _ h => h) (Or.inl ⟨by rfl, ?_⟩) (by assumption) ?_
  rotate_left
  · intro w hSw
    have k0 := (hSw.cell (p := ⟨wb, 0, none⟩) hwb).trans C0.out
    have k1 := (hSw.cell (p := ⟨wb, 1, none⟩) hwb).trans C1.out
    have k2 := (hSw.cell (p := ⟨wb, 2, none⟩) hwb).trans C2.out
    clear hSw
    go_simp
    try with_reducible rfl
  simp only [Act.put, List.setIfInBounds_toArray, List.set_cons_zero, List.set_cons_succ]
  refine takeD 1 7 (v := ?_) rfl (by rfl) (by kernel_rfl) (by kernel_rfl) (by kernel_rfl) (fun _ _ _ h => h) (Or.inl ⟨by rfl, ?_⟩) (by assumption) ?_
  rotate_left
  · intro w hSw
    clear hSw
    go_simp
    try with_reducible rfl
  simp only [Act.put, List.setIfInBounds_toArray, List.set_cons_zero, List.set_cons_succ]
  refine wpAnyH_ready (rs := [2]) (by kernel_rfl) (by simp) ?_
  refine AllReadyH.cons rfl (fun K hK => ?_) AllReadyH.nil
  go_simp
  refine (wk_level a b (some mb) T v _ (HT.out.below hS)).mono ?_
  rintro e w3 ⟨rfl, hb3⟩
  rw [HL.out]
  have hS3 := hS.trans (hb3.mono hS.size)
  refine hK.out _ _ hS3 (fun _ => ?_)
  clear hK hb3 hS
  rename Below w.heap.size w w3 => hS
  refine takeD 3 9 (v := ?_) rfl (by rfl) (by kernel_rfl) (by kernel_rfl) (by kernel_rfl) (fun _ _ _ h => h) (Or.inl ⟨by rfl, ?_⟩) (by assumption) ?_
  rotate_left
  · intro w hSw
    clear hSw
    go_simp
    try with_reducible rfl
  simp only [Act.put, List.setIfInBounds_toArray, List.set_cons_zero, List.set_cons_succ]
  refine takeD 4 10 (v := ?_) rfl (by rfl) (by kernel_rfl) (by kernel_rfl) (by kernel_rfl) (fun _ _ _ h => h) (Or.inl ⟨by rfl, ?_⟩) (by assumption) ?_
  rotate_left
  · intro w hSw
    clear hSw
    go_simp
    try with_reducible rfl
  simp only [Act.put, List.setIfInBounds_toArray, List.set_cons_zero, List.set_cons_succ]
  refine takeD 5 11 (v := ?_) rfl (by rfl) (by kernel_rfl) (by kernel_rfl) (by kernel_rfl) (fun _ _ _ h => h) (Or.inl ⟨by rfl, ?_⟩) (by assumption) ?_
  rotate_left
  · intro w hSw
    have k0 := (hSw.cell (p := ⟨wb, 0, none⟩) hwb).trans C0.out
    have k1 := (hSw.cell (p := ⟨wb, 1, none⟩) hwb).trans C1.out
    have k2 := (hSw.cell (p := ⟨wb, 2, none⟩) hwb).trans C2.out
    clear hSw
    go_simp
    try with_reducible rfl
  simp only [Act.put, List.setIfInBounds_toArray, List.set_cons_zero, List.set_cons_succ]
  refine takeD 6 12 (v := ?_) rfl (by rfl) (by kernel_rfl) (by kernel_rfl) (by kernel_rfl) (fun _ _ _ h => h) (Or.inl ⟨by rfl, ?_⟩) (by assumption) ?_
  rotate_left
  · intro w hSw
    clear hSw
    go_simp
    try with_reducible rfl
  simp only [Act.put, List.setIfInBounds_toArray, List.set_cons_zero, List.set_cons_succ]
  refine takeD 8 14 (v := ?_) rfl (by rfl) (by kernel_rfl) (by kernel_rfl) (by kernel_rfl) (fun _ _ _ h => h) (Or.inl ⟨by rfl, ?_⟩) (by assumption) ?_
  rotate_left
  · intro w hSw
    have k0 := (hSw.cell (p := ⟨lb, 0, none⟩) hlb).trans CL.out
    clear hSw
    go_simp
    try with_reducible rfl
  simp only [Act.put, List.setIfInBounds_toArray, List.set_cons_zero, List.set_cons_succ]
  refine wpAnyH_ready (rs := [7]) (by kernel_rfl) (by simp) ?_
  refine AllReadyH.cons rfl (fun K hK => ?_) AllReadyH.nil
  go_simp
  refine (wk_level a b (some mb) T v _ (HT.out.below hS)).mono ?_
  rintro e w3 ⟨rfl, hb3⟩
  rw [HL.out]
  have hS3 := hS.trans (hb3.mono hS.size)
  refine hK.out _ _ hS3 (fun _ => ?_)
  clear hK hb3 hS
  rename Below w.heap.size w w3 => hS
  refine takeD 9 15 (v := ?_) rfl (by rfl) (by kernel_rfl) (by kernel_rfl) (by kernel_rfl) (fun _ _ _ h => h) (Or.inl ⟨by rfl, ?_⟩) (by assumption) ?_
  rotate_left
  · intro w hSw
    clear hSw
    go_simp
    try with_reducible rfl
  simp only [Act.put, List.setIfInBounds_toArray, List.set_cons_zero, List.set_cons_succ]
  refine takeD 10 16 (v := ?_) rfl (by rfl) (by kernel_rfl) (by kernel_rfl) (by kernel_rfl) (fun _ _ _ h => h) (Or.inl ⟨by rfl, ?_⟩) (by assumption) ?_
  rotate_left
  · intro w hSw
    clear hSw
    go_simp
    try with_reducible rfl
  simp only [Act.put, List.setIfInBounds_toArray, List.set_cons_zero, List.set_cons_succ]
  refine takeD 11 17 (v := undef) rfl (by rfl) (by kernel_rfl) (by kernel_rfl) (by kernel_rfl) (fun _ _ _ h => h) (Or.inr ⟨by rfl, rfl⟩) (by assumption) ?_
  simp only [Act.put, List.setIfInBounds_toArray, List.set_cons_zero, List.set_cons_succ]
  refine takeD 12 18 (v := undef) rfl (by rfl) (by kernel_rfl) (by kernel_rfl) (by kernel_rfl) (fun _ _ _ h => h) (Or.inr ⟨by rfl, rfl⟩) (by assumption) ?_
  simp only [Act.put, List.setIfInBounds_toArray, List.set_cons_zero, List.set_cons_succ]
  refine takeD 13 19 (v := ?_) rfl (by rfl) (by kernel_rfl) (by kernel_rfl) (by kernel_rfl) (fun _ _ _ h => h) (Or.inl ⟨by rfl, ?_⟩) (by assumption) ?_
  rotate_left
  · intro w hSw
    clear hSw
    go_simp
    try with_reducible rfl
  simp only [Act.put, List.setIfInBounds_toArray, List.set_cons_zero, List.set_cons_succ]
  refine takeD 14 20 (v := ?_) rfl (by rfl) (by kernel_rfl) (by kernel_rfl) (by kernel_rfl) (fun _ _ _ h => h) (Or.inl ⟨by rfl, ?_⟩) (by assumption) ?_
  rotate_left
  · intro w hSw
    clear hSw
    go_simp
    try with_reducible rfl
  simp only [Act.put, List.setIfInBounds_toArray, List.set_cons_zero, List.set_cons_succ]
  refine takeD 15 5 (v := ?_) rfl (by rfl) (by kernel_rfl) (by kernel_rfl) (by kernel_rfl) (fun _ _ _ h => h) (Or.inl ⟨by rfl, ?_⟩) (by assumption) ?_
  rotate_left
  · intro w hSw
    clear hSw
    go_simp
    try with_reducible rfl
  simp only [Act.put, List.setIfInBounds_toArray, List.set_cons_zero, List.set_cons_succ]
  refine wpAnyH_done (by kernel_rfl) ?_ _
  go_wp2_with fail
  go_ret
  exact ⟨rfl, hS⟩
theorem goes_any {O : Nat → Prop} (a b mb wb lb ob : Nat) (T : Trl) (lv op v : Int) (w : World) (h : TrAt O w b T) (hw : w.heap[wb]? = some (.cells #[.pointer (some ⟨a, 0, none⟩), .pointer (some ⟨b, 0, none⟩), .map (some mb)] 108 (0, 0)))
    (hl : w.cell? ⟨lb, 0, none⟩ = some (.int .i64 lv)) (ho : w.cell? ⟨ob, 0, none⟩ = some (.int .i64 op)) :
    Calls Try.prog 49 #[.int .i64 v, .pointer (some ⟨wb, 0, none⟩), .pointer (some ⟨lb, 0, none⟩), .pointer (some ⟨ob, 0, none⟩)] w fun e w' => e = .returned (.bool (T.goes lv op v)) ∧ Below w.heap.size w w' := by
  unfold Trl.goes
  by_cases h0 : T.level v = 0
  · rw [h0]
    exact goes_zero a b mb wb lb ob T lv op v w h hw hl ho h0
  · have q0 : (T.level v == 0) = false := by simpa using h0
    rw [q0]
    by_cases h1 : T.level v = lv
    · rw [h1, beq_self_eq_true]
      rw [h1] at q0
      exact goes_top a b mb wb lb ob T lv op v w h hw hl ho h1 q0
    · have q1 : (T.level v == lv) = false := by simpa using h1
      rw [q1]
      exact goes_low a b mb wb lb ob T lv op v w h hw hl ho _ rfl q0 q1
def litN (l : Int) : Int := if litB l = true then -l else 0
theorem lit_neg (l : Int) (w : World) : Calls Try.prog 52 #[.int .i64 l] w fun e w' => e = .returned (.int .i64 (litN l)) ∧ w = w' := by
  have HR := right_lit l w
  cases hb : litB l
  · rw [hb] at HR
    have HR := Lib.hid HR
    have hv : litN l = 0 := by unfold litN; rw [if_neg (by rw [hb]; decide)]
    rw [hv]
    clear hb hv
    go_enter Try.func52, Try.ntmps52
    go_wp2_with fail
    refine HR.out.mono ?_
    rintro e w' ⟨rfl, rfl⟩
    go_wp2_with fail
    go_ret
    exact ⟨rfl, rfl⟩
  · rw [hb] at HR
    have HR := Lib.hid HR
    have hr := (litB_iff l).1 hb
    have hv : litN l = -l := by unfold litN; rw [if_pos hb]
    rw [hv]
    obtain ⟨h0, h1, h2⟩ := hr
    clear hb hv
    have hw : IntKind.i64.wrap (-l) = -l := IntWalk.i64_in _ (by omega)
    go_enter Try.func52, Try.ntmps52
    go_wp2_with fail
    refine HR.out.mono ?_
    rintro e w' ⟨rfl, rfl⟩
    go_wp2_with fail
    go_ret
    exact ⟨rfl, rfl⟩
end Go.Proofs.Ytiodfolcnnkdjaa
