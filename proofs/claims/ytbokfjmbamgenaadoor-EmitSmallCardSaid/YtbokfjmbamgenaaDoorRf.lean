/- The reference's Line, Write and Text: they are those of the layer. -/
import Derived.Test.YtbokfjmbamgenaaDoorRe
import Derived.Test.YtbokfjmbamgenaaDoorSy
namespace Go.Proofs.YtbokfjmbamgenaaDoor
open Go.RowKit

def numsR (l : List Int) : List UInt8 := l.flatMap fun x => Lib.itoa x ++ [32]
theorem numsR_eq (l : List Int) : 32 :: numsR l = numsT l ++ [32] := by
  induction l with
  | nil => rfl
  | cons x l ih =>
    show 32 :: ((Lib.itoa x ++ [32]) ++ numsR l) = (numT x ++ numsT l) ++ [32]
    rw [List.append_assoc (numT x), ← ih]
    simp [numT]
theorem numsR_take (l : List Int) (k : Nat) (x : Int) (h : l[k]? = some x) : numsR (l.take (k + 1)) = numsR (l.take k) ++ (Lib.itoa x ++ [32]) := by
  rw [numsR, List.take_add_one, h, List.flatMap_append]
  simp [numsR]
theorem itoa_len (x : Int) (h : Rng x) : (Lib.itoa x).length ≤ 21 := Lib.itoa_length_le x h.1 h.2
theorem numsR_len (l : List Int) (h : ∀ x ∈ l, Rng x) : (numsR l).length ≤ l.length * 22 := by
  induction l with
  | nil => simp [numsR]
  | cons x l ih =>
    have h1 := itoa_len x (h x List.mem_cons_self)
    have h2 := ih (fun y hy => h y (List.mem_cons_of_mem _ hy))
    show ((Lib.itoa x ++ [32]) ++ numsR l).length ≤ _
    simp only [List.length_append, List.length_cons, List.length_nil]
    omega
theorem itoa_zero : Lib.itoa 0 = [48] := by
  rw [show (0 : Int) = ((0 : Nat) : Int) from rfl, Lib.itoa_nonneg, Lib.decDigits_one (by decide)]
  rfl
theorem numsR_eq' (l : List Int) (X : List UInt8) : numsT l ++ 32 :: X = 32 :: (numsR l ++ X) := by
  have h := numsR_eq l
  rw [show numsT l ++ 32 :: X = (numsT l ++ [32]) ++ X by simp, ← h]
  rfl
theorem line_del (id : Int) (hints : List Int) : (Lib.itoa id ++ [32] ++ [100, 32]) ++ numsR hints ++ [48] = stepT ⟨true, id, [], hints⟩ := by
  unfold stepT
  simp only [if_true, numT, itoa_zero, List.append_assoc, List.cons_append, List.nil_append, numsR_eq']
theorem line_add' (id : Int) (lits hints : List Int) : (Lib.itoa id ++ [32] ++ numsR lits ++ [48, 32]) ++ numsR hints ++ [48] = stepT ⟨false, id, lits, hints⟩ := by
  unfold stepT
  simp only [Bool.false_eq_true, if_false, numT, itoa_zero, List.append_assoc, List.cons_append, List.nil_append, numsR_eq']
set_option maxRecDepth 100000 in
set_option maxHeartbeats 2000000 in
theorem ref_line {O O' : Nat → Prop} (s : EStep) (lv hv : Value) (w : World) (hs : StepOk s) (hl : IntsIn O w lv s.lits) (hh : IntsIn O' w hv s.hints) :
    Calls Tryd.prog 71 #[.agg #[.bool s.del, .int .i64 s.id, lv, hv]] w fun e w' => e = .returned (.string ⟨(stepT s).toArray⟩) ∧ Below w.heap.size w w' := by
  obtain ⟨h1, h2, h3, h4⟩ := stepOk_rng hs
  have hhl := hs.len
  obtain ⟨dl, id, lits, hints⟩ := s
  simp only [] at h1 h2 h3 h4 hhl
  obtain ⟨Al, kl, rfl, hkl, _, hxl⟩ := hl
  obtain ⟨Ah, kh, rfl, hkh, _, hxh⟩ := hh
  simp only [] at hkl hkh hxl hxh
  have HXL := Lib.hid hxl
  have HXH := Lib.hid hxh
  have HLR := Lib.hid h2
  have HHR := Lib.hid h3
  have HSO := Lib.hid hs
  have HIR := Lib.hid h1
  have hli := itoa_len id h1
  clear hxl hxh h1 h2 h3 hs
  have c0 : ∀ W : World, (W.alloc (.cells #[.bool dl, .int .i64 id, .slice Al lits.length kl, .slice Ah hints.length kh] 98)).cell? ⟨W.heap.size, 1, none⟩ = some (.int .i64 id) := fun W => cell_new W _ _ _
  have c1 : ∀ W : World, (W.alloc (.cells #[.bool dl, .int .i64 id, .slice Al lits.length kl, .slice Ah hints.length kh] 98)).cell? ⟨W.heap.size, 0, none⟩ = some (.bool dl) := fun W => cell_new W _ _ _
  have hbl := World.alloc_heap_new w (.cells #[.bool dl, .int .i64 id, .slice Al lits.length kl, .slice Ah hints.length kh] 98)
  have hal := below_al w (.cells #[.bool dl, .int .i64 id, .slice Al lits.length kl, .slice Ah hints.length kh] 98)
  have hza : (w.alloc (.cells #[.bool dl, .int .i64 id, .slice Al lits.length kl, .slice Ah hints.length kh] 98)).heap.size = w.heap.size + 1 := by simp
  go_enter Tryd.func71, Tryd.ntmps71
  obtain ⟨wa, hwa⟩ : ∃ x, w.alloc (.cells #[.bool dl, .int .i64 id, .slice Al lits.length kl, .slice Ah hints.length kh] 98) = x := ⟨_, rfl⟩
  have q0 := c0 w
  have q1 := c1 w
  rw [hwa] at hbl hal hza q0 q1
  have HWA := Lib.hid hwa
  clear c0 c1 hwa
  go_wp2_with fail
  rw [HWA.out]
  clear HWA
  go_wp2_with fail
  refine (ref_decimal id HIR.out.1 HIR.out.2 wa).mono ?_
  rintro e wb ⟨rfl, hb1⟩
  have hzb : w.heap.size < wb.heap.size := Nat.lt_of_lt_of_le (by omega) hb1.size
  have HBL := Lib.hid ((hb1.block w.heap.size (by omega)).trans hbl)
  have HB := Lib.hid (hal.trans (hb1.mono hal.size))
  have q2 : wb.cell? ⟨w.heap.size, 0, none⟩ = some (.bool dl) := cell_of_block (j := 0) HBL.out
  have HZB := Lib.hid hzb
  have HBS := Lib.hid (Below.refl wb.heap.size wb)
  clear hb1 hbl hal hza q0 q1 hzb
  obtain ⟨DI, hDI⟩ : ∃ D, Lib.itoa id = D := ⟨_, rfl⟩
  rw [hDI] at hli ⊢
  have HDI := Lib.hid hDI
  clear hDI
  rcases dl with _ | _
  · go_wp2_with fail
    clear q2
    rw [show (⟨DI.toArray⟩ : ByteArray) ++ (⟨#[32]⟩ : ByteArray) = ⟨(DI ++ [32]).toArray⟩ from cat_bytes DI [32]]
    obtain ⟨PR, hPR⟩ : ∃ PR, DI ++ [32] = PR := ⟨_, rfl⟩
    have hpl : PR.length ≤ 100 := by rw [← hPR]; simp; omega
    rw [hPR]
    have HPL := Lib.hid hpl
    have HPR := Lib.hid hPR
    clear hPR
    go_loopw [3, 4] (fun t i wr => ∃ k : Nat, k ≤ lits.length ∧ i = .int .i64 k ∧ t = .string ⟨(PR ++ numsR (lits.take k)).toArray⟩ ∧ Hid (Below wb.heap.size wb wr)) (fun _ i _ => lits.length - (intOf i).toNat)
    case atStart => exact ⟨0, Nat.zero_le _, rfl, by simp [numsR], HBS⟩
    case round =>
      obtain ⟨k, hk, rfl, rfl, HW⟩ := hrel
      have hz := HW.out.size
      have c0 : wr.cell? ⟨w.heap.size, 2, none⟩ = some (.slice Al lits.length kl) := (HW.out.cell (p := ⟨w.heap.size, 2, none⟩) HZB.out).trans (cell_of_block (j := 2) HBL.out)
      by_cases hlt : k < lits.length
      · obtain ⟨x, hx⟩ := getElem_of hlt
        obtain ⟨g, o, rfl, hg, _, d0⟩ := HXL.out k x hx
        have d1 := ((HB.out.trans (HW.out.mono HB.out.size)).cell (p := ⟨g, o + k, none⟩) hg).trans d0
        have hrx := HLR.out x (List.mem_of_getElem? hx)
        have hnt := numsR_take lits k x hx
        have hln := numsR_len (lits.take k) (fun y hy => HLR.out y (List.mem_of_mem_take hy))
        have hix := itoa_len x hrx
        rw [List.length_take] at hln
        obtain ⟨S, hS⟩ : ∃ S, PR ++ numsR (lits.take k) = S := ⟨_, rfl⟩
        have hSl : S.length ≤ 100 + 200000 * 23 := by rw [← hS, List.length_append]; have := HPL.out; omega
        rw [hS]
        have HSE := Lib.hid hS
        have HNT := Lib.hid hnt
        have HRX := Lib.hid hrx
        clear hS hnt hln hx d0 hrx hz
        go_wp2_with fail
        refine (ref_decimal x HRX.out.1 HRX.out.2 wr).mono ?_
        rintro e w1 ⟨rfl, hb1⟩
        have HB1 := Lib.hid (HW.out.trans (hb1.mono HW.out.size))
        obtain ⟨D, hD⟩ : ∃ D, Lib.itoa x = D := ⟨_, rfl⟩
        rw [hD] at hix HNT ⊢
        clear hD hb1 c0 d1
        go_wp2_with fail
        go_roundw
        case rel => exact ⟨k + 1, by omega, by go_num, by rw [HNT.out, ← List.append_assoc, HSE.out, show (⟨#[32]⟩ : ByteArray) = ⟨[(32 : UInt8)].toArray⟩ from rfl, cat_bytes, cat_bytes, List.append_assoc], HB1⟩
        case measure => simp [intOf]; omega
      · obtain rfl : k = lits.length := by omega
        rw [List.take_length]
        have hln := numsR_len lits HLR.out
        obtain ⟨S, hS⟩ : ∃ S, PR ++ numsR lits = S := ⟨_, rfl⟩
        have hSl : S.length ≤ 100 + 200000 * 23 := by rw [← hS, List.length_append]; have := HPL.out; omega
        have hSm : S.length ≤ 100 + 4096 * 22 := by rw [← hS, List.length_append]; have := HPL.out; omega
        rw [hS]
        have HSE0 := Lib.hid hS
        clear hS hln
        go_wp2_with fail
        rw [show (⟨S.toArray⟩ : ByteArray) ++ (⟨#[48, 32]⟩ : ByteArray) = ⟨(S ++ [48, 32]).toArray⟩ from cat_bytes S [48, 32]]
        obtain ⟨P2, hP2⟩ : ∃ P2, S ++ [48, 32] = P2 := ⟨_, rfl⟩
        have hp2 : P2.length ≤ 102 + 4096 * 22 := by rw [← hP2]; simp; omega
        rw [hP2]
        have HP2 := Lib.hid hP2
        have HPL := Lib.hid hp2
        clear hP2 hSl hSm c0
        have hz0 := HW.out.size
        have HBW := Lib.hid (HB.out.trans (HW.out.mono HB.out.size))
        have HZW := Lib.hid (Nat.lt_of_lt_of_le HZB.out hz0)
        have HBLW := Lib.hid ((HW.out.block w.heap.size HZB.out).trans HBL.out)
        have HBSW := Lib.hid (Below.refl wr.heap.size wr)
        clear HW hz0 HBS HBL HZB HB
        obtain ⟨wb, rfl⟩ : ∃ x : World, x = wr := ⟨_, rfl⟩
        have HB := HBW
        have HZB := HZW
        have HBL := HBLW
        have HBS := HBSW
        go_loopw [3, 5] (fun t i wr => ∃ k : Nat, k ≤ hints.length ∧ i = .int .i64 k ∧ t = .string ⟨(P2 ++ numsR (hints.take k)).toArray⟩ ∧ Hid (Below wb.heap.size wb wr)) (fun _ i _ => hints.length - (intOf i).toNat)
        case atStart => exact ⟨0, Nat.zero_le _, rfl, by simp [numsR], HBS⟩
        case round =>
          obtain ⟨k, hk, rfl, rfl, HW⟩ := hrel
          have hz := HW.out.size
          have c0 : wr.cell? ⟨w.heap.size, 3, none⟩ = some (.slice Ah hints.length kh) := (HW.out.cell (p := ⟨w.heap.size, 3, none⟩) HZB.out).trans (cell_of_block (j := 3) HBL.out)
          by_cases hlt : k < hints.length
          · obtain ⟨x, hx⟩ := getElem_of hlt
            obtain ⟨g, o, rfl, hg, _, d0⟩ := HXH.out k x hx
            have d1 := ((HB.out.trans (HW.out.mono HB.out.size)).cell (p := ⟨g, o + k, none⟩) hg).trans d0
            have hrx := HHR.out x (List.mem_of_getElem? hx)
            have hnt := numsR_take hints k x hx
            have hln := numsR_len (hints.take k) (fun y hy => HHR.out y (List.mem_of_mem_take hy))
            have hix := itoa_len x hrx
            rw [List.length_take] at hln
            obtain ⟨S, hS⟩ : ∃ S, P2 ++ numsR (hints.take k) = S := ⟨_, rfl⟩
            have hSl : S.length ≤ 100 + 200000 * 23 := by rw [← hS, List.length_append]; have := HPL.out; omega
            rw [hS]
            have HSE := Lib.hid hS
            have HNT := Lib.hid hnt
            have HRX := Lib.hid hrx
            clear hS hnt hln hx d0 hrx hz
            go_wp2_with fail
            refine (ref_decimal x HRX.out.1 HRX.out.2 wr).mono ?_
            rintro e w1 ⟨rfl, hb1⟩
            have HB1 := Lib.hid (HW.out.trans (hb1.mono HW.out.size))
            obtain ⟨D, hD⟩ : ∃ D, Lib.itoa x = D := ⟨_, rfl⟩
            rw [hD] at hix HNT ⊢
            clear hD hb1 c0 d1
            go_wp2_with fail
            go_roundw
            case rel => exact ⟨k + 1, by omega, by go_num, by rw [HNT.out, ← List.append_assoc, HSE.out, show (⟨#[32]⟩ : ByteArray) = ⟨[(32 : UInt8)].toArray⟩ from rfl, cat_bytes, cat_bytes, List.append_assoc], HB1⟩
            case measure => simp [intOf]; omega
          · obtain rfl : k = hints.length := by omega
            rw [List.take_length]
            have hhl := numsR_len hints HHR.out
            obtain ⟨S, hS⟩ : ∃ S, P2 ++ numsR hints = S := ⟨_, rfl⟩
            have hSl : S.length ≤ 100 + 200000 * 23 := by rw [← hS, List.length_append]; have := HPL.out; omega
            rw [hS]
            have HSE := Lib.hid hS
            clear hS hhl
            go_wp2_with fail
            go_ret
            refine ⟨?_, HB.out.trans (HW.out.mono HB.out.size)⟩
            rw [show (⟨#[48]⟩ : ByteArray) = ⟨[(48 : UInt8)].toArray⟩ from rfl]
            show Ending.returned (.string (⟨S.toArray⟩ ++ _)) = _
            rw [cat_bytes, ← HSE.out]
            rw [← HP2.out, ← HSE0.out, ← HPR.out, ← HDI.out]
            exact congrArg (fun z => Ending.returned (.string ⟨List.toArray z⟩)) (line_add' id lits hints)
  · have hd := HSO.out.del rfl
    simp only [] at hd
    subst hd
    go_upto_region 3 with fail
    clear q2
    rw [show (⟨DI.toArray⟩ : ByteArray) ++ (⟨#[32]⟩ : ByteArray) = ⟨(DI ++ [32]).toArray⟩ from cat_bytes DI [32]]
    go_wp2_with fail
    rw [cat_bytes]
    obtain ⟨P2, hP2⟩ : ∃ P2, DI ++ [32] ++ [100, 32] = P2 := ⟨_, rfl⟩
    have hpl : P2.length ≤ 100 := by rw [← hP2]; simp; omega
    rw [hP2]
    have HPL := Lib.hid hpl
    have HP2 := Lib.hid hP2
    clear hP2
    go_loopw [3, 5] (fun t i wr => ∃ k : Nat, k ≤ hints.length ∧ i = .int .i64 k ∧ t = .string ⟨(P2 ++ numsR (hints.take k)).toArray⟩ ∧ Hid (Below wb.heap.size wb wr)) (fun _ i _ => hints.length - (intOf i).toNat)
    case atStart => exact ⟨0, Nat.zero_le _, rfl, by simp [numsR], HBS⟩
    case round =>
      obtain ⟨k, hk, rfl, rfl, HW⟩ := hrel
      have hz := HW.out.size
      have c0 : wr.cell? ⟨w.heap.size, 3, none⟩ = some (.slice Ah hints.length kh) := (HW.out.cell (p := ⟨w.heap.size, 3, none⟩) HZB.out).trans (cell_of_block (j := 3) HBL.out)
      by_cases hlt : k < hints.length
      · obtain ⟨x, hx⟩ := getElem_of hlt
        obtain ⟨g, o, rfl, hg, _, d0⟩ := HXH.out k x hx
        have d1 := ((HB.out.trans (HW.out.mono HB.out.size)).cell (p := ⟨g, o + k, none⟩) hg).trans d0
        have hrx := HHR.out x (List.mem_of_getElem? hx)
        have hnt := numsR_take hints k x hx
        have hln := numsR_len (hints.take k) (fun y hy => HHR.out y (List.mem_of_mem_take hy))
        have hix := itoa_len x hrx
        rw [List.length_take] at hln
        obtain ⟨S, hS⟩ : ∃ S, P2 ++ numsR (hints.take k) = S := ⟨_, rfl⟩
        have hSl : S.length ≤ 100 + 200000 * 23 := by rw [← hS, List.length_append]; have := HPL.out; omega
        rw [hS]
        have HSE := Lib.hid hS
        have HNT := Lib.hid hnt
        have HRX := Lib.hid hrx
        clear hS hnt hln hx d0 hrx hz
        go_wp2_with fail
        refine (ref_decimal x HRX.out.1 HRX.out.2 wr).mono ?_
        rintro e w1 ⟨rfl, hb1⟩
        have HB1 := Lib.hid (HW.out.trans (hb1.mono HW.out.size))
        obtain ⟨D, hD⟩ : ∃ D, Lib.itoa x = D := ⟨_, rfl⟩
        rw [hD] at hix HNT ⊢
        clear hD hb1 c0 d1
        go_wp2_with fail
        go_roundw
        case rel => exact ⟨k + 1, by omega, by go_num, by rw [HNT.out, ← List.append_assoc, HSE.out, show (⟨#[32]⟩ : ByteArray) = ⟨[(32 : UInt8)].toArray⟩ from rfl, cat_bytes, cat_bytes, List.append_assoc], HB1⟩
        case measure => simp [intOf]; omega
      · obtain rfl : k = hints.length := by omega
        rw [List.take_length]
        have hhl := numsR_len hints HHR.out
        obtain ⟨S, hS⟩ : ∃ S, P2 ++ numsR hints = S := ⟨_, rfl⟩
        have hSl : S.length ≤ 100 + 200000 * 23 := by rw [← hS, List.length_append]; have := HPL.out; omega
        rw [hS]
        have HSE := Lib.hid hS
        clear hS hhl
        go_wp2_with fail
        go_ret
        refine ⟨?_, HB.out.trans (HW.out.mono HB.out.size)⟩
        rw [show (⟨#[48]⟩ : ByteArray) = ⟨[(48 : UInt8)].toArray⟩ from rfl]
        show Ending.returned (.string (⟨S.toArray⟩ ++ _)) = _
        rw [cat_bytes, ← HSE.out]
        rw [← HP2.out, ← HDI.out]
        exact congrArg (fun z => Ending.returned (.string ⟨List.toArray z⟩)) (line_del id hints)
end Go.Proofs.YtbokfjmbamgenaaDoor
