/- The walk of TokensMoves. -/
import Derived.Test.YtihigfpikiaaiaaDoorMa
namespace Go.Proofs.YtihigfpikiaaiaaDoor
open Go.RowKit

set_option maxRecDepth 100000 in
set_option maxHeartbeats 2000000 in
theorem moves_any (s : ByteArray) (a g : Nat) (ha : a < 65536) (w : World) (hm : MaxL w) :
    Calls Tryd.prog 4 #[.string s, .int .u16 (a : Int), .int .u8 (g : Int)] w fun e w' => e = .returned (.bool true) ∧ Below w.heap.size w w' := by
  obtain ⟨T, hT⟩ : ∃ T, s.extract 0 (min (s.size : Int) 200).toNat = T := ⟨_, rfl⟩
  have hsz : T.size ≤ 200 := by rw [← hT]; simp; omega
  have hj : g % 5 < 5 := Nat.mod_lt _ (by omega)
  obtain ⟨F, hF⟩ : ∃ F, frontAt (g % 5) = F := ⟨_, rfl⟩
  have h8 : F.size ≤ 8 := by rw [← hF]; exact front_le _
  have hbl := fun w => blank_any g w
  have hs2 := fun w => scan_moved (g % 5) T hj hsz w
  have hs1 := fun w => scan_toks T (by omega) w
  rw [hF] at hbl hs2
  have hln := scanL_len T
  have hst : stopAt T ≤ T.size := (places_eq T).2.2.2
  have hE := Nat.lt_succ_self (scanErr T)
  obtain ⟨tl, htl⟩ : ∃ tl, scanL T = tl := ⟨_, rfl⟩
  have hmem := scanL_le T
  rw [htl] at hs1 hs2 hln hmem
  have HBL := Lib.hid hbl
  have HS1 := Lib.hid hs1
  have HS2 := Lib.hid hs2
  have HME := Lib.hid hmem
  clear hbl hs1 hs2 hF htl hmem hE
  go_enter Tryd.func4, Tryd.ntmps4
  go_wp2_with fail
  refine (awake_any _ hm).mono ?_
  rintro e w1 ⟨rfl, hb1⟩
  go_wp2_with fail
  refine (HBL.out _).mono ?_
  rintro e w2 ⟨rfl, hb2⟩
  go_wp2_with fail
  refine (HS1.out _).mono ?_
  rintro e w3 ⟨A, c, rfl, hT1, hb3⟩
  have T1 := Lib.hid hT1
  have hc1 := hT1.1
  clear hT1
  go_wp2_with fail
  refine (HS2.out _).mono ?_
  rintro e w4 ⟨A2, c2, rfl, hc2, hT2, hb4⟩
  have T2 := Lib.hid hT2
  clear hT2
  go_wp2_with fail
  have hB3 := hb1.trans ((hb2.trans (hb3.mono hb2.size)).mono hb1.size)
  have hB4 := hB3.trans (hb4.mono hB3.size)
  have hm4 := hm.next hB4
  have HB4 := Lib.hid hB4
  have HM4 := Lib.hid hm4
  have HB34 := Lib.hid hb4
  clear hb1 hb2 hb3 hB3 hB4 hm4 hb4
  go_loopw [65] (fun i wr => ∃ k : Nat, k ≤ tl.length ∧ i = .int .i64 k ∧ Below w4.heap.size w4 wr) (fun i _ => tl.length - (intOf i).toNat)
  case atStart => exact ⟨0, by omega, rfl, Below.refl _ _⟩
  case round =>
    obtain ⟨k, hk, rfl, hB⟩ := hrel
    have HB := Lib.hid hB
    clear hB
    by_cases hlt : k < tl.length
    · obtain ⟨p, hp⟩ : ∃ p, tl[k]? = some p := ⟨_, List.getElem?_eq_getElem hlt⟩
      obtain ⟨g1, rfl, hg1, c0, c1, c2⟩ := T1.out.2.2 k p hp
      obtain ⟨g2, rfl, hg2, d0', d1', d2'⟩ := T2.out k p hp
      have hs34 := HB34.out.size
      have e0 := (HB.out.cell (p := ⟨g1, k * 3, none⟩) (Nat.lt_of_lt_of_le hg1 hs34)).trans ((HB34.out.cell (p := ⟨g1, k * 3, none⟩) hg1).trans c0)
      have e1 := (HB.out.cell (p := ⟨g1, k * 3 + 1, none⟩) (Nat.lt_of_lt_of_le hg1 hs34)).trans ((HB34.out.cell (p := ⟨g1, k * 3 + 1, none⟩) hg1).trans c1)
      have e2 := (HB.out.cell (p := ⟨g1, k * 3 + 2, none⟩) (Nat.lt_of_lt_of_le hg1 hs34)).trans ((HB34.out.cell (p := ⟨g1, k * 3 + 2, none⟩) hg1).trans c2)
      have d0 := (HB.out.cell (p := ⟨g2, k * 3, none⟩) hg2).trans d0'
      have d1 := (HB.out.cell (p := ⟨g2, k * 3 + 1, none⟩) hg2).trans d1'
      have d2 := (HB.out.cell (p := ⟨g2, k * 3 + 2, none⟩) hg2).trans d2'
      have hpm : p ≤ T.size := HME.out p (List.mem_of_getElem? hp)
      have hpe := tkEnd_le T p hpm
      clear hp c0 c1 c2 d0' d1' d2'
      go_wp2_with fail
      go_quiet (fail)
      go_wp2
      go_roundw
      case rel => exact ⟨k + 1, by omega, by go_num, below_drewN HB.out _⟩
      case measure => simp [intOf]; omega
    · obtain rfl : k = tl.length := by omega
      obtain ⟨j, hj⟩ : ∃ j : Nat, a % (T.size + 1) = j := ⟨_, rfl⟩
      have hjl : j ≤ T.size := by have := Nat.mod_lt a (show 0 < T.size + 1 by omega); omega
      have hmod : (a : Int) % ((T.size : Int) + 1) = (j : Int) := by rw [← hj]; simp
      have l1 := lineAtN_le T j
      have l2 := colAtN_le T j hjl
      have hbm := HM4.out.below HB.out HM4.out.1
      clear hj
      go_wp2_with fail
      have hlc := line_count T j
      have hct := fun w => Tryd.strings_Count_one (T.extract 0 j) 10 w
      have hlin := fun w hm => line_any' T j w (by omega) hjl hm
      rw [hlc] at hlin l1
      generalize Lib.countByte (T.extract 0 j).data.toList 10 = n at hct hlin l1
      simp only [Int.natCast_add, Int.cast_ofNat_Int] at hlin
      have HCT := Lib.hid hct
      have HNN := Lib.hid (no_nl T j hjl)
      have HCF := Lib.hid (col_facts T j hjl)
      obtain ⟨cc, hcc⟩ : ∃ cc, colAtN T j = cc := ⟨_, rfl⟩
      rw [hcc] at HNN HCF hlin l2
      have HLI := Lib.hid hlin
      clear hlc hlin hcc hct
      refine (HLI.out _ hbm).mono ?_
      rintro e w5 ⟨rfl, hb5⟩
      go_wp2_with fail
      refine (HCT.out _).mono ?_
      rintro e w' ⟨rfl, rfl⟩
      go_wp2_with fail
      have hx : ((j : Int) - min ((cc : Int) - 1) (j : Int)).toNat = j - (cc - 1) := by omega
      have hcn := fun w => contains_any (T.extract (j - (cc - 1)) j) 10 w
      simp only [HNN.out] at hcn
      have HCN := Lib.hid hcn
      clear hcn
      rw [hx]
      refine (HCN.out _).mono ?_
      rintro e w6 ⟨rfl, rfl⟩
      have hg := get_bt T
      have hfin : Below w.heap.size w w' := HB4.out.trans ((HB.out.trans (hb5.mono HB.out.size)).mono HB4.out.size)
      by_cases hck : cc = j + 1
      · have d1 : ((cc : Int) == (j : Int) + 1) = true := by simp; omega
        clear hck
        go_wp2_with fail
        refine (line_out T _ _ (.inr (by omega))).mono ?_
        rintro e w6 ⟨rfl, rfl⟩
        go_wp2_with fail
        refine (line_out T _ _ (.inl (by omega))).mono ?_
        rintro e w6 ⟨rfl, rfl⟩
        go_wp2_with fail
        go_ret
        exact ⟨rfl, hfin⟩
      · have d1 : ((cc : Int) == (j : Int) + 1) = false := by simp; omega
        have d2 : (((bt T (j - cc)).toNat : Int) == (10 : Int)) = true := by
          have := HCF.out.2 hck
          rw [this]; rfl
        have hjc : ((j : Int) - (cc : Int)).toNat = j - cc := by omega
        have hjc2 : (j : Int) - (cc : Int) = ((j - cc : Nat) : Int) := by omega
        clear hck
        go_wp2_with fail
        refine (line_out T _ _ (.inr (by omega))).mono ?_
        rintro e w6 ⟨rfl, rfl⟩
        go_wp2_with fail
        refine (line_out T _ _ (.inl (by omega))).mono ?_
        rintro e w6 ⟨rfl, rfl⟩
        go_wp2_with fail
        go_ret
        exact ⟨rfl, hfin⟩
end Go.Proofs.YtihigfpikiaaiaaDoor
