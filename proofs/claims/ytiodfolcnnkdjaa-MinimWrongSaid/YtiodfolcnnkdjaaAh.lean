/- analyze: meet. -/
import Derived.Test.YtiodfolcnnkdjaaAg
namespace Go.Proofs.Ytiodfolcnnkdjaa
open Go.RowKit

/-- the map that holds 1 for what was met -/
def metF (ms : List Int) (z : Int) : Int := if ms.contains z then 1 else 0
theorem metF_put (l : List Int) (x : Int) : (fun z => if z = x then (1 : Int) else metF l z) = metF (l ++ [x]) := by
  funext z
  unfold metF
  by_cases h : z = x
  · simp [h]
  · simp [h]
theorem metF_zero (l : List Int) (x : Int) : (metF l x == 0) = !l.contains x := by
  unfold metF
  cases l.contains x <;> simp
theorem litV_le (l : Int) : litV l ≤ 1048576 := by
  unfold litV
  split
  · rename_i h
    have := (litB_iff l).1 h
    omega
  · omega
/-- what meet notes, and how many variables of a level are new -/
def Trl.meetGo (T : Trl) (wo lv : Int) : List Int → List Int → Nat → List Int × Nat
  | [], ms, n => (ms, n)
  | l :: c, ms, n => if (litV l : Int) ≠ wo ∧ ms.contains (litV l : Int) = false then T.meetGo wo lv c (ms ++ [(litV l : Int)]) (if T.level (litV l : Nat) = lv then n + 1 else n + 0) else T.meetGo wo lv c ms n
set_option maxRecDepth 100000 in
set_option maxHeartbeats 2000000 in
theorem wk_meet {O Oc : Nat → Prop} (a b mb kk0 : Nat) (T : Trl) (cv : Value) (c ms0 : List Int) (wo lv : Int) (w : World) (h : TrAt O w b T) (hc : IntsIn Oc w cv c) (hm : MapAt w mb kk0 (metF ms0)) (hnb : ¬ O mb) (hnc : ¬ Oc mb) (hkk : kk0 + c.length ≤ 140737488355328) :
    Calls Try.prog 48 #[.agg #[.pointer (some ⟨a, 0, none⟩), .pointer (some ⟨b, 0, none⟩), .map (some mb)], cv, .int .i64 wo, .int .i64 lv] w fun e w' => e = .returned (.int .i64 ((T.meetGo wo lv c ms0 0).2 : Nat)) ∧ (∃ kk, kk ≤ kk0 + c.length ∧ MapAt w' mb kk (metF (T.meetGo wo lv c ms0 0).1)) ∧ Kept (fun g => g = mb) w w' := by
  obtain ⟨wa, hwa⟩ : ∃ z, w.alloc (.cells #[.pointer (some ⟨a, 0, none⟩), .pointer (some ⟨b, 0, none⟩), .map (some mb)] 108) = z := ⟨_, rfl⟩
  have hba : Below w.heap.size w wa := by rw [← hwa]; exact mx_al _ _
  have hbn : wa.heap[w.heap.size]? = some (.cells #[.pointer (some ⟨a, 0, none⟩), .pointer (some ⟨b, 0, none⟩), .map (some mb)] 108 (0, 0)) := by rw [← hwa]; exact World.alloc_heap_new _ _
  have hmb := hm.lt
  have hnm : w.heap.size ≠ mb := by omega
  have HT := Lib.hid (h.below hba)
  have HCI := Lib.hid (hc.below hba)
  have HM0 := Lib.hid (hm.below hba)
  have HBA := Lib.hid hba
  have HBN := Lib.hid hbn
  have HWA := Lib.hid hwa
  have HNB := Lib.hid hnb
  have HNC := Lib.hid hnc
  have hzw : w.heap.size < wa.heap.size := heap_lt hbn
  obtain ⟨Ac, cc, rfl, hcc, _, _⟩ := hc
  clear hba h hm hwa hbn hnb hnc
  go_enter Try.func48, Try.ntmps48
  go_wp2_with (rw [HWA.out])
  go_loopw [15, 9] (fun i x wr => ∃ (k n kk : Nat) (ms : List Int), k ≤ c.length ∧ n ≤ k ∧ kk ≤ kk0 + k ∧ i = .int .i64 k ∧ x = .int .i64 n ∧ Hid (T.meetGo wo lv c ms0 0 = T.meetGo wo lv (c.drop k) ms n) ∧ Hid (Kept (fun g => g = mb) wa wr) ∧ Hid (MapAt wr mb kk (metF ms))) (fun i _ _ => c.length - (intOf i).toNat)
  case atStart => exact ⟨0, 0, kk0, ms0, Nat.zero_le _, Nat.le_refl _, Nat.le_refl _, rfl, rfl, Lib.hid rfl, Lib.hid (Kept.refl _ _), HM0⟩
  case round =>
    obtain ⟨k, n, kk, ms, hk, hnk, hkk2, rfl, rfl, HG, HW, HMP⟩ := hrel
    by_cases hlt : k < c.length
    · obtain ⟨l, hl⟩ := getElem_of hlt
      obtain ⟨A', c', hAc, _, _, hxs⟩ := HCI.out
      simp only [Value.slice.injEq, true_and] at hAc
      obtain ⟨rfl, rfl⟩ := hAc
      obtain ⟨g, o, rfl, hg, hgo, d0'⟩ := hxs k l hl
      have d0 : wr.cell? ⟨g, o + k, none⟩ = some (.int .i64 l) := (HW.out.cell (p := ⟨g, o + k, none⟩) hg (fun e => HNC.out (by rw [← e]; exact hgo))).trans d0'
      have d2 : wr.cell? ⟨w.heap.size, 2, none⟩ = some (.map (some mb)) := (HW.out.cell (p := ⟨w.heap.size, 2, none⟩) hzw hnm).trans (mx_cell (j := 2) HBN.out)
      have hdk : c.drop k = l :: c.drop (k + 1) := by
        rw [List.drop_eq_getElem_cons hlt]
        rw [List.getElem?_eq_getElem hlt] at hl
        rw [Option.some.inj hl]
      have hlv := litV_le l
      have hwx : (Lit.int .i64 (litV l : Nat)).wf = true := wf64 (by omega) (by omega)
      have HWX := Lib.hid hwx
      have hlk := HMP.out.lookup hwx
      have hz0 := metF_zero ms (litV l : Nat)
      clear hl d0' hgo hxs hwx
      by_cases hvw : (litV l : Int) ≠ wo
      · have q1 : ((litV l : Int) != wo) = true := by simpa using hvw
        cases hms : ms.contains (litV l : Int) with
        | false =>
          rw [hms] at hz0
          by_cases hle : T.level (litV l : Nat) = lv
          · have HMG := Lib.hid (show T.meetGo wo lv c ms0 0 = T.meetGo wo lv (c.drop (k + 1)) (ms ++ [(litV l : Int)]) (n + 1) from by
              rw [HG.out, hdk]
              exact (if_pos ⟨hvw, hms⟩).trans (by rw [if_pos hle]))
            have q3 : (T.level (litV l : Nat) == lv) = true := by simpa using hle
            clear hvw hms hle hdk
            go_wp2_with fail
            refine (lit_var l wr).mono ?_
            rintro e w2 ⟨rfl, rfl⟩
            go_wp2_with (at_mapUpdate; refine wpList_put HMP.out rfl _ _ _ rfl rfl (by unfold maxLen; omega) (litV l : Nat) 1 rfl rfl HWX.out rfl ?_; intro w4 hm4 hg4; have hk4 : Kept (fun g => g = mb) wa w4 := HW.out.trans (Kept.grown hg4) (fun i _ e => (Option.some.inj e)); have hm4' : MapAt w4 mb (kk + 1) (metF (ms ++ [(litV l : Int)])) := (by rw [← metF_put]; exact hm4); have HK4 := Lib.hid hk4; have HM4 := Lib.hid hm4'; have e0 : w4.cell? ⟨w.heap.size, 0, none⟩ = some (.pointer (some ⟨a, 0, none⟩)) := (hk4.cell (p := ⟨w.heap.size, 0, none⟩) hzw hnm).trans (mx_cell (j := 0) HBN.out); have e1 : w4.cell? ⟨w.heap.size, 1, none⟩ = some (.pointer (some ⟨b, 0, none⟩)) := (hk4.cell (p := ⟨w.heap.size, 1, none⟩) hzw hnm).trans (mx_cell (j := 1) HBN.out); have e2 : w4.cell? ⟨w.heap.size, 2, none⟩ = some (.map (some mb)) := (hk4.cell (p := ⟨w.heap.size, 2, none⟩) hzw hnm).trans (mx_cell (j := 2) HBN.out); have HL := Lib.hid (wk_level a b (some mb) T (litV l : Nat) w4 (HT.out.kept hk4 (fun g hg e => HNB.out (by rw [← e]; exact hg)))); clear hm4 hm4' hg4 hk4 hlk d2)
            refine HL.out.mono ?_
            rintro e w5 ⟨rfl, hb5⟩
            have HK5 := Lib.hid (HK4.out.trans (O := fun g => g = mb) (Kept.of_below (O := fun _ => False) hb5) (fun _ _ h => h.elim))
            have HM5 := Lib.hid (HM4.out.below hb5)
            clear hb5
            go_wp2_with fail
            go_roundw
            case rel => exact ⟨k + 1, n + 1, kk + 1, ms ++ [(litV l : Int)], by omega, by omega, by omega, by go_num, by go_num, HMG, HK5, HM5⟩
            case measure => simp [intOf]; omega
          · have HMG := Lib.hid (show T.meetGo wo lv c ms0 0 = T.meetGo wo lv (c.drop (k + 1)) (ms ++ [(litV l : Int)]) (n + 0) from by
              rw [HG.out, hdk]
              exact (if_pos ⟨hvw, hms⟩).trans (by rw [if_neg hle]))
            have q3 : (T.level (litV l : Nat) == lv) = false := by simpa using hle
            clear hvw hms hle hdk
            go_wp2_with fail
            refine (lit_var l wr).mono ?_
            rintro e w2 ⟨rfl, rfl⟩
            go_wp2_with (at_mapUpdate; refine wpList_put HMP.out rfl _ _ _ rfl rfl (by unfold maxLen; omega) (litV l : Nat) 1 rfl rfl HWX.out rfl ?_; intro w4 hm4 hg4; have hk4 : Kept (fun g => g = mb) wa w4 := HW.out.trans (Kept.grown hg4) (fun i _ e => (Option.some.inj e)); have hm4' : MapAt w4 mb (kk + 1) (metF (ms ++ [(litV l : Int)])) := (by rw [← metF_put]; exact hm4); have HK4 := Lib.hid hk4; have HM4 := Lib.hid hm4'; have e0 : w4.cell? ⟨w.heap.size, 0, none⟩ = some (.pointer (some ⟨a, 0, none⟩)) := (hk4.cell (p := ⟨w.heap.size, 0, none⟩) hzw hnm).trans (mx_cell (j := 0) HBN.out); have e1 : w4.cell? ⟨w.heap.size, 1, none⟩ = some (.pointer (some ⟨b, 0, none⟩)) := (hk4.cell (p := ⟨w.heap.size, 1, none⟩) hzw hnm).trans (mx_cell (j := 1) HBN.out); have e2 : w4.cell? ⟨w.heap.size, 2, none⟩ = some (.map (some mb)) := (hk4.cell (p := ⟨w.heap.size, 2, none⟩) hzw hnm).trans (mx_cell (j := 2) HBN.out); have HL := Lib.hid (wk_level a b (some mb) T (litV l : Nat) w4 (HT.out.kept hk4 (fun g hg e => HNB.out (by rw [← e]; exact hg)))); clear hm4 hm4' hg4 hk4 hlk d2)
            refine HL.out.mono ?_
            rintro e w5 ⟨rfl, hb5⟩
            have HK5 := Lib.hid (HK4.out.trans (O := fun g => g = mb) (Kept.of_below (O := fun _ => False) hb5) (fun _ _ h => h.elim))
            have HM5 := Lib.hid (HM4.out.below hb5)
            clear hb5
            go_wp2_with fail
            go_roundw
            case rel => exact ⟨k + 1, n + 0, kk + 1, ms ++ [(litV l : Int)], by omega, by omega, by omega, by go_num, by rfl, HMG, HK5, HM5⟩
            case measure => simp [intOf]; omega
        | true =>
          rw [hms] at hz0
          have HMG := Lib.hid (show T.meetGo wo lv c ms0 0 = T.meetGo wo lv (c.drop (k + 1)) ms n from by
            rw [HG.out, hdk]
            exact if_neg (fun h => by rw [hms] at h; exact absurd h.2 (by decide)))
          clear hvw hms hdk
          go_wp2_with fail
          refine (lit_var l wr).mono ?_
          rintro e w2 ⟨rfl, rfl⟩
          go_wp2_with fail
          go_roundw
          case rel => exact ⟨k + 1, n, kk, ms, by omega, by omega, by omega, by go_num, rfl, HMG, HW, HMP⟩
          case measure => simp [intOf]; omega
      · have q1 : ((litV l : Int) != wo) = false := by simpa using hvw
        have HMG := Lib.hid (show T.meetGo wo lv c ms0 0 = T.meetGo wo lv (c.drop (k + 1)) ms n from by
          rw [HG.out, hdk]
          exact if_neg (fun h => hvw h.1))
        have hms : True := trivial
        clear hvw hms hdk
        go_wp2_with fail
        refine (lit_var l wr).mono ?_
        rintro e w2 ⟨rfl, rfl⟩
        go_wp2_with fail
        go_roundw
        case rel => exact ⟨k + 1, n, kk, ms, by omega, by omega, by omega, by go_num, rfl, HMG, HW, HMP⟩
        case measure => simp [intOf]; omega
    · obtain rfl : k = c.length := by omega
      have hG := HG.out
      rw [List.drop_length] at hG
      have HN := Lib.hid (show T.meetGo wo lv c ms0 0 = (ms, n) from hG)
      clear hG
      go_wp2_with fail
      go_ret
      rw [HN.out]
      exact ⟨rfl, ⟨kk, hkk2, HMP.out⟩, (Kept.of_below HBA.out).trans (O := fun g => g = mb) HW.out (fun _ _ h => h)⟩
end Go.Proofs.Ytiodfolcnnkdjaa
