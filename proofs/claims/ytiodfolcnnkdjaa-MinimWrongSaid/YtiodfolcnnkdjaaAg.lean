/- analyze: level, fails. -/
import Derived.Test.YtiodfolcnnkdjaaAf
import Derived.Test.YtiodfolcnnkdjaaTe
namespace Go.Proofs.Ytiodfolcnnkdjaa
open Go.RowKit

theorem wk_level {O : Nat → Prop} (a b : Nat) (m : Option Nat) (T : Trl) (v : Int) (w : World) (h : TrAt O w b T) :
    Calls Try.prog 50 #[.agg #[.pointer (some ⟨a, 0, none⟩), .pointer (some ⟨b, 0, none⟩), .map m], .int .i64 v] w fun e w' => e = .returned (.int .i64 (T.level v)) ∧ Below w.heap.size w w' := by
  have hba := mx_al w (.cells #[.pointer (some ⟨a, 0, none⟩), .pointer (some ⟨b, 0, none⟩), .map m] 108)
  have HC := Lib.hid (tr_level b T v _ (h.below hba))
  have HBA := Lib.hid hba
  clear hba h
  go_enter Try.func50, Try.ntmps50
  go_wp2_with fail
  refine HC.out.mono ?_
  rintro e w' ⟨rfl, hb'⟩
  have HB' := Lib.hid (HBA.out.trans (hb'.mono HBA.out.size))
  clear hb'
  go_wp2_with fail
  go_ret
  exact ⟨rfl, HB'.out⟩
/-- the greatest level of literals that are all false -/
def Trl.failMax (T : Trl) : List Int → Int → Option Int
  | [], m => some m
  | l :: c, m => if 0 ≤ T.val l then none else T.failMax c (max m (T.level (litV l)))
theorem wk_fails_none {Oa : Nat → Prop} (a b : Nat) (m : Option Nat) (A : Arn) (id : Int) (w : World) (ha : ArAt Oa w a A) (hg : A.get id = none) :
    Calls Try.prog 47 #[.agg #[.pointer (some ⟨a, 0, none⟩), .pointer (some ⟨b, 0, none⟩), .map m], .int .i64 id] w fun e w' => e = .returned (.tuple #[.slice none 0 0, .int .i64 0, .int .i64 30]) ∧ Below w.heap.size w w' := by
  have hba := mx_al w (.cells #[.pointer (some ⟨a, 0, none⟩), .pointer (some ⟨b, 0, none⟩), .map m] 108)
  have HC := Lib.hid (ar_get_none a A id _ (ha.below hba) hg)
  have HBA := Lib.hid hba
  clear hba ha hg
  go_enter Try.func47, Try.ntmps47
  go_wp2_with fail
  refine HC.out.mono ?_
  rintro e w' ⟨rfl, hb'⟩
  have HB' := Lib.hid (HBA.out.trans (hb'.mono HBA.out.size))
  clear hb'
  go_wp2_with fail
  go_ret3
  exact ⟨rfl, HB'.out⟩
set_option maxRecDepth 100000 in
set_option maxHeartbeats 2000000 in
theorem wk_fails {O Oa : Nat → Prop} (a b : Nat) (m : Option Nat) (A : Arn) (T : Trl) (id : Int) (c : List Int) (w : World) (ha : ArAt Oa w a A) (h : TrAt O w b T) (hg : A.get id = some c) (hcl : c.length ≤ 4194304) :
    Calls Try.prog 47 #[.agg #[.pointer (some ⟨a, 0, none⟩), .pointer (some ⟨b, 0, none⟩), .map m], .int .i64 id] w fun e w' => ((∃ v n, T.failMax c 0 = some n ∧ e = .returned (.tuple #[v, .int .i64 n, .int .i64 0]) ∧ w'.ownsRow w.heap.size 26 1 v c.length (c.map (Value.int .i64))) ∨ (T.failMax c 0 = none ∧ e = .returned (.tuple #[.slice none 0 0, .int .i64 0, .int .i64 140]))) ∧ Below w.heap.size w w' := by
  obtain ⟨wa, hwa⟩ : ∃ z, w.alloc (.cells #[.pointer (some ⟨a, 0, none⟩), .pointer (some ⟨b, 0, none⟩), .map m] 108) = z := ⟨_, rfl⟩
  have hba : Below w.heap.size w wa := by rw [← hwa]; exact mx_al _ _
  have hbn : wa.heap[w.heap.size]? = some (.cells #[.pointer (some ⟨a, 0, none⟩), .pointer (some ⟨b, 0, none⟩), .map m] 108 (0, 0)) := by rw [← hwa]; exact World.alloc_heap_new _ _
  have HC := Lib.hid (ar_get a A id c wa (ha.below hba) hg)
  have HT := Lib.hid (h.below hba)
  have HBA := Lib.hid hba
  have e0 : wa.cell? ⟨w.heap.size, 0, none⟩ = some (.pointer (some ⟨a, 0, none⟩)) := mx_cell (j := 0) hbn
  have HBN := Lib.hid hbn
  have HWA := Lib.hid hwa
  have hzw : w.heap.size < wa.heap.size := heap_lt hbn
  clear hba ha hg h hwa hbn
  go_enter Try.func47, Try.ntmps47
  go_wp2_with (rw [HWA.out])
  refine HC.out.mono ?_
  rintro e w1 ⟨v, rfl, hown, hb1⟩
  obtain ⟨Av, cv, rfl, hcv⟩ := mx_slice hown
  have HOW := Lib.hid hown
  have HB1 := Lib.hid hb1
  have hz1 := hb1.size
  clear hown hb1 HC
  go_wp2_with fail
  go_loopw [24, 9] (fun i n wr => ∃ (k : Nat) (x : Int), k ≤ c.length ∧ i = .int .i64 k ∧ n = .int .i64 x ∧ Hid (T.failMax c 0 = T.failMax (c.drop k) x) ∧ Hid (Below w1.heap.size w1 wr)) (fun i _ _ => c.length - (intOf i).toNat)
  case atStart => exact ⟨0, 0, Nat.zero_le _, rfl, rfl, Lib.hid rfl, Lib.hid (Below.refl _ _)⟩
  case round =>
    obtain ⟨k, x, hk, rfl, rfl, HF, HW⟩ := hrel
    by_cases hlt : k < c.length
    · obtain ⟨l, hl⟩ := getElem_of hlt
      obtain ⟨gv, cv', cs0, hvv, _, hgb, hgl, _⟩ := mx_some HOW.out (by omega)
      simp only [Value.slice.injEq] at hvv
      obtain ⟨rfl, _, rfl⟩ := hvv
      have d0 : wr.cell? ⟨gv, k, none⟩ = some (.int .i64 l) := (HW.out.cell (p := ⟨gv, k, none⟩) hgl).trans (mx_at HOW.out (by rw [List.getElem?_map, hl]; rfl))
      have hbr := HB1.out.trans (HW.out.mono hz1)
      have hbk := (hbr.block w.heap.size hzw).trans HBN.out
      have d1 : wr.cell? ⟨w.heap.size, 1, none⟩ = some (.pointer (some ⟨b, 0, none⟩)) := mx_cell (j := 1) hbk
      have hdk : c.drop k = l :: c.drop (k + 1) := by
        rw [List.drop_eq_getElem_cons hlt]
        rw [List.getElem?_eq_getElem hlt] at hl
        rw [Option.some.inj hl]
      have hTr := HT.out.below hbr
      have HV := Lib.hid (tr_value b T l wr hTr)
      have HTR := Lib.hid hTr
      have HBK := Lib.hid hbk
      have hzr := hbr.size
      clear hl hbr hbk hTr
      by_cases hv : 0 ≤ T.val l
      · have q0 : decide (0 ≤ T.val l) = true := by simpa using hv
        have HN := Lib.hid (show T.failMax c 0 = none from by rw [HF.out, hdk]; exact if_pos hv)
        clear hv hdk
        go_wp2_with fail
        refine HV.out.mono ?_
        rintro e w2 ⟨rfl, hb2⟩
        have HB2 := Lib.hid (HW.out.trans (hb2.mono HW.out.size))
        clear hb2
        go_wp2_with fail
        go_ret3
        exact ⟨.inr ⟨HN.out, rfl⟩, HBA.out.trans ((HB1.out.trans (HB2.out.mono hz1)).mono HBA.out.size)⟩
      · have q0 : decide (0 ≤ T.val l) = false := by simpa using hv
        have HN := Lib.hid (show T.failMax c 0 = T.failMax (c.drop (k + 1)) (max x (T.level (litV l))) from by rw [HF.out, hdk]; exact if_neg hv)
        clear hv hdk
        have d2 : wr.cell? ⟨w.heap.size, 0, none⟩ = some (.pointer (some ⟨a, 0, none⟩)) := mx_cell (j := 0) HBK.out
        have d3 : wr.cell? ⟨w.heap.size, 2, none⟩ = some (.map m) := mx_cell (j := 2) HBK.out
        go_wp2_with fail
        refine HV.out.mono ?_
        rintro e w2 ⟨rfl, hb2⟩
        have HB2 := Lib.hid (HW.out.trans (hb2.mono HW.out.size))
        have hz2 := hb2.size
        replace d1 := (hb2.cell (p := ⟨w.heap.size, 1, none⟩) (show w.heap.size < wr.heap.size by omega)).trans d1
        replace d2 := (hb2.cell (p := ⟨w.heap.size, 0, none⟩) (show w.heap.size < wr.heap.size by omega)).trans d2
        replace d3 := (hb2.cell (p := ⟨w.heap.size, 2, none⟩) (show w.heap.size < wr.heap.size by omega)).trans d3
        have HTR2 := Lib.hid (HTR.out.below hb2)
        clear hb2 d0
        go_upto_region 10 with fail
        refine wp_region_held_drew (S := fun w' => w'.cell? ⟨w.heap.size, 0, none⟩ = some (.pointer (some ⟨a, 0, none⟩)) ∧ w'.cell? ⟨w.heap.size, 1, none⟩ = some (.pointer (some ⟨b, 0, none⟩)) ∧ w'.cell? ⟨w.heap.size, 2, none⟩ = some (.map m)) (by kernel_rfl) ⟨d2, d1, d3⟩ (fun hHeld => ?_)
        have hbD := mx_drew w2
        obtain ⟨wD, hwD⟩ : ∃ x, w2.drew = x := ⟨_, rfl⟩
        rw [hwD] at hHeld hbD ⊢
        have HBD := Lib.hid (HB2.out.trans (hbD.mono (HB2.out.size)))
        have HTD := Lib.hid (HTR2.out.below hbD)
        have hzD := hbD.size
        clear hwD hbD d1 d2 d3
        refine takeD 0 33 (v := ?_) rfl (by rfl) (by kernel_rfl) (by kernel_rfl) (by kernel_rfl) (fun _ _ _ h => h) (Or.inl ⟨by rfl, ?_⟩) (by assumption) ?_
        rotate_left
        · intro w hSw
          obtain ⟨_, _, _⟩ := hSw
          go_simp
          try with_reducible rfl
        simp only [Act.put, List.setIfInBounds_toArray, List.set_cons_zero, List.set_cons_succ]
        refine takeD 1 34 (v := ?_) rfl (by rfl) (by kernel_rfl) (by kernel_rfl) (by kernel_rfl) (fun _ _ _ h => h) (Or.inl ⟨by rfl, ?_⟩) (by assumption) ?_
        rotate_left
        · intro w hSw
          obtain ⟨_, _, _⟩ := hSw
          go_simp
          try with_reducible rfl
        simp only [Act.put, List.setIfInBounds_toArray, List.set_cons_zero, List.set_cons_succ]
        refine takeD 2 35 (v := ?_) rfl (by rfl) (by kernel_rfl) (by kernel_rfl) (by kernel_rfl) (fun _ _ _ h => h) (Or.inl ⟨by rfl, ?_⟩) (by assumption) ?_
        rotate_left
        · intro w hSw
          obtain ⟨_, _, _⟩ := hSw
          go_simp
          try with_reducible rfl
        simp only [Act.put, List.setIfInBounds_toArray, List.set_cons_zero, List.set_cons_succ]
        refine wpAnyH_ready (rs := [3]) (by kernel_rfl) (by simp) ?_
        refine AllReadyH.cons rfl (fun K hK => ?_) AllReadyH.nil
        go_simp
        refine (lit_var l wD).mono ?_
        rintro e w' ⟨rfl, rfl⟩
        refine hK.out _ _ hHeld (fun hHeld1 => ?_)
        clear hK hHeld1
        refine wpAnyH_ready (rs := [4]) (by kernel_rfl) (by simp) ?_
        refine AllReadyH.cons rfl (fun K hK => ?_) AllReadyH.nil
        go_simp
        refine (wk_level a b m T (litV l : Nat) wD HTD.out).mono ?_
        rintro e w3 ⟨rfl, hb3⟩
        obtain ⟨y, hy⟩ : ∃ y, T.level (litV l : Nat) = y := ⟨_, rfl⟩
        rw [hy] at HN ⊢
        have hzW : w.heap.size < wD.heap.size := by omega
        have hH3 := hHeld
        obtain ⟨u0, u1, u2⟩ := hH3
        have hHeld3 : w3.cell? ⟨w.heap.size, 0, none⟩ = some (.pointer (some ⟨a, 0, none⟩)) ∧ w3.cell? ⟨w.heap.size, 1, none⟩ = some (.pointer (some ⟨b, 0, none⟩)) ∧ w3.cell? ⟨w.heap.size, 2, none⟩ = some (.map m) := ⟨(hb3.cell (p := ⟨w.heap.size, 0, none⟩) hzW).trans u0, (hb3.cell (p := ⟨w.heap.size, 1, none⟩) hzW).trans u1, (hb3.cell (p := ⟨w.heap.size, 2, none⟩) hzW).trans u2⟩
        refine hK.out _ _ hHeld3 (fun hHeld1 => ?_)
        have HB3 := Lib.hid (HBD.out.trans (hb3.mono HBD.out.size))
        clear hK hHeld1 hHeld hb3 u0 u1 u2
        refine takeD 5 38 (v := ?_) rfl (by rfl) (by kernel_rfl) (by kernel_rfl) (by kernel_rfl) (fun _ _ _ h => h) (Or.inl ⟨by rfl, ?_⟩) (by assumption) ?_
        rotate_left
        · intro w hSw
          obtain ⟨_, _, _⟩ := hSw
          go_simp
          try with_reducible rfl
        simp only [Act.put, List.setIfInBounds_toArray, List.set_cons_zero, List.set_cons_succ]
        refine takeD 6 9 (v := ?_) rfl (by rfl) (by kernel_rfl) (by kernel_rfl) (by kernel_rfl) (fun _ _ _ h => h) (Or.inl ⟨by rfl, ?_⟩) (by assumption) ?_
        rotate_left
        · intro w hSw
          obtain ⟨_, _, _⟩ := hSw
          go_simp
          try with_reducible rfl
        simp only [Act.put, List.setIfInBounds_toArray, List.set_cons_zero, List.set_cons_succ]
        refine wpAnyH_done (by kernel_rfl) ?_ _
        go_wp2_with fail
        go_roundw
        case rel => exact ⟨k + 1, max x y, by omega, by go_num, by first | rfl | (congr 1; omega), HN, HB3⟩
        case measure => simp [intOf]; omega
    · obtain rfl : k = c.length := by omega
      have HN := Lib.hid (show T.failMax c 0 = some x from by rw [HF.out, List.drop_length]; rfl)
      go_wp2_with fail
      go_ret3
      exact ⟨.inl ⟨_, _, HN.out, rfl, own_mono (own_kept HOW.out (Kept.of_below (O := fun _ => False) HW.out) (fun _ _ h => h)) HBA.out.size⟩, HBA.out.trans ((HB1.out.trans (HW.out.mono hz1)).mono HBA.out.size)⟩
end Go.Proofs.Ytiodfolcnnkdjaa
