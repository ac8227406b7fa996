/- analyze: right. -/
import Derived.Test.YtiodfolcnnkdjaaAh
namespace Go.Proofs.Ytiodfolcnnkdjaa
open Go.RowKit

/-- all literals but one are false, and were so before a place -/
def Trl.before (T : Trl) (l at_ : Int) : List Int → Bool
  | [] => true
  | x :: c => if x ≠ l ∧ (0 ≤ T.val x ∨ at_ ≤ T.place (litV x : Nat)) then false else T.before l at_ c
/-- the reason of a literal that is true -/
def rightP (A : Arn) (T : Trl) (l : Int) : Option (Int × List Int) := match A.get (T.reason (litV l : Nat)) with
  | none => none
  | some c => if (T.why (litV l : Nat)).isSome = true ∧ c.contains l = true ∧ T.before l (T.place (litV l : Nat)) c = true then some (T.reason (litV l : Nat), c) else none
theorem rightP_some {A : Arn} {T : Trl} {l r : Int} {c : List Int} (hr : T.reason (litV l : Nat) = r) (hg : A.get r = some c) : rightP A T l = if (T.why (litV l : Nat)).isSome = true ∧ c.contains l = true ∧ T.before l (T.place (litV l : Nat)) c = true then some (r, c) else none := by
  unfold rightP
  rw [hr, hg]
set_option maxRecDepth 100000 in
set_option maxHeartbeats 4000000 in
theorem wk_right {O Oa : Nat → Prop} (a b : Nat) (m : Option Nat) (A : Arn) (T : Trl) (l : Int) (w : World) (ha : ArAt Oa w a A) (h : TrAt O w b T) (hlen : ∀ id c, A.get id = some c → c.length ≤ 4194304) :
    Calls Try.prog 53 #[.agg #[.pointer (some ⟨a, 0, none⟩), .pointer (some ⟨b, 0, none⟩), .map m], .int .i64 l] w fun e w' => ((∃ id c v, rightP A T l = some (id, c) ∧ e = .returned (.tuple #[.int .i64 id, v, .bool true]) ∧ w'.ownsRow w.heap.size 26 1 v c.length (c.map (Value.int .i64))) ∨ (rightP A T l = none ∧ e = .returned (.tuple #[.int .i64 0, .slice none 0 0, .bool false]))) ∧ Below w.heap.size w w' := by
  obtain ⟨wa, hwa⟩ : ∃ z, w.alloc (.cells #[.pointer (some ⟨a, 0, none⟩), .pointer (some ⟨b, 0, none⟩), .map m] 108) = z := ⟨_, rfl⟩
  have hba : Below w.heap.size w wa := by rw [← hwa]; exact mx_al _ _
  have hbn : wa.heap[w.heap.size]? = some (.cells #[.pointer (some ⟨a, 0, none⟩), .pointer (some ⟨b, 0, none⟩), .map m] 108 (0, 0)) := by rw [← hwa]; exact World.alloc_heap_new _ _
  have HAR := Lib.hid (ha.below hba)
  have HT := Lib.hid (h.below hba)
  have HBA := Lib.hid hba
  have HBN := Lib.hid hbn
  have HWA := Lib.hid hwa
  have HLEN := Lib.hid hlen
  have HB0 := Lib.hid (Below.refl wa.heap.size wa)
  have hzw : w.heap.size < wa.heap.size := heap_lt hbn
  clear hba ha h hwa hbn hlen
  go_enter Try.func53, Try.ntmps53
  go_wp2_with (rw [HWA.out])
  obtain ⟨r, hr⟩ : ∃ r, T.reason (litV l : Nat) = r := ⟨_, rfl⟩
  obtain ⟨p, hp⟩ : ∃ p, T.place (litV l : Nat) = p := ⟨_, rfl⟩
  obtain ⟨th, hth⟩ : ∃ t, (T.why (litV l : Nat)).isSome = t := ⟨_, rfl⟩
  have HRR := Lib.hid hr
  have HPP := Lib.hid hp
  have HTH := Lib.hid hth
  clear hr hp hth
  go_upto_region 1 with fail
  refine wp_region_held_drew (S := fun w' => w'.cell? ⟨w.heap.size, 1, none⟩ = some (.pointer (some ⟨b, 0, none⟩))) (by kernel_rfl) (((HB0.out.cell (p := ⟨w.heap.size, 1, none⟩) hzw)).trans (mx_cell (j := 1) HBN.out)) (fun hHeld => ?_)
  have hbD := mx_drew wa
  obtain ⟨wD, hwD⟩ : ∃ x, (wa).drew = x := ⟨_, rfl⟩
  rw [hwD] at hHeld hbD ⊢
  have HBD := Lib.hid (HB0.out.trans (hbD.mono HB0.out.size))
  have hCALL := tr_reason b T (litV l : Nat) wD (HT.out.below HBD.out)
  rw [HRR.out, HTH.out] at hCALL
  have HCALL := Lib.hid hCALL
  clear hwD hbD hCALL
  refine takeD 0 18 (v := ?_) rfl (by rfl) (by kernel_rfl) (by kernel_rfl) (by kernel_rfl) (fun _ _ _ h => h) (Or.inl ⟨by rfl, ?_⟩) (by assumption) ?_
  rotate_left
  · intro w hSw
    have _h := hSw
    go_simp
    try with_reducible rfl
  simp only [Act.put, List.setIfInBounds_toArray, List.set_cons_zero, List.set_cons_succ]
  refine takeD 1 19 (v := ?_) rfl (by rfl) (by kernel_rfl) (by kernel_rfl) (by kernel_rfl) (fun _ _ _ h => h) (Or.inl ⟨by rfl, ?_⟩) (by assumption) ?_
  rotate_left
  · intro w hSw
    have _h := hSw
    go_simp
    try with_reducible rfl
  simp only [Act.put, List.setIfInBounds_toArray, List.set_cons_zero, List.set_cons_succ]
  refine takeD 2 20 (v := ?_) rfl (by rfl) (by kernel_rfl) (by kernel_rfl) (by kernel_rfl) (fun _ _ _ h => h) (Or.inl ⟨by rfl, ?_⟩) (by assumption) ?_
  rotate_left
  · intro w hSw
    have _h := hSw
    go_simp
    try with_reducible rfl
  simp only [Act.put, List.setIfInBounds_toArray, List.set_cons_zero, List.set_cons_succ]
  refine wpAnyH_ready (rs := [3]) (by kernel_rfl) (by simp) ?_
  refine AllReadyH.cons rfl (fun K hK => ?_) AllReadyH.nil
  go_simp
  refine (lit_var l wD).mono ?_
  rintro e w' ⟨rfl, rfl⟩
  refine hK.out _ _ hHeld (fun hHeld1 => ?_)
  clear hK hHeld1
  refine wpAnyH_ready (rs := [4]) (by kernel_rfl) (by simp) ?_
  refine AllReadyH.cons rfl (fun K hK => ?_) AllReadyH.nil
  go_simp
  refine HCALL.out.mono ?_
  rintro e w3 ⟨rfl, hb3⟩
  have hHeld3 : (w3).cell? ⟨w.heap.size, 1, none⟩ = some (.pointer (some ⟨b, 0, none⟩)) := (hb3.cell (p := ⟨w.heap.size, 1, none⟩) (Nat.lt_of_lt_of_le hzw HBD.out.size)).trans hHeld
  refine hK.out _ _ hHeld3 (fun hHeld1 => ?_)
  have HB3 := Lib.hid (HBD.out.trans (hb3.mono HBD.out.size))
  clear hK hHeld1 hHeld hb3 HCALL HBD
  refine takeD 5 17 (v := ?_) rfl (by rfl) (by kernel_rfl) (by kernel_rfl) (by kernel_rfl) (fun _ _ _ h => h) (Or.inl ⟨by rfl, ?_⟩) (by assumption) ?_
  rotate_left
  · intro w hSw
    have _h := hSw
    go_simp
    try with_reducible rfl
  simp only [Act.put, List.setIfInBounds_toArray, List.set_cons_zero, List.set_cons_succ]
  refine takeD 6 23 (v := ?_) rfl (by rfl) (by kernel_rfl) (by kernel_rfl) (by kernel_rfl) (fun _ _ _ h => h) (Or.inl ⟨by rfl, ?_⟩) (by assumption) ?_
  rotate_left
  · intro w hSw
    have _h := hSw
    go_simp
    try with_reducible rfl
  simp only [Act.put, List.setIfInBounds_toArray, List.set_cons_zero, List.set_cons_succ]
  refine takeD 7 24 (v := ?_) rfl (by rfl) (by kernel_rfl) (by kernel_rfl) (by kernel_rfl) (fun _ _ _ h => h) (Or.inl ⟨by rfl, ?_⟩) (by assumption) ?_
  rotate_left
  · intro w hSw
    have _h := hSw
    go_simp
    try with_reducible rfl
  simp only [Act.put, List.setIfInBounds_toArray, List.set_cons_zero, List.set_cons_succ]
  refine takeD 8 7 (v := ?_) rfl (by rfl) (by kernel_rfl) (by kernel_rfl) (by kernel_rfl) (fun _ _ _ h => h) (Or.inl ⟨by rfl, ?_⟩) (by assumption) ?_
  rotate_left
  · intro w hSw
    have _h := hSw
    go_simp
    try with_reducible rfl
  simp only [Act.put, List.setIfInBounds_toArray, List.set_cons_zero, List.set_cons_succ]
  refine takeD 9 8 (v := ?_) rfl (by rfl) (by kernel_rfl) (by kernel_rfl) (by kernel_rfl) (fun _ _ _ h => h) (Or.inl ⟨by rfl, ?_⟩) (by assumption) ?_
  rotate_left
  · intro w hSw
    have _h := hSw
    go_simp
    try with_reducible rfl
  simp only [Act.put, List.setIfInBounds_toArray, List.set_cons_zero, List.set_cons_succ]
  refine wpAnyH_done (by kernel_rfl) ?_ _
  clear hHeld3
  go_upto_region 2 with fail
  refine wp_region_held_drew (S := fun w' => w'.cell? ⟨w.heap.size, 1, none⟩ = some (.pointer (some ⟨b, 0, none⟩))) (by kernel_rfl) (((HB3.out.cell (p := ⟨w.heap.size, 1, none⟩) hzw)).trans (mx_cell (j := 1) HBN.out)) (fun hHeld => ?_)
  have hbD := mx_drew w3
  obtain ⟨wD, hwD⟩ : ∃ x, (w3).drew = x := ⟨_, rfl⟩
  rw [hwD] at hHeld hbD ⊢
  have HBD := Lib.hid (HB3.out.trans (hbD.mono HB3.out.size))
  have hCALL := tr_place b T (litV l : Nat) wD (HT.out.below HBD.out)
  rw [HPP.out, HTH.out] at hCALL
  have HCALL := Lib.hid hCALL
  clear hwD hbD hCALL
  refine takeD 0 26 (v := ?_) rfl (by rfl) (by kernel_rfl) (by kernel_rfl) (by kernel_rfl) (fun _ _ _ h => h) (Or.inl ⟨by rfl, ?_⟩) (by assumption) ?_
  rotate_left
  · intro w hSw
    have _h := hSw
    go_simp
    try with_reducible rfl
  simp only [Act.put, List.setIfInBounds_toArray, List.set_cons_zero, List.set_cons_succ]
  refine takeD 1 27 (v := ?_) rfl (by rfl) (by kernel_rfl) (by kernel_rfl) (by kernel_rfl) (fun _ _ _ h => h) (Or.inl ⟨by rfl, ?_⟩) (by assumption) ?_
  rotate_left
  · intro w hSw
    have _h := hSw
    go_simp
    try with_reducible rfl
  simp only [Act.put, List.setIfInBounds_toArray, List.set_cons_zero, List.set_cons_succ]
  refine takeD 2 28 (v := ?_) rfl (by rfl) (by kernel_rfl) (by kernel_rfl) (by kernel_rfl) (fun _ _ _ h => h) (Or.inl ⟨by rfl, ?_⟩) (by assumption) ?_
  rotate_left
  · intro w hSw
    have _h := hSw
    go_simp
    try with_reducible rfl
  simp only [Act.put, List.setIfInBounds_toArray, List.set_cons_zero, List.set_cons_succ]
  refine wpAnyH_ready (rs := [3]) (by kernel_rfl) (by simp) ?_
  refine AllReadyH.cons rfl (fun K hK => ?_) AllReadyH.nil
  go_simp
  refine (lit_var l wD).mono ?_
  rintro e w' ⟨rfl, rfl⟩
  refine hK.out _ _ hHeld (fun hHeld1 => ?_)
  clear hK hHeld1
  refine wpAnyH_ready (rs := [4]) (by kernel_rfl) (by simp) ?_
  refine AllReadyH.cons rfl (fun K hK => ?_) AllReadyH.nil
  go_simp
  refine HCALL.out.mono ?_
  rintro e w4 ⟨rfl, hb3⟩
  have hHeld3 : (w4).cell? ⟨w.heap.size, 1, none⟩ = some (.pointer (some ⟨b, 0, none⟩)) := (hb3.cell (p := ⟨w.heap.size, 1, none⟩) (Nat.lt_of_lt_of_le hzw HBD.out.size)).trans hHeld
  refine hK.out _ _ hHeld3 (fun hHeld1 => ?_)
  have HB4 := Lib.hid (HBD.out.trans (hb3.mono HBD.out.size))
  clear hK hHeld1 hHeld hb3 HCALL HBD
  refine takeD 5 25 (v := ?_) rfl (by rfl) (by kernel_rfl) (by kernel_rfl) (by kernel_rfl) (fun _ _ _ h => h) (Or.inl ⟨by rfl, ?_⟩) (by assumption) ?_
  rotate_left
  · intro w hSw
    have _h := hSw
    go_simp
    try with_reducible rfl
  simp only [Act.put, List.setIfInBounds_toArray, List.set_cons_zero, List.set_cons_succ]
  refine takeD 6 31 (v := ?_) rfl (by rfl) (by kernel_rfl) (by kernel_rfl) (by kernel_rfl) (fun _ _ _ h => h) (Or.inl ⟨by rfl, ?_⟩) (by assumption) ?_
  rotate_left
  · intro w hSw
    have _h := hSw
    go_simp
    try with_reducible rfl
  simp only [Act.put, List.setIfInBounds_toArray, List.set_cons_zero, List.set_cons_succ]
  refine takeD 7 32 (v := ?_) rfl (by rfl) (by kernel_rfl) (by kernel_rfl) (by kernel_rfl) (fun _ _ _ h => h) (Or.inl ⟨by rfl, ?_⟩) (by assumption) ?_
  rotate_left
  · intro w hSw
    have _h := hSw
    go_simp
    try with_reducible rfl
  simp only [Act.put, List.setIfInBounds_toArray, List.set_cons_zero, List.set_cons_succ]
  refine takeD 8 9 (v := ?_) rfl (by rfl) (by kernel_rfl) (by kernel_rfl) (by kernel_rfl) (fun _ _ _ h => h) (Or.inl ⟨by rfl, ?_⟩) (by assumption) ?_
  rotate_left
  · intro w hSw
    have _h := hSw
    go_simp
    try with_reducible rfl
  simp only [Act.put, List.setIfInBounds_toArray, List.set_cons_zero, List.set_cons_succ]
  refine takeD 9 10 (v := ?_) rfl (by rfl) (by kernel_rfl) (by kernel_rfl) (by kernel_rfl) (fun _ _ _ h => h) (Or.inl ⟨by rfl, ?_⟩) (by assumption) ?_
  rotate_left
  · intro w hSw
    have _h := hSw
    go_simp
    try with_reducible rfl
  simp only [Act.put, List.setIfInBounds_toArray, List.set_cons_zero, List.set_cons_succ]
  refine wpAnyH_done (by kernel_rfl) ?_ _
  clear hHeld3
  have d0 : w4.cell? ⟨w.heap.size, 0, none⟩ = some (.pointer (some ⟨a, 0, none⟩)) := (HB4.out.cell (p := ⟨w.heap.size, 0, none⟩) hzw).trans (mx_cell (j := 0) HBN.out)
  rcases hg : A.get r with _ | c
  · have HN := Lib.hid (show rightP A T l = none from by unfold rightP; rw [HRR.out, hg])
    have HG := Lib.hid (ar_get_none a A r w4 (HAR.out.below HB4.out) hg)
    clear hg
    go_wp2_with fail
    refine HG.out.mono ?_
    rintro e w5 ⟨rfl, hb5⟩
    have HB5 := Lib.hid (HB4.out.trans (hb5.mono HB4.out.size))
    clear hb5 d0 HB3
    cases th
    · go_wp2_with fail
      go_ret3
      exact ⟨.inr ⟨HN.out, rfl⟩, HBA.out.trans (HB5.out.mono HBA.out.size)⟩
    · go_wp2_with fail
      go_ret3
      exact ⟨.inr ⟨HN.out, rfl⟩, HBA.out.trans (HB5.out.mono HBA.out.size)⟩
  · have HRP := Lib.hid (rightP_some HRR.out hg)
    have hcl := HLEN.out r c hg
    have HG := Lib.hid (ar_get a A r c w4 (HAR.out.below HB4.out) hg)
    clear hg
    go_wp2_with fail
    refine HG.out.mono ?_
    rintro e w5 ⟨v, rfl, hown, hb5⟩
    obtain ⟨Av, cv, rfl, hcv⟩ := mx_slice hown
    have HB5 := Lib.hid (HB4.out.trans (hb5.mono HB4.out.size))
    have hcn := contains_c _ c l w5 (IntsIn.of_own (hown)) (by omega)
    have HOW := Lib.hid (own_mono hown (Nat.le_of_lt (Nat.lt_of_lt_of_le hzw HB4.out.size)))
    clear hb5 d0 HB3 HG hown
    cases th
    · have HN := Lib.hid (show rightP A T l = none from by rw [HRP.out]; exact if_neg (fun h => by rw [HTH.out] at h; cases h.1))
      go_wp2_with fail
      go_ret3
      exact ⟨.inr ⟨HN.out, rfl⟩, HBA.out.trans (HB5.out.mono HBA.out.size)⟩
    · cases hco : c.contains l with
      | false =>
        have HN := Lib.hid (show rightP A T l = none from by rw [HRP.out]; exact if_neg (fun h => by rw [hco] at h; cases h.2.1))
        rw [hco] at hcn
        have HCN := Lib.hid hcn
        clear hcn hco
        go_wp2_with fail
        refine HCN.out.mono ?_
        rintro e w6 ⟨rfl, rfl⟩
        go_wp2_with fail
        go_ret3
        exact ⟨.inr ⟨HN.out, rfl⟩, HBA.out.trans (HB5.out.mono HBA.out.size)⟩
      | true =>
        have HRQ := Lib.hid (show rightP A T l = if T.before l p c = true then some (r, c) else none from by
          rw [HRP.out, HTH.out, HPP.out, hco]
          simp)
        rw [hco] at hcn
        have HCN := Lib.hid hcn
        clear hcn hco
        go_wp2_with fail
        refine HCN.out.mono ?_
        rintro e w6 ⟨rfl, rfl⟩
        go_wp2_with fail
        have hz5 := HB5.out.size
        go_loopw [54] (fun i wr => ∃ (k : Nat), k ≤ c.length ∧ i = .int .i64 k ∧ Hid (T.before l p c = T.before l p (c.drop k)) ∧ Hid (Below w5.heap.size w5 wr)) (fun i _ => c.length - (intOf i).toNat)
        case atStart => exact ⟨0, Nat.zero_le _, rfl, Lib.hid rfl, Lib.hid (Below.refl _ _)⟩
        case round =>
          obtain ⟨k, hk, rfl, HF, HW⟩ := hrel
          by_cases hlt : k < c.length
          · obtain ⟨x, hx⟩ := getElem_of hlt
            obtain ⟨gv, cv', cs0, hvv, _, hgb, hgl, _⟩ := mx_some HOW.out (by omega)
            simp only [Value.slice.injEq] at hvv
            obtain ⟨rfl, _, rfl⟩ := hvv
            have d0 : wr.cell? ⟨gv, k, none⟩ = some (.int .i64 x) := (HW.out.cell (p := ⟨gv, k, none⟩) hgl).trans (mx_at HOW.out (by rw [List.getElem?_map, hx]; rfl))
            have hdk : c.drop k = x :: c.drop (k + 1) := by
              rw [List.drop_eq_getElem_cons hlt]
              rw [List.getElem?_eq_getElem hlt] at hx
              rw [Option.some.inj hx]
            have HBR := Lib.hid (HB5.out.trans (HW.out.mono hz5))
            have HDK := Lib.hid hdk
            obtain ⟨px, hpx⟩ : ∃ p, T.place (litV x : Nat) = p := ⟨_, rfl⟩
            obtain ⟨tx, htx⟩ : ∃ t, (T.why (litV x : Nat)).isSome = t := ⟨_, rfl⟩
            have HPX := Lib.hid hpx
            have HTX := Lib.hid htx
            clear hx hdk hpx htx
            go_upto_region 9 with fail
            refine wp_region_held_drew (S := fun w' => w'.cell? ⟨w.heap.size, 1, none⟩ = some (.pointer (some ⟨b, 0, none⟩))) (by kernel_rfl) (((HBR.out.cell (p := ⟨w.heap.size, 1, none⟩) hzw)).trans (mx_cell (j := 1) HBN.out)) (fun hHeld => ?_)
            have hbD := mx_drew wr
            obtain ⟨wD, hwD⟩ : ∃ x, (wr).drew = x := ⟨_, rfl⟩
            rw [hwD] at hHeld hbD ⊢
            have HBD := Lib.hid (HBR.out.trans (hbD.mono HBR.out.size))
            have HWD := Lib.hid (HW.out.trans (hbD.mono HW.out.size))
            have hCALL := tr_place b T (litV x : Nat) wD (HT.out.below HBD.out)
            rw [HPX.out, HTX.out] at hCALL
            have HCALL := Lib.hid hCALL
            clear hwD hbD hCALL
            refine takeD 0 59 (v := ?_) rfl (by rfl) (by kernel_rfl) (by kernel_rfl) (by kernel_rfl) (fun _ _ _ h => h) (Or.inl ⟨by rfl, ?_⟩) (by assumption) ?_
            rotate_left
            · intro w hSw
              have _h := hSw
              go_simp
              try with_reducible rfl
            simp only [Act.put, List.setIfInBounds_toArray, List.set_cons_zero, List.set_cons_succ]
            refine takeD 1 60 (v := ?_) rfl (by rfl) (by kernel_rfl) (by kernel_rfl) (by kernel_rfl) (fun _ _ _ h => h) (Or.inl ⟨by rfl, ?_⟩) (by assumption) ?_
            rotate_left
            · intro w hSw
              have _h := hSw
              go_simp
              try with_reducible rfl
            simp only [Act.put, List.setIfInBounds_toArray, List.set_cons_zero, List.set_cons_succ]
            refine takeD 2 61 (v := ?_) rfl (by rfl) (by kernel_rfl) (by kernel_rfl) (by kernel_rfl) (fun _ _ _ h => h) (Or.inl ⟨by rfl, ?_⟩) (by assumption) ?_
            rotate_left
            · intro w hSw
              have _h := hSw
              go_simp
              try with_reducible rfl
            simp only [Act.put, List.setIfInBounds_toArray, List.set_cons_zero, List.set_cons_succ]
            refine wpAnyH_ready (rs := [3]) (by kernel_rfl) (by simp) ?_
            refine AllReadyH.cons rfl (fun K hK => ?_) AllReadyH.nil
            go_simp
            refine (lit_var x wD).mono ?_
            rintro e w' ⟨rfl, rfl⟩
            refine hK.out _ _ hHeld (fun hHeld1 => ?_)
            clear hK hHeld1
            refine wpAnyH_ready (rs := [4]) (by kernel_rfl) (by simp) ?_
            refine AllReadyH.cons rfl (fun K hK => ?_) AllReadyH.nil
            go_simp
            refine HCALL.out.mono ?_
            rintro e w7 ⟨rfl, hb3⟩
            have hHeld3 : (w7).cell? ⟨w.heap.size, 1, none⟩ = some (.pointer (some ⟨b, 0, none⟩)) := (hb3.cell (p := ⟨w.heap.size, 1, none⟩) (Nat.lt_of_lt_of_le hzw HBD.out.size)).trans hHeld
            refine hK.out _ _ hHeld3 (fun hHeld1 => ?_)
            have HB7 := Lib.hid (HBD.out.trans (hb3.mono HBD.out.size))
            have HW7 := Lib.hid (HWD.out.trans (hb3.mono HWD.out.size))
            clear hK hHeld1 hHeld hb3 HCALL HBD
            refine takeD 5 58 (v := ?_) rfl (by rfl) (by kernel_rfl) (by kernel_rfl) (by kernel_rfl) (fun _ _ _ h => h) (Or.inl ⟨by rfl, ?_⟩) (by assumption) ?_
            rotate_left
            · intro w hSw
              have _h := hSw
              go_simp
              try with_reducible rfl
            simp only [Act.put, List.setIfInBounds_toArray, List.set_cons_zero, List.set_cons_succ]
            refine takeD 6 64 (v := ?_) rfl (by rfl) (by kernel_rfl) (by kernel_rfl) (by kernel_rfl) (fun _ _ _ h => h) (Or.inl ⟨by rfl, ?_⟩) (by assumption) ?_
            rotate_left
            · intro w hSw
              have _h := hSw
              go_simp
              try with_reducible rfl
            simp only [Act.put, List.setIfInBounds_toArray, List.set_cons_zero, List.set_cons_succ]
            refine takeD 7 65 (v := ?_) rfl (by rfl) (by kernel_rfl) (by kernel_rfl) (by kernel_rfl) (fun _ _ _ h => h) (Or.inl ⟨by rfl, ?_⟩) (by assumption) ?_
            rotate_left
            · intro w hSw
              have _h := hSw
              go_simp
              try with_reducible rfl
            simp only [Act.put, List.setIfInBounds_toArray, List.set_cons_zero, List.set_cons_succ]
            refine takeD 8 15 (v := ?_) rfl (by rfl) (by kernel_rfl) (by kernel_rfl) (by kernel_rfl) (fun _ _ _ h => h) (Or.inl ⟨by rfl, ?_⟩) (by assumption) ?_
            rotate_left
            · intro w hSw
              have _h := hSw
              go_simp
              try with_reducible rfl
            simp only [Act.put, List.setIfInBounds_toArray, List.set_cons_zero, List.set_cons_succ]
            refine takeD 9 16 (v := ?_) rfl (by rfl) (by kernel_rfl) (by kernel_rfl) (by kernel_rfl) (fun _ _ _ h => h) (Or.inl ⟨by rfl, ?_⟩) (by assumption) ?_
            rotate_left
            · intro w hSw
              have _h := hSw
              go_simp
              try with_reducible rfl
            simp only [Act.put, List.setIfInBounds_toArray, List.set_cons_zero, List.set_cons_succ]
            refine wpAnyH_done (by kernel_rfl) ?_ _
            clear hHeld3
            by_cases hxl : x = l
            · have q1 : (x != l) = false := by simpa using hxl
              have HN := Lib.hid (show T.before l p c = T.before l p (c.drop (k + 1)) from by rw [HF.out, HDK.out]; exact if_neg (fun h => h.1 hxl))
              clear hxl
              go_wp2_with fail
              go_roundw
              case rel => exact ⟨k + 1, by omega, by go_num, HN, HW7⟩
              case measure => simp [intOf]; omega
            · have q1 : (x != l) = true := by simpa using hxl
              have d1 : w7.cell? ⟨w.heap.size, 1, none⟩ = some (.pointer (some ⟨b, 0, none⟩)) := (HB7.out.cell (p := ⟨w.heap.size, 1, none⟩) hzw).trans (mx_cell (j := 1) HBN.out)
              have HV := Lib.hid (tr_value b T x w7 (HT.out.below HB7.out))
              by_cases hv : 0 ≤ T.val x
              · have q2 : decide (0 ≤ T.val x) = true := by simpa using hv
                have HN := Lib.hid (show rightP A T l = none from by rw [HRQ.out, HF.out, HDK.out]; exact if_neg (fun h => by rw [show T.before l p (x :: c.drop (k + 1)) = false from if_pos ⟨hxl, .inl hv⟩] at h; cases h))
                clear hxl hv
                go_wp2_with fail
                refine HV.out.mono ?_
                rintro e w8 ⟨rfl, hb8⟩
                have HB8 := Lib.hid (HB7.out.trans (hb8.mono HB7.out.size))
                clear hb8 d1
                go_wp2_with fail
                go_ret3
                exact ⟨.inr ⟨HN.out, rfl⟩, HBA.out.trans (HB8.out.mono HBA.out.size)⟩
              · have q2 : decide (0 ≤ T.val x) = false := by simpa using hv
                by_cases hpl : p ≤ px
                · have q3 : decide (p ≤ px) = true := by simpa using hpl
                  have HN := Lib.hid (show rightP A T l = none from by rw [HRQ.out, HF.out, HDK.out]; exact if_neg (fun h => by rw [show T.before l p (x :: c.drop (k + 1)) = false from if_pos ⟨hxl, .inr (by rw [HPX.out]; exact hpl)⟩] at h; cases h))
                  clear hxl hv hpl
                  go_wp2_with fail
                  refine HV.out.mono ?_
                  rintro e w8 ⟨rfl, hb8⟩
                  have HB8 := Lib.hid (HB7.out.trans (hb8.mono HB7.out.size))
                  clear hb8 d1
                  go_wp2_with fail
                  go_ret3
                  exact ⟨.inr ⟨HN.out, rfl⟩, HBA.out.trans (HB8.out.mono HBA.out.size)⟩
                · have q3 : decide (p ≤ px) = false := by simpa using hpl
                  have HN := Lib.hid (show T.before l p c = T.before l p (c.drop (k + 1)) from by rw [HF.out, HDK.out]; exact if_neg (fun h => h.2.elim hv (fun h' => hpl (by rw [HPX.out] at h'; exact h'))))
                  clear hxl hv hpl
                  go_wp2_with fail
                  refine HV.out.mono ?_
                  rintro e w8 ⟨rfl, hb8⟩
                  have HW8 := Lib.hid (HW7.out.trans (hb8.mono HW7.out.size))
                  clear hb8 d1
                  go_wp2_with fail
                  go_roundw
                  case rel => exact ⟨k + 1, by omega, by go_num, HN, HW8⟩
                  case measure => simp [intOf]; omega
          · obtain rfl : k = c.length := by omega
            have HN := Lib.hid (show rightP A T l = some (r, c) from by rw [HRQ.out, HF.out, List.drop_length]; rfl)
            go_wp2_with fail
            go_ret3
            exact ⟨.inl ⟨r, c, _, HN.out, rfl, own_kept HOW.out (Kept.of_below (O := fun _ => False) HW.out) (fun _ _ h => h)⟩, HBA.out.trans ((HB5.out.trans (HW.out.mono hz5)).mono HBA.out.size)⟩
end Go.Proofs.Ytiodfolcnnkdjaa
