/- minim: shorten. -/
import Derived.Test.YtiodfolcnnkdjaaQc
namespace Go.Proofs.Ytiodfolcnnkdjaa
open Go.RowKit

theorem cell_one15 (W : World) (u : Value) (t : TypeId) : ∀ j z, ([u] : List Value)[j]? = some z → (W.alloc (.cells #[u] t)).cell? ((⟨W.heap.size, 0, none⟩ : Addr).add j) = some z := cells_list_new W [u] t
theorem cov_all (a b mb : Nat) (A : Arn) (T : Trl) (its : List RIt) (Ac : Option Addr) (cc : Nat) (c : List Int) (B : Nat) (hs : Sim T its) (hBm : B ≤ 1000000) (hcl : c.length ≤ 4194304) (p : Nat) : CovAt a b mb A T its Ac cc c B p := by
  induction p using Nat.strongRecOn with
  | ind p ih => exact cov_of_imp a b mb A T its Ac cc c B p hs hBm hcl (imp_of_cov a b mb A T its Ac cc c B p hs ih)
theorem imp_all (a b mb : Nat) (A : Arn) (T : Trl) (its : List RIt) (Ac : Option Addr) (cc : Nat) (c : List Int) (B : Nat) (hs : Sim T its) (hBm : B ≤ 1000000) (hcl : c.length ≤ 4194304) (p : Nat) : ImpAt a b mb A T its Ac cc c B p :=
  imp_of_cov a b mb A T its Ac cc c B p hs (fun q _ => cov_all a b mb A T its Ac cc c B hs hBm hcl q)
theorem shor15_cons {A : Arn} {T : Trl} {c out r : List Int} {l : Int} {n : List Int} (h : (if out.contains l = false ∧ (c.head? = some l ∨ impl15 A T c (litV l) = false) then out ++ [l] else out) = n) : shor15 A T c out (l :: r) = shor15 A T c n r := by
  rw [← h]
  rfl
set_option maxRecDepth 100000 in
set_option maxHeartbeats 8000000 in
theorem mn_shorten (a b mb : Nat) (A : Arn) (T : Trl) (its : List RIt) (Ac : Option Addr) (cc : Nat) (c : List Int) (B : Nat) (w : World) (f : Int → Int) (kk : Nat) (hs : Sim T its) (hBm : B ≤ 1000000) (hcl : c.length ≤ 4194304) (hF : ∀ l ∈ c, rVl its l < 0) (hw : Wk w a b mb A T (.slice Ac c.length cc) c) (hm : MapAt w mb kk f) (hk : Kn A T its c f its.length) (hB : kk + 2 * zer its f ≤ B) :
    Calls Try.prog 28 #[(.agg #[.pointer (some ⟨a, 0, none⟩), .pointer (some ⟨b, 0, none⟩), .slice Ac c.length cc, .map (some mb)])] w fun e w' => (∃ u', e = .returned u' ∧ w'.ownsRow w.heap.size 26 1 u' (short15 A T c).length ((short15 A T c).map (Value.int .i64))) ∧ Kept (fun g => g = mb) w w' := by
  obtain ⟨i0, hi0, hi1, hi2, hi3⟩ := info_parts ainfo_lit
  obtain ⟨wa, hwa⟩ : ∃ z, w.alloc (.cells #[.pointer (some ⟨a, 0, none⟩), .pointer (some ⟨b, 0, none⟩), .slice Ac c.length cc, .map (some mb)] 64) = z := ⟨_, rfl⟩
  have hba : Below w.heap.size w wa := by rw [← hwa]; exact mx_al _ _
  have hbn : wa.heap[w.heap.size]? = some (.cells #[.pointer (some ⟨a, 0, none⟩), .pointer (some ⟨b, 0, none⟩), .slice Ac c.length cc, .map (some mb)] 64 (0, 0)) := by rw [← hwa]; exact World.alloc_heap_new _ _
  have HWK := Lib.hid (hw.below hba)
  have HMA := Lib.hid (hm.below hba)
  have HBA := Lib.hid hba
  have HWA := Lib.hid hwa
  have HBN := Lib.hid hbn
  have HKN := Lib.hid hk
  have HSI := Lib.hid hs
  have HFF := Lib.hid hF
  have hzw := heap_lt hbn
  have hmb := hm.lt
  have hnm : w.heap.size ≠ mb := by omega
  have C0 := Lib.hid (mx_cell (j := 0) hbn)
  have C1 := Lib.hid (mx_cell (j := 1) hbn)
  have C2 := Lib.hid (mx_cell (j := 2) hbn)
  have C3 := Lib.hid (mx_cell (j := 3) hbn)
  have c2 := mx_cell (j := 2) hbn
  have HIMP := Lib.hid (fun p x (hp : its[p]? = some x) w' f' k' => imp_all a b mb A T its Ac cc c B hs hBm hcl p x hp w' f' k')
  obtain ⟨SHR, hshr⟩ : ∃ z, short15 A T c = z := ⟨_, rfl⟩
  have HSHR := Lib.hid (show shor15 A T c [] c = SHR from hshr)
  rw [hshr]
  clear hba hwa hbn hw hm hk hF hs hshr
  go_enter Try.func28, Try.ntmps28
  go_upto_region 2 with fail
  rw [HWA.out]
  go_wp2_with fail
  clear c2
  go_loopw [3, 9] (fun ov iv wr => ∃ (j : Nat) (out : List Int) (g : Int → Int) (k : Nat), j ≤ c.length ∧ iv = .int .i64 j ∧ out.length ≤ j ∧ Hid (wr.ownsRow wa.heap.size 26 1 ov out.length (out.map (Value.int .i64))) ∧ Hid (shor15 A T c out (c.drop j) = SHR) ∧ Hid (MapAt wr mb k g) ∧ Hid (Kn A T its c g its.length) ∧ k + 2 * zer its g ≤ B ∧ Hid (Kept (fun g => g = mb) wa wr)) (fun _ iv _ => c.length - (intOf iv).toNat)
  case atStart => exact ⟨0, [], f, kk, Nat.zero_le _, rfl, Nat.le_refl _, Lib.hid (World.ownsRow_nil _ _ _ _), HSHR, HMA, HKN, hB, Lib.hid (Kept.refl _ _)⟩
  case round =>
    obtain ⟨j, out, g, k, hj, rfl, hol, HO, HR, HM, HK, hbd, HW⟩ := hrel
    obtain ⟨Ao, co, rfl, _⟩ := mx_slice HO.out
    by_cases hlt : j < c.length
    · obtain ⟨l, hl⟩ := getElem_of hlt
      have hfl := HFF.out l (List.mem_of_getElem? hl)
      obtain ⟨p, x, hp, hlx, hlv⟩ := HSI.out.fal hfl
      have hdk : c.drop j = l :: c.drop (j + 1) := by
        rw [List.drop_eq_getElem_cons hlt]
        rw [List.getElem?_eq_getElem hlt] at hl
        rw [Option.some.inj hl]
      have HR2 := Lib.hid (show shor15 A T c out (l :: c.drop (j + 1)) = SHR from by rw [← hdk]; exact HR.out)
      obtain ⟨l0, hl0⟩ : ∃ z, c[0]? = some z := getElem_of (by omega)
      have HJ0 := Lib.hid (show j = 0 → l0 = l from fun h => by
        subst h
        rw [hl] at hl0
        exact (Option.some.inj hl0).symm)
      have HHD := Lib.hid (show c.head? = some l0 from by rw [List.head?_eq_getElem?]; exact hl0)
      have HWC := Lib.hid (HWK.out.kept HW.out)
      have hcells := HWK.out
      obtain ⟨_, _, OC, _, _, hci, _, _, hnc, _⟩ := hcells
      obtain ⟨A', c', hAc, hcc', _, hxs⟩ := hci
      simp only [Value.slice.injEq, true_and] at hAc
      obtain ⟨rfl, rfl⟩ := hAc
      obtain ⟨gc, oc, rfl, hgc, hgo, e0⟩ := hxs j l hl
      obtain ⟨gc', oc', e1, _, _, e2⟩ := hxs 0 l0 hl0
      simp only [Option.some.injEq, Addr.mk.injEq, and_true] at e1
      obtain ⟨rfl, rfl⟩ := e1
      have hgm : gc ≠ mb := fun e => hnc (e ▸ hgo)
      have d0 : wr.cell? ⟨gc, oc + j, none⟩ = some (.int .i64 l) := (HW.out.cell (p := ⟨gc, oc + j, none⟩) hgc hgm).trans e0
      have E2 := Lib.hid e2
      have hjc : j < cc := by omega
      have h0c : 0 < cc := by omega
      have h0l : 0 < c.length := by omega
      have HCT := Lib.hid (fun (W : World) (h : IntsIn (fun g => wa.heap.size ≤ g ∧ (Value.slice Ao out.length co).ownBlock = some g) W (.slice Ao out.length co) out) => contains_c (.slice Ao out.length co) out l W h (by omega))
      have HIO := Lib.hid (IntsIn.of_own HO.out)
      have HV := Lib.hid (fun W => lit_var l W)
      rw [← hlv] at HV
      have HLV := Lib.hid hlv
      have HPX := Lib.hid hp
      have hzr := HW.out.size
      clear hl hfl hlx hdk hl0 hxs hgo hnc e0 e2 hlv hp
      obtain ⟨cb, hcb⟩ : ∃ z, out.contains l = z := ⟨_, rfl⟩
      rw [hcb] at HCT
      have HCB := Lib.hid hcb
      clear hcb
      cases cb with
      | true =>
        go_upto_region 5 with fail
        refine wp_region_held_drew (S := fun w' => Kept (fun g => g = mb) wa w') (by kernel_rfl) (HW.out.trans (O := fun g => g = mb) (Kept.of_below (mx_drew wr)) (fun _ _ h => h)) (fun hS => ?_)
        have hD := mx_drew wr
        obtain ⟨wD, hwD⟩ : ∃ q, (wr).drew = q := ⟨_, rfl⟩
        rw [hwD] at hS hD ⊢
        clear hwD d0
        refine takeD 0 14 (v := ?_) rfl (by rfl) (by kernel_rfl) (by kernel_rfl) (by kernel_rfl) (fun _ _ _ h => h) (Or.inl ⟨by rfl, ?_⟩) (by assumption) ?_
        rotate_left
        · intro wq hSw
          clear hSw
          go_simp
          try with_reducible rfl
        simp only [Act.put, List.setIfInBounds_toArray, List.set_cons_zero, List.set_cons_succ]
        refine takeD 1 15 (v := ?_) rfl (by rfl) (by kernel_rfl) (by kernel_rfl) (by kernel_rfl) (fun _ _ _ h => h) (Or.inl ⟨by rfl, ?_⟩) (by assumption) ?_
        rotate_left
        · intro wq hSw
          clear hSw
          go_simp
          try with_reducible rfl
        simp only [Act.put, List.setIfInBounds_toArray, List.set_cons_zero, List.set_cons_succ]
        refine wpAnyH_ready (rs := [2]) (by kernel_rfl) (by simp) ?_
        refine AllReadyH.cons rfl (fun K hK => ?_) AllReadyH.nil
        go_simp
        refine (HCT.out wD (HIO.out.below hD)).mono ?_
        rintro e w' ⟨rfl, rfl⟩
        refine hK.out _ _ hS (fun _ => ?_)
        clear hK
        refine takeD 3 17 (v := ?_) rfl (by rfl) (by kernel_rfl) (by kernel_rfl) (by kernel_rfl) (fun _ _ _ h => h) (Or.inl ⟨by rfl, ?_⟩) (by assumption) ?_
        rotate_left
        · intro wq hSw
          clear hSw
          go_simp
          try with_reducible rfl
        simp only [Act.put, List.setIfInBounds_toArray, List.set_cons_zero, List.set_cons_succ]
        refine takeD 4 18 (v := ?_) rfl (by rfl) (by kernel_rfl) (by kernel_rfl) (by kernel_rfl) (fun _ _ _ h => h) (Or.inl ⟨by rfl, ?_⟩) (by assumption) ?_
        rotate_left
        · intro wq hSw
          clear hSw
          go_simp
          try with_reducible rfl
        simp only [Act.put, List.setIfInBounds_toArray, List.set_cons_zero, List.set_cons_succ]
        refine takeD 5 19 (v := undef) rfl (by rfl) (by kernel_rfl) (by kernel_rfl) (by kernel_rfl) (fun _ _ _ h => h) (Or.inr ⟨by rfl, rfl⟩) (by assumption) ?_
        simp only [Act.put, List.setIfInBounds_toArray, List.set_cons_zero, List.set_cons_succ]
        refine takeD 6 20 (v := undef) rfl (by rfl) (by kernel_rfl) (by kernel_rfl) (by kernel_rfl) (fun _ _ _ h => h) (Or.inr ⟨by rfl, rfl⟩) (by assumption) ?_
        simp only [Act.put, List.setIfInBounds_toArray, List.set_cons_zero, List.set_cons_succ]
        refine takeD 7 21 (v := undef) rfl (by rfl) (by kernel_rfl) (by kernel_rfl) (by kernel_rfl) (fun _ _ _ h => h) (Or.inr ⟨by rfl, rfl⟩) (by assumption) ?_
        simp only [Act.put, List.setIfInBounds_toArray, List.set_cons_zero, List.set_cons_succ]
        refine takeD 8 22 (v := undef) rfl (by rfl) (by kernel_rfl) (by kernel_rfl) (by kernel_rfl) (fun _ _ _ h => h) (Or.inr ⟨by rfl, rfl⟩) (by assumption) ?_
        simp only [Act.put, List.setIfInBounds_toArray, List.set_cons_zero, List.set_cons_succ]
        refine takeD 9 23 (v := undef) rfl (by rfl) (by kernel_rfl) (by kernel_rfl) (by kernel_rfl) (fun _ _ _ h => h) (Or.inr ⟨by rfl, rfl⟩) (by assumption) ?_
        simp only [Act.put, List.setIfInBounds_toArray, List.set_cons_zero, List.set_cons_succ]
        refine takeD 10 24 (v := undef) rfl (by rfl) (by kernel_rfl) (by kernel_rfl) (by kernel_rfl) (fun _ _ _ h => h) (Or.inr ⟨by rfl, rfl⟩) (by assumption) ?_
        simp only [Act.put, List.setIfInBounds_toArray, List.set_cons_zero, List.set_cons_succ]
        refine takeD 11 25 (v := undef) rfl (by rfl) (by kernel_rfl) (by kernel_rfl) (by kernel_rfl) (fun _ _ _ h => h) (Or.inr ⟨by rfl, rfl⟩) (by assumption) ?_
        simp only [Act.put, List.setIfInBounds_toArray, List.set_cons_zero, List.set_cons_succ]
        refine takeD 12 26 (v := undef) rfl (by rfl) (by kernel_rfl) (by kernel_rfl) (by kernel_rfl) (fun _ _ _ h => h) (Or.inr ⟨by rfl, rfl⟩) (by assumption) ?_
        simp only [Act.put, List.setIfInBounds_toArray, List.set_cons_zero, List.set_cons_succ]
        refine takeD 13 27 (v := undef) rfl (by rfl) (by kernel_rfl) (by kernel_rfl) (by kernel_rfl) (fun _ _ _ h => h) (Or.inr ⟨by rfl, rfl⟩) (by assumption) ?_
        simp only [Act.put, List.setIfInBounds_toArray, List.set_cons_zero, List.set_cons_succ]
        refine takeD 14 28 (v := undef) rfl (by rfl) (by kernel_rfl) (by kernel_rfl) (by kernel_rfl) (fun _ _ _ h => h) (Or.inr ⟨by rfl, rfl⟩) (by assumption) ?_
        simp only [Act.put, List.setIfInBounds_toArray, List.set_cons_zero, List.set_cons_succ]
        refine takeD 15 29 (v := undef) rfl (by rfl) (by kernel_rfl) (by kernel_rfl) (by kernel_rfl) (fun _ _ _ h => h) (Or.inr ⟨by rfl, rfl⟩) (by assumption) ?_
        simp only [Act.put, List.setIfInBounds_toArray, List.set_cons_zero, List.set_cons_succ]
        refine takeD 16 30 (v := undef) rfl (by rfl) (by kernel_rfl) (by kernel_rfl) (by kernel_rfl) (fun _ _ _ h => h) (Or.inr ⟨by rfl, rfl⟩) (by assumption) ?_
        simp only [Act.put, List.setIfInBounds_toArray, List.set_cons_zero, List.set_cons_succ]
        refine takeD 17 31 (v := undef) rfl (by rfl) (by kernel_rfl) (by kernel_rfl) (by kernel_rfl) (fun _ _ _ h => h) (Or.inr ⟨by rfl, rfl⟩) (by assumption) ?_
        simp only [Act.put, List.setIfInBounds_toArray, List.set_cons_zero, List.set_cons_succ]
        refine takeD 18 32 (v := undef) rfl (by rfl) (by kernel_rfl) (by kernel_rfl) (by kernel_rfl) (fun _ _ _ h => h) (Or.inr ⟨by rfl, rfl⟩) (by assumption) ?_
        simp only [Act.put, List.setIfInBounds_toArray, List.set_cons_zero, List.set_cons_succ]
        refine takeD 19 33 (v := undef) rfl (by rfl) (by kernel_rfl) (by kernel_rfl) (by kernel_rfl) (fun _ _ _ h => h) (Or.inr ⟨by rfl, rfl⟩) (by assumption) ?_
        simp only [Act.put, List.setIfInBounds_toArray, List.set_cons_zero, List.set_cons_succ]
        refine takeD 20 34 (v := undef) rfl (by rfl) (by kernel_rfl) (by kernel_rfl) (by kernel_rfl) (fun _ _ _ h => h) (Or.inr ⟨by rfl, rfl⟩) (by assumption) ?_
        simp only [Act.put, List.setIfInBounds_toArray, List.set_cons_zero, List.set_cons_succ]
        refine takeD 21 35 (v := undef) rfl (by rfl) (by kernel_rfl) (by kernel_rfl) (by kernel_rfl) (fun _ _ _ h => h) (Or.inr ⟨by rfl, rfl⟩) (by assumption) ?_
        simp only [Act.put, List.setIfInBounds_toArray, List.set_cons_zero, List.set_cons_succ]
        refine takeD 22 36 (v := ?_) rfl (by rfl) (by kernel_rfl) (by kernel_rfl) (by kernel_rfl) (fun _ _ _ h => h) (Or.inl ⟨by rfl, ?_⟩) (by assumption) ?_
        rotate_left
        · intro wq hSw
          clear hSw
          go_simp
          try with_reducible rfl
        simp only [Act.put, List.setIfInBounds_toArray, List.set_cons_zero, List.set_cons_succ]
        refine wpAnyH_done (by kernel_rfl) ?_ _
        have HKD := Lib.hid hS
        have HOD := Lib.hid (own_below HO.out hD)
        have HMD := Lib.hid (HM.out.below hD)
        clear hS hD
        have HRN := Lib.hid (show shor15 A T c out (c.drop (j + 1)) = SHR from (shor15_cons (by rw [if_neg (fun h => by rw [HCB.out] at h; cases h.1)])).symm.trans HR2.out)
        go_wp2_with fail
        go_roundw
        case rel => exact ⟨j + 1, out, g, k, by omega, by go_num, by omega, HOD, HRN, HMD, HK, hbd, HKD⟩
        case measure => simp [intOf]; omega
      | false =>
        by_cases hj0 : j = 0
        · have q0 : ((j : Int) == 0) = true := by simp; omega
          have HEQ := Lib.hid (show c.head? = some l from by
            rw [HHD.out]
            have h1 := HJ0.out hj0
            rw [h1])
          clear hj0
          go_upto_region 5 with fail
          refine wp_region_held_drew (S := fun w' => Kept (fun g => g = mb) wa w') (by kernel_rfl) (HW.out.trans (O := fun g => g = mb) (Kept.of_below (mx_drew wr)) (fun _ _ h => h)) (fun hS => ?_)
          have hD := mx_drew wr
          obtain ⟨wD, hwD⟩ : ∃ q, (wr).drew = q := ⟨_, rfl⟩
          rw [hwD] at hS hD ⊢
          clear hwD d0
          refine takeD 0 14 (v := ?_) rfl (by rfl) (by kernel_rfl) (by kernel_rfl) (by kernel_rfl) (fun _ _ _ h => h) (Or.inl ⟨by rfl, ?_⟩) (by assumption) ?_
          rotate_left
          · intro wq hSw
            clear hSw
            go_simp
            try with_reducible rfl
          simp only [Act.put, List.setIfInBounds_toArray, List.set_cons_zero, List.set_cons_succ]
          refine takeD 1 15 (v := ?_) rfl (by rfl) (by kernel_rfl) (by kernel_rfl) (by kernel_rfl) (fun _ _ _ h => h) (Or.inl ⟨by rfl, ?_⟩) (by assumption) ?_
          rotate_left
          · intro wq hSw
            clear hSw
            go_simp
            try with_reducible rfl
          simp only [Act.put, List.setIfInBounds_toArray, List.set_cons_zero, List.set_cons_succ]
          refine wpAnyH_ready (rs := [2]) (by kernel_rfl) (by simp) ?_
          refine AllReadyH.cons rfl (fun K hK => ?_) AllReadyH.nil
          go_simp
          refine (HCT.out wD (HIO.out.below hD)).mono ?_
          rintro e w' ⟨rfl, rfl⟩
          refine hK.out _ _ hS (fun _ => ?_)
          clear hK
          refine takeD 3 17 (v := ?_) rfl (by rfl) (by kernel_rfl) (by kernel_rfl) (by kernel_rfl) (fun _ _ _ h => h) (Or.inl ⟨by rfl, ?_⟩) (by assumption) ?_
          rotate_left
          · intro wq hSw
            clear hSw
            go_simp
            try with_reducible rfl
          simp only [Act.put, List.setIfInBounds_toArray, List.set_cons_zero, List.set_cons_succ]
          refine takeD 4 18 (v := ?_) rfl (by rfl) (by kernel_rfl) (by kernel_rfl) (by kernel_rfl) (fun _ _ _ h => h) (Or.inl ⟨by rfl, ?_⟩) (by assumption) ?_
          rotate_left
          · intro wq hSw
            clear hSw
            go_simp
            try with_reducible rfl
          simp only [Act.put, List.setIfInBounds_toArray, List.set_cons_zero, List.set_cons_succ]
          refine takeD 5 19 (v := ?_) rfl (by rfl) (by kernel_rfl) (by kernel_rfl) (by kernel_rfl) (fun _ _ _ h => h) (Or.inl ⟨by rfl, ?_⟩) (by assumption) ?_
          rotate_left
          · intro wq hSw
            clear hSw
            go_simp
            try with_reducible rfl
          simp only [Act.put, List.setIfInBounds_toArray, List.set_cons_zero, List.set_cons_succ]
          refine takeD 6 20 (v := ?_) rfl (by rfl) (by kernel_rfl) (by kernel_rfl) (by kernel_rfl) (fun _ _ _ h => h) (Or.inl ⟨by rfl, ?_⟩) (by assumption) ?_
          rotate_left
          · intro wq hSw
            clear hSw
            go_simp
            try with_reducible rfl
          simp only [Act.put, List.setIfInBounds_toArray, List.set_cons_zero, List.set_cons_succ]
          refine takeD 7 21 (v := ?_) rfl (by rfl) (by kernel_rfl) (by kernel_rfl) (by kernel_rfl) (fun _ _ _ h => h) (Or.inl ⟨by rfl, ?_⟩) (by assumption) ?_
          rotate_left
          · intro wq hSw
            clear hSw
            go_simp
            try with_reducible rfl
          simp only [Act.put, List.setIfInBounds_toArray, List.set_cons_zero, List.set_cons_succ]
          refine takeD 8 22 (v := undef) rfl (by rfl) (by kernel_rfl) (by kernel_rfl) (by kernel_rfl) (fun _ _ _ h => h) (Or.inr ⟨by rfl, rfl⟩) (by assumption) ?_
          simp only [Act.put, List.setIfInBounds_toArray, List.set_cons_zero, List.set_cons_succ]
          refine takeD 9 23 (v := undef) rfl (by rfl) (by kernel_rfl) (by kernel_rfl) (by kernel_rfl) (fun _ _ _ h => h) (Or.inr ⟨by rfl, rfl⟩) (by assumption) ?_
          simp only [Act.put, List.setIfInBounds_toArray, List.set_cons_zero, List.set_cons_succ]
          refine takeD 10 24 (v := undef) rfl (by rfl) (by kernel_rfl) (by kernel_rfl) (by kernel_rfl) (fun _ _ _ h => h) (Or.inr ⟨by rfl, rfl⟩) (by assumption) ?_
          simp only [Act.put, List.setIfInBounds_toArray, List.set_cons_zero, List.set_cons_succ]
          refine takeD 11 25 (v := undef) rfl (by rfl) (by kernel_rfl) (by kernel_rfl) (by kernel_rfl) (fun _ _ _ h => h) (Or.inr ⟨by rfl, rfl⟩) (by assumption) ?_
          simp only [Act.put, List.setIfInBounds_toArray, List.set_cons_zero, List.set_cons_succ]
          refine takeD 12 26 (v := undef) rfl (by rfl) (by kernel_rfl) (by kernel_rfl) (by kernel_rfl) (fun _ _ _ h => h) (Or.inr ⟨by rfl, rfl⟩) (by assumption) ?_
          simp only [Act.put, List.setIfInBounds_toArray, List.set_cons_zero, List.set_cons_succ]
          refine takeD 13 27 (v := undef) rfl (by rfl) (by kernel_rfl) (by kernel_rfl) (by kernel_rfl) (fun _ _ _ h => h) (Or.inr ⟨by rfl, rfl⟩) (by assumption) ?_
          simp only [Act.put, List.setIfInBounds_toArray, List.set_cons_zero, List.set_cons_succ]
          refine takeD 14 28 (v := ?_) rfl (by rfl) (by kernel_rfl) (by kernel_rfl) (by kernel_rfl) (fun _ _ _ h => h) (Or.inl ⟨by rfl, ?_⟩) (by assumption) ?_
          rotate_left
          · intro wq hSw
            clear hSw
            go_simp
            try with_reducible rfl
          simp only [Act.put, List.setIfInBounds_toArray, List.set_cons_zero, List.set_cons_succ]
          refine takeD 15 29 (v := ?_) rfl (by rfl) (by kernel_rfl) (by kernel_rfl) (by kernel_rfl) (fun _ _ _ h => h) (Or.inl ⟨by rfl, ?_⟩) (by assumption) ?_
          rotate_left
          · intro wq hSw
            clear hSw
            go_simp
            try with_reducible rfl
          simp only [Act.put, List.setIfInBounds_toArray, List.set_cons_zero, List.set_cons_succ]
          refine takeD 16 30 (v := undef) rfl (by rfl) (by kernel_rfl) (by kernel_rfl) (by kernel_rfl) (fun _ _ _ h => h) (Or.inr ⟨by rfl, rfl⟩) (by assumption) ?_
          simp only [Act.put, List.setIfInBounds_toArray, List.set_cons_zero, List.set_cons_succ]
          refine takeD 17 31 (v := undef) rfl (by rfl) (by kernel_rfl) (by kernel_rfl) (by kernel_rfl) (fun _ _ _ h => h) (Or.inr ⟨by rfl, rfl⟩) (by assumption) ?_
          simp only [Act.put, List.setIfInBounds_toArray, List.set_cons_zero, List.set_cons_succ]
          refine takeD 18 32 (v := undef) rfl (by rfl) (by kernel_rfl) (by kernel_rfl) (by kernel_rfl) (fun _ _ _ h => h) (Or.inr ⟨by rfl, rfl⟩) (by assumption) ?_
          simp only [Act.put, List.setIfInBounds_toArray, List.set_cons_zero, List.set_cons_succ]
          refine takeD 19 33 (v := undef) rfl (by rfl) (by kernel_rfl) (by kernel_rfl) (by kernel_rfl) (fun _ _ _ h => h) (Or.inr ⟨by rfl, rfl⟩) (by assumption) ?_
          simp only [Act.put, List.setIfInBounds_toArray, List.set_cons_zero, List.set_cons_succ]
          refine takeD 20 34 (v := undef) rfl (by rfl) (by kernel_rfl) (by kernel_rfl) (by kernel_rfl) (fun _ _ _ h => h) (Or.inr ⟨by rfl, rfl⟩) (by assumption) ?_
          simp only [Act.put, List.setIfInBounds_toArray, List.set_cons_zero, List.set_cons_succ]
          refine takeD 21 35 (v := ?_) rfl (by rfl) (by kernel_rfl) (by kernel_rfl) (by kernel_rfl) (fun _ _ _ h => h) (Or.inl ⟨by rfl, ?_⟩) (by assumption) ?_
          rotate_left
          · intro wq hSw
            clear hSw
            go_simp
            try with_reducible rfl
          simp only [Act.put, List.setIfInBounds_toArray, List.set_cons_zero, List.set_cons_succ]
          refine takeD 22 36 (v := ?_) rfl (by rfl) (by kernel_rfl) (by kernel_rfl) (by kernel_rfl) (fun _ _ _ h => h) (Or.inl ⟨by rfl, ?_⟩) (by assumption) ?_
          rotate_left
          · intro wq hSw
            clear hSw
            go_simp
            try with_reducible rfl
          simp only [Act.put, List.setIfInBounds_toArray, List.set_cons_zero, List.set_cons_succ]
          refine wpAnyH_done (by kernel_rfl) ?_ _
          have HKD := Lib.hid hS
          have HOD := Lib.hid (own_below HO.out hD)
          have HMD := Lib.hid (HM.out.below hD)
          clear hS hD
          have HRN := Lib.hid (show shor15 A T c (out ++ [l]) (c.drop (j + 1)) = SHR from (shor15_cons (by rw [if_pos ⟨HCB.out, .inl HEQ.out⟩])).symm.trans HR2.out)
          have hzn := HKD.out.size
          go_wp2_with (at_builtin; refine wpList_append_own_at _ rfl _ _ 28 rfl wa.heap.size 26 i0 (.int .i64 0) 1 8 Try.underlying28 hi0 hi1 hi2 hi3 rfl (by decide) _ out.length _ rfl (own_below HOD.out (mx_al wD (.cells #[.int .i64 l] 26))) ⟨wD.heap.size, 0, none⟩ 1 1 [.int .i64 l] rfl rfl (cell_one15 _ _ _) (by simp [Value.oneCell']) (by unfold maxLen; omega) (by omega) (by simp; omega) ?_; intro v' w9 hown hgrow hnl hat; have hkG := (HKD.out.trans (O := fun g => g = mb) (Kept.of_below (mx_al wD (.cells #[.int .i64 l] 26))) (fun _ _ h => h)).trans (O := fun g => g = mb) (Kept.grown hgrow) (fun i hi e => absurd (own_lt HOD.out i e.symm).1 (by omega)); have hmG := HMD.out.below (mx_al wD (.cells #[.int .i64 l] 26)); have hmG2 := hmG.kept (Kept.grown hgrow) (fun e => by have h1 := (own_lt HOD.out mb e.symm).1; have h2 := HBA.out.size; omega); obtain ⟨A7', k7', hv2, _⟩ := mx_slice hown; subst hv2; have HO9 := Lib.hid hown; have HK9 := Lib.hid hkG; have HM9 := Lib.hid hmG2; clear hown hgrow hnl hat hkG hmG hmG2)
          go_roundw
          case rel => exact ⟨j + 1, out ++ [l], g, k, by omega, by go_num, by simp; omega, Lib.hid (by rw [List.length_append, List.map_append]; exact HO9.out), HRN, HM9, HK, hbd, HK9⟩
          case measure => simp [intOf]; omega
        · have q0 : ((j : Int) == 0) = false := by simp; omega
          clear hj0
          by_cases hll : l = l0
          · have q1 : (l == l0) = true := by simpa using hll
            have HEQ := Lib.hid (show c.head? = some l from by rw [HHD.out, hll])
            clear hll
            go_upto_region 5 with fail
            refine wp_region_held_drew (S := fun w' => Kept (fun g => g = mb) wa w') (by kernel_rfl) (HW.out.trans (O := fun g => g = mb) (Kept.of_below (mx_drew wr)) (fun _ _ h => h)) (fun hS => ?_)
            have hD := mx_drew wr
            obtain ⟨wD, hwD⟩ : ∃ q, (wr).drew = q := ⟨_, rfl⟩
            rw [hwD] at hS hD ⊢
            clear hwD d0
            refine takeD 0 14 (v := ?_) rfl (by rfl) (by kernel_rfl) (by kernel_rfl) (by kernel_rfl) (fun _ _ _ h => h) (Or.inl ⟨by rfl, ?_⟩) (by assumption) ?_
            rotate_left
            · intro wq hSw
              clear hSw
              go_simp
              try with_reducible rfl
            simp only [Act.put, List.setIfInBounds_toArray, List.set_cons_zero, List.set_cons_succ]
            refine takeD 1 15 (v := ?_) rfl (by rfl) (by kernel_rfl) (by kernel_rfl) (by kernel_rfl) (fun _ _ _ h => h) (Or.inl ⟨by rfl, ?_⟩) (by assumption) ?_
            rotate_left
            · intro wq hSw
              clear hSw
              go_simp
              try with_reducible rfl
            simp only [Act.put, List.setIfInBounds_toArray, List.set_cons_zero, List.set_cons_succ]
            refine wpAnyH_ready (rs := [2]) (by kernel_rfl) (by simp) ?_
            refine AllReadyH.cons rfl (fun K hK => ?_) AllReadyH.nil
            go_simp
            refine (HCT.out wD (HIO.out.below hD)).mono ?_
            rintro e w' ⟨rfl, rfl⟩
            refine hK.out _ _ hS (fun _ => ?_)
            clear hK
            refine takeD 3 17 (v := ?_) rfl (by rfl) (by kernel_rfl) (by kernel_rfl) (by kernel_rfl) (fun _ _ _ h => h) (Or.inl ⟨by rfl, ?_⟩) (by assumption) ?_
            rotate_left
            · intro wq hSw
              clear hSw
              go_simp
              try with_reducible rfl
            simp only [Act.put, List.setIfInBounds_toArray, List.set_cons_zero, List.set_cons_succ]
            refine takeD 4 18 (v := ?_) rfl (by rfl) (by kernel_rfl) (by kernel_rfl) (by kernel_rfl) (fun _ _ _ h => h) (Or.inl ⟨by rfl, ?_⟩) (by assumption) ?_
            rotate_left
            · intro wq hSw
              clear hSw
              go_simp
              try with_reducible rfl
            simp only [Act.put, List.setIfInBounds_toArray, List.set_cons_zero, List.set_cons_succ]
            refine takeD 5 19 (v := ?_) rfl (by rfl) (by kernel_rfl) (by kernel_rfl) (by kernel_rfl) (fun _ _ _ h => h) (Or.inl ⟨by rfl, ?_⟩) (by assumption) ?_
            rotate_left
            · intro wq hSw
              clear hSw
              go_simp
              try with_reducible rfl
            simp only [Act.put, List.setIfInBounds_toArray, List.set_cons_zero, List.set_cons_succ]
            refine takeD 6 20 (v := ?_) rfl (by rfl) (by kernel_rfl) (by kernel_rfl) (by kernel_rfl) (fun _ _ _ h => h) (Or.inl ⟨by rfl, ?_⟩) (by assumption) ?_
            rotate_left
            · intro wq hSw
              clear hSw
              go_simp
              try with_reducible rfl
            simp only [Act.put, List.setIfInBounds_toArray, List.set_cons_zero, List.set_cons_succ]
            refine takeD 7 21 (v := ?_) rfl (by rfl) (by kernel_rfl) (by kernel_rfl) (by kernel_rfl) (fun _ _ _ h => h) (Or.inl ⟨by rfl, ?_⟩) (by assumption) ?_
            rotate_left
            · intro wq hSw
              clear hSw
              go_simp
              try with_reducible rfl
            simp only [Act.put, List.setIfInBounds_toArray, List.set_cons_zero, List.set_cons_succ]
            refine takeD 8 22 (v := ?_) rfl (by rfl) (by kernel_rfl) (by kernel_rfl) (by kernel_rfl) (fun _ _ _ h => h) (Or.inl ⟨by rfl, ?_⟩) (by assumption) ?_
            rotate_left
            · intro wq hSw
              clear hSw
              go_simp
              try with_reducible rfl
            simp only [Act.put, List.setIfInBounds_toArray, List.set_cons_zero, List.set_cons_succ]
            refine takeD 9 23 (v := ?_) rfl (by rfl) (by kernel_rfl) (by kernel_rfl) (by kernel_rfl) (fun _ _ _ h => h) (Or.inl ⟨by rfl, ?_⟩) (by assumption) ?_
            rotate_left
            · intro wq hSw
              clear hSw
              go_simp
              try with_reducible rfl
            simp only [Act.put, List.setIfInBounds_toArray, List.set_cons_zero, List.set_cons_succ]
            refine takeD 10 24 (v := ?_) rfl (by rfl) (by kernel_rfl) (by kernel_rfl) (by kernel_rfl) (fun _ _ _ h => h) (Or.inl ⟨by rfl, ?_⟩) (by assumption) ?_
            rotate_left
            · intro wq hSw
              have k2 := (hSw.cell (p := ⟨w.heap.size, 2, none⟩) hzw hnm).trans C2.out
              clear hSw
              go_simp
              try with_reducible rfl
            simp only [Act.put, List.setIfInBounds_toArray, List.set_cons_zero, List.set_cons_succ]
            refine takeD 11 25 (v := ?_) rfl (by rfl) (by kernel_rfl) (by kernel_rfl) (by kernel_rfl) (fun _ _ _ h => h) (Or.inl ⟨by rfl, ?_⟩) (by assumption) ?_
            rotate_left
            · intro wq hSw
              clear hSw
              go_simp
              try with_reducible rfl
            simp only [Act.put, List.setIfInBounds_toArray, List.set_cons_zero, List.set_cons_succ]
            refine takeD 12 26 (v := ?_) rfl (by rfl) (by kernel_rfl) (by kernel_rfl) (by kernel_rfl) (fun _ _ _ h => h) (Or.inl ⟨by rfl, ?_⟩) (by assumption) ?_
            rotate_left
            · intro wq hSw
              have k0 := (hSw.cell (p := ⟨gc, oc, none⟩) hgc hgm).trans E2.out
              clear hSw
              go_simp
              try with_reducible rfl
            simp only [Act.put, List.setIfInBounds_toArray, List.set_cons_zero, List.set_cons_succ]
            refine takeD 13 27 (v := ?_) rfl (by rfl) (by kernel_rfl) (by kernel_rfl) (by kernel_rfl) (fun _ _ _ h => h) (Or.inl ⟨by rfl, ?_⟩) (by assumption) ?_
            rotate_left
            · intro wq hSw
              clear hSw
              go_simp
              try with_reducible rfl
            simp only [Act.put, List.setIfInBounds_toArray, List.set_cons_zero, List.set_cons_succ]
            refine takeD 14 28 (v := ?_) rfl (by rfl) (by kernel_rfl) (by kernel_rfl) (by kernel_rfl) (fun _ _ _ h => h) (Or.inl ⟨by rfl, ?_⟩) (by assumption) ?_
            rotate_left
            · intro wq hSw
              clear hSw
              go_simp
              try with_reducible rfl
            simp only [Act.put, List.setIfInBounds_toArray, List.set_cons_zero, List.set_cons_succ]
            refine takeD 15 29 (v := ?_) rfl (by rfl) (by kernel_rfl) (by kernel_rfl) (by kernel_rfl) (fun _ _ _ h => h) (Or.inl ⟨by rfl, ?_⟩) (by assumption) ?_
            rotate_left
            · intro wq hSw
              clear hSw
              go_simp
              try with_reducible rfl
            simp only [Act.put, List.setIfInBounds_toArray, List.set_cons_zero, List.set_cons_succ]
            refine takeD 16 30 (v := undef) rfl (by rfl) (by kernel_rfl) (by kernel_rfl) (by kernel_rfl) (fun _ _ _ h => h) (Or.inr ⟨by rfl, rfl⟩) (by assumption) ?_
            simp only [Act.put, List.setIfInBounds_toArray, List.set_cons_zero, List.set_cons_succ]
            refine takeD 17 31 (v := undef) rfl (by rfl) (by kernel_rfl) (by kernel_rfl) (by kernel_rfl) (fun _ _ _ h => h) (Or.inr ⟨by rfl, rfl⟩) (by assumption) ?_
            simp only [Act.put, List.setIfInBounds_toArray, List.set_cons_zero, List.set_cons_succ]
            refine takeD 18 32 (v := undef) rfl (by rfl) (by kernel_rfl) (by kernel_rfl) (by kernel_rfl) (fun _ _ _ h => h) (Or.inr ⟨by rfl, rfl⟩) (by assumption) ?_
            simp only [Act.put, List.setIfInBounds_toArray, List.set_cons_zero, List.set_cons_succ]
            refine takeD 19 33 (v := undef) rfl (by rfl) (by kernel_rfl) (by kernel_rfl) (by kernel_rfl) (fun _ _ _ h => h) (Or.inr ⟨by rfl, rfl⟩) (by assumption) ?_
            simp only [Act.put, List.setIfInBounds_toArray, List.set_cons_zero, List.set_cons_succ]
            refine takeD 20 34 (v := undef) rfl (by rfl) (by kernel_rfl) (by kernel_rfl) (by kernel_rfl) (fun _ _ _ h => h) (Or.inr ⟨by rfl, rfl⟩) (by assumption) ?_
            simp only [Act.put, List.setIfInBounds_toArray, List.set_cons_zero, List.set_cons_succ]
            refine takeD 21 35 (v := ?_) rfl (by rfl) (by kernel_rfl) (by kernel_rfl) (by kernel_rfl) (fun _ _ _ h => h) (Or.inl ⟨by rfl, ?_⟩) (by assumption) ?_
            rotate_left
            · intro wq hSw
              clear hSw
              go_simp
              try with_reducible rfl
            simp only [Act.put, List.setIfInBounds_toArray, List.set_cons_zero, List.set_cons_succ]
            refine takeD 22 36 (v := ?_) rfl (by rfl) (by kernel_rfl) (by kernel_rfl) (by kernel_rfl) (fun _ _ _ h => h) (Or.inl ⟨by rfl, ?_⟩) (by assumption) ?_
            rotate_left
            · intro wq hSw
              clear hSw
              go_simp
              try with_reducible rfl
            simp only [Act.put, List.setIfInBounds_toArray, List.set_cons_zero, List.set_cons_succ]
            refine wpAnyH_done (by kernel_rfl) ?_ _
            have HKD := Lib.hid hS
            have HOD := Lib.hid (own_below HO.out hD)
            have HMD := Lib.hid (HM.out.below hD)
            clear hS hD
            have HRN := Lib.hid (show shor15 A T c (out ++ [l]) (c.drop (j + 1)) = SHR from (shor15_cons (by rw [if_pos ⟨HCB.out, .inl HEQ.out⟩])).symm.trans HR2.out)
            have hzn := HKD.out.size
            go_wp2_with (at_builtin; refine wpList_append_own_at _ rfl _ _ 28 rfl wa.heap.size 26 i0 (.int .i64 0) 1 8 Try.underlying28 hi0 hi1 hi2 hi3 rfl (by decide) _ out.length _ rfl (own_below HOD.out (mx_al wD (.cells #[.int .i64 l] 26))) ⟨wD.heap.size, 0, none⟩ 1 1 [.int .i64 l] rfl rfl (cell_one15 _ _ _) (by simp [Value.oneCell']) (by unfold maxLen; omega) (by omega) (by simp; omega) ?_; intro v' w9 hown hgrow hnl hat; have hkG := (HKD.out.trans (O := fun g => g = mb) (Kept.of_below (mx_al wD (.cells #[.int .i64 l] 26))) (fun _ _ h => h)).trans (O := fun g => g = mb) (Kept.grown hgrow) (fun i hi e => absurd (own_lt HOD.out i e.symm).1 (by omega)); have hmG := HMD.out.below (mx_al wD (.cells #[.int .i64 l] 26)); have hmG2 := hmG.kept (Kept.grown hgrow) (fun e => by have h1 := (own_lt HOD.out mb e.symm).1; have h2 := HBA.out.size; omega); obtain ⟨A7', k7', hv2, _⟩ := mx_slice hown; subst hv2; have HO9 := Lib.hid hown; have HK9 := Lib.hid hkG; have HM9 := Lib.hid hmG2; clear hown hgrow hnl hat hkG hmG hmG2)
            go_roundw
            case rel => exact ⟨j + 1, out ++ [l], g, k, by omega, by go_num, by simp; omega, Lib.hid (by rw [List.length_append, List.map_append]; exact HO9.out), HRN, HM9, HK, hbd, HK9⟩
            case measure => simp [intOf]; omega
          · have q1 : (l == l0) = false := by simpa using hll
            have HNE := Lib.hid (show ¬ c.head? = some l from by
              rw [HHD.out]
              intro h
              exact hll (Option.some.inj h).symm)
            clear hll
            go_upto_region 5 with fail
            refine wp_region_held_drew (S := fun w' => Kept (fun g => g = mb) wa w') (by kernel_rfl) (HW.out.trans (O := fun g => g = mb) (Kept.of_below (mx_drew wr)) (fun _ _ h => h)) (fun hS => ?_)
            have hD := mx_drew wr
            obtain ⟨wD, hwD⟩ : ∃ q, (wr).drew = q := ⟨_, rfl⟩
            rw [hwD] at hS hD ⊢
            clear hwD d0
            refine takeD 0 14 (v := ?_) rfl (by rfl) (by kernel_rfl) (by kernel_rfl) (by kernel_rfl) (fun _ _ _ h => h) (Or.inl ⟨by rfl, ?_⟩) (by assumption) ?_
            rotate_left
            · intro wq hSw
              clear hSw
              go_simp
              try with_reducible rfl
            simp only [Act.put, List.setIfInBounds_toArray, List.set_cons_zero, List.set_cons_succ]
            refine takeD 1 15 (v := ?_) rfl (by rfl) (by kernel_rfl) (by kernel_rfl) (by kernel_rfl) (fun _ _ _ h => h) (Or.inl ⟨by rfl, ?_⟩) (by assumption) ?_
            rotate_left
            · intro wq hSw
              clear hSw
              go_simp
              try with_reducible rfl
            simp only [Act.put, List.setIfInBounds_toArray, List.set_cons_zero, List.set_cons_succ]
            refine wpAnyH_ready (rs := [2]) (by kernel_rfl) (by simp) ?_
            refine AllReadyH.cons rfl (fun K hK => ?_) AllReadyH.nil
            go_simp
            refine (HCT.out wD (HIO.out.below hD)).mono ?_
            rintro e w' ⟨rfl, rfl⟩
            refine hK.out _ _ hS (fun _ => ?_)
            clear hK
            refine takeD 3 17 (v := ?_) rfl (by rfl) (by kernel_rfl) (by kernel_rfl) (by kernel_rfl) (fun _ _ _ h => h) (Or.inl ⟨by rfl, ?_⟩) (by assumption) ?_
            rotate_left
            · intro wq hSw
              clear hSw
              go_simp
              try with_reducible rfl
            simp only [Act.put, List.setIfInBounds_toArray, List.set_cons_zero, List.set_cons_succ]
            refine takeD 4 18 (v := ?_) rfl (by rfl) (by kernel_rfl) (by kernel_rfl) (by kernel_rfl) (fun _ _ _ h => h) (Or.inl ⟨by rfl, ?_⟩) (by assumption) ?_
            rotate_left
            · intro wq hSw
              clear hSw
              go_simp
              try with_reducible rfl
            simp only [Act.put, List.setIfInBounds_toArray, List.set_cons_zero, List.set_cons_succ]
            refine takeD 5 19 (v := ?_) rfl (by rfl) (by kernel_rfl) (by kernel_rfl) (by kernel_rfl) (fun _ _ _ h => h) (Or.inl ⟨by rfl, ?_⟩) (by assumption) ?_
            rotate_left
            · intro wq hSw
              clear hSw
              go_simp
              try with_reducible rfl
            simp only [Act.put, List.setIfInBounds_toArray, List.set_cons_zero, List.set_cons_succ]
            refine takeD 6 20 (v := ?_) rfl (by rfl) (by kernel_rfl) (by kernel_rfl) (by kernel_rfl) (fun _ _ _ h => h) (Or.inl ⟨by rfl, ?_⟩) (by assumption) ?_
            rotate_left
            · intro wq hSw
              clear hSw
              go_simp
              try with_reducible rfl
            simp only [Act.put, List.setIfInBounds_toArray, List.set_cons_zero, List.set_cons_succ]
            refine takeD 7 21 (v := ?_) rfl (by rfl) (by kernel_rfl) (by kernel_rfl) (by kernel_rfl) (fun _ _ _ h => h) (Or.inl ⟨by rfl, ?_⟩) (by assumption) ?_
            rotate_left
            · intro wq hSw
              clear hSw
              go_simp
              try with_reducible rfl
            simp only [Act.put, List.setIfInBounds_toArray, List.set_cons_zero, List.set_cons_succ]
            refine takeD 8 22 (v := ?_) rfl (by rfl) (by kernel_rfl) (by kernel_rfl) (by kernel_rfl) (fun _ _ _ h => h) (Or.inl ⟨by rfl, ?_⟩) (by assumption) ?_
            rotate_left
            · intro wq hSw
              clear hSw
              go_simp
              try with_reducible rfl
            simp only [Act.put, List.setIfInBounds_toArray, List.set_cons_zero, List.set_cons_succ]
            refine takeD 9 23 (v := ?_) rfl (by rfl) (by kernel_rfl) (by kernel_rfl) (by kernel_rfl) (fun _ _ _ h => h) (Or.inl ⟨by rfl, ?_⟩) (by assumption) ?_
            rotate_left
            · intro wq hSw
              clear hSw
              go_simp
              try with_reducible rfl
            simp only [Act.put, List.setIfInBounds_toArray, List.set_cons_zero, List.set_cons_succ]
            refine takeD 10 24 (v := ?_) rfl (by rfl) (by kernel_rfl) (by kernel_rfl) (by kernel_rfl) (fun _ _ _ h => h) (Or.inl ⟨by rfl, ?_⟩) (by assumption) ?_
            rotate_left
            · intro wq hSw
              have k2 := (hSw.cell (p := ⟨w.heap.size, 2, none⟩) hzw hnm).trans C2.out
              clear hSw
              go_simp
              try with_reducible rfl
            simp only [Act.put, List.setIfInBounds_toArray, List.set_cons_zero, List.set_cons_succ]
            refine takeD 11 25 (v := ?_) rfl (by rfl) (by kernel_rfl) (by kernel_rfl) (by kernel_rfl) (fun _ _ _ h => h) (Or.inl ⟨by rfl, ?_⟩) (by assumption) ?_
            rotate_left
            · intro wq hSw
              clear hSw
              go_simp
              try with_reducible rfl
            simp only [Act.put, List.setIfInBounds_toArray, List.set_cons_zero, List.set_cons_succ]
            refine takeD 12 26 (v := ?_) rfl (by rfl) (by kernel_rfl) (by kernel_rfl) (by kernel_rfl) (fun _ _ _ h => h) (Or.inl ⟨by rfl, ?_⟩) (by assumption) ?_
            rotate_left
            · intro wq hSw
              have k0 := (hSw.cell (p := ⟨gc, oc, none⟩) hgc hgm).trans E2.out
              clear hSw
              go_simp
              try with_reducible rfl
            simp only [Act.put, List.setIfInBounds_toArray, List.set_cons_zero, List.set_cons_succ]
            refine takeD 13 27 (v := ?_) rfl (by rfl) (by kernel_rfl) (by kernel_rfl) (by kernel_rfl) (fun _ _ _ h => h) (Or.inl ⟨by rfl, ?_⟩) (by assumption) ?_
            rotate_left
            · intro wq hSw
              clear hSw
              go_simp
              try with_reducible rfl
            simp only [Act.put, List.setIfInBounds_toArray, List.set_cons_zero, List.set_cons_succ]
            refine takeD 14 28 (v := ?_) rfl (by rfl) (by kernel_rfl) (by kernel_rfl) (by kernel_rfl) (fun _ _ _ h => h) (Or.inl ⟨by rfl, ?_⟩) (by assumption) ?_
            rotate_left
            · intro wq hSw
              clear hSw
              go_simp
              try with_reducible rfl
            simp only [Act.put, List.setIfInBounds_toArray, List.set_cons_zero, List.set_cons_succ]
            refine takeD 15 29 (v := ?_) rfl (by rfl) (by kernel_rfl) (by kernel_rfl) (by kernel_rfl) (fun _ _ _ h => h) (Or.inl ⟨by rfl, ?_⟩) (by assumption) ?_
            rotate_left
            · intro wq hSw
              clear hSw
              go_simp
              try with_reducible rfl
            simp only [Act.put, List.setIfInBounds_toArray, List.set_cons_zero, List.set_cons_succ]
            refine takeD 16 30 (v := ?_) rfl (by rfl) (by kernel_rfl) (by kernel_rfl) (by kernel_rfl) (fun _ _ _ h => h) (Or.inl ⟨by rfl, ?_⟩) (by assumption) ?_
            rotate_left
            · intro wq hSw
              have k0 := (hSw.cell (p := ⟨w.heap.size, 0, none⟩) hzw hnm).trans C0.out
              have k1 := (hSw.cell (p := ⟨w.heap.size, 1, none⟩) hzw hnm).trans C1.out
              have k2 := (hSw.cell (p := ⟨w.heap.size, 2, none⟩) hzw hnm).trans C2.out
              have k3 := (hSw.cell (p := ⟨w.heap.size, 3, none⟩) hzw hnm).trans C3.out
              clear hSw
              go_simp
              try with_reducible rfl
            simp only [Act.put, List.setIfInBounds_toArray, List.set_cons_zero, List.set_cons_succ]
            refine takeD 17 31 (v := ?_) rfl (by rfl) (by kernel_rfl) (by kernel_rfl) (by kernel_rfl) (fun _ _ _ h => h) (Or.inl ⟨by rfl, ?_⟩) (by assumption) ?_
            rotate_left
            · intro wq hSw
              clear hSw
              go_simp
              try with_reducible rfl
            simp only [Act.put, List.setIfInBounds_toArray, List.set_cons_zero, List.set_cons_succ]
            refine wpAnyH_ready (rs := [18]) (by kernel_rfl) (by simp) ?_
            refine AllReadyH.cons rfl (fun K hK => ?_) AllReadyH.nil
            go_simp
            refine (HV.out wD).mono ?_
            rintro e w' ⟨rfl, rfl⟩
            refine hK.out _ _ hS (fun _ => ?_)
            clear hK
            refine wpAnyH_ready (rs := [19]) (by kernel_rfl) (by simp) ?_
            refine AllReadyH.cons rfl (fun K hK => ?_) AllReadyH.nil
            go_simp
            have hih := HIMP.out p x HPX.out wD g k (HWK.out.kept hS) (HM.out.below hD) (fun q' y' hq' hy' => HK.out q' y' (List.getElem?_eq_some_iff.1 hy').1 hy') hbd
            refine hih.mono ?_
            rintro e w3 ⟨g2, k2, rfl, hm3, hk3, hu3, hb3, hkw⟩
            have hSN := hS.trans (O := fun g => g = mb) hkw (fun _ _ h => h)
            have HOD := Lib.hid (own_kept (own_below HO.out hD) hkw (fun g hg e => by have h1 := (own_lt HO.out g hg).1; have h2 := HBA.out.size; omega))
            have HKN3 := Lib.hid (show Kn A T its c g2 its.length from fun q' y' hq' hy' => by
              by_cases h : q' < p
              · exact hk3 q' y' h hy'
              · rw [hu3 q' y' (by omega) hy']
                exact HK.out q' y' hq' hy')
            have HMD := Lib.hid hm3
            have hbd3 : k2 + 2 * zer its g2 ≤ B := Nat.le_trans hb3 hbd
            refine hK.out _ _ hSN (fun _ => ?_)
            clear hK hm3 hk3 hu3 hb3 hkw hS hih hD
            have hS := hSN
            clear hSN
            obtain ⟨ib, hib⟩ : ∃ z, impl15 A T c (litV x.lit : Nat) = z := ⟨_, rfl⟩
            rw [hib]
            have HIB := Lib.hid (show impl15 A T c (litV l : Nat) = ib from by rw [← HLV.out]; exact hib)
            clear hib
            cases ib with
            | true =>
              refine takeD 20 34 (v := ?_) rfl (by rfl) (by kernel_rfl) (by kernel_rfl) (by kernel_rfl) (fun _ _ _ h => h) (Or.inl ⟨by rfl, ?_⟩) (by assumption) ?_
              rotate_left
              · intro wq hSw
                clear hSw
                go_simp
                try with_reducible rfl
              simp only [Act.put, List.setIfInBounds_toArray, List.set_cons_zero, List.set_cons_succ]
              refine takeD 21 35 (v := ?_) rfl (by rfl) (by kernel_rfl) (by kernel_rfl) (by kernel_rfl) (fun _ _ _ h => h) (Or.inl ⟨by rfl, ?_⟩) (by assumption) ?_
              rotate_left
              · intro wq hSw
                clear hSw
                go_simp
                try with_reducible rfl
              simp only [Act.put, List.setIfInBounds_toArray, List.set_cons_zero, List.set_cons_succ]
              refine takeD 22 36 (v := ?_) rfl (by rfl) (by kernel_rfl) (by kernel_rfl) (by kernel_rfl) (fun _ _ _ h => h) (Or.inl ⟨by rfl, ?_⟩) (by assumption) ?_
              rotate_left
              · intro wq hSw
                clear hSw
                go_simp
                try with_reducible rfl
              simp only [Act.put, List.setIfInBounds_toArray, List.set_cons_zero, List.set_cons_succ]
              refine wpAnyH_done (by kernel_rfl) ?_ _
              have HKD := Lib.hid hS
              clear hS
              have HRN := Lib.hid (show shor15 A T c out (c.drop (j + 1)) = SHR from (shor15_cons (by rw [if_neg (fun h => h.2.elim HNE.out (fun h => by rw [HIB.out] at h; cases h))])).symm.trans HR2.out)
              go_wp2_with fail
              go_roundw
              case rel => exact ⟨j + 1, out, g2, k2, by omega, by go_num, by omega, HOD, HRN, HMD, HKN3, hbd3, HKD⟩
              case measure => simp [intOf]; omega
            | false =>
              refine takeD 20 34 (v := ?_) rfl (by rfl) (by kernel_rfl) (by kernel_rfl) (by kernel_rfl) (fun _ _ _ h => h) (Or.inl ⟨by rfl, ?_⟩) (by assumption) ?_
              rotate_left
              · intro wq hSw
                clear hSw
                go_simp
                try with_reducible rfl
              simp only [Act.put, List.setIfInBounds_toArray, List.set_cons_zero, List.set_cons_succ]
              refine takeD 21 35 (v := ?_) rfl (by rfl) (by kernel_rfl) (by kernel_rfl) (by kernel_rfl) (fun _ _ _ h => h) (Or.inl ⟨by rfl, ?_⟩) (by assumption) ?_
              rotate_left
              · intro wq hSw
                clear hSw
                go_simp
                try with_reducible rfl
              simp only [Act.put, List.setIfInBounds_toArray, List.set_cons_zero, List.set_cons_succ]
              refine takeD 22 36 (v := ?_) rfl (by rfl) (by kernel_rfl) (by kernel_rfl) (by kernel_rfl) (fun _ _ _ h => h) (Or.inl ⟨by rfl, ?_⟩) (by assumption) ?_
              rotate_left
              · intro wq hSw
                clear hSw
                go_simp
                try with_reducible rfl
              simp only [Act.put, List.setIfInBounds_toArray, List.set_cons_zero, List.set_cons_succ]
              refine wpAnyH_done (by kernel_rfl) ?_ _
              have HKD := Lib.hid hS
              clear hS
              have HRN := Lib.hid (show shor15 A T c (out ++ [l]) (c.drop (j + 1)) = SHR from (shor15_cons (by rw [if_pos ⟨HCB.out, .inr HIB.out⟩])).symm.trans HR2.out)
              have hzn := HKD.out.size
              go_wp2_with (at_builtin; refine wpList_append_own_at _ rfl _ _ 28 rfl wa.heap.size 26 i0 (.int .i64 0) 1 8 Try.underlying28 hi0 hi1 hi2 hi3 rfl (by decide) _ out.length _ rfl (own_below HOD.out (mx_al w3 (.cells #[.int .i64 l] 26))) ⟨w3.heap.size, 0, none⟩ 1 1 [.int .i64 l] rfl rfl (cell_one15 _ _ _) (by simp [Value.oneCell']) (by unfold maxLen; omega) (by omega) (by simp; omega) ?_; intro v' w9 hown hgrow hnl hat; have hkG := (HKD.out.trans (O := fun g => g = mb) (Kept.of_below (mx_al w3 (.cells #[.int .i64 l] 26))) (fun _ _ h => h)).trans (O := fun g => g = mb) (Kept.grown hgrow) (fun i hi e => absurd (own_lt HOD.out i e.symm).1 (by omega)); have hmG := HMD.out.below (mx_al w3 (.cells #[.int .i64 l] 26)); have hmG2 := hmG.kept (Kept.grown hgrow) (fun e => by have h1 := (own_lt HOD.out mb e.symm).1; have h2 := HBA.out.size; omega); obtain ⟨A7', k7', hv2, _⟩ := mx_slice hown; subst hv2; have HO9 := Lib.hid hown; have HK9 := Lib.hid hkG; have HM9 := Lib.hid hmG2; clear hown hgrow hnl hat hkG hmG hmG2)
              go_roundw
              case rel => exact ⟨j + 1, out ++ [l], g2, k2, by omega, by go_num, by simp; omega, Lib.hid (by rw [List.length_append, List.map_append]; exact HO9.out), HRN, HM9, HKN3, hbd3, HK9⟩
              case measure => simp [intOf]; omega
    · obtain rfl : j = c.length := by omega
      have hfin := HR.out
      rw [List.drop_length, show shor15 A T c out [] = out from rfl] at hfin
      subst hfin
      go_wp2_with fail
      go_ret
      exact ⟨⟨_, rfl, own_mono HO.out HBA.out.size⟩, (Kept.of_below (O := fun g => g = mb) HBA.out).trans (O := fun g => g = mb) HW.out (fun _ _ h => h)⟩
end Go.Proofs.Ytiodfolcnnkdjaa
