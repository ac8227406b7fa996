/- The reference of layer 14: Levels. -/
import Derived.Test.YtfbiaclpopjipaaGreatDe
namespace Go.Proofs.YtfbiaclpopjipaaGreat
open Go.RowKit

/-- the levels of a clause, each once -/
def rLvs (its : List RIt) : List Int → List Int → List Int
  | acc, [] => acc
  | acc, x :: c => if 0 ≤ rP its (litV x) ∧ 0 < rL its x ∧ acc.contains (rL its x) = false then rLvs its (acc ++ [rL its x]) c else rLvs its acc c
theorem rLvs_len (its : List RIt) (acc c : List Int) : (rLvs its acc c).length ≤ acc.length + c.length := by
  induction c generalizing acc with
  | nil => exact Nat.le_add_right _ _
  | cons x c ih =>
    unfold rLvs
    simp only [List.length_cons]
    split
    · have := ih (acc ++ [rL its x])
      simp only [List.length_append, List.length_cons, List.length_nil] at this
      omega
    · have := ih acc
      omega
set_option maxRecDepth 100000 in
set_option maxHeartbeats 4000000 in
theorem ref_levels {O : Nat → Prop} (u : Value) (l : List Int) (t : RTr) (tv : Value) (w : World) (h : RTAt w tv t) (ho : t.Ok) (hu : IntsIn O w u l) (hl : l.length ≤ 1000000) :
    Calls Tryz.prog 27 #[tv, u] w fun e w' => e = .returned (.tuple #[.int .i64 (if clauseB l = true then (rLvs t.items [] l).length else 0 : Nat), .int .i64 (if clauseB l = true then 0 else 20)]) ∧ Below w.heap.size w w' := by
  obtain ⟨i0, hi0, hi1, hi2, hi3⟩ := info_parts tinfo_int
  have hlen := ho.len
  have HOK := Lib.hid ho
  have HU0 := Lib.hid hu
  obtain ⟨Au, cu, rfl, _⟩ := hu
  obtain ⟨bb, hbb⟩ : ∃ b, clauseB l = b := ⟨_, rfl⟩
  have HBB := Lib.hid (fun (w : World) (h : IntsIn O w (.slice Au l.length cu) l) => ref_right_clause (.slice Au l.length cu) l w h (by omega))
  rw [hbb] at HBB ⊢
  clear hbb
  obtain ⟨iv, sv, rfl, hi, hs⟩ := h
  obtain ⟨wa, hwa⟩ : ∃ z, w.alloc (.cells #[.int .i64 t.vars, .int .i64 t.now, iv, sv] 61) = z := ⟨_, rfl⟩
  have hba : Below w.heap.size w wa := by rw [← hwa]; exact mx_al _ _
  have hbn : wa.heap[w.heap.size]? = some (.cells #[.int .i64 t.vars, .int .i64 t.now, iv, sv] 61 (0, 0)) := by rw [← hwa]; exact World.alloc_heap_new _ _
  have HI := Lib.hid (hi.below hba)
  have HS := Lib.hid (hs.below hba)
  have HBA := Lib.hid hba
  have HBN := Lib.hid hbn
  have HWA := Lib.hid hwa
  have C0 := Lib.hid (mx_cell (j := 0) hbn)
  have C1 := Lib.hid (mx_cell (j := 1) hbn)
  have C2 := Lib.hid (mx_cell (j := 2) hbn)
  have C3 := Lib.hid (mx_cell (j := 3) hbn)
  have hzw := heap_lt hbn
  have HT := Lib.hid (show RTAt wa (.agg #[.int .i64 t.vars, .int .i64 t.now, iv, sv]) t from ⟨iv, sv, rfl, HI.out, HS.out⟩)
  have HU := Lib.hid (HU0.out.below hba)
  clear hba hbn hs hwa hi
  cases bb with
  | false =>
    go_enter Tryz.func27, Tryz.ntmps27
    go_wp2_with fail
    rw [HWA.out]
    refine (HBB.out _ HU.out).mono ?_
    rintro e w' ⟨rfl, rfl⟩
    go_wp2_with fail
    go_ret2
    exact ⟨by simp, HBA.out⟩
  | true =>
    rw [if_pos rfl, if_pos rfl]
    go_enter Tryz.func27, Tryz.ntmps27
    go_wp2_with fail
    rw [HWA.out]
    refine (HBB.out _ HU.out).mono ?_
    rintro e w' ⟨rfl, rfl⟩
    go_wp2_with fail
    go_loopw [6, 7] (fun v i wr => ∃ (k : Nat) (acc : List Int), k ≤ l.length ∧ acc.length ≤ k ∧ i = .int .i64 k ∧ Hid (rLvs t.items [] l = rLvs t.items acc (l.drop k)) ∧ Hid (wr.ownsRow wa.heap.size 3 1 v acc.length (acc.map (Value.int .i64))) ∧ Hid (Below wa.heap.size wa wr)) (fun _ i _ => l.length - (intOf i).toNat)
    case atStart => exact ⟨0, [], Nat.zero_le _, Nat.le_refl _, rfl, Lib.hid rfl, Lib.hid (World.ownsRow_nil _ _ _ _), Lib.hid (Below.refl _ _)⟩
    case round =>
      obtain ⟨k, acc, hk, hka, rfl, HE, HV, HW⟩ := hrel
      obtain ⟨Av, cv, rfl, _⟩ := mx_slice HV.out
      by_cases hlt : k < l.length
      · obtain ⟨x, hx⟩ := getElem_of hlt
        obtain ⟨A3, c3, hA3, hlc3, _, hxs⟩ := HU.out
        simp only [Value.slice.injEq, true_and] at hA3
        obtain ⟨rfl, rfl⟩ := hA3
        obtain ⟨g3, o3, rfl, hg3, _, f0⟩ := hxs k x hx
        have F0 := Lib.hid f0
        have hkc : k < cu := by omega
        have hdr := drop_at hx
        have HPV := Lib.hid (fun (w : World) tv (h : RTAt w tv t) => ref_place14 x t tv w h HOK.out)
        clear hx hxs f0
        obtain ⟨pp, hpp⟩ : ∃ p, rP t.items (litV x : Nat) = p := ⟨_, rfl⟩
        rw [hpp] at HPV
        by_cases hp : 0 ≤ pp
        · have q0 : decide (0 ≤ pp) = true := by simpa using hp
          have HLV := Lib.hid (fun (w : World) tv (h : RTAt w tv t) => ref_level14 x t tv w h HOK.out (by rw [hpp]; exact hp))
          obtain ⟨lv, hlv⟩ : ∃ z, rL t.items x = z := ⟨_, rfl⟩
          rw [hlv] at HLV
          by_cases h0 : 0 < lv
          · have q1 : decide (0 < lv) = true := by simpa using h0
            have HH := Lib.hid (fun (w : World) (h : IntsIn (fun g => wa.heap.size ≤ g ∧ (Value.slice Av acc.length cv).ownBlock = some g) w (.slice Av acc.length cv) acc) => ref_has14 lv (.slice Av acc.length cv) acc w h (by omega))
            obtain ⟨bh, hbh⟩ : ∃ b, acc.contains lv = b := ⟨_, rfl⟩
            rw [hbh] at HH
            cases bh with
            | true =>
              have HN := Lib.hid (show rLvs t.items [] l = rLvs t.items acc (l.drop (k + 1)) from by rw [HE.out, hdr]; exact if_neg (fun h => by rw [hlv, hbh] at h; exact Bool.noConfusion h.2.2))
              clear hdr hp hpp h0 hlv hbh
              go_upto_region 7 with fail
              refine wp_region_held_drew (S := fun w' => Below wa.heap.size wa w') (by kernel_rfl) (HW.out.trans ((mx_drew wr).mono HW.out.size)) (fun hS => ?_)
              have HVD := Lib.hid (own_below HV.out (mx_drew wr))
              obtain ⟨wD, hwD⟩ : ∃ x, (wr).drew = x := ⟨_, rfl⟩
              rw [hwD] at hS HVD ⊢
              clear hwD
              refine takeD 0 17 (v := ?_) rfl (by rfl) (by kernel_rfl) (by kernel_rfl) (by kernel_rfl) (fun _ _ _ h => h) (Or.inl ⟨by rfl, ?_⟩) (by assumption) ?_
              rotate_left
              · intro wq hSw
                have k0 := (hSw.cell (p := ⟨w.heap.size, 0, none⟩) hzw).trans C0.out
                have k1 := (hSw.cell (p := ⟨w.heap.size, 1, none⟩) hzw).trans C1.out
                have k2 := (hSw.cell (p := ⟨w.heap.size, 2, none⟩) hzw).trans C2.out
                have k3 := (hSw.cell (p := ⟨w.heap.size, 3, none⟩) hzw).trans C3.out
                clear hSw
                go_simp
                try with_reducible rfl
              simp only [Act.put, List.setIfInBounds_toArray, List.set_cons_zero, List.set_cons_succ]
              refine takeD 1 18 (v := ?_) rfl (by rfl) (by kernel_rfl) (by kernel_rfl) (by kernel_rfl) (fun _ _ _ h => h) (Or.inl ⟨by rfl, ?_⟩) (by assumption) ?_
              rotate_left
              · intro wq hSw
                clear hSw
                go_simp
                try with_reducible rfl
              simp only [Act.put, List.setIfInBounds_toArray, List.set_cons_zero, List.set_cons_succ]
              refine takeD 2 19 (v := ?_) rfl (by rfl) (by kernel_rfl) (by kernel_rfl) (by kernel_rfl) (fun _ _ _ h => h) (Or.inl ⟨by rfl, ?_⟩) (by assumption) ?_
              rotate_left
              · intro wq hSw
                clear hSw
                go_simp
                try with_reducible rfl
              simp only [Act.put, List.setIfInBounds_toArray, List.set_cons_zero, List.set_cons_succ]
              refine takeD 3 20 (v := ?_) rfl (by rfl) (by kernel_rfl) (by kernel_rfl) (by kernel_rfl) (fun _ _ _ h => h) (Or.inl ⟨by rfl, ?_⟩) (by assumption) ?_
              rotate_left
              · intro wq hSw
                clear hSw
                go_simp
                try with_reducible rfl
              simp only [Act.put, List.setIfInBounds_toArray, List.set_cons_zero, List.set_cons_succ]
              refine takeD 4 21 (v := ?_) rfl (by rfl) (by kernel_rfl) (by kernel_rfl) (by kernel_rfl) (fun _ _ _ h => h) (Or.inl ⟨by rfl, ?_⟩) (by assumption) ?_
              rotate_left
              · intro wq hSw
                have k0 := (hSw.cell (p := ⟨g3, o3 + k, none⟩) hg3).trans F0.out
                clear hSw
                go_simp
                try with_reducible rfl
              simp only [Act.put, List.setIfInBounds_toArray, List.set_cons_zero, List.set_cons_succ]
              refine wpAnyH_ready (rs := [5]) (by kernel_rfl) (by simp) ?_
              refine AllReadyH.cons rfl (fun K hK => ?_) AllReadyH.nil
              go_simp
              refine (HPV.out _ _ (HT.out.below hS)).mono ?_
              rintro e x1 ⟨rfl, hbN⟩
              have hSN := hS.trans (hbN.mono hS.size)
              have HVN := Lib.hid (own_below HVD.out hbN)
              clear HVD
              have HVD := HVN
              clear HVN
              refine hK.out _ _ hSN (fun _ => ?_)
              clear hK hbN hS
              have hS := hSN
              clear hSN
              refine takeD 6 23 (v := ?_) rfl (by rfl) (by kernel_rfl) (by kernel_rfl) (by kernel_rfl) (fun _ _ _ h => h) (Or.inl ⟨by rfl, ?_⟩) (by assumption) ?_
              rotate_left
              · intro wq hSw
                clear hSw
                go_simp
                try with_reducible rfl
              simp only [Act.put, List.setIfInBounds_toArray, List.set_cons_zero, List.set_cons_succ]
              refine takeD 7 24 (v := ?_) rfl (by rfl) (by kernel_rfl) (by kernel_rfl) (by kernel_rfl) (fun _ _ _ h => h) (Or.inl ⟨by rfl, ?_⟩) (by assumption) ?_
              rotate_left
              · intro wq hSw
                clear hSw
                go_simp
                try with_reducible rfl
              simp only [Act.put, List.setIfInBounds_toArray, List.set_cons_zero, List.set_cons_succ]
              refine takeD 8 25 (v := ?_) rfl (by rfl) (by kernel_rfl) (by kernel_rfl) (by kernel_rfl) (fun _ _ _ h => h) (Or.inl ⟨by rfl, ?_⟩) (by assumption) ?_
              rotate_left
              · intro wq hSw
                have k0 := (hSw.cell (p := ⟨w.heap.size, 0, none⟩) hzw).trans C0.out
                have k1 := (hSw.cell (p := ⟨w.heap.size, 1, none⟩) hzw).trans C1.out
                have k2 := (hSw.cell (p := ⟨w.heap.size, 2, none⟩) hzw).trans C2.out
                have k3 := (hSw.cell (p := ⟨w.heap.size, 3, none⟩) hzw).trans C3.out
                clear hSw
                go_simp
                try with_reducible rfl
              simp only [Act.put, List.setIfInBounds_toArray, List.set_cons_zero, List.set_cons_succ]
              refine takeD 9 26 (v := ?_) rfl (by rfl) (by kernel_rfl) (by kernel_rfl) (by kernel_rfl) (fun _ _ _ h => h) (Or.inl ⟨by rfl, ?_⟩) (by assumption) ?_
              rotate_left
              · intro wq hSw
                clear hSw
                go_simp
                try with_reducible rfl
              simp only [Act.put, List.setIfInBounds_toArray, List.set_cons_zero, List.set_cons_succ]
              refine takeD 10 27 (v := ?_) rfl (by rfl) (by kernel_rfl) (by kernel_rfl) (by kernel_rfl) (fun _ _ _ h => h) (Or.inl ⟨by rfl, ?_⟩) (by assumption) ?_
              rotate_left
              · intro wq hSw
                clear hSw
                go_simp
                try with_reducible rfl
              simp only [Act.put, List.setIfInBounds_toArray, List.set_cons_zero, List.set_cons_succ]
              refine takeD 11 28 (v := ?_) rfl (by rfl) (by kernel_rfl) (by kernel_rfl) (by kernel_rfl) (fun _ _ _ h => h) (Or.inl ⟨by rfl, ?_⟩) (by assumption) ?_
              rotate_left
              · intro wq hSw
                clear hSw
                go_simp
                try with_reducible rfl
              simp only [Act.put, List.setIfInBounds_toArray, List.set_cons_zero, List.set_cons_succ]
              refine takeD 12 29 (v := ?_) rfl (by rfl) (by kernel_rfl) (by kernel_rfl) (by kernel_rfl) (fun _ _ _ h => h) (Or.inl ⟨by rfl, ?_⟩) (by assumption) ?_
              rotate_left
              · intro wq hSw
                have k0 := (hSw.cell (p := ⟨g3, o3 + k, none⟩) hg3).trans F0.out
                clear hSw
                go_simp
                try with_reducible rfl
              simp only [Act.put, List.setIfInBounds_toArray, List.set_cons_zero, List.set_cons_succ]
              refine wpAnyH_ready (rs := [13]) (by kernel_rfl) (by simp) ?_
              refine AllReadyH.cons rfl (fun K hK => ?_) AllReadyH.nil
              go_simp
              refine (HLV.out _ _ (HT.out.below hS)).mono ?_
              rintro e x2 ⟨rfl, hbN⟩
              have hSN := hS.trans (hbN.mono hS.size)
              have HVN := Lib.hid (own_below HVD.out hbN)
              clear HVD
              have HVD := HVN
              clear HVN
              refine hK.out _ _ hSN (fun _ => ?_)
              clear hK hbN hS
              have hS := hSN
              clear hSN
              refine takeD 14 31 (v := ?_) rfl (by rfl) (by kernel_rfl) (by kernel_rfl) (by kernel_rfl) (fun _ _ _ h => h) (Or.inl ⟨by rfl, ?_⟩) (by assumption) ?_
              rotate_left
              · intro wq hSw
                clear hSw
                go_simp
                try with_reducible rfl
              simp only [Act.put, List.setIfInBounds_toArray, List.set_cons_zero, List.set_cons_succ]
              refine takeD 15 32 (v := ?_) rfl (by rfl) (by kernel_rfl) (by kernel_rfl) (by kernel_rfl) (fun _ _ _ h => h) (Or.inl ⟨by rfl, ?_⟩) (by assumption) ?_
              rotate_left
              · intro wq hSw
                clear hSw
                go_simp
                try with_reducible rfl
              simp only [Act.put, List.setIfInBounds_toArray, List.set_cons_zero, List.set_cons_succ]
              refine takeD 16 33 (v := ?_) rfl (by rfl) (by kernel_rfl) (by kernel_rfl) (by kernel_rfl) (fun _ _ _ h => h) (Or.inl ⟨by rfl, ?_⟩) (by assumption) ?_
              rotate_left
              · intro wq hSw
                clear hSw
                go_simp
                try with_reducible rfl
              simp only [Act.put, List.setIfInBounds_toArray, List.set_cons_zero, List.set_cons_succ]
              refine takeD 17 34 (v := ?_) rfl (by rfl) (by kernel_rfl) (by kernel_rfl) (by kernel_rfl) (fun _ _ _ h => h) (Or.inl ⟨by rfl, ?_⟩) (by assumption) ?_
              rotate_left
              · intro wq hSw
                clear hSw
                go_simp
                try with_reducible rfl
              simp only [Act.put, List.setIfInBounds_toArray, List.set_cons_zero, List.set_cons_succ]
              refine takeD 18 35 (v := ?_) rfl (by rfl) (by kernel_rfl) (by kernel_rfl) (by kernel_rfl) (fun _ _ _ h => h) (Or.inl ⟨by rfl, ?_⟩) (by assumption) ?_
              rotate_left
              · intro wq hSw
                have k0 := (hSw.cell (p := ⟨w.heap.size, 0, none⟩) hzw).trans C0.out
                have k1 := (hSw.cell (p := ⟨w.heap.size, 1, none⟩) hzw).trans C1.out
                have k2 := (hSw.cell (p := ⟨w.heap.size, 2, none⟩) hzw).trans C2.out
                have k3 := (hSw.cell (p := ⟨w.heap.size, 3, none⟩) hzw).trans C3.out
                clear hSw
                go_simp
                try with_reducible rfl
              simp only [Act.put, List.setIfInBounds_toArray, List.set_cons_zero, List.set_cons_succ]
              refine takeD 19 36 (v := ?_) rfl (by rfl) (by kernel_rfl) (by kernel_rfl) (by kernel_rfl) (fun _ _ _ h => h) (Or.inl ⟨by rfl, ?_⟩) (by assumption) ?_
              rotate_left
              · intro wq hSw
                clear hSw
                go_simp
                try with_reducible rfl
              simp only [Act.put, List.setIfInBounds_toArray, List.set_cons_zero, List.set_cons_succ]
              refine takeD 20 37 (v := ?_) rfl (by rfl) (by kernel_rfl) (by kernel_rfl) (by kernel_rfl) (fun _ _ _ h => h) (Or.inl ⟨by rfl, ?_⟩) (by assumption) ?_
              rotate_left
              · intro wq hSw
                clear hSw
                go_simp
                try with_reducible rfl
              simp only [Act.put, List.setIfInBounds_toArray, List.set_cons_zero, List.set_cons_succ]
              refine takeD 21 38 (v := ?_) rfl (by rfl) (by kernel_rfl) (by kernel_rfl) (by kernel_rfl) (fun _ _ _ h => h) (Or.inl ⟨by rfl, ?_⟩) (by assumption) ?_
              rotate_left
              · intro wq hSw
                clear hSw
                go_simp
                try with_reducible rfl
              simp only [Act.put, List.setIfInBounds_toArray, List.set_cons_zero, List.set_cons_succ]
              refine takeD 22 39 (v := ?_) rfl (by rfl) (by kernel_rfl) (by kernel_rfl) (by kernel_rfl) (fun _ _ _ h => h) (Or.inl ⟨by rfl, ?_⟩) (by assumption) ?_
              rotate_left
              · intro wq hSw
                have k0 := (hSw.cell (p := ⟨g3, o3 + k, none⟩) hg3).trans F0.out
                clear hSw
                go_simp
                try with_reducible rfl
              simp only [Act.put, List.setIfInBounds_toArray, List.set_cons_zero, List.set_cons_succ]
              refine wpAnyH_ready (rs := [23]) (by kernel_rfl) (by simp) ?_
              refine AllReadyH.cons rfl (fun K hK => ?_) AllReadyH.nil
              go_simp
              refine (HLV.out _ _ (HT.out.below hS)).mono ?_
              rintro e x3 ⟨rfl, hbN⟩
              have hSN := hS.trans (hbN.mono hS.size)
              have HVN := Lib.hid (own_below HVD.out hbN)
              clear HVD
              have HVD := HVN
              clear HVN
              refine hK.out _ _ hSN (fun _ => ?_)
              clear hK hbN hS
              have hS := hSN
              clear hSN
              refine wpAnyH_ready (rs := [24]) (by kernel_rfl) (by simp) ?_
              refine AllReadyH.cons rfl (fun K hK => ?_) AllReadyH.nil
              go_simp
              refine (HH.out x3 (IntsIn.of_own HVD.out)).mono ?_
              rintro e w' ⟨rfl, rfl⟩
              refine hK.out _ _ hS (fun _ => ?_)
              clear hK
              refine takeD 25 42 (v := ?_) rfl (by rfl) (by kernel_rfl) (by kernel_rfl) (by kernel_rfl) (fun _ _ _ h => h) (Or.inl ⟨by rfl, ?_⟩) (by assumption) ?_
              rotate_left
              · intro wq hSw
                clear hSw
                go_simp
                try with_reducible rfl
              simp only [Act.put, List.setIfInBounds_toArray, List.set_cons_zero, List.set_cons_succ]
              refine takeD 26 43 (v := ?_) rfl (by rfl) (by kernel_rfl) (by kernel_rfl) (by kernel_rfl) (fun _ _ _ h => h) (Or.inl ⟨by rfl, ?_⟩) (by assumption) ?_
              rotate_left
              · intro wq hSw
                clear hSw
                go_simp
                try with_reducible rfl
              simp only [Act.put, List.setIfInBounds_toArray, List.set_cons_zero, List.set_cons_succ]
              refine wpAnyH_done (by kernel_rfl) ?_ _
              have HB3 := Lib.hid hS
              clear hS
              go_wp2_with fail
              go_roundw
              case rel => exact ⟨k + 1, acc, by omega, by omega, by go_num, HN, HVD, HB3⟩
              case measure => simp [intOf]; omega
            | false =>
              have HN := Lib.hid (show rLvs t.items [] l = rLvs t.items (acc ++ [lv]) (l.drop (k + 1)) from by rw [HE.out, hdr, ← hlv]; exact if_pos ⟨by rw [hpp]; exact hp, by rw [hlv]; exact h0, by rw [hlv]; exact hbh⟩)
              have HNX := HN
              clear hdr hp hpp h0 hlv hbh HN
              go_upto_region 7 with fail
              refine wp_region_held_drew (S := fun w' => Below wa.heap.size wa w') (by kernel_rfl) (HW.out.trans ((mx_drew wr).mono HW.out.size)) (fun hS => ?_)
              have HVD := Lib.hid (own_below HV.out (mx_drew wr))
              obtain ⟨wD, hwD⟩ : ∃ x, (wr).drew = x := ⟨_, rfl⟩
              rw [hwD] at hS HVD ⊢
              clear hwD
              refine takeD 0 17 (v := ?_) rfl (by rfl) (by kernel_rfl) (by kernel_rfl) (by kernel_rfl) (fun _ _ _ h => h) (Or.inl ⟨by rfl, ?_⟩) (by assumption) ?_
              rotate_left
              · intro wq hSw
                have k0 := (hSw.cell (p := ⟨w.heap.size, 0, none⟩) hzw).trans C0.out
                have k1 := (hSw.cell (p := ⟨w.heap.size, 1, none⟩) hzw).trans C1.out
                have k2 := (hSw.cell (p := ⟨w.heap.size, 2, none⟩) hzw).trans C2.out
                have k3 := (hSw.cell (p := ⟨w.heap.size, 3, none⟩) hzw).trans C3.out
                clear hSw
                go_simp
                try with_reducible rfl
              simp only [Act.put, List.setIfInBounds_toArray, List.set_cons_zero, List.set_cons_succ]
              refine takeD 1 18 (v := ?_) rfl (by rfl) (by kernel_rfl) (by kernel_rfl) (by kernel_rfl) (fun _ _ _ h => h) (Or.inl ⟨by rfl, ?_⟩) (by assumption) ?_
              rotate_left
              · intro wq hSw
                clear hSw
                go_simp
                try with_reducible rfl
              simp only [Act.put, List.setIfInBounds_toArray, List.set_cons_zero, List.set_cons_succ]
              refine takeD 2 19 (v := ?_) rfl (by rfl) (by kernel_rfl) (by kernel_rfl) (by kernel_rfl) (fun _ _ _ h => h) (Or.inl ⟨by rfl, ?_⟩) (by assumption) ?_
              rotate_left
              · intro wq hSw
                clear hSw
                go_simp
                try with_reducible rfl
              simp only [Act.put, List.setIfInBounds_toArray, List.set_cons_zero, List.set_cons_succ]
              refine takeD 3 20 (v := ?_) rfl (by rfl) (by kernel_rfl) (by kernel_rfl) (by kernel_rfl) (fun _ _ _ h => h) (Or.inl ⟨by rfl, ?_⟩) (by assumption) ?_
              rotate_left
              · intro wq hSw
                clear hSw
                go_simp
                try with_reducible rfl
              simp only [Act.put, List.setIfInBounds_toArray, List.set_cons_zero, List.set_cons_succ]
              refine takeD 4 21 (v := ?_) rfl (by rfl) (by kernel_rfl) (by kernel_rfl) (by kernel_rfl) (fun _ _ _ h => h) (Or.inl ⟨by rfl, ?_⟩) (by assumption) ?_
              rotate_left
              · intro wq hSw
                have k0 := (hSw.cell (p := ⟨g3, o3 + k, none⟩) hg3).trans F0.out
                clear hSw
                go_simp
                try with_reducible rfl
              simp only [Act.put, List.setIfInBounds_toArray, List.set_cons_zero, List.set_cons_succ]
              refine wpAnyH_ready (rs := [5]) (by kernel_rfl) (by simp) ?_
              refine AllReadyH.cons rfl (fun K hK => ?_) AllReadyH.nil
              go_simp
              refine (HPV.out _ _ (HT.out.below hS)).mono ?_
              rintro e x1 ⟨rfl, hbN⟩
              have hSN := hS.trans (hbN.mono hS.size)
              have HVN := Lib.hid (own_below HVD.out hbN)
              clear HVD
              have HVD := HVN
              clear HVN
              refine hK.out _ _ hSN (fun _ => ?_)
              clear hK hbN hS
              have hS := hSN
              clear hSN
              refine takeD 6 23 (v := ?_) rfl (by rfl) (by kernel_rfl) (by kernel_rfl) (by kernel_rfl) (fun _ _ _ h => h) (Or.inl ⟨by rfl, ?_⟩) (by assumption) ?_
              rotate_left
              · intro wq hSw
                clear hSw
                go_simp
                try with_reducible rfl
              simp only [Act.put, List.setIfInBounds_toArray, List.set_cons_zero, List.set_cons_succ]
              refine takeD 7 24 (v := ?_) rfl (by rfl) (by kernel_rfl) (by kernel_rfl) (by kernel_rfl) (fun _ _ _ h => h) (Or.inl ⟨by rfl, ?_⟩) (by assumption) ?_
              rotate_left
              · intro wq hSw
                clear hSw
                go_simp
                try with_reducible rfl
              simp only [Act.put, List.setIfInBounds_toArray, List.set_cons_zero, List.set_cons_succ]
              refine takeD 8 25 (v := ?_) rfl (by rfl) (by kernel_rfl) (by kernel_rfl) (by kernel_rfl) (fun _ _ _ h => h) (Or.inl ⟨by rfl, ?_⟩) (by assumption) ?_
              rotate_left
              · intro wq hSw
                have k0 := (hSw.cell (p := ⟨w.heap.size, 0, none⟩) hzw).trans C0.out
                have k1 := (hSw.cell (p := ⟨w.heap.size, 1, none⟩) hzw).trans C1.out
                have k2 := (hSw.cell (p := ⟨w.heap.size, 2, none⟩) hzw).trans C2.out
                have k3 := (hSw.cell (p := ⟨w.heap.size, 3, none⟩) hzw).trans C3.out
                clear hSw
                go_simp
                try with_reducible rfl
              simp only [Act.put, List.setIfInBounds_toArray, List.set_cons_zero, List.set_cons_succ]
              refine takeD 9 26 (v := ?_) rfl (by rfl) (by kernel_rfl) (by kernel_rfl) (by kernel_rfl) (fun _ _ _ h => h) (Or.inl ⟨by rfl, ?_⟩) (by assumption) ?_
              rotate_left
              · intro wq hSw
                clear hSw
                go_simp
                try with_reducible rfl
              simp only [Act.put, List.setIfInBounds_toArray, List.set_cons_zero, List.set_cons_succ]
              refine takeD 10 27 (v := ?_) rfl (by rfl) (by kernel_rfl) (by kernel_rfl) (by kernel_rfl) (fun _ _ _ h => h) (Or.inl ⟨by rfl, ?_⟩) (by assumption) ?_
              rotate_left
              · intro wq hSw
                clear hSw
                go_simp
                try with_reducible rfl
              simp only [Act.put, List.setIfInBounds_toArray, List.set_cons_zero, List.set_cons_succ]
              refine takeD 11 28 (v := ?_) rfl (by rfl) (by kernel_rfl) (by kernel_rfl) (by kernel_rfl) (fun _ _ _ h => h) (Or.inl ⟨by rfl, ?_⟩) (by assumption) ?_
              rotate_left
              · intro wq hSw
                clear hSw
                go_simp
                try with_reducible rfl
              simp only [Act.put, List.setIfInBounds_toArray, List.set_cons_zero, List.set_cons_succ]
              refine takeD 12 29 (v := ?_) rfl (by rfl) (by kernel_rfl) (by kernel_rfl) (by kernel_rfl) (fun _ _ _ h => h) (Or.inl ⟨by rfl, ?_⟩) (by assumption) ?_
              rotate_left
              · intro wq hSw
                have k0 := (hSw.cell (p := ⟨g3, o3 + k, none⟩) hg3).trans F0.out
                clear hSw
                go_simp
                try with_reducible rfl
              simp only [Act.put, List.setIfInBounds_toArray, List.set_cons_zero, List.set_cons_succ]
              refine wpAnyH_ready (rs := [13]) (by kernel_rfl) (by simp) ?_
              refine AllReadyH.cons rfl (fun K hK => ?_) AllReadyH.nil
              go_simp
              refine (HLV.out _ _ (HT.out.below hS)).mono ?_
              rintro e x2 ⟨rfl, hbN⟩
              have hSN := hS.trans (hbN.mono hS.size)
              have HVN := Lib.hid (own_below HVD.out hbN)
              clear HVD
              have HVD := HVN
              clear HVN
              refine hK.out _ _ hSN (fun _ => ?_)
              clear hK hbN hS
              have hS := hSN
              clear hSN
              refine takeD 14 31 (v := ?_) rfl (by rfl) (by kernel_rfl) (by kernel_rfl) (by kernel_rfl) (fun _ _ _ h => h) (Or.inl ⟨by rfl, ?_⟩) (by assumption) ?_
              rotate_left
              · intro wq hSw
                clear hSw
                go_simp
                try with_reducible rfl
              simp only [Act.put, List.setIfInBounds_toArray, List.set_cons_zero, List.set_cons_succ]
              refine takeD 15 32 (v := ?_) rfl (by rfl) (by kernel_rfl) (by kernel_rfl) (by kernel_rfl) (fun _ _ _ h => h) (Or.inl ⟨by rfl, ?_⟩) (by assumption) ?_
              rotate_left
              · intro wq hSw
                clear hSw
                go_simp
                try with_reducible rfl
              simp only [Act.put, List.setIfInBounds_toArray, List.set_cons_zero, List.set_cons_succ]
              refine takeD 16 33 (v := ?_) rfl (by rfl) (by kernel_rfl) (by kernel_rfl) (by kernel_rfl) (fun _ _ _ h => h) (Or.inl ⟨by rfl, ?_⟩) (by assumption) ?_
              rotate_left
              · intro wq hSw
                clear hSw
                go_simp
                try with_reducible rfl
              simp only [Act.put, List.setIfInBounds_toArray, List.set_cons_zero, List.set_cons_succ]
              refine takeD 17 34 (v := ?_) rfl (by rfl) (by kernel_rfl) (by kernel_rfl) (by kernel_rfl) (fun _ _ _ h => h) (Or.inl ⟨by rfl, ?_⟩) (by assumption) ?_
              rotate_left
              · intro wq hSw
                clear hSw
                go_simp
                try with_reducible rfl
              simp only [Act.put, List.setIfInBounds_toArray, List.set_cons_zero, List.set_cons_succ]
              refine takeD 18 35 (v := ?_) rfl (by rfl) (by kernel_rfl) (by kernel_rfl) (by kernel_rfl) (fun _ _ _ h => h) (Or.inl ⟨by rfl, ?_⟩) (by assumption) ?_
              rotate_left
              · intro wq hSw
                have k0 := (hSw.cell (p := ⟨w.heap.size, 0, none⟩) hzw).trans C0.out
                have k1 := (hSw.cell (p := ⟨w.heap.size, 1, none⟩) hzw).trans C1.out
                have k2 := (hSw.cell (p := ⟨w.heap.size, 2, none⟩) hzw).trans C2.out
                have k3 := (hSw.cell (p := ⟨w.heap.size, 3, none⟩) hzw).trans C3.out
                clear hSw
                go_simp
                try with_reducible rfl
              simp only [Act.put, List.setIfInBounds_toArray, List.set_cons_zero, List.set_cons_succ]
              refine takeD 19 36 (v := ?_) rfl (by rfl) (by kernel_rfl) (by kernel_rfl) (by kernel_rfl) (fun _ _ _ h => h) (Or.inl ⟨by rfl, ?_⟩) (by assumption) ?_
              rotate_left
              · intro wq hSw
                clear hSw
                go_simp
                try with_reducible rfl
              simp only [Act.put, List.setIfInBounds_toArray, List.set_cons_zero, List.set_cons_succ]
              refine takeD 20 37 (v := ?_) rfl (by rfl) (by kernel_rfl) (by kernel_rfl) (by kernel_rfl) (fun _ _ _ h => h) (Or.inl ⟨by rfl, ?_⟩) (by assumption) ?_
              rotate_left
              · intro wq hSw
                clear hSw
                go_simp
                try with_reducible rfl
              simp only [Act.put, List.setIfInBounds_toArray, List.set_cons_zero, List.set_cons_succ]
              refine takeD 21 38 (v := ?_) rfl (by rfl) (by kernel_rfl) (by kernel_rfl) (by kernel_rfl) (fun _ _ _ h => h) (Or.inl ⟨by rfl, ?_⟩) (by assumption) ?_
              rotate_left
              · intro wq hSw
                clear hSw
                go_simp
                try with_reducible rfl
              simp only [Act.put, List.setIfInBounds_toArray, List.set_cons_zero, List.set_cons_succ]
              refine takeD 22 39 (v := ?_) rfl (by rfl) (by kernel_rfl) (by kernel_rfl) (by kernel_rfl) (fun _ _ _ h => h) (Or.inl ⟨by rfl, ?_⟩) (by assumption) ?_
              rotate_left
              · intro wq hSw
                have k0 := (hSw.cell (p := ⟨g3, o3 + k, none⟩) hg3).trans F0.out
                clear hSw
                go_simp
                try with_reducible rfl
              simp only [Act.put, List.setIfInBounds_toArray, List.set_cons_zero, List.set_cons_succ]
              refine wpAnyH_ready (rs := [23]) (by kernel_rfl) (by simp) ?_
              refine AllReadyH.cons rfl (fun K hK => ?_) AllReadyH.nil
              go_simp
              refine (HLV.out _ _ (HT.out.below hS)).mono ?_
              rintro e x3 ⟨rfl, hbN⟩
              have hSN := hS.trans (hbN.mono hS.size)
              have HVN := Lib.hid (own_below HVD.out hbN)
              clear HVD
              have HVD := HVN
              clear HVN
              refine hK.out _ _ hSN (fun _ => ?_)
              clear hK hbN hS
              have hS := hSN
              clear hSN
              refine wpAnyH_ready (rs := [24]) (by kernel_rfl) (by simp) ?_
              refine AllReadyH.cons rfl (fun K hK => ?_) AllReadyH.nil
              go_simp
              refine (HH.out x3 (IntsIn.of_own HVD.out)).mono ?_
              rintro e w' ⟨rfl, rfl⟩
              refine hK.out _ _ hS (fun _ => ?_)
              clear hK
              refine takeD 25 42 (v := ?_) rfl (by rfl) (by kernel_rfl) (by kernel_rfl) (by kernel_rfl) (fun _ _ _ h => h) (Or.inl ⟨by rfl, ?_⟩) (by assumption) ?_
              rotate_left
              · intro wq hSw
                clear hSw
                go_simp
                try with_reducible rfl
              simp only [Act.put, List.setIfInBounds_toArray, List.set_cons_zero, List.set_cons_succ]
              refine takeD 26 43 (v := ?_) rfl (by rfl) (by kernel_rfl) (by kernel_rfl) (by kernel_rfl) (fun _ _ _ h => h) (Or.inl ⟨by rfl, ?_⟩) (by assumption) ?_
              rotate_left
              · intro wq hSw
                clear hSw
                go_simp
                try with_reducible rfl
              simp only [Act.put, List.setIfInBounds_toArray, List.set_cons_zero, List.set_cons_succ]
              refine wpAnyH_done (by kernel_rfl) ?_ _
              have HB3 := Lib.hid hS
              have HV3 := HVD
              clear hS HVD
              go_upto_region 8 with fail
              refine wp_region_held_drew (S := fun w' => Below wa.heap.size wa w') (by kernel_rfl) (HB3.out.trans ((mx_drew x3).mono HB3.out.size)) (fun hS => ?_)
              have HVD := Lib.hid (own_below HV3.out (mx_drew x3))
              obtain ⟨wD, hwD⟩ : ∃ x, (x3).drew = x := ⟨_, rfl⟩
              rw [hwD] at hS HVD ⊢
              clear hwD
              refine takeD 0 44 (v := ?_) rfl (by rfl) (by kernel_rfl) (by kernel_rfl) (by kernel_rfl) (fun _ _ _ h => h) (Or.inl ⟨by rfl, ?_⟩) (by assumption) ?_
              rotate_left
              · intro wq hSw
                clear hSw
                go_simp
                try with_reducible rfl
              simp only [Act.put, List.setIfInBounds_toArray, List.set_cons_zero, List.set_cons_succ]
              refine takeD 1 45 (v := ?_) rfl (by rfl) (by kernel_rfl) (by kernel_rfl) (by kernel_rfl) (fun _ _ _ h => h) (Or.inl ⟨by rfl, ?_⟩) (by assumption) ?_
              rotate_left
              · intro wq hSw
                have k0 := (hSw.cell (p := ⟨w.heap.size, 0, none⟩) hzw).trans C0.out
                have k1 := (hSw.cell (p := ⟨w.heap.size, 1, none⟩) hzw).trans C1.out
                have k2 := (hSw.cell (p := ⟨w.heap.size, 2, none⟩) hzw).trans C2.out
                have k3 := (hSw.cell (p := ⟨w.heap.size, 3, none⟩) hzw).trans C3.out
                clear hSw
                go_simp
                try with_reducible rfl
              simp only [Act.put, List.setIfInBounds_toArray, List.set_cons_zero, List.set_cons_succ]
              refine takeD 2 46 (v := ?_) rfl (by rfl) (by kernel_rfl) (by kernel_rfl) (by kernel_rfl) (fun _ _ _ h => h) (Or.inl ⟨by rfl, ?_⟩) (by assumption) ?_
              rotate_left
              · intro wq hSw
                clear hSw
                go_simp
                try with_reducible rfl
              simp only [Act.put, List.setIfInBounds_toArray, List.set_cons_zero, List.set_cons_succ]
              refine takeD 3 47 (v := ?_) rfl (by rfl) (by kernel_rfl) (by kernel_rfl) (by kernel_rfl) (fun _ _ _ h => h) (Or.inl ⟨by rfl, ?_⟩) (by assumption) ?_
              rotate_left
              · intro wq hSw
                clear hSw
                go_simp
                try with_reducible rfl
              simp only [Act.put, List.setIfInBounds_toArray, List.set_cons_zero, List.set_cons_succ]
              refine takeD 4 48 (v := ?_) rfl (by rfl) (by kernel_rfl) (by kernel_rfl) (by kernel_rfl) (fun _ _ _ h => h) (Or.inl ⟨by rfl, ?_⟩) (by assumption) ?_
              rotate_left
              · intro wq hSw
                clear hSw
                go_simp
                try with_reducible rfl
              simp only [Act.put, List.setIfInBounds_toArray, List.set_cons_zero, List.set_cons_succ]
              refine takeD 5 49 (v := ?_) rfl (by rfl) (by kernel_rfl) (by kernel_rfl) (by kernel_rfl) (fun _ _ _ h => h) (Or.inl ⟨by rfl, ?_⟩) (by assumption) ?_
              rotate_left
              · intro wq hSw
                have k0 := (hSw.cell (p := ⟨g3, o3 + k, none⟩) hg3).trans F0.out
                clear hSw
                go_simp
                try with_reducible rfl
              simp only [Act.put, List.setIfInBounds_toArray, List.set_cons_zero, List.set_cons_succ]
              refine wpAnyH_ready (rs := [6]) (by kernel_rfl) (by simp) ?_
              refine AllReadyH.cons rfl (fun K hK => ?_) AllReadyH.nil
              go_simp
              refine (HLV.out _ _ (HT.out.below hS)).mono ?_
              rintro e y1 ⟨rfl, hbN⟩
              have hSN := hS.trans (hbN.mono hS.size)
              have HVN := Lib.hid (own_below HVD.out hbN)
              clear HVD
              have HVD := HVN
              clear HVN
              refine hK.out _ _ hSN (fun _ => ?_)
              clear hK hbN hS
              have hS := hSN
              clear hSN
              refine wpAnyH_ready (rs := [7]) (by kernel_rfl) (by simp) ?_
              refine AllReadyH.cons rfl (fun K hK => ?_) AllReadyH.nil
              go_simp
              obtain ⟨y2, hwn⟩ : ∃ z, y1.alloc (.cells #[.int .i64 lv] 3) = z := ⟨_, rfl⟩
              have hbn : Below y1.heap.size y1 y2 := by rw [← hwn]; exact mx_al _ _
              have hnn := mx_src y1 3 [.int .i64 lv]
              rw [show ([.int .i64 lv] : List Value).toArray = #[.int .i64 lv] from rfl, hwn] at hnn
              rw [hwn]
              have HN := Lib.hid hnn
              have HVN := Lib.hid (own_below HVD.out hbn)
              clear HVD
              have HVD := HVN
              have hSN := hS.trans (hbn.mono hS.size)
              refine hK.out _ _ hSN (fun _ => ?_)
              clear hK hbn hS hnn hwn HVN
              have hS := hSN
              clear hSN
              refine wpAnyH_ready (rs := [8]) (by kernel_rfl) (by simp) ?_
              refine AllReadyH.cons rfl (fun K hK => ?_) AllReadyH.nil
              rw [if_pos (by rfl)]
              refine wp_append_any_at 52 (by rfl) _ _ 36 rfl wa.heap.size 3 i0 (.int .i64 0) 1 8 Tryz.underlying36 hi0 hi1 hi2 hi3 rfl (by decide) _ acc.length _ (by rfl) HVD.out (.slice (some ⟨y1.heap.size, 0, none⟩) 1 1) 1 [.int .i64 lv] (by rfl) HN.out rfl (by simp [Value.oneCell']) (by unfold maxLen; omega) (by omega) hS.size ?_
              intro v' y3 hown hgrow hat
              obtain ⟨Ax, kx, rfl, _⟩ := mx_slice hown
              have hSN := hS.grown hgrow hS.size (fun g hg => (own_lt HVD.out g hg).1)
              have HOX := Lib.hid hown
              refine hK.out _ _ hSN (fun _ => ?_)
              clear hK hown hgrow hat hS
              have hS := hSN
              clear hSN
              refine takeD 9 6 (v := ?_) rfl (by rfl) (by kernel_rfl) (by kernel_rfl) (by kernel_rfl) (fun _ _ _ h => h) (Or.inl ⟨by rfl, ?_⟩) (by assumption) ?_
              rotate_left
              · intro wq hSw
                clear hSw
                go_simp
                try with_reducible rfl
              simp only [Act.put, List.setIfInBounds_toArray, List.set_cons_zero, List.set_cons_succ]
              refine wpAnyH_done (by kernel_rfl) ?_ _
              have HB4 := Lib.hid hS
              clear hS
              go_wp2_with fail
              go_roundw
              case rel => exact ⟨k + 1, acc ++ [lv], by omega, by simp; omega, by go_num, HNX, Lib.hid (by rw [List.length_append, List.map_append]; exact HOX.out), HB4⟩
              case measure => simp [intOf]; omega
          · have q1 : decide (0 < lv) = false := by simpa using h0
            have HN := Lib.hid (show rLvs t.items [] l = rLvs t.items acc (l.drop (k + 1)) from by rw [HE.out, hdr]; exact if_neg (fun h => h0 (by rw [hlv] at h; exact h.2.1)))
            clear hdr hp hpp h0 hlv
            go_upto_region 7 with fail
            refine wp_region_held_drew (S := fun w' => Below wa.heap.size wa w') (by kernel_rfl) (HW.out.trans ((mx_drew wr).mono HW.out.size)) (fun hS => ?_)
            have HVD := Lib.hid (own_below HV.out (mx_drew wr))
            obtain ⟨wD, hwD⟩ : ∃ x, (wr).drew = x := ⟨_, rfl⟩
            rw [hwD] at hS HVD ⊢
            clear hwD
            refine takeD 0 17 (v := ?_) rfl (by rfl) (by kernel_rfl) (by kernel_rfl) (by kernel_rfl) (fun _ _ _ h => h) (Or.inl ⟨by rfl, ?_⟩) (by assumption) ?_
            rotate_left
            · intro wq hSw
              have k0 := (hSw.cell (p := ⟨w.heap.size, 0, none⟩) hzw).trans C0.out
              have k1 := (hSw.cell (p := ⟨w.heap.size, 1, none⟩) hzw).trans C1.out
              have k2 := (hSw.cell (p := ⟨w.heap.size, 2, none⟩) hzw).trans C2.out
              have k3 := (hSw.cell (p := ⟨w.heap.size, 3, none⟩) hzw).trans C3.out
              clear hSw
              go_simp
              try with_reducible rfl
            simp only [Act.put, List.setIfInBounds_toArray, List.set_cons_zero, List.set_cons_succ]
            refine takeD 1 18 (v := ?_) rfl (by rfl) (by kernel_rfl) (by kernel_rfl) (by kernel_rfl) (fun _ _ _ h => h) (Or.inl ⟨by rfl, ?_⟩) (by assumption) ?_
            rotate_left
            · intro wq hSw
              clear hSw
              go_simp
              try with_reducible rfl
            simp only [Act.put, List.setIfInBounds_toArray, List.set_cons_zero, List.set_cons_succ]
            refine takeD 2 19 (v := ?_) rfl (by rfl) (by kernel_rfl) (by kernel_rfl) (by kernel_rfl) (fun _ _ _ h => h) (Or.inl ⟨by rfl, ?_⟩) (by assumption) ?_
            rotate_left
            · intro wq hSw
              clear hSw
              go_simp
              try with_reducible rfl
            simp only [Act.put, List.setIfInBounds_toArray, List.set_cons_zero, List.set_cons_succ]
            refine takeD 3 20 (v := ?_) rfl (by rfl) (by kernel_rfl) (by kernel_rfl) (by kernel_rfl) (fun _ _ _ h => h) (Or.inl ⟨by rfl, ?_⟩) (by assumption) ?_
            rotate_left
            · intro wq hSw
              clear hSw
              go_simp
              try with_reducible rfl
            simp only [Act.put, List.setIfInBounds_toArray, List.set_cons_zero, List.set_cons_succ]
            refine takeD 4 21 (v := ?_) rfl (by rfl) (by kernel_rfl) (by kernel_rfl) (by kernel_rfl) (fun _ _ _ h => h) (Or.inl ⟨by rfl, ?_⟩) (by assumption) ?_
            rotate_left
            · intro wq hSw
              have k0 := (hSw.cell (p := ⟨g3, o3 + k, none⟩) hg3).trans F0.out
              clear hSw
              go_simp
              try with_reducible rfl
            simp only [Act.put, List.setIfInBounds_toArray, List.set_cons_zero, List.set_cons_succ]
            refine wpAnyH_ready (rs := [5]) (by kernel_rfl) (by simp) ?_
            refine AllReadyH.cons rfl (fun K hK => ?_) AllReadyH.nil
            go_simp
            refine (HPV.out _ _ (HT.out.below hS)).mono ?_
            rintro e x1 ⟨rfl, hbN⟩
            have hSN := hS.trans (hbN.mono hS.size)
            have HVN := Lib.hid (own_below HVD.out hbN)
            clear HVD
            have HVD := HVN
            clear HVN
            refine hK.out _ _ hSN (fun _ => ?_)
            clear hK hbN hS
            have hS := hSN
            clear hSN
            refine takeD 6 23 (v := ?_) rfl (by rfl) (by kernel_rfl) (by kernel_rfl) (by kernel_rfl) (fun _ _ _ h => h) (Or.inl ⟨by rfl, ?_⟩) (by assumption) ?_
            rotate_left
            · intro wq hSw
              clear hSw
              go_simp
              try with_reducible rfl
            simp only [Act.put, List.setIfInBounds_toArray, List.set_cons_zero, List.set_cons_succ]
            refine takeD 7 24 (v := ?_) rfl (by rfl) (by kernel_rfl) (by kernel_rfl) (by kernel_rfl) (fun _ _ _ h => h) (Or.inl ⟨by rfl, ?_⟩) (by assumption) ?_
            rotate_left
            · intro wq hSw
              clear hSw
              go_simp
              try with_reducible rfl
            simp only [Act.put, List.setIfInBounds_toArray, List.set_cons_zero, List.set_cons_succ]
            refine takeD 8 25 (v := ?_) rfl (by rfl) (by kernel_rfl) (by kernel_rfl) (by kernel_rfl) (fun _ _ _ h => h) (Or.inl ⟨by rfl, ?_⟩) (by assumption) ?_
            rotate_left
            · intro wq hSw
              have k0 := (hSw.cell (p := ⟨w.heap.size, 0, none⟩) hzw).trans C0.out
              have k1 := (hSw.cell (p := ⟨w.heap.size, 1, none⟩) hzw).trans C1.out
              have k2 := (hSw.cell (p := ⟨w.heap.size, 2, none⟩) hzw).trans C2.out
              have k3 := (hSw.cell (p := ⟨w.heap.size, 3, none⟩) hzw).trans C3.out
              clear hSw
              go_simp
              try with_reducible rfl
            simp only [Act.put, List.setIfInBounds_toArray, List.set_cons_zero, List.set_cons_succ]
            refine takeD 9 26 (v := ?_) rfl (by rfl) (by kernel_rfl) (by kernel_rfl) (by kernel_rfl) (fun _ _ _ h => h) (Or.inl ⟨by rfl, ?_⟩) (by assumption) ?_
            rotate_left
            · intro wq hSw
              clear hSw
              go_simp
              try with_reducible rfl
            simp only [Act.put, List.setIfInBounds_toArray, List.set_cons_zero, List.set_cons_succ]
            refine takeD 10 27 (v := ?_) rfl (by rfl) (by kernel_rfl) (by kernel_rfl) (by kernel_rfl) (fun _ _ _ h => h) (Or.inl ⟨by rfl, ?_⟩) (by assumption) ?_
            rotate_left
            · intro wq hSw
              clear hSw
              go_simp
              try with_reducible rfl
            simp only [Act.put, List.setIfInBounds_toArray, List.set_cons_zero, List.set_cons_succ]
            refine takeD 11 28 (v := ?_) rfl (by rfl) (by kernel_rfl) (by kernel_rfl) (by kernel_rfl) (fun _ _ _ h => h) (Or.inl ⟨by rfl, ?_⟩) (by assumption) ?_
            rotate_left
            · intro wq hSw
              clear hSw
              go_simp
              try with_reducible rfl
            simp only [Act.put, List.setIfInBounds_toArray, List.set_cons_zero, List.set_cons_succ]
            refine takeD 12 29 (v := ?_) rfl (by rfl) (by kernel_rfl) (by kernel_rfl) (by kernel_rfl) (fun _ _ _ h => h) (Or.inl ⟨by rfl, ?_⟩) (by assumption) ?_
            rotate_left
            · intro wq hSw
              have k0 := (hSw.cell (p := ⟨g3, o3 + k, none⟩) hg3).trans F0.out
              clear hSw
              go_simp
              try with_reducible rfl
            simp only [Act.put, List.setIfInBounds_toArray, List.set_cons_zero, List.set_cons_succ]
            refine wpAnyH_ready (rs := [13]) (by kernel_rfl) (by simp) ?_
            refine AllReadyH.cons rfl (fun K hK => ?_) AllReadyH.nil
            go_simp
            refine (HLV.out _ _ (HT.out.below hS)).mono ?_
            rintro e x2 ⟨rfl, hbN⟩
            have hSN := hS.trans (hbN.mono hS.size)
            have HVN := Lib.hid (own_below HVD.out hbN)
            clear HVD
            have HVD := HVN
            clear HVN
            refine hK.out _ _ hSN (fun _ => ?_)
            clear hK hbN hS
            have hS := hSN
            clear hSN
            refine takeD 14 31 (v := ?_) rfl (by rfl) (by kernel_rfl) (by kernel_rfl) (by kernel_rfl) (fun _ _ _ h => h) (Or.inl ⟨by rfl, ?_⟩) (by assumption) ?_
            rotate_left
            · intro wq hSw
              clear hSw
              go_simp
              try with_reducible rfl
            simp only [Act.put, List.setIfInBounds_toArray, List.set_cons_zero, List.set_cons_succ]
            refine takeD 15 32 (v := ?_) rfl (by rfl) (by kernel_rfl) (by kernel_rfl) (by kernel_rfl) (fun _ _ _ h => h) (Or.inl ⟨by rfl, ?_⟩) (by assumption) ?_
            rotate_left
            · intro wq hSw
              clear hSw
              go_simp
              try with_reducible rfl
            simp only [Act.put, List.setIfInBounds_toArray, List.set_cons_zero, List.set_cons_succ]
            refine takeD 16 33 (v := ?_) rfl (by rfl) (by kernel_rfl) (by kernel_rfl) (by kernel_rfl) (fun _ _ _ h => h) (Or.inl ⟨by rfl, ?_⟩) (by assumption) ?_
            rotate_left
            · intro wq hSw
              clear hSw
              go_simp
              try with_reducible rfl
            simp only [Act.put, List.setIfInBounds_toArray, List.set_cons_zero, List.set_cons_succ]
            refine takeD 17 34 (v := undef) rfl (by rfl) (by kernel_rfl) (by kernel_rfl) (by kernel_rfl) (fun _ _ _ h => h) (Or.inr ⟨by rfl, rfl⟩) (by assumption) ?_
            simp only [Act.put, List.setIfInBounds_toArray, List.set_cons_zero, List.set_cons_succ]
            refine takeD 18 35 (v := undef) rfl (by rfl) (by kernel_rfl) (by kernel_rfl) (by kernel_rfl) (fun _ _ _ h => h) (Or.inr ⟨by rfl, rfl⟩) (by assumption) ?_
            simp only [Act.put, List.setIfInBounds_toArray, List.set_cons_zero, List.set_cons_succ]
            refine takeD 19 36 (v := undef) rfl (by rfl) (by kernel_rfl) (by kernel_rfl) (by kernel_rfl) (fun _ _ _ h => h) (Or.inr ⟨by rfl, rfl⟩) (by assumption) ?_
            simp only [Act.put, List.setIfInBounds_toArray, List.set_cons_zero, List.set_cons_succ]
            refine takeD 20 37 (v := undef) rfl (by rfl) (by kernel_rfl) (by kernel_rfl) (by kernel_rfl) (fun _ _ _ h => h) (Or.inr ⟨by rfl, rfl⟩) (by assumption) ?_
            simp only [Act.put, List.setIfInBounds_toArray, List.set_cons_zero, List.set_cons_succ]
            refine takeD 21 38 (v := undef) rfl (by rfl) (by kernel_rfl) (by kernel_rfl) (by kernel_rfl) (fun _ _ _ h => h) (Or.inr ⟨by rfl, rfl⟩) (by assumption) ?_
            simp only [Act.put, List.setIfInBounds_toArray, List.set_cons_zero, List.set_cons_succ]
            refine takeD 22 39 (v := undef) rfl (by rfl) (by kernel_rfl) (by kernel_rfl) (by kernel_rfl) (fun _ _ _ h => h) (Or.inr ⟨by rfl, rfl⟩) (by assumption) ?_
            simp only [Act.put, List.setIfInBounds_toArray, List.set_cons_zero, List.set_cons_succ]
            refine takeD 23 40 (v := undef) rfl (by rfl) (by kernel_rfl) (by kernel_rfl) (by kernel_rfl) (fun _ _ _ h => h) (Or.inr ⟨by rfl, rfl⟩) (by assumption) ?_
            simp only [Act.put, List.setIfInBounds_toArray, List.set_cons_zero, List.set_cons_succ]
            refine takeD 24 41 (v := undef) rfl (by rfl) (by kernel_rfl) (by kernel_rfl) (by kernel_rfl) (fun _ _ _ h => h) (Or.inr ⟨by rfl, rfl⟩) (by assumption) ?_
            simp only [Act.put, List.setIfInBounds_toArray, List.set_cons_zero, List.set_cons_succ]
            refine takeD 25 42 (v := undef) rfl (by rfl) (by kernel_rfl) (by kernel_rfl) (by kernel_rfl) (fun _ _ _ h => h) (Or.inr ⟨by rfl, rfl⟩) (by assumption) ?_
            simp only [Act.put, List.setIfInBounds_toArray, List.set_cons_zero, List.set_cons_succ]
            refine takeD 26 43 (v := ?_) rfl (by rfl) (by kernel_rfl) (by kernel_rfl) (by kernel_rfl) (fun _ _ _ h => h) (Or.inl ⟨by rfl, ?_⟩) (by assumption) ?_
            rotate_left
            · intro wq hSw
              clear hSw
              go_simp
              try with_reducible rfl
            simp only [Act.put, List.setIfInBounds_toArray, List.set_cons_zero, List.set_cons_succ]
            refine wpAnyH_done (by kernel_rfl) ?_ _
            have HB3 := Lib.hid hS
            clear hS
            go_wp2_with fail
            go_roundw
            case rel => exact ⟨k + 1, acc, by omega, by omega, by go_num, HN, HVD, HB3⟩
            case measure => simp [intOf]; omega
        · have q0 : decide (0 ≤ pp) = false := by simpa using hp
          have HN := Lib.hid (show rLvs t.items [] l = rLvs t.items acc (l.drop (k + 1)) from by rw [HE.out, hdr]; exact if_neg (fun h => hp (by rw [hpp] at h; exact h.1)))
          clear hdr hp hpp
          go_upto_region 7 with fail
          refine wp_region_held_drew (S := fun w' => Below wa.heap.size wa w') (by kernel_rfl) (HW.out.trans ((mx_drew wr).mono HW.out.size)) (fun hS => ?_)
          have HVD := Lib.hid (own_below HV.out (mx_drew wr))
          obtain ⟨wD, hwD⟩ : ∃ x, (wr).drew = x := ⟨_, rfl⟩
          rw [hwD] at hS HVD ⊢
          clear hwD
          refine takeD 0 17 (v := ?_) rfl (by rfl) (by kernel_rfl) (by kernel_rfl) (by kernel_rfl) (fun _ _ _ h => h) (Or.inl ⟨by rfl, ?_⟩) (by assumption) ?_
          rotate_left
          · intro wq hSw
            have k0 := (hSw.cell (p := ⟨w.heap.size, 0, none⟩) hzw).trans C0.out
            have k1 := (hSw.cell (p := ⟨w.heap.size, 1, none⟩) hzw).trans C1.out
            have k2 := (hSw.cell (p := ⟨w.heap.size, 2, none⟩) hzw).trans C2.out
            have k3 := (hSw.cell (p := ⟨w.heap.size, 3, none⟩) hzw).trans C3.out
            clear hSw
            go_simp
            try with_reducible rfl
          simp only [Act.put, List.setIfInBounds_toArray, List.set_cons_zero, List.set_cons_succ]
          refine takeD 1 18 (v := ?_) rfl (by rfl) (by kernel_rfl) (by kernel_rfl) (by kernel_rfl) (fun _ _ _ h => h) (Or.inl ⟨by rfl, ?_⟩) (by assumption) ?_
          rotate_left
          · intro wq hSw
            clear hSw
            go_simp
            try with_reducible rfl
          simp only [Act.put, List.setIfInBounds_toArray, List.set_cons_zero, List.set_cons_succ]
          refine takeD 2 19 (v := ?_) rfl (by rfl) (by kernel_rfl) (by kernel_rfl) (by kernel_rfl) (fun _ _ _ h => h) (Or.inl ⟨by rfl, ?_⟩) (by assumption) ?_
          rotate_left
          · intro wq hSw
            clear hSw
            go_simp
            try with_reducible rfl
          simp only [Act.put, List.setIfInBounds_toArray, List.set_cons_zero, List.set_cons_succ]
          refine takeD 3 20 (v := ?_) rfl (by rfl) (by kernel_rfl) (by kernel_rfl) (by kernel_rfl) (fun _ _ _ h => h) (Or.inl ⟨by rfl, ?_⟩) (by assumption) ?_
          rotate_left
          · intro wq hSw
            clear hSw
            go_simp
            try with_reducible rfl
          simp only [Act.put, List.setIfInBounds_toArray, List.set_cons_zero, List.set_cons_succ]
          refine takeD 4 21 (v := ?_) rfl (by rfl) (by kernel_rfl) (by kernel_rfl) (by kernel_rfl) (fun _ _ _ h => h) (Or.inl ⟨by rfl, ?_⟩) (by assumption) ?_
          rotate_left
          · intro wq hSw
            have k0 := (hSw.cell (p := ⟨g3, o3 + k, none⟩) hg3).trans F0.out
            clear hSw
            go_simp
            try with_reducible rfl
          simp only [Act.put, List.setIfInBounds_toArray, List.set_cons_zero, List.set_cons_succ]
          refine wpAnyH_ready (rs := [5]) (by kernel_rfl) (by simp) ?_
          refine AllReadyH.cons rfl (fun K hK => ?_) AllReadyH.nil
          go_simp
          refine (HPV.out _ _ (HT.out.below hS)).mono ?_
          rintro e x1 ⟨rfl, hbN⟩
          have hSN := hS.trans (hbN.mono hS.size)
          have HVN := Lib.hid (own_below HVD.out hbN)
          clear HVD
          have HVD := HVN
          clear HVN
          refine hK.out _ _ hSN (fun _ => ?_)
          clear hK hbN hS
          have hS := hSN
          clear hSN
          refine takeD 6 23 (v := ?_) rfl (by rfl) (by kernel_rfl) (by kernel_rfl) (by kernel_rfl) (fun _ _ _ h => h) (Or.inl ⟨by rfl, ?_⟩) (by assumption) ?_
          rotate_left
          · intro wq hSw
            clear hSw
            go_simp
            try with_reducible rfl
          simp only [Act.put, List.setIfInBounds_toArray, List.set_cons_zero, List.set_cons_succ]
          refine takeD 7 24 (v := ?_) rfl (by rfl) (by kernel_rfl) (by kernel_rfl) (by kernel_rfl) (fun _ _ _ h => h) (Or.inl ⟨by rfl, ?_⟩) (by assumption) ?_
          rotate_left
          · intro wq hSw
            clear hSw
            go_simp
            try with_reducible rfl
          simp only [Act.put, List.setIfInBounds_toArray, List.set_cons_zero, List.set_cons_succ]
          refine takeD 8 25 (v := undef) rfl (by rfl) (by kernel_rfl) (by kernel_rfl) (by kernel_rfl) (fun _ _ _ h => h) (Or.inr ⟨by rfl, rfl⟩) (by assumption) ?_
          simp only [Act.put, List.setIfInBounds_toArray, List.set_cons_zero, List.set_cons_succ]
          refine takeD 9 26 (v := undef) rfl (by rfl) (by kernel_rfl) (by kernel_rfl) (by kernel_rfl) (fun _ _ _ h => h) (Or.inr ⟨by rfl, rfl⟩) (by assumption) ?_
          simp only [Act.put, List.setIfInBounds_toArray, List.set_cons_zero, List.set_cons_succ]
          refine takeD 10 27 (v := undef) rfl (by rfl) (by kernel_rfl) (by kernel_rfl) (by kernel_rfl) (fun _ _ _ h => h) (Or.inr ⟨by rfl, rfl⟩) (by assumption) ?_
          simp only [Act.put, List.setIfInBounds_toArray, List.set_cons_zero, List.set_cons_succ]
          refine takeD 11 28 (v := undef) rfl (by rfl) (by kernel_rfl) (by kernel_rfl) (by kernel_rfl) (fun _ _ _ h => h) (Or.inr ⟨by rfl, rfl⟩) (by assumption) ?_
          simp only [Act.put, List.setIfInBounds_toArray, List.set_cons_zero, List.set_cons_succ]
          refine takeD 12 29 (v := undef) rfl (by rfl) (by kernel_rfl) (by kernel_rfl) (by kernel_rfl) (fun _ _ _ h => h) (Or.inr ⟨by rfl, rfl⟩) (by assumption) ?_
          simp only [Act.put, List.setIfInBounds_toArray, List.set_cons_zero, List.set_cons_succ]
          refine takeD 13 30 (v := undef) rfl (by rfl) (by kernel_rfl) (by kernel_rfl) (by kernel_rfl) (fun _ _ _ h => h) (Or.inr ⟨by rfl, rfl⟩) (by assumption) ?_
          simp only [Act.put, List.setIfInBounds_toArray, List.set_cons_zero, List.set_cons_succ]
          refine takeD 14 31 (v := undef) rfl (by rfl) (by kernel_rfl) (by kernel_rfl) (by kernel_rfl) (fun _ _ _ h => h) (Or.inr ⟨by rfl, rfl⟩) (by assumption) ?_
          simp only [Act.put, List.setIfInBounds_toArray, List.set_cons_zero, List.set_cons_succ]
          refine takeD 15 32 (v := ?_) rfl (by rfl) (by kernel_rfl) (by kernel_rfl) (by kernel_rfl) (fun _ _ _ h => h) (Or.inl ⟨by rfl, ?_⟩) (by assumption) ?_
          rotate_left
          · intro wq hSw
            clear hSw
            go_simp
            try with_reducible rfl
          simp only [Act.put, List.setIfInBounds_toArray, List.set_cons_zero, List.set_cons_succ]
          refine takeD 16 33 (v := ?_) rfl (by rfl) (by kernel_rfl) (by kernel_rfl) (by kernel_rfl) (fun _ _ _ h => h) (Or.inl ⟨by rfl, ?_⟩) (by assumption) ?_
          rotate_left
          · intro wq hSw
            clear hSw
            go_simp
            try with_reducible rfl
          simp only [Act.put, List.setIfInBounds_toArray, List.set_cons_zero, List.set_cons_succ]
          refine takeD 17 34 (v := undef) rfl (by rfl) (by kernel_rfl) (by kernel_rfl) (by kernel_rfl) (fun _ _ _ h => h) (Or.inr ⟨by rfl, rfl⟩) (by assumption) ?_
          simp only [Act.put, List.setIfInBounds_toArray, List.set_cons_zero, List.set_cons_succ]
          refine takeD 18 35 (v := undef) rfl (by rfl) (by kernel_rfl) (by kernel_rfl) (by kernel_rfl) (fun _ _ _ h => h) (Or.inr ⟨by rfl, rfl⟩) (by assumption) ?_
          simp only [Act.put, List.setIfInBounds_toArray, List.set_cons_zero, List.set_cons_succ]
          refine takeD 19 36 (v := undef) rfl (by rfl) (by kernel_rfl) (by kernel_rfl) (by kernel_rfl) (fun _ _ _ h => h) (Or.inr ⟨by rfl, rfl⟩) (by assumption) ?_
          simp only [Act.put, List.setIfInBounds_toArray, List.set_cons_zero, List.set_cons_succ]
          refine takeD 20 37 (v := undef) rfl (by rfl) (by kernel_rfl) (by kernel_rfl) (by kernel_rfl) (fun _ _ _ h => h) (Or.inr ⟨by rfl, rfl⟩) (by assumption) ?_
          simp only [Act.put, List.setIfInBounds_toArray, List.set_cons_zero, List.set_cons_succ]
          refine takeD 21 38 (v := undef) rfl (by rfl) (by kernel_rfl) (by kernel_rfl) (by kernel_rfl) (fun _ _ _ h => h) (Or.inr ⟨by rfl, rfl⟩) (by assumption) ?_
          simp only [Act.put, List.setIfInBounds_toArray, List.set_cons_zero, List.set_cons_succ]
          refine takeD 22 39 (v := undef) rfl (by rfl) (by kernel_rfl) (by kernel_rfl) (by kernel_rfl) (fun _ _ _ h => h) (Or.inr ⟨by rfl, rfl⟩) (by assumption) ?_
          simp only [Act.put, List.setIfInBounds_toArray, List.set_cons_zero, List.set_cons_succ]
          refine takeD 23 40 (v := undef) rfl (by rfl) (by kernel_rfl) (by kernel_rfl) (by kernel_rfl) (fun _ _ _ h => h) (Or.inr ⟨by rfl, rfl⟩) (by assumption) ?_
          simp only [Act.put, List.setIfInBounds_toArray, List.set_cons_zero, List.set_cons_succ]
          refine takeD 24 41 (v := undef) rfl (by rfl) (by kernel_rfl) (by kernel_rfl) (by kernel_rfl) (fun _ _ _ h => h) (Or.inr ⟨by rfl, rfl⟩) (by assumption) ?_
          simp only [Act.put, List.setIfInBounds_toArray, List.set_cons_zero, List.set_cons_succ]
          refine takeD 25 42 (v := undef) rfl (by rfl) (by kernel_rfl) (by kernel_rfl) (by kernel_rfl) (fun _ _ _ h => h) (Or.inr ⟨by rfl, rfl⟩) (by assumption) ?_
          simp only [Act.put, List.setIfInBounds_toArray, List.set_cons_zero, List.set_cons_succ]
          refine takeD 26 43 (v := ?_) rfl (by rfl) (by kernel_rfl) (by kernel_rfl) (by kernel_rfl) (fun _ _ _ h => h) (Or.inl ⟨by rfl, ?_⟩) (by assumption) ?_
          rotate_left
          · intro wq hSw
            clear hSw
            go_simp
            try with_reducible rfl
          simp only [Act.put, List.setIfInBounds_toArray, List.set_cons_zero, List.set_cons_succ]
          refine wpAnyH_done (by kernel_rfl) ?_ _
          have HB3 := Lib.hid hS
          clear hS
          go_wp2_with fail
          go_roundw
          case rel => exact ⟨k + 1, acc, by omega, by omega, by go_num, HN, HVD, HB3⟩
          case measure => simp [intOf]; omega
      · obtain rfl : k = l.length := by omega
        have hE := HE.out
        rw [List.drop_length] at hE
        have HN := Lib.hid (show rLvs t.items [] l = acc from hE)
        clear hE
        go_wp2_with fail
        go_ret2
        exact ⟨by rw [HN.out]; rfl, HBA.out.trans (HW.out.mono HBA.out.size)⟩
end Go.Proofs.YtfbiaclpopjipaaGreat
