/- The references of layer 14: Level, goes. -/
import Derived.Test.YtfbiaclpopjipaaGreatDd
namespace Go.Proofs.YtfbiaclpopjipaaGreat
open Go.RowKit

theorem rVl_place {its : List RIt} {x : Int} (h : rVl its x ≠ 0) : 0 ≤ rP its (litV x : Nat) := by
  have key : ∀ (l : List RIt) (i : Nat), rVl l x ≠ 0 → 0 ≤ rPl l (litV x : Nat) i := by
    intro l
    induction l with
    | nil => intro i h; exact absurd rfl h
    | cons y l ih =>
      intro i h
      have hv : litB x = true → 0 < (litV x : Int) := fun hb => by
        have := (litB_iff x).1 hb
        unfold litV
        rw [if_pos hb]
        omega
      unfold rPl
      split
      · omega
      · rename_i hc
        unfold rVl at h
        split at h
        · rename_i h1
          exact absurd ⟨hv h1.1, by rw [h1.2]⟩ hc
        · split at h
          · rename_i h1
            exact absurd ⟨hv h1.1, by rw [h1.2, litV_negate]⟩ hc
          · exact ih _ h
  exact key its 0 h
theorem rFails_neg {its : List RIt} {acc c r : List Int} (h : rFails its acc c = some r) (ha : ∀ x ∈ acc, rVl its x < 0) : ∀ x ∈ r, rVl its x < 0 := by
  induction c generalizing acc with
  | nil =>
    obtain rfl := Option.some.inj h
    exact ha
  | cons y c ih =>
    unfold rFails at h
    split at h
    · cases h
    · rename_i hy
      refine ih h (fun x hx => ?_)
      split at hx
      · exact ha x hx
      · rcases List.mem_append.1 hx with hx | hx
        · exact ha x hx
        · rw [List.mem_singleton.1 hx]
          omega
theorem rFailsAt_neg (all : List REn) (its : List RIt) (id : Int) : ∀ x ∈ (rFailsAt all its id).1, rVl its x < 0 := by
  unfold rFailsAt
  split
  · intro x hx; cases hx
  · split
    · split
      · rename_i h
        exact rFails_neg h (fun x hx => by cases hx)
      · intro x hx; cases hx
    · intro x hx; cases hx
theorem rFailsAt_place (all : List REn) (its : List RIt) (id : Int) : ∀ x ∈ (rFailsAt all its id).1, 0 ≤ rP its (litV x : Nat) := fun x hx => rVl_place (by have := rFailsAt_neg all its id x hx; omega)
set_option maxRecDepth 100000 in
set_option maxHeartbeats 2000000 in
theorem ref_level (id : Int) (a : RAr) (t : RTr) (av tv : Value) (w : World) (ha : RAAt w av a) (h : RTAt w tv t) (hao : a.Ok) (ho : t.Ok) :
    Calls Tryz.prog 26 #[av, tv, .int .i64 id] w fun e w' => e = .returned (.tuple #[.int .i64 (if (rFailsAt a.all t.items id).2 = 0 then rGr t.items 0 (rFailsAt a.all t.items id).1 else 0), .int .i64 (rFailsAt a.all t.items id).2]) ∧ Below w.heap.size w w' := by
  have HF := Lib.hid (fun (w : World) av tv (ha : RAAt w av a) (h : RTAt w tv t) => ref_fails14 id a t av tv w ha h hao ho)
  have HPL := Lib.hid (rFailsAt_place a.all t.items id)
  have HOK := Lib.hid ho
  obtain ⟨res, hres⟩ : ∃ r, rFailsAt a.all t.items id = r := ⟨_, rfl⟩
  rw [hres] at HF HPL ⊢
  obtain ⟨l, err⟩ := res
  obtain ⟨lv, hlv⟩ : ∃ z, (if ((l, err) : List Int × Int).2 = 0 then rGr t.items 0 ((l, err) : List Int × Int).1 else 0) = z := ⟨_, rfl⟩
  rw [hlv]
  have HLV := Lib.hid hlv
  clear hres hao ho hlv
  obtain ⟨ev, rfl, he⟩ := ha
  obtain ⟨iv, sv, rfl, hi, hs⟩ := h
  obtain ⟨wa, hwa, hba, hb0, hb1⟩ := rbox2 w #[ev, .int .i64 a.last] #[.int .i64 t.vars, .int .i64 t.now, iv, sv] 58 61
  have HE := Lib.hid (he.below hba)
  have HI := Lib.hid (hi.below hba)
  have HT := Lib.hid (show RTAt wa (.agg #[.int .i64 t.vars, .int .i64 t.now, iv, sv]) t from ⟨iv, sv, rfl, hi.below hba, hs.below hba⟩)
  have HA := Lib.hid (show RAAt wa (.agg #[ev, .int .i64 a.last]) a from ⟨ev, rfl, he.below hba⟩)
  have HBA := Lib.hid hba
  have HWA := Lib.hid hwa
  have hz0 := heap_lt hb0
  have hz1 := heap_lt hb1
  have A0 := Lib.hid (mx_cell (j := 0) hb0)
  have A1 := Lib.hid (mx_cell (j := 1) hb0)
  have B0 := Lib.hid (mx_cell (j := 0) hb1)
  have B1 := Lib.hid (mx_cell (j := 1) hb1)
  have B2 := Lib.hid (mx_cell (j := 2) hb1)
  have B3 := Lib.hid (mx_cell (j := 3) hb1)
  clear hwa hba hb0 hb1 hs
  clear hi
  go_enter Tryz.func26, Tryz.ntmps26
  go_upto_region 1 with fail
  rw [HWA.out]
  have a0 := ((Below.refl wa.heap.size wa).cell (p := ⟨w.heap.size, 0, none⟩) hz0).trans A0.out
  have a1 := ((Below.refl wa.heap.size wa).cell (p := ⟨w.heap.size, 1, none⟩) hz0).trans A1.out
  have b0 := ((Below.refl wa.heap.size wa).cell (p := ⟨w.heap.size + 1, 0, none⟩) hz1).trans B0.out
  have b1 := ((Below.refl wa.heap.size wa).cell (p := ⟨w.heap.size + 1, 1, none⟩) hz1).trans B1.out
  have b2 := ((Below.refl wa.heap.size wa).cell (p := ⟨w.heap.size + 1, 2, none⟩) hz1).trans B2.out
  have b3 := ((Below.refl wa.heap.size wa).cell (p := ⟨w.heap.size + 1, 3, none⟩) hz1).trans B3.out
  go_wp2_with fail
  refine (HF.out _ _ _ HA.out HT.out).mono ?_
  rintro e w2 ⟨⟨v, rfl, hown, hl⟩, hb⟩
  have HOWN := Lib.hid hown
  have HB2 := Lib.hid hb
  have HL := Lib.hid hl
  clear hb a0 a1 b0 b1 b2 b3 hown hl
  have b0 := (HB2.out.cell (p := ⟨w.heap.size + 1, 0, none⟩) hz1).trans B0.out
  have b1 := (HB2.out.cell (p := ⟨w.heap.size + 1, 1, none⟩) hz1).trans B1.out
  have b2 := (HB2.out.cell (p := ⟨w.heap.size + 1, 2, none⟩) hz1).trans B2.out
  have b3 := (HB2.out.cell (p := ⟨w.heap.size + 1, 3, none⟩) hz1).trans B3.out
  by_cases he : err = 0
  · subst he
    have HN := Lib.hid (show lv = rGr t.items 0 l from HLV.out.symm.trans (if_pos rfl))
    clear HLV
    go_wp2_with fail
    refine (ref_greatest v l t _ w2 (HT.out.below HB2.out) HOK.out (IntsIn.of_own HOWN.out) (by have := HL.out; omega) HPL.out).mono ?_
    rintro e w3 ⟨rfl, hb⟩
    have HB3 := Lib.hid (HBA.out.trans ((HB2.out.trans (hb.mono HB2.out.size)).mono HBA.out.size))
    clear hb
    go_wp2_with fail
    go_ret2
    exact ⟨by rw [HN.out]; rfl, HB3.out⟩
  · have q0 : (err == 0) = false := by simpa using he
    have q1 : (err != 0) = true := by simpa using he
    have HN := Lib.hid (show lv = 0 from HLV.out.symm.trans (if_neg he))
    clear he HLV
    go_wp2_with fail
    go_ret2
    exact ⟨by rw [HN.out]; rfl, HBA.out.trans (HB2.out.mono HBA.out.size)⟩
/-- the first loop of goes -/
def rGo1 (its : List RIt) (top : Int) (l : List Int) : Nat → Int → Int → List Int → Int × Int
  | _, b, m, [] => (b, m)
  | i, b, m, x :: c => if rL its x = top then (if b < 0 ∨ rP its (litV (l.getD b.toNat 0)) < rP its (litV x) then rGo1 its top l (i + 1) i (m + 1) c else rGo1 its top l (i + 1) b (m + 1) c) else rGo1 its top l (i + 1) b m c
/-- the second -/
def rGo2 (its : List RIt) (l : List Int) : Nat → Int → List Int → Int
  | _, b, [] => b
  | i, b, x :: c => if rL its x = 0 ∧ (b < 0 ∨ rP its (litV (l.getD b.toNat 0)) < rP its (litV x)) then rGo2 its l (i + 1) i c else rGo2 its l (i + 1) b c
def rGoes (its : List RIt) (l : List Int) (top : Int) : Int :=
  if 0 ≤ (rGo1 its top l 0 (-1) 0 l).1 ∧ (1 < (rGo1 its top l 0 (-1) 0 l).2 ∨ top = 0) then (rGo1 its top l 0 (-1) 0 l).1 else rGo2 its l 0 (-1) l
set_option maxRecDepth 100000 in
set_option maxHeartbeats 8000000 in
theorem ref_goes {O : Nat → Prop} (top : Int) (u : Value) (l : List Int) (t : RTr) (tv : Value) (w : World) (h : RTAt w tv t) (ho : t.Ok) (hu : IntsIn O w u l) (hl : l.length ≤ 1000000) (hp : ∀ x ∈ l, 0 ≤ rP t.items (litV x : Nat)) :
    Calls Tryz.prog 58 #[tv, u, .int .i64 top] w fun e w' => e = .returned (.int .i64 (rGoes t.items l top)) ∧ Below w.heap.size w w' := by
  have hlen := ho.len
  have HOK := Lib.hid ho
  have HPX := Lib.hid hp
  have HU0 := Lib.hid hu
  obtain ⟨Au, cu, rfl, _⟩ := hu
  clear hp
  obtain ⟨res, hres⟩ : ∃ r, rGoes t.items l top = r := ⟨_, rfl⟩
  rw [hres]
  have HRES := Lib.hid hres
  clear hres
  obtain ⟨iv, sv, rfl, hi, hs⟩ := h
  obtain ⟨wa, hwa⟩ : ∃ z, w.alloc (.cells #[.int .i64 t.vars, .int .i64 t.now, iv, sv] 61) = z := ⟨_, rfl⟩
  have hba : Below w.heap.size w wa := by rw [← hwa]; exact mx_al _ _
  have hbn : wa.heap[w.heap.size]? = some (.cells #[.int .i64 t.vars, .int .i64 t.now, iv, sv] 61 (0, 0)) := by rw [← hwa]; exact World.alloc_heap_new _ _
  have HI := Lib.hid (hi.below hba)
  have HS := Lib.hid (hs.below hba)
  have HBA := Lib.hid hba
  have HBN := Lib.hid hbn
  have HWA := Lib.hid hwa
  have C0 := Lib.hid (mx_cell (j := 0) hbn)
  have C1 := Lib.hid (mx_cell (j := 1) hbn)
  have C2 := Lib.hid (mx_cell (j := 2) hbn)
  have C3 := Lib.hid (mx_cell (j := 3) hbn)
  have hzw := heap_lt hbn
  have HT := Lib.hid (show RTAt wa (.agg #[.int .i64 t.vars, .int .i64 t.now, iv, sv]) t from ⟨iv, sv, rfl, HI.out, HS.out⟩)
  have HU := Lib.hid (HU0.out.below hba)
  clear hba hbn hs hwa hi
  go_enter Tryz.func58, Tryz.ntmps58
  go_wp2_with fail
  rw [HWA.out]
  go_loopw [7, 8, 9] (fun bv mv i wr => ∃ (k : Nat) (b m : Int), k ≤ l.length ∧ -1 ≤ b ∧ b < (k : Int) ∧ 0 ≤ m ∧ m ≤ k ∧ bv = .int .i64 b ∧ mv = .int .i64 m ∧ i = .int .i64 k ∧ Hid (rGo1 t.items top l 0 (-1) 0 l = rGo1 t.items top l k b m (l.drop k)) ∧ Hid (Below wa.heap.size wa wr)) (fun _ _ i _ => l.length - (intOf i).toNat)
  case atStart => exact ⟨0, -1, 0, Nat.zero_le _, by omega, by omega, by omega, by omega, rfl, rfl, rfl, Lib.hid rfl, Lib.hid (Below.refl _ _)⟩
  case round =>
    obtain ⟨k, b, m, hk, hb1, hb2, hm0, hmk, rfl, rfl, rfl, HG, HW⟩ := hrel
    by_cases hlt : k < l.length
    · obtain ⟨x, hx⟩ := getElem_of hlt
      obtain ⟨A3, c3, hA3, hlc3, _, hxs⟩ := HU.out.below HW.out
      simp only [Value.slice.injEq, true_and] at hA3
      obtain ⟨rfl, rfl⟩ := hA3
      obtain ⟨g3, o3, rfl, hg3, _, f0⟩ := hxs k x hx
      have F0 := Lib.hid f0
      have hkc : k < cu := by omega
      have hdr := drop_at hx
      have HTW := Lib.hid (HT.out.below HW.out)
      have HLV := Lib.hid (fun (w : World) tv (h : RTAt w tv t) => ref_level14 x t tv w h HOK.out (HPX.out x (List.mem_of_getElem? hx)))
      have HPV := Lib.hid (fun (w : World) tv (h : RTAt w tv t) => ref_place14 x t tv w h HOK.out)
      have hzr := Nat.lt_of_lt_of_le hzw HW.out.size
      have R0 := Lib.hid ((HW.out.cell (p := ⟨w.heap.size, 0, none⟩) hzw).trans C0.out)
      have R1 := Lib.hid ((HW.out.cell (p := ⟨w.heap.size, 1, none⟩) hzw).trans C1.out)
      have R2 := Lib.hid ((HW.out.cell (p := ⟨w.heap.size, 2, none⟩) hzw).trans C2.out)
      have R3 := Lib.hid ((HW.out.cell (p := ⟨w.heap.size, 3, none⟩) hzw).trans C3.out)
      by_cases hq : rL t.items x = top
      · have q1 : (rL t.items x == top) = true := by simpa using hq
        go_upto_region 5 with fail
        refine wp_region_held_drew (S := fun w' => Below wr.heap.size wr w') (by kernel_rfl) (mx_drew wr) (fun hS => ?_)
        refine takeD 0 18 (v := ?_) rfl (by rfl) (by kernel_rfl) (by kernel_rfl) (by kernel_rfl) (fun _ _ _ h => h) (Or.inl ⟨by rfl, ?_⟩) (by assumption) ?_
        rotate_left
        · intro wq hSw
          have k0 := (hSw.cell (p := ⟨w.heap.size, 0, none⟩) hzr).trans R0.out
          have k1 := (hSw.cell (p := ⟨w.heap.size, 1, none⟩) hzr).trans R1.out
          have k2 := (hSw.cell (p := ⟨w.heap.size, 2, none⟩) hzr).trans R2.out
          have k3 := (hSw.cell (p := ⟨w.heap.size, 3, none⟩) hzr).trans R3.out
          clear hSw
          go_simp
          try with_reducible rfl
        simp only [Act.put, List.setIfInBounds_toArray, List.set_cons_zero, List.set_cons_succ]
        refine takeD 1 19 (v := ?_) rfl (by rfl) (by kernel_rfl) (by kernel_rfl) (by kernel_rfl) (fun _ _ _ h => h) (Or.inl ⟨by rfl, ?_⟩) (by assumption) ?_
        rotate_left
        · intro wq hSw
          clear hSw
          go_simp
          try with_reducible rfl
        simp only [Act.put, List.setIfInBounds_toArray, List.set_cons_zero, List.set_cons_succ]
        refine takeD 2 20 (v := ?_) rfl (by rfl) (by kernel_rfl) (by kernel_rfl) (by kernel_rfl) (fun _ _ _ h => h) (Or.inl ⟨by rfl, ?_⟩) (by assumption) ?_
        rotate_left
        · intro wq hSw
          clear hSw
          go_simp
          try with_reducible rfl
        simp only [Act.put, List.setIfInBounds_toArray, List.set_cons_zero, List.set_cons_succ]
        refine takeD 3 21 (v := ?_) rfl (by rfl) (by kernel_rfl) (by kernel_rfl) (by kernel_rfl) (fun _ _ _ h => h) (Or.inl ⟨by rfl, ?_⟩) (by assumption) ?_
        rotate_left
        · intro wq hSw
          clear hSw
          go_simp
          try with_reducible rfl
        simp only [Act.put, List.setIfInBounds_toArray, List.set_cons_zero, List.set_cons_succ]
        refine takeD 4 22 (v := ?_) rfl (by rfl) (by kernel_rfl) (by kernel_rfl) (by kernel_rfl) (fun _ _ _ h => h) (Or.inl ⟨by rfl, ?_⟩) (by assumption) ?_
        rotate_left
        · intro wq hSw
          have k0 := (hSw.cell (p := ⟨g3, o3 + k, none⟩) hg3).trans F0.out
          clear hSw
          go_simp
          try with_reducible rfl
        simp only [Act.put, List.setIfInBounds_toArray, List.set_cons_zero, List.set_cons_succ]
        refine takeD 6 24 (v := ?_) rfl (by rfl) (by kernel_rfl) (by kernel_rfl) (by kernel_rfl) (fun _ _ _ h => h) (Or.inl ⟨by rfl, ?_⟩) (by assumption) ?_
        rotate_left
        · intro wq hSw
          clear hSw
          go_simp
          try with_reducible rfl
        simp only [Act.put, List.setIfInBounds_toArray, List.set_cons_zero, List.set_cons_succ]
        refine wpAnyH_ready (rs := [5]) (by kernel_rfl) (by simp) ?_
        refine AllReadyH.cons rfl (fun K hK => ?_) AllReadyH.nil
        go_simp
        refine (HLV.out _ _ (HTW.out.below hS)).mono ?_
        rintro e w2 ⟨rfl, hbN⟩
        have hSN := hS.trans (hbN.mono hS.size)
        refine hK.out _ _ hSN (fun _ => ?_)
        clear hK hbN hS
        have hS := hSN
        clear hSN
        refine takeD 7 25 (v := ?_) rfl (by rfl) (by kernel_rfl) (by kernel_rfl) (by kernel_rfl) (fun _ _ _ h => h) (Or.inl ⟨by rfl, ?_⟩) (by assumption) ?_
        rotate_left
        · intro wq hSw
          clear hSw
          go_simp
          try with_reducible rfl
        simp only [Act.put, List.setIfInBounds_toArray, List.set_cons_zero, List.set_cons_succ]
        refine wpAnyH_done (by kernel_rfl) ?_ _
        have HB2 := Lib.hid (HW.out.trans (hS.mono HW.out.size))
        have hz2 := Nat.lt_of_lt_of_le hzr hS.size
        have S0 := Lib.hid ((hS.cell (p := ⟨w.heap.size, 0, none⟩) hzr).trans R0.out)
        have S1 := Lib.hid ((hS.cell (p := ⟨w.heap.size, 1, none⟩) hzr).trans R1.out)
        have S2 := Lib.hid ((hS.cell (p := ⟨w.heap.size, 2, none⟩) hzr).trans R2.out)
        have S3 := Lib.hid ((hS.cell (p := ⟨w.heap.size, 3, none⟩) hzr).trans R3.out)
        have F02 := Lib.hid ((hS.cell (p := ⟨g3, o3 + k, none⟩) hg3).trans F0.out)
        have hg32 := Nat.lt_of_lt_of_le hg3 hS.size
        have HT2 := Lib.hid (HTW.out.below hS)
        have HQ := Lib.hid hq
        clear hq
        by_cases hb0 : b < 0
        · have q2 : decide (b < 0) = true := by simpa using hb0
          have HN := Lib.hid (show rGo1 t.items top l 0 (-1) 0 l = rGo1 t.items top l (k + 1) k (m + 1) (l.drop (k + 1)) from by rw [HG.out, hdr]; exact (if_pos HQ.out).trans (if_pos (.inl hb0)))
          clear hx hxs f0 hdr hb0 hS
          go_upto_region 7 with fail
          refine wp_region_held_drew (S := fun w' => Below w2.heap.size w2 w') (by kernel_rfl) (mx_drew w2) (fun hS => ?_)
          refine takeD 0 28 (v := ?_) rfl (by rfl) (by kernel_rfl) (by kernel_rfl) (by kernel_rfl) (fun _ _ _ h => h) (Or.inl ⟨by rfl, ?_⟩) (by assumption) ?_
          rotate_left
          · intro wq hSw
            clear hSw
            go_simp
            try with_reducible rfl
          simp only [Act.put, List.setIfInBounds_toArray, List.set_cons_zero, List.set_cons_succ]
          refine takeD 1 29 (v := ?_) rfl (by rfl) (by kernel_rfl) (by kernel_rfl) (by kernel_rfl) (fun _ _ _ h => h) (Or.inl ⟨by rfl, ?_⟩) (by assumption) ?_
          rotate_left
          · intro wq hSw
            clear hSw
            go_simp
            try with_reducible rfl
          simp only [Act.put, List.setIfInBounds_toArray, List.set_cons_zero, List.set_cons_succ]
          refine takeD 2 30 (v := ?_) rfl (by rfl) (by kernel_rfl) (by kernel_rfl) (by kernel_rfl) (fun _ _ _ h => h) (Or.inl ⟨by rfl, ?_⟩) (by assumption) ?_
          rotate_left
          · intro wq hSw
            clear hSw
            go_simp
            try with_reducible rfl
          simp only [Act.put, List.setIfInBounds_toArray, List.set_cons_zero, List.set_cons_succ]
          refine takeD 3 31 (v := undef) rfl (by rfl) (by kernel_rfl) (by kernel_rfl) (by kernel_rfl) (fun _ _ _ h => h) (Or.inr ⟨by rfl, rfl⟩) (by assumption) ?_
          simp only [Act.put, List.setIfInBounds_toArray, List.set_cons_zero, List.set_cons_succ]
          refine takeD 4 32 (v := undef) rfl (by rfl) (by kernel_rfl) (by kernel_rfl) (by kernel_rfl) (fun _ _ _ h => h) (Or.inr ⟨by rfl, rfl⟩) (by assumption) ?_
          simp only [Act.put, List.setIfInBounds_toArray, List.set_cons_zero, List.set_cons_succ]
          refine takeD 5 33 (v := undef) rfl (by rfl) (by kernel_rfl) (by kernel_rfl) (by kernel_rfl) (fun _ _ _ h => h) (Or.inr ⟨by rfl, rfl⟩) (by assumption) ?_
          simp only [Act.put, List.setIfInBounds_toArray, List.set_cons_zero, List.set_cons_succ]
          refine takeD 6 34 (v := undef) rfl (by rfl) (by kernel_rfl) (by kernel_rfl) (by kernel_rfl) (fun _ _ _ h => h) (Or.inr ⟨by rfl, rfl⟩) (by assumption) ?_
          simp only [Act.put, List.setIfInBounds_toArray, List.set_cons_zero, List.set_cons_succ]
          refine takeD 7 35 (v := undef) rfl (by rfl) (by kernel_rfl) (by kernel_rfl) (by kernel_rfl) (fun _ _ _ h => h) (Or.inr ⟨by rfl, rfl⟩) (by assumption) ?_
          simp only [Act.put, List.setIfInBounds_toArray, List.set_cons_zero, List.set_cons_succ]
          refine takeD 8 36 (v := undef) rfl (by rfl) (by kernel_rfl) (by kernel_rfl) (by kernel_rfl) (fun _ _ _ h => h) (Or.inr ⟨by rfl, rfl⟩) (by assumption) ?_
          simp only [Act.put, List.setIfInBounds_toArray, List.set_cons_zero, List.set_cons_succ]
          refine takeD 9 37 (v := undef) rfl (by rfl) (by kernel_rfl) (by kernel_rfl) (by kernel_rfl) (fun _ _ _ h => h) (Or.inr ⟨by rfl, rfl⟩) (by assumption) ?_
          simp only [Act.put, List.setIfInBounds_toArray, List.set_cons_zero, List.set_cons_succ]
          refine takeD 10 38 (v := undef) rfl (by rfl) (by kernel_rfl) (by kernel_rfl) (by kernel_rfl) (fun _ _ _ h => h) (Or.inr ⟨by rfl, rfl⟩) (by assumption) ?_
          simp only [Act.put, List.setIfInBounds_toArray, List.set_cons_zero, List.set_cons_succ]
          refine takeD 11 39 (v := undef) rfl (by rfl) (by kernel_rfl) (by kernel_rfl) (by kernel_rfl) (fun _ _ _ h => h) (Or.inr ⟨by rfl, rfl⟩) (by assumption) ?_
          simp only [Act.put, List.setIfInBounds_toArray, List.set_cons_zero, List.set_cons_succ]
          refine takeD 12 40 (v := undef) rfl (by rfl) (by kernel_rfl) (by kernel_rfl) (by kernel_rfl) (fun _ _ _ h => h) (Or.inr ⟨by rfl, rfl⟩) (by assumption) ?_
          simp only [Act.put, List.setIfInBounds_toArray, List.set_cons_zero, List.set_cons_succ]
          refine takeD 13 41 (v := undef) rfl (by rfl) (by kernel_rfl) (by kernel_rfl) (by kernel_rfl) (fun _ _ _ h => h) (Or.inr ⟨by rfl, rfl⟩) (by assumption) ?_
          simp only [Act.put, List.setIfInBounds_toArray, List.set_cons_zero, List.set_cons_succ]
          refine takeD 14 42 (v := undef) rfl (by rfl) (by kernel_rfl) (by kernel_rfl) (by kernel_rfl) (fun _ _ _ h => h) (Or.inr ⟨by rfl, rfl⟩) (by assumption) ?_
          simp only [Act.put, List.setIfInBounds_toArray, List.set_cons_zero, List.set_cons_succ]
          refine takeD 15 43 (v := undef) rfl (by rfl) (by kernel_rfl) (by kernel_rfl) (by kernel_rfl) (fun _ _ _ h => h) (Or.inr ⟨by rfl, rfl⟩) (by assumption) ?_
          simp only [Act.put, List.setIfInBounds_toArray, List.set_cons_zero, List.set_cons_succ]
          refine takeD 16 44 (v := ?_) rfl (by rfl) (by kernel_rfl) (by kernel_rfl) (by kernel_rfl) (fun _ _ _ h => h) (Or.inl ⟨by rfl, ?_⟩) (by assumption) ?_
          rotate_left
          · intro wq hSw
            clear hSw
            go_simp
            try with_reducible rfl
          simp only [Act.put, List.setIfInBounds_toArray, List.set_cons_zero, List.set_cons_succ]
          refine wpAnyH_done (by kernel_rfl) ?_ _
          have HB3 := Lib.hid (HB2.out.trans (hS.mono HB2.out.size))
          clear hS
          go_wp2_with fail
          go_roundw
          case rel => exact ⟨k + 1, k, m + 1, by omega, by omega, by omega, by omega, by omega, rfl, by go_num, by go_num, HN, HB3⟩
          case measure => simp [intOf]; omega
        · have q2 : decide (b < 0) = false := by simpa using hb0
          obtain ⟨bn, rfl⟩ : ∃ q : Nat, b = q := ⟨_, (Int.toNat_of_nonneg (by omega)).symm⟩
          have hbl : bn < l.length := by omega
          obtain ⟨y, hy⟩ := getElem_of hbl
          obtain ⟨g4, o4, e4, _, _, fy⟩ := hxs bn y hy
          simp only [Option.some.injEq, Addr.mk.injEq, and_true] at e4
          obtain ⟨rfl, rfl⟩ := e4
          have FY := Lib.hid fy
          have HGD := Lib.hid (show l.getD (bn : Int).toNat 0 = y from by rw [Int.toNat_natCast, List.getD_eq_getElem?_getD, hy]; rfl)
          have HPY := Lib.hid (fun (w : World) tv (h : RTAt w tv t) => ref_place14 y t tv w h HOK.out)
          have hbc : bn < cu := by omega
          have FY2 := Lib.hid ((hS.cell (p := ⟨g3, o3 + bn, none⟩) hg3).trans FY.out)
          by_cases hpp : rP t.items (litV y : Nat) < rP t.items (litV x : Nat)
          · have q3 : decide (rP t.items (litV y : Nat) < rP t.items (litV x : Nat)) = true := by simpa using hpp
            have HN := Lib.hid (show rGo1 t.items top l 0 (-1) 0 l = rGo1 t.items top l (k + 1) k (m + 1) (l.drop (k + 1)) from by rw [HG.out, hdr]; exact (if_pos HQ.out).trans (if_pos (.inr (by rw [HGD.out]; exact hpp))))
            clear hx hxs f0 hdr hb0 hS hpp hy fy
            go_upto_region 7 with fail
            refine wp_region_held_drew (S := fun w' => Below w2.heap.size w2 w') (by kernel_rfl) (mx_drew w2) (fun hS => ?_)
            refine takeD 0 28 (v := ?_) rfl (by rfl) (by kernel_rfl) (by kernel_rfl) (by kernel_rfl) (fun _ _ _ h => h) (Or.inl ⟨by rfl, ?_⟩) (by assumption) ?_
            rotate_left
            · intro wq hSw
              clear hSw
              go_simp
              try with_reducible rfl
            simp only [Act.put, List.setIfInBounds_toArray, List.set_cons_zero, List.set_cons_succ]
            refine takeD 1 29 (v := ?_) rfl (by rfl) (by kernel_rfl) (by kernel_rfl) (by kernel_rfl) (fun _ _ _ h => h) (Or.inl ⟨by rfl, ?_⟩) (by assumption) ?_
            rotate_left
            · intro wq hSw
              clear hSw
              go_simp
              try with_reducible rfl
            simp only [Act.put, List.setIfInBounds_toArray, List.set_cons_zero, List.set_cons_succ]
            refine takeD 2 30 (v := ?_) rfl (by rfl) (by kernel_rfl) (by kernel_rfl) (by kernel_rfl) (fun _ _ _ h => h) (Or.inl ⟨by rfl, ?_⟩) (by assumption) ?_
            rotate_left
            · intro wq hSw
              clear hSw
              go_simp
              try with_reducible rfl
            simp only [Act.put, List.setIfInBounds_toArray, List.set_cons_zero, List.set_cons_succ]
            refine takeD 3 31 (v := ?_) rfl (by rfl) (by kernel_rfl) (by kernel_rfl) (by kernel_rfl) (fun _ _ _ h => h) (Or.inl ⟨by rfl, ?_⟩) (by assumption) ?_
            rotate_left
            · intro wq hSw
              have k0 := (hSw.cell (p := ⟨w.heap.size, 0, none⟩) hz2).trans S0.out
              have k1 := (hSw.cell (p := ⟨w.heap.size, 1, none⟩) hz2).trans S1.out
              have k2 := (hSw.cell (p := ⟨w.heap.size, 2, none⟩) hz2).trans S2.out
              have k3 := (hSw.cell (p := ⟨w.heap.size, 3, none⟩) hz2).trans S3.out
              clear hSw
              go_simp
              try with_reducible rfl
            simp only [Act.put, List.setIfInBounds_toArray, List.set_cons_zero, List.set_cons_succ]
            refine takeD 4 32 (v := ?_) rfl (by rfl) (by kernel_rfl) (by kernel_rfl) (by kernel_rfl) (fun _ _ _ h => h) (Or.inl ⟨by rfl, ?_⟩) (by assumption) ?_
            rotate_left
            · intro wq hSw
              clear hSw
              go_simp
              try with_reducible rfl
            simp only [Act.put, List.setIfInBounds_toArray, List.set_cons_zero, List.set_cons_succ]
            refine takeD 5 33 (v := ?_) rfl (by rfl) (by kernel_rfl) (by kernel_rfl) (by kernel_rfl) (fun _ _ _ h => h) (Or.inl ⟨by rfl, ?_⟩) (by assumption) ?_
            rotate_left
            · intro wq hSw
              clear hSw
              go_simp
              try with_reducible rfl
            simp only [Act.put, List.setIfInBounds_toArray, List.set_cons_zero, List.set_cons_succ]
            refine takeD 6 34 (v := ?_) rfl (by rfl) (by kernel_rfl) (by kernel_rfl) (by kernel_rfl) (fun _ _ _ h => h) (Or.inl ⟨by rfl, ?_⟩) (by assumption) ?_
            rotate_left
            · intro wq hSw
              clear hSw
              go_simp
              try with_reducible rfl
            simp only [Act.put, List.setIfInBounds_toArray, List.set_cons_zero, List.set_cons_succ]
            refine takeD 7 35 (v := ?_) rfl (by rfl) (by kernel_rfl) (by kernel_rfl) (by kernel_rfl) (fun _ _ _ h => h) (Or.inl ⟨by rfl, ?_⟩) (by assumption) ?_
            rotate_left
            · intro wq hSw
              have k0 := (hSw.cell (p := ⟨g3, o3 + k, none⟩) hg32).trans F02.out
              clear hSw
              go_simp
              try with_reducible rfl
            simp only [Act.put, List.setIfInBounds_toArray, List.set_cons_zero, List.set_cons_succ]
            refine takeD 9 37 (v := ?_) rfl (by rfl) (by kernel_rfl) (by kernel_rfl) (by kernel_rfl) (fun _ _ _ h => h) (Or.inl ⟨by rfl, ?_⟩) (by assumption) ?_
            rotate_left
            · intro wq hSw
              have k0 := (hSw.cell (p := ⟨w.heap.size, 0, none⟩) hz2).trans S0.out
              have k1 := (hSw.cell (p := ⟨w.heap.size, 1, none⟩) hz2).trans S1.out
              have k2 := (hSw.cell (p := ⟨w.heap.size, 2, none⟩) hz2).trans S2.out
              have k3 := (hSw.cell (p := ⟨w.heap.size, 3, none⟩) hz2).trans S3.out
              clear hSw
              go_simp
              try with_reducible rfl
            simp only [Act.put, List.setIfInBounds_toArray, List.set_cons_zero, List.set_cons_succ]
            refine takeD 10 38 (v := ?_) rfl (by rfl) (by kernel_rfl) (by kernel_rfl) (by kernel_rfl) (fun _ _ _ h => h) (Or.inl ⟨by rfl, ?_⟩) (by assumption) ?_
            rotate_left
            · intro wq hSw
              clear hSw
              go_simp
              try with_reducible rfl
            simp only [Act.put, List.setIfInBounds_toArray, List.set_cons_zero, List.set_cons_succ]
            refine takeD 11 39 (v := ?_) rfl (by rfl) (by kernel_rfl) (by kernel_rfl) (by kernel_rfl) (fun _ _ _ h => h) (Or.inl ⟨by rfl, ?_⟩) (by assumption) ?_
            rotate_left
            · intro wq hSw
              clear hSw
              go_simp
              try with_reducible rfl
            simp only [Act.put, List.setIfInBounds_toArray, List.set_cons_zero, List.set_cons_succ]
            refine takeD 12 40 (v := ?_) rfl (by rfl) (by kernel_rfl) (by kernel_rfl) (by kernel_rfl) (fun _ _ _ h => h) (Or.inl ⟨by rfl, ?_⟩) (by assumption) ?_
            rotate_left
            · intro wq hSw
              clear hSw
              go_simp
              try with_reducible rfl
            simp only [Act.put, List.setIfInBounds_toArray, List.set_cons_zero, List.set_cons_succ]
            refine takeD 13 41 (v := ?_) rfl (by rfl) (by kernel_rfl) (by kernel_rfl) (by kernel_rfl) (fun _ _ _ h => h) (Or.inl ⟨by rfl, ?_⟩) (by assumption) ?_
            rotate_left
            · intro wq hSw
              have k0 := (hSw.cell (p := ⟨g3, o3 + bn, none⟩) hg32).trans FY2.out
              clear hSw
              go_simp
              try with_reducible rfl
            simp only [Act.put, List.setIfInBounds_toArray, List.set_cons_zero, List.set_cons_succ]
            refine wpAnyH_ready (rs := [8]) (by kernel_rfl) (by simp) ?_
            refine AllReadyH.cons rfl (fun K hK => ?_) AllReadyH.nil
            go_simp
            refine (HPV.out _ _ (HT2.out.below hS)).mono ?_
            rintro e w3 ⟨rfl, hbN⟩
            have hSN := hS.trans (hbN.mono hS.size)
            refine hK.out _ _ hSN (fun _ => ?_)
            clear hK hbN hS
            have hS := hSN
            clear hSN
            refine wpAnyH_ready (rs := [14]) (by kernel_rfl) (by simp) ?_
            refine AllReadyH.cons rfl (fun K hK => ?_) AllReadyH.nil
            go_simp
            refine (HPY.out _ _ (HT2.out.below hS)).mono ?_
            rintro e w4 ⟨rfl, hbN⟩
            have hSN := hS.trans (hbN.mono hS.size)
            refine hK.out _ _ hSN (fun _ => ?_)
            clear hK hbN hS
            have hS := hSN
            clear hSN
            refine takeD 15 43 (v := ?_) rfl (by rfl) (by kernel_rfl) (by kernel_rfl) (by kernel_rfl) (fun _ _ _ h => h) (Or.inl ⟨by rfl, ?_⟩) (by assumption) ?_
            rotate_left
            · intro wq hSw
              clear hSw
              go_simp
              try with_reducible rfl
            simp only [Act.put, List.setIfInBounds_toArray, List.set_cons_zero, List.set_cons_succ]
            refine takeD 16 44 (v := ?_) rfl (by rfl) (by kernel_rfl) (by kernel_rfl) (by kernel_rfl) (fun _ _ _ h => h) (Or.inl ⟨by rfl, ?_⟩) (by assumption) ?_
            rotate_left
            · intro wq hSw
              clear hSw
              go_simp
              try with_reducible rfl
            simp only [Act.put, List.setIfInBounds_toArray, List.set_cons_zero, List.set_cons_succ]
            refine wpAnyH_done (by kernel_rfl) ?_ _
            have HB3 := Lib.hid (HB2.out.trans (hS.mono HB2.out.size))
            clear hS
            go_wp2_with fail
            go_roundw
            case rel => exact ⟨k + 1, k, m + 1, by omega, by omega, by omega, by omega, by omega, rfl, by go_num, by go_num, HN, HB3⟩
            case measure => simp [intOf]; omega
          · have q3 : decide (rP t.items (litV y : Nat) < rP t.items (litV x : Nat)) = false := by simpa using hpp
            have HN := Lib.hid (show rGo1 t.items top l 0 (-1) 0 l = rGo1 t.items top l (k + 1) bn (m + 1) (l.drop (k + 1)) from by rw [HG.out, hdr]; exact (if_pos HQ.out).trans (if_neg (fun h => h.elim hb0 (fun h => hpp (by rw [HGD.out] at h; exact h)))))
            clear hx hxs f0 hdr hb0 hS hpp hy fy
            go_upto_region 7 with fail
            refine wp_region_held_drew (S := fun w' => Below w2.heap.size w2 w') (by kernel_rfl) (mx_drew w2) (fun hS => ?_)
            refine takeD 0 28 (v := ?_) rfl (by rfl) (by kernel_rfl) (by kernel_rfl) (by kernel_rfl) (fun _ _ _ h => h) (Or.inl ⟨by rfl, ?_⟩) (by assumption) ?_
            rotate_left
            · intro wq hSw
              clear hSw
              go_simp
              try with_reducible rfl
            simp only [Act.put, List.setIfInBounds_toArray, List.set_cons_zero, List.set_cons_succ]
            refine takeD 1 29 (v := ?_) rfl (by rfl) (by kernel_rfl) (by kernel_rfl) (by kernel_rfl) (fun _ _ _ h => h) (Or.inl ⟨by rfl, ?_⟩) (by assumption) ?_
            rotate_left
            · intro wq hSw
              clear hSw
              go_simp
              try with_reducible rfl
            simp only [Act.put, List.setIfInBounds_toArray, List.set_cons_zero, List.set_cons_succ]
            refine takeD 2 30 (v := ?_) rfl (by rfl) (by kernel_rfl) (by kernel_rfl) (by kernel_rfl) (fun _ _ _ h => h) (Or.inl ⟨by rfl, ?_⟩) (by assumption) ?_
            rotate_left
            · intro wq hSw
              clear hSw
              go_simp
              try with_reducible rfl
            simp only [Act.put, List.setIfInBounds_toArray, List.set_cons_zero, List.set_cons_succ]
            refine takeD 3 31 (v := ?_) rfl (by rfl) (by kernel_rfl) (by kernel_rfl) (by kernel_rfl) (fun _ _ _ h => h) (Or.inl ⟨by rfl, ?_⟩) (by assumption) ?_
            rotate_left
            · intro wq hSw
              have k0 := (hSw.cell (p := ⟨w.heap.size, 0, none⟩) hz2).trans S0.out
              have k1 := (hSw.cell (p := ⟨w.heap.size, 1, none⟩) hz2).trans S1.out
              have k2 := (hSw.cell (p := ⟨w.heap.size, 2, none⟩) hz2).trans S2.out
              have k3 := (hSw.cell (p := ⟨w.heap.size, 3, none⟩) hz2).trans S3.out
              clear hSw
              go_simp
              try with_reducible rfl
            simp only [Act.put, List.setIfInBounds_toArray, List.set_cons_zero, List.set_cons_succ]
            refine takeD 4 32 (v := ?_) rfl (by rfl) (by kernel_rfl) (by kernel_rfl) (by kernel_rfl) (fun _ _ _ h => h) (Or.inl ⟨by rfl, ?_⟩) (by assumption) ?_
            rotate_left
            · intro wq hSw
              clear hSw
              go_simp
              try with_reducible rfl
            simp only [Act.put, List.setIfInBounds_toArray, List.set_cons_zero, List.set_cons_succ]
            refine takeD 5 33 (v := ?_) rfl (by rfl) (by kernel_rfl) (by kernel_rfl) (by kernel_rfl) (fun _ _ _ h => h) (Or.inl ⟨by rfl, ?_⟩) (by assumption) ?_
            rotate_left
            · intro wq hSw
              clear hSw
              go_simp
              try with_reducible rfl
            simp only [Act.put, List.setIfInBounds_toArray, List.set_cons_zero, List.set_cons_succ]
            refine takeD 6 34 (v := ?_) rfl (by rfl) (by kernel_rfl) (by kernel_rfl) (by kernel_rfl) (fun _ _ _ h => h) (Or.inl ⟨by rfl, ?_⟩) (by assumption) ?_
            rotate_left
            · intro wq hSw
              clear hSw
              go_simp
              try with_reducible rfl
            simp only [Act.put, List.setIfInBounds_toArray, List.set_cons_zero, List.set_cons_succ]
            refine takeD 7 35 (v := ?_) rfl (by rfl) (by kernel_rfl) (by kernel_rfl) (by kernel_rfl) (fun _ _ _ h => h) (Or.inl ⟨by rfl, ?_⟩) (by assumption) ?_
            rotate_left
            · intro wq hSw
              have k0 := (hSw.cell (p := ⟨g3, o3 + k, none⟩) hg32).trans F02.out
              clear hSw
              go_simp
              try with_reducible rfl
            simp only [Act.put, List.setIfInBounds_toArray, List.set_cons_zero, List.set_cons_succ]
            refine takeD 9 37 (v := ?_) rfl (by rfl) (by kernel_rfl) (by kernel_rfl) (by kernel_rfl) (fun _ _ _ h => h) (Or.inl ⟨by rfl, ?_⟩) (by assumption) ?_
            rotate_left
            · intro wq hSw
              have k0 := (hSw.cell (p := ⟨w.heap.size, 0, none⟩) hz2).trans S0.out
              have k1 := (hSw.cell (p := ⟨w.heap.size, 1, none⟩) hz2).trans S1.out
              have k2 := (hSw.cell (p := ⟨w.heap.size, 2, none⟩) hz2).trans S2.out
              have k3 := (hSw.cell (p := ⟨w.heap.size, 3, none⟩) hz2).trans S3.out
              clear hSw
              go_simp
              try with_reducible rfl
            simp only [Act.put, List.setIfInBounds_toArray, List.set_cons_zero, List.set_cons_succ]
            refine takeD 10 38 (v := ?_) rfl (by rfl) (by kernel_rfl) (by kernel_rfl) (by kernel_rfl) (fun _ _ _ h => h) (Or.inl ⟨by rfl, ?_⟩) (by assumption) ?_
            rotate_left
            · intro wq hSw
              clear hSw
              go_simp
              try with_reducible rfl
            simp only [Act.put, List.setIfInBounds_toArray, List.set_cons_zero, List.set_cons_succ]
            refine takeD 11 39 (v := ?_) rfl (by rfl) (by kernel_rfl) (by kernel_rfl) (by kernel_rfl) (fun _ _ _ h => h) (Or.inl ⟨by rfl, ?_⟩) (by assumption) ?_
            rotate_left
            · intro wq hSw
              clear hSw
              go_simp
              try with_reducible rfl
            simp only [Act.put, List.setIfInBounds_toArray, List.set_cons_zero, List.set_cons_succ]
            refine takeD 12 40 (v := ?_) rfl (by rfl) (by kernel_rfl) (by kernel_rfl) (by kernel_rfl) (fun _ _ _ h => h) (Or.inl ⟨by rfl, ?_⟩) (by assumption) ?_
            rotate_left
            · intro wq hSw
              clear hSw
              go_simp
              try with_reducible rfl
            simp only [Act.put, List.setIfInBounds_toArray, List.set_cons_zero, List.set_cons_succ]
            refine takeD 13 41 (v := ?_) rfl (by rfl) (by kernel_rfl) (by kernel_rfl) (by kernel_rfl) (fun _ _ _ h => h) (Or.inl ⟨by rfl, ?_⟩) (by assumption) ?_
            rotate_left
            · intro wq hSw
              have k0 := (hSw.cell (p := ⟨g3, o3 + bn, none⟩) hg32).trans FY2.out
              clear hSw
              go_simp
              try with_reducible rfl
            simp only [Act.put, List.setIfInBounds_toArray, List.set_cons_zero, List.set_cons_succ]
            refine wpAnyH_ready (rs := [8]) (by kernel_rfl) (by simp) ?_
            refine AllReadyH.cons rfl (fun K hK => ?_) AllReadyH.nil
            go_simp
            refine (HPV.out _ _ (HT2.out.below hS)).mono ?_
            rintro e w3 ⟨rfl, hbN⟩
            have hSN := hS.trans (hbN.mono hS.size)
            refine hK.out _ _ hSN (fun _ => ?_)
            clear hK hbN hS
            have hS := hSN
            clear hSN
            refine wpAnyH_ready (rs := [14]) (by kernel_rfl) (by simp) ?_
            refine AllReadyH.cons rfl (fun K hK => ?_) AllReadyH.nil
            go_simp
            refine (HPY.out _ _ (HT2.out.below hS)).mono ?_
            rintro e w4 ⟨rfl, hbN⟩
            have hSN := hS.trans (hbN.mono hS.size)
            refine hK.out _ _ hSN (fun _ => ?_)
            clear hK hbN hS
            have hS := hSN
            clear hSN
            refine takeD 15 43 (v := ?_) rfl (by rfl) (by kernel_rfl) (by kernel_rfl) (by kernel_rfl) (fun _ _ _ h => h) (Or.inl ⟨by rfl, ?_⟩) (by assumption) ?_
            rotate_left
            · intro wq hSw
              clear hSw
              go_simp
              try with_reducible rfl
            simp only [Act.put, List.setIfInBounds_toArray, List.set_cons_zero, List.set_cons_succ]
            refine takeD 16 44 (v := ?_) rfl (by rfl) (by kernel_rfl) (by kernel_rfl) (by kernel_rfl) (fun _ _ _ h => h) (Or.inl ⟨by rfl, ?_⟩) (by assumption) ?_
            rotate_left
            · intro wq hSw
              clear hSw
              go_simp
              try with_reducible rfl
            simp only [Act.put, List.setIfInBounds_toArray, List.set_cons_zero, List.set_cons_succ]
            refine wpAnyH_done (by kernel_rfl) ?_ _
            have HB3 := Lib.hid (HB2.out.trans (hS.mono HB2.out.size))
            clear hS
            go_wp2_with fail
            go_roundw
            case rel => exact ⟨k + 1, bn, m + 1, by omega, by omega, by omega, by omega, by omega, rfl, by go_num, by go_num, HN, HB3⟩
            case measure => simp [intOf]; omega
      · have q1 : (rL t.items x == top) = false := by simpa using hq
        have HN := Lib.hid (show rGo1 t.items top l 0 (-1) 0 l = rGo1 t.items top l (k + 1) b m (l.drop (k + 1)) from by rw [HG.out, hdr]; exact if_neg hq)
        clear hx hxs f0 hdr hq
        go_upto_region 5 with fail
        refine wp_region_held_drew (S := fun w' => Below wr.heap.size wr w') (by kernel_rfl) (mx_drew wr) (fun hS => ?_)
        refine takeD 0 18 (v := ?_) rfl (by rfl) (by kernel_rfl) (by kernel_rfl) (by kernel_rfl) (fun _ _ _ h => h) (Or.inl ⟨by rfl, ?_⟩) (by assumption) ?_
        rotate_left
        · intro wq hSw
          have k0 := (hSw.cell (p := ⟨w.heap.size, 0, none⟩) hzr).trans R0.out
          have k1 := (hSw.cell (p := ⟨w.heap.size, 1, none⟩) hzr).trans R1.out
          have k2 := (hSw.cell (p := ⟨w.heap.size, 2, none⟩) hzr).trans R2.out
          have k3 := (hSw.cell (p := ⟨w.heap.size, 3, none⟩) hzr).trans R3.out
          clear hSw
          go_simp
          try with_reducible rfl
        simp only [Act.put, List.setIfInBounds_toArray, List.set_cons_zero, List.set_cons_succ]
        refine takeD 1 19 (v := ?_) rfl (by rfl) (by kernel_rfl) (by kernel_rfl) (by kernel_rfl) (fun _ _ _ h => h) (Or.inl ⟨by rfl, ?_⟩) (by assumption) ?_
        rotate_left
        · intro wq hSw
          clear hSw
          go_simp
          try with_reducible rfl
        simp only [Act.put, List.setIfInBounds_toArray, List.set_cons_zero, List.set_cons_succ]
        refine takeD 2 20 (v := ?_) rfl (by rfl) (by kernel_rfl) (by kernel_rfl) (by kernel_rfl) (fun _ _ _ h => h) (Or.inl ⟨by rfl, ?_⟩) (by assumption) ?_
        rotate_left
        · intro wq hSw
          clear hSw
          go_simp
          try with_reducible rfl
        simp only [Act.put, List.setIfInBounds_toArray, List.set_cons_zero, List.set_cons_succ]
        refine takeD 3 21 (v := ?_) rfl (by rfl) (by kernel_rfl) (by kernel_rfl) (by kernel_rfl) (fun _ _ _ h => h) (Or.inl ⟨by rfl, ?_⟩) (by assumption) ?_
        rotate_left
        · intro wq hSw
          clear hSw
          go_simp
          try with_reducible rfl
        simp only [Act.put, List.setIfInBounds_toArray, List.set_cons_zero, List.set_cons_succ]
        refine takeD 4 22 (v := ?_) rfl (by rfl) (by kernel_rfl) (by kernel_rfl) (by kernel_rfl) (fun _ _ _ h => h) (Or.inl ⟨by rfl, ?_⟩) (by assumption) ?_
        rotate_left
        · intro wq hSw
          have k0 := (hSw.cell (p := ⟨g3, o3 + k, none⟩) hg3).trans F0.out
          clear hSw
          go_simp
          try with_reducible rfl
        simp only [Act.put, List.setIfInBounds_toArray, List.set_cons_zero, List.set_cons_succ]
        refine takeD 6 24 (v := ?_) rfl (by rfl) (by kernel_rfl) (by kernel_rfl) (by kernel_rfl) (fun _ _ _ h => h) (Or.inl ⟨by rfl, ?_⟩) (by assumption) ?_
        rotate_left
        · intro wq hSw
          clear hSw
          go_simp
          try with_reducible rfl
        simp only [Act.put, List.setIfInBounds_toArray, List.set_cons_zero, List.set_cons_succ]
        refine wpAnyH_ready (rs := [5]) (by kernel_rfl) (by simp) ?_
        refine AllReadyH.cons rfl (fun K hK => ?_) AllReadyH.nil
        go_simp
        refine (HLV.out _ _ (HTW.out.below hS)).mono ?_
        rintro e w2 ⟨rfl, hbN⟩
        have hSN := hS.trans (hbN.mono hS.size)
        refine hK.out _ _ hSN (fun _ => ?_)
        clear hK hbN hS
        have hS := hSN
        clear hSN
        refine takeD 7 25 (v := ?_) rfl (by rfl) (by kernel_rfl) (by kernel_rfl) (by kernel_rfl) (fun _ _ _ h => h) (Or.inl ⟨by rfl, ?_⟩) (by assumption) ?_
        rotate_left
        · intro wq hSw
          clear hSw
          go_simp
          try with_reducible rfl
        simp only [Act.put, List.setIfInBounds_toArray, List.set_cons_zero, List.set_cons_succ]
        refine wpAnyH_done (by kernel_rfl) ?_ _
        have HB2 := Lib.hid (HW.out.trans (hS.mono HW.out.size))
        clear hS
        go_wp2_with fail
        go_roundw
        case rel => exact ⟨k + 1, b, m, by omega, by omega, by omega, by omega, by omega, rfl, rfl, by go_num, HN, HB2⟩
        case measure => simp [intOf]; omega
    · obtain rfl : k = l.length := by omega
      have hG := HG.out
      rw [List.drop_length] at hG
      have HG1 := Lib.hid (show rGo1 t.items top l 0 (-1) 0 l = (b, m) from hG)
      clear hG
      have HWO := HW
      obtain ⟨xo, hxo⟩ : ∃ xo : World, xo = wr := ⟨_, rfl⟩
      by_cases hb0 : 0 ≤ b
      · have q1 : decide (0 ≤ b) = true := by simpa using hb0
        by_cases hm1 : 1 < m
        · have q2 : decide (1 < m) = true := by simpa using hm1
          have HY := Lib.hid (show res = b from by rw [← HRES.out]; unfold rGoes; rw [HG1.out]; exact if_pos ⟨hb0, .inl hm1⟩)
          clear hb0 hm1 hxo
          go_wp2_with fail
          go_ret
          exact ⟨by rw [HY.out]; rfl, HBA.out.trans (HW.out.mono HBA.out.size)⟩
        · have q2 : decide (1 < m) = false := by simpa using hm1
          by_cases ht : top = 0
          · subst ht
            have HY := Lib.hid (show res = b from by rw [← HRES.out]; unfold rGoes; rw [HG1.out]; exact if_pos ⟨hb0, .inr rfl⟩)
            clear hb0 hm1 hxo
            go_wp2_with fail
            go_ret
            exact ⟨by rw [HY.out]; rfl, HBA.out.trans (HW.out.mono HBA.out.size)⟩
          · have q3 : (top == 0) = false := by simpa using ht
            have HNO := Lib.hid (show res = rGo2 t.items l 0 (-1) l from by rw [← HRES.out]; unfold rGoes; rw [HG1.out]; exact if_neg (fun h => h.2.elim hm1 ht))
            clear hb0 hm1 ht HG HG1 hxo xo hmk hm0 hb1 hb2
            go_wp2_with fail
            go_loopw [10, 11] (fun bv i wr => ∃ (k : Nat) (b : Int), k ≤ l.length ∧ -1 ≤ b ∧ b < (k : Int) ∧ bv = .int .i64 b ∧ i = .int .i64 k ∧ Hid (rGo2 t.items l 0 (-1) l = rGo2 t.items l k b (l.drop k)) ∧ Hid (Below wa.heap.size wa wr)) (fun _ i _ => l.length - (intOf i).toNat)
            case atStart => exact ⟨0, -1, Nat.zero_le _, by omega, by omega, rfl, rfl, Lib.hid rfl, HWO⟩
            case round =>
              obtain ⟨k, b, hk, hb1, hb2, rfl, rfl, HG, HW⟩ := hrel
              by_cases hlt : k < l.length
              · obtain ⟨x, hx⟩ := getElem_of hlt
                obtain ⟨A3, c3, hA3, hlc3, _, hxs⟩ := HU.out.below HW.out
                simp only [Value.slice.injEq, true_and] at hA3
                obtain ⟨rfl, rfl⟩ := hA3
                obtain ⟨g3, o3, rfl, hg3, _, f0⟩ := hxs k x hx
                have F0 := Lib.hid f0
                have hkc : k < cu := by omega
                have hdr := drop_at hx
                have HTW := Lib.hid (HT.out.below HW.out)
                have HLV := Lib.hid (fun (w : World) tv (h : RTAt w tv t) => ref_level14 x t tv w h HOK.out (HPX.out x (List.mem_of_getElem? hx)))
                have HPV := Lib.hid (fun (w : World) tv (h : RTAt w tv t) => ref_place14 x t tv w h HOK.out)
                have hzr := Nat.lt_of_lt_of_le hzw HW.out.size
                have R0 := Lib.hid ((HW.out.cell (p := ⟨w.heap.size, 0, none⟩) hzw).trans C0.out)
                have R1 := Lib.hid ((HW.out.cell (p := ⟨w.heap.size, 1, none⟩) hzw).trans C1.out)
                have R2 := Lib.hid ((HW.out.cell (p := ⟨w.heap.size, 2, none⟩) hzw).trans C2.out)
                have R3 := Lib.hid ((HW.out.cell (p := ⟨w.heap.size, 3, none⟩) hzw).trans C3.out)
                by_cases hq : rL t.items x = 0
                · have q1 : (rL t.items x == 0) = true := by simpa using hq
                  have HQ := Lib.hid hq
                  clear hq
                  by_cases hb0 : b < 0
                  · have q2 : decide (b < 0) = true := by simpa using hb0
                    have HN := Lib.hid (show rGo2 t.items l 0 (-1) l = rGo2 t.items l (k + 1) k (l.drop (k + 1)) from by rw [HG.out, hdr]; exact if_pos ⟨HQ.out, .inl hb0⟩)
                    clear hx hxs f0 hdr hb0
                    go_upto_region 15 with fail
                    refine wp_region_held_drew (S := fun w' => Below wr.heap.size wr w') (by kernel_rfl) (mx_drew wr) (fun hS => ?_)
                    refine takeD 0 63 (v := ?_) rfl (by rfl) (by kernel_rfl) (by kernel_rfl) (by kernel_rfl) (fun _ _ _ h => h) (Or.inl ⟨by rfl, ?_⟩) (by assumption) ?_
                    rotate_left
                    · intro wq hSw
                      have k0 := (hSw.cell (p := ⟨w.heap.size, 0, none⟩) hzr).trans R0.out
                      have k1 := (hSw.cell (p := ⟨w.heap.size, 1, none⟩) hzr).trans R1.out
                      have k2 := (hSw.cell (p := ⟨w.heap.size, 2, none⟩) hzr).trans R2.out
                      have k3 := (hSw.cell (p := ⟨w.heap.size, 3, none⟩) hzr).trans R3.out
                      clear hSw
                      go_simp
                      try with_reducible rfl
                    simp only [Act.put, List.setIfInBounds_toArray, List.set_cons_zero, List.set_cons_succ]
                    refine takeD 1 64 (v := ?_) rfl (by rfl) (by kernel_rfl) (by kernel_rfl) (by kernel_rfl) (fun _ _ _ h => h) (Or.inl ⟨by rfl, ?_⟩) (by assumption) ?_
                    rotate_left
                    · intro wq hSw
                      clear hSw
                      go_simp
                      try with_reducible rfl
                    simp only [Act.put, List.setIfInBounds_toArray, List.set_cons_zero, List.set_cons_succ]
                    refine takeD 2 65 (v := ?_) rfl (by rfl) (by kernel_rfl) (by kernel_rfl) (by kernel_rfl) (fun _ _ _ h => h) (Or.inl ⟨by rfl, ?_⟩) (by assumption) ?_
                    rotate_left
                    · intro wq hSw
                      clear hSw
                      go_simp
                      try with_reducible rfl
                    simp only [Act.put, List.setIfInBounds_toArray, List.set_cons_zero, List.set_cons_succ]
                    refine takeD 3 66 (v := ?_) rfl (by rfl) (by kernel_rfl) (by kernel_rfl) (by kernel_rfl) (fun _ _ _ h => h) (Or.inl ⟨by rfl, ?_⟩) (by assumption) ?_
                    rotate_left
                    · intro wq hSw
                      clear hSw
                      go_simp
                      try with_reducible rfl
                    simp only [Act.put, List.setIfInBounds_toArray, List.set_cons_zero, List.set_cons_succ]
                    refine takeD 4 67 (v := ?_) rfl (by rfl) (by kernel_rfl) (by kernel_rfl) (by kernel_rfl) (fun _ _ _ h => h) (Or.inl ⟨by rfl, ?_⟩) (by assumption) ?_
                    rotate_left
                    · intro wq hSw
                      have k0 := (hSw.cell (p := ⟨g3, o3 + k, none⟩) hg3).trans F0.out
                      clear hSw
                      go_simp
                      try with_reducible rfl
                    simp only [Act.put, List.setIfInBounds_toArray, List.set_cons_zero, List.set_cons_succ]
                    refine wpAnyH_ready (rs := [5]) (by kernel_rfl) (by simp) ?_
                    refine AllReadyH.cons rfl (fun K hK => ?_) AllReadyH.nil
                    go_simp
                    refine (HLV.out _ _ (HTW.out.below hS)).mono ?_
                    rintro e w2 ⟨rfl, hbN⟩
                    have hSN := hS.trans (hbN.mono hS.size)
                    refine hK.out _ _ hSN (fun _ => ?_)
                    clear hK hbN hS
                    have hS := hSN
                    clear hSN
                    refine takeD 6 69 (v := ?_) rfl (by rfl) (by kernel_rfl) (by kernel_rfl) (by kernel_rfl) (fun _ _ _ h => h) (Or.inl ⟨by rfl, ?_⟩) (by assumption) ?_
                    rotate_left
                    · intro wq hSw
                      clear hSw
                      go_simp
                      try with_reducible rfl
                    simp only [Act.put, List.setIfInBounds_toArray, List.set_cons_zero, List.set_cons_succ]
                    refine takeD 7 70 (v := ?_) rfl (by rfl) (by kernel_rfl) (by kernel_rfl) (by kernel_rfl) (fun _ _ _ h => h) (Or.inl ⟨by rfl, ?_⟩) (by assumption) ?_
                    rotate_left
                    · intro wq hSw
                      clear hSw
                      go_simp
                      try with_reducible rfl
                    simp only [Act.put, List.setIfInBounds_toArray, List.set_cons_zero, List.set_cons_succ]
                    refine takeD 8 71 (v := ?_) rfl (by rfl) (by kernel_rfl) (by kernel_rfl) (by kernel_rfl) (fun _ _ _ h => h) (Or.inl ⟨by rfl, ?_⟩) (by assumption) ?_
                    rotate_left
                    · intro wq hSw
                      clear hSw
                      go_simp
                      try with_reducible rfl
                    simp only [Act.put, List.setIfInBounds_toArray, List.set_cons_zero, List.set_cons_succ]
                    refine takeD 9 72 (v := ?_) rfl (by rfl) (by kernel_rfl) (by kernel_rfl) (by kernel_rfl) (fun _ _ _ h => h) (Or.inl ⟨by rfl, ?_⟩) (by assumption) ?_
                    rotate_left
                    · intro wq hSw
                      clear hSw
                      go_simp
                      try with_reducible rfl
                    simp only [Act.put, List.setIfInBounds_toArray, List.set_cons_zero, List.set_cons_succ]
                    refine takeD 10 73 (v := ?_) rfl (by rfl) (by kernel_rfl) (by kernel_rfl) (by kernel_rfl) (fun _ _ _ h => h) (Or.inl ⟨by rfl, ?_⟩) (by assumption) ?_
                    rotate_left
                    · intro wq hSw
                      clear hSw
                      go_simp
                      try with_reducible rfl
                    simp only [Act.put, List.setIfInBounds_toArray, List.set_cons_zero, List.set_cons_succ]
                    refine takeD 11 74 (v := undef) rfl (by rfl) (by kernel_rfl) (by kernel_rfl) (by kernel_rfl) (fun _ _ _ h => h) (Or.inr ⟨by rfl, rfl⟩) (by assumption) ?_
                    simp only [Act.put, List.setIfInBounds_toArray, List.set_cons_zero, List.set_cons_succ]
                    refine takeD 12 75 (v := undef) rfl (by rfl) (by kernel_rfl) (by kernel_rfl) (by kernel_rfl) (fun _ _ _ h => h) (Or.inr ⟨by rfl, rfl⟩) (by assumption) ?_
                    simp only [Act.put, List.setIfInBounds_toArray, List.set_cons_zero, List.set_cons_succ]
                    refine takeD 13 76 (v := undef) rfl (by rfl) (by kernel_rfl) (by kernel_rfl) (by kernel_rfl) (fun _ _ _ h => h) (Or.inr ⟨by rfl, rfl⟩) (by assumption) ?_
                    simp only [Act.put, List.setIfInBounds_toArray, List.set_cons_zero, List.set_cons_succ]
                    refine takeD 14 77 (v := undef) rfl (by rfl) (by kernel_rfl) (by kernel_rfl) (by kernel_rfl) (fun _ _ _ h => h) (Or.inr ⟨by rfl, rfl⟩) (by assumption) ?_
                    simp only [Act.put, List.setIfInBounds_toArray, List.set_cons_zero, List.set_cons_succ]
                    refine takeD 15 78 (v := undef) rfl (by rfl) (by kernel_rfl) (by kernel_rfl) (by kernel_rfl) (fun _ _ _ h => h) (Or.inr ⟨by rfl, rfl⟩) (by assumption) ?_
                    simp only [Act.put, List.setIfInBounds_toArray, List.set_cons_zero, List.set_cons_succ]
                    refine takeD 16 79 (v := undef) rfl (by rfl) (by kernel_rfl) (by kernel_rfl) (by kernel_rfl) (fun _ _ _ h => h) (Or.inr ⟨by rfl, rfl⟩) (by assumption) ?_
                    simp only [Act.put, List.setIfInBounds_toArray, List.set_cons_zero, List.set_cons_succ]
                    refine takeD 17 80 (v := undef) rfl (by rfl) (by kernel_rfl) (by kernel_rfl) (by kernel_rfl) (fun _ _ _ h => h) (Or.inr ⟨by rfl, rfl⟩) (by assumption) ?_
                    simp only [Act.put, List.setIfInBounds_toArray, List.set_cons_zero, List.set_cons_succ]
                    refine takeD 18 81 (v := undef) rfl (by rfl) (by kernel_rfl) (by kernel_rfl) (by kernel_rfl) (fun _ _ _ h => h) (Or.inr ⟨by rfl, rfl⟩) (by assumption) ?_
                    simp only [Act.put, List.setIfInBounds_toArray, List.set_cons_zero, List.set_cons_succ]
                    refine takeD 19 82 (v := undef) rfl (by rfl) (by kernel_rfl) (by kernel_rfl) (by kernel_rfl) (fun _ _ _ h => h) (Or.inr ⟨by rfl, rfl⟩) (by assumption) ?_
                    simp only [Act.put, List.setIfInBounds_toArray, List.set_cons_zero, List.set_cons_succ]
                    refine takeD 20 83 (v := undef) rfl (by rfl) (by kernel_rfl) (by kernel_rfl) (by kernel_rfl) (fun _ _ _ h => h) (Or.inr ⟨by rfl, rfl⟩) (by assumption) ?_
                    simp only [Act.put, List.setIfInBounds_toArray, List.set_cons_zero, List.set_cons_succ]
                    refine takeD 21 84 (v := undef) rfl (by rfl) (by kernel_rfl) (by kernel_rfl) (by kernel_rfl) (fun _ _ _ h => h) (Or.inr ⟨by rfl, rfl⟩) (by assumption) ?_
                    simp only [Act.put, List.setIfInBounds_toArray, List.set_cons_zero, List.set_cons_succ]
                    refine takeD 22 85 (v := undef) rfl (by rfl) (by kernel_rfl) (by kernel_rfl) (by kernel_rfl) (fun _ _ _ h => h) (Or.inr ⟨by rfl, rfl⟩) (by assumption) ?_
                    simp only [Act.put, List.setIfInBounds_toArray, List.set_cons_zero, List.set_cons_succ]
                    refine takeD 23 86 (v := undef) rfl (by rfl) (by kernel_rfl) (by kernel_rfl) (by kernel_rfl) (fun _ _ _ h => h) (Or.inr ⟨by rfl, rfl⟩) (by assumption) ?_
                    simp only [Act.put, List.setIfInBounds_toArray, List.set_cons_zero, List.set_cons_succ]
                    refine takeD 24 87 (v := ?_) rfl (by rfl) (by kernel_rfl) (by kernel_rfl) (by kernel_rfl) (fun _ _ _ h => h) (Or.inl ⟨by rfl, ?_⟩) (by assumption) ?_
                    rotate_left
                    · intro wq hSw
                      clear hSw
                      go_simp
                      try with_reducible rfl
                    simp only [Act.put, List.setIfInBounds_toArray, List.set_cons_zero, List.set_cons_succ]
                    refine takeD 25 88 (v := ?_) rfl (by rfl) (by kernel_rfl) (by kernel_rfl) (by kernel_rfl) (fun _ _ _ h => h) (Or.inl ⟨by rfl, ?_⟩) (by assumption) ?_
                    rotate_left
                    · intro wq hSw
                      clear hSw
                      go_simp
                      try with_reducible rfl
                    simp only [Act.put, List.setIfInBounds_toArray, List.set_cons_zero, List.set_cons_succ]
                    refine wpAnyH_done (by kernel_rfl) ?_ _
                    have HB3 := Lib.hid (HW.out.trans (hS.mono HW.out.size))
                    clear hS
                    go_wp2_with fail
                    go_roundw
                    case rel => exact ⟨k + 1, k, by omega, by omega, by omega, rfl, by go_num, HN, HB3⟩
                    case measure => simp [intOf]; omega
                  · have q2 : decide (b < 0) = false := by simpa using hb0
                    obtain ⟨bn, rfl⟩ : ∃ q : Nat, b = q := ⟨_, (Int.toNat_of_nonneg (by omega)).symm⟩
                    have hbl : bn < l.length := by omega
                    obtain ⟨y, hy⟩ := getElem_of hbl
                    obtain ⟨g4, o4, e4, _, _, fy⟩ := hxs bn y hy
                    simp only [Option.some.injEq, Addr.mk.injEq, and_true] at e4
                    obtain ⟨rfl, rfl⟩ := e4
                    have FY := Lib.hid fy
                    have HGD := Lib.hid (show l.getD (bn : Int).toNat 0 = y from by rw [Int.toNat_natCast, List.getD_eq_getElem?_getD, hy]; rfl)
                    have HPY := Lib.hid (fun (w : World) tv (h : RTAt w tv t) => ref_place14 y t tv w h HOK.out)
                    have hbc : bn < cu := by omega
                    by_cases hpp : rP t.items (litV y : Nat) < rP t.items (litV x : Nat)
                    · have q3 : decide (rP t.items (litV y : Nat) < rP t.items (litV x : Nat)) = true := by simpa using hpp
                      have HN := Lib.hid (show rGo2 t.items l 0 (-1) l = rGo2 t.items l (k + 1) k (l.drop (k + 1)) from by rw [HG.out, hdr]; exact if_pos ⟨HQ.out, .inr (by rw [HGD.out]; exact hpp)⟩)
                      clear hx hxs f0 hdr hb0 hpp hy fy
                      go_upto_region 15 with fail
                      refine wp_region_held_drew (S := fun w' => Below wr.heap.size wr w') (by kernel_rfl) (mx_drew wr) (fun hS => ?_)
                      refine takeD 0 63 (v := ?_) rfl (by rfl) (by kernel_rfl) (by kernel_rfl) (by kernel_rfl) (fun _ _ _ h => h) (Or.inl ⟨by rfl, ?_⟩) (by assumption) ?_
                      rotate_left
                      · intro wq hSw
                        have k0 := (hSw.cell (p := ⟨w.heap.size, 0, none⟩) hzr).trans R0.out
                        have k1 := (hSw.cell (p := ⟨w.heap.size, 1, none⟩) hzr).trans R1.out
                        have k2 := (hSw.cell (p := ⟨w.heap.size, 2, none⟩) hzr).trans R2.out
                        have k3 := (hSw.cell (p := ⟨w.heap.size, 3, none⟩) hzr).trans R3.out
                        clear hSw
                        go_simp
                        try with_reducible rfl
                      simp only [Act.put, List.setIfInBounds_toArray, List.set_cons_zero, List.set_cons_succ]
                      refine takeD 1 64 (v := ?_) rfl (by rfl) (by kernel_rfl) (by kernel_rfl) (by kernel_rfl) (fun _ _ _ h => h) (Or.inl ⟨by rfl, ?_⟩) (by assumption) ?_
                      rotate_left
                      · intro wq hSw
                        clear hSw
                        go_simp
                        try with_reducible rfl
                      simp only [Act.put, List.setIfInBounds_toArray, List.set_cons_zero, List.set_cons_succ]
                      refine takeD 2 65 (v := ?_) rfl (by rfl) (by kernel_rfl) (by kernel_rfl) (by kernel_rfl) (fun _ _ _ h => h) (Or.inl ⟨by rfl, ?_⟩) (by assumption) ?_
                      rotate_left
                      · intro wq hSw
                        clear hSw
                        go_simp
                        try with_reducible rfl
                      simp only [Act.put, List.setIfInBounds_toArray, List.set_cons_zero, List.set_cons_succ]
                      refine takeD 3 66 (v := ?_) rfl (by rfl) (by kernel_rfl) (by kernel_rfl) (by kernel_rfl) (fun _ _ _ h => h) (Or.inl ⟨by rfl, ?_⟩) (by assumption) ?_
                      rotate_left
                      · intro wq hSw
                        clear hSw
                        go_simp
                        try with_reducible rfl
                      simp only [Act.put, List.setIfInBounds_toArray, List.set_cons_zero, List.set_cons_succ]
                      refine takeD 4 67 (v := ?_) rfl (by rfl) (by kernel_rfl) (by kernel_rfl) (by kernel_rfl) (fun _ _ _ h => h) (Or.inl ⟨by rfl, ?_⟩) (by assumption) ?_
                      rotate_left
                      · intro wq hSw
                        have k0 := (hSw.cell (p := ⟨g3, o3 + k, none⟩) hg3).trans F0.out
                        clear hSw
                        go_simp
                        try with_reducible rfl
                      simp only [Act.put, List.setIfInBounds_toArray, List.set_cons_zero, List.set_cons_succ]
                      refine wpAnyH_ready (rs := [5]) (by kernel_rfl) (by simp) ?_
                      refine AllReadyH.cons rfl (fun K hK => ?_) AllReadyH.nil
                      go_simp
                      refine (HLV.out _ _ (HTW.out.below hS)).mono ?_
                      rintro e w2 ⟨rfl, hbN⟩
                      have hSN := hS.trans (hbN.mono hS.size)
                      refine hK.out _ _ hSN (fun _ => ?_)
                      clear hK hbN hS
                      have hS := hSN
                      clear hSN
                      refine takeD 6 69 (v := ?_) rfl (by rfl) (by kernel_rfl) (by kernel_rfl) (by kernel_rfl) (fun _ _ _ h => h) (Or.inl ⟨by rfl, ?_⟩) (by assumption) ?_
                      rotate_left
                      · intro wq hSw
                        clear hSw
                        go_simp
                        try with_reducible rfl
                      simp only [Act.put, List.setIfInBounds_toArray, List.set_cons_zero, List.set_cons_succ]
                      refine takeD 7 70 (v := ?_) rfl (by rfl) (by kernel_rfl) (by kernel_rfl) (by kernel_rfl) (fun _ _ _ h => h) (Or.inl ⟨by rfl, ?_⟩) (by assumption) ?_
                      rotate_left
                      · intro wq hSw
                        clear hSw
                        go_simp
                        try with_reducible rfl
                      simp only [Act.put, List.setIfInBounds_toArray, List.set_cons_zero, List.set_cons_succ]
                      refine takeD 8 71 (v := ?_) rfl (by rfl) (by kernel_rfl) (by kernel_rfl) (by kernel_rfl) (fun _ _ _ h => h) (Or.inl ⟨by rfl, ?_⟩) (by assumption) ?_
                      rotate_left
                      · intro wq hSw
                        clear hSw
                        go_simp
                        try with_reducible rfl
                      simp only [Act.put, List.setIfInBounds_toArray, List.set_cons_zero, List.set_cons_succ]
                      refine takeD 9 72 (v := ?_) rfl (by rfl) (by kernel_rfl) (by kernel_rfl) (by kernel_rfl) (fun _ _ _ h => h) (Or.inl ⟨by rfl, ?_⟩) (by assumption) ?_
                      rotate_left
                      · intro wq hSw
                        clear hSw
                        go_simp
                        try with_reducible rfl
                      simp only [Act.put, List.setIfInBounds_toArray, List.set_cons_zero, List.set_cons_succ]
                      refine takeD 10 73 (v := ?_) rfl (by rfl) (by kernel_rfl) (by kernel_rfl) (by kernel_rfl) (fun _ _ _ h => h) (Or.inl ⟨by rfl, ?_⟩) (by assumption) ?_
                      rotate_left
                      · intro wq hSw
                        clear hSw
                        go_simp
                        try with_reducible rfl
                      simp only [Act.put, List.setIfInBounds_toArray, List.set_cons_zero, List.set_cons_succ]
                      refine takeD 11 74 (v := ?_) rfl (by rfl) (by kernel_rfl) (by kernel_rfl) (by kernel_rfl) (fun _ _ _ h => h) (Or.inl ⟨by rfl, ?_⟩) (by assumption) ?_
                      rotate_left
                      · intro wq hSw
                        have k0 := (hSw.cell (p := ⟨w.heap.size, 0, none⟩) hzr).trans R0.out
                        have k1 := (hSw.cell (p := ⟨w.heap.size, 1, none⟩) hzr).trans R1.out
                        have k2 := (hSw.cell (p := ⟨w.heap.size, 2, none⟩) hzr).trans R2.out
                        have k3 := (hSw.cell (p := ⟨w.heap.size, 3, none⟩) hzr).trans R3.out
                        clear hSw
                        go_simp
                        try with_reducible rfl
                      simp only [Act.put, List.setIfInBounds_toArray, List.set_cons_zero, List.set_cons_succ]
                      refine takeD 12 75 (v := ?_) rfl (by rfl) (by kernel_rfl) (by kernel_rfl) (by kernel_rfl) (fun _ _ _ h => h) (Or.inl ⟨by rfl, ?_⟩) (by assumption) ?_
                      rotate_left
                      · intro wq hSw
                        clear hSw
                        go_simp
                        try with_reducible rfl
                      simp only [Act.put, List.setIfInBounds_toArray, List.set_cons_zero, List.set_cons_succ]
                      refine takeD 13 76 (v := ?_) rfl (by rfl) (by kernel_rfl) (by kernel_rfl) (by kernel_rfl) (fun _ _ _ h => h) (Or.inl ⟨by rfl, ?_⟩) (by assumption) ?_
                      rotate_left
                      · intro wq hSw
                        clear hSw
                        go_simp
                        try with_reducible rfl
                      simp only [Act.put, List.setIfInBounds_toArray, List.set_cons_zero, List.set_cons_succ]
                      refine takeD 14 77 (v := ?_) rfl (by rfl) (by kernel_rfl) (by kernel_rfl) (by kernel_rfl) (fun _ _ _ h => h) (Or.inl ⟨by rfl, ?_⟩) (by assumption) ?_
                      rotate_left
                      · intro wq hSw
                        clear hSw
                        go_simp
                        try with_reducible rfl
                      simp only [Act.put, List.setIfInBounds_toArray, List.set_cons_zero, List.set_cons_succ]
                      refine takeD 15 78 (v := ?_) rfl (by rfl) (by kernel_rfl) (by kernel_rfl) (by kernel_rfl) (fun _ _ _ h => h) (Or.inl ⟨by rfl, ?_⟩) (by assumption) ?_
                      rotate_left
                      · intro wq hSw
                        have k0 := (hSw.cell (p := ⟨g3, o3 + k, none⟩) hg3).trans F0.out
                        clear hSw
                        go_simp
                        try with_reducible rfl
                      simp only [Act.put, List.setIfInBounds_toArray, List.set_cons_zero, List.set_cons_succ]
                      refine takeD 17 80 (v := ?_) rfl (by rfl) (by kernel_rfl) (by kernel_rfl) (by kernel_rfl) (fun _ _ _ h => h) (Or.inl ⟨by rfl, ?_⟩) (by assumption) ?_
                      rotate_left
                      · intro wq hSw
                        have k0 := (hSw.cell (p := ⟨w.heap.size, 0, none⟩) hzr).trans R0.out
                        have k1 := (hSw.cell (p := ⟨w.heap.size, 1, none⟩) hzr).trans R1.out
                        have k2 := (hSw.cell (p := ⟨w.heap.size, 2, none⟩) hzr).trans R2.out
                        have k3 := (hSw.cell (p := ⟨w.heap.size, 3, none⟩) hzr).trans R3.out
                        clear hSw
                        go_simp
                        try with_reducible rfl
                      simp only [Act.put, List.setIfInBounds_toArray, List.set_cons_zero, List.set_cons_succ]
                      refine takeD 18 81 (v := ?_) rfl (by rfl) (by kernel_rfl) (by kernel_rfl) (by kernel_rfl) (fun _ _ _ h => h) (Or.inl ⟨by rfl, ?_⟩) (by assumption) ?_
                      rotate_left
                      · intro wq hSw
                        clear hSw
                        go_simp
                        try with_reducible rfl
                      simp only [Act.put, List.setIfInBounds_toArray, List.set_cons_zero, List.set_cons_succ]
                      refine takeD 19 82 (v := ?_) rfl (by rfl) (by kernel_rfl) (by kernel_rfl) (by kernel_rfl) (fun _ _ _ h => h) (Or.inl ⟨by rfl, ?_⟩) (by assumption) ?_
                      rotate_left
                      · intro wq hSw
                        clear hSw
                        go_simp
                        try with_reducible rfl
                      simp only [Act.put, List.setIfInBounds_toArray, List.set_cons_zero, List.set_cons_succ]
                      refine takeD 20 83 (v := ?_) rfl (by rfl) (by kernel_rfl) (by kernel_rfl) (by kernel_rfl) (fun _ _ _ h => h) (Or.inl ⟨by rfl, ?_⟩) (by assumption) ?_
                      rotate_left
                      · intro wq hSw
                        clear hSw
                        go_simp
                        try with_reducible rfl
                      simp only [Act.put, List.setIfInBounds_toArray, List.set_cons_zero, List.set_cons_succ]
                      refine takeD 21 84 (v := ?_) rfl (by rfl) (by kernel_rfl) (by kernel_rfl) (by kernel_rfl) (fun _ _ _ h => h) (Or.inl ⟨by rfl, ?_⟩) (by assumption) ?_
                      rotate_left
                      · intro wq hSw
                        have k0 := (hSw.cell (p := ⟨g3, o3 + bn, none⟩) hg3).trans FY.out
                        clear hSw
                        go_simp
                        try with_reducible rfl
                      simp only [Act.put, List.setIfInBounds_toArray, List.set_cons_zero, List.set_cons_succ]
                      refine wpAnyH_ready (rs := [16]) (by kernel_rfl) (by simp) ?_
                      refine AllReadyH.cons rfl (fun K hK => ?_) AllReadyH.nil
                      go_simp
                      refine (HPV.out _ _ (HTW.out.below hS)).mono ?_
                      rintro e w3 ⟨rfl, hbN⟩
                      have hSN := hS.trans (hbN.mono hS.size)
                      refine hK.out _ _ hSN (fun _ => ?_)
                      clear hK hbN hS
                      have hS := hSN
                      clear hSN
                      refine wpAnyH_ready (rs := [22]) (by kernel_rfl) (by simp) ?_
                      refine AllReadyH.cons rfl (fun K hK => ?_) AllReadyH.nil
                      go_simp
                      refine (HPY.out _ _ (HTW.out.below hS)).mono ?_
                      rintro e w4 ⟨rfl, hbN⟩
                      have hSN := hS.trans (hbN.mono hS.size)
                      refine hK.out _ _ hSN (fun _ => ?_)
                      clear hK hbN hS
                      have hS := hSN
                      clear hSN
                      refine takeD 23 86 (v := ?_) rfl (by rfl) (by kernel_rfl) (by kernel_rfl) (by kernel_rfl) (fun _ _ _ h => h) (Or.inl ⟨by rfl, ?_⟩) (by assumption) ?_
                      rotate_left
                      · intro wq hSw
                        clear hSw
                        go_simp
                        try with_reducible rfl
                      simp only [Act.put, List.setIfInBounds_toArray, List.set_cons_zero, List.set_cons_succ]
                      refine takeD 24 87 (v := ?_) rfl (by rfl) (by kernel_rfl) (by kernel_rfl) (by kernel_rfl) (fun _ _ _ h => h) (Or.inl ⟨by rfl, ?_⟩) (by assumption) ?_
                      rotate_left
                      · intro wq hSw
                        clear hSw
                        go_simp
                        try with_reducible rfl
                      simp only [Act.put, List.setIfInBounds_toArray, List.set_cons_zero, List.set_cons_succ]
                      refine takeD 25 88 (v := ?_) rfl (by rfl) (by kernel_rfl) (by kernel_rfl) (by kernel_rfl) (fun _ _ _ h => h) (Or.inl ⟨by rfl, ?_⟩) (by assumption) ?_
                      rotate_left
                      · intro wq hSw
                        clear hSw
                        go_simp
                        try with_reducible rfl
                      simp only [Act.put, List.setIfInBounds_toArray, List.set_cons_zero, List.set_cons_succ]
                      refine wpAnyH_done (by kernel_rfl) ?_ _
                      have HB3 := Lib.hid (HW.out.trans (hS.mono HW.out.size))
                      clear hS
                      go_wp2_with fail
                      go_roundw
                      case rel => exact ⟨k + 1, k, by omega, by omega, by omega, rfl, by go_num, HN, HB3⟩
                      case measure => simp [intOf]; omega
                    · have q3 : decide (rP t.items (litV y : Nat) < rP t.items (litV x : Nat)) = false := by simpa using hpp
                      have HN := Lib.hid (show rGo2 t.items l 0 (-1) l = rGo2 t.items l (k + 1) bn (l.drop (k + 1)) from by rw [HG.out, hdr]; exact if_neg (fun h => h.2.elim hb0 (fun h => hpp (by rw [HGD.out] at h; exact h))))
                      clear hx hxs f0 hdr hb0 hpp hy fy
                      go_upto_region 15 with fail
                      refine wp_region_held_drew (S := fun w' => Below wr.heap.size wr w') (by kernel_rfl) (mx_drew wr) (fun hS => ?_)
                      refine takeD 0 63 (v := ?_) rfl (by rfl) (by kernel_rfl) (by kernel_rfl) (by kernel_rfl) (fun _ _ _ h => h) (Or.inl ⟨by rfl, ?_⟩) (by assumption) ?_
                      rotate_left
                      · intro wq hSw
                        have k0 := (hSw.cell (p := ⟨w.heap.size, 0, none⟩) hzr).trans R0.out
                        have k1 := (hSw.cell (p := ⟨w.heap.size, 1, none⟩) hzr).trans R1.out
                        have k2 := (hSw.cell (p := ⟨w.heap.size, 2, none⟩) hzr).trans R2.out
                        have k3 := (hSw.cell (p := ⟨w.heap.size, 3, none⟩) hzr).trans R3.out
                        clear hSw
                        go_simp
                        try with_reducible rfl
                      simp only [Act.put, List.setIfInBounds_toArray, List.set_cons_zero, List.set_cons_succ]
                      refine takeD 1 64 (v := ?_) rfl (by rfl) (by kernel_rfl) (by kernel_rfl) (by kernel_rfl) (fun _ _ _ h => h) (Or.inl ⟨by rfl, ?_⟩) (by assumption) ?_
                      rotate_left
                      · intro wq hSw
                        clear hSw
                        go_simp
                        try with_reducible rfl
                      simp only [Act.put, List.setIfInBounds_toArray, List.set_cons_zero, List.set_cons_succ]
                      refine takeD 2 65 (v := ?_) rfl (by rfl) (by kernel_rfl) (by kernel_rfl) (by kernel_rfl) (fun _ _ _ h => h) (Or.inl ⟨by rfl, ?_⟩) (by assumption) ?_
                      rotate_left
                      · intro wq hSw
                        clear hSw
                        go_simp
                        try with_reducible rfl
                      simp only [Act.put, List.setIfInBounds_toArray, List.set_cons_zero, List.set_cons_succ]
                      refine takeD 3 66 (v := ?_) rfl (by rfl) (by kernel_rfl) (by kernel_rfl) (by kernel_rfl) (fun _ _ _ h => h) (Or.inl ⟨by rfl, ?_⟩) (by assumption) ?_
                      rotate_left
                      · intro wq hSw
                        clear hSw
                        go_simp
                        try with_reducible rfl
                      simp only [Act.put, List.setIfInBounds_toArray, List.set_cons_zero, List.set_cons_succ]
                      refine takeD 4 67 (v := ?_) rfl (by rfl) (by kernel_rfl) (by kernel_rfl) (by kernel_rfl) (fun _ _ _ h => h) (Or.inl ⟨by rfl, ?_⟩) (by assumption) ?_
                      rotate_left
                      · intro wq hSw
                        have k0 := (hSw.cell (p := ⟨g3, o3 + k, none⟩) hg3).trans F0.out
                        clear hSw
                        go_simp
                        try with_reducible rfl
                      simp only [Act.put, List.setIfInBounds_toArray, List.set_cons_zero, List.set_cons_succ]
                      refine wpAnyH_ready (rs := [5]) (by kernel_rfl) (by simp) ?_
                      refine AllReadyH.cons rfl (fun K hK => ?_) AllReadyH.nil
                      go_simp
                      refine (HLV.out _ _ (HTW.out.below hS)).mono ?_
                      rintro e w2 ⟨rfl, hbN⟩
                      have hSN := hS.trans (hbN.mono hS.size)
                      refine hK.out _ _ hSN (fun _ => ?_)
                      clear hK hbN hS
                      have hS := hSN
                      clear hSN
                      refine takeD 6 69 (v := ?_) rfl (by rfl) (by kernel_rfl) (by kernel_rfl) (by kernel_rfl) (fun _ _ _ h => h) (Or.inl ⟨by rfl, ?_⟩) (by assumption) ?_
                      rotate_left
                      · intro wq hSw
                        clear hSw
                        go_simp
                        try with_reducible rfl
                      simp only [Act.put, List.setIfInBounds_toArray, List.set_cons_zero, List.set_cons_succ]
                      refine takeD 7 70 (v := ?_) rfl (by rfl) (by kernel_rfl) (by kernel_rfl) (by kernel_rfl) (fun _ _ _ h => h) (Or.inl ⟨by rfl, ?_⟩) (by assumption) ?_
                      rotate_left
                      · intro wq hSw
                        clear hSw
                        go_simp
                        try with_reducible rfl
                      simp only [Act.put, List.setIfInBounds_toArray, List.set_cons_zero, List.set_cons_succ]
                      refine takeD 8 71 (v := ?_) rfl (by rfl) (by kernel_rfl) (by kernel_rfl) (by kernel_rfl) (fun _ _ _ h => h) (Or.inl ⟨by rfl, ?_⟩) (by assumption) ?_
                      rotate_left
                      · intro wq hSw
                        clear hSw
                        go_simp
                        try with_reducible rfl
                      simp only [Act.put, List.setIfInBounds_toArray, List.set_cons_zero, List.set_cons_succ]
                      refine takeD 9 72 (v := ?_) rfl (by rfl) (by kernel_rfl) (by kernel_rfl) (by kernel_rfl) (fun _ _ _ h => h) (Or.inl ⟨by rfl, ?_⟩) (by assumption) ?_
                      rotate_left
                      · intro wq hSw
                        clear hSw
                        go_simp
                        try with_reducible rfl
                      simp only [Act.put, List.setIfInBounds_toArray, List.set_cons_zero, List.set_cons_succ]
                      refine takeD 10 73 (v := ?_) rfl (by rfl) (by kernel_rfl) (by kernel_rfl) (by kernel_rfl) (fun _ _ _ h => h) (Or.inl ⟨by rfl, ?_⟩) (by assumption) ?_
                      rotate_left
                      · intro wq hSw
                        clear hSw
                        go_simp
                        try with_reducible rfl
                      simp only [Act.put, List.setIfInBounds_toArray, List.set_cons_zero, List.set_cons_succ]
                      refine takeD 11 74 (v := ?_) rfl (by rfl) (by kernel_rfl) (by kernel_rfl) (by kernel_rfl) (fun _ _ _ h => h) (Or.inl ⟨by rfl, ?_⟩) (by assumption) ?_
                      rotate_left
                      · intro wq hSw
                        have k0 := (hSw.cell (p := ⟨w.heap.size, 0, none⟩) hzr).trans R0.out
                        have k1 := (hSw.cell (p := ⟨w.heap.size, 1, none⟩) hzr).trans R1.out
                        have k2 := (hSw.cell (p := ⟨w.heap.size, 2, none⟩) hzr).trans R2.out
                        have k3 := (hSw.cell (p := ⟨w.heap.size, 3, none⟩) hzr).trans R3.out
                        clear hSw
                        go_simp
                        try with_reducible rfl
                      simp only [Act.put, List.setIfInBounds_toArray, List.set_cons_zero, List.set_cons_succ]
                      refine takeD 12 75 (v := ?_) rfl (by rfl) (by kernel_rfl) (by kernel_rfl) (by kernel_rfl) (fun _ _ _ h => h) (Or.inl ⟨by rfl, ?_⟩) (by assumption) ?_
                      rotate_left
                      · intro wq hSw
                        clear hSw
                        go_simp
                        try with_reducible rfl
                      simp only [Act.put, List.setIfInBounds_toArray, List.set_cons_zero, List.set_cons_succ]
                      refine takeD 13 76 (v := ?_) rfl (by rfl) (by kernel_rfl) (by kernel_rfl) (by kernel_rfl) (fun _ _ _ h => h) (Or.inl ⟨by rfl, ?_⟩) (by assumption) ?_
                      rotate_left
                      · intro wq hSw
                        clear hSw
                        go_simp
                        try with_reducible rfl
                      simp only [Act.put, List.setIfInBounds_toArray, List.set_cons_zero, List.set_cons_succ]
                      refine takeD 14 77 (v := ?_) rfl (by rfl) (by kernel_rfl) (by kernel_rfl) (by kernel_rfl) (fun _ _ _ h => h) (Or.inl ⟨by rfl, ?_⟩) (by assumption) ?_
                      rotate_left
                      · intro wq hSw
                        clear hSw
                        go_simp
                        try with_reducible rfl
                      simp only [Act.put, List.setIfInBounds_toArray, List.set_cons_zero, List.set_cons_succ]
                      refine takeD 15 78 (v := ?_) rfl (by rfl) (by kernel_rfl) (by kernel_rfl) (by kernel_rfl) (fun _ _ _ h => h) (Or.inl ⟨by rfl, ?_⟩) (by assumption) ?_
                      rotate_left
                      · intro wq hSw
                        have k0 := (hSw.cell (p := ⟨g3, o3 + k, none⟩) hg3).trans F0.out
                        clear hSw
                        go_simp
                        try with_reducible rfl
                      simp only [Act.put, List.setIfInBounds_toArray, List.set_cons_zero, List.set_cons_succ]
                      refine takeD 17 80 (v := ?_) rfl (by rfl) (by kernel_rfl) (by kernel_rfl) (by kernel_rfl) (fun _ _ _ h => h) (Or.inl ⟨by rfl, ?_⟩) (by assumption) ?_
                      rotate_left
                      · intro wq hSw
                        have k0 := (hSw.cell (p := ⟨w.heap.size, 0, none⟩) hzr).trans R0.out
                        have k1 := (hSw.cell (p := ⟨w.heap.size, 1, none⟩) hzr).trans R1.out
                        have k2 := (hSw.cell (p := ⟨w.heap.size, 2, none⟩) hzr).trans R2.out
                        have k3 := (hSw.cell (p := ⟨w.heap.size, 3, none⟩) hzr).trans R3.out
                        clear hSw
                        go_simp
                        try with_reducible rfl
                      simp only [Act.put, List.setIfInBounds_toArray, List.set_cons_zero, List.set_cons_succ]
                      refine takeD 18 81 (v := ?_) rfl (by rfl) (by kernel_rfl) (by kernel_rfl) (by kernel_rfl) (fun _ _ _ h => h) (Or.inl ⟨by rfl, ?_⟩) (by assumption) ?_
                      rotate_left
                      · intro wq hSw
                        clear hSw
                        go_simp
                        try with_reducible rfl
                      simp only [Act.put, List.setIfInBounds_toArray, List.set_cons_zero, List.set_cons_succ]
                      refine takeD 19 82 (v := ?_) rfl (by rfl) (by kernel_rfl) (by kernel_rfl) (by kernel_rfl) (fun _ _ _ h => h) (Or.inl ⟨by rfl, ?_⟩) (by assumption) ?_
                      rotate_left
                      · intro wq hSw
                        clear hSw
                        go_simp
                        try with_reducible rfl
                      simp only [Act.put, List.setIfInBounds_toArray, List.set_cons_zero, List.set_cons_succ]
                      refine takeD 20 83 (v := ?_) rfl (by rfl) (by kernel_rfl) (by kernel_rfl) (by kernel_rfl) (fun _ _ _ h => h) (Or.inl ⟨by rfl, ?_⟩) (by assumption) ?_
                      rotate_left
                      · intro wq hSw
                        clear hSw
                        go_simp
                        try with_reducible rfl
                      simp only [Act.put, List.setIfInBounds_toArray, List.set_cons_zero, List.set_cons_succ]
                      refine takeD 21 84 (v := ?_) rfl (by rfl) (by kernel_rfl) (by kernel_rfl) (by kernel_rfl) (fun _ _ _ h => h) (Or.inl ⟨by rfl, ?_⟩) (by assumption) ?_
                      rotate_left
                      · intro wq hSw
                        have k0 := (hSw.cell (p := ⟨g3, o3 + bn, none⟩) hg3).trans FY.out
                        clear hSw
                        go_simp
                        try with_reducible rfl
                      simp only [Act.put, List.setIfInBounds_toArray, List.set_cons_zero, List.set_cons_succ]
                      refine wpAnyH_ready (rs := [16]) (by kernel_rfl) (by simp) ?_
                      refine AllReadyH.cons rfl (fun K hK => ?_) AllReadyH.nil
                      go_simp
                      refine (HPV.out _ _ (HTW.out.below hS)).mono ?_
                      rintro e w3 ⟨rfl, hbN⟩
                      have hSN := hS.trans (hbN.mono hS.size)
                      refine hK.out _ _ hSN (fun _ => ?_)
                      clear hK hbN hS
                      have hS := hSN
                      clear hSN
                      refine wpAnyH_ready (rs := [22]) (by kernel_rfl) (by simp) ?_
                      refine AllReadyH.cons rfl (fun K hK => ?_) AllReadyH.nil
                      go_simp
                      refine (HPY.out _ _ (HTW.out.below hS)).mono ?_
                      rintro e w4 ⟨rfl, hbN⟩
                      have hSN := hS.trans (hbN.mono hS.size)
                      refine hK.out _ _ hSN (fun _ => ?_)
                      clear hK hbN hS
                      have hS := hSN
                      clear hSN
                      refine takeD 23 86 (v := ?_) rfl (by rfl) (by kernel_rfl) (by kernel_rfl) (by kernel_rfl) (fun _ _ _ h => h) (Or.inl ⟨by rfl, ?_⟩) (by assumption) ?_
                      rotate_left
                      · intro wq hSw
                        clear hSw
                        go_simp
                        try with_reducible rfl
                      simp only [Act.put, List.setIfInBounds_toArray, List.set_cons_zero, List.set_cons_succ]
                      refine takeD 24 87 (v := ?_) rfl (by rfl) (by kernel_rfl) (by kernel_rfl) (by kernel_rfl) (fun _ _ _ h => h) (Or.inl ⟨by rfl, ?_⟩) (by assumption) ?_
                      rotate_left
                      · intro wq hSw
                        clear hSw
                        go_simp
                        try with_reducible rfl
                      simp only [Act.put, List.setIfInBounds_toArray, List.set_cons_zero, List.set_cons_succ]
                      refine takeD 25 88 (v := ?_) rfl (by rfl) (by kernel_rfl) (by kernel_rfl) (by kernel_rfl) (fun _ _ _ h => h) (Or.inl ⟨by rfl, ?_⟩) (by assumption) ?_
                      rotate_left
                      · intro wq hSw
                        clear hSw
                        go_simp
                        try with_reducible rfl
                      simp only [Act.put, List.setIfInBounds_toArray, List.set_cons_zero, List.set_cons_succ]
                      refine wpAnyH_done (by kernel_rfl) ?_ _
                      have HB3 := Lib.hid (HW.out.trans (hS.mono HW.out.size))
                      clear hS
                      go_wp2_with fail
                      go_roundw
                      case rel => exact ⟨k + 1, bn, by omega, by omega, by omega, rfl, by go_num, HN, HB3⟩
                      case measure => simp [intOf]; omega
                · have q1 : (rL t.items x == 0) = false := by simpa using hq
                  have HN := Lib.hid (show rGo2 t.items l 0 (-1) l = rGo2 t.items l (k + 1) b (l.drop (k + 1)) from by rw [HG.out, hdr]; exact if_neg (fun h => hq h.1))
                  clear hx hxs f0 hdr hq
                  go_upto_region 15 with fail
                  refine wp_region_held_drew (S := fun w' => Below wr.heap.size wr w') (by kernel_rfl) (mx_drew wr) (fun hS => ?_)
                  refine takeD 0 63 (v := ?_) rfl (by rfl) (by kernel_rfl) (by kernel_rfl) (by kernel_rfl) (fun _ _ _ h => h) (Or.inl ⟨by rfl, ?_⟩) (by assumption) ?_
                  rotate_left
                  · intro wq hSw
                    have k0 := (hSw.cell (p := ⟨w.heap.size, 0, none⟩) hzr).trans R0.out
                    have k1 := (hSw.cell (p := ⟨w.heap.size, 1, none⟩) hzr).trans R1.out
                    have k2 := (hSw.cell (p := ⟨w.heap.size, 2, none⟩) hzr).trans R2.out
                    have k3 := (hSw.cell (p := ⟨w.heap.size, 3, none⟩) hzr).trans R3.out
                    clear hSw
                    go_simp
                    try with_reducible rfl
                  simp only [Act.put, List.setIfInBounds_toArray, List.set_cons_zero, List.set_cons_succ]
                  refine takeD 1 64 (v := ?_) rfl (by rfl) (by kernel_rfl) (by kernel_rfl) (by kernel_rfl) (fun _ _ _ h => h) (Or.inl ⟨by rfl, ?_⟩) (by assumption) ?_
                  rotate_left
                  · intro wq hSw
                    clear hSw
                    go_simp
                    try with_reducible rfl
                  simp only [Act.put, List.setIfInBounds_toArray, List.set_cons_zero, List.set_cons_succ]
                  refine takeD 2 65 (v := ?_) rfl (by rfl) (by kernel_rfl) (by kernel_rfl) (by kernel_rfl) (fun _ _ _ h => h) (Or.inl ⟨by rfl, ?_⟩) (by assumption) ?_
                  rotate_left
                  · intro wq hSw
                    clear hSw
                    go_simp
                    try with_reducible rfl
                  simp only [Act.put, List.setIfInBounds_toArray, List.set_cons_zero, List.set_cons_succ]
                  refine takeD 3 66 (v := ?_) rfl (by rfl) (by kernel_rfl) (by kernel_rfl) (by kernel_rfl) (fun _ _ _ h => h) (Or.inl ⟨by rfl, ?_⟩) (by assumption) ?_
                  rotate_left
                  · intro wq hSw
                    clear hSw
                    go_simp
                    try with_reducible rfl
                  simp only [Act.put, List.setIfInBounds_toArray, List.set_cons_zero, List.set_cons_succ]
                  refine takeD 4 67 (v := ?_) rfl (by rfl) (by kernel_rfl) (by kernel_rfl) (by kernel_rfl) (fun _ _ _ h => h) (Or.inl ⟨by rfl, ?_⟩) (by assumption) ?_
                  rotate_left
                  · intro wq hSw
                    have k0 := (hSw.cell (p := ⟨g3, o3 + k, none⟩) hg3).trans F0.out
                    clear hSw
                    go_simp
                    try with_reducible rfl
                  simp only [Act.put, List.setIfInBounds_toArray, List.set_cons_zero, List.set_cons_succ]
                  refine wpAnyH_ready (rs := [5]) (by kernel_rfl) (by simp) ?_
                  refine AllReadyH.cons rfl (fun K hK => ?_) AllReadyH.nil
                  go_simp
                  refine (HLV.out _ _ (HTW.out.below hS)).mono ?_
                  rintro e w2 ⟨rfl, hbN⟩
                  have hSN := hS.trans (hbN.mono hS.size)
                  refine hK.out _ _ hSN (fun _ => ?_)
                  clear hK hbN hS
                  have hS := hSN
                  clear hSN
                  refine takeD 6 69 (v := ?_) rfl (by rfl) (by kernel_rfl) (by kernel_rfl) (by kernel_rfl) (fun _ _ _ h => h) (Or.inl ⟨by rfl, ?_⟩) (by assumption) ?_
                  rotate_left
                  · intro wq hSw
                    clear hSw
                    go_simp
                    try with_reducible rfl
                  simp only [Act.put, List.setIfInBounds_toArray, List.set_cons_zero, List.set_cons_succ]
                  refine takeD 7 70 (v := ?_) rfl (by rfl) (by kernel_rfl) (by kernel_rfl) (by kernel_rfl) (fun _ _ _ h => h) (Or.inl ⟨by rfl, ?_⟩) (by assumption) ?_
                  rotate_left
                  · intro wq hSw
                    clear hSw
                    go_simp
                    try with_reducible rfl
                  simp only [Act.put, List.setIfInBounds_toArray, List.set_cons_zero, List.set_cons_succ]
                  refine takeD 8 71 (v := undef) rfl (by rfl) (by kernel_rfl) (by kernel_rfl) (by kernel_rfl) (fun _ _ _ h => h) (Or.inr ⟨by rfl, rfl⟩) (by assumption) ?_
                  simp only [Act.put, List.setIfInBounds_toArray, List.set_cons_zero, List.set_cons_succ]
                  refine takeD 9 72 (v := undef) rfl (by rfl) (by kernel_rfl) (by kernel_rfl) (by kernel_rfl) (fun _ _ _ h => h) (Or.inr ⟨by rfl, rfl⟩) (by assumption) ?_
                  simp only [Act.put, List.setIfInBounds_toArray, List.set_cons_zero, List.set_cons_succ]
                  refine takeD 10 73 (v := undef) rfl (by rfl) (by kernel_rfl) (by kernel_rfl) (by kernel_rfl) (fun _ _ _ h => h) (Or.inr ⟨by rfl, rfl⟩) (by assumption) ?_
                  simp only [Act.put, List.setIfInBounds_toArray, List.set_cons_zero, List.set_cons_succ]
                  refine takeD 11 74 (v := undef) rfl (by rfl) (by kernel_rfl) (by kernel_rfl) (by kernel_rfl) (fun _ _ _ h => h) (Or.inr ⟨by rfl, rfl⟩) (by assumption) ?_
                  simp only [Act.put, List.setIfInBounds_toArray, List.set_cons_zero, List.set_cons_succ]
                  refine takeD 12 75 (v := undef) rfl (by rfl) (by kernel_rfl) (by kernel_rfl) (by kernel_rfl) (fun _ _ _ h => h) (Or.inr ⟨by rfl, rfl⟩) (by assumption) ?_
                  simp only [Act.put, List.setIfInBounds_toArray, List.set_cons_zero, List.set_cons_succ]
                  refine takeD 13 76 (v := undef) rfl (by rfl) (by kernel_rfl) (by kernel_rfl) (by kernel_rfl) (fun _ _ _ h => h) (Or.inr ⟨by rfl, rfl⟩) (by assumption) ?_
                  simp only [Act.put, List.setIfInBounds_toArray, List.set_cons_zero, List.set_cons_succ]
                  refine takeD 14 77 (v := undef) rfl (by rfl) (by kernel_rfl) (by kernel_rfl) (by kernel_rfl) (fun _ _ _ h => h) (Or.inr ⟨by rfl, rfl⟩) (by assumption) ?_
                  simp only [Act.put, List.setIfInBounds_toArray, List.set_cons_zero, List.set_cons_succ]
                  refine takeD 15 78 (v := undef) rfl (by rfl) (by kernel_rfl) (by kernel_rfl) (by kernel_rfl) (fun _ _ _ h => h) (Or.inr ⟨by rfl, rfl⟩) (by assumption) ?_
                  simp only [Act.put, List.setIfInBounds_toArray, List.set_cons_zero, List.set_cons_succ]
                  refine takeD 16 79 (v := undef) rfl (by rfl) (by kernel_rfl) (by kernel_rfl) (by kernel_rfl) (fun _ _ _ h => h) (Or.inr ⟨by rfl, rfl⟩) (by assumption) ?_
                  simp only [Act.put, List.setIfInBounds_toArray, List.set_cons_zero, List.set_cons_succ]
                  refine takeD 17 80 (v := undef) rfl (by rfl) (by kernel_rfl) (by kernel_rfl) (by kernel_rfl) (fun _ _ _ h => h) (Or.inr ⟨by rfl, rfl⟩) (by assumption) ?_
                  simp only [Act.put, List.setIfInBounds_toArray, List.set_cons_zero, List.set_cons_succ]
                  refine takeD 18 81 (v := undef) rfl (by rfl) (by kernel_rfl) (by kernel_rfl) (by kernel_rfl) (fun _ _ _ h => h) (Or.inr ⟨by rfl, rfl⟩) (by assumption) ?_
                  simp only [Act.put, List.setIfInBounds_toArray, List.set_cons_zero, List.set_cons_succ]
                  refine takeD 19 82 (v := undef) rfl (by rfl) (by kernel_rfl) (by kernel_rfl) (by kernel_rfl) (fun _ _ _ h => h) (Or.inr ⟨by rfl, rfl⟩) (by assumption) ?_
                  simp only [Act.put, List.setIfInBounds_toArray, List.set_cons_zero, List.set_cons_succ]
                  refine takeD 20 83 (v := undef) rfl (by rfl) (by kernel_rfl) (by kernel_rfl) (by kernel_rfl) (fun _ _ _ h => h) (Or.inr ⟨by rfl, rfl⟩) (by assumption) ?_
                  simp only [Act.put, List.setIfInBounds_toArray, List.set_cons_zero, List.set_cons_succ]
                  refine takeD 21 84 (v := undef) rfl (by rfl) (by kernel_rfl) (by kernel_rfl) (by kernel_rfl) (fun _ _ _ h => h) (Or.inr ⟨by rfl, rfl⟩) (by assumption) ?_
                  simp only [Act.put, List.setIfInBounds_toArray, List.set_cons_zero, List.set_cons_succ]
                  refine takeD 22 85 (v := undef) rfl (by rfl) (by kernel_rfl) (by kernel_rfl) (by kernel_rfl) (fun _ _ _ h => h) (Or.inr ⟨by rfl, rfl⟩) (by assumption) ?_
                  simp only [Act.put, List.setIfInBounds_toArray, List.set_cons_zero, List.set_cons_succ]
                  refine takeD 23 86 (v := undef) rfl (by rfl) (by kernel_rfl) (by kernel_rfl) (by kernel_rfl) (fun _ _ _ h => h) (Or.inr ⟨by rfl, rfl⟩) (by assumption) ?_
                  simp only [Act.put, List.setIfInBounds_toArray, List.set_cons_zero, List.set_cons_succ]
                  refine takeD 24 87 (v := undef) rfl (by rfl) (by kernel_rfl) (by kernel_rfl) (by kernel_rfl) (fun _ _ _ h => h) (Or.inr ⟨by rfl, rfl⟩) (by assumption) ?_
                  simp only [Act.put, List.setIfInBounds_toArray, List.set_cons_zero, List.set_cons_succ]
                  refine takeD 25 88 (v := ?_) rfl (by rfl) (by kernel_rfl) (by kernel_rfl) (by kernel_rfl) (fun _ _ _ h => h) (Or.inl ⟨by rfl, ?_⟩) (by assumption) ?_
                  rotate_left
                  · intro wq hSw
                    clear hSw
                    go_simp
                    try with_reducible rfl
                  simp only [Act.put, List.setIfInBounds_toArray, List.set_cons_zero, List.set_cons_succ]
                  refine wpAnyH_done (by kernel_rfl) ?_ _
                  have HB3 := Lib.hid (HW.out.trans (hS.mono HW.out.size))
                  clear hS
                  go_wp2_with fail
                  go_roundw
                  case rel => exact ⟨k + 1, b, by omega, by omega, by omega, rfl, by go_num, HN, HB3⟩
                  case measure => simp [intOf]; omega
              · obtain rfl : k = l.length := by omega
                have hG := HG.out
                rw [List.drop_length] at hG
                have HN := Lib.hid (show res = b from by rw [HNO.out]; exact hG)
                clear hG
                go_wp2_with fail
                go_ret
                exact ⟨by rw [HN.out]; rfl, HBA.out.trans (HW.out.mono HBA.out.size)⟩
      · have q1 : decide (0 ≤ b) = false := by simpa using hb0
        have HNO := Lib.hid (show res = rGo2 t.items l 0 (-1) l from by rw [← HRES.out]; unfold rGoes; rw [HG1.out]; exact if_neg (fun h => hb0 h.1))
        clear hb0 HG HG1 hxo xo hmk hm0 hb1 hb2
        go_wp2_with fail
        go_loopw [10, 11] (fun bv i wr => ∃ (k : Nat) (b : Int), k ≤ l.length ∧ -1 ≤ b ∧ b < (k : Int) ∧ bv = .int .i64 b ∧ i = .int .i64 k ∧ Hid (rGo2 t.items l 0 (-1) l = rGo2 t.items l k b (l.drop k)) ∧ Hid (Below wa.heap.size wa wr)) (fun _ i _ => l.length - (intOf i).toNat)
        case atStart => exact ⟨0, -1, Nat.zero_le _, by omega, by omega, rfl, rfl, Lib.hid rfl, HWO⟩
        case round =>
          obtain ⟨k, b, hk, hb1, hb2, rfl, rfl, HG, HW⟩ := hrel
          by_cases hlt : k < l.length
          · obtain ⟨x, hx⟩ := getElem_of hlt
            obtain ⟨A3, c3, hA3, hlc3, _, hxs⟩ := HU.out.below HW.out
            simp only [Value.slice.injEq, true_and] at hA3
            obtain ⟨rfl, rfl⟩ := hA3
            obtain ⟨g3, o3, rfl, hg3, _, f0⟩ := hxs k x hx
            have F0 := Lib.hid f0
            have hkc : k < cu := by omega
            have hdr := drop_at hx
            have HTW := Lib.hid (HT.out.below HW.out)
            have HLV := Lib.hid (fun (w : World) tv (h : RTAt w tv t) => ref_level14 x t tv w h HOK.out (HPX.out x (List.mem_of_getElem? hx)))
            have HPV := Lib.hid (fun (w : World) tv (h : RTAt w tv t) => ref_place14 x t tv w h HOK.out)
            have hzr := Nat.lt_of_lt_of_le hzw HW.out.size
            have R0 := Lib.hid ((HW.out.cell (p := ⟨w.heap.size, 0, none⟩) hzw).trans C0.out)
            have R1 := Lib.hid ((HW.out.cell (p := ⟨w.heap.size, 1, none⟩) hzw).trans C1.out)
            have R2 := Lib.hid ((HW.out.cell (p := ⟨w.heap.size, 2, none⟩) hzw).trans C2.out)
            have R3 := Lib.hid ((HW.out.cell (p := ⟨w.heap.size, 3, none⟩) hzw).trans C3.out)
            by_cases hq : rL t.items x = 0
            · have q1 : (rL t.items x == 0) = true := by simpa using hq
              have HQ := Lib.hid hq
              clear hq
              by_cases hb0 : b < 0
              · have q2 : decide (b < 0) = true := by simpa using hb0
                have HN := Lib.hid (show rGo2 t.items l 0 (-1) l = rGo2 t.items l (k + 1) k (l.drop (k + 1)) from by rw [HG.out, hdr]; exact if_pos ⟨HQ.out, .inl hb0⟩)
                clear hx hxs f0 hdr hb0
                go_upto_region 15 with fail
                refine wp_region_held_drew (S := fun w' => Below wr.heap.size wr w') (by kernel_rfl) (mx_drew wr) (fun hS => ?_)
                refine takeD 0 63 (v := ?_) rfl (by rfl) (by kernel_rfl) (by kernel_rfl) (by kernel_rfl) (fun _ _ _ h => h) (Or.inl ⟨by rfl, ?_⟩) (by assumption) ?_
                rotate_left
                · intro wq hSw
                  have k0 := (hSw.cell (p := ⟨w.heap.size, 0, none⟩) hzr).trans R0.out
                  have k1 := (hSw.cell (p := ⟨w.heap.size, 1, none⟩) hzr).trans R1.out
                  have k2 := (hSw.cell (p := ⟨w.heap.size, 2, none⟩) hzr).trans R2.out
                  have k3 := (hSw.cell (p := ⟨w.heap.size, 3, none⟩) hzr).trans R3.out
                  clear hSw
                  go_simp
                  try with_reducible rfl
                simp only [Act.put, List.setIfInBounds_toArray, List.set_cons_zero, List.set_cons_succ]
                refine takeD 1 64 (v := ?_) rfl (by rfl) (by kernel_rfl) (by kernel_rfl) (by kernel_rfl) (fun _ _ _ h => h) (Or.inl ⟨by rfl, ?_⟩) (by assumption) ?_
                rotate_left
                · intro wq hSw
                  clear hSw
                  go_simp
                  try with_reducible rfl
                simp only [Act.put, List.setIfInBounds_toArray, List.set_cons_zero, List.set_cons_succ]
                refine takeD 2 65 (v := ?_) rfl (by rfl) (by kernel_rfl) (by kernel_rfl) (by kernel_rfl) (fun _ _ _ h => h) (Or.inl ⟨by rfl, ?_⟩) (by assumption) ?_
                rotate_left
                · intro wq hSw
                  clear hSw
                  go_simp
                  try with_reducible rfl
                simp only [Act.put, List.setIfInBounds_toArray, List.set_cons_zero, List.set_cons_succ]
                refine takeD 3 66 (v := ?_) rfl (by rfl) (by kernel_rfl) (by kernel_rfl) (by kernel_rfl) (fun _ _ _ h => h) (Or.inl ⟨by rfl, ?_⟩) (by assumption) ?_
                rotate_left
                · intro wq hSw
                  clear hSw
                  go_simp
                  try with_reducible rfl
                simp only [Act.put, List.setIfInBounds_toArray, List.set_cons_zero, List.set_cons_succ]
                refine takeD 4 67 (v := ?_) rfl (by rfl) (by kernel_rfl) (by kernel_rfl) (by kernel_rfl) (fun _ _ _ h => h) (Or.inl ⟨by rfl, ?_⟩) (by assumption) ?_
                rotate_left
                · intro wq hSw
                  have k0 := (hSw.cell (p := ⟨g3, o3 + k, none⟩) hg3).trans F0.out
                  clear hSw
                  go_simp
                  try with_reducible rfl
                simp only [Act.put, List.setIfInBounds_toArray, List.set_cons_zero, List.set_cons_succ]
                refine wpAnyH_ready (rs := [5]) (by kernel_rfl) (by simp) ?_
                refine AllReadyH.cons rfl (fun K hK => ?_) AllReadyH.nil
                go_simp
                refine (HLV.out _ _ (HTW.out.below hS)).mono ?_
                rintro e w2 ⟨rfl, hbN⟩
                have hSN := hS.trans (hbN.mono hS.size)
                refine hK.out _ _ hSN (fun _ => ?_)
                clear hK hbN hS
                have hS := hSN
                clear hSN
                refine takeD 6 69 (v := ?_) rfl (by rfl) (by kernel_rfl) (by kernel_rfl) (by kernel_rfl) (fun _ _ _ h => h) (Or.inl ⟨by rfl, ?_⟩) (by assumption) ?_
                rotate_left
                · intro wq hSw
                  clear hSw
                  go_simp
                  try with_reducible rfl
                simp only [Act.put, List.setIfInBounds_toArray, List.set_cons_zero, List.set_cons_succ]
                refine takeD 7 70 (v := ?_) rfl (by rfl) (by kernel_rfl) (by kernel_rfl) (by kernel_rfl) (fun _ _ _ h => h) (Or.inl ⟨by rfl, ?_⟩) (by assumption) ?_
                rotate_left
                · intro wq hSw
                  clear hSw
                  go_simp
                  try with_reducible rfl
                simp only [Act.put, List.setIfInBounds_toArray, List.set_cons_zero, List.set_cons_succ]
                refine takeD 8 71 (v := ?_) rfl (by rfl) (by kernel_rfl) (by kernel_rfl) (by kernel_rfl) (fun _ _ _ h => h) (Or.inl ⟨by rfl, ?_⟩) (by assumption) ?_
                rotate_left
                · intro wq hSw
                  clear hSw
                  go_simp
                  try with_reducible rfl
                simp only [Act.put, List.setIfInBounds_toArray, List.set_cons_zero, List.set_cons_succ]
                refine takeD 9 72 (v := ?_) rfl (by rfl) (by kernel_rfl) (by kernel_rfl) (by kernel_rfl) (fun _ _ _ h => h) (Or.inl ⟨by rfl, ?_⟩) (by assumption) ?_
                rotate_left
                · intro wq hSw
                  clear hSw
                  go_simp
                  try with_reducible rfl
                simp only [Act.put, List.setIfInBounds_toArray, List.set_cons_zero, List.set_cons_succ]
                refine takeD 10 73 (v := ?_) rfl (by rfl) (by kernel_rfl) (by kernel_rfl) (by kernel_rfl) (fun _ _ _ h => h) (Or.inl ⟨by rfl, ?_⟩) (by assumption) ?_
                rotate_left
                · intro wq hSw
                  clear hSw
                  go_simp
                  try with_reducible rfl
                simp only [Act.put, List.setIfInBounds_toArray, List.set_cons_zero, List.set_cons_succ]
                refine takeD 11 74 (v := undef) rfl (by rfl) (by kernel_rfl) (by kernel_rfl) (by kernel_rfl) (fun _ _ _ h => h) (Or.inr ⟨by rfl, rfl⟩) (by assumption) ?_
                simp only [Act.put, List.setIfInBounds_toArray, List.set_cons_zero, List.set_cons_succ]
                refine takeD 12 75 (v := undef) rfl (by rfl) (by kernel_rfl) (by kernel_rfl) (by kernel_rfl) (fun _ _ _ h => h) (Or.inr ⟨by rfl, rfl⟩) (by assumption) ?_
                simp only [Act.put, List.setIfInBounds_toArray, List.set_cons_zero, List.set_cons_succ]
                refine takeD 13 76 (v := undef) rfl (by rfl) (by kernel_rfl) (by kernel_rfl) (by kernel_rfl) (fun _ _ _ h => h) (Or.inr ⟨by rfl, rfl⟩) (by assumption) ?_
                simp only [Act.put, List.setIfInBounds_toArray, List.set_cons_zero, List.set_cons_succ]
                refine takeD 14 77 (v := undef) rfl (by rfl) (by kernel_rfl) (by kernel_rfl) (by kernel_rfl) (fun _ _ _ h => h) (Or.inr ⟨by rfl, rfl⟩) (by assumption) ?_
                simp only [Act.put, List.setIfInBounds_toArray, List.set_cons_zero, List.set_cons_succ]
                refine takeD 15 78 (v := undef) rfl (by rfl) (by kernel_rfl) (by kernel_rfl) (by kernel_rfl) (fun _ _ _ h => h) (Or.inr ⟨by rfl, rfl⟩) (by assumption) ?_
                simp only [Act.put, List.setIfInBounds_toArray, List.set_cons_zero, List.set_cons_succ]
                refine takeD 16 79 (v := undef) rfl (by rfl) (by kernel_rfl) (by kernel_rfl) (by kernel_rfl) (fun _ _ _ h => h) (Or.inr ⟨by rfl, rfl⟩) (by assumption) ?_
                simp only [Act.put, List.setIfInBounds_toArray, List.set_cons_zero, List.set_cons_succ]
                refine takeD 17 80 (v := undef) rfl (by rfl) (by kernel_rfl) (by kernel_rfl) (by kernel_rfl) (fun _ _ _ h => h) (Or.inr ⟨by rfl, rfl⟩) (by assumption) ?_
                simp only [Act.put, List.setIfInBounds_toArray, List.set_cons_zero, List.set_cons_succ]
                refine takeD 18 81 (v := undef) rfl (by rfl) (by kernel_rfl) (by kernel_rfl) (by kernel_rfl) (fun _ _ _ h => h) (Or.inr ⟨by rfl, rfl⟩) (by assumption) ?_
                simp only [Act.put, List.setIfInBounds_toArray, List.set_cons_zero, List.set_cons_succ]
                refine takeD 19 82 (v := undef) rfl (by rfl) (by kernel_rfl) (by kernel_rfl) (by kernel_rfl) (fun _ _ _ h => h) (Or.inr ⟨by rfl, rfl⟩) (by assumption) ?_
                simp only [Act.put, List.setIfInBounds_toArray, List.set_cons_zero, List.set_cons_succ]
                refine takeD 20 83 (v := undef) rfl (by rfl) (by kernel_rfl) (by kernel_rfl) (by kernel_rfl) (fun _ _ _ h => h) (Or.inr ⟨by rfl, rfl⟩) (by assumption) ?_
                simp only [Act.put, List.setIfInBounds_toArray, List.set_cons_zero, List.set_cons_succ]
                refine takeD 21 84 (v := undef) rfl (by rfl) (by kernel_rfl) (by kernel_rfl) (by kernel_rfl) (fun _ _ _ h => h) (Or.inr ⟨by rfl, rfl⟩) (by assumption) ?_
                simp only [Act.put, List.setIfInBounds_toArray, List.set_cons_zero, List.set_cons_succ]
                refine takeD 22 85 (v := undef) rfl (by rfl) (by kernel_rfl) (by kernel_rfl) (by kernel_rfl) (fun _ _ _ h => h) (Or.inr ⟨by rfl, rfl⟩) (by assumption) ?_
                simp only [Act.put, List.setIfInBounds_toArray, List.set_cons_zero, List.set_cons_succ]
                refine takeD 23 86 (v := undef) rfl (by rfl) (by kernel_rfl) (by kernel_rfl) (by kernel_rfl) (fun _ _ _ h => h) (Or.inr ⟨by rfl, rfl⟩) (by assumption) ?_
                simp only [Act.put, List.setIfInBounds_toArray, List.set_cons_zero, List.set_cons_succ]
                refine takeD 24 87 (v := ?_) rfl (by rfl) (by kernel_rfl) (by kernel_rfl) (by kernel_rfl) (fun _ _ _ h => h) (Or.inl ⟨by rfl, ?_⟩) (by assumption) ?_
                rotate_left
                · intro wq hSw
                  clear hSw
                  go_simp
                  try with_reducible rfl
                simp only [Act.put, List.setIfInBounds_toArray, List.set_cons_zero, List.set_cons_succ]
                refine takeD 25 88 (v := ?_) rfl (by rfl) (by kernel_rfl) (by kernel_rfl) (by kernel_rfl) (fun _ _ _ h => h) (Or.inl ⟨by rfl, ?_⟩) (by assumption) ?_
                rotate_left
                · intro wq hSw
                  clear hSw
                  go_simp
                  try with_reducible rfl
                simp only [Act.put, List.setIfInBounds_toArray, List.set_cons_zero, List.set_cons_succ]
                refine wpAnyH_done (by kernel_rfl) ?_ _
                have HB3 := Lib.hid (HW.out.trans (hS.mono HW.out.size))
                clear hS
                go_wp2_with fail
                go_roundw
                case rel => exact ⟨k + 1, k, by omega, by omega, by omega, rfl, by go_num, HN, HB3⟩
                case measure => simp [intOf]; omega
              · have q2 : decide (b < 0) = false := by simpa using hb0
                obtain ⟨bn, rfl⟩ : ∃ q : Nat, b = q := ⟨_, (Int.toNat_of_nonneg (by omega)).symm⟩
                have hbl : bn < l.length := by omega
                obtain ⟨y, hy⟩ := getElem_of hbl
                obtain ⟨g4, o4, e4, _, _, fy⟩ := hxs bn y hy
                simp only [Option.some.injEq, Addr.mk.injEq, and_true] at e4
                obtain ⟨rfl, rfl⟩ := e4
                have FY := Lib.hid fy
                have HGD := Lib.hid (show l.getD (bn : Int).toNat 0 = y from by rw [Int.toNat_natCast, List.getD_eq_getElem?_getD, hy]; rfl)
                have HPY := Lib.hid (fun (w : World) tv (h : RTAt w tv t) => ref_place14 y t tv w h HOK.out)
                have hbc : bn < cu := by omega
                by_cases hpp : rP t.items (litV y : Nat) < rP t.items (litV x : Nat)
                · have q3 : decide (rP t.items (litV y : Nat) < rP t.items (litV x : Nat)) = true := by simpa using hpp
                  have HN := Lib.hid (show rGo2 t.items l 0 (-1) l = rGo2 t.items l (k + 1) k (l.drop (k + 1)) from by rw [HG.out, hdr]; exact if_pos ⟨HQ.out, .inr (by rw [HGD.out]; exact hpp)⟩)
                  clear hx hxs f0 hdr hb0 hpp hy fy
                  go_upto_region 15 with fail
                  refine wp_region_held_drew (S := fun w' => Below wr.heap.size wr w') (by kernel_rfl) (mx_drew wr) (fun hS => ?_)
                  refine takeD 0 63 (v := ?_) rfl (by rfl) (by kernel_rfl) (by kernel_rfl) (by kernel_rfl) (fun _ _ _ h => h) (Or.inl ⟨by rfl, ?_⟩) (by assumption) ?_
                  rotate_left
                  · intro wq hSw
                    have k0 := (hSw.cell (p := ⟨w.heap.size, 0, none⟩) hzr).trans R0.out
                    have k1 := (hSw.cell (p := ⟨w.heap.size, 1, none⟩) hzr).trans R1.out
                    have k2 := (hSw.cell (p := ⟨w.heap.size, 2, none⟩) hzr).trans R2.out
                    have k3 := (hSw.cell (p := ⟨w.heap.size, 3, none⟩) hzr).trans R3.out
                    clear hSw
                    go_simp
                    try with_reducible rfl
                  simp only [Act.put, List.setIfInBounds_toArray, List.set_cons_zero, List.set_cons_succ]
                  refine takeD 1 64 (v := ?_) rfl (by rfl) (by kernel_rfl) (by kernel_rfl) (by kernel_rfl) (fun _ _ _ h => h) (Or.inl ⟨by rfl, ?_⟩) (by assumption) ?_
                  rotate_left
                  · intro wq hSw
                    clear hSw
                    go_simp
                    try with_reducible rfl
                  simp only [Act.put, List.setIfInBounds_toArray, List.set_cons_zero, List.set_cons_succ]
                  refine takeD 2 65 (v := ?_) rfl (by rfl) (by kernel_rfl) (by kernel_rfl) (by kernel_rfl) (fun _ _ _ h => h) (Or.inl ⟨by rfl, ?_⟩) (by assumption) ?_
                  rotate_left
                  · intro wq hSw
                    clear hSw
                    go_simp
                    try with_reducible rfl
                  simp only [Act.put, List.setIfInBounds_toArray, List.set_cons_zero, List.set_cons_succ]
                  refine takeD 3 66 (v := ?_) rfl (by rfl) (by kernel_rfl) (by kernel_rfl) (by kernel_rfl) (fun _ _ _ h => h) (Or.inl ⟨by rfl, ?_⟩) (by assumption) ?_
                  rotate_left
                  · intro wq hSw
                    clear hSw
                    go_simp
                    try with_reducible rfl
                  simp only [Act.put, List.setIfInBounds_toArray, List.set_cons_zero, List.set_cons_succ]
                  refine takeD 4 67 (v := ?_) rfl (by rfl) (by kernel_rfl) (by kernel_rfl) (by kernel_rfl) (fun _ _ _ h => h) (Or.inl ⟨by rfl, ?_⟩) (by assumption) ?_
                  rotate_left
                  · intro wq hSw
                    have k0 := (hSw.cell (p := ⟨g3, o3 + k, none⟩) hg3).trans F0.out
                    clear hSw
                    go_simp
                    try with_reducible rfl
                  simp only [Act.put, List.setIfInBounds_toArray, List.set_cons_zero, List.set_cons_succ]
                  refine wpAnyH_ready (rs := [5]) (by kernel_rfl) (by simp) ?_
                  refine AllReadyH.cons rfl (fun K hK => ?_) AllReadyH.nil
                  go_simp
                  refine (HLV.out _ _ (HTW.out.below hS)).mono ?_
                  rintro e w2 ⟨rfl, hbN⟩
                  have hSN := hS.trans (hbN.mono hS.size)
                  refine hK.out _ _ hSN (fun _ => ?_)
                  clear hK hbN hS
                  have hS := hSN
                  clear hSN
                  refine takeD 6 69 (v := ?_) rfl (by rfl) (by kernel_rfl) (by kernel_rfl) (by kernel_rfl) (fun _ _ _ h => h) (Or.inl ⟨by rfl, ?_⟩) (by assumption) ?_
                  rotate_left
                  · intro wq hSw
                    clear hSw
                    go_simp
                    try with_reducible rfl
                  simp only [Act.put, List.setIfInBounds_toArray, List.set_cons_zero, List.set_cons_succ]
                  refine takeD 7 70 (v := ?_) rfl (by rfl) (by kernel_rfl) (by kernel_rfl) (by kernel_rfl) (fun _ _ _ h => h) (Or.inl ⟨by rfl, ?_⟩) (by assumption) ?_
                  rotate_left
                  · intro wq hSw
                    clear hSw
                    go_simp
                    try with_reducible rfl
                  simp only [Act.put, List.setIfInBounds_toArray, List.set_cons_zero, List.set_cons_succ]
                  refine takeD 8 71 (v := ?_) rfl (by rfl) (by kernel_rfl) (by kernel_rfl) (by kernel_rfl) (fun _ _ _ h => h) (Or.inl ⟨by rfl, ?_⟩) (by assumption) ?_
                  rotate_left
                  · intro wq hSw
                    clear hSw
                    go_simp
                    try with_reducible rfl
                  simp only [Act.put, List.setIfInBounds_toArray, List.set_cons_zero, List.set_cons_succ]
                  refine takeD 9 72 (v := ?_) rfl (by rfl) (by kernel_rfl) (by kernel_rfl) (by kernel_rfl) (fun _ _ _ h => h) (Or.inl ⟨by rfl, ?_⟩) (by assumption) ?_
                  rotate_left
                  · intro wq hSw
                    clear hSw
                    go_simp
                    try with_reducible rfl
                  simp only [Act.put, List.setIfInBounds_toArray, List.set_cons_zero, List.set_cons_succ]
                  refine takeD 10 73 (v := ?_) rfl (by rfl) (by kernel_rfl) (by kernel_rfl) (by kernel_rfl) (fun _ _ _ h => h) (Or.inl ⟨by rfl, ?_⟩) (by assumption) ?_
                  rotate_left
                  · intro wq hSw
                    clear hSw
                    go_simp
                    try with_reducible rfl
                  simp only [Act.put, List.setIfInBounds_toArray, List.set_cons_zero, List.set_cons_succ]
                  refine takeD 11 74 (v := ?_) rfl (by rfl) (by kernel_rfl) (by kernel_rfl) (by kernel_rfl) (fun _ _ _ h => h) (Or.inl ⟨by rfl, ?_⟩) (by assumption) ?_
                  rotate_left
                  · intro wq hSw
                    have k0 := (hSw.cell (p := ⟨w.heap.size, 0, none⟩) hzr).trans R0.out
                    have k1 := (hSw.cell (p := ⟨w.heap.size, 1, none⟩) hzr).trans R1.out
                    have k2 := (hSw.cell (p := ⟨w.heap.size, 2, none⟩) hzr).trans R2.out
                    have k3 := (hSw.cell (p := ⟨w.heap.size, 3, none⟩) hzr).trans R3.out
                    clear hSw
                    go_simp
                    try with_reducible rfl
                  simp only [Act.put, List.setIfInBounds_toArray, List.set_cons_zero, List.set_cons_succ]
                  refine takeD 12 75 (v := ?_) rfl (by rfl) (by kernel_rfl) (by kernel_rfl) (by kernel_rfl) (fun _ _ _ h => h) (Or.inl ⟨by rfl, ?_⟩) (by assumption) ?_
                  rotate_left
                  · intro wq hSw
                    clear hSw
                    go_simp
                    try with_reducible rfl
                  simp only [Act.put, List.setIfInBounds_toArray, List.set_cons_zero, List.set_cons_succ]
                  refine takeD 13 76 (v := ?_) rfl (by rfl) (by kernel_rfl) (by kernel_rfl) (by kernel_rfl) (fun _ _ _ h => h) (Or.inl ⟨by rfl, ?_⟩) (by assumption) ?_
                  rotate_left
                  · intro wq hSw
                    clear hSw
                    go_simp
                    try with_reducible rfl
                  simp only [Act.put, List.setIfInBounds_toArray, List.set_cons_zero, List.set_cons_succ]
                  refine takeD 14 77 (v := ?_) rfl (by rfl) (by kernel_rfl) (by kernel_rfl) (by kernel_rfl) (fun _ _ _ h => h) (Or.inl ⟨by rfl, ?_⟩) (by assumption) ?_
                  rotate_left
                  · intro wq hSw
                    clear hSw
                    go_simp
                    try with_reducible rfl
                  simp only [Act.put, List.setIfInBounds_toArray, List.set_cons_zero, List.set_cons_succ]
                  refine takeD 15 78 (v := ?_) rfl (by rfl) (by kernel_rfl) (by kernel_rfl) (by kernel_rfl) (fun _ _ _ h => h) (Or.inl ⟨by rfl, ?_⟩) (by assumption) ?_
                  rotate_left
                  · intro wq hSw
                    have k0 := (hSw.cell (p := ⟨g3, o3 + k, none⟩) hg3).trans F0.out
                    clear hSw
                    go_simp
                    try with_reducible rfl
                  simp only [Act.put, List.setIfInBounds_toArray, List.set_cons_zero, List.set_cons_succ]
                  refine takeD 17 80 (v := ?_) rfl (by rfl) (by kernel_rfl) (by kernel_rfl) (by kernel_rfl) (fun _ _ _ h => h) (Or.inl ⟨by rfl, ?_⟩) (by assumption) ?_
                  rotate_left
                  · intro wq hSw
                    have k0 := (hSw.cell (p := ⟨w.heap.size, 0, none⟩) hzr).trans R0.out
                    have k1 := (hSw.cell (p := ⟨w.heap.size, 1, none⟩) hzr).trans R1.out
                    have k2 := (hSw.cell (p := ⟨w.heap.size, 2, none⟩) hzr).trans R2.out
                    have k3 := (hSw.cell (p := ⟨w.heap.size, 3, none⟩) hzr).trans R3.out
                    clear hSw
                    go_simp
                    try with_reducible rfl
                  simp only [Act.put, List.setIfInBounds_toArray, List.set_cons_zero, List.set_cons_succ]
                  refine takeD 18 81 (v := ?_) rfl (by rfl) (by kernel_rfl) (by kernel_rfl) (by kernel_rfl) (fun _ _ _ h => h) (Or.inl ⟨by rfl, ?_⟩) (by assumption) ?_
                  rotate_left
                  · intro wq hSw
                    clear hSw
                    go_simp
                    try with_reducible rfl
                  simp only [Act.put, List.setIfInBounds_toArray, List.set_cons_zero, List.set_cons_succ]
                  refine takeD 19 82 (v := ?_) rfl (by rfl) (by kernel_rfl) (by kernel_rfl) (by kernel_rfl) (fun _ _ _ h => h) (Or.inl ⟨by rfl, ?_⟩) (by assumption) ?_
                  rotate_left
                  · intro wq hSw
                    clear hSw
                    go_simp
                    try with_reducible rfl
                  simp only [Act.put, List.setIfInBounds_toArray, List.set_cons_zero, List.set_cons_succ]
                  refine takeD 20 83 (v := ?_) rfl (by rfl) (by kernel_rfl) (by kernel_rfl) (by kernel_rfl) (fun _ _ _ h => h) (Or.inl ⟨by rfl, ?_⟩) (by assumption) ?_
                  rotate_left
                  · intro wq hSw
                    clear hSw
                    go_simp
                    try with_reducible rfl
                  simp only [Act.put, List.setIfInBounds_toArray, List.set_cons_zero, List.set_cons_succ]
                  refine takeD 21 84 (v := ?_) rfl (by rfl) (by kernel_rfl) (by kernel_rfl) (by kernel_rfl) (fun _ _ _ h => h) (Or.inl ⟨by rfl, ?_⟩) (by assumption) ?_
                  rotate_left
                  · intro wq hSw
                    have k0 := (hSw.cell (p := ⟨g3, o3 + bn, none⟩) hg3).trans FY.out
                    clear hSw
                    go_simp
                    try with_reducible rfl
                  simp only [Act.put, List.setIfInBounds_toArray, List.set_cons_zero, List.set_cons_succ]
                  refine wpAnyH_ready (rs := [16]) (by kernel_rfl) (by simp) ?_
                  refine AllReadyH.cons rfl (fun K hK => ?_) AllReadyH.nil
                  go_simp
                  refine (HPV.out _ _ (HTW.out.below hS)).mono ?_
                  rintro e w3 ⟨rfl, hbN⟩
                  have hSN := hS.trans (hbN.mono hS.size)
                  refine hK.out _ _ hSN (fun _ => ?_)
                  clear hK hbN hS
                  have hS := hSN
                  clear hSN
                  refine wpAnyH_ready (rs := [22]) (by kernel_rfl) (by simp) ?_
                  refine AllReadyH.cons rfl (fun K hK => ?_) AllReadyH.nil
                  go_simp
                  refine (HPY.out _ _ (HTW.out.below hS)).mono ?_
                  rintro e w4 ⟨rfl, hbN⟩
                  have hSN := hS.trans (hbN.mono hS.size)
                  refine hK.out _ _ hSN (fun _ => ?_)
                  clear hK hbN hS
                  have hS := hSN
                  clear hSN
                  refine takeD 23 86 (v := ?_) rfl (by rfl) (by kernel_rfl) (by kernel_rfl) (by kernel_rfl) (fun _ _ _ h => h) (Or.inl ⟨by rfl, ?_⟩) (by assumption) ?_
                  rotate_left
                  · intro wq hSw
                    clear hSw
                    go_simp
                    try with_reducible rfl
                  simp only [Act.put, List.setIfInBounds_toArray, List.set_cons_zero, List.set_cons_succ]
                  refine takeD 24 87 (v := ?_) rfl (by rfl) (by kernel_rfl) (by kernel_rfl) (by kernel_rfl) (fun _ _ _ h => h) (Or.inl ⟨by rfl, ?_⟩) (by assumption) ?_
                  rotate_left
                  · intro wq hSw
                    clear hSw
                    go_simp
                    try with_reducible rfl
                  simp only [Act.put, List.setIfInBounds_toArray, List.set_cons_zero, List.set_cons_succ]
                  refine takeD 25 88 (v := ?_) rfl (by rfl) (by kernel_rfl) (by kernel_rfl) (by kernel_rfl) (fun _ _ _ h => h) (Or.inl ⟨by rfl, ?_⟩) (by assumption) ?_
                  rotate_left
                  · intro wq hSw
                    clear hSw
                    go_simp
                    try with_reducible rfl
                  simp only [Act.put, List.setIfInBounds_toArray, List.set_cons_zero, List.set_cons_succ]
                  refine wpAnyH_done (by kernel_rfl) ?_ _
                  have HB3 := Lib.hid (HW.out.trans (hS.mono HW.out.size))
                  clear hS
                  go_wp2_with fail
                  go_roundw
                  case rel => exact ⟨k + 1, k, by omega, by omega, by omega, rfl, by go_num, HN, HB3⟩
                  case measure => simp [intOf]; omega
                · have q3 : decide (rP t.items (litV y : Nat) < rP t.items (litV x : Nat)) = false := by simpa using hpp
                  have HN := Lib.hid (show rGo2 t.items l 0 (-1) l = rGo2 t.items l (k + 1) bn (l.drop (k + 1)) from by rw [HG.out, hdr]; exact if_neg (fun h => h.2.elim hb0 (fun h => hpp (by rw [HGD.out] at h; exact h))))
                  clear hx hxs f0 hdr hb0 hpp hy fy
                  go_upto_region 15 with fail
                  refine wp_region_held_drew (S := fun w' => Below wr.heap.size wr w') (by kernel_rfl) (mx_drew wr) (fun hS => ?_)
                  refine takeD 0 63 (v := ?_) rfl (by rfl) (by kernel_rfl) (by kernel_rfl) (by kernel_rfl) (fun _ _ _ h => h) (Or.inl ⟨by rfl, ?_⟩) (by assumption) ?_
                  rotate_left
                  · intro wq hSw
                    have k0 := (hSw.cell (p := ⟨w.heap.size, 0, none⟩) hzr).trans R0.out
                    have k1 := (hSw.cell (p := ⟨w.heap.size, 1, none⟩) hzr).trans R1.out
                    have k2 := (hSw.cell (p := ⟨w.heap.size, 2, none⟩) hzr).trans R2.out
                    have k3 := (hSw.cell (p := ⟨w.heap.size, 3, none⟩) hzr).trans R3.out
                    clear hSw
                    go_simp
                    try with_reducible rfl
                  simp only [Act.put, List.setIfInBounds_toArray, List.set_cons_zero, List.set_cons_succ]
                  refine takeD 1 64 (v := ?_) rfl (by rfl) (by kernel_rfl) (by kernel_rfl) (by kernel_rfl) (fun _ _ _ h => h) (Or.inl ⟨by rfl, ?_⟩) (by assumption) ?_
                  rotate_left
                  · intro wq hSw
                    clear hSw
                    go_simp
                    try with_reducible rfl
                  simp only [Act.put, List.setIfInBounds_toArray, List.set_cons_zero, List.set_cons_succ]
                  refine takeD 2 65 (v := ?_) rfl (by rfl) (by kernel_rfl) (by kernel_rfl) (by kernel_rfl) (fun _ _ _ h => h) (Or.inl ⟨by rfl, ?_⟩) (by assumption) ?_
                  rotate_left
                  · intro wq hSw
                    clear hSw
                    go_simp
                    try with_reducible rfl
                  simp only [Act.put, List.setIfInBounds_toArray, List.set_cons_zero, List.set_cons_succ]
                  refine takeD 3 66 (v := ?_) rfl (by rfl) (by kernel_rfl) (by kernel_rfl) (by kernel_rfl) (fun _ _ _ h => h) (Or.inl ⟨by rfl, ?_⟩) (by assumption) ?_
                  rotate_left
                  · intro wq hSw
                    clear hSw
                    go_simp
                    try with_reducible rfl
                  simp only [Act.put, List.setIfInBounds_toArray, List.set_cons_zero, List.set_cons_succ]
                  refine takeD 4 67 (v := ?_) rfl (by rfl) (by kernel_rfl) (by kernel_rfl) (by kernel_rfl) (fun _ _ _ h => h) (Or.inl ⟨by rfl, ?_⟩) (by assumption) ?_
                  rotate_left
                  · intro wq hSw
                    have k0 := (hSw.cell (p := ⟨g3, o3 + k, none⟩) hg3).trans F0.out
                    clear hSw
                    go_simp
                    try with_reducible rfl
                  simp only [Act.put, List.setIfInBounds_toArray, List.set_cons_zero, List.set_cons_succ]
                  refine wpAnyH_ready (rs := [5]) (by kernel_rfl) (by simp) ?_
                  refine AllReadyH.cons rfl (fun K hK => ?_) AllReadyH.nil
                  go_simp
                  refine (HLV.out _ _ (HTW.out.below hS)).mono ?_
                  rintro e w2 ⟨rfl, hbN⟩
                  have hSN := hS.trans (hbN.mono hS.size)
                  refine hK.out _ _ hSN (fun _ => ?_)
                  clear hK hbN hS
                  have hS := hSN
                  clear hSN
                  refine takeD 6 69 (v := ?_) rfl (by rfl) (by kernel_rfl) (by kernel_rfl) (by kernel_rfl) (fun _ _ _ h => h) (Or.inl ⟨by rfl, ?_⟩) (by assumption) ?_
                  rotate_left
                  · intro wq hSw
                    clear hSw
                    go_simp
                    try with_reducible rfl
                  simp only [Act.put, List.setIfInBounds_toArray, List.set_cons_zero, List.set_cons_succ]
                  refine takeD 7 70 (v := ?_) rfl (by rfl) (by kernel_rfl) (by kernel_rfl) (by kernel_rfl) (fun _ _ _ h => h) (Or.inl ⟨by rfl, ?_⟩) (by assumption) ?_
                  rotate_left
                  · intro wq hSw
                    clear hSw
                    go_simp
                    try with_reducible rfl
                  simp only [Act.put, List.setIfInBounds_toArray, List.set_cons_zero, List.set_cons_succ]
                  refine takeD 8 71 (v := ?_) rfl (by rfl) (by kernel_rfl) (by kernel_rfl) (by kernel_rfl) (fun _ _ _ h => h) (Or.inl ⟨by rfl, ?_⟩) (by assumption) ?_
                  rotate_left
                  · intro wq hSw
                    clear hSw
                    go_simp
                    try with_reducible rfl
                  simp only [Act.put, List.setIfInBounds_toArray, List.set_cons_zero, List.set_cons_succ]
                  refine takeD 9 72 (v := ?_) rfl (by rfl) (by kernel_rfl) (by kernel_rfl) (by kernel_rfl) (fun _ _ _ h => h) (Or.inl ⟨by rfl, ?_⟩) (by assumption) ?_
                  rotate_left
                  · intro wq hSw
                    clear hSw
                    go_simp
                    try with_reducible rfl
                  simp only [Act.put, List.setIfInBounds_toArray, List.set_cons_zero, List.set_cons_succ]
                  refine takeD 10 73 (v := ?_) rfl (by rfl) (by kernel_rfl) (by kernel_rfl) (by kernel_rfl) (fun _ _ _ h => h) (Or.inl ⟨by rfl, ?_⟩) (by assumption) ?_
                  rotate_left
                  · intro wq hSw
                    clear hSw
                    go_simp
                    try with_reducible rfl
                  simp only [Act.put, List.setIfInBounds_toArray, List.set_cons_zero, List.set_cons_succ]
                  refine takeD 11 74 (v := ?_) rfl (by rfl) (by kernel_rfl) (by kernel_rfl) (by kernel_rfl) (fun _ _ _ h => h) (Or.inl ⟨by rfl, ?_⟩) (by assumption) ?_
                  rotate_left
                  · intro wq hSw
                    have k0 := (hSw.cell (p := ⟨w.heap.size, 0, none⟩) hzr).trans R0.out
                    have k1 := (hSw.cell (p := ⟨w.heap.size, 1, none⟩) hzr).trans R1.out
                    have k2 := (hSw.cell (p := ⟨w.heap.size, 2, none⟩) hzr).trans R2.out
                    have k3 := (hSw.cell (p := ⟨w.heap.size, 3, none⟩) hzr).trans R3.out
                    clear hSw
                    go_simp
                    try with_reducible rfl
                  simp only [Act.put, List.setIfInBounds_toArray, List.set_cons_zero, List.set_cons_succ]
                  refine takeD 12 75 (v := ?_) rfl (by rfl) (by kernel_rfl) (by kernel_rfl) (by kernel_rfl) (fun _ _ _ h => h) (Or.inl ⟨by rfl, ?_⟩) (by assumption) ?_
                  rotate_left
                  · intro wq hSw
                    clear hSw
                    go_simp
                    try with_reducible rfl
                  simp only [Act.put, List.setIfInBounds_toArray, List.set_cons_zero, List.set_cons_succ]
                  refine takeD 13 76 (v := ?_) rfl (by rfl) (by kernel_rfl) (by kernel_rfl) (by kernel_rfl) (fun _ _ _ h => h) (Or.inl ⟨by rfl, ?_⟩) (by assumption) ?_
                  rotate_left
                  · intro wq hSw
                    clear hSw
                    go_simp
                    try with_reducible rfl
                  simp only [Act.put, List.setIfInBounds_toArray, List.set_cons_zero, List.set_cons_succ]
                  refine takeD 14 77 (v := ?_) rfl (by rfl) (by kernel_rfl) (by kernel_rfl) (by kernel_rfl) (fun _ _ _ h => h) (Or.inl ⟨by rfl, ?_⟩) (by assumption) ?_
                  rotate_left
                  · intro wq hSw
                    clear hSw
                    go_simp
                    try with_reducible rfl
                  simp only [Act.put, List.setIfInBounds_toArray, List.set_cons_zero, List.set_cons_succ]
                  refine takeD 15 78 (v := ?_) rfl (by rfl) (by kernel_rfl) (by kernel_rfl) (by kernel_rfl) (fun _ _ _ h => h) (Or.inl ⟨by rfl, ?_⟩) (by assumption) ?_
                  rotate_left
                  · intro wq hSw
                    have k0 := (hSw.cell (p := ⟨g3, o3 + k, none⟩) hg3).trans F0.out
                    clear hSw
                    go_simp
                    try with_reducible rfl
                  simp only [Act.put, List.setIfInBounds_toArray, List.set_cons_zero, List.set_cons_succ]
                  refine takeD 17 80 (v := ?_) rfl (by rfl) (by kernel_rfl) (by kernel_rfl) (by kernel_rfl) (fun _ _ _ h => h) (Or.inl ⟨by rfl, ?_⟩) (by assumption) ?_
                  rotate_left
                  · intro wq hSw
                    have k0 := (hSw.cell (p := ⟨w.heap.size, 0, none⟩) hzr).trans R0.out
                    have k1 := (hSw.cell (p := ⟨w.heap.size, 1, none⟩) hzr).trans R1.out
                    have k2 := (hSw.cell (p := ⟨w.heap.size, 2, none⟩) hzr).trans R2.out
                    have k3 := (hSw.cell (p := ⟨w.heap.size, 3, none⟩) hzr).trans R3.out
                    clear hSw
                    go_simp
                    try with_reducible rfl
                  simp only [Act.put, List.setIfInBounds_toArray, List.set_cons_zero, List.set_cons_succ]
                  refine takeD 18 81 (v := ?_) rfl (by rfl) (by kernel_rfl) (by kernel_rfl) (by kernel_rfl) (fun _ _ _ h => h) (Or.inl ⟨by rfl, ?_⟩) (by assumption) ?_
                  rotate_left
                  · intro wq hSw
                    clear hSw
                    go_simp
                    try with_reducible rfl
                  simp only [Act.put, List.setIfInBounds_toArray, List.set_cons_zero, List.set_cons_succ]
                  refine takeD 19 82 (v := ?_) rfl (by rfl) (by kernel_rfl) (by kernel_rfl) (by kernel_rfl) (fun _ _ _ h => h) (Or.inl ⟨by rfl, ?_⟩) (by assumption) ?_
                  rotate_left
                  · intro wq hSw
                    clear hSw
                    go_simp
                    try with_reducible rfl
                  simp only [Act.put, List.setIfInBounds_toArray, List.set_cons_zero, List.set_cons_succ]
                  refine takeD 20 83 (v := ?_) rfl (by rfl) (by kernel_rfl) (by kernel_rfl) (by kernel_rfl) (fun _ _ _ h => h) (Or.inl ⟨by rfl, ?_⟩) (by assumption) ?_
                  rotate_left
                  · intro wq hSw
                    clear hSw
                    go_simp
                    try with_reducible rfl
                  simp only [Act.put, List.setIfInBounds_toArray, List.set_cons_zero, List.set_cons_succ]
                  refine takeD 21 84 (v := ?_) rfl (by rfl) (by kernel_rfl) (by kernel_rfl) (by kernel_rfl) (fun _ _ _ h => h) (Or.inl ⟨by rfl, ?_⟩) (by assumption) ?_
                  rotate_left
                  · intro wq hSw
                    have k0 := (hSw.cell (p := ⟨g3, o3 + bn, none⟩) hg3).trans FY.out
                    clear hSw
                    go_simp
                    try with_reducible rfl
                  simp only [Act.put, List.setIfInBounds_toArray, List.set_cons_zero, List.set_cons_succ]
                  refine wpAnyH_ready (rs := [16]) (by kernel_rfl) (by simp) ?_
                  refine AllReadyH.cons rfl (fun K hK => ?_) AllReadyH.nil
                  go_simp
                  refine (HPV.out _ _ (HTW.out.below hS)).mono ?_
                  rintro e w3 ⟨rfl, hbN⟩
                  have hSN := hS.trans (hbN.mono hS.size)
                  refine hK.out _ _ hSN (fun _ => ?_)
                  clear hK hbN hS
                  have hS := hSN
                  clear hSN
                  refine wpAnyH_ready (rs := [22]) (by kernel_rfl) (by simp) ?_
                  refine AllReadyH.cons rfl (fun K hK => ?_) AllReadyH.nil
                  go_simp
                  refine (HPY.out _ _ (HTW.out.below hS)).mono ?_
                  rintro e w4 ⟨rfl, hbN⟩
                  have hSN := hS.trans (hbN.mono hS.size)
                  refine hK.out _ _ hSN (fun _ => ?_)
                  clear hK hbN hS
                  have hS := hSN
                  clear hSN
                  refine takeD 23 86 (v := ?_) rfl (by rfl) (by kernel_rfl) (by kernel_rfl) (by kernel_rfl) (fun _ _ _ h => h) (Or.inl ⟨by rfl, ?_⟩) (by assumption) ?_
                  rotate_left
                  · intro wq hSw
                    clear hSw
                    go_simp
                    try with_reducible rfl
                  simp only [Act.put, List.setIfInBounds_toArray, List.set_cons_zero, List.set_cons_succ]
                  refine takeD 24 87 (v := ?_) rfl (by rfl) (by kernel_rfl) (by kernel_rfl) (by kernel_rfl) (fun _ _ _ h => h) (Or.inl ⟨by rfl, ?_⟩) (by assumption) ?_
                  rotate_left
                  · intro wq hSw
                    clear hSw
                    go_simp
                    try with_reducible rfl
                  simp only [Act.put, List.setIfInBounds_toArray, List.set_cons_zero, List.set_cons_succ]
                  refine takeD 25 88 (v := ?_) rfl (by rfl) (by kernel_rfl) (by kernel_rfl) (by kernel_rfl) (fun _ _ _ h => h) (Or.inl ⟨by rfl, ?_⟩) (by assumption) ?_
                  rotate_left
                  · intro wq hSw
                    clear hSw
                    go_simp
                    try with_reducible rfl
                  simp only [Act.put, List.setIfInBounds_toArray, List.set_cons_zero, List.set_cons_succ]
                  refine wpAnyH_done (by kernel_rfl) ?_ _
                  have HB3 := Lib.hid (HW.out.trans (hS.mono HW.out.size))
                  clear hS
                  go_wp2_with fail
                  go_roundw
                  case rel => exact ⟨k + 1, bn, by omega, by omega, by omega, rfl, by go_num, HN, HB3⟩
                  case measure => simp [intOf]; omega
            · have q1 : (rL t.items x == 0) = false := by simpa using hq
              have HN := Lib.hid (show rGo2 t.items l 0 (-1) l = rGo2 t.items l (k + 1) b (l.drop (k + 1)) from by rw [HG.out, hdr]; exact if_neg (fun h => hq h.1))
              clear hx hxs f0 hdr hq
              go_upto_region 15 with fail
              refine wp_region_held_drew (S := fun w' => Below wr.heap.size wr w') (by kernel_rfl) (mx_drew wr) (fun hS => ?_)
              refine takeD 0 63 (v := ?_) rfl (by rfl) (by kernel_rfl) (by kernel_rfl) (by kernel_rfl) (fun _ _ _ h => h) (Or.inl ⟨by rfl, ?_⟩) (by assumption) ?_
              rotate_left
              · intro wq hSw
                have k0 := (hSw.cell (p := ⟨w.heap.size, 0, none⟩) hzr).trans R0.out
                have k1 := (hSw.cell (p := ⟨w.heap.size, 1, none⟩) hzr).trans R1.out
                have k2 := (hSw.cell (p := ⟨w.heap.size, 2, none⟩) hzr).trans R2.out
                have k3 := (hSw.cell (p := ⟨w.heap.size, 3, none⟩) hzr).trans R3.out
                clear hSw
                go_simp
                try with_reducible rfl
              simp only [Act.put, List.setIfInBounds_toArray, List.set_cons_zero, List.set_cons_succ]
              refine takeD 1 64 (v := ?_) rfl (by rfl) (by kernel_rfl) (by kernel_rfl) (by kernel_rfl) (fun _ _ _ h => h) (Or.inl ⟨by rfl, ?_⟩) (by assumption) ?_
              rotate_left
              · intro wq hSw
                clear hSw
                go_simp
                try with_reducible rfl
              simp only [Act.put, List.setIfInBounds_toArray, List.set_cons_zero, List.set_cons_succ]
              refine takeD 2 65 (v := ?_) rfl (by rfl) (by kernel_rfl) (by kernel_rfl) (by kernel_rfl) (fun _ _ _ h => h) (Or.inl ⟨by rfl, ?_⟩) (by assumption) ?_
              rotate_left
              · intro wq hSw
                clear hSw
                go_simp
                try with_reducible rfl
              simp only [Act.put, List.setIfInBounds_toArray, List.set_cons_zero, List.set_cons_succ]
              refine takeD 3 66 (v := ?_) rfl (by rfl) (by kernel_rfl) (by kernel_rfl) (by kernel_rfl) (fun _ _ _ h => h) (Or.inl ⟨by rfl, ?_⟩) (by assumption) ?_
              rotate_left
              · intro wq hSw
                clear hSw
                go_simp
                try with_reducible rfl
              simp only [Act.put, List.setIfInBounds_toArray, List.set_cons_zero, List.set_cons_succ]
              refine takeD 4 67 (v := ?_) rfl (by rfl) (by kernel_rfl) (by kernel_rfl) (by kernel_rfl) (fun _ _ _ h => h) (Or.inl ⟨by rfl, ?_⟩) (by assumption) ?_
              rotate_left
              · intro wq hSw
                have k0 := (hSw.cell (p := ⟨g3, o3 + k, none⟩) hg3).trans F0.out
                clear hSw
                go_simp
                try with_reducible rfl
              simp only [Act.put, List.setIfInBounds_toArray, List.set_cons_zero, List.set_cons_succ]
              refine wpAnyH_ready (rs := [5]) (by kernel_rfl) (by simp) ?_
              refine AllReadyH.cons rfl (fun K hK => ?_) AllReadyH.nil
              go_simp
              refine (HLV.out _ _ (HTW.out.below hS)).mono ?_
              rintro e w2 ⟨rfl, hbN⟩
              have hSN := hS.trans (hbN.mono hS.size)
              refine hK.out _ _ hSN (fun _ => ?_)
              clear hK hbN hS
              have hS := hSN
              clear hSN
              refine takeD 6 69 (v := ?_) rfl (by rfl) (by kernel_rfl) (by kernel_rfl) (by kernel_rfl) (fun _ _ _ h => h) (Or.inl ⟨by rfl, ?_⟩) (by assumption) ?_
              rotate_left
              · intro wq hSw
                clear hSw
                go_simp
                try with_reducible rfl
              simp only [Act.put, List.setIfInBounds_toArray, List.set_cons_zero, List.set_cons_succ]
              refine takeD 7 70 (v := ?_) rfl (by rfl) (by kernel_rfl) (by kernel_rfl) (by kernel_rfl) (fun _ _ _ h => h) (Or.inl ⟨by rfl, ?_⟩) (by assumption) ?_
              rotate_left
              · intro wq hSw
                clear hSw
                go_simp
                try with_reducible rfl
              simp only [Act.put, List.setIfInBounds_toArray, List.set_cons_zero, List.set_cons_succ]
              refine takeD 8 71 (v := undef) rfl (by rfl) (by kernel_rfl) (by kernel_rfl) (by kernel_rfl) (fun _ _ _ h => h) (Or.inr ⟨by rfl, rfl⟩) (by assumption) ?_
              simp only [Act.put, List.setIfInBounds_toArray, List.set_cons_zero, List.set_cons_succ]
              refine takeD 9 72 (v := undef) rfl (by rfl) (by kernel_rfl) (by kernel_rfl) (by kernel_rfl) (fun _ _ _ h => h) (Or.inr ⟨by rfl, rfl⟩) (by assumption) ?_
              simp only [Act.put, List.setIfInBounds_toArray, List.set_cons_zero, List.set_cons_succ]
              refine takeD 10 73 (v := undef) rfl (by rfl) (by kernel_rfl) (by kernel_rfl) (by kernel_rfl) (fun _ _ _ h => h) (Or.inr ⟨by rfl, rfl⟩) (by assumption) ?_
              simp only [Act.put, List.setIfInBounds_toArray, List.set_cons_zero, List.set_cons_succ]
              refine takeD 11 74 (v := undef) rfl (by rfl) (by kernel_rfl) (by kernel_rfl) (by kernel_rfl) (fun _ _ _ h => h) (Or.inr ⟨by rfl, rfl⟩) (by assumption) ?_
              simp only [Act.put, List.setIfInBounds_toArray, List.set_cons_zero, List.set_cons_succ]
              refine takeD 12 75 (v := undef) rfl (by rfl) (by kernel_rfl) (by kernel_rfl) (by kernel_rfl) (fun _ _ _ h => h) (Or.inr ⟨by rfl, rfl⟩) (by assumption) ?_
              simp only [Act.put, List.setIfInBounds_toArray, List.set_cons_zero, List.set_cons_succ]
              refine takeD 13 76 (v := undef) rfl (by rfl) (by kernel_rfl) (by kernel_rfl) (by kernel_rfl) (fun _ _ _ h => h) (Or.inr ⟨by rfl, rfl⟩) (by assumption) ?_
              simp only [Act.put, List.setIfInBounds_toArray, List.set_cons_zero, List.set_cons_succ]
              refine takeD 14 77 (v := undef) rfl (by rfl) (by kernel_rfl) (by kernel_rfl) (by kernel_rfl) (fun _ _ _ h => h) (Or.inr ⟨by rfl, rfl⟩) (by assumption) ?_
              simp only [Act.put, List.setIfInBounds_toArray, List.set_cons_zero, List.set_cons_succ]
              refine takeD 15 78 (v := undef) rfl (by rfl) (by kernel_rfl) (by kernel_rfl) (by kernel_rfl) (fun _ _ _ h => h) (Or.inr ⟨by rfl, rfl⟩) (by assumption) ?_
              simp only [Act.put, List.setIfInBounds_toArray, List.set_cons_zero, List.set_cons_succ]
              refine takeD 16 79 (v := undef) rfl (by rfl) (by kernel_rfl) (by kernel_rfl) (by kernel_rfl) (fun _ _ _ h => h) (Or.inr ⟨by rfl, rfl⟩) (by assumption) ?_
              simp only [Act.put, List.setIfInBounds_toArray, List.set_cons_zero, List.set_cons_succ]
              refine takeD 17 80 (v := undef) rfl (by rfl) (by kernel_rfl) (by kernel_rfl) (by kernel_rfl) (fun _ _ _ h => h) (Or.inr ⟨by rfl, rfl⟩) (by assumption) ?_
              simp only [Act.put, List.setIfInBounds_toArray, List.set_cons_zero, List.set_cons_succ]
              refine takeD 18 81 (v := undef) rfl (by rfl) (by kernel_rfl) (by kernel_rfl) (by kernel_rfl) (fun _ _ _ h => h) (Or.inr ⟨by rfl, rfl⟩) (by assumption) ?_
              simp only [Act.put, List.setIfInBounds_toArray, List.set_cons_zero, List.set_cons_succ]
              refine takeD 19 82 (v := undef) rfl (by rfl) (by kernel_rfl) (by kernel_rfl) (by kernel_rfl) (fun _ _ _ h => h) (Or.inr ⟨by rfl, rfl⟩) (by assumption) ?_
              simp only [Act.put, List.setIfInBounds_toArray, List.set_cons_zero, List.set_cons_succ]
              refine takeD 20 83 (v := undef) rfl (by rfl) (by kernel_rfl) (by kernel_rfl) (by kernel_rfl) (fun _ _ _ h => h) (Or.inr ⟨by rfl, rfl⟩) (by assumption) ?_
              simp only [Act.put, List.setIfInBounds_toArray, List.set_cons_zero, List.set_cons_succ]
              refine takeD 21 84 (v := undef) rfl (by rfl) (by kernel_rfl) (by kernel_rfl) (by kernel_rfl) (fun _ _ _ h => h) (Or.inr ⟨by rfl, rfl⟩) (by assumption) ?_
              simp only [Act.put, List.setIfInBounds_toArray, List.set_cons_zero, List.set_cons_succ]
              refine takeD 22 85 (v := undef) rfl (by rfl) (by kernel_rfl) (by kernel_rfl) (by kernel_rfl) (fun _ _ _ h => h) (Or.inr ⟨by rfl, rfl⟩) (by assumption) ?_
              simp only [Act.put, List.setIfInBounds_toArray, List.set_cons_zero, List.set_cons_succ]
              refine takeD 23 86 (v := undef) rfl (by rfl) (by kernel_rfl) (by kernel_rfl) (by kernel_rfl) (fun _ _ _ h => h) (Or.inr ⟨by rfl, rfl⟩) (by assumption) ?_
              simp only [Act.put, List.setIfInBounds_toArray, List.set_cons_zero, List.set_cons_succ]
              refine takeD 24 87 (v := undef) rfl (by rfl) (by kernel_rfl) (by kernel_rfl) (by kernel_rfl) (fun _ _ _ h => h) (Or.inr ⟨by rfl, rfl⟩) (by assumption) ?_
              simp only [Act.put, List.setIfInBounds_toArray, List.set_cons_zero, List.set_cons_succ]
              refine takeD 25 88 (v := ?_) rfl (by rfl) (by kernel_rfl) (by kernel_rfl) (by kernel_rfl) (fun _ _ _ h => h) (Or.inl ⟨by rfl, ?_⟩) (by assumption) ?_
              rotate_left
              · intro wq hSw
                clear hSw
                go_simp
                try with_reducible rfl
              simp only [Act.put, List.setIfInBounds_toArray, List.set_cons_zero, List.set_cons_succ]
              refine wpAnyH_done (by kernel_rfl) ?_ _
              have HB3 := Lib.hid (HW.out.trans (hS.mono HW.out.size))
              clear hS
              go_wp2_with fail
              go_roundw
              case rel => exact ⟨k + 1, b, by omega, by omega, by omega, rfl, by go_num, HN, HB3⟩
              case measure => simp [intOf]; omega
          · obtain rfl : k = l.length := by omega
            have hG := HG.out
            rw [List.drop_length] at hG
            have HN := Lib.hid (show res = b from by rw [HNO.out]; exact hG)
            clear hG
            go_wp2_with fail
            go_ret
            exact ⟨by rw [HN.out]; rfl, HBA.out.trans (HW.out.mono HBA.out.size)⟩end Go.Proofs.YtfbiaclpopjipaaGreat
