/- The reference of layer 14: Levels. -/
import Derived.Test.YtiodfolcnnkdjaaGreatDd
namespace Go.Proofs.YtiodfolcnnkdjaaGreat
open Go.RowKit

theorem rVl_place {its : List RIt} {x : Int} (h : rVl its x ≠ 0) : 0 ≤ rP its (litV x : Nat) := by
 have key : ∀ (l : List RIt) (i : Nat), rVl l x ≠ 0 → 0 ≤ rPl l (litV x : Nat) i := by
  intro l
  induction l with
  | nil => intro i h; exact absurd rfl h
  | cons y l ih =>
   intro i h
   have hv : litB x = true → 0 < (litV x : Int) := fun hb => by
    have := (litB_iff x).1 hb
    unfold litV
    rw [if_pos hb]
    omega
   unfold rPl
   split
   ·
    omega
   ·
    rename_i hc
    unfold rVl at h
    split at h
    ·
     rename_i h1
     exact absurd ⟨hv h1.1, by rw [h1.2]⟩ hc
    ·
     split at h
     ·
      rename_i h1
      exact absurd ⟨hv h1.1, by rw [h1.2, litV_negate]⟩ hc
     ·
      exact ih _ h
 exact key its 0 h
theorem rFails_neg {its : List RIt} {acc c r : List Int} (h : rFails its acc c = some r) (ha : ∀ x ∈ acc, rVl its x < 0) : ∀ x ∈ r, rVl its x < 0 := by
 induction c generalizing acc with
 | nil =>
  obtain rfl := Option.some.inj h
  exact ha
 | cons y c ih =>
  unfold rFails at h
  split at h
  ·
   cases h
  ·
   rename_i hy
   refine ih h (fun x hx => ?_)
   split at hx
   ·
    exact ha x hx
   ·
    rcases List.mem_append.1 hx with hx | hx
    ·
     exact ha x hx
    ·
     rw [List.mem_singleton.1 hx]
     omega
theorem rFailsAt_neg (all : List REn) (its : List RIt) (id : Int) : ∀ x ∈ (rFailsAt all its id).1, rVl its x < 0 := by
 unfold rFailsAt
 split
 ·
  intro x hx; cases hx
 ·
  split
  ·
   split
   ·
    rename_i h
    exact rFails_neg h (fun x hx => by cases hx)
   ·
    intro x hx; cases hx
  ·
   intro x hx; cases hx
theorem rFailsAt_place (all : List REn) (its : List RIt) (id : Int) : ∀ x ∈ (rFailsAt all its id).1, 0 ≤ rP its (litV x : Nat) := fun x hx => rVl_place (by have := rFailsAt_neg all its id x hx; omega)
/-- the first loop of goes -/
def rGo1 (its : List RIt) (top : Int) (l : List Int) : Nat → Int → Int → List Int → Int × Int
 | _, b, m, [] => (b, m)
 | i, b, m, x :: c => if rL its x = top then (if b < 0 ∨ rP its (litV (l.getD b.toNat 0)) < rP its (litV x) then rGo1 its top l (i + 1) i (m + 1) c else rGo1 its top l (i + 1) b (m + 1) c) else rGo1 its top l (i + 1) b m c
/-- the second -/
def rGo2 (its : List RIt) (l : List Int) : Nat → Int → List Int → Int
 | _, b, [] => b
 | i, b, x :: c => if rL its x = 0 ∧ (b < 0 ∨ rP its (litV (l.getD b.toNat 0)) < rP its (litV x)) then rGo2 its l (i + 1) i c else rGo2 its l (i + 1) b c
def rGoes (its : List RIt) (l : List Int) (top : Int) : Int :=
 if 0 ≤ (rGo1 its top l 0 (-1) 0 l).1 ∧ (1 < (rGo1 its top l 0 (-1) 0 l).2 ∨ top = 0) then (rGo1 its top l 0 (-1) 0 l).1 else rGo2 its l 0 (-1) l
set_option maxRecDepth 100000 in
set_option maxHeartbeats 8000000 in
theorem ref_goes {O : Nat → Prop} (top : Int) (u : Value) (l : List Int) (t : RTr) (tv : Value) (w : World) (h : RTAt w tv t) (ho : t.Ok) (hu : IntsIn O w u l) (hl : l.length ≤ 1000000) (hp : ∀ x ∈ l, 0 ≤ rP t.items (litV x : Nat)) :
  Calls Tryz.prog 96 #[tv, u, .int .i64 top] w fun e w' => e = .returned (.int .i64 (rGoes t.items l top)) ∧ Below w.heap.size w w' := by
 have hlen := ho.len
 have HOK := Lib.hid ho
 have HPX := Lib.hid hp
 have HU0 := Lib.hid hu
 obtain ⟨Au, cu, rfl, _⟩ := hu
 clear hp
 obtain ⟨res, hres⟩ : ∃ r, rGoes t.items l top = r := ⟨_, rfl⟩
 rw [hres]
 have HRES := Lib.hid hres
 clear hres
 obtain ⟨iv, sv, rfl, hi, hs⟩ := h
 obtain ⟨wa, hwa⟩ : ∃ z, w.alloc (.cells #[.int .i64 t.vars, .int .i64 t.now, iv, sv] 59) = z := ⟨_, rfl⟩
 have hba : Below w.heap.size w wa := by rw [← hwa]; exact mx_al _ _
 have hbn : wa.heap[w.heap.size]? = some (.cells #[.int .i64 t.vars, .int .i64 t.now, iv, sv] 59 (0, 0)) := by rw [← hwa]; exact World.alloc_heap_new _ _
 have HI := Lib.hid (hi.below hba)
 have HS := Lib.hid (hs.below hba)
 have HBA := Lib.hid hba
 have HBN := Lib.hid hbn
 have HWA := Lib.hid hwa
 have C0 := Lib.hid (mx_cell (j := 0) hbn)
 have C1 := Lib.hid (mx_cell (j := 1) hbn)
 have C2 := Lib.hid (mx_cell (j := 2) hbn)
 have C3 := Lib.hid (mx_cell (j := 3) hbn)
 have hzw := heap_lt hbn
 have HT := Lib.hid (show RTAt wa (.agg #[.int .i64 t.vars, .int .i64 t.now, iv, sv]) t from ⟨iv, sv, rfl, HI.out, HS.out⟩)
 have HU := Lib.hid (HU0.out.below hba)
 clear hba hbn hs hwa hi
 go_enter Tryz.func96, Tryz.ntmps96
 go_wp2_with fail
 rw [HWA.out]
 go_loopw [7, 8, 9] (fun bv mv i wr => ∃ (k : Nat) (b m : Int), k ≤ l.length ∧ -1 ≤ b ∧ b < (k : Int) ∧ 0 ≤ m ∧ m ≤ k ∧ bv = .int .i64 b ∧ mv = .int .i64 m ∧ i = .int .i64 k ∧ Hid (rGo1 t.items top l 0 (-1) 0 l = rGo1 t.items top l k b m (l.drop k)) ∧ Hid (Below wa.heap.size wa wr)) (fun _ _ i _ => l.length - (intOf i).toNat)
 case atStart => exact ⟨0, -1, 0, Nat.zero_le _, by omega, by omega, by omega, by omega, rfl, rfl, rfl, Lib.hid rfl, Lib.hid (Below.refl _ _)⟩
 case round =>
  obtain ⟨k, b, m, hk, hb1, hb2, hm0, hmk, rfl, rfl, rfl, HG, HW⟩ := hrel
  by_cases hlt : k < l.length
  ·
   obtain ⟨x, hx⟩ := getElem_of hlt
   obtain ⟨A3, c3, hA3, hlc3, _, hxs⟩ := HU.out.below HW.out
   simp only [Value.slice.injEq, true_and] at hA3
   obtain ⟨rfl, rfl⟩ := hA3
   obtain ⟨g3, o3, rfl, hg3, _, f0⟩ := hxs k x hx
   have F0 := Lib.hid f0
   have hkc : k < cu := by omega
   have hdr := drop_at hx
   have HTW := Lib.hid (HT.out.below HW.out)
   have HLV := Lib.hid (fun (w : World) tv (h : RTAt w tv t) => ref_level14 x t tv w h HOK.out (HPX.out x (List.mem_of_getElem? hx)))
   have HPV := Lib.hid (fun (w : World) tv (h : RTAt w tv t) => ref_place14 x t tv w h HOK.out)
   have hzr := Nat.lt_of_lt_of_le hzw HW.out.size
   have R0 := Lib.hid ((HW.out.cell (p := ⟨w.heap.size, 0, none⟩) hzw).trans C0.out)
   have R1 := Lib.hid ((HW.out.cell (p := ⟨w.heap.size, 1, none⟩) hzw).trans C1.out)
   have R2 := Lib.hid ((HW.out.cell (p := ⟨w.heap.size, 2, none⟩) hzw).trans C2.out)
   have R3 := Lib.hid ((HW.out.cell (p := ⟨w.heap.size, 3, none⟩) hzw).trans C3.out)
   by_cases hq : rL t.items x = top
   ·
    have q1 : (rL t.items x == top) = true := by simpa using hq
    go_upto_region 5 with fail
    refine wp_region_held_drew (S := fun w' => Below wr.heap.size wr w') (by kernel_rfl) (mx_drew wr) (fun hS => ?_)
    refine takeF 0 18 (fun wq hSw => And.intro ((hSw.cell (p := ⟨w.heap.size, 0, none⟩) hzr).trans R0.out) (And.intro ((hSw.cell (p := ⟨w.heap.size, 1, none⟩) hzr).trans R1.out) (And.intro ((hSw.cell (p := ⟨w.heap.size, 2, none⟩) hzr).trans R2.out) ((hSw.cell (p := ⟨w.heap.size, 3, none⟩) hzr).trans R3.out)))) ?_
    refine takeE 1 19 ?_
    refine takeE 2 20 ?_
    refine takeE 3 21 ?_
    refine takeF 4 22 (fun wq hSw => (hSw.cell (p := ⟨g3, o3 + k, none⟩) hg3).trans F0.out) ?_
    refine takeE 6 24 ?_
    refine ready1 5 (fun K hK => ?_)
    go_simp
    refine (HLV.out _ _ (HTW.out.below hS)).mono ?_
    rintro e w2 ⟨rfl, hbN⟩
    have hSN := hS.trans (hbN.mono hS.size)
    refine hK.out _ _ hSN (fun _ => ?_)
    clear hK hbN hS
    have hS := hSN
    clear hSN
    refine takeE 7 25 ?_
    refine wpAnyH_done (by kernel_rfl) ?_ _
    have HB2 := Lib.hid (HW.out.trans (hS.mono HW.out.size))
    have hz2 := Nat.lt_of_lt_of_le hzr hS.size
    have S0 := Lib.hid ((hS.cell (p := ⟨w.heap.size, 0, none⟩) hzr).trans R0.out)
    have S1 := Lib.hid ((hS.cell (p := ⟨w.heap.size, 1, none⟩) hzr).trans R1.out)
    have S2 := Lib.hid ((hS.cell (p := ⟨w.heap.size, 2, none⟩) hzr).trans R2.out)
    have S3 := Lib.hid ((hS.cell (p := ⟨w.heap.size, 3, none⟩) hzr).trans R3.out)
    have F02 := Lib.hid ((hS.cell (p := ⟨g3, o3 + k, none⟩) hg3).trans F0.out)
    have hg32 := Nat.lt_of_lt_of_le hg3 hS.size
    have HT2 := Lib.hid (HTW.out.below hS)
    have HQ := Lib.hid hq
    clear hq
    by_cases hb0 : b < 0
    ·
     have q2 : decide (b < 0) = true := by simpa using hb0
     have HN := Lib.hid (show rGo1 t.items top l 0 (-1) 0 l = rGo1 t.items top l (k + 1) k (m + 1) (l.drop (k + 1)) from by rw [HG.out, hdr]; exact (if_pos HQ.out).trans (if_pos (.inl hb0)))
     clear hx hxs f0 hdr hb0 hS
     go_upto_region 7 with fail
     refine wp_region_held_drew (S := fun w' => Below w2.heap.size w2 w') (by kernel_rfl) (mx_drew w2) (fun hS => ?_)
     refine takeE 0 28 ?_
     refine takeE 1 29 ?_
     refine takeE 2 30 ?_
     refine takeU 3 31 ?_
     refine takeU 4 32 ?_
     refine takeU 5 33 ?_
     refine takeU 6 34 ?_
     refine takeU 7 35 ?_
     refine takeU 8 36 ?_
     refine takeU 9 37 ?_
     refine takeU 10 38 ?_
     refine takeU 11 39 ?_
     refine takeU 12 40 ?_
     refine takeU 13 41 ?_
     refine takeU 14 42 ?_
     refine takeU 15 43 ?_
     refine takeE 16 44 ?_
     refine wpAnyH_done (by kernel_rfl) ?_ _
     have HB3 := Lib.hid (HB2.out.trans (hS.mono HB2.out.size))
     clear hS
     go_wp2_with fail
     go_roundw
     case rel => exact ⟨k + 1, k, m + 1, by omega, by omega, by omega, by omega, by omega, rfl, by go_num, by go_num, HN, HB3⟩
     case measure => simp [intOf]; omega
    ·
     have q2 : decide (b < 0) = false := by simpa using hb0
     obtain ⟨bn, rfl⟩ : ∃ q : Nat, b = q := ⟨_, (Int.toNat_of_nonneg (by omega)).symm⟩
     have hbl : bn < l.length := by omega
     obtain ⟨y, hy⟩ := getElem_of hbl
     obtain ⟨g4, o4, e4, _, _, fy⟩ := hxs bn y hy
     simp only [Option.some.injEq, Addr.mk.injEq, and_true] at e4
     obtain ⟨rfl, rfl⟩ := e4
     have FY := Lib.hid fy
     have HGD := Lib.hid (show l.getD (bn : Int).toNat 0 = y from by rw [Int.toNat_natCast, List.getD_eq_getElem?_getD, hy]; rfl)
     have HPY := Lib.hid (fun (w : World) tv (h : RTAt w tv t) => ref_place14 y t tv w h HOK.out)
     have hbc : bn < cu := by omega
     have FY2 := Lib.hid ((hS.cell (p := ⟨g3, o3 + bn, none⟩) hg3).trans FY.out)
     by_cases hpp : rP t.items (litV y : Nat) < rP t.items (litV x : Nat)
     ·
      have q3 : decide (rP t.items (litV y : Nat) < rP t.items (litV x : Nat)) = true := by simpa using hpp
      have HN := Lib.hid (show rGo1 t.items top l 0 (-1) 0 l = rGo1 t.items top l (k + 1) k (m + 1) (l.drop (k + 1)) from by rw [HG.out, hdr]; exact (if_pos HQ.out).trans (if_pos (.inr (by rw [HGD.out]; exact hpp))))
      clear hx hxs f0 hdr hb0 hS hpp hy fy
      go_upto_region 7 with fail
      refine wp_region_held_drew (S := fun w' => Below w2.heap.size w2 w') (by kernel_rfl) (mx_drew w2) (fun hS => ?_)
      refine takeE 0 28 ?_
      refine takeE 1 29 ?_
      refine takeE 2 30 ?_
      refine takeF 3 31 (fun wq hSw => And.intro ((hSw.cell (p := ⟨w.heap.size, 0, none⟩) hz2).trans S0.out) (And.intro ((hSw.cell (p := ⟨w.heap.size, 1, none⟩) hz2).trans S1.out) (And.intro ((hSw.cell (p := ⟨w.heap.size, 2, none⟩) hz2).trans S2.out) ((hSw.cell (p := ⟨w.heap.size, 3, none⟩) hz2).trans S3.out)))) ?_
      refine takeE 4 32 ?_
      refine takeE 5 33 ?_
      refine takeE 6 34 ?_
      refine takeF 7 35 (fun wq hSw => (hSw.cell (p := ⟨g3, o3 + k, none⟩) hg32).trans F02.out) ?_
      refine takeF 9 37 (fun wq hSw => And.intro ((hSw.cell (p := ⟨w.heap.size, 0, none⟩) hz2).trans S0.out) (And.intro ((hSw.cell (p := ⟨w.heap.size, 1, none⟩) hz2).trans S1.out) (And.intro ((hSw.cell (p := ⟨w.heap.size, 2, none⟩) hz2).trans S2.out) ((hSw.cell (p := ⟨w.heap.size, 3, none⟩) hz2).trans S3.out)))) ?_
      refine takeE 10 38 ?_
      refine takeE 11 39 ?_
      refine takeE 12 40 ?_
      refine takeF 13 41 (fun wq hSw => (hSw.cell (p := ⟨g3, o3 + bn, none⟩) hg32).trans FY2.out) ?_
      refine ready1 8 (fun K hK => ?_)
      go_simp
      refine (HPV.out _ _ (HT2.out.below hS)).mono ?_
      rintro e w3 ⟨rfl, hbN⟩
      have hSN := hS.trans (hbN.mono hS.size)
      refine hK.out _ _ hSN (fun _ => ?_)
      clear hK hbN hS
      have hS := hSN
      clear hSN
      refine ready1 14 (fun K hK => ?_)
      go_simp
      refine (HPY.out _ _ (HT2.out.below hS)).mono ?_
      rintro e w4 ⟨rfl, hbN⟩
      have hSN := hS.trans (hbN.mono hS.size)
      refine hK.out _ _ hSN (fun _ => ?_)
      clear hK hbN hS
      have hS := hSN
      clear hSN
      refine takeE 15 43 ?_
      refine takeE 16 44 ?_
      refine wpAnyH_done (by kernel_rfl) ?_ _
      have HB3 := Lib.hid (HB2.out.trans (hS.mono HB2.out.size))
      clear hS
      go_wp2_with fail
      go_roundw
      case rel => exact ⟨k + 1, k, m + 1, by omega, by omega, by omega, by omega, by omega, rfl, by go_num, by go_num, HN, HB3⟩
      case measure => simp [intOf]; omega
     ·
      have q3 : decide (rP t.items (litV y : Nat) < rP t.items (litV x : Nat)) = false := by simpa using hpp
      have HN := Lib.hid (show rGo1 t.items top l 0 (-1) 0 l = rGo1 t.items top l (k + 1) bn (m + 1) (l.drop (k + 1)) from by rw [HG.out, hdr]; exact (if_pos HQ.out).trans (if_neg (fun h => h.elim hb0 (fun h => hpp (by rw [HGD.out] at h; exact h)))))
      clear hx hxs f0 hdr hb0 hS hpp hy fy
      go_upto_region 7 with fail
      refine wp_region_held_drew (S := fun w' => Below w2.heap.size w2 w') (by kernel_rfl) (mx_drew w2) (fun hS => ?_)
      refine takeE 0 28 ?_
      refine takeE 1 29 ?_
      refine takeE 2 30 ?_
      refine takeF 3 31 (fun wq hSw => And.intro ((hSw.cell (p := ⟨w.heap.size, 0, none⟩) hz2).trans S0.out) (And.intro ((hSw.cell (p := ⟨w.heap.size, 1, none⟩) hz2).trans S1.out) (And.intro ((hSw.cell (p := ⟨w.heap.size, 2, none⟩) hz2).trans S2.out) ((hSw.cell (p := ⟨w.heap.size, 3, none⟩) hz2).trans S3.out)))) ?_
      refine takeE 4 32 ?_
      refine takeE 5 33 ?_
      refine takeE 6 34 ?_
      refine takeF 7 35 (fun wq hSw => (hSw.cell (p := ⟨g3, o3 + k, none⟩) hg32).trans F02.out) ?_
      refine takeF 9 37 (fun wq hSw => And.intro ((hSw.cell (p := ⟨w.heap.size, 0, none⟩) hz2).trans S0.out) (And.intro ((hSw.cell (p := ⟨w.heap.size, 1, none⟩) hz2).trans S1.out) (And.intro ((hSw.cell (p := ⟨w.heap.size, 2, none⟩) hz2).trans S2.out) ((hSw.cell (p := ⟨w.heap.size, 3, none⟩) hz2).trans S3.out)))) ?_
      refine takeE 10 38 ?_
      refine takeE 11 39 ?_
      refine takeE 12 40 ?_
      refine takeF 13 41 (fun wq hSw => (hSw.cell (p := ⟨g3, o3 + bn, none⟩) hg32).trans FY2.out) ?_
      refine ready1 8 (fun K hK => ?_)
      go_simp
      refine (HPV.out _ _ (HT2.out.below hS)).mono ?_
      rintro e w3 ⟨rfl, hbN⟩
      have hSN := hS.trans (hbN.mono hS.size)
      refine hK.out _ _ hSN (fun _ => ?_)
      clear hK hbN hS
      have hS := hSN
      clear hSN
      refine ready1 14 (fun K hK => ?_)
      go_simp
      refine (HPY.out _ _ (HT2.out.below hS)).mono ?_
      rintro e w4 ⟨rfl, hbN⟩
      have hSN := hS.trans (hbN.mono hS.size)
      refine hK.out _ _ hSN (fun _ => ?_)
      clear hK hbN hS
      have hS := hSN
      clear hSN
      refine takeE 15 43 ?_
      refine takeE 16 44 ?_
      refine wpAnyH_done (by kernel_rfl) ?_ _
      have HB3 := Lib.hid (HB2.out.trans (hS.mono HB2.out.size))
      clear hS
      go_wp2_with fail
      go_roundw
      case rel => exact ⟨k + 1, bn, m + 1, by omega, by omega, by omega, by omega, by omega, rfl, by go_num, by go_num, HN, HB3⟩
      case measure => simp [intOf]; omega
   ·
    have q1 : (rL t.items x == top) = false := by simpa using hq
    have HN := Lib.hid (show rGo1 t.items top l 0 (-1) 0 l = rGo1 t.items top l (k + 1) b m (l.drop (k + 1)) from by rw [HG.out, hdr]; exact if_neg hq)
    clear hx hxs f0 hdr hq
    go_upto_region 5 with fail
    refine wp_region_held_drew (S := fun w' => Below wr.heap.size wr w') (by kernel_rfl) (mx_drew wr) (fun hS => ?_)
    refine takeF 0 18 (fun wq hSw => And.intro ((hSw.cell (p := ⟨w.heap.size, 0, none⟩) hzr).trans R0.out) (And.intro ((hSw.cell (p := ⟨w.heap.size, 1, none⟩) hzr).trans R1.out) (And.intro ((hSw.cell (p := ⟨w.heap.size, 2, none⟩) hzr).trans R2.out) ((hSw.cell (p := ⟨w.heap.size, 3, none⟩) hzr).trans R3.out)))) ?_
    refine takeE 1 19 ?_
    refine takeE 2 20 ?_
    refine takeE 3 21 ?_
    refine takeF 4 22 (fun wq hSw => (hSw.cell (p := ⟨g3, o3 + k, none⟩) hg3).trans F0.out) ?_
    refine takeE 6 24 ?_
    refine ready1 5 (fun K hK => ?_)
    go_simp
    refine (HLV.out _ _ (HTW.out.below hS)).mono ?_
    rintro e w2 ⟨rfl, hbN⟩
    have hSN := hS.trans (hbN.mono hS.size)
    refine hK.out _ _ hSN (fun _ => ?_)
    clear hK hbN hS
    have hS := hSN
    clear hSN
    refine takeE 7 25 ?_
    refine wpAnyH_done (by kernel_rfl) ?_ _
    have HB2 := Lib.hid (HW.out.trans (hS.mono HW.out.size))
    clear hS
    go_wp2_with fail
    go_roundw
    case rel => exact ⟨k + 1, b, m, by omega, by omega, by omega, by omega, by omega, rfl, rfl, by go_num, HN, HB2⟩
    case measure => simp [intOf]; omega
  ·
   obtain rfl : k = l.length := by omega
   have hG := HG.out
   rw [List.drop_length] at hG
   have HG1 := Lib.hid (show rGo1 t.items top l 0 (-1) 0 l = (b, m) from hG)
   clear hG
   have HWO := HW
   obtain ⟨xo, hxo⟩ : ∃ xo : World, xo = wr := ⟨_, rfl⟩
   by_cases hb0 : 0 ≤ b
   ·
    have q1 : decide (0 ≤ b) = true := by simpa using hb0
    by_cases hm1 : 1 < m
    ·
     have q2 : decide (1 < m) = true := by simpa using hm1
     have HY := Lib.hid (show res = b from by rw [← HRES.out]; unfold rGoes; rw [HG1.out]; exact if_pos ⟨hb0, .inl hm1⟩)
     clear hb0 hm1 hxo
     go_wp2_with fail
     go_ret
     exact ⟨by rw [HY.out]; rfl, HBA.out.trans (HW.out.mono HBA.out.size)⟩
    ·
     have q2 : decide (1 < m) = false := by simpa using hm1
     by_cases ht : top = 0
     ·
      subst ht
      have HY := Lib.hid (show res = b from by rw [← HRES.out]; unfold rGoes; rw [HG1.out]; exact if_pos ⟨hb0, .inr rfl⟩)
      clear hb0 hm1 hxo
      go_wp2_with fail
      go_ret
      exact ⟨by rw [HY.out]; rfl, HBA.out.trans (HW.out.mono HBA.out.size)⟩
     ·
      have q3 : (top == 0) = false := by simpa using ht
      have HNO := Lib.hid (show res = rGo2 t.items l 0 (-1) l from by rw [← HRES.out]; unfold rGoes; rw [HG1.out]; exact if_neg (fun h => h.2.elim hm1 ht))
      clear hb0 hm1 ht HG HG1 hxo xo hmk hm0 hb1 hb2
      go_wp2_with fail
      go_loopw [10, 11] (fun bv i wr => ∃ (k : Nat) (b : Int), k ≤ l.length ∧ -1 ≤ b ∧ b < (k : Int) ∧ bv = .int .i64 b ∧ i = .int .i64 k ∧ Hid (rGo2 t.items l 0 (-1) l = rGo2 t.items l k b (l.drop k)) ∧ Hid (Below wa.heap.size wa wr)) (fun _ i _ => l.length - (intOf i).toNat)
      case atStart => exact ⟨0, -1, Nat.zero_le _, by omega, by omega, rfl, rfl, Lib.hid rfl, HWO⟩
      case round =>
       obtain ⟨k, b, hk, hb1, hb2, rfl, rfl, HG, HW⟩ := hrel
       by_cases hlt : k < l.length
       ·
        obtain ⟨x, hx⟩ := getElem_of hlt
        obtain ⟨A3, c3, hA3, hlc3, _, hxs⟩ := HU.out.below HW.out
        simp only [Value.slice.injEq, true_and] at hA3
        obtain ⟨rfl, rfl⟩ := hA3
        obtain ⟨g3, o3, rfl, hg3, _, f0⟩ := hxs k x hx
        have F0 := Lib.hid f0
        have hkc : k < cu := by omega
        have hdr := drop_at hx
        have HTW := Lib.hid (HT.out.below HW.out)
        have HLV := Lib.hid (fun (w : World) tv (h : RTAt w tv t) => ref_level14 x t tv w h HOK.out (HPX.out x (List.mem_of_getElem? hx)))
        have HPV := Lib.hid (fun (w : World) tv (h : RTAt w tv t) => ref_place14 x t tv w h HOK.out)
        have hzr := Nat.lt_of_lt_of_le hzw HW.out.size
        have R0 := Lib.hid ((HW.out.cell (p := ⟨w.heap.size, 0, none⟩) hzw).trans C0.out)
        have R1 := Lib.hid ((HW.out.cell (p := ⟨w.heap.size, 1, none⟩) hzw).trans C1.out)
        have R2 := Lib.hid ((HW.out.cell (p := ⟨w.heap.size, 2, none⟩) hzw).trans C2.out)
        have R3 := Lib.hid ((HW.out.cell (p := ⟨w.heap.size, 3, none⟩) hzw).trans C3.out)
        by_cases hq : rL t.items x = 0
        ·
         have q1 : (rL t.items x == 0) = true := by simpa using hq
         have HQ := Lib.hid hq
         clear hq
         by_cases hb0 : b < 0
         ·
          have q2 : decide (b < 0) = true := by simpa using hb0
          have HN := Lib.hid (show rGo2 t.items l 0 (-1) l = rGo2 t.items l (k + 1) k (l.drop (k + 1)) from by rw [HG.out, hdr]; exact if_pos ⟨HQ.out, .inl hb0⟩)
          clear hx hxs f0 hdr hb0
          go_upto_region 15 with fail
          refine wp_region_held_drew (S := fun w' => Below wr.heap.size wr w') (by kernel_rfl) (mx_drew wr) (fun hS => ?_)
          refine takeF 0 63 (fun wq hSw => And.intro ((hSw.cell (p := ⟨w.heap.size, 0, none⟩) hzr).trans R0.out) (And.intro ((hSw.cell (p := ⟨w.heap.size, 1, none⟩) hzr).trans R1.out) (And.intro ((hSw.cell (p := ⟨w.heap.size, 2, none⟩) hzr).trans R2.out) ((hSw.cell (p := ⟨w.heap.size, 3, none⟩) hzr).trans R3.out)))) ?_
          refine takeE 1 64 ?_
          refine takeE 2 65 ?_
          refine takeE 3 66 ?_
          refine takeF 4 67 (fun wq hSw => (hSw.cell (p := ⟨g3, o3 + k, none⟩) hg3).trans F0.out) ?_
          refine ready1 5 (fun K hK => ?_)
          go_simp
          refine (HLV.out _ _ (HTW.out.below hS)).mono ?_
          rintro e w2 ⟨rfl, hbN⟩
          have hSN := hS.trans (hbN.mono hS.size)
          refine hK.out _ _ hSN (fun _ => ?_)
          clear hK hbN hS
          have hS := hSN
          clear hSN
          refine takeE 6 69 ?_
          refine takeE 7 70 ?_
          refine takeE 8 71 ?_
          refine takeE 9 72 ?_
          refine takeE 10 73 ?_
          refine takeU 11 74 ?_
          refine takeU 12 75 ?_
          refine takeU 13 76 ?_
          refine takeU 14 77 ?_
          refine takeU 15 78 ?_
          refine takeU 16 79 ?_
          refine takeU 17 80 ?_
          refine takeU 18 81 ?_
          refine takeU 19 82 ?_
          refine takeU 20 83 ?_
          refine takeU 21 84 ?_
          refine takeU 22 85 ?_
          refine takeU 23 86 ?_
          refine takeE 24 87 ?_
          refine takeE 25 88 ?_
          refine wpAnyH_done (by kernel_rfl) ?_ _
          have HB3 := Lib.hid (HW.out.trans (hS.mono HW.out.size))
          clear hS
          go_wp2_with fail
          go_roundw
          case rel => exact ⟨k + 1, k, by omega, by omega, by omega, rfl, by go_num, HN, HB3⟩
          case measure => simp [intOf]; omega
         ·
          have q2 : decide (b < 0) = false := by simpa using hb0
          obtain ⟨bn, rfl⟩ : ∃ q : Nat, b = q := ⟨_, (Int.toNat_of_nonneg (by omega)).symm⟩
          have hbl : bn < l.length := by omega
          obtain ⟨y, hy⟩ := getElem_of hbl
          obtain ⟨g4, o4, e4, _, _, fy⟩ := hxs bn y hy
          simp only [Option.some.injEq, Addr.mk.injEq, and_true] at e4
          obtain ⟨rfl, rfl⟩ := e4
          have FY := Lib.hid fy
          have HGD := Lib.hid (show l.getD (bn : Int).toNat 0 = y from by rw [Int.toNat_natCast, List.getD_eq_getElem?_getD, hy]; rfl)
          have HPY := Lib.hid (fun (w : World) tv (h : RTAt w tv t) => ref_place14 y t tv w h HOK.out)
          have hbc : bn < cu := by omega
          by_cases hpp : rP t.items (litV y : Nat) < rP t.items (litV x : Nat)
          ·
           have q3 : decide (rP t.items (litV y : Nat) < rP t.items (litV x : Nat)) = true := by simpa using hpp
           have HN := Lib.hid (show rGo2 t.items l 0 (-1) l = rGo2 t.items l (k + 1) k (l.drop (k + 1)) from by rw [HG.out, hdr]; exact if_pos ⟨HQ.out, .inr (by rw [HGD.out]; exact hpp)⟩)
           clear hx hxs f0 hdr hb0 hpp hy fy
           go_upto_region 15 with fail
           refine wp_region_held_drew (S := fun w' => Below wr.heap.size wr w') (by kernel_rfl) (mx_drew wr) (fun hS => ?_)
           refine takeF 0 63 (fun wq hSw => And.intro ((hSw.cell (p := ⟨w.heap.size, 0, none⟩) hzr).trans R0.out) (And.intro ((hSw.cell (p := ⟨w.heap.size, 1, none⟩) hzr).trans R1.out) (And.intro ((hSw.cell (p := ⟨w.heap.size, 2, none⟩) hzr).trans R2.out) ((hSw.cell (p := ⟨w.heap.size, 3, none⟩) hzr).trans R3.out)))) ?_
           refine takeE 1 64 ?_
           refine takeE 2 65 ?_
           refine takeE 3 66 ?_
           refine takeF 4 67 (fun wq hSw => (hSw.cell (p := ⟨g3, o3 + k, none⟩) hg3).trans F0.out) ?_
           refine ready1 5 (fun K hK => ?_)
           go_simp
           refine (HLV.out _ _ (HTW.out.below hS)).mono ?_
           rintro e w2 ⟨rfl, hbN⟩
           have hSN := hS.trans (hbN.mono hS.size)
           refine hK.out _ _ hSN (fun _ => ?_)
           clear hK hbN hS
           have hS := hSN
           clear hSN
           refine takeE 6 69 ?_
           refine takeE 7 70 ?_
           refine takeE 8 71 ?_
           refine takeE 9 72 ?_
           refine takeE 10 73 ?_
           refine takeF 11 74 (fun wq hSw => And.intro ((hSw.cell (p := ⟨w.heap.size, 0, none⟩) hzr).trans R0.out) (And.intro ((hSw.cell (p := ⟨w.heap.size, 1, none⟩) hzr).trans R1.out) (And.intro ((hSw.cell (p := ⟨w.heap.size, 2, none⟩) hzr).trans R2.out) ((hSw.cell (p := ⟨w.heap.size, 3, none⟩) hzr).trans R3.out)))) ?_
           refine takeE 12 75 ?_
           refine takeE 13 76 ?_
           refine takeE 14 77 ?_
           refine takeF 15 78 (fun wq hSw => (hSw.cell (p := ⟨g3, o3 + k, none⟩) hg3).trans F0.out) ?_
           refine takeF 17 80 (fun wq hSw => And.intro ((hSw.cell (p := ⟨w.heap.size, 0, none⟩) hzr).trans R0.out) (And.intro ((hSw.cell (p := ⟨w.heap.size, 1, none⟩) hzr).trans R1.out) (And.intro ((hSw.cell (p := ⟨w.heap.size, 2, none⟩) hzr).trans R2.out) ((hSw.cell (p := ⟨w.heap.size, 3, none⟩) hzr).trans R3.out)))) ?_
           refine takeE 18 81 ?_
           refine takeE 19 82 ?_
           refine takeE 20 83 ?_
           refine takeF 21 84 (fun wq hSw => (hSw.cell (p := ⟨g3, o3 + bn, none⟩) hg3).trans FY.out) ?_
           refine ready1 16 (fun K hK => ?_)
           go_simp
           refine (HPV.out _ _ (HTW.out.below hS)).mono ?_
           rintro e w3 ⟨rfl, hbN⟩
           have hSN := hS.trans (hbN.mono hS.size)
           refine hK.out _ _ hSN (fun _ => ?_)
           clear hK hbN hS
           have hS := hSN
           clear hSN
           refine ready1 22 (fun K hK => ?_)
           go_simp
           refine (HPY.out _ _ (HTW.out.below hS)).mono ?_
           rintro e w4 ⟨rfl, hbN⟩
           have hSN := hS.trans (hbN.mono hS.size)
           refine hK.out _ _ hSN (fun _ => ?_)
           clear hK hbN hS
           have hS := hSN
           clear hSN
           refine takeE 23 86 ?_
           refine takeE 24 87 ?_
           refine takeE 25 88 ?_
           refine wpAnyH_done (by kernel_rfl) ?_ _
           have HB3 := Lib.hid (HW.out.trans (hS.mono HW.out.size))
           clear hS
           go_wp2_with fail
           go_roundw
           case rel => exact ⟨k + 1, k, by omega, by omega, by omega, rfl, by go_num, HN, HB3⟩
           case measure => simp [intOf]; omega
          ·
           have q3 : decide (rP t.items (litV y : Nat) < rP t.items (litV x : Nat)) = false := by simpa using hpp
           have HN := Lib.hid (show rGo2 t.items l 0 (-1) l = rGo2 t.items l (k + 1) bn (l.drop (k + 1)) from by rw [HG.out, hdr]; exact if_neg (fun h => h.2.elim hb0 (fun h => hpp (by rw [HGD.out] at h; exact h))))
           clear hx hxs f0 hdr hb0 hpp hy fy
           go_upto_region 15 with fail
           refine wp_region_held_drew (S := fun w' => Below wr.heap.size wr w') (by kernel_rfl) (mx_drew wr) (fun hS => ?_)
           refine takeF 0 63 (fun wq hSw => And.intro ((hSw.cell (p := ⟨w.heap.size, 0, none⟩) hzr).trans R0.out) (And.intro ((hSw.cell (p := ⟨w.heap.size, 1, none⟩) hzr).trans R1.out) (And.intro ((hSw.cell (p := ⟨w.heap.size, 2, none⟩) hzr).trans R2.out) ((hSw.cell (p := ⟨w.heap.size, 3, none⟩) hzr).trans R3.out)))) ?_
           refine takeE 1 64 ?_
           refine takeE 2 65 ?_
           refine takeE 3 66 ?_
           refine takeF 4 67 (fun wq hSw => (hSw.cell (p := ⟨g3, o3 + k, none⟩) hg3).trans F0.out) ?_
           refine ready1 5 (fun K hK => ?_)
           go_simp
           refine (HLV.out _ _ (HTW.out.below hS)).mono ?_
           rintro e w2 ⟨rfl, hbN⟩
           have hSN := hS.trans (hbN.mono hS.size)
           refine hK.out _ _ hSN (fun _ => ?_)
           clear hK hbN hS
           have hS := hSN
           clear hSN
           refine takeE 6 69 ?_
           refine takeE 7 70 ?_
           refine takeE 8 71 ?_
           refine takeE 9 72 ?_
           refine takeE 10 73 ?_
           refine takeF 11 74 (fun wq hSw => And.intro ((hSw.cell (p := ⟨w.heap.size, 0, none⟩) hzr).trans R0.out) (And.intro ((hSw.cell (p := ⟨w.heap.size, 1, none⟩) hzr).trans R1.out) (And.intro ((hSw.cell (p := ⟨w.heap.size, 2, none⟩) hzr).trans R2.out) ((hSw.cell (p := ⟨w.heap.size, 3, none⟩) hzr).trans R3.out)))) ?_
           refine takeE 12 75 ?_
           refine takeE 13 76 ?_
           refine takeE 14 77 ?_
           refine takeF 15 78 (fun wq hSw => (hSw.cell (p := ⟨g3, o3 + k, none⟩) hg3).trans F0.out) ?_
           refine takeF 17 80 (fun wq hSw => And.intro ((hSw.cell (p := ⟨w.heap.size, 0, none⟩) hzr).trans R0.out) (And.intro ((hSw.cell (p := ⟨w.heap.size, 1, none⟩) hzr).trans R1.out) (And.intro ((hSw.cell (p := ⟨w.heap.size, 2, none⟩) hzr).trans R2.out) ((hSw.cell (p := ⟨w.heap.size, 3, none⟩) hzr).trans R3.out)))) ?_
           refine takeE 18 81 ?_
           refine takeE 19 82 ?_
           refine takeE 20 83 ?_
           refine takeF 21 84 (fun wq hSw => (hSw.cell (p := ⟨g3, o3 + bn, none⟩) hg3).trans FY.out) ?_
           refine ready1 16 (fun K hK => ?_)
           go_simp
           refine (HPV.out _ _ (HTW.out.below hS)).mono ?_
           rintro e w3 ⟨rfl, hbN⟩
           have hSN := hS.trans (hbN.mono hS.size)
           refine hK.out _ _ hSN (fun _ => ?_)
           clear hK hbN hS
           have hS := hSN
           clear hSN
           refine ready1 22 (fun K hK => ?_)
           go_simp
           refine (HPY.out _ _ (HTW.out.below hS)).mono ?_
           rintro e w4 ⟨rfl, hbN⟩
           have hSN := hS.trans (hbN.mono hS.size)
           refine hK.out _ _ hSN (fun _ => ?_)
           clear hK hbN hS
           have hS := hSN
           clear hSN
           refine takeE 23 86 ?_
           refine takeE 24 87 ?_
           refine takeE 25 88 ?_
           refine wpAnyH_done (by kernel_rfl) ?_ _
           have HB3 := Lib.hid (HW.out.trans (hS.mono HW.out.size))
           clear hS
           go_wp2_with fail
           go_roundw
           case rel => exact ⟨k + 1, bn, by omega, by omega, by omega, rfl, by go_num, HN, HB3⟩
           case measure => simp [intOf]; omega
        ·
         have q1 : (rL t.items x == 0) = false := by simpa using hq
         have HN := Lib.hid (show rGo2 t.items l 0 (-1) l = rGo2 t.items l (k + 1) b (l.drop (k + 1)) from by rw [HG.out, hdr]; exact if_neg (fun h => hq h.1))
         clear hx hxs f0 hdr hq
         go_upto_region 15 with fail
         refine wp_region_held_drew (S := fun w' => Below wr.heap.size wr w') (by kernel_rfl) (mx_drew wr) (fun hS => ?_)
         refine takeF 0 63 (fun wq hSw => And.intro ((hSw.cell (p := ⟨w.heap.size, 0, none⟩) hzr).trans R0.out) (And.intro ((hSw.cell (p := ⟨w.heap.size, 1, none⟩) hzr).trans R1.out) (And.intro ((hSw.cell (p := ⟨w.heap.size, 2, none⟩) hzr).trans R2.out) ((hSw.cell (p := ⟨w.heap.size, 3, none⟩) hzr).trans R3.out)))) ?_
         refine takeE 1 64 ?_
         refine takeE 2 65 ?_
         refine takeE 3 66 ?_
         refine takeF 4 67 (fun wq hSw => (hSw.cell (p := ⟨g3, o3 + k, none⟩) hg3).trans F0.out) ?_
         refine ready1 5 (fun K hK => ?_)
         go_simp
         refine (HLV.out _ _ (HTW.out.below hS)).mono ?_
         rintro e w2 ⟨rfl, hbN⟩
         have hSN := hS.trans (hbN.mono hS.size)
         refine hK.out _ _ hSN (fun _ => ?_)
         clear hK hbN hS
         have hS := hSN
         clear hSN
         refine takeE 6 69 ?_
         refine takeE 7 70 ?_
         refine takeU 8 71 ?_
         refine takeU 9 72 ?_
         refine takeU 10 73 ?_
         refine takeU 11 74 ?_
         refine takeU 12 75 ?_
         refine takeU 13 76 ?_
         refine takeU 14 77 ?_
         refine takeU 15 78 ?_
         refine takeU 16 79 ?_
         refine takeU 17 80 ?_
         refine takeU 18 81 ?_
         refine takeU 19 82 ?_
         refine takeU 20 83 ?_
         refine takeU 21 84 ?_
         refine takeU 22 85 ?_
         refine takeU 23 86 ?_
         refine takeU 24 87 ?_
         refine takeE 25 88 ?_
         refine wpAnyH_done (by kernel_rfl) ?_ _
         have HB3 := Lib.hid (HW.out.trans (hS.mono HW.out.size))
         clear hS
         go_wp2_with fail
         go_roundw
         case rel => exact ⟨k + 1, b, by omega, by omega, by omega, rfl, by go_num, HN, HB3⟩
         case measure => simp [intOf]; omega
       ·
        obtain rfl : k = l.length := by omega
        have hG := HG.out
        rw [List.drop_length] at hG
        have HN := Lib.hid (show res = b from by rw [HNO.out]; exact hG)
        clear hG
        go_wp2_with fail
        go_ret
        exact ⟨by rw [HN.out]; rfl, HBA.out.trans (HW.out.mono HBA.out.size)⟩
   ·
    have q1 : decide (0 ≤ b) = false := by simpa using hb0
    have HNO := Lib.hid (show res = rGo2 t.items l 0 (-1) l from by rw [← HRES.out]; unfold rGoes; rw [HG1.out]; exact if_neg (fun h => hb0 h.1))
    clear hb0 HG HG1 hxo xo hmk hm0 hb1 hb2
    go_wp2_with fail
    go_loopw [10, 11] (fun bv i wr => ∃ (k : Nat) (b : Int), k ≤ l.length ∧ -1 ≤ b ∧ b < (k : Int) ∧ bv = .int .i64 b ∧ i = .int .i64 k ∧ Hid (rGo2 t.items l 0 (-1) l = rGo2 t.items l k b (l.drop k)) ∧ Hid (Below wa.heap.size wa wr)) (fun _ i _ => l.length - (intOf i).toNat)
    case atStart => exact ⟨0, -1, Nat.zero_le _, by omega, by omega, rfl, rfl, Lib.hid rfl, HWO⟩
    case round =>
     obtain ⟨k, b, hk, hb1, hb2, rfl, rfl, HG, HW⟩ := hrel
     by_cases hlt : k < l.length
     ·
      obtain ⟨x, hx⟩ := getElem_of hlt
      obtain ⟨A3, c3, hA3, hlc3, _, hxs⟩ := HU.out.below HW.out
      simp only [Value.slice.injEq, true_and] at hA3
      obtain ⟨rfl, rfl⟩ := hA3
      obtain ⟨g3, o3, rfl, hg3, _, f0⟩ := hxs k x hx
      have F0 := Lib.hid f0
      have hkc : k < cu := by omega
      have hdr := drop_at hx
      have HTW := Lib.hid (HT.out.below HW.out)
      have HLV := Lib.hid (fun (w : World) tv (h : RTAt w tv t) => ref_level14 x t tv w h HOK.out (HPX.out x (List.mem_of_getElem? hx)))
      have HPV := Lib.hid (fun (w : World) tv (h : RTAt w tv t) => ref_place14 x t tv w h HOK.out)
      have hzr := Nat.lt_of_lt_of_le hzw HW.out.size
      have R0 := Lib.hid ((HW.out.cell (p := ⟨w.heap.size, 0, none⟩) hzw).trans C0.out)
      have R1 := Lib.hid ((HW.out.cell (p := ⟨w.heap.size, 1, none⟩) hzw).trans C1.out)
      have R2 := Lib.hid ((HW.out.cell (p := ⟨w.heap.size, 2, none⟩) hzw).trans C2.out)
      have R3 := Lib.hid ((HW.out.cell (p := ⟨w.heap.size, 3, none⟩) hzw).trans C3.out)
      by_cases hq : rL t.items x = 0
      ·
       have q1 : (rL t.items x == 0) = true := by simpa using hq
       have HQ := Lib.hid hq
       clear hq
       by_cases hb0 : b < 0
       ·
        have q2 : decide (b < 0) = true := by simpa using hb0
        have HN := Lib.hid (show rGo2 t.items l 0 (-1) l = rGo2 t.items l (k + 1) k (l.drop (k + 1)) from by rw [HG.out, hdr]; exact if_pos ⟨HQ.out, .inl hb0⟩)
        clear hx hxs f0 hdr hb0
        go_upto_region 15 with fail
        refine wp_region_held_drew (S := fun w' => Below wr.heap.size wr w') (by kernel_rfl) (mx_drew wr) (fun hS => ?_)
        refine takeF 0 63 (fun wq hSw => And.intro ((hSw.cell (p := ⟨w.heap.size, 0, none⟩) hzr).trans R0.out) (And.intro ((hSw.cell (p := ⟨w.heap.size, 1, none⟩) hzr).trans R1.out) (And.intro ((hSw.cell (p := ⟨w.heap.size, 2, none⟩) hzr).trans R2.out) ((hSw.cell (p := ⟨w.heap.size, 3, none⟩) hzr).trans R3.out)))) ?_
        refine takeE 1 64 ?_
        refine takeE 2 65 ?_
        refine takeE 3 66 ?_
        refine takeF 4 67 (fun wq hSw => (hSw.cell (p := ⟨g3, o3 + k, none⟩) hg3).trans F0.out) ?_
        refine ready1 5 (fun K hK => ?_)
        go_simp
        refine (HLV.out _ _ (HTW.out.below hS)).mono ?_
        rintro e w2 ⟨rfl, hbN⟩
        have hSN := hS.trans (hbN.mono hS.size)
        refine hK.out _ _ hSN (fun _ => ?_)
        clear hK hbN hS
        have hS := hSN
        clear hSN
        refine takeE 6 69 ?_
        refine takeE 7 70 ?_
        refine takeE 8 71 ?_
        refine takeE 9 72 ?_
        refine takeE 10 73 ?_
        refine takeU 11 74 ?_
        refine takeU 12 75 ?_
        refine takeU 13 76 ?_
        refine takeU 14 77 ?_
        refine takeU 15 78 ?_
        refine takeU 16 79 ?_
        refine takeU 17 80 ?_
        refine takeU 18 81 ?_
        refine takeU 19 82 ?_
        refine takeU 20 83 ?_
        refine takeU 21 84 ?_
        refine takeU 22 85 ?_
        refine takeU 23 86 ?_
        refine takeE 24 87 ?_
        refine takeE 25 88 ?_
        refine wpAnyH_done (by kernel_rfl) ?_ _
        have HB3 := Lib.hid (HW.out.trans (hS.mono HW.out.size))
        clear hS
        go_wp2_with fail
        go_roundw
        case rel => exact ⟨k + 1, k, by omega, by omega, by omega, rfl, by go_num, HN, HB3⟩
        case measure => simp [intOf]; omega
       ·
        have q2 : decide (b < 0) = false := by simpa using hb0
        obtain ⟨bn, rfl⟩ : ∃ q : Nat, b = q := ⟨_, (Int.toNat_of_nonneg (by omega)).symm⟩
        have hbl : bn < l.length := by omega
        obtain ⟨y, hy⟩ := getElem_of hbl
        obtain ⟨g4, o4, e4, _, _, fy⟩ := hxs bn y hy
        simp only [Option.some.injEq, Addr.mk.injEq, and_true] at e4
        obtain ⟨rfl, rfl⟩ := e4
        have FY := Lib.hid fy
        have HGD := Lib.hid (show l.getD (bn : Int).toNat 0 = y from by rw [Int.toNat_natCast, List.getD_eq_getElem?_getD, hy]; rfl)
        have HPY := Lib.hid (fun (w : World) tv (h : RTAt w tv t) => ref_place14 y t tv w h HOK.out)
        have hbc : bn < cu := by omega
        by_cases hpp : rP t.items (litV y : Nat) < rP t.items (litV x : Nat)
        ·
         have q3 : decide (rP t.items (litV y : Nat) < rP t.items (litV x : Nat)) = true := by simpa using hpp
         have HN := Lib.hid (show rGo2 t.items l 0 (-1) l = rGo2 t.items l (k + 1) k (l.drop (k + 1)) from by rw [HG.out, hdr]; exact if_pos ⟨HQ.out, .inr (by rw [HGD.out]; exact hpp)⟩)
         clear hx hxs f0 hdr hb0 hpp hy fy
         go_upto_region 15 with fail
         refine wp_region_held_drew (S := fun w' => Below wr.heap.size wr w') (by kernel_rfl) (mx_drew wr) (fun hS => ?_)
         refine takeF 0 63 (fun wq hSw => And.intro ((hSw.cell (p := ⟨w.heap.size, 0, none⟩) hzr).trans R0.out) (And.intro ((hSw.cell (p := ⟨w.heap.size, 1, none⟩) hzr).trans R1.out) (And.intro ((hSw.cell (p := ⟨w.heap.size, 2, none⟩) hzr).trans R2.out) ((hSw.cell (p := ⟨w.heap.size, 3, none⟩) hzr).trans R3.out)))) ?_
         refine takeE 1 64 ?_
         refine takeE 2 65 ?_
         refine takeE 3 66 ?_
         refine takeF 4 67 (fun wq hSw => (hSw.cell (p := ⟨g3, o3 + k, none⟩) hg3).trans F0.out) ?_
         refine ready1 5 (fun K hK => ?_)
         go_simp
         refine (HLV.out _ _ (HTW.out.below hS)).mono ?_
         rintro e w2 ⟨rfl, hbN⟩
         have hSN := hS.trans (hbN.mono hS.size)
         refine hK.out _ _ hSN (fun _ => ?_)
         clear hK hbN hS
         have hS := hSN
         clear hSN
         refine takeE 6 69 ?_
         refine takeE 7 70 ?_
         refine takeE 8 71 ?_
         refine takeE 9 72 ?_
         refine takeE 10 73 ?_
         refine takeF 11 74 (fun wq hSw => And.intro ((hSw.cell (p := ⟨w.heap.size, 0, none⟩) hzr).trans R0.out) (And.intro ((hSw.cell (p := ⟨w.heap.size, 1, none⟩) hzr).trans R1.out) (And.intro ((hSw.cell (p := ⟨w.heap.size, 2, none⟩) hzr).trans R2.out) ((hSw.cell (p := ⟨w.heap.size, 3, none⟩) hzr).trans R3.out)))) ?_
         refine takeE 12 75 ?_
         refine takeE 13 76 ?_
         refine takeE 14 77 ?_
         refine takeF 15 78 (fun wq hSw => (hSw.cell (p := ⟨g3, o3 + k, none⟩) hg3).trans F0.out) ?_
         refine takeF 17 80 (fun wq hSw => And.intro ((hSw.cell (p := ⟨w.heap.size, 0, none⟩) hzr).trans R0.out) (And.intro ((hSw.cell (p := ⟨w.heap.size, 1, none⟩) hzr).trans R1.out) (And.intro ((hSw.cell (p := ⟨w.heap.size, 2, none⟩) hzr).trans R2.out) ((hSw.cell (p := ⟨w.heap.size, 3, none⟩) hzr).trans R3.out)))) ?_
         refine takeE 18 81 ?_
         refine takeE 19 82 ?_
         refine takeE 20 83 ?_
         refine takeF 21 84 (fun wq hSw => (hSw.cell (p := ⟨g3, o3 + bn, none⟩) hg3).trans FY.out) ?_
         refine ready1 16 (fun K hK => ?_)
         go_simp
         refine (HPV.out _ _ (HTW.out.below hS)).mono ?_
         rintro e w3 ⟨rfl, hbN⟩
         have hSN := hS.trans (hbN.mono hS.size)
         refine hK.out _ _ hSN (fun _ => ?_)
         clear hK hbN hS
         have hS := hSN
         clear hSN
         refine ready1 22 (fun K hK => ?_)
         go_simp
         refine (HPY.out _ _ (HTW.out.below hS)).mono ?_
         rintro e w4 ⟨rfl, hbN⟩
         have hSN := hS.trans (hbN.mono hS.size)
         refine hK.out _ _ hSN (fun _ => ?_)
         clear hK hbN hS
         have hS := hSN
         clear hSN
         refine takeE 23 86 ?_
         refine takeE 24 87 ?_
         refine takeE 25 88 ?_
         refine wpAnyH_done (by kernel_rfl) ?_ _
         have HB3 := Lib.hid (HW.out.trans (hS.mono HW.out.size))
         clear hS
         go_wp2_with fail
         go_roundw
         case rel => exact ⟨k + 1, k, by omega, by omega, by omega, rfl, by go_num, HN, HB3⟩
         case measure => simp [intOf]; omega
        ·
         have q3 : decide (rP t.items (litV y : Nat) < rP t.items (litV x : Nat)) = false := by simpa using hpp
         have HN := Lib.hid (show rGo2 t.items l 0 (-1) l = rGo2 t.items l (k + 1) bn (l.drop (k + 1)) from by rw [HG.out, hdr]; exact if_neg (fun h => h.2.elim hb0 (fun h => hpp (by rw [HGD.out] at h; exact h))))
         clear hx hxs f0 hdr hb0 hpp hy fy
         go_upto_region 15 with fail
         refine wp_region_held_drew (S := fun w' => Below wr.heap.size wr w') (by kernel_rfl) (mx_drew wr) (fun hS => ?_)
         refine takeF 0 63 (fun wq hSw => And.intro ((hSw.cell (p := ⟨w.heap.size, 0, none⟩) hzr).trans R0.out) (And.intro ((hSw.cell (p := ⟨w.heap.size, 1, none⟩) hzr).trans R1.out) (And.intro ((hSw.cell (p := ⟨w.heap.size, 2, none⟩) hzr).trans R2.out) ((hSw.cell (p := ⟨w.heap.size, 3, none⟩) hzr).trans R3.out)))) ?_
         refine takeE 1 64 ?_
         refine takeE 2 65 ?_
         refine takeE 3 66 ?_
         refine takeF 4 67 (fun wq hSw => (hSw.cell (p := ⟨g3, o3 + k, none⟩) hg3).trans F0.out) ?_
         refine ready1 5 (fun K hK => ?_)
         go_simp
         refine (HLV.out _ _ (HTW.out.below hS)).mono ?_
         rintro e w2 ⟨rfl, hbN⟩
         have hSN := hS.trans (hbN.mono hS.size)
         refine hK.out _ _ hSN (fun _ => ?_)
         clear hK hbN hS
         have hS := hSN
         clear hSN
         refine takeE 6 69 ?_
         refine takeE 7 70 ?_
         refine takeE 8 71 ?_
         refine takeE 9 72 ?_
         refine takeE 10 73 ?_
         refine takeF 11 74 (fun wq hSw => And.intro ((hSw.cell (p := ⟨w.heap.size, 0, none⟩) hzr).trans R0.out) (And.intro ((hSw.cell (p := ⟨w.heap.size, 1, none⟩) hzr).trans R1.out) (And.intro ((hSw.cell (p := ⟨w.heap.size, 2, none⟩) hzr).trans R2.out) ((hSw.cell (p := ⟨w.heap.size, 3, none⟩) hzr).trans R3.out)))) ?_
         refine takeE 12 75 ?_
         refine takeE 13 76 ?_
         refine takeE 14 77 ?_
         refine takeF 15 78 (fun wq hSw => (hSw.cell (p := ⟨g3, o3 + k, none⟩) hg3).trans F0.out) ?_
         refine takeF 17 80 (fun wq hSw => And.intro ((hSw.cell (p := ⟨w.heap.size, 0, none⟩) hzr).trans R0.out) (And.intro ((hSw.cell (p := ⟨w.heap.size, 1, none⟩) hzr).trans R1.out) (And.intro ((hSw.cell (p := ⟨w.heap.size, 2, none⟩) hzr).trans R2.out) ((hSw.cell (p := ⟨w.heap.size, 3, none⟩) hzr).trans R3.out)))) ?_
         refine takeE 18 81 ?_
         refine takeE 19 82 ?_
         refine takeE 20 83 ?_
         refine takeF 21 84 (fun wq hSw => (hSw.cell (p := ⟨g3, o3 + bn, none⟩) hg3).trans FY.out) ?_
         refine ready1 16 (fun K hK => ?_)
         go_simp
         refine (HPV.out _ _ (HTW.out.below hS)).mono ?_
         rintro e w3 ⟨rfl, hbN⟩
         have hSN := hS.trans (hbN.mono hS.size)
         refine hK.out _ _ hSN (fun _ => ?_)
         clear hK hbN hS
         have hS := hSN
         clear hSN
         refine ready1 22 (fun K hK => ?_)
         go_simp
         refine (HPY.out _ _ (HTW.out.below hS)).mono ?_
         rintro e w4 ⟨rfl, hbN⟩
         have hSN := hS.trans (hbN.mono hS.size)
         refine hK.out _ _ hSN (fun _ => ?_)
         clear hK hbN hS
         have hS := hSN
         clear hSN
         refine takeE 23 86 ?_
         refine takeE 24 87 ?_
         refine takeE 25 88 ?_
         refine wpAnyH_done (by kernel_rfl) ?_ _
         have HB3 := Lib.hid (HW.out.trans (hS.mono HW.out.size))
         clear hS
         go_wp2_with fail
         go_roundw
         case rel => exact ⟨k + 1, bn, by omega, by omega, by omega, rfl, by go_num, HN, HB3⟩
         case measure => simp [intOf]; omega
      ·
       have q1 : (rL t.items x == 0) = false := by simpa using hq
       have HN := Lib.hid (show rGo2 t.items l 0 (-1) l = rGo2 t.items l (k + 1) b (l.drop (k + 1)) from by rw [HG.out, hdr]; exact if_neg (fun h => hq h.1))
       clear hx hxs f0 hdr hq
       go_upto_region 15 with fail
       refine wp_region_held_drew (S := fun w' => Below wr.heap.size wr w') (by kernel_rfl) (mx_drew wr) (fun hS => ?_)
       refine takeF 0 63 (fun wq hSw => And.intro ((hSw.cell (p := ⟨w.heap.size, 0, none⟩) hzr).trans R0.out) (And.intro ((hSw.cell (p := ⟨w.heap.size, 1, none⟩) hzr).trans R1.out) (And.intro ((hSw.cell (p := ⟨w.heap.size, 2, none⟩) hzr).trans R2.out) ((hSw.cell (p := ⟨w.heap.size, 3, none⟩) hzr).trans R3.out)))) ?_
       refine takeE 1 64 ?_
       refine takeE 2 65 ?_
       refine takeE 3 66 ?_
       refine takeF 4 67 (fun wq hSw => (hSw.cell (p := ⟨g3, o3 + k, none⟩) hg3).trans F0.out) ?_
       refine ready1 5 (fun K hK => ?_)
       go_simp
       refine (HLV.out _ _ (HTW.out.below hS)).mono ?_
       rintro e w2 ⟨rfl, hbN⟩
       have hSN := hS.trans (hbN.mono hS.size)
       refine hK.out _ _ hSN (fun _ => ?_)
       clear hK hbN hS
       have hS := hSN
       clear hSN
       refine takeE 6 69 ?_
       refine takeE 7 70 ?_
       refine takeU 8 71 ?_
       refine takeU 9 72 ?_
       refine takeU 10 73 ?_
       refine takeU 11 74 ?_
       refine takeU 12 75 ?_
       refine takeU 13 76 ?_
       refine takeU 14 77 ?_
       refine takeU 15 78 ?_
       refine takeU 16 79 ?_
       refine takeU 17 80 ?_
       refine takeU 18 81 ?_
       refine takeU 19 82 ?_
       refine takeU 20 83 ?_
       refine takeU 21 84 ?_
       refine takeU 22 85 ?_
       refine takeU 23 86 ?_
       refine takeU 24 87 ?_
       refine takeE 25 88 ?_
       refine wpAnyH_done (by kernel_rfl) ?_ _
       have HB3 := Lib.hid (HW.out.trans (hS.mono HW.out.size))
       clear hS
       go_wp2_with fail
       go_roundw
       case rel => exact ⟨k + 1, b, by omega, by omega, by omega, rfl, by go_num, HN, HB3⟩
       case measure => simp [intOf]; omega
     ·
      obtain rfl : k = l.length := by omega
      have hG := HG.out
      rw [List.drop_length] at hG
      have HN := Lib.hid (show res = b from by rw [HNO.out]; exact hG)
      clear hG
      go_wp2_with fail
      go_ret
      exact ⟨by rw [HN.out]; rfl, HBA.out.trans (HW.out.mono HBA.out.size)⟩end Go.Proofs.YtiodfolcnnkdjaaGreat
namespace Go.Proofs.YtiodfolcnnkdjaaGreat
open Go.RowKit

/-- the levels of a clause, each once -/
def rLvs (its : List RIt) : List Int → List Int → List Int
 | acc, [] => acc
 | acc, x :: c => if 0 ≤ rP its (litV x) ∧ 0 < rL its x ∧ acc.contains (rL its x) = false then rLvs its (acc ++ [rL its x]) c else rLvs its acc c
theorem rLvs_len (its : List RIt) (acc c : List Int) : (rLvs its acc c).length ≤ acc.length + c.length := by
 induction c generalizing acc with
 | nil => exact Nat.le_add_right _ _
 | cons x c ih =>
  unfold rLvs
  simp only [List.length_cons]
  split
  ·
   have := ih (acc ++ [rL its x])
   simp only [List.length_append, List.length_cons, List.length_nil] at this
   omega
  ·
   have := ih acc
   omega
set_option maxRecDepth 100000 in
set_option maxHeartbeats 4000000 in
theorem ref_levels {O : Nat → Prop} (u : Value) (l : List Int) (t : RTr) (tv : Value) (w : World) (h : RTAt w tv t) (ho : t.Ok) (hu : IntsIn O w u l) (hl : l.length ≤ 1000000) :
  Calls Tryz.prog 65 #[tv, u] w fun e w' => e = .returned (.tuple #[.int .i64 (if clauseB l = true then (rLvs t.items [] l).length else 0 : Nat), .int .i64 (if clauseB l = true then 0 else 20)]) ∧ Below w.heap.size w w' := by
 obtain ⟨i0, hi0, hi1, hi2, hi3⟩ := info_parts tinfo_int
 have hlen := ho.len
 have HOK := Lib.hid ho
 have HU0 := Lib.hid hu
 obtain ⟨Au, cu, rfl, _⟩ := hu
 obtain ⟨bb, hbb⟩ : ∃ b, clauseB l = b := ⟨_, rfl⟩
 have HBB := Lib.hid (fun (w : World) (h : IntsIn O w (.slice Au l.length cu) l) => ref_right_clause (.slice Au l.length cu) l w h (by omega))
 rw [hbb] at HBB ⊢
 clear hbb
 obtain ⟨iv, sv, rfl, hi, hs⟩ := h
 obtain ⟨wa, hwa⟩ : ∃ z, w.alloc (.cells #[.int .i64 t.vars, .int .i64 t.now, iv, sv] 59) = z := ⟨_, rfl⟩
 have hba : Below w.heap.size w wa := by rw [← hwa]; exact mx_al _ _
 have hbn : wa.heap[w.heap.size]? = some (.cells #[.int .i64 t.vars, .int .i64 t.now, iv, sv] 59 (0, 0)) := by rw [← hwa]; exact World.alloc_heap_new _ _
 have HI := Lib.hid (hi.below hba)
 have HS := Lib.hid (hs.below hba)
 have HBA := Lib.hid hba
 have HBN := Lib.hid hbn
 have HWA := Lib.hid hwa
 have C0 := Lib.hid (mx_cell (j := 0) hbn)
 have C1 := Lib.hid (mx_cell (j := 1) hbn)
 have C2 := Lib.hid (mx_cell (j := 2) hbn)
 have C3 := Lib.hid (mx_cell (j := 3) hbn)
 have hzw := heap_lt hbn
 have HT := Lib.hid (show RTAt wa (.agg #[.int .i64 t.vars, .int .i64 t.now, iv, sv]) t from ⟨iv, sv, rfl, HI.out, HS.out⟩)
 have HU := Lib.hid (HU0.out.below hba)
 clear hba hbn hs hwa hi
 cases bb with
 | false =>
  go_enter Tryz.func65, Tryz.ntmps65
  go_wp2_with fail
  rw [HWA.out]
  refine (HBB.out _ HU.out).mono ?_
  rintro e w' ⟨rfl, rfl⟩
  go_wp2_with fail
  go_ret2
  exact ⟨by simp, HBA.out⟩
 | true =>
  rw [if_pos rfl, if_pos rfl]
  go_enter Tryz.func65, Tryz.ntmps65
  go_wp2_with fail
  rw [HWA.out]
  refine (HBB.out _ HU.out).mono ?_
  rintro e w' ⟨rfl, rfl⟩
  go_wp2_with fail
  go_loopw [6, 7] (fun v i wr => ∃ (k : Nat) (acc : List Int), k ≤ l.length ∧ acc.length ≤ k ∧ i = .int .i64 k ∧ Hid (rLvs t.items [] l = rLvs t.items acc (l.drop k)) ∧ Hid (wr.ownsRow wa.heap.size 3 1 v acc.length (acc.map (Value.int .i64))) ∧ Hid (Below wa.heap.size wa wr)) (fun _ i _ => l.length - (intOf i).toNat)
  case atStart => exact ⟨0, [], Nat.zero_le _, Nat.le_refl _, rfl, Lib.hid rfl, Lib.hid (World.ownsRow_nil _ _ _ _), Lib.hid (Below.refl _ _)⟩
  case round =>
   obtain ⟨k, acc, hk, hka, rfl, HE, HV, HW⟩ := hrel
   obtain ⟨Av, cv, rfl, _⟩ := mx_slice HV.out
   by_cases hlt : k < l.length
   ·
    obtain ⟨x, hx⟩ := getElem_of hlt
    obtain ⟨A3, c3, hA3, hlc3, _, hxs⟩ := HU.out
    simp only [Value.slice.injEq, true_and] at hA3
    obtain ⟨rfl, rfl⟩ := hA3
    obtain ⟨g3, o3, rfl, hg3, _, f0⟩ := hxs k x hx
    have F0 := Lib.hid f0
    have hkc : k < cu := by omega
    have hdr := drop_at hx
    have HPV := Lib.hid (fun (w : World) tv (h : RTAt w tv t) => ref_place14 x t tv w h HOK.out)
    clear hx hxs f0
    obtain ⟨pp, hpp⟩ : ∃ p, rP t.items (litV x : Nat) = p := ⟨_, rfl⟩
    rw [hpp] at HPV
    by_cases hp : 0 ≤ pp
    ·
     have q0 : decide (0 ≤ pp) = true := by simpa using hp
     have HLV := Lib.hid (fun (w : World) tv (h : RTAt w tv t) => ref_level14 x t tv w h HOK.out (by rw [hpp]; exact hp))
     obtain ⟨lv, hlv⟩ : ∃ z, rL t.items x = z := ⟨_, rfl⟩
     rw [hlv] at HLV
     by_cases h0 : 0 < lv
     ·
      have q1 : decide (0 < lv) = true := by simpa using h0
      have HH := Lib.hid (fun (w : World) (h : IntsIn (fun g => wa.heap.size ≤ g ∧ (Value.slice Av acc.length cv).ownBlock = some g) w (.slice Av acc.length cv) acc) => ref_has14 lv (.slice Av acc.length cv) acc w h (by omega))
      obtain ⟨bh, hbh⟩ : ∃ b, acc.contains lv = b := ⟨_, rfl⟩
      rw [hbh] at HH
      cases bh with
      | true =>
       have HN := Lib.hid (show rLvs t.items [] l = rLvs t.items acc (l.drop (k + 1)) from by rw [HE.out, hdr]; exact if_neg (fun h => by rw [hlv, hbh] at h; exact Bool.noConfusion h.2.2))
       clear hdr hp hpp h0 hlv hbh
       go_upto_region 7 with fail
       refine wp_region_held_drew (S := fun w' => Below wa.heap.size wa w') (by kernel_rfl) (HW.out.trans ((mx_drew wr).mono HW.out.size)) (fun hS => ?_)
       have HVD := Lib.hid (own_below HV.out (mx_drew wr))
       obtain ⟨wD, hwD⟩ : ∃ x, (wr).drew = x := ⟨_, rfl⟩
       rw [hwD] at hS HVD ⊢
       clear hwD
       refine takeF 0 17 (fun wq hSw => And.intro ((hSw.cell (p := ⟨w.heap.size, 0, none⟩) hzw).trans C0.out) (And.intro ((hSw.cell (p := ⟨w.heap.size, 1, none⟩) hzw).trans C1.out) (And.intro ((hSw.cell (p := ⟨w.heap.size, 2, none⟩) hzw).trans C2.out) ((hSw.cell (p := ⟨w.heap.size, 3, none⟩) hzw).trans C3.out)))) ?_
       refine takeE 1 18 ?_
       refine takeE 2 19 ?_
       refine takeE 3 20 ?_
       refine takeF 4 21 (fun wq hSw => (hSw.cell (p := ⟨g3, o3 + k, none⟩) hg3).trans F0.out) ?_
       refine ready1 5 (fun K hK => ?_)
       go_simp
       refine (HPV.out _ _ (HT.out.below hS)).mono ?_
       rintro e x1 ⟨rfl, hbN⟩
       have hSN := hS.trans (hbN.mono hS.size)
       have HVN := Lib.hid (own_below HVD.out hbN)
       clear HVD
       have HVD := HVN
       clear HVN
       refine hK.out _ _ hSN (fun _ => ?_)
       clear hK hbN hS
       have hS := hSN
       clear hSN
       refine takeE 6 23 ?_
       refine takeE 7 24 ?_
       refine takeF 8 25 (fun wq hSw => And.intro ((hSw.cell (p := ⟨w.heap.size, 0, none⟩) hzw).trans C0.out) (And.intro ((hSw.cell (p := ⟨w.heap.size, 1, none⟩) hzw).trans C1.out) (And.intro ((hSw.cell (p := ⟨w.heap.size, 2, none⟩) hzw).trans C2.out) ((hSw.cell (p := ⟨w.heap.size, 3, none⟩) hzw).trans C3.out)))) ?_
       refine takeE 9 26 ?_
       refine takeE 10 27 ?_
       refine takeE 11 28 ?_
       refine takeF 12 29 (fun wq hSw => (hSw.cell (p := ⟨g3, o3 + k, none⟩) hg3).trans F0.out) ?_
       refine ready1 13 (fun K hK => ?_)
       go_simp
       refine (HLV.out _ _ (HT.out.below hS)).mono ?_
       rintro e x2 ⟨rfl, hbN⟩
       have hSN := hS.trans (hbN.mono hS.size)
       have HVN := Lib.hid (own_below HVD.out hbN)
       clear HVD
       have HVD := HVN
       clear HVN
       refine hK.out _ _ hSN (fun _ => ?_)
       clear hK hbN hS
       have hS := hSN
       clear hSN
       refine takeE 14 31 ?_
       refine takeE 15 32 ?_
       refine takeE 16 33 ?_
       refine takeE 17 34 ?_
       refine takeF 18 35 (fun wq hSw => And.intro ((hSw.cell (p := ⟨w.heap.size, 0, none⟩) hzw).trans C0.out) (And.intro ((hSw.cell (p := ⟨w.heap.size, 1, none⟩) hzw).trans C1.out) (And.intro ((hSw.cell (p := ⟨w.heap.size, 2, none⟩) hzw).trans C2.out) ((hSw.cell (p := ⟨w.heap.size, 3, none⟩) hzw).trans C3.out)))) ?_
       refine takeE 19 36 ?_
       refine takeE 20 37 ?_
       refine takeE 21 38 ?_
       refine takeF 22 39 (fun wq hSw => (hSw.cell (p := ⟨g3, o3 + k, none⟩) hg3).trans F0.out) ?_
       refine ready1 23 (fun K hK => ?_)
       go_simp
       refine (HLV.out _ _ (HT.out.below hS)).mono ?_
       rintro e x3 ⟨rfl, hbN⟩
       have hSN := hS.trans (hbN.mono hS.size)
       have HVN := Lib.hid (own_below HVD.out hbN)
       clear HVD
       have HVD := HVN
       clear HVN
       refine hK.out _ _ hSN (fun _ => ?_)
       clear hK hbN hS
       have hS := hSN
       clear hSN
       refine ready1 24 (fun K hK => ?_)
       go_simp
       refine (HH.out x3 (IntsIn.of_own HVD.out)).mono ?_
       rintro e w' ⟨rfl, rfl⟩
       refine hK.out _ _ hS (fun _ => ?_)
       clear hK
       refine takeE 25 42 ?_
       refine takeE 26 43 ?_
       refine wpAnyH_done (by kernel_rfl) ?_ _
       have HB3 := Lib.hid hS
       clear hS
       go_wp2_with fail
       go_roundw
       case rel => exact ⟨k + 1, acc, by omega, by omega, by go_num, HN, HVD, HB3⟩
       case measure => simp [intOf]; omega
      | false =>
       have HN := Lib.hid (show rLvs t.items [] l = rLvs t.items (acc ++ [lv]) (l.drop (k + 1)) from by rw [HE.out, hdr, ← hlv]; exact if_pos ⟨by rw [hpp]; exact hp, by rw [hlv]; exact h0, by rw [hlv]; exact hbh⟩)
       have HNX := HN
       clear hdr hp hpp h0 hlv hbh HN
       go_upto_region 7 with fail
       refine wp_region_held_drew (S := fun w' => Below wa.heap.size wa w') (by kernel_rfl) (HW.out.trans ((mx_drew wr).mono HW.out.size)) (fun hS => ?_)
       have HVD := Lib.hid (own_below HV.out (mx_drew wr))
       obtain ⟨wD, hwD⟩ : ∃ x, (wr).drew = x := ⟨_, rfl⟩
       rw [hwD] at hS HVD ⊢
       clear hwD
       refine takeF 0 17 (fun wq hSw => And.intro ((hSw.cell (p := ⟨w.heap.size, 0, none⟩) hzw).trans C0.out) (And.intro ((hSw.cell (p := ⟨w.heap.size, 1, none⟩) hzw).trans C1.out) (And.intro ((hSw.cell (p := ⟨w.heap.size, 2, none⟩) hzw).trans C2.out) ((hSw.cell (p := ⟨w.heap.size, 3, none⟩) hzw).trans C3.out)))) ?_
       refine takeE 1 18 ?_
       refine takeE 2 19 ?_
       refine takeE 3 20 ?_
       refine takeF 4 21 (fun wq hSw => (hSw.cell (p := ⟨g3, o3 + k, none⟩) hg3).trans F0.out) ?_
       refine ready1 5 (fun K hK => ?_)
       go_simp
       refine (HPV.out _ _ (HT.out.below hS)).mono ?_
       rintro e x1 ⟨rfl, hbN⟩
       have hSN := hS.trans (hbN.mono hS.size)
       have HVN := Lib.hid (own_below HVD.out hbN)
       clear HVD
       have HVD := HVN
       clear HVN
       refine hK.out _ _ hSN (fun _ => ?_)
       clear hK hbN hS
       have hS := hSN
       clear hSN
       refine takeE 6 23 ?_
       refine takeE 7 24 ?_
       refine takeF 8 25 (fun wq hSw => And.intro ((hSw.cell (p := ⟨w.heap.size, 0, none⟩) hzw).trans C0.out) (And.intro ((hSw.cell (p := ⟨w.heap.size, 1, none⟩) hzw).trans C1.out) (And.intro ((hSw.cell (p := ⟨w.heap.size, 2, none⟩) hzw).trans C2.out) ((hSw.cell (p := ⟨w.heap.size, 3, none⟩) hzw).trans C3.out)))) ?_
       refine takeE 9 26 ?_
       refine takeE 10 27 ?_
       refine takeE 11 28 ?_
       refine takeF 12 29 (fun wq hSw => (hSw.cell (p := ⟨g3, o3 + k, none⟩) hg3).trans F0.out) ?_
       refine ready1 13 (fun K hK => ?_)
       go_simp
       refine (HLV.out _ _ (HT.out.below hS)).mono ?_
       rintro e x2 ⟨rfl, hbN⟩
       have hSN := hS.trans (hbN.mono hS.size)
       have HVN := Lib.hid (own_below HVD.out hbN)
       clear HVD
       have HVD := HVN
       clear HVN
       refine hK.out _ _ hSN (fun _ => ?_)
       clear hK hbN hS
       have hS := hSN
       clear hSN
       refine takeE 14 31 ?_
       refine takeE 15 32 ?_
       refine takeE 16 33 ?_
       refine takeE 17 34 ?_
       refine takeF 18 35 (fun wq hSw => And.intro ((hSw.cell (p := ⟨w.heap.size, 0, none⟩) hzw).trans C0.out) (And.intro ((hSw.cell (p := ⟨w.heap.size, 1, none⟩) hzw).trans C1.out) (And.intro ((hSw.cell (p := ⟨w.heap.size, 2, none⟩) hzw).trans C2.out) ((hSw.cell (p := ⟨w.heap.size, 3, none⟩) hzw).trans C3.out)))) ?_
       refine takeE 19 36 ?_
       refine takeE 20 37 ?_
       refine takeE 21 38 ?_
       refine takeF 22 39 (fun wq hSw => (hSw.cell (p := ⟨g3, o3 + k, none⟩) hg3).trans F0.out) ?_
       refine ready1 23 (fun K hK => ?_)
       go_simp
       refine (HLV.out _ _ (HT.out.below hS)).mono ?_
       rintro e x3 ⟨rfl, hbN⟩
       have hSN := hS.trans (hbN.mono hS.size)
       have HVN := Lib.hid (own_below HVD.out hbN)
       clear HVD
       have HVD := HVN
       clear HVN
       refine hK.out _ _ hSN (fun _ => ?_)
       clear hK hbN hS
       have hS := hSN
       clear hSN
       refine ready1 24 (fun K hK => ?_)
       go_simp
       refine (HH.out x3 (IntsIn.of_own HVD.out)).mono ?_
       rintro e w' ⟨rfl, rfl⟩
       refine hK.out _ _ hS (fun _ => ?_)
       clear hK
       refine takeE 25 42 ?_
       refine takeE 26 43 ?_
       refine wpAnyH_done (by kernel_rfl) ?_ _
       have HB3 := Lib.hid hS
       have HV3 := HVD
       clear hS HVD
       go_upto_region 8 with fail
       refine wp_region_held_drew (S := fun w' => Below wa.heap.size wa w') (by kernel_rfl) (HB3.out.trans ((mx_drew x3).mono HB3.out.size)) (fun hS => ?_)
       have HVD := Lib.hid (own_below HV3.out (mx_drew x3))
       obtain ⟨wD, hwD⟩ : ∃ x, (x3).drew = x := ⟨_, rfl⟩
       rw [hwD] at hS HVD ⊢
       clear hwD
       refine takeE 0 44 ?_
       refine takeF 1 45 (fun wq hSw => And.intro ((hSw.cell (p := ⟨w.heap.size, 0, none⟩) hzw).trans C0.out) (And.intro ((hSw.cell (p := ⟨w.heap.size, 1, none⟩) hzw).trans C1.out) (And.intro ((hSw.cell (p := ⟨w.heap.size, 2, none⟩) hzw).trans C2.out) ((hSw.cell (p := ⟨w.heap.size, 3, none⟩) hzw).trans C3.out)))) ?_
       refine takeE 2 46 ?_
       refine takeE 3 47 ?_
       refine takeE 4 48 ?_
       refine takeF 5 49 (fun wq hSw => (hSw.cell (p := ⟨g3, o3 + k, none⟩) hg3).trans F0.out) ?_
       refine ready1 6 (fun K hK => ?_)
       go_simp
       refine (HLV.out _ _ (HT.out.below hS)).mono ?_
       rintro e y1 ⟨rfl, hbN⟩
       have hSN := hS.trans (hbN.mono hS.size)
       have HVN := Lib.hid (own_below HVD.out hbN)
       clear HVD
       have HVD := HVN
       clear HVN
       refine hK.out _ _ hSN (fun _ => ?_)
       clear hK hbN hS
       have hS := hSN
       clear hSN
       refine ready1 7 (fun K hK => ?_)
       go_simp
       obtain ⟨y2, hwn⟩ : ∃ z, y1.alloc (.cells #[.int .i64 lv] 3) = z := ⟨_, rfl⟩
       have hbn : Below y1.heap.size y1 y2 := by rw [← hwn]; exact mx_al _ _
       have hnn := mx_src y1 3 [.int .i64 lv]
       rw [show ([.int .i64 lv] : List Value).toArray = #[.int .i64 lv] from rfl, hwn] at hnn
       rw [hwn]
       have HN := Lib.hid hnn
       have HVN := Lib.hid (own_below HVD.out hbn)
       clear HVD
       have HVD := HVN
       have hSN := hS.trans (hbn.mono hS.size)
       refine hK.out _ _ hSN (fun _ => ?_)
       clear hK hbn hS hnn hwn HVN
       have hS := hSN
       clear hSN
       refine ready1 8 (fun K hK => ?_)
       rw [if_pos (by rfl)]
       refine wp_append_any_at 52 (by rfl) _ _ 36 rfl wa.heap.size 3 i0 (.int .i64 0) 1 8 Tryz.underlying36 hi0 hi1 hi2 hi3 rfl (by decide) _ acc.length _ (by rfl) HVD.out (.slice (some ⟨y1.heap.size, 0, none⟩) 1 1) 1 [.int .i64 lv] (by rfl) HN.out rfl (by simp [Value.oneCell']) (by unfold maxLen; omega) (by omega) hS.size ?_
       intro v' y3 hown hgrow hat
       obtain ⟨Ax, kx, rfl, _⟩ := mx_slice hown
       have hSN := hS.grown hgrow hS.size (fun g hg => (own_lt HVD.out g hg).1)
       have HOX := Lib.hid hown
       refine hK.out _ _ hSN (fun _ => ?_)
       clear hK hown hgrow hat hS
       have hS := hSN
       clear hSN
       refine takeE 9 6 ?_
       refine wpAnyH_done (by kernel_rfl) ?_ _
       have HB4 := Lib.hid hS
       clear hS
       go_wp2_with fail
       go_roundw
       case rel => exact ⟨k + 1, acc ++ [lv], by omega, by simp; omega, by go_num, HNX, Lib.hid (by rw [List.length_append, List.map_append]; exact HOX.out), HB4⟩
       case measure => simp [intOf]; omega
     ·
      have q1 : decide (0 < lv) = false := by simpa using h0
      have HN := Lib.hid (show rLvs t.items [] l = rLvs t.items acc (l.drop (k + 1)) from by rw [HE.out, hdr]; exact if_neg (fun h => h0 (by rw [hlv] at h; exact h.2.1)))
      clear hdr hp hpp h0 hlv
      go_upto_region 7 with fail
      refine wp_region_held_drew (S := fun w' => Below wa.heap.size wa w') (by kernel_rfl) (HW.out.trans ((mx_drew wr).mono HW.out.size)) (fun hS => ?_)
      have HVD := Lib.hid (own_below HV.out (mx_drew wr))
      obtain ⟨wD, hwD⟩ : ∃ x, (wr).drew = x := ⟨_, rfl⟩
      rw [hwD] at hS HVD ⊢
      clear hwD
      refine takeF 0 17 (fun wq hSw => And.intro ((hSw.cell (p := ⟨w.heap.size, 0, none⟩) hzw).trans C0.out) (And.intro ((hSw.cell (p := ⟨w.heap.size, 1, none⟩) hzw).trans C1.out) (And.intro ((hSw.cell (p := ⟨w.heap.size, 2, none⟩) hzw).trans C2.out) ((hSw.cell (p := ⟨w.heap.size, 3, none⟩) hzw).trans C3.out)))) ?_
      refine takeE 1 18 ?_
      refine takeE 2 19 ?_
      refine takeE 3 20 ?_
      refine takeF 4 21 (fun wq hSw => (hSw.cell (p := ⟨g3, o3 + k, none⟩) hg3).trans F0.out) ?_
      refine ready1 5 (fun K hK => ?_)
      go_simp
      refine (HPV.out _ _ (HT.out.below hS)).mono ?_
      rintro e x1 ⟨rfl, hbN⟩
      have hSN := hS.trans (hbN.mono hS.size)
      have HVN := Lib.hid (own_below HVD.out hbN)
      clear HVD
      have HVD := HVN
      clear HVN
      refine hK.out _ _ hSN (fun _ => ?_)
      clear hK hbN hS
      have hS := hSN
      clear hSN
      refine takeE 6 23 ?_
      refine takeE 7 24 ?_
      refine takeF 8 25 (fun wq hSw => And.intro ((hSw.cell (p := ⟨w.heap.size, 0, none⟩) hzw).trans C0.out) (And.intro ((hSw.cell (p := ⟨w.heap.size, 1, none⟩) hzw).trans C1.out) (And.intro ((hSw.cell (p := ⟨w.heap.size, 2, none⟩) hzw).trans C2.out) ((hSw.cell (p := ⟨w.heap.size, 3, none⟩) hzw).trans C3.out)))) ?_
      refine takeE 9 26 ?_
      refine takeE 10 27 ?_
      refine takeE 11 28 ?_
      refine takeF 12 29 (fun wq hSw => (hSw.cell (p := ⟨g3, o3 + k, none⟩) hg3).trans F0.out) ?_
      refine ready1 13 (fun K hK => ?_)
      go_simp
      refine (HLV.out _ _ (HT.out.below hS)).mono ?_
      rintro e x2 ⟨rfl, hbN⟩
      have hSN := hS.trans (hbN.mono hS.size)
      have HVN := Lib.hid (own_below HVD.out hbN)
      clear HVD
      have HVD := HVN
      clear HVN
      refine hK.out _ _ hSN (fun _ => ?_)
      clear hK hbN hS
      have hS := hSN
      clear hSN
      refine takeE 14 31 ?_
      refine takeE 15 32 ?_
      refine takeE 16 33 ?_
      refine takeU 17 34 ?_
      refine takeU 18 35 ?_
      refine takeU 19 36 ?_
      refine takeU 20 37 ?_
      refine takeU 21 38 ?_
      refine takeU 22 39 ?_
      refine takeU 23 40 ?_
      refine takeU 24 41 ?_
      refine takeU 25 42 ?_
      refine takeE 26 43 ?_
      refine wpAnyH_done (by kernel_rfl) ?_ _
      have HB3 := Lib.hid hS
      clear hS
      go_wp2_with fail
      go_roundw
      case rel => exact ⟨k + 1, acc, by omega, by omega, by go_num, HN, HVD, HB3⟩
      case measure => simp [intOf]; omega
    ·
     have q0 : decide (0 ≤ pp) = false := by simpa using hp
     have HN := Lib.hid (show rLvs t.items [] l = rLvs t.items acc (l.drop (k + 1)) from by rw [HE.out, hdr]; exact if_neg (fun h => hp (by rw [hpp] at h; exact h.1)))
     clear hdr hp hpp
     go_upto_region 7 with fail
     refine wp_region_held_drew (S := fun w' => Below wa.heap.size wa w') (by kernel_rfl) (HW.out.trans ((mx_drew wr).mono HW.out.size)) (fun hS => ?_)
     have HVD := Lib.hid (own_below HV.out (mx_drew wr))
     obtain ⟨wD, hwD⟩ : ∃ x, (wr).drew = x := ⟨_, rfl⟩
     rw [hwD] at hS HVD ⊢
     clear hwD
     refine takeF 0 17 (fun wq hSw => And.intro ((hSw.cell (p := ⟨w.heap.size, 0, none⟩) hzw).trans C0.out) (And.intro ((hSw.cell (p := ⟨w.heap.size, 1, none⟩) hzw).trans C1.out) (And.intro ((hSw.cell (p := ⟨w.heap.size, 2, none⟩) hzw).trans C2.out) ((hSw.cell (p := ⟨w.heap.size, 3, none⟩) hzw).trans C3.out)))) ?_
     refine takeE 1 18 ?_
     refine takeE 2 19 ?_
     refine takeE 3 20 ?_
     refine takeF 4 21 (fun wq hSw => (hSw.cell (p := ⟨g3, o3 + k, none⟩) hg3).trans F0.out) ?_
     refine ready1 5 (fun K hK => ?_)
     go_simp
     refine (HPV.out _ _ (HT.out.below hS)).mono ?_
     rintro e x1 ⟨rfl, hbN⟩
     have hSN := hS.trans (hbN.mono hS.size)
     have HVN := Lib.hid (own_below HVD.out hbN)
     clear HVD
     have HVD := HVN
     clear HVN
     refine hK.out _ _ hSN (fun _ => ?_)
     clear hK hbN hS
     have hS := hSN
     clear hSN
     refine takeE 6 23 ?_
     refine takeE 7 24 ?_
     refine takeU 8 25 ?_
     refine takeU 9 26 ?_
     refine takeU 10 27 ?_
     refine takeU 11 28 ?_
     refine takeU 12 29 ?_
     refine takeU 13 30 ?_
     refine takeU 14 31 ?_
     refine takeE 15 32 ?_
     refine takeE 16 33 ?_
     refine takeU 17 34 ?_
     refine takeU 18 35 ?_
     refine takeU 19 36 ?_
     refine takeU 20 37 ?_
     refine takeU 21 38 ?_
     refine takeU 22 39 ?_
     refine takeU 23 40 ?_
     refine takeU 24 41 ?_
     refine takeU 25 42 ?_
     refine takeE 26 43 ?_
     refine wpAnyH_done (by kernel_rfl) ?_ _
     have HB3 := Lib.hid hS
     clear hS
     go_wp2_with fail
     go_roundw
     case rel => exact ⟨k + 1, acc, by omega, by omega, by go_num, HN, HVD, HB3⟩
     case measure => simp [intOf]; omega
   ·
    obtain rfl : k = l.length := by omega
    have hE := HE.out
    rw [List.drop_length] at hE
    have HN := Lib.hid (show rLvs t.items [] l = acc from hE)
    clear hE
    go_wp2_with fail
    go_ret2
    exact ⟨by rw [HN.out]; rfl, HBA.out.trans (HW.out.mono HBA.out.size)⟩
end Go.Proofs.YtiodfolcnnkdjaaGreat
