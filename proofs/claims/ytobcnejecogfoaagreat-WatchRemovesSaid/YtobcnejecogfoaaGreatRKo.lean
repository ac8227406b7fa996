/- Known; literals sorted; alike (package salvorlaw13). -/
import Derived.Test.YtobcnejecogfoaaGreatQ36
import Derived.Test.YtobcnejecogfoaaGreatShelg
import Derived.Shelf.SlIterI.Nil
import Derived.Shelf.SortM.Plain
import Derived.Shelf.SortM.SortNone
namespace Go.Proofs.YtobcnejecogfoaaGreat
open Go.RowKit Go.Maps Go.Sort Go.Shelf

theorem own_sortLi {base : Nat} (v : Value) (xs : List Int) (w : World) (h : w.ownsRow base 39 1 v xs.length (xs.map (Value.int .i64))) (hl : xs.length < 4611686018427387904) :
    Calls Tryz.prog 84 #[v] w fun e w' => e = .returned (.tuple #[]) ∧ w'.ownsRow base 39 1 v (sortI xs).length ((sortI xs).map (Value.int .i64)) ∧ Kept (fun g => v.ownBlock = some g) w w' := by
  rcases h.2 with ⟨rfl, h0⟩ | ⟨g, cap, cur, rfl, hb, hg, h1, h2, h3, h4⟩
  · obtain rfl : xs = [] := List.eq_nil_of_length_eq_zero h0
    refine (AnyM.slices_Sort_int_none Tryz.sortL none 0 w).mono ?_
    rintro e w' ⟨rfl, rfl⟩
    have hs : sortI [] = [] := by simp [sortI]
    rw [hs]
    exact ⟨rfl, h, Kept.refl _ _⟩
  · refine (AnyM.slices_Sort_int Tryz.sortL g 0 cap xs w (st_holds hg (by simpa using h4)) (heap_lt hg) hl).mono ?_
    rintro e w' ⟨rfl, n, os, rfl⟩
    refine ⟨rfl, ?_, st_kept _⟩
    rw [sortI_length]
    refine ⟨by simp [sortI], .inr ⟨g, cap, _, rfl, hb, st_heap _ hg, h1, h2, by simp [putCells, h3], ?_⟩⟩
    have e : xs.length * 1 = (sortI xs).length := by rw [sortI_length, Nat.mul_one]
    rw [e]
    exact st_take cur (sortI xs) (by rw [sortI_length]; omega)
set_option maxRecDepth 100000 in
set_option maxHeartbeats 2000000 in
theorem law_alike {O O' : Nat → Prop} (u v : Value) (xs ys : List Int) (w : World) (h1 : IntsIn O w u xs) (h2 : IntsIn O' w v ys) (hx : xs.length ≤ 1000000) (hy : ys.length ≤ 1000000) :
    Calls Tryz.prog 39 #[u, v] w fun e w' => e = .returned (.bool (sortI xs == sortI ys)) ∧ Below w.heap.size w w' := by
  have HC1 := Lib.hid (clone_l u xs w h1 (by omega))
  have H2 := Lib.hid h2
  obtain ⟨A, c, rfl, _⟩ := h1
  obtain ⟨A', c', rfl, _⟩ := h2
  obtain ⟨z, hz⟩ : ∃ z, (sortI xs == sortI ys) = z := ⟨_, rfl⟩
  have HZ := Lib.hid hz
  rw [hz]
  clear hz
  go_enter Tryz.func39, Tryz.ntmps39
  go_wp2_with fail
  refine HC1.out.mono ?_
  rintro e w1 ⟨vx, rfl, hr1, hb1⟩
  have HR1 := Lib.hid hr1
  have HB1 := Lib.hid hb1
  have HC2 := Lib.hid (clone_l _ ys w1 (H2.out.below hb1) (by omega))
  clear hr1 hb1 HC1
  go_wp2_with fail
  refine HC2.out.mono ?_
  rintro e w2 ⟨vy, rfl, hr2, hb2⟩
  have hr1 := own_below HR1.out hb2
  have HS1 := Lib.hid (own_sortLi vx xs w2 hr1 (by omega))
  have HR2 := Lib.hid hr2
  have HB2 := Lib.hid (HB1.out.trans (hb2.mono HB1.out.size))
  have HAP := Lib.hid (show ∀ g, vx.ownBlock = some g → g < w1.heap.size ∧ w.heap.size ≤ g from fun g hg => ⟨(own_lt HR1.out g hg).2, (own_lt HR1.out g hg).1⟩)
  clear hr1 hr2 hb2 HC2 HR1
  go_wp2_with fail
  refine HS1.out.mono ?_
  rintro e w3 ⟨rfl, hr1, hk3⟩
  have hr2 := own_kept HR2.out hk3 (fun g hg e => by
    have := (own_lt HR2.out g hg).1
    have := (HAP.out g e).1
    omega)
  have HB3 := Lib.hid (HB2.out.trans (hk3.below (fun g hg => (HAP.out g hg).2) HB2.out.size))
  have HR1 := Lib.hid hr1
  have HS2 := Lib.hid (own_sortLi vy ys w3 hr2 (by omega))
  have HAQ := Lib.hid (show ∀ g, vy.ownBlock = some g → w1.heap.size ≤ g from fun g hg => (own_lt hr2 g hg).1)
  clear hr1 hr2 hk3 HS1 HR2
  go_wp2_with fail
  refine HS2.out.mono ?_
  rintro e w4 ⟨rfl, hr2, hk4⟩
  have hr1 := own_kept HR1.out hk4 (fun g hg e => by
    have := (HAP.out g hg).1
    have := HAQ.out g e
    omega)
  have HB4 := Lib.hid (HB3.out.trans (hk4.below (fun g hg => Nat.le_trans HB1.out.size (HAQ.out g hg)) HB3.out.size))
  have heq := eq_l vx vy (sortI xs) (sortI ys) w4 (IntsIn.of_own hr1) (IntsIn.of_own hr2) (by rw [sortI_length]; omega)
  rw [HZ.out] at heq
  have HEQ := Lib.hid heq
  clear heq hr1 hr2 hk4 HS2 HR1
  go_wp2_with fail
  refine HEQ.out.mono ?_
  rintro e w5 ⟨rfl, n, hw5⟩
  have HB5 := Lib.hid (HB4.out.trans ((show Below w4.heap.size w4 w5 from by rw [hw5]; exact mx_drewN _ _).mono HB4.out.size))
  clear hw5 HEQ
  go_wp2_with fail
  go_ret
  exact ⟨rfl, HB5.out⟩
/-- slices.Sort's two contracts, at the fence that asks nothing -/
theorem sorts_int (m : Nat) : AnyZI.SortsIn Tryz.prog Tryz.sortedA_ren Fence.wide m :=
  ⟨fun blk off cap ss W hH hblk hsz => callsIn_wide.2 (Tryz.slices_Sort_int blk off cap ss W hH hblk hsz), fun p cap W => callsIn_wide.2 (Tryz.slices_Sort_int_none p cap W)⟩
set_option maxRecDepth 100000 in
set_option maxHeartbeats 2000000 in
theorem wa_known (b ab tb : Nat) (A : Arn) (T : Trl) (S : Wst) (w : World) (lab : Nat → Nat) (h : SysAt w lab b ab tb A T S) :
    Calls Tryz.prog 36 #[.pointer (some ⟨b, 0, none⟩)] w fun e w' => ∃ v, e = .returned v ∧ w'.ownsRow w.heap.size 3 1 v S.known.length ((S.known.map Prod.fst).map (Value.int .i64)) ∧ Below w.heap.size w w' := by
  obtain ⟨hbn, kb, ob, K, F, tg, hm⟩ := h.wa
  have c2 : w.cell? ⟨b, 2, none⟩ = some (.map (some kb)) := mx_cell (j := 2) hm.block
  obtain ⟨hown, hris, hwf⟩ := hm.kmap
  have hlen : (mapV KnM.ptr K).length = S.known.length := by rw [hm.kS]; simp [mapV]
  have hkeys : (mapV KnM.ptr K).map Prod.fst = S.known.map Prod.fst := by rw [hm.kS]; simp [mapV]
  have hkl := hbn.knownLen
  obtain ⟨M, hM⟩ : ∃ M, mapV KnM.ptr K = M := ⟨_, rfl⟩
  rw [hM] at hown hris hlen hkeys
  have hints : intKeys (DataW.map (encE M)) = S.known.map Prod.fst := by
    rw [← hkeys]
    show (encE M).map _ = _
    unfold encE
    rw [List.map_map]
    rfl
  have hsz : Maps.size (DataW.map (encE M)) = S.known.length := by
    rw [← hlen]
    show (encE M).length = _
    exact encE_length M
  have hseq : SeqGives Fence.wide 2 Tryz.prog 120 #[.pointer (some ⟨w.heap.size, 0, none⟩)] encZ (fun ss => ss.Perm (intKeys (DataW.map (encE M)))) (Maps.size (DataW.map (encE M))) (w.alloc (.cells #[.map (some kb)] 85)) :=
    AnyZI.keys_gives (ρ := Tryz.keysA_ren) { Tryz.keysA with } Fence.wide _ trivial rfl (by omega) w.heap.size kb M.length _ _ (by simp) (by simp) (by
      obtain ⟨es, clock, hb, Ft, hs, hD⟩ := hown
      exact ⟨es, clock, (Below.heap_alloc _ _ kb (heap_lt hb)).trans hb, Ft, hs, hD⟩)
  have cK : ∀ mb W, CallsIn Fence.wide 5 Tryz.prog 81 #[.map mb] W fun e w' => e = .returned (.func (.func 120) #[] #[.pointer (some ⟨W.heap.size, 0, none⟩)]) ∧ w' = W.alloc (.cells #[.map mb] 85) := fun mb W => AnyZI.keys_in Tryz.keysA Fence.wide 5 trivial rfl mb W
  have cS := AnyZI.sorted_in Tryz.sortedA Fence.wide 5 trivial trivial trivial trivial rfl (by omega) (sorts_int _) (enters_of Tryz.func119 (by kernel_rfl) rfl) 120 #[.pointer (some ⟨w.heap.size, 0, none⟩)] trivial (enters_of Tryz.func120 (by kernel_rfl) rfl) _ _ (by rw [hsz]; unfold maxLen; omega) (by rw [hsz]; omega) _ hseq
  change CallsIn _ _ Tryz.prog 80 _ _ _ at cS
  have CK := Lib.hid ((callsIn_wide (n := 5)).1 (cK (some kb) w))
  have CS := Lib.hid ((callsIn_wide (n := 5)).1 cS)
  have HP := Lib.hid (show ∀ ss : List Int, ss.Perm (intKeys (DataW.map (encE M))) → ss.length = S.known.length ∧ ss.mergeSort (fun x y => decide (x ≤ y)) = S.known.map Prod.fst from fun ss hp => by
    rw [hints] at hp
    refine ⟨by rw [hp.length_eq, List.length_map], ?_⟩
    have := sortI_eq hp (by
      have hr : Rising S.known := hbn.kr
      unfold Rising at hr
      rw [List.pairwise_map]
      exact hr.imp (fun h => Int.le_of_lt h))
    exact this)
  clear hown hris hwf hlen hkeys hM hints hsz hseq cK cS hm hbn h
  go_enter Tryz.func36, Tryz.ntmps36
  go_wp2_with fail
  refine CK.out.mono ?_
  rintro e w' ⟨rfl, rfl⟩
  go_wp2_with fail
  refine CS.out.mono ?_
  rintro e w2 ⟨v, ss, rfl, hS, hrow, _, hb⟩
  obtain ⟨h1, h2⟩ := HP.out ss hS
  rw [h1, h2] at hrow
  have HROW := Lib.hid (own_mono hrow (base' := w.heap.size) (by simp))
  have HB := Lib.hid ((mx_al w (.cells #[.map (some kb)] 85)).trans (hb.mono (by simp)))
  clear hS hrow hb h1 h2 CK CS c2
  go_wp2_with fail
  go_ret
  exact ⟨v, rfl, HROW.out, HB.out⟩
end Go.Proofs.YtobcnejecogfoaaGreat
