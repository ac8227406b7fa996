/- The reference's Forget: the walk. -/
import Derived.Test.YtbokfjmbamgenaaDoorRd
namespace Go.Proofs.YtbokfjmbamgenaaDoor
open Go.RowKit

set_option maxRecDepth 100000 in
set_option maxHeartbeats 4000000 in
theorem ref_forget {O Oi : Nat → Prop} (tv stv iv : Value) (R : RLog) (ids : List Int) (w : World) (hR : RLogAt O w tv stv R) (hi : IntsIn Oi w iv ids) (hil : ids.length ≤ 65536)
    (hth : R.there.length ≤ 1073741824) (hst : R.steps.length < 262144) (hsh : ∀ s ∈ R.steps, s.hints.length + ids.length ≤ 65536) :
    Calls Tryd.prog 28 #[rVal tv stv R, iv] w (ForgetPost O Oi w R ids) := by
  obtain ⟨there, last, steps, done⟩ := R
  simp only [] at hth hst hsh
  have HR := Lib.hid hR
  have HI := Lib.hid hi
  obtain ⟨hT, ms, hS⟩ := hR
  obtain ⟨A, k, rfl, hk, _, _⟩ := hT
  obtain ⟨Z, As, cs, rfl, hcs, hZ⟩ : ∃ Z As cs, stv = .slice As Z cs ∧ Z ≤ cs ∧ ms.length = Z := by
    obtain ⟨As, cs, h1, h2, _⟩ := hS.form
    exact ⟨_, As, cs, h1, h2, rfl⟩
  have hms : Z = steps.length := by have := hS.steps; simp only [] at this; rw [← this, List.length_map, hZ]
  have HZ := Lib.hid hZ
  clear hZ
  have HS := Lib.hid hS
  have HMS := Lib.hid hms
  have HSH := Lib.hid hsh
  have HST := Lib.hid hst
  obtain ⟨Ai, ki, rfl, hki, _, hix⟩ := hi
  have HIX := Lib.hid hix
  clear hS hms hix hsh hst
  rcases hdd : done with _ | _
  case true =>
    subst hdd
    have h0 : refForgetErr ⟨there, last, steps, true⟩ ids = 171 := rfl
    have h1 : refForgetNum ⟨there, last, steps, true⟩ ids = 0 := rfl
    have H0 := Lib.hid h0
    have H1 := Lib.hid h1
    clear h0 h1
    unfold rVal
    go_enter Tryd.func28, Tryd.ntmps28
    go_wp2
    refine bodyPost_ret (v := .tuple #[rVal (.slice A there.length k) (.slice As Z cs) ⟨there, last, steps, true⟩, .int .i64 0, .int .i64 171]) (by simp [rVal, results, Tryd.results28, go_sem]) rfl ?_
    exact forget_post_stay 171 0 HR.out H0.out H1.out (.inl (by decide)) (((Below.refl _ _).alloc (Nat.le_refl _) _).alloc (by simp) _)
  case false =>
    subst hdd
    obtain ⟨wb, hwb⟩ : ∃ wb, (w.alloc (.cells #[.slice A there.length k, .int .i64 last, .slice As Z cs, .bool false] 62)).alloc (.cells #[.slice none 0 0, .int .i64 0, .slice none 0 0, .bool false] 62) = wb := ⟨_, rfl⟩
    have HWB := Lib.hid hwb
    have hB : Below w.heap.size w wb := by rw [← hwb]; exact ((Below.refl _ _).alloc (Nat.le_refl _) _).alloc (by simp) _
    have hzb : wb.heap.size = w.heap.size + 2 := by rw [← hwb]; simp
    have hb3 : wb.heap[w.heap.size + 1]? = some (.cells #[.slice none 0 0, .int .i64 0, .slice none 0 0, .bool false] 62 (0, 0)) := by
      rw [← hwb]
      have := World.alloc_heap_new (w.alloc (.cells #[.slice A there.length k, .int .i64 last, .slice As Z cs, .bool false] 62)) (.cells #[.slice none 0 0, .int .i64 0, .slice none 0 0, .bool false] 62)
      rwa [World.size_alloc] at this
    have hb2 : wb.heap[w.heap.size]? = some (.cells #[.slice A there.length k, .int .i64 last, .slice As Z cs, .bool false] 62 (0, 0)) := by
      rw [← hwb, Below.heap_alloc _ _ _ (by simp)]
      exact World.alloc_heap_new _ _
    have HB := Lib.hid hB
    have HB3 := Lib.hid hb3
    have HB2 := Lib.hid hb2
    have HZB := Lib.hid hzb
    clear hwb hB hb3 hb2 hzb
    obtain ⟨i0, hi0, hz0, hz1, hz2⟩ := info_parts info_int
    unfold rVal
    go_enter Tryd.func28, Tryd.ntmps28
    go_wp2_with fail
    rw [HWB.out]
    go_loopw [7, 8] (fun t i wr => ∃ q : Nat, q ≤ ids.length ∧ i = .int .i64 q ∧ Hid (IntsIn (fun g => O g ∧ g < w.heap.size ∨ w.heap.size + 2 ≤ g) wr t (refRest there (ids.take q))) ∧ Hid (Below wb.heap.size wb wr) ∧ Hid (refBad there (ids.take q) = none)) (fun _ i _ => ids.length - (intOf i).toNat)
    case atStart => exact ⟨0, Nat.zero_le _, rfl, Lib.hid (((ints_lt HR.out.1).below HB.out).mono (fun g hg => .inl hg)), Lib.hid (Below.refl _ _), Lib.hid (by simp [refBad])⟩
    case round =>
      obtain ⟨q, hq, rfl, HT, HW, HBAD⟩ := hrel
      have hzr : w.heap.size + 2 ≤ wr.heap.size := by have := HZB.out; have := HW.out.size; omega
      by_cases hlt : q < ids.length
      · obtain ⟨y, hy⟩ := getElem_of hlt
        have htl := refRest_len there (ids.take q)
        obtain ⟨T, hT⟩ : ∃ T, refRest there (ids.take q) = T := ⟨_, rfl⟩
        rw [hT] at HT htl
        have HTE := Lib.hid hT
        have hts := HT.out
        obtain ⟨A7, c7, rfl, hc7, _, hx7⟩ := hts
        have HX7 := Lib.hid hx7
        obtain ⟨g, o, rfl, hg, _, d0⟩ := HIX.out q y hy
        have HBR := Lib.hid (HB.out.trans (HW.out.mono HB.out.size))
        have d1 := (HBR.out.cell (p := ⟨g, o + q, none⟩) hg).trans d0
        have hgr : g < wr.heap.size := Nat.lt_of_lt_of_le hg HBR.out.size
        have HY := Lib.hid hy
        have HD1 := Lib.hid d1
        clear hT hx7 hy d0 d1
        go_wp2_with fail
        obtain ⟨wo, rfl⟩ : ∃ wo : World, wo = wr := ⟨_, rfl⟩
        go_loopw [9, 10] (fun v i wi => ∃ p : Nat, p ≤ T.length ∧ i = .int .i64 p ∧ Hid (wi.ownsRow wo.heap.size 3 1 v ((T.take p).filter (· != y)).length (((T.take p).filter (· != y)).map (Value.int .i64))) ∧ Hid (Below wo.heap.size wo wi)) (fun _ i _ => T.length - (intOf i).toNat)
        case atStart => exact ⟨0, Nat.zero_le _, rfl, Lib.hid (by simpa using World.ownsRow_nil _ _ _ _), Lib.hid (Below.refl _ _)⟩
        case round =>
          obtain ⟨p, hp, rfl, HV, HWI⟩ := hrel
          by_cases hlp : p < T.length
          · obtain ⟨z, hz⟩ := getElem_of hlp
            obtain ⟨g7, o7, rfl, hg7, _, dz⟩ := HX7.out p z hz
            have dz1 := (HWI.out.cell (p := ⟨g7, o7 + p, none⟩) hg7).trans dz
            have dy1 := (HWI.out.cell (p := ⟨g, o + q, none⟩) hgr).trans HD1.out
            have hzw := HWI.out.size
            have hnext := List.take_add_one (l := T) (i := p)
            rw [hz] at hnext
            have HNX := Lib.hid hnext
            obtain ⟨Av, cv, hv, _⟩ := own_slice HV.out
            subst hv
            clear hz dz hnext
            have hfl : ((T.take p).filter (· != y)).length ≤ T.length := Nat.le_trans (List.length_filter_le _ _) (by rw [List.length_take]; omega)
            obtain ⟨N, hN⟩ : ∃ N, ((T.take p).filter (· != y)).length = N := ⟨_, rfl⟩
            obtain ⟨XS, hXS⟩ : ∃ XS, ((T.take p).filter (· != y)).map (Value.int .i64) = XS := ⟨_, rfl⟩
            rw [hN] at hfl ⊢
            rw [hN, hXS] at HV
            have HN := Lib.hid hN
            have HXS := Lib.hid hXS
            clear hN hXS
            by_cases hzy : z = y
            · have qz : (z != y) = false := by simpa using hzy
              have HQ := Lib.hid hzy
              clear hzy
              go_wp2_with fail
              go_quiet (fail)
              have HVD := Lib.hid (own_below HV.out (below_drewN' wr nq))
              have HWD := Lib.hid (HWI.out.trans ((below_drewN' wr nq).mono HWI.out.size))
              go_wp2_with fail
              go_roundw
              case rel => exact ⟨p + 1, by omega, by go_num, Lib.hid (by
                rw [HNX.out, List.filter_append, List.map_append, HXS.out, List.length_append, HN.out]
                simpa [HQ.out] using HVD.out), HWD⟩
              case measure => simp [intOf]; omega
            · have qz : (z != y) = true := by simpa using hzy
              have HQ := Lib.hid hzy
              clear hzy
              go_wp2_with fail
              go_quiet (fail)
              obtain ⟨wd, hwd⟩ : ∃ x, wr.drewN nq = x := ⟨_, rfl⟩
              have hvd := own_below HV.out (below_drewN' wr nq)
              have hwdd := HWI.out.trans ((below_drewN' wr nq).mono HWI.out.size)
              have dz2 : (wr.drewN nq).cell? ⟨g7, o7 + p, none⟩ = some (.int .i64 z) := dz1
              rw [hwd] at hvd hwdd dz2 ⊢
              have HVD := Lib.hid hvd
              have HWD := Lib.hid hwdd
              have hzd := hwdd.size
              clear hvd hwdd hwd dz1 dy1
              go_wp2_with (at_builtin; refine wpList_append_own_at _ rfl _ _ 26 rfl wo.heap.size 3 i0 (.int .i64 0) 1 8 Tryd.underlying26 hi0 hz0 hz1 hz2 rfl (by decide) _ N _ rfl (own_below HVD.out (below_al wd _)) ⟨wd.heap.size, 0, none⟩ 1 1 [.int .i64 z] rfl rfl (cell_one_new' _ _ _) (by simp [Value.oneCell']) (by unfold maxLen; omega) (by omega) (by simp; omega) ?_; intro v' w1 hown hgrow hnl hat; obtain ⟨Aw, kw, hv2, _⟩ := own_slice hown; subst hv2; have HOWN := Lib.hid hown; have HG := Lib.hid hgrow; clear hown hgrow hnl hat)
              have hw1 : Below wo.heap.size wo w1 := (HWD.out.trans ((below_al wd (.cells #[.int .i64 z] 3)).mono hzd)).grown HG.out (by simp; omega) (fun g hg => (own_lt HVD.out g hg).1)
              go_roundw
              case rel => exact ⟨p + 1, by omega, by go_num, Lib.hid (by
                rw [HNX.out, List.filter_append, List.map_append, HXS.out, List.length_append, HN.out]
                simpa [HQ.out, qz] using HOWN.out), Lib.hid hw1⟩
              case measure => simp [intOf]; omega
          · obtain rfl : p = T.length := by omega
            rw [List.take_length] at HV
            obtain ⟨Av, cv, hv, _⟩ := own_slice HV.out
            subst hv
            have HWR := Lib.hid (HW.out.trans (HWI.out.mono HW.out.size))
            have hzw := HWI.out.size
            by_cases hc : T.contains y = true
            · have hlt2 := filter_len_lt T y hc
              obtain ⟨L, hL⟩ : ∃ L, T.filter (· != y) = L := ⟨_, rfl⟩
              rw [hL] at HV hlt2 ⊢
              have HLE := Lib.hid hL
              have HCC := Lib.hid hc
              have hne : ((L.length : Int) == (T.length : Int)) = false := by simp; omega
              clear hL hc
              go_wp2_with fail
              go_roundw
              case rel =>
                have htake : ids.take (q + 1) = ids.take q ++ [y] := by rw [List.take_add_one, HY.out]; rfl
                refine ⟨q + 1, by omega, by go_num, Lib.hid ?_, HWR, Lib.hid ?_⟩
                · rw [htake, refRest_snoc, HTE.out, HLE.out]
                  exact (IntsIn.of_own HV.out).mono (fun g hg => .inr (by have := hg.1; omega))
                · rw [htake]
                  exact refBad_snoc _ _ _ HBAD.out (by rw [HTE.out]; exact HCC.out)
              case measure => simp [intOf]; omega
            · have hc' : T.contains y = false := by simpa using hc
              have hbad : refBad there ids = some y := by
                have he : ids = ids.take q ++ y :: ids.drop (q + 1) := by
                  have h1 := List.take_append_drop q ids
                  have h2 : ids.drop q = y :: ids.drop (q + 1) := by
                    have h3 := List.getElem?_eq_some_iff.1 HY.out
                    rw [List.drop_eq_getElem_cons hlt, h3.2]
                  rw [h2] at h1
                  exact h1.symm
                rw [he]
                exact refBad_hit _ _ _ _ HBAD.out (by rw [HTE.out]; exact hc')
              have h0 : refForgetErr ⟨there, last, steps, false⟩ ids = 170 := by
                simp only [refForgetErr]
                rw [if_neg (by decide), if_pos (by rw [hbad]; simp)]
              have h1 : refForgetNum ⟨there, last, steps, false⟩ ids = y := by
                simp only [refForgetNum]
                rw [if_neg (by decide), hbad]
              have hq2 : ((((T.filter (· != y)).length : Nat) : Int) == (T.length : Int)) = true := by rw [filter_len_eq T y hc']; simp
              obtain ⟨N, hN⟩ : ∃ N, (T.filter (· != y)).length = N := ⟨_, rfl⟩
              rw [hN] at hq2 ⊢
              have H0 := Lib.hid h0
              have H1 := Lib.hid h1
              clear hN h0 h1 hbad hc hc' HV
              have hwr := HWR.out
              have hr2 : wr.heap[w.heap.size]? = some (.cells #[.slice A there.length k, .int .i64 last, .slice As Z cs, .bool false] 62 (0, 0)) := (hwr.block _ (by have := HZB.out; omega)).trans HB2.out
              have hr3 : wr.heap[w.heap.size + 1]? = some (.cells #[.slice none 0 0, .int .i64 0, .slice none 0 0, .bool false] 62 (0, 0)) := (hwr.block _ (by have := HZB.out; omega)).trans HB3.out
              have b0 : wr.cell? ⟨w.heap.size, 0, none⟩ = some (.slice A there.length k) := cell_of_block (j := 0) hr2
              have b1 : wr.cell? ⟨w.heap.size, 1, none⟩ = some (.int .i64 last) := cell_of_block (j := 1) hr2
              have b2 : wr.cell? ⟨w.heap.size, 2, none⟩ = some (.slice As Z cs) := cell_of_block (j := 2) hr2
              have b3 : wr.cell? ⟨w.heap.size, 3, none⟩ = some (.bool false) := cell_of_block (j := 3) hr2
              have dy1 := (HWI.out.cell (p := ⟨g, o + q, none⟩) hgr).trans HD1.out
              have HR3 := Lib.hid hr3
              have HBF := Lib.hid (HB.out.trans (hwr.mono HB.out.size))
              have hgw : g < wr.heap.size := by omega
              have hz2 : w.heap.size + 2 ≤ wr.heap.size := by omega
              clear hr2 hr3 hwr
              go_wp2_with fail
              refine wp_region_held_drew (S := fun w' => w'.cell? ⟨w.heap.size, 0, none⟩ = some (.slice A there.length k) ∧ w'.cell? ⟨w.heap.size, 1, none⟩ = some (.int .i64 last) ∧ w'.cell? ⟨w.heap.size, 2, none⟩ = some (.slice As Z cs) ∧ w'.cell? ⟨w.heap.size, 3, none⟩ = some (.bool false) ∧ w'.cell? ⟨g, o + q, none⟩ = some (.int .i64 y)) (by kernel_rfl) ⟨b0, b1, b2, b3, dy1⟩ (fun hHeld => ?_)
              obtain ⟨wD, hwD⟩ : ∃ x, wr.drew = x := ⟨_, rfl⟩
              have hbD : Below wr.heap.size wr wD := by rw [← hwD]; exact below_drew' wr
              rw [hwD] at hHeld ⊢
              have hzD : wD.heap.size = wr.heap.size := by rw [← hwD]; rfl
              clear b0 b1 b2 b3 dy1 hwD
              refine takeD 0 52 (v := ?_) rfl (by rfl) (by kernel_rfl) (by kernel_rfl) (by kernel_rfl) (fun _ _ _ h => h) (Or.inl ⟨by rfl, ?_⟩) (by assumption) ?_
              rotate_left
              · intro w hSw
                obtain ⟨_, _, _, _, _⟩ := hSw
                go_simp
                try with_reducible rfl
              simp only [Act.put, List.setIfInBounds_toArray, List.set_cons_zero, List.set_cons_succ]
              refine takeD 1 53 (v := ?_) rfl (by rfl) (by kernel_rfl) (by kernel_rfl) (by kernel_rfl) (fun _ _ _ h => h) (Or.inl ⟨by rfl, ?_⟩) (by assumption) ?_
              rotate_left
              · intro w hSw
                obtain ⟨_, _, _, _, _⟩ := hSw
                go_simp
                try with_reducible rfl
              simp only [Act.put, List.setIfInBounds_toArray, List.set_cons_zero, List.set_cons_succ]
              refine takeD 2 54 (v := ?_) rfl (by rfl) (by kernel_rfl) (by kernel_rfl) (by kernel_rfl) (fun _ _ _ h => h) (Or.inl ⟨by rfl, ?_⟩) (by assumption) ?_
              rotate_left
              · intro w hSw
                obtain ⟨_, _, _, _, _⟩ := hSw
                go_simp
                try with_reducible rfl
              simp only [Act.put, List.setIfInBounds_toArray, List.set_cons_zero, List.set_cons_succ]
              refine takeD 3 55 (v := ?_) rfl (by rfl) (by kernel_rfl) (by kernel_rfl) (by kernel_rfl) (fun _ _ _ h => h) (Or.inl ⟨by rfl, ?_⟩) (by assumption) ?_
              rotate_left
              · intro w hSw
                obtain ⟨_, _, _, _, _⟩ := hSw
                go_simp
                try with_reducible rfl
              simp only [Act.put, List.setIfInBounds_toArray, List.set_cons_zero, List.set_cons_succ]
              refine takeD 4 56 (v := ?_) rfl (by rfl) (by kernel_rfl) (by kernel_rfl) (by kernel_rfl) (fun _ _ _ h => h) (Or.inl ⟨by rfl, ?_⟩) (by assumption) ?_
              rotate_left
              · intro w hSw
                obtain ⟨_, _, _, _, _⟩ := hSw
                go_simp
                try with_reducible rfl
              simp only [Act.put, List.setIfInBounds_toArray, List.set_cons_zero, List.set_cons_succ]
              have hd3 := (hbD.block (w.heap.size + 1) (by omega)).trans HR3.out
              have e0 : wD.cell? ⟨w.heap.size + 1, 0, none⟩ = some (.slice none 0 0) := cell_of_block (j := 0) hd3
              have e1 : wD.cell? ⟨w.heap.size + 1, 1, none⟩ = some (.int .i64 0) := cell_of_block (j := 1) hd3
              have e2 : wD.cell? ⟨w.heap.size + 1, 2, none⟩ = some (.slice none 0 0) := cell_of_block (j := 2) hd3
              have e3 : wD.cell? ⟨w.heap.size + 1, 3, none⟩ = some (.bool false) := cell_of_block (j := 3) hd3
              have fe0 := free_of_block (j := 0) hd3
              have fe1 := free_of_block (j := 1) hd3
              have fe2 := free_of_block (j := 2) hd3
              have fe3 := free_of_block (j := 3) hd3
              have HBD := Lib.hid hbD
              have HD3 := Lib.hid hd3
              clear hd3 hbD
              refine wpAnyH_ready (rs := [5]) (by kernel_rfl) (by simp) ?_
              refine AllReadyH.cons rfl (fun K hK => ?_) AllReadyH.nil
              go_simp
              obtain ⟨ws, hws⟩ : ∃ x, ((((wD.setCell ⟨w.heap.size + 1, 0, none⟩ (.slice A there.length k)).setCell ⟨w.heap.size + 1, 1, none⟩ (.int .i64 last)).setCell ⟨w.heap.size + 1, 2, none⟩ (.slice As Z cs)).setCell ⟨w.heap.size + 1, 3, none⟩ (.bool false)) = x := ⟨_, rfl⟩
              have hks : Kept (fun g => g = w.heap.size + 1) wD ws := by rw [← hws]; exact ((((Kept.refl (fun g => g = w.heap.size + 1) wD).setCell ⟨w.heap.size + 1, 0, none⟩ _ rfl).setCell ⟨w.heap.size + 1, 1, none⟩ _ rfl).setCell ⟨w.heap.size + 1, 2, none⟩ _ rfl).setCell ⟨w.heap.size + 1, 3, none⟩ _ rfl
              have hbs : Below w.heap.size w ws := by rw [← hws]; exact set4_below (HBF.out.trans (HBD.out.mono HBF.out.size)) (Nat.le_succ _) _ _ _ _
              have hs3 : ws.heap[w.heap.size + 1]? = some (.cells #[.slice A there.length k, .int .i64 last, .slice As Z cs, .bool false] 62 (0, 0)) := by rw [← hws]; exact block_set (j := 3) (block_set (j := 2) (block_set (j := 1) (block_set (j := 0) HD3.out _) _) _) _
              rw [hws]
              refine hK.out _ _ ⟨(hks.cell (p := ⟨w.heap.size, 0, none⟩) (by show w.heap.size < wD.heap.size; omega) (by show ¬ w.heap.size = w.heap.size + 1; omega)).trans hHeld.1, (hks.cell (p := ⟨w.heap.size, 1, none⟩) (by show w.heap.size < wD.heap.size; omega) (by show ¬ w.heap.size = w.heap.size + 1; omega)).trans hHeld.2.1, (hks.cell (p := ⟨w.heap.size, 2, none⟩) (by show w.heap.size < wD.heap.size; omega) (by show ¬ w.heap.size = w.heap.size + 1; omega)).trans hHeld.2.2.1, (hks.cell (p := ⟨w.heap.size, 3, none⟩) (by show w.heap.size < wD.heap.size; omega) (by show ¬ w.heap.size = w.heap.size + 1; omega)).trans hHeld.2.2.2.1, (hks.cell (p := ⟨g, o + q, none⟩) (by show g < wD.heap.size; omega) (by show ¬ g = w.heap.size + 1; omega)).trans hHeld.2.2.2.2⟩ (fun hHeld1 => ?_)
              clear hK hHeld e0 e1 e2 e3 fe0 fe1 fe2 fe3 hws hks HD3
              have HBS := Lib.hid hbs
              have s0 : ws.cell? ⟨w.heap.size + 1, 0, none⟩ = some (.slice A there.length k) := cell_of_block (j := 0) hs3
              have s1 : ws.cell? ⟨w.heap.size + 1, 1, none⟩ = some (.int .i64 last) := cell_of_block (j := 1) hs3
              have s2 : ws.cell? ⟨w.heap.size + 1, 2, none⟩ = some (.slice As Z cs) := cell_of_block (j := 2) hs3
              have s3 : ws.cell? ⟨w.heap.size + 1, 3, none⟩ = some (.bool false) := cell_of_block (j := 3) hs3
              clear hbs hs3
              refine takeD 6 5 (v := ?_) rfl (by rfl) (by kernel_rfl) (by kernel_rfl) (by kernel_rfl) (fun _ _ _ h => h) (Or.inl ⟨by rfl, ?_⟩) (by assumption) ?_
              rotate_left
              · intro w hSw
                obtain ⟨_, _, _, _, _⟩ := hSw
                go_simp
                try with_reducible rfl
              simp only [Act.put, List.setIfInBounds_toArray, List.set_cons_zero, List.set_cons_succ]
              refine takeD 7 6 (v := ?_) rfl (by rfl) (by kernel_rfl) (by kernel_rfl) (by kernel_rfl) (fun _ _ _ h => h) (Or.inl ⟨by rfl, ?_⟩) (by assumption) ?_
              rotate_left
              · intro w hSw
                obtain ⟨_, _, _, _, _⟩ := hSw
                go_simp
                try with_reducible rfl
              simp only [Act.put, List.setIfInBounds_toArray, List.set_cons_zero, List.set_cons_succ]
              refine wpAnyH_done (by kernel_rfl) ?_ _
              clear hHeld1
              go_wp2_with fail
              refine bodyPost_ret (v := .tuple #[rVal (.slice A there.length k) (.slice As Z cs) ⟨there, last, steps, false⟩, .int .i64 y, .int .i64 170]) (by simp [rVal, results, Tryd.results28, go_sem, s0, s1, s2, s3]) rfl ?_
              exact forget_post_stay 170 y HR.out H0.out H1.out (.inl (by decide)) HBS.out
      · obtain rfl : q = ids.length := by omega
        rw [List.take_length] at HT HBAD
        have htl := refRest_len there ids
        obtain ⟨T, hT⟩ : ∃ T, refRest there ids = T := ⟨_, rfl⟩
        rw [hT] at HT htl
        have HTE := Lib.hid hT
        have hts := HT.out
        obtain ⟨A7, c7, rfl, hc7, _, _⟩ := hts
        clear hT
        have hr2 : wr.heap[w.heap.size]? = some (.cells #[.slice A there.length k, .int .i64 last, .slice As Z cs, .bool false] 62 (0, 0)) := (HW.out.block _ (by have := HZB.out; omega)).trans HB2.out
        have hr3 : wr.heap[w.heap.size + 1]? = some (.cells #[.slice none 0 0, .int .i64 0, .slice none 0 0, .bool false] 62 (0, 0)) := (HW.out.block _ (by have := HZB.out; omega)).trans HB3.out
        have HR2 := Lib.hid hr2
        have HR3 := Lib.hid hr3
        have HBR := Lib.hid (HB.out.trans (HW.out.mono HB.out.size))
        clear hr2 hr3
        have b0 : wr.cell? ⟨w.heap.size, 0, none⟩ = some (.slice A there.length k) := cell_of_block (j := 0) HR2.out
        have b1 : wr.cell? ⟨w.heap.size, 1, none⟩ = some (.int .i64 last) := cell_of_block (j := 1) HR2.out
        have b2 : wr.cell? ⟨w.heap.size, 2, none⟩ = some (.slice As Z cs) := cell_of_block (j := 2) HR2.out
        have b3 : wr.cell? ⟨w.heap.size, 3, none⟩ = some (.bool false) := cell_of_block (j := 3) HR2.out
        have e0 : wr.cell? ⟨w.heap.size + 1, 0, none⟩ = some (.slice none 0 0) := cell_of_block (j := 0) HR3.out
        have e1 : wr.cell? ⟨w.heap.size + 1, 1, none⟩ = some (.int .i64 0) := cell_of_block (j := 1) HR3.out
        have e2 : wr.cell? ⟨w.heap.size + 1, 2, none⟩ = some (.slice none 0 0) := cell_of_block (j := 2) HR3.out
        have e3 : wr.cell? ⟨w.heap.size + 1, 3, none⟩ = some (.bool false) := cell_of_block (j := 3) HR3.out
        have fb0 := free_of_block (j := 0) HR2.out
        have fe0 := free_of_block (j := 0) HR3.out
        have fb1 := free_of_block (j := 1) HR2.out
        have fe1 := free_of_block (j := 1) HR3.out
        have fb2 := free_of_block (j := 2) HR2.out
        have fe2 := free_of_block (j := 2) HR3.out
        have fb3 := free_of_block (j := 3) HR2.out
        have fe3 := free_of_block (j := 3) HR3.out
        by_cases hn0 : ids.length = 0
        · have h0 : refForgetErr ⟨there, last, steps, false⟩ ids = 0 := by
            simp only [refForgetErr]
            rw [if_neg (by decide), if_neg (by rw [HBAD.out]; simp)]
          have h1 : refForgetNum ⟨there, last, steps, false⟩ ids = 0 := by
            simp only [refForgetNum]
            rw [if_neg (by decide), HBAD.out, h0, hn0]
            rfl
          have H0 := Lib.hid h0
          have H1 := Lib.hid h1
          have q0 : ((ids.length : Int) == 0) = true := by rw [hn0]; rfl
          clear h0 h1
          go_wp2
          refine bodyPost_ret (v := .tuple #[rVal (.slice A there.length k) (.slice As Z cs) ⟨there, last, steps, false⟩, .int .i64 0, .int .i64 0]) (by simp [rVal, results, Tryd.results28, go_sem, e0, e1, e2, e3]) rfl ?_
          exact forget_post_stay 0 0 HR.out H0.out H1.out (.inr hn0) (set4_below HBR.out (Nat.le_succ _) _ _ _ _)
        · have q0 : ((ids.length : Int) == 0) = false := beq_eq_false_iff_ne.2 (by omega)
          go_upto_region 20 with fail
          obtain ⟨w9, hw9⟩ : ∃ x, wr.alloc (.cells #[.bool true, .int .i64 last, .slice none 0 0, .slice none 0 0] 98) = x := ⟨_, rfl⟩
          have hb9 : Below wr.heap.size wr w9 := by rw [← hw9]; exact below_al _ _
          have hz9 : w9.heap.size = wr.heap.size + 1 := by rw [← hw9]; simp
          have hs9 : w9.heap[wr.heap.size]? = some (.cells #[.bool true, .int .i64 last, .slice none 0 0, .slice none 0 0] 98 (0, 0)) := by rw [← hw9]; exact World.alloc_heap_new _ _
          rw [hw9]
          have h92 := (hb9.block w.heap.size (by omega)).trans HR2.out
          have h93 := (hb9.block (w.heap.size + 1) (by omega)).trans HR3.out
          have HB9 := Lib.hid (HBR.out.trans (hb9.mono HBR.out.size))
          have HT9 := Lib.hid ((ints_lt HT.out).below hb9)
          have HS9 := Lib.hid hs9
          have H92 := Lib.hid h92
          have H93 := Lib.hid h93
          obtain ⟨bs, hbs⟩ : ∃ x, wr.heap.size = x := ⟨_, rfl⟩
          rw [hbs] at hs9 hz9 HT9 ⊢
          clear b0 b1 b2 b3 e0 e1 e2 e3 fb0 fb1 fb2 fb3 fe0 fe1 fe2 fe3
          clear hw9 hb9
          have HS9 := Lib.hid hs9
          have hbw : w.heap.size + 2 ≤ bs := by omega
          have HZ9 := Lib.hid hz9
          clear hs9 h92 h93 hbs hz9
          have b0 : w9.cell? ⟨w.heap.size, 0, none⟩ = some (.slice A there.length k) := cell_of_block (j := 0) H92.out
          have b1 : w9.cell? ⟨w.heap.size, 1, none⟩ = some (.int .i64 last) := cell_of_block (j := 1) H92.out
          have b2 : w9.cell? ⟨w.heap.size, 2, none⟩ = some (.slice As Z cs) := cell_of_block (j := 2) H92.out
          have b3 : w9.cell? ⟨w.heap.size, 3, none⟩ = some (.bool false) := cell_of_block (j := 3) H92.out
          go_upto_region 21 with fail
          go_cut [80] (fun s80 wx => ∃ jb : Bool, s80 = .bool jb ∧ Hid (jb = RLog.join ⟨there, last, steps, false⟩) ∧ Hid (wx = w9))
          case first =>
            have hmn : Z ≤ 262144 := by rw [HMS.out]; exact Nat.le_of_lt HST.out
            by_cases hm0 : Z = 0
            · have q1 : decide ((0 : Int) < (Z : Int)) = false := by rw [hm0]; rfl
              have q2 : decide (0 < Z) = false := by rw [hm0]; rfl
              have hst0 : steps = [] := List.eq_nil_of_length_eq_zero (by rw [← HMS.out]; exact hm0)
              clear hm0 hmn
              go_wp2_with fail
              go_meet
              exact ⟨false, rfl, Lib.hid (by rw [hst0]; rfl), Lib.hid rfl⟩
            · obtain ⟨N, rfl⟩ : ∃ N, Z = N + 1 := ⟨Z - 1, by omega⟩
              obtain ⟨m, g, hA, hg, hm, hlast, x1, x2, x3, c0, x4⟩ := rsteps_end HS.out HZ.out
              clear x1 x2 x3 x4
              subst hA
              have c0' := (HB9.out.cell (p := ⟨g, N * 4, none⟩) hg).trans c0
              have hjn : RLog.join ⟨there, last, steps, false⟩ = m.s.del := by simp only [RLog.join]; rw [hlast]
              have HJ := Lib.hid hjn
              obtain ⟨db, hdb⟩ : ∃ db, m.s.del = db := ⟨_, rfl⟩
              rw [hdb] at c0' HJ
              have hw9 : IntKind.i64.wrap (N : Int) = (N : Int) := IntWalk.i64_in _ (by omega)
              have hlt9 : (N : Int) < (N : Int) + 1 := by omega
              have hge9 : (0 : Int) ≤ (N : Int) := by omega
              clear c0 hjn hlast hm hdb hm0
              go_wp2_with fail
              go_meet
              exact ⟨db, rfl, Lib.hid HJ.out.symm, Lib.hid rfl⟩
          case rest =>
            obtain ⟨jb, rfl, HJ, HWC⟩ := hcut
            have hwc := HWC.out
            subst hwc
            go_upto_if 80 with fail
            go_cut [13] (fun s13 wx => ∃ (N : Nat) (id : Int) (lv hv : Value) (lits hints : List Int), s13 = .slice As N cs ∧ N ≤ Z ∧ Hid (wx.heap[bs]? = some (.cells #[.bool true, .int .i64 id, lv, hv] 98 (0, 0))) ∧ Hid (wx.heap[w.heap.size]? = some (.cells #[.slice A there.length k, .int .i64 last, .slice As Z cs, .bool false] 62 (0, 0))) ∧ Hid (wx.heap[w.heap.size + 1]? = some (.cells #[.slice none 0 0, .int .i64 0, .slice none 0 0, .bool false] 62 (0, 0))) ∧ Hid (IntsIn O w lv lits) ∧ Hid (IntsIn O w hv hints) ∧ Hid (IntsIn (fun g => (O g ∧ g < w.heap.size ∨ w.heap.size + 2 ≤ g) ∧ g < bs) wx (.slice A7 T.length c7) T) ∧ Hid (Below w.heap.size w wx) ∧ Hid (bs < wx.heap.size) ∧ Hid (JoinIs steps last N ⟨true, id, lits, hints⟩))
            case first =>
              rcases jb with _ | _
              · have hji : JoinIs steps last Z ⟨true, last, [], []⟩ := .inl ⟨HJ.out.symm, HMS.out, rfl⟩
                have HJI := Lib.hid hji
                clear hji
                go_wp2_with fail
                go_meet
                exact ⟨Z, last, _, _, [], [], rfl, Nat.le_refl _, HS9, H92, H93, Lib.hid (IntsIn.nil _ _), Lib.hid (IntsIn.nil _ _), HT9, HB9, Lib.hid (by have := HZ9.out; omega), HJI⟩
              · obtain ⟨N, hN⟩ : ∃ N, Z = N + 1 := by
                  refine ⟨Z - 1, ?_⟩
                  have h1 := HJ.out
                  have h2 := HMS.out
                  cases hs : steps with
                  | nil => rw [hs] at h1; cases h1
                  | cons a l => rw [hs, List.length_cons] at h2; omega
                subst hN
                obtain ⟨m, g, hA, hg, hm, hlast, x1, x2, x3, c0, c1, c2, c3⟩ := rsteps_end HS.out HZ.out
                subst hA
                have hdel : m.s.del = true := by
                  have := HJ.out
                  simp only [RLog.join] at this
                  rw [hlast] at this
                  exact this.symm
                have hji : JoinIs steps last N ⟨true, m.s.id, m.s.lits, m.s.hints⟩ := .inr ⟨HJ.out.symm, HMS.out, by rw [hlast, ← hdel]⟩
                have HJI := Lib.hid hji
                obtain ⟨A1, k1', f1, y1⟩ := x3.1
                obtain ⟨A2, k2', f2, y2⟩ := x3.2
                rw [f1] at c2 x3
                rw [f2] at c3 x3
                have HX3 := Lib.hid x3
                clear y1 y2 f1 f2
                rw [hdel] at c0
                have d0 := (HB9.out.cell (p := ⟨g, N * 4, none⟩) hg).trans c0
                have d1 := (HB9.out.cell (p := ⟨g, N * 4 + 1, none⟩) hg).trans c1
                have d2 := (HB9.out.cell (p := ⟨g, N * 4 + 2, none⟩) hg).trans c2
                have d3 := (HB9.out.cell (p := ⟨g, N * 4 + 3, none⟩) hg).trans c3
                have hmn : N + 1 ≤ 262144 := by rw [HMS.out]; exact Nat.le_of_lt HST.out
                have hw9 : IntKind.i64.wrap (N : Int) = (N : Int) := IntWalk.i64_in _ (by omega)
                have hlt9 : (N : Int) < (N : Int) + 1 := by omega
                have hge9 : (0 : Int) ≤ (N : Int) := by omega
                have HG := Lib.hid hg
                have hncs : N ≤ cs := by omega
                clear x1 x2 x3 c0 c1 c2 c3 hlast hm hdel hji hg hmn
                go_wp2_with fail
                refine wp_region_held_drew (S := fun w' => w'.cell? ⟨w.heap.size, 2, none⟩ = some (.slice (some ⟨g, 0, none⟩) (N + 1) cs) ∧ w'.cell? ⟨g, N * 4, none⟩ = some (.bool true) ∧ w'.cell? ⟨g, N * 4 + 1, none⟩ = some (.int .i64 m.s.id) ∧ w'.cell? ⟨g, N * 4 + 2, none⟩ = some (.slice A1 m.s.lits.length k1') ∧ w'.cell? ⟨g, N * 4 + 3, none⟩ = some (.slice A2 m.s.hints.length k2')) (by kernel_rfl) ⟨b2, d0, d1, d2, d3⟩ (fun hHeld => ?_)
                obtain ⟨wD, hwD⟩ : ∃ x, wc.drew = x := ⟨_, rfl⟩
                have hbD : Below wc.heap.size wc wD := by rw [← hwD]; exact below_drew' wc
                rw [hwD] at hHeld ⊢
                have HZD : Hid (wD.heap.size = bs + 1) := by rw [← hwD]; exact Lib.hid HZ9.out
                clear b0 b1 b2 b3 d0 d1 d2 d3 hwD
                refine takeD 0 81 (v := ?_) rfl (by rfl) (by kernel_rfl) (by kernel_rfl) (by kernel_rfl) (fun _ _ _ h => h) (Or.inl ⟨by rfl, ?_⟩) (by assumption) ?_
                rotate_left
                · intro w hSw
                  obtain ⟨_, _, _, _, _⟩ := hSw
                  go_simp
                  try with_reducible rfl
                simp only [Act.put, List.setIfInBounds_toArray, List.set_cons_zero, List.set_cons_succ]
                refine takeD 1 82 (v := ?_) rfl (by rfl) (by kernel_rfl) (by kernel_rfl) (by kernel_rfl) (fun _ _ _ h => h) (Or.inl ⟨by rfl, ?_⟩) (by assumption) ?_
                rotate_left
                · intro w hSw
                  obtain ⟨_, _, _, _, _⟩ := hSw
                  go_simp
                  try with_reducible rfl
                simp only [Act.put, List.setIfInBounds_toArray, List.set_cons_zero, List.set_cons_succ]
                refine takeD 2 83 (v := ?_) rfl (by rfl) (by kernel_rfl) (by kernel_rfl) (by kernel_rfl) (fun _ _ _ h => h) (Or.inl ⟨by rfl, ?_⟩) (by assumption) ?_
                rotate_left
                · intro w hSw
                  obtain ⟨_, _, _, _, _⟩ := hSw
                  go_simp
                  try with_reducible rfl
                simp only [Act.put, List.setIfInBounds_toArray, List.set_cons_zero, List.set_cons_succ]
                refine takeD 3 84 (v := ?_) rfl (by rfl) (by kernel_rfl) (by kernel_rfl) (by kernel_rfl) (fun _ _ _ h => h) (Or.inl ⟨by rfl, ?_⟩) (by assumption) ?_
                rotate_left
                · intro w hSw
                  obtain ⟨_, _, _, _, _⟩ := hSw
                  go_simp
                  try with_reducible rfl
                simp only [Act.put, List.setIfInBounds_toArray, List.set_cons_zero, List.set_cons_succ]
                refine takeD 4 85 (v := ?_) rfl (by rfl) (by kernel_rfl) (by kernel_rfl) (by kernel_rfl) (fun _ _ _ h => h) (Or.inl ⟨by rfl, ?_⟩) (by assumption) ?_
                rotate_left
                · intro w hSw
                  obtain ⟨_, _, _, _, _⟩ := hSw
                  go_simp
                  try with_reducible rfl
                simp only [Act.put, List.setIfInBounds_toArray, List.set_cons_zero, List.set_cons_succ]
                refine takeD 5 86 (v := ?_) rfl (by rfl) (by kernel_rfl) (by kernel_rfl) (by kernel_rfl) (fun _ _ _ h => h) (Or.inl ⟨by rfl, ?_⟩) (by assumption) ?_
                rotate_left
                · intro w hSw
                  obtain ⟨_, _, _, _, _⟩ := hSw
                  go_simp
                  try with_reducible rfl
                simp only [Act.put, List.setIfInBounds_toArray, List.set_cons_zero, List.set_cons_succ]
                refine takeD 6 87 (v := ?_) rfl (by rfl) (by kernel_rfl) (by kernel_rfl) (by kernel_rfl) (fun _ _ _ h => h) (Or.inl ⟨by rfl, ?_⟩) (by assumption) ?_
                rotate_left
                · intro w hSw
                  obtain ⟨_, _, _, _, _⟩ := hSw
                  go_simp
                  try with_reducible rfl
                simp only [Act.put, List.setIfInBounds_toArray, List.set_cons_zero, List.set_cons_succ]
                refine takeD 7 88 (v := ?_) rfl (by rfl) (by kernel_rfl) (by kernel_rfl) (by kernel_rfl) (fun _ _ _ h => h) (Or.inl ⟨by rfl, ?_⟩) (by assumption) ?_
                rotate_left
                · intro w hSw
                  obtain ⟨_, _, _, _, _⟩ := hSw
                  go_simp
                  try with_reducible rfl
                simp only [Act.put, List.setIfInBounds_toArray, List.set_cons_zero, List.set_cons_succ]
                refine takeD 8 89 (v := ?_) rfl (by rfl) (by kernel_rfl) (by kernel_rfl) (by kernel_rfl) (fun _ _ _ h => h) (Or.inl ⟨by rfl, ?_⟩) (by assumption) ?_
                rotate_left
                · intro w hSw
                  obtain ⟨_, _, _, _, _⟩ := hSw
                  go_simp
                  try with_reducible rfl
                simp only [Act.put, List.setIfInBounds_toArray, List.set_cons_zero, List.set_cons_succ]
                refine takeD 9 90 (v := ?_) rfl (by rfl) (by kernel_rfl) (by kernel_rfl) (by kernel_rfl) (fun _ _ _ h => h) (Or.inl ⟨by rfl, ?_⟩) (by assumption) ?_
                rotate_left
                · intro w hSw
                  obtain ⟨_, _, _, _, _⟩ := hSw
                  go_simp
                  try with_reducible rfl
                simp only [Act.put, List.setIfInBounds_toArray, List.set_cons_zero, List.set_cons_succ]
                refine takeD 10 91 (v := ?_) rfl (by rfl) (by kernel_rfl) (by kernel_rfl) (by kernel_rfl) (fun _ _ _ h => h) (Or.inl ⟨by rfl, ?_⟩) (by assumption) ?_
                rotate_left
                · intro w hSw
                  obtain ⟨_, _, _, _, _⟩ := hSw
                  go_simp
                  try with_reducible rfl
                simp only [Act.put, List.setIfInBounds_toArray, List.set_cons_zero, List.set_cons_succ]
                have hd9 := (hbD.block bs (by have := HZ9.out; omega)).trans HS9.out
                have k0 : wD.cell? ⟨bs, 0, none⟩ = some (.bool true) := cell_of_block (j := 0) hd9
                have k1 : wD.cell? ⟨bs, 1, none⟩ = some (.int .i64 last) := cell_of_block (j := 1) hd9
                have k2 : wD.cell? ⟨bs, 2, none⟩ = some (.slice none 0 0) := cell_of_block (j := 2) hd9
                have k3 : wD.cell? ⟨bs, 3, none⟩ = some (.slice none 0 0) := cell_of_block (j := 3) hd9
                have fk0 := free_of_block (j := 0) hd9
                have fk1 := free_of_block (j := 1) hd9
                have fk2 := free_of_block (j := 2) hd9
                have fk3 := free_of_block (j := 3) hd9
                have HBD := Lib.hid hbD
                have HK9 := Lib.hid hd9
                clear hd9 hbD
                refine wpAnyH_ready (rs := [11]) (by kernel_rfl) (by simp) ?_
                refine AllReadyH.cons rfl (fun K hK => ?_) AllReadyH.nil
                go_simp
                obtain ⟨ws, hws⟩ : ∃ x, ((((wD.setCell ⟨bs, 0, none⟩ (.bool true)).setCell ⟨bs, 1, none⟩ (.int .i64 m.s.id)).setCell ⟨bs, 2, none⟩ (.slice A1 m.s.lits.length k1')).setCell ⟨bs, 3, none⟩ (.slice A2 m.s.hints.length k2')) = x := ⟨_, rfl⟩
                have hks : Kept (fun z => z = bs) wD ws := by rw [← hws]; exact ((((Kept.refl (fun z => z = bs) wD).setCell ⟨bs, 0, none⟩ _ rfl).setCell ⟨bs, 1, none⟩ _ rfl).setCell ⟨bs, 2, none⟩ _ rfl).setCell ⟨bs, 3, none⟩ _ rfl
                have hbs : Below w.heap.size w ws := by rw [← hws]; exact set4_below (HB9.out.trans (HBD.out.mono HB9.out.size)) (by omega) _ _ _ _
                have hs9 : ws.heap[bs]? = some (.cells #[.bool true, .int .i64 m.s.id, .slice A1 m.s.lits.length k1', .slice A2 m.s.hints.length k2'] 98 (0, 0)) := by rw [← hws]; exact block_set (j := 3) (block_set (j := 2) (block_set (j := 1) (block_set (j := 0) HK9.out _) _) _) _
                rw [hws]
                have hzd : wD.heap.size = bs + 1 := by have h1 := HBD.out.size; have h2 := HZ9.out; have h3 := hks.size; exact HZD.out
                have hgl := HG.out
                refine hK.out _ _ ⟨(hks.cell (p := ⟨w.heap.size, 2, none⟩) (by show w.heap.size < wD.heap.size; omega) (by show ¬ w.heap.size = bs; omega)).trans hHeld.1, (hks.cell (p := ⟨g, N * 4, none⟩) (by show g < wD.heap.size; omega) (by show ¬ g = bs; omega)).trans hHeld.2.1, (hks.cell (p := ⟨g, N * 4 + 1, none⟩) (by show g < wD.heap.size; omega) (by show ¬ g = bs; omega)).trans hHeld.2.2.1, (hks.cell (p := ⟨g, N * 4 + 2, none⟩) (by show g < wD.heap.size; omega) (by show ¬ g = bs; omega)).trans hHeld.2.2.2.1, (hks.cell (p := ⟨g, N * 4 + 3, none⟩) (by show g < wD.heap.size; omega) (by show ¬ g = bs; omega)).trans hHeld.2.2.2.2⟩ (fun hHeld1 => ?_)
                have h2s := (hks.block w.heap.size (by omega) (by show ¬ w.heap.size = bs; omega)).trans ((HBD.out.block w.heap.size (by have := HZ9.out; omega)).trans H92.out)
                have h3s := (hks.block (w.heap.size + 1) (by omega) (by show ¬ w.heap.size + 1 = bs; omega)).trans ((HBD.out.block (w.heap.size + 1) (by have := HZ9.out; omega)).trans H93.out)
                have hts := (HT9.out.below HBD.out).kept hks (fun z hz e => by have := hz.2; omega)
                · have H2S := Lib.hid h2s
                  have H3S := Lib.hid h3s
                  have HTS := Lib.hid hts
                  have HSS := Lib.hid hs9
                  have HBS := Lib.hid hbs
                  have hzs := hks.size
                  have HZS := Lib.hid (show bs < ws.heap.size by omega)
                  clear hK hHeld k0 k1 k2 k3 fk0 fk1 fk2 fk3 hws hks h2s h3s hts hs9 hbs hzd hzs
                  refine takeD 12 13 (v := ?_) rfl (by rfl) (by kernel_rfl) (by kernel_rfl) (by kernel_rfl) (fun _ _ _ h => h) (Or.inl ⟨by rfl, ?_⟩) (by assumption) ?_
                  rotate_left
                  · intro w hSw
                    obtain ⟨_, _, _, _, _⟩ := hSw
                    go_simp
                    try with_reducible rfl
                  simp only [Act.put, List.setIfInBounds_toArray, List.set_cons_zero, List.set_cons_succ]
                  refine wpAnyH_done (by kernel_rfl) ?_ _
                  clear hHeld1
                  go_wp2_with fail
                  go_meet
                  exact ⟨N, m.s.id, _, _, m.s.lits, m.s.hints, rfl, Nat.le_succ _, HSS, H2S, H3S, Lib.hid HX3.out.1, Lib.hid HX3.out.2, HTS, HBS, HZS, HJI⟩
            case rest =>
              obtain ⟨N, id, lv, hv, lits, hints, rfl, hNZ, HS1, HC2, HC3, HL1, HH1, HT1, HCB, HZ1, HJ1⟩ := hcut
              obtain ⟨A1, c1, e1', hle1, y1, y2⟩ := HL1.out
              subst e1'
              clear y1 y2
              obtain ⟨A2, c2, e2', hle2, y1, y2⟩ := HH1.out
              subst e2'
              clear y1 y2
              have hsm := join_hints HJ1.out HSH.out (by omega)
              have hn2 : N < 262144 := by have := HMS.out; have := HST.out; omega
              have q98 : decide ((65536 : Int) < (hints.length : Int) + (ids.length : Int)) = false := by simp; omega
              have q102 : decide ((262144 : Int) ≤ (N : Int)) = false := by simp; omega
              clear b0 b1 b2 b3
              have k3 : wc.cell? ⟨bs, 3, none⟩ = some (.slice A2 hints.length c2) := cell_of_block (j := 3) HS1.out
              go_upto_region 27 with fail
              have q104 := below_al wc (.cells #[] 3)
              have hsr := (HH1.out.below (HCB.out.trans (q104.mono HCB.out.size))).src
              have HSR := Lib.hid hsr
              have k3a : (wc.alloc (.cells #[] 3)).cell? ⟨bs, 3, none⟩ = some (.slice A2 hints.length c2) := (q104.cell (p := ⟨bs, 3, none⟩) HZ1.out).trans k3
              have HQ4 := Lib.hid q104
              clear q104 hsr
              go_wp2_with (first | (at_builtin; refine wpList_append_any rfl _ _ 26 rfl wc.heap.size 3 i0 (.int .i64 0) 1 8 Tryd.underlying26 hi0 hz0 hz1 hz2 rfl (by decide) _ hints.length _ rfl HOWN.out (.slice Ai ids.length ki) ids.length (ids.map (Value.int .i64)) rfl HSI.out (by simp) (by simp [Value.oneCell']) (by unfold maxLen; omega) (by omega) hz1s ?_; intro v' w2 hown hgrow hat; obtain ⟨Ah, kh, hv2, _⟩ := own_slice hown; subst hv2; have HOWN2 := Lib.hid hown; have HG2 := Lib.hid hgrow; clear hown hgrow hat; have hb2 : Below wc.heap.size wc w2 := HB1.out.grown HG2.out hz1s (fun g hg => (own_lt HOWN.out g hg).1); have HB2B := Lib.hid hb2; have k2s := (hb2.block bs HZ1.out).trans HS1.out; have k3 : w2.cell? ⟨bs, 3, none⟩ = some (.slice A2 hints.length c2) := cell_of_block (j := 3) k2s; have fk3 := free_of_block (j := 3) k2s; have HK2 := Lib.hid k2s; clear k2s hb2) | (at_builtin; refine wpList_append_any rfl _ _ 26 rfl wc.heap.size 3 i0 (.int .i64 0) 1 8 Tryd.underlying26 hi0 hz0 hz1 hz2 rfl (by decide) _ 0 _ rfl (own_empty wc wc.heap.size 3 1 (Nat.le_refl _)) (.slice A2 hints.length c2) hints.length (hints.map (Value.int .i64)) rfl HSR.out (by simp) (by simp [Value.oneCell']) (by unfold maxLen; omega) (by omega) (by simp) ?_; intro v' w1 hown hgrow hat; rw [Nat.zero_add, List.nil_append] at hown; obtain ⟨Aw, kw, hv2, _⟩ := own_slice hown; subst hv2; have HOWN := Lib.hid hown; have hb1 : Below wc.heap.size wc w1 := HQ4.out.grown hgrow (by simp) (fun g hg => by have hg' : some wc.heap.size = some g := hg; exact Nat.le_of_eq (Option.some.inj hg')); have HB1 := Lib.hid hb1; have hz1s : wc.heap.size ≤ w1.heap.size := hb1.size; have HSI := Lib.hid ((HI.out.below (HCB.out.trans (hb1.mono HCB.out.size))).src); clear hown hgrow hat k3 k3a HQ4 HSR hb1))
              clear k3 fk3 q98 q102 HB1 HOWN HSI HG2 HH1 hz1s
              obtain ⟨L, hL⟩ : ∃ L, hints.length + ids.length = L := ⟨_, rfl⟩
              rw [hL] at HOWN2 hsm ⊢
              have HLL := Lib.hid hL
              clear hL
              obtain ⟨wh, hwh⟩ : ∃ x, w2.setCell ⟨bs, 3, none⟩ (.slice Ah L kh) = x := ⟨_, rfl⟩
              have hz1 := HZ1.out
              have hz2s := HB2B.out.size
              have hk2 : Kept (fun z => z = bs) w2 wh := by rw [← hwh]; exact (Kept.refl (fun z => z = bs) w2).setCell ⟨bs, 3, none⟩ _ rfl
              have hsh : wh.heap[bs]? = some (.cells #[.bool true, .int .i64 id, .slice A1 lits.length c1, .slice Ah L kh] 98 (0, 0)) := by rw [← hwh]; exact block_set (j := 3) HK2.out _
              have hh2 := (hk2.block w.heap.size (by omega) (by show ¬ w.heap.size = bs; omega)).trans ((HB2B.out.block w.heap.size (by omega)).trans HC2.out)
              have hh3 := (hk2.block (w.heap.size + 1) (by omega) (by show ¬ w.heap.size + 1 = bs; omega)).trans ((HB2B.out.block (w.heap.size + 1) (by omega)).trans HC3.out)
              have hbh : Below w.heap.size w wh := by rw [← hwh]; exact (HCB.out.trans (HB2B.out.mono HCB.out.size)).setCell (p := ⟨bs, 3, none⟩) (by show w.heap.size ≤ bs; omega) _
              have hth2 := ((HT1.out.below HB2B.out).kept hk2 (fun z hz e => by have := hz.2; omega)).mono (fun z hz => hz.1)
              have hrow := own_kept HOWN2.out hk2 (fun g hg e => by have := (own_lt HOWN2.out g hg).1; omega)
              have hhx : IntsIn (fun g => w.heap.size + 2 ≤ g) wh (.slice Ah L kh) (hints ++ ids) := (IntsIn.of_own (base := wc.heap.size) (e := 3) (xs := hints ++ ids) (by
                rw [List.length_append, HLL.out, List.map_append]
                exact hrow)).mono (fun g hg => by have := hg.1; omega)
              have hzh : w.heap.size + 2 ≤ wh.heap.size := by have := hk2.size; omega
              rw [hwh]
              have HW2 := Lib.hid hh2
              have HW3 := Lib.hid hh3
              have HWB2 := Lib.hid hbh
              have HWT := Lib.hid hth2
              have HWH := Lib.hid hhx
              have HWS := Lib.hid hsh
              clear hwh hk2 hsh hh2 hh3 hbh hth2 hrow hhx hz1 hz2s HK2 HOWN2 HB2B HC2 HC3 HT1 HCB HZ1 HS1
              clear hi0 hz0 hz1 hz2
              clear i0
              obtain ⟨i0, hi, hz0, hz1, hz2⟩ := info_parts info_rstep
              go_cut [111] (fun _ wx => ∃ (Ax : Option Addr) (kx : Nat), Hid (wx.heap[w.heap.size]? = some (.cells #[.slice A there.length k, .int .i64 last, .slice Ax (N + 1) kx, .bool false] 62 (0, 0))) ∧ Hid (wx.heap[w.heap.size + 1]? = some (.cells #[.slice none 0 0, .int .i64 0, .slice none 0 0, .bool false] 62 (0, 0))) ∧ Hid (wx.ownsRow (w.heap.size + 2) 98 4 (.slice Ax (N + 1) kx) (N + 1) ((ms.take N).flatMap MStep.cells ++ [.bool true, .int .i64 id, .slice A1 lits.length c1, .slice Ah L kh])) ∧ Hid (IntsIn (fun g => w.heap.size + 2 ≤ g) wx (.slice Ah L kh) (hints ++ ids)) ∧ Hid (IntsIn (fun g => O g ∧ g < w.heap.size ∨ w.heap.size + 2 ≤ g) wx (.slice A7 T.length c7) T) ∧ Hid (Below w.heap.size w wx) ∧ w.heap.size + 2 ≤ wx.heap.size)
              case first =>
                have c0 : wh.cell? ⟨bs, 0, none⟩ = some (.bool true) := cell_of_block (j := 0) HWS.out
                have c1' : wh.cell? ⟨bs, 1, none⟩ = some (.int .i64 id) := cell_of_block (j := 1) HWS.out
                have c2' : wh.cell? ⟨bs, 2, none⟩ = some (.slice A1 lits.length c1) := cell_of_block (j := 2) HWS.out
                have c3 : wh.cell? ⟨bs, 3, none⟩ = some (.slice Ah L kh) := cell_of_block (j := 3) HWS.out
                have hbsz : bs < wh.heap.size := heap_lt HWS.out
                refine wp_region_sink_at (S := fun w' => w'.cell? ⟨bs, 0, none⟩ = some (.bool true) ∧ w'.cell? ⟨bs, 1, none⟩ = some (.int .i64 id) ∧ w'.cell? ⟨bs, 2, none⟩ = some (.slice A1 lits.length c1) ∧ w'.cell? ⟨bs, 3, none⟩ = some (.slice Ah L kh)) (by kernel_rfl) rfl (by kernel_rfl) ⟨c0, c1', c2', c3⟩ (fun hHeld => ?_)
                obtain ⟨wD, hwD⟩ : ∃ x, wh.drew = x := ⟨_, rfl⟩
                have hbD : Below wh.heap.size wh wD := by rw [← hwD]; exact below_drew' wh
                rw [hwD] at hHeld ⊢
                have hzD : wD.heap.size = wh.heap.size := by rw [← hwD]; rfl
                refine takeD 1 112 (v := ?_) rfl (by rfl) (by kernel_rfl) (by kernel_rfl) (by kernel_rfl) (fun _ _ _ h => h) (Or.inl ⟨by rfl, ?_⟩) (by assumption) ?_
                rotate_left
                · intro w hSw
                  obtain ⟨_, _, _, _⟩ := hSw
                  go_simp
                  try with_reducible rfl
                simp only [Act.put, List.setIfInBounds_toArray, List.set_cons_zero, List.set_cons_succ]
                refine takeD 3 114 (v := ?_) rfl (by rfl) (by kernel_rfl) (by kernel_rfl) (by kernel_rfl) (fun _ _ _ h => h) (Or.inl ⟨by rfl, ?_⟩) (by assumption) ?_
                rotate_left
                · intro w hSw
                  obtain ⟨_, _, _, _⟩ := hSw
                  go_simp
                  try with_reducible rfl
                simp only [Act.put, List.setIfInBounds_toArray, List.set_cons_zero, List.set_cons_succ]
                have HT := Lib.hid (rsteps_src_take (HS.out.kept (O' := fun _ => False) (Kept.of_below (HWB2.out.trans (hbD.mono HWB2.out.size))) (fun _ _ h => h)) HZ.out hNZ)
                have hss : ∀ x, Below wD.heap.size wD x → x.cell? ⟨bs, 0, none⟩ = some (.bool true) ∧ x.cell? ⟨bs, 1, none⟩ = some (.int .i64 id) ∧ x.cell? ⟨bs, 2, none⟩ = some (.slice A1 lits.length c1) ∧ x.cell? ⟨bs, 3, none⟩ = some (.slice Ah L kh) := fun x hx => ⟨(hx.cell (p := ⟨bs, 0, none⟩) (by show bs < wD.heap.size; omega)).trans hHeld.1, (hx.cell (p := ⟨bs, 1, none⟩) (by show bs < wD.heap.size; omega)).trans hHeld.2.1, (hx.cell (p := ⟨bs, 2, none⟩) (by show bs < wD.heap.size; omega)).trans hHeld.2.2.1, (hx.cell (p := ⟨bs, 3, none⟩) (by show bs < wD.heap.size; omega)).trans hHeld.2.2.2⟩
                have HSS := Lib.hid hss
                have HBwD := Lib.hid (Below.refl wD.heap.size wD)
                have HZD := Lib.hid hzD
                have HBD := Lib.hid hbD
                clear hss hHeld hbD hzD c0 c1' c2' c3 hwD
                refine wpAnyH_ready (rs := [0, 4]) (by kernel_rfl) (by simp) ?_
                refine AllReadyH.cons rfl (fun K hK => ?_) (AllReadyH.cons rfl (fun K hK => ?_) AllReadyH.nil)
                · -- the empty one first
                  go_simp
                  obtain ⟨x1, hwx1⟩ : ∃ x, wD.alloc (.cells #[] 98) = x := ⟨_, rfl⟩
                  have hbn : Below wD.heap.size wD x1 := by rw [← hwx1]; exact below_al _ _
                  have hon := own_empty wD wD.heap.size 98 4 HBwD.out.size
                  have hszx1 : x1.heap.size = wD.heap.size + 1 := by rw [← hwx1]; simp
                  rw [hwx1] at hon
                  rw [hwx1]
                  have HBx1 := Lib.hid (HBwD.out.trans (hbn.mono HBwD.out.size))
                  have HO := Lib.hid hon
                  have HT := Lib.hid (HT.out.below hbn)
                  have HZx1 := Lib.hid hszx1
                  clear hbn hon hwx1 hszx1
                  refine hK.out _ _ (HSS.out _ HBx1.out) (fun hHeldx1 => ?_)
                  clear hK
                  refine wpAnyH_ready (rs := [2, 4]) (by kernel_rfl) (by simp) ?_
                  refine AllReadyH.cons rfl (fun K hK => ?_) (AllReadyH.cons rfl (fun K hK => ?_) AllReadyH.nil)
                  · -- then the append
                    rw [if_pos (by rfl)]
                    refine wp_append_any_at 113 (by rfl) _ _ 60 rfl wD.heap.size 98 i0 (.agg #[.bool false, .int .i64 0, .slice none 0 0, .slice none 0 0]) 4 64 Tryd.underlying60 hi hz0 hz1 hz2 rfl (by decide) _ 0 _ (by rfl) HO.out (.slice As N cs) N ((ms.take N).flatMap MStep.cells) (by rfl) HT.out (cells_take_len ms N Z HZ.out hNZ) (rsteps_one_take HS.out N) (by unfold maxLen; omega) (by omega) HBx1.out.size ?_
                    intro v' x2 hown hgrow hat
                    rw [Nat.zero_add, List.nil_append] at hown
                    obtain ⟨Av, kv, rfl, _⟩ := own_slice hown
                    have HBx2 := Lib.hid (HBx1.out.grown hgrow HBx1.out.size (fun g hg => (own_lt HO.out g hg).1))
                    have HO := Lib.hid hown
                    clear hown hgrow hat
                    refine hK.out _ _ (HSS.out _ HBx2.out) (fun hHeldx2 => ?_)
                    clear hK
                    refine wpAnyH_ready (rs := [4]) (by kernel_rfl) (by simp) ?_
                    refine AllReadyH.cons rfl (fun K hK => ?_) AllReadyH.nil
                    go_simp
                    obtain ⟨x3, hwx3⟩ : ∃ x, x2.alloc (.cells #[.bool true, .int .i64 id, .slice A1 lits.length c1, .slice Ah L kh] 98) = x := ⟨_, rfl⟩
                    have hbn : Below x2.heap.size x2 x3 := by rw [← hwx3]; exact below_al _ _
                    have hnn := src_new x2 98 [.bool true, .int .i64 id, .slice A1 lits.length c1, .slice Ah L kh]
                    have hszx3 : x3.heap.size = x2.heap.size + 1 := by rw [← hwx3]; simp
                    rw [hwx3] at hnn
                    rw [hwx3]
                    have HBx3 := Lib.hid (HBx2.out.trans (hbn.mono HBx2.out.size))
                    have HN := Lib.hid hnn
                    have HO := Lib.hid (own_below HO.out hbn)
                    have HZx3 := Lib.hid hszx3
                    clear hbn hnn hwx3 hszx3
                    refine hK.out _ _ (HSS.out _ HBx3.out) (fun hHeldx3 => ?_)
                    clear hK
                    refine wpAnyH_ready (rs := [5]) (by kernel_rfl) (by simp) ?_
                    refine AllReadyH.cons rfl (fun K hK => ?_) AllReadyH.nil
                    rw [if_pos (by rfl)]
                    refine wp_append_any_at 116 (by rfl) _ _ 60 rfl wD.heap.size 98 i0 (.agg #[.bool false, .int .i64 0, .slice none 0 0, .slice none 0 0]) 4 64 Tryd.underlying60 hi hz0 hz1 hz2 rfl (by decide) _ N _ (by rfl) HO.out (.slice (some ⟨x2.heap.size, 0, none⟩) 1 1) 1 [.bool true, .int .i64 id, .slice A1 lits.length c1, .slice Ah L kh] (by rfl) HN.out rfl (by simp [Value.oneCell']) (by unfold maxLen; omega) (by omega) HBx3.out.size ?_
                    intro v' x4 hown hgrow hat
                    obtain ⟨Ax, kx, rfl, _⟩ := own_slice hown
                    have HBx4 := Lib.hid (HBx3.out.grown hgrow HBx3.out.size (fun g hg => (own_lt HO.out g hg).1))
                    have HOX := Lib.hid hown
                    clear hown hgrow hat
                    refine hK.out _ _ (HSS.out _ HBx4.out) (fun hHeldx4 => ?_)
                    clear hK
                    refine takeD 6 117 (v := ?_) rfl (by rfl) (by kernel_rfl) (by kernel_rfl) (by kernel_rfl) (fun _ _ _ h => h) (Or.inl ⟨by rfl, ?_⟩) (by assumption) ?_
                    rotate_left
                    · intro w hSw
                      obtain ⟨_, _, _, _⟩ := hSw
                      go_simp
                      try with_reducible rfl
                    simp only [Act.put, List.setIfInBounds_toArray, List.set_cons_zero, List.set_cons_succ]
                    refine wpAnyH_done (by kernel_rfl) ?_ _
                    refine lastPost_normal ?_
                    have hblk := (HBx4.out.block w.heap.size (by have := HZD.out; omega)).trans ((HBD.out.block w.heap.size (by omega)).trans HW2.out)
                    have hblk1 := (HBx4.out.block (w.heap.size + 1) (by have := HZD.out; omega)).trans ((HBD.out.block (w.heap.size + 1) (by omega)).trans HW3.out)
                    have fr2 := free_of_block (j := 2) hblk
                    have cr2 : x4.cell? ⟨w.heap.size, 2, none⟩ = some (.slice As Z cs) := cell_of_block (j := 2) hblk
                    obtain ⟨z0, z1, z2, z3⟩ := hHeldx4
                    have HBLK := Lib.hid hblk
                    have HBLK1 := Lib.hid hblk1
                    clear hblk hblk1
                    refine wpOp_step rfl (fun K hK => ?_)
                    go_simp
                    refine hK _ _ ?_
                    clear hK
                    have hzw := HBx4.out.size
                    have hzd := HZD.out
                    have h1 := block_set HBLK.out (.slice Ax (N + 1) kx) (j := 2)
                    have h2 : (x4.setCell ⟨w.heap.size, 2, none⟩ (.slice Ax (N + 1) kx)).heap[w.heap.size + 1]? = _ := (Below.heap_setCell _ _ _ _ (by simp)).trans HBLK1.out
                    have hks : Kept (fun g => g = w.heap.size) x4 (x4.setCell ⟨w.heap.size, 2, none⟩ (.slice Ax (N + 1) kx)) := (Kept.refl (fun g => g = w.heap.size) x4).setCell ⟨w.heap.size, 2, none⟩ _ rfl
                    have hbw : Below wh.heap.size wh x4 := HBD.out.trans (HBx4.out.mono HBD.out.size)
                    have h3 := (HWH.out.below hbw).kept hks (fun z hz e => by omega)
                    have h6 := (HWT.out.below hbw).kept hks (fun z hz e => by omega)
                    have h5 := own_mono (base' := w.heap.size + 2) (own_kept (O := fun g => g = w.heap.size) HOX.out hks (fun g hg e => by have := (own_lt HOX.out g hg).1; omega)) (by omega)
                    have h4 := (HWB2.out.trans (hbw.mono HWB2.out.size)).setCell (p := ⟨w.heap.size, 2, none⟩) (Nat.le_refl _) (.slice Ax (N + 1) kx)
                    go_wp2_with fail
                    go_meet
                    exact ⟨Ax, kx, Lib.hid h1, Lib.hid h2, Lib.hid h5, Lib.hid h3, Lib.hid h6, Lib.hid h4, by simp [World.setCell]; omega⟩
                  · -- then the new one
                    go_simp
                    obtain ⟨x2, hwx2⟩ : ∃ x, x1.alloc (.cells #[.bool true, .int .i64 id, .slice A1 lits.length c1, .slice Ah L kh] 98) = x := ⟨_, rfl⟩
                    have hbn : Below x1.heap.size x1 x2 := by rw [← hwx2]; exact below_al _ _
                    have hnn := src_new x1 98 [.bool true, .int .i64 id, .slice A1 lits.length c1, .slice Ah L kh]
                    have hszx2 : x2.heap.size = x1.heap.size + 1 := by rw [← hwx2]; simp
                    rw [hwx2] at hnn
                    rw [hwx2]
                    have HBx2 := Lib.hid (HBx1.out.trans (hbn.mono HBx1.out.size))
                    have HN := Lib.hid hnn
                    have HO := Lib.hid (own_below HO.out hbn)
                    have HT := Lib.hid (HT.out.below hbn)
                    have HZx2 := Lib.hid hszx2
                    clear hbn hnn hwx2 hszx2
                    refine hK.out _ _ (HSS.out _ HBx2.out) (fun hHeldx2 => ?_)
                    clear hK
                    refine wpAnyH_ready (rs := [2]) (by kernel_rfl) (by simp) ?_
                    refine AllReadyH.cons rfl (fun K hK => ?_) AllReadyH.nil
                    rw [if_pos (by rfl)]
                    refine wp_append_any_at 113 (by rfl) _ _ 60 rfl wD.heap.size 98 i0 (.agg #[.bool false, .int .i64 0, .slice none 0 0, .slice none 0 0]) 4 64 Tryd.underlying60 hi hz0 hz1 hz2 rfl (by decide) _ 0 _ (by rfl) HO.out (.slice As N cs) N ((ms.take N).flatMap MStep.cells) (by rfl) HT.out (cells_take_len ms N Z HZ.out hNZ) (rsteps_one_take HS.out N) (by unfold maxLen; omega) (by omega) HBx2.out.size ?_
                    intro v' x3 hown hgrow hat
                    rw [Nat.zero_add, List.nil_append] at hown
                    obtain ⟨Av, kv, rfl, _⟩ := own_slice hown
                    have HBx3 := Lib.hid (HBx2.out.grown hgrow HBx2.out.size (fun g hg => (own_lt HO.out g hg).1))
                    have HN := Lib.hid (src_grown HN.out hgrow (by have := HZx1.out; simp [Value.ownBlock]; omega))
                    have HO := Lib.hid hown
                    clear hown hgrow hat
                    refine hK.out _ _ (HSS.out _ HBx3.out) (fun hHeldx3 => ?_)
                    clear hK
                    refine wpAnyH_ready (rs := [5]) (by kernel_rfl) (by simp) ?_
                    refine AllReadyH.cons rfl (fun K hK => ?_) AllReadyH.nil
                    rw [if_pos (by rfl)]
                    refine wp_append_any_at 116 (by rfl) _ _ 60 rfl wD.heap.size 98 i0 (.agg #[.bool false, .int .i64 0, .slice none 0 0, .slice none 0 0]) 4 64 Tryd.underlying60 hi hz0 hz1 hz2 rfl (by decide) _ N _ (by rfl) HO.out (.slice (some ⟨x1.heap.size, 0, none⟩) 1 1) 1 [.bool true, .int .i64 id, .slice A1 lits.length c1, .slice Ah L kh] (by rfl) HN.out rfl (by simp [Value.oneCell']) (by unfold maxLen; omega) (by omega) HBx3.out.size ?_
                    intro v' x4 hown hgrow hat
                    obtain ⟨Ax, kx, rfl, _⟩ := own_slice hown
                    have HBx4 := Lib.hid (HBx3.out.grown hgrow HBx3.out.size (fun g hg => (own_lt HO.out g hg).1))
                    have HOX := Lib.hid hown
                    clear hown hgrow hat
                    refine hK.out _ _ (HSS.out _ HBx4.out) (fun hHeldx4 => ?_)
                    clear hK
                    refine takeD 6 117 (v := ?_) rfl (by rfl) (by kernel_rfl) (by kernel_rfl) (by kernel_rfl) (fun _ _ _ h => h) (Or.inl ⟨by rfl, ?_⟩) (by assumption) ?_
                    rotate_left
                    · intro w hSw
                      obtain ⟨_, _, _, _⟩ := hSw
                      go_simp
                      try with_reducible rfl
                    simp only [Act.put, List.setIfInBounds_toArray, List.set_cons_zero, List.set_cons_succ]
                    refine wpAnyH_done (by kernel_rfl) ?_ _
                    refine lastPost_normal ?_
                    have hblk := (HBx4.out.block w.heap.size (by have := HZD.out; omega)).trans ((HBD.out.block w.heap.size (by omega)).trans HW2.out)
                    have hblk1 := (HBx4.out.block (w.heap.size + 1) (by have := HZD.out; omega)).trans ((HBD.out.block (w.heap.size + 1) (by omega)).trans HW3.out)
                    have fr2 := free_of_block (j := 2) hblk
                    have cr2 : x4.cell? ⟨w.heap.size, 2, none⟩ = some (.slice As Z cs) := cell_of_block (j := 2) hblk
                    obtain ⟨z0, z1, z2, z3⟩ := hHeldx4
                    have HBLK := Lib.hid hblk
                    have HBLK1 := Lib.hid hblk1
                    clear hblk hblk1
                    refine wpOp_step rfl (fun K hK => ?_)
                    go_simp
                    refine hK _ _ ?_
                    clear hK
                    have hzw := HBx4.out.size
                    have hzd := HZD.out
                    have h1 := block_set HBLK.out (.slice Ax (N + 1) kx) (j := 2)
                    have h2 : (x4.setCell ⟨w.heap.size, 2, none⟩ (.slice Ax (N + 1) kx)).heap[w.heap.size + 1]? = _ := (Below.heap_setCell _ _ _ _ (by simp)).trans HBLK1.out
                    have hks : Kept (fun g => g = w.heap.size) x4 (x4.setCell ⟨w.heap.size, 2, none⟩ (.slice Ax (N + 1) kx)) := (Kept.refl (fun g => g = w.heap.size) x4).setCell ⟨w.heap.size, 2, none⟩ _ rfl
                    have hbw : Below wh.heap.size wh x4 := HBD.out.trans (HBx4.out.mono HBD.out.size)
                    have h3 := (HWH.out.below hbw).kept hks (fun z hz e => by omega)
                    have h6 := (HWT.out.below hbw).kept hks (fun z hz e => by omega)
                    have h5 := own_mono (base' := w.heap.size + 2) (own_kept (O := fun g => g = w.heap.size) HOX.out hks (fun g hg e => by have := (own_lt HOX.out g hg).1; omega)) (by omega)
                    have h4 := (HWB2.out.trans (hbw.mono HWB2.out.size)).setCell (p := ⟨w.heap.size, 2, none⟩) (Nat.le_refl _) (.slice Ax (N + 1) kx)
                    go_wp2_with fail
                    go_meet
                    exact ⟨Ax, kx, Lib.hid h1, Lib.hid h2, Lib.hid h5, Lib.hid h3, Lib.hid h6, Lib.hid h4, by simp [World.setCell]; omega⟩
                · -- the new one first
                  go_simp
                  obtain ⟨x1, hwx1⟩ : ∃ x, wD.alloc (.cells #[.bool true, .int .i64 id, .slice A1 lits.length c1, .slice Ah L kh] 98) = x := ⟨_, rfl⟩
                  have hbn : Below wD.heap.size wD x1 := by rw [← hwx1]; exact below_al _ _
                  have hnn := src_new wD 98 [.bool true, .int .i64 id, .slice A1 lits.length c1, .slice Ah L kh]
                  have hszx1 : x1.heap.size = wD.heap.size + 1 := by rw [← hwx1]; simp
                  rw [hwx1] at hnn
                  rw [hwx1]
                  have HBx1 := Lib.hid (HBwD.out.trans (hbn.mono HBwD.out.size))
                  have HN := Lib.hid hnn
                  have HT := Lib.hid (HT.out.below hbn)
                  have HZx1 := Lib.hid hszx1
                  clear hbn hnn hwx1 hszx1
                  refine hK.out _ _ (HSS.out _ HBx1.out) (fun hHeldx1 => ?_)
                  clear hK
                  refine wpAnyH_ready (rs := [0]) (by kernel_rfl) (by simp) ?_
                  refine AllReadyH.cons rfl (fun K hK => ?_) AllReadyH.nil
                  go_simp
                  obtain ⟨x2, hwx2⟩ : ∃ x, x1.alloc (.cells #[] 98) = x := ⟨_, rfl⟩
                  have hbn : Below x1.heap.size x1 x2 := by rw [← hwx2]; exact below_al _ _
                  have hon := own_empty x1 wD.heap.size 98 4 HBx1.out.size
                  have hszx2 : x2.heap.size = x1.heap.size + 1 := by rw [← hwx2]; simp
                  rw [hwx2] at hon
                  rw [hwx2]
                  have HBx2 := Lib.hid (HBx1.out.trans (hbn.mono HBx1.out.size))
                  have HO := Lib.hid hon
                  have HT := Lib.hid (HT.out.below hbn)
                  have HN := Lib.hid (HN.out.below hbn)
                  have HZx2 := Lib.hid hszx2
                  clear hbn hon hwx2 hszx2
                  refine hK.out _ _ (HSS.out _ HBx2.out) (fun hHeldx2 => ?_)
                  clear hK
                  refine wpAnyH_ready (rs := [2]) (by kernel_rfl) (by simp) ?_
                  refine AllReadyH.cons rfl (fun K hK => ?_) AllReadyH.nil
                  rw [if_pos (by rfl)]
                  refine wp_append_any_at 113 (by rfl) _ _ 60 rfl wD.heap.size 98 i0 (.agg #[.bool false, .int .i64 0, .slice none 0 0, .slice none 0 0]) 4 64 Tryd.underlying60 hi hz0 hz1 hz2 rfl (by decide) _ 0 _ (by rfl) HO.out (.slice As N cs) N ((ms.take N).flatMap MStep.cells) (by rfl) HT.out (cells_take_len ms N Z HZ.out hNZ) (rsteps_one_take HS.out N) (by unfold maxLen; omega) (by omega) HBx2.out.size ?_
                  intro v' x3 hown hgrow hat
                  rw [Nat.zero_add, List.nil_append] at hown
                  obtain ⟨Av, kv, rfl, _⟩ := own_slice hown
                  have HBx3 := Lib.hid (HBx2.out.grown hgrow HBx2.out.size (fun g hg => (own_lt HO.out g hg).1))
                  have HN := Lib.hid (src_grown HN.out hgrow (by have := HZx1.out; simp [Value.ownBlock]; omega))
                  have HO := Lib.hid hown
                  clear hown hgrow hat
                  refine hK.out _ _ (HSS.out _ HBx3.out) (fun hHeldx3 => ?_)
                  clear hK
                  refine wpAnyH_ready (rs := [5]) (by kernel_rfl) (by simp) ?_
                  refine AllReadyH.cons rfl (fun K hK => ?_) AllReadyH.nil
                  rw [if_pos (by rfl)]
                  refine wp_append_any_at 116 (by rfl) _ _ 60 rfl wD.heap.size 98 i0 (.agg #[.bool false, .int .i64 0, .slice none 0 0, .slice none 0 0]) 4 64 Tryd.underlying60 hi hz0 hz1 hz2 rfl (by decide) _ N _ (by rfl) HO.out (.slice (some ⟨wD.heap.size, 0, none⟩) 1 1) 1 [.bool true, .int .i64 id, .slice A1 lits.length c1, .slice Ah L kh] (by rfl) HN.out rfl (by simp [Value.oneCell']) (by unfold maxLen; omega) (by omega) HBx3.out.size ?_
                  intro v' x4 hown hgrow hat
                  obtain ⟨Ax, kx, rfl, _⟩ := own_slice hown
                  have HBx4 := Lib.hid (HBx3.out.grown hgrow HBx3.out.size (fun g hg => (own_lt HO.out g hg).1))
                  have HOX := Lib.hid hown
                  clear hown hgrow hat
                  refine hK.out _ _ (HSS.out _ HBx4.out) (fun hHeldx4 => ?_)
                  clear hK
                  refine takeD 6 117 (v := ?_) rfl (by rfl) (by kernel_rfl) (by kernel_rfl) (by kernel_rfl) (fun _ _ _ h => h) (Or.inl ⟨by rfl, ?_⟩) (by assumption) ?_
                  rotate_left
                  · intro w hSw
                    obtain ⟨_, _, _, _⟩ := hSw
                    go_simp
                    try with_reducible rfl
                  simp only [Act.put, List.setIfInBounds_toArray, List.set_cons_zero, List.set_cons_succ]
                  refine wpAnyH_done (by kernel_rfl) ?_ _
                  refine lastPost_normal ?_
                  have hblk := (HBx4.out.block w.heap.size (by have := HZD.out; omega)).trans ((HBD.out.block w.heap.size (by omega)).trans HW2.out)
                  have hblk1 := (HBx4.out.block (w.heap.size + 1) (by have := HZD.out; omega)).trans ((HBD.out.block (w.heap.size + 1) (by omega)).trans HW3.out)
                  have fr2 := free_of_block (j := 2) hblk
                  have cr2 : x4.cell? ⟨w.heap.size, 2, none⟩ = some (.slice As Z cs) := cell_of_block (j := 2) hblk
                  obtain ⟨z0, z1, z2, z3⟩ := hHeldx4
                  have HBLK := Lib.hid hblk
                  have HBLK1 := Lib.hid hblk1
                  clear hblk hblk1
                  refine wpOp_step rfl (fun K hK => ?_)
                  go_simp
                  refine hK _ _ ?_
                  clear hK
                  have hzw := HBx4.out.size
                  have hzd := HZD.out
                  have h1 := block_set HBLK.out (.slice Ax (N + 1) kx) (j := 2)
                  have h2 : (x4.setCell ⟨w.heap.size, 2, none⟩ (.slice Ax (N + 1) kx)).heap[w.heap.size + 1]? = _ := (Below.heap_setCell _ _ _ _ (by simp)).trans HBLK1.out
                  have hks : Kept (fun g => g = w.heap.size) x4 (x4.setCell ⟨w.heap.size, 2, none⟩ (.slice Ax (N + 1) kx)) := (Kept.refl (fun g => g = w.heap.size) x4).setCell ⟨w.heap.size, 2, none⟩ _ rfl
                  have hbw : Below wh.heap.size wh x4 := HBD.out.trans (HBx4.out.mono HBD.out.size)
                  have h3 := (HWH.out.below hbw).kept hks (fun z hz e => by omega)
                  have h6 := (HWT.out.below hbw).kept hks (fun z hz e => by omega)
                  have h5 := own_mono (base' := w.heap.size + 2) (own_kept (O := fun g => g = w.heap.size) HOX.out hks (fun g hg e => by have := (own_lt HOX.out g hg).1; omega)) (by omega)
                  have h4 := (HWB2.out.trans (hbw.mono HWB2.out.size)).setCell (p := ⟨w.heap.size, 2, none⟩) (Nat.le_refl _) (.slice Ax (N + 1) kx)
                  go_wp2_with fail
                  go_meet
                  exact ⟨Ax, kx, Lib.hid h1, Lib.hid h2, Lib.hid h5, Lib.hid h3, Lib.hid h6, Lib.hid h4, by simp [World.setCell]; omega⟩
              case rest =>
                obtain ⟨Ax, kx, HD2, HD3, HDO, HDH, HDT, HDB, hzd⟩ := hcut
                clear HW2 HW3 HWB2 HWT HWH HWS
                clear hi hz0 hz1 hz2
                clear i0
                have b0 : wc.cell? ⟨w.heap.size, 0, none⟩ = some (.slice A there.length k) := cell_of_block (j := 0) HD2.out
                have fb0 := free_of_block (j := 0) HD2.out
                go_upto_region 30 with fail
                obtain ⟨wz, hwz⟩ : ∃ x, wc.setCell ⟨w.heap.size, 0, none⟩ (.slice A7 T.length c7) = x := ⟨_, rfl⟩
                have hkz : Kept (fun g => g = w.heap.size) wc wz := by rw [← hwz]; exact (Kept.refl (fun g => g = w.heap.size) wc).setCell ⟨w.heap.size, 0, none⟩ _ rfl
                have hz2 : wz.heap[w.heap.size]? = some (.cells #[.slice A7 T.length c7, .int .i64 last, .slice Ax (N + 1) kx, .bool false] 62 (0, 0)) := by rw [← hwz]; exact block_set HD2.out _ (j := 0)
                have hz3 := (hkz.block (w.heap.size + 1) (by omega) (by show ¬ w.heap.size + 1 = w.heap.size; omega)).trans HD3.out
                have hzb : Below w.heap.size w wz := by rw [← hwz]; exact HDB.out.setCell (p := ⟨w.heap.size, 0, none⟩) (Nat.le_refl _) _
                have hzo := own_kept HDO.out hkz (fun g hg e => by have := (own_lt HDO.out g hg).1; omega)
                have hzh2 := HDH.out.kept hkz (fun z hz e => by omega)
                have hzt := HDT.out.kept hkz (fun z hz e => by omega)
                have hzz : w.heap.size + 2 ≤ wz.heap.size := Nat.le_trans hzd hkz.size
                rw [hwz]
                have HZ2 := Lib.hid hz2
                have HZ3 := Lib.hid hz3
                have HZB2 := Lib.hid hzb
                have HZO := Lib.hid hzo
                have HZH := Lib.hid hzh2
                have HZT := Lib.hid hzt
                clear hwz hkz hz2 hz3 hzb hzo hzh2 hzt HD2 HD3 HDO HDH HDT HDB b0 fb0 hzd
                have b0 : wz.cell? ⟨w.heap.size, 0, none⟩ = some (.slice A7 T.length c7) := cell_of_block (j := 0) HZ2.out
                have b1 : wz.cell? ⟨w.heap.size, 1, none⟩ = some (.int .i64 last) := cell_of_block (j := 1) HZ2.out
                have b2 : wz.cell? ⟨w.heap.size, 2, none⟩ = some (.slice Ax (N + 1) kx) := cell_of_block (j := 2) HZ2.out
                have b3 : wz.cell? ⟨w.heap.size, 3, none⟩ = some (.bool false) := cell_of_block (j := 3) HZ2.out
                have e0 : wz.cell? ⟨w.heap.size + 1, 0, none⟩ = some (.slice none 0 0) := cell_of_block (j := 0) HZ3.out
                have e1 : wz.cell? ⟨w.heap.size + 1, 1, none⟩ = some (.int .i64 0) := cell_of_block (j := 1) HZ3.out
                have e2 : wz.cell? ⟨w.heap.size + 1, 2, none⟩ = some (.slice none 0 0) := cell_of_block (j := 2) HZ3.out
                have e3 : wz.cell? ⟨w.heap.size + 1, 3, none⟩ = some (.bool false) := cell_of_block (j := 3) HZ3.out
                have fe0 := free_of_block (j := 0) HZ3.out
                have fe1 := free_of_block (j := 1) HZ3.out
                have fe2 := free_of_block (j := 2) HZ3.out
                have fe3 := free_of_block (j := 3) HZ3.out
                have h0 : refForgetErr ⟨there, last, steps, false⟩ ids = 0 := by
                  simp only [refForgetErr]
                  rw [if_neg (by decide), if_neg (by rw [HBAD.out]; simp)]
                have h1 : refForgetNum ⟨there, last, steps, false⟩ ids = ids.length := by
                  simp only [refForgetNum]
                  rw [if_neg (by decide), HBAD.out, h0]
                  rfl
                have hlog : refForgetLog ⟨there, last, steps, false⟩ ids = ⟨T, last, steps.take N ++ [⟨true, id, lits, hints ++ ids⟩], false⟩ := by
                  unfold refForgetLog
                  rw [if_pos ⟨h0, hn0⟩, join_forget ids HJ1.out, HTE.out]
                have H0 := Lib.hid h0
                have H1 := Lib.hid h1
                have HLG := Lib.hid hlog
                clear h0 h1 hlog hn0 q0
                go_wp2
                refine bodyPost_ret (v := .tuple #[rVal (.slice A7 T.length c7) (.slice Ax (N + 1) kx) ⟨T, last, steps.take N ++ [⟨true, id, lits, hints ++ ids⟩], false⟩, .int .i64 ids.length, .int .i64 0]) (by simp [rVal, results, Tryd.results28, go_sem, e0, e1, e2, e3]) rfl ?_
                refine ⟨_, _, by rw [HLG.out, H1.out, H0.out]; rfl, ?_, set4_below HZB2.out (Nat.le_succ _) _ _ _ _⟩
                rw [HLG.out]
                obtain ⟨wf, hwf⟩ : ∃ x, ((((wz.setCell ⟨w.heap.size + 1, 0, none⟩ (.slice A7 T.length c7)).setCell ⟨w.heap.size + 1, 1, none⟩ (.int .i64 last)).setCell ⟨w.heap.size + 1, 2, none⟩ (.slice Ax (N + 1) kx)).setCell ⟨w.heap.size + 1, 3, none⟩ (.bool false)) = x := ⟨_, rfl⟩
                have hkf : Kept (fun g => g = w.heap.size + 1) wz wf := by rw [← hwf]; exact ((((Kept.refl (fun g => g = w.heap.size + 1) wz).setCell ⟨w.heap.size + 1, 0, none⟩ _ rfl).setCell ⟨w.heap.size + 1, 1, none⟩ _ rfl).setCell ⟨w.heap.size + 1, 2, none⟩ _ rfl).setCell ⟨w.heap.size + 1, 3, none⟩ _ rfl
                have hbf : Below w.heap.size w wf := by rw [← hwf]; exact set4_below HZB2.out (Nat.le_succ _) _ _ _ _
                rw [hwf]
                have hro := own_kept HZO.out hkf (fun g hg e => by have := (own_lt HZO.out g hg).1; omega)
                refine ⟨(HZT.out.kept hkf (fun z hz e => by omega)).mono (fun z hz => hz.elim (fun h => .inl h.1) (fun h => .inr (.inr (by omega)))), _, rsteps_joined (s := ⟨true, id, lits, hints ++ ids⟩) (n := N) (by rw [List.length_take, HZ.out]; omega) (by rw [← HS.out.steps, List.map_take]) (fun m hm => ?_) ((HL1.out.below hbf).mono (fun z hz => .inl hz)) ((HZH.out.kept hkf (fun z hz e => by omega)).mono (fun z hz => .inr (.inr (by omega)))) hro (fun z hz => .inr (.inr (by omega)))⟩
                have hme := HS.out.each m (List.mem_of_mem_take hm)
                exact ⟨(hme.1.below hbf).mono (fun z hz => .inl hz), (hme.2.below hbf).mono (fun z hz => .inl hz)⟩
end Go.Proofs.YtbokfjmbamgenaaDoor
