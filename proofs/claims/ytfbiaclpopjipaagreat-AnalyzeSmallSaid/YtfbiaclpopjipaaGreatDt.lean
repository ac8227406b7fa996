/- The law's comparison (tells): the walk. -/
import Derived.Test.YtfbiaclpopjipaaGreatDs
namespace Go.Proofs.YtfbiaclpopjipaaGreat
open Go.RowKit

theorem RowO.lt {O : Nat → Prop} {w : World} {v : Value} {n : Nat} {xs : List Value} (h : RowO O w v n xs) : RowO (fun g => g < w.heap.size) w v n xs := by
 obtain ⟨A, c, h1, h2, h3, h4⟩ := h
 refine ⟨A, c, h1, h2, h3, fun j u hj => ?_⟩
 obtain ⟨g, o, e1, e2, _, e4⟩ := h4 j u hj
 exact ⟨g, o, e1, e2, e2, e4⟩
theorem RTO.lt {O : Nat → Prop} {w : World} {v : Value} {t : RTr} (h : RTO O w v t) : RTO (fun g => g < w.heap.size) w v t := by
 obtain ⟨iv, sv, h1, h2, A, c, e1, e2, e3, e4⟩ := h
 refine ⟨iv, sv, h1, h2.lt, A, c, e1, e2, e3, fun j u hj => ?_⟩
 obtain ⟨g, o, f1, f2, _, f4⟩ := e4 j u hj
 exact ⟨g, o, f1, f2, f2, f4⟩
theorem eq_same {O O' : Nat → Prop} (u v : Value) (xs : List Int) (w : World) (h1 : IntsIn O w u xs) (h2 : IntsIn O' w v xs) (hs : xs.length ≤ 140737488355328) :
  Calls Tryz.prog 19 #[u, v] w fun e w' => e = .returned (.bool true) ∧ Below w.heap.size w w' := by
 refine (eq_i u v xs xs w h1 h2 hs).mono ?_
 rintro e w' ⟨rfl, n, rfl⟩
 exact ⟨by simp, mx_drewN w n⟩
theorem ref_add_any {O Q : Nat → Prop} (k : Nat) (u : Value) (c : List Int) (a : RAr) (av : Value) (w : World) (h : RAO Q w av a) (hc : IntsIn O w u c) (hcl : c.length ≤ 1000) (hl : a.Low k) (hk : k < 1000) :
  Calls Tryz.prog 21 #[av, .int .i64 ((k : Int) + 1), u] w fun e w' => ∃ v code, e = .returned (.tuple #[v, .int .i64 code]) ∧ RAO (fun g => Q g ∨ O g ∨ w.heap.size ≤ g) w' v (a.put ((k : Int) + 1) c) ∧ Below w.heap.size w w' := by
 obtain ⟨l1, l2, l3, l4⟩ := hl
 have h2 : rUsed a.all ≤ 1000000 := Nat.le_trans l2 (Nat.mul_le_mul_right 1000 (Nat.le_of_lt hk))
 unfold RAr.put
 cases hr : clauseB c with
 | true =>
  refine (ref_add_ok ((k : Int) + 1) u c a av w h hc hcl hr (by omega) h2 (by omega) (by omega) (by omega)).mono ?_
  rintro e w' ⟨v, rfl, h1, h2⟩
  exact ⟨v, 0, rfl, h1, h2⟩
 | false =>
  refine (ref_add_bad ((k : Int) + 1) u c a av w h hc (by omega) hr).mono ?_
  rintro e w' ⟨v, rfl, h1, h2⟩
  exact ⟨v, 20, rfl, h1.mono (fun g hg => .inl hg), h2⟩
set_option maxRecDepth 100000 in
set_option maxHeartbeats 16000000 in
theorem tells_core (n : Nat) (cv av u : Value) (cs : List (List Int)) (acs : List ActP) (id v : Int) (c : List Int) (w : World) (hn : n ≤ 1000) (hc : ClsAt w cv cs) (ha : ActsIn w av acs) (hu : IntsIn (fun _ => True) w u c) (hcl : cs.length ≤ 900) (hce : ∀ c ∈ cs, c.length ≤ 900) (hal : acs.length ≤ 90) (hcc : c.length ≤ 900)
  (hcf : ConfSame (confP (addAll arn0 0 cs) (playAll (trl0 n) acs) id).1 (confP (addAll arn0 0 cs) (playAll (trl0 n) acs) id).2 (rAddAll ⟨[], 0⟩ 0 cs) (rPlayAll ⟨n, 0, [], [0]⟩ acs) id)
  (hln : (confP (addAll arn0 0 cs) (playAll (trl0 n) acs) id).1.lits.length ≤ 1000 ∧ (confP (addAll arn0 0 cs) (playAll (trl0 n) acs) id).1.hints.length ≤ 1000 ∧ (confP (addAll arn0 0 cs) (playAll (trl0 n) acs) id).1.met.length ≤ 1000) :
  Calls Tryz.prog 7 #[.int .i64 (n : Int), cv, av, .int .i64 id, .int .i64 v, u] w fun e w' => e = .returned (.bool true) ∧ Below w.heap.size w w' := by
 have HPUT := put_any n cv av cs acs w (by omega) hc ha (by omega) (fun c h => Nat.le_trans (hce c h) (by omega)) (by omega)
 have hsim := (tsim0 n (by omega)).playAll acs
 have hps := (psim0 inv0 arn0_get).addAll cs (by omega)
 have hrl := rAddAll_low cs ⟨[], 0⟩ 0 rlow0 (fun c h => Nat.le_trans (hce c h) (by omega))
 have htl := rPlayAll_low acs ⟨n, 0, [], [0]⟩ 0 (rtlow0 n)
 obtain ⟨A, hA⟩ : ∃ x, addAll arn0 0 cs = x := ⟨_, rfl⟩
 obtain ⟨TT, hT⟩ : ∃ x, playAll (trl0 n) acs = x := ⟨_, rfl⟩
 obtain ⟨ra, hra⟩ : ∃ x, rAddAll ⟨[], 0⟩ 0 cs = x := ⟨_, rfl⟩
 obtain ⟨t, ht⟩ : ∃ x, rPlayAll ⟨n, 0, [], [0]⟩ acs = x := ⟨_, rfl⟩
 have HRA := Lib.hid hra
 have HTT := Lib.hid ht
 rw [hA, hT] at HPUT
 rw [hT, ht] at hsim
 rw [hA, hra] at hps
 rw [hra] at hrl
 rw [ht] at htl
 rw [hA, hT, hra, ht] at hcf
 rw [hA, hT] at hln
 clear hA hT hra ht
 have hro : ra.Ok := ⟨by have := hrl.all; omega, hrl.each⟩
 have hto : t.Ok := ⟨by have := htl.items; omega⟩
 obtain ⟨lv, lc, hlv1, hlv2⟩ := level_both hsim.sim hps.sim hro hto id
 obtain ⟨ln, le, hln0, hln1, hln2⟩ := levels_both hsim.sim hto c (by omega)
 have HLV1 := Lib.hid hlv1
 have HLV2 := Lib.hid hlv2
 have HLN0 := Lib.hid hln0
 have HLN1 := Lib.hid hln1
 have HLN2 := Lib.hid hln2
 have hri := right_eq hsim.sim hps.sim v
 have hr1 := fun W n' a b (h : PutAt n' W a b A TT) => put_right v h
 have hr2 := fun W av tv (h1 : RAAt W av ra) (h2 : RTAt W tv t) => ref_right14 v ra t av tv W h1 h2 hro hto
 rw [hri] at hr1
 obtain ⟨rb0, hrb0⟩ : ∃ x, rRight ra.all t.items v = x := ⟨_, rfl⟩
 rw [hrb0] at hr1 hr2
 have HRI1 := Lib.hid hr1
 have HRI2 := Lib.hid hr2
 obtain ⟨L, code, hL⟩ : ∃ L code, confP A TT id = (L, code) := ⟨_, _, rfl⟩
 have hcg := fun W n' a b (h : PutAt n' W a b A TT) => put_conf id h
 rw [hL] at hcf hcg hln
 obtain ⟨hll, hlh, hlm⟩ := hln
 have HCF := Lib.hid hcf
 have HCG := Lib.hid hcg
 have HPUT := Lib.hid HPUT
 have HORD := Lib.hid hsim.sim.order
 have HCNT := Lib.hid hps.sim.count
 have HTO := Lib.hid hto
 have htil := htl.items
 clear hlv1 hlv2 hln0 hln1 hln2 hri hr1 hr2 hrb0 hL hcf hcg hro hto hrl htl hsim hps
 have HCC := Lib.hid hc
 have HAA := Lib.hid ha
 have HUU := Lib.hid hu
 have HCE := Lib.hid hce
 obtain ⟨Ac, cc, rfl, _⟩ := hc
 obtain ⟨Aa, ca, rfl, _⟩ := ha
 obtain ⟨Au, cu, rfl, _⟩ := hu
 clear hce
 go_enter Tryz.func7, Tryz.ntmps7
 go_wp2_with fail
 refine HPUT.out.mono ?_
 rintro e w1 ⟨a, b, rfl, hpa, hb1⟩
 have HPA := Lib.hid hpa
 have HB1 := Lib.hid hb1
 clear hpa hb1 HPUT
 go_wp2_with fail
 refine (ref_new04 n w1).mono ?_
 rintro e w2 ⟨v4, rfl, hrt, hb2⟩
 obtain ⟨E0, c0, F0, d0, rfl⟩ := hrt.parts
 have HRT0 := Lib.hid hrt.lt
 have HB2 := Lib.hid hb2
 clear hb2 hrt
 simp only [List.length_nil, List.length_cons, Nat.zero_add] at HRT0 ⊢
 obtain ⟨wb, hwb, hbb, hb0, hb1⟩ := rbox2 w2 #[.slice none 0 0, .int .i64 0] #[.int .i64 n, .int .i64 0, .slice E0 0 c0, .slice F0 1 d0] 58 61
 obtain ⟨rb, hrb⟩ : ∃ x, w2.heap.size = x := ⟨_, rfl⟩
 have HWB := Lib.hid hwb
 have HBB := Lib.hid hbb
 have hrbw : rb < wb.heap.size := by rw [← hrb]; exact heap_lt hb0
 have hsbw : rb + 1 < wb.heap.size := by rw [← hrb]; exact heap_lt hb1
 have HRB := Lib.hid (show RBox (fun g => g ≠ rb ∧ g ≠ rb + 1) wb rb ⟨[], 0⟩ from ⟨none, 0, by rw [← hrb]; exact hb0, _, rfl, [], rfl, RowO.nil _ _, fun m hm => by cases hm⟩)
 have HSB := Lib.hid (show SBox (fun g => g ≠ rb ∧ g ≠ rb + 1) wb (rb + 1) ⟨n, 0, [], [0]⟩ from ⟨E0, c0, F0, d0, by rw [← hrb]; exact hb1, (HRT0.out.below hbb).mono (fun g hg => ⟨by have h : g < w2.heap.size := hg; omega, by have h : g < w2.heap.size := hg; omega⟩)⟩)
 have HRBE := Lib.hid hrb
 clear hwb hbb hb0 hb1 HRT0
 go_upto_region 5 with fail
 rw [HWB.out]
 clear hrb HWB
 go_wp2_with fail
 go_loopw [55] (fun iv wr => ∃ (k : Nat), k ≤ cs.length ∧ iv = .int .i64 k ∧ Hid (RBox (fun g => g ≠ rb ∧ g ≠ rb + 1) wr rb (rAddAll ⟨[], 0⟩ 0 (cs.take k))) ∧ Hid (SBox (fun g => g ≠ rb ∧ g ≠ rb + 1) wr (rb + 1) ⟨n, 0, [], [0]⟩) ∧ Hid (Below w2.heap.size w2 wr)) (fun iv _ => cs.length - (intOf iv).toNat)
 case atStart => exact ⟨0, Nat.zero_le _, rfl, HRB, HSB, HBB⟩
 case round =>
  obtain ⟨k, hk, rfl, HR, HS, HW⟩ := hrel
  by_cases hlt : k < cs.length
  ·
   obtain ⟨ck, hck⟩ := getElem_of hlt
   obtain ⟨A', c', hAc, hxs⟩ := HCC.out.below (HB1.out.trans ((HB2.out.trans (HW.out.mono HB2.out.size)).mono HB1.out.size))
   simp only [Value.slice.injEq, true_and] at hAc
   obtain ⟨rfl, rfl⟩ := hAc
   obtain ⟨g, o, u', rfl, hg, e0, hui⟩ := hxs k ck hck
   have HUI := Lib.hid hui
   have hckl := HCE.out ck (List.mem_of_getElem? hck)
   have HTK := Lib.hid (show rAddAll ⟨[], 0⟩ 0 (cs.take (k + 1)) = (rAddAll ⟨[], 0⟩ 0 (cs.take k)).put ((k : Int) + 1) ck from by
    rw [List.take_add_one, hck]
    show rAddAll ⟨[], 0⟩ 0 (cs.take k ++ [ck]) = _
    rw [rAddAll_snoc, List.length_take, Nat.min_eq_left hk, Nat.zero_add])
   have hlow := rAddAll_low (cs.take k) ⟨[], 0⟩ 0 rlow0 (fun c h => Nat.le_trans (HCE.out c (List.mem_of_mem_take h)) (by omega))
   rw [Nat.zero_add, List.length_take, Nat.min_eq_left hk] at hlow
   obtain ⟨rk, hrk⟩ : ∃ x, rAddAll ⟨[], 0⟩ 0 (cs.take k) = x := ⟨_, rfl⟩
   rw [hrk] at HR HTK hlow
   have HLOW := Lib.hid hlow
   obtain ⟨ER, cR, hbk, hro⟩ := HR.out
   have HRO := Lib.hid hro
   have HBK := Lib.hid hbk
   have R0 := Lib.hid (mx_cell (j := 0) hbk)
   have R1 := Lib.hid (mx_cell (j := 1) hbk)
   have hzb := heap_lt hbk
   have hzw := HW.out.size
   have hrb2 : w2.heap.size ≤ rb := Nat.le_of_eq HRBE.out
   have hzb1 : rb + 1 < wr.heap.size := by
    obtain ⟨_, _, _, _, hsb, _⟩ := HS.out
    exact heap_lt hsb
   have w1' : IntKind.i64.wrap ((k : Int) + 1) = (k : Int) + 1 := IntWalk.i64_in _ (by omega)
   clear hck hxs hui hlow hrk hro hbk HR
   go_upto_region 8 with fail
   refine wp_region_held_drew (S := fun w' => Below w2.heap.size w2 w') (by kernel_rfl) (HW.out.trans ((mx_drew wr).mono HW.out.size)) (fun hS => ?_)
   have hD := mx_drew wr
   obtain ⟨wD, hwD⟩ : ∃ x, (wr).drew = x := ⟨_, rfl⟩
   rw [hwD] at hS hD ⊢
   clear hwD e0
   refine takeD 1 62 (v := ?_) rfl (by rfl) (by kernel_rfl) (by kernel_rfl) (by kernel_rfl) (fun _ _ _ h => h) (Or.inl ⟨by rfl, ?_⟩) (by assumption) ?_
   rotate_left
   ·
    intro wq hSw
    clear hSw
    go_simp
    try with_reducible rfl
   simp only [Act.put, List.setIfInBounds_toArray, List.set_cons_zero, List.set_cons_succ]
   refine takeD 2 63 (v := ?_) rfl (by rfl) (by kernel_rfl) (by kernel_rfl) (by kernel_rfl) (fun _ _ _ h => h) (Or.inl ⟨by rfl, ?_⟩) (by assumption) ?_
   rotate_left
   ·
    intro wq hSw
    clear hSw
    go_simp
    try with_reducible rfl
   simp only [Act.put, List.setIfInBounds_toArray, List.set_cons_zero, List.set_cons_succ]
   refine takeD 3 64 (v := ?_) rfl (by rfl) (by kernel_rfl) (by kernel_rfl) (by kernel_rfl) (fun _ _ _ h => h) (Or.inl ⟨by rfl, ?_⟩) (by assumption) ?_
   rotate_left
   ·
    intro wq hSw
    clear hSw
    go_simp
    try with_reducible rfl
   simp only [Act.put, List.setIfInBounds_toArray, List.set_cons_zero, List.set_cons_succ]
   refine wpAnyH_ready (rs := [0, 4]) (by kernel_rfl) (by simp) ?_
   refine AllReadyH.cons rfl (fun K hK => ?_) (AllReadyH.cons rfl (fun K hK => ?_) AllReadyH.nil)
   ·
    have k0 := (hD.cell (p := ⟨rb, 0, none⟩) hzb).trans R0.out
    have k1 := (hD.cell (p := ⟨rb, 1, none⟩) hzb).trans R1.out
    go_simp
    refine hK.out _ _ hS (fun _ => ?_)
    clear hK k0 k1
    refine wpAnyH_ready (rs := [4]) (by kernel_rfl) (by simp) ?_
    refine AllReadyH.cons rfl (fun K hK => ?_) AllReadyH.nil
    go_simp
    refine (ints_08 u' ck wD (HUI.out.below hD) (by omega)).mono ?_
    rintro e y1 ⟨v5, rfl, hown, hbN⟩
    have HOW := Lib.hid hown
    have hSN := hS.trans ((hbN.mono hD.size).mono hzw)
    have hDN := hD.trans (hbN.mono hD.size)
    have hz1 := hD.size
    refine hK.out _ _ hSN (fun _ => ?_)
    clear hK hown hbN hS hD
    have hS := hSN
    have hD := hDN
    clear hSN hDN
    refine wpAnyH_ready (rs := [5]) (by kernel_rfl) (by simp) ?_
    refine AllReadyH.cons rfl (fun K hK => ?_) AllReadyH.nil
    go_simp
    refine (ref_add_any k v5 ck rk _ y1 (HRO.out.below hD) (IntsIn.of_own HOW.out) (by omega) HLOW.out (by omega)).mono ?_
    rintro e y2 ⟨v6, cd, rfl, hro2, hbN⟩
    obtain ⟨E2, c2, rfl⟩ := hro2.parts
    have hz2 := hD.size
    have hSN := hS.trans ((hbN.mono hz2).mono hzw)
    have hDN := hD.trans (hbN.mono hz2)
    have HRO2 := Lib.hid (hro2.mono (O' := fun g => g ≠ rb ∧ g ≠ rb + 1) (fun g hg => by
     rcases hg with hg | hg | hg
     ·
      exact hg
     ·
      have := hg.1
      omega
     ·
      omega))
    refine hK.out _ _ hSN (fun _ => ?_)
    clear hK hbN hS hD hro2
    have hS := hSN
    have hD := hDN
    clear hSN hDN
    obtain ⟨rn, hrn⟩ : ∃ x, rk.put ((k : Int) + 1) ck = x := ⟨_, rfl⟩
    have HRN := Lib.hid hrn
    rw [hrn] at HRO2 ⊢
    clear hrn
    refine takeD 6 60 (v := ?_) rfl (by rfl) (by kernel_rfl) (by kernel_rfl) (by kernel_rfl) (fun _ _ _ h => h) (Or.inl ⟨by rfl, ?_⟩) (by assumption) ?_
    rotate_left
    ·
     intro wq hSw
     clear hSw
     go_simp
     try with_reducible rfl
    simp only [Act.put, List.setIfInBounds_toArray, List.set_cons_zero, List.set_cons_succ]
    refine takeD 7 67 (v := ?_) rfl (by rfl) (by kernel_rfl) (by kernel_rfl) (by kernel_rfl) (fun _ _ _ h => h) (Or.inl ⟨by rfl, ?_⟩) (by assumption) ?_
    rotate_left
    ·
     intro wq hSw
     clear hSw
     go_simp
     try with_reducible rfl
    simp only [Act.put, List.setIfInBounds_toArray, List.set_cons_zero, List.set_cons_succ]
    refine takeD 8 68 (v := ?_) rfl (by rfl) (by kernel_rfl) (by kernel_rfl) (by kernel_rfl) (fun _ _ _ h => h) (Or.inl ⟨by rfl, ?_⟩) (by assumption) ?_
    rotate_left
    ·
     intro wq hSw
     clear hSw
     go_simp
     try with_reducible rfl
    simp only [Act.put, List.setIfInBounds_toArray, List.set_cons_zero, List.set_cons_succ]
    have hblk := (hD.block rb hzb).trans HBK.out
    have fr0 := mx_free (j := 0) hblk
    have fr1 := mx_free (j := 1) hblk
    have ce0 := mx_cell (j := 0) hblk
    have ce1 := mx_cell (j := 1) hblk
    have HBLK := Lib.hid hblk
    have HS2 := Lib.hid (HS.out.below hD)
    clear hblk hD
    refine wpAnyH_ready (rs := [9]) (by kernel_rfl) (by simp) ?_
    refine AllReadyH.cons rfl (fun K hK => ?_) AllReadyH.nil
    go_simp
    obtain ⟨w7, hw7⟩ : ∃ z, (y2.setCell ⟨rb, 0, none⟩ (.slice E2 rn.all.length c2)).setCell ⟨rb, 1, none⟩ (.int .i64 rn.last) = z := ⟨_, rfl⟩
    rw [hw7]
    have hk7 : Kept (fun g => g = rb) y2 w7 := by rw [← hw7]; exact ((Kept.refl (fun g => g = rb) y2).setCell ⟨rb, 0, none⟩ _ rfl).setCell ⟨rb, 1, none⟩ _ rfl
    have HR7 := Lib.hid (show RBox (fun g => g ≠ rb ∧ g ≠ rb + 1) w7 rb rn from ⟨E2, c2, by rw [← hw7]; exact mx_set (j := 1) (mx_set (j := 0) HBLK.out _) _, HRO2.out.kept hk7 (fun g hg e => hg.1 e)⟩)
    have HS7 := Lib.hid (HS2.out.kept hk7 (by omega) (fun g hg e => hg.1 e))
    have hB7 : Below w2.heap.size w2 w7 := by rw [← hw7]; exact (hS.setCell (p := ⟨rb, 0, none⟩) hrb2 _).setCell (p := ⟨rb, 1, none⟩) hrb2 _
    have HB7 := Lib.hid hB7
    refine hK.out _ _ hB7 (fun _ => ?_)
    clear hK hw7 hk7 fr0 fr1 ce0 ce1 hB7 hS
    refine wpAnyH_done (by kernel_rfl) ?_ _
    go_wp2_with fail
    go_roundw
    case rel => exact ⟨k + 1, by omega, by go_num, Lib.hid (by rw [HTK.out, HRN.out]; exact HR7.out), HS7, HB7⟩
    case measure => simp [intOf]; omega
   ·
    go_simp
    refine (ints_08 u' ck wD (HUI.out.below hD) (by omega)).mono ?_
    rintro e y1 ⟨v5, rfl, hown, hbN⟩
    have HOW := Lib.hid hown
    have hSN := hS.trans ((hbN.mono hD.size).mono hzw)
    have hDN := hD.trans (hbN.mono hD.size)
    have hz1 := hD.size
    refine hK.out _ _ hSN (fun _ => ?_)
    clear hK hown hbN hS hD
    have hS := hSN
    have hD := hDN
    clear hSN hDN
    refine wpAnyH_ready (rs := [0]) (by kernel_rfl) (by simp) ?_
    refine AllReadyH.cons rfl (fun K hK => ?_) AllReadyH.nil
    have k0 := (hD.cell (p := ⟨rb, 0, none⟩) hzb).trans R0.out
    have k1 := (hD.cell (p := ⟨rb, 1, none⟩) hzb).trans R1.out
    go_simp
    refine hK.out _ _ hS (fun _ => ?_)
    clear hK k0 k1
    refine wpAnyH_ready (rs := [5]) (by kernel_rfl) (by simp) ?_
    refine AllReadyH.cons rfl (fun K hK => ?_) AllReadyH.nil
    go_simp
    refine (ref_add_any k v5 ck rk _ y1 (HRO.out.below hD) (IntsIn.of_own HOW.out) (by omega) HLOW.out (by omega)).mono ?_
    rintro e y2 ⟨v6, cd, rfl, hro2, hbN⟩
    obtain ⟨E2, c2, rfl⟩ := hro2.parts
    have hz2 := hD.size
    have hSN := hS.trans ((hbN.mono hz2).mono hzw)
    have hDN := hD.trans (hbN.mono hz2)
    have HRO2 := Lib.hid (hro2.mono (O' := fun g => g ≠ rb ∧ g ≠ rb + 1) (fun g hg => by
     rcases hg with hg | hg | hg
     ·
      exact hg
     ·
      have := hg.1
      omega
     ·
      omega))
    refine hK.out _ _ hSN (fun _ => ?_)
    clear hK hbN hS hD hro2
    have hS := hSN
    have hD := hDN
    clear hSN hDN
    obtain ⟨rn, hrn⟩ : ∃ x, rk.put ((k : Int) + 1) ck = x := ⟨_, rfl⟩
    have HRN := Lib.hid hrn
    rw [hrn] at HRO2 ⊢
    clear hrn
    refine takeD 6 60 (v := ?_) rfl (by rfl) (by kernel_rfl) (by kernel_rfl) (by kernel_rfl) (fun _ _ _ h => h) (Or.inl ⟨by rfl, ?_⟩) (by assumption) ?_
    rotate_left
    ·
     intro wq hSw
     clear hSw
     go_simp
     try with_reducible rfl
    simp only [Act.put, List.setIfInBounds_toArray, List.set_cons_zero, List.set_cons_succ]
    refine takeD 7 67 (v := ?_) rfl (by rfl) (by kernel_rfl) (by kernel_rfl) (by kernel_rfl) (fun _ _ _ h => h) (Or.inl ⟨by rfl, ?_⟩) (by assumption) ?_
    rotate_left
    ·
     intro wq hSw
     clear hSw
     go_simp
     try with_reducible rfl
    simp only [Act.put, List.setIfInBounds_toArray, List.set_cons_zero, List.set_cons_succ]
    refine takeD 8 68 (v := ?_) rfl (by rfl) (by kernel_rfl) (by kernel_rfl) (by kernel_rfl) (fun _ _ _ h => h) (Or.inl ⟨by rfl, ?_⟩) (by assumption) ?_
    rotate_left
    ·
     intro wq hSw
     clear hSw
     go_simp
     try with_reducible rfl
    simp only [Act.put, List.setIfInBounds_toArray, List.set_cons_zero, List.set_cons_succ]
    have hblk := (hD.block rb hzb).trans HBK.out
    have fr0 := mx_free (j := 0) hblk
    have fr1 := mx_free (j := 1) hblk
    have ce0 := mx_cell (j := 0) hblk
    have ce1 := mx_cell (j := 1) hblk
    have HBLK := Lib.hid hblk
    have HS2 := Lib.hid (HS.out.below hD)
    clear hblk hD
    refine wpAnyH_ready (rs := [9]) (by kernel_rfl) (by simp) ?_
    refine AllReadyH.cons rfl (fun K hK => ?_) AllReadyH.nil
    go_simp
    obtain ⟨w7, hw7⟩ : ∃ z, (y2.setCell ⟨rb, 0, none⟩ (.slice E2 rn.all.length c2)).setCell ⟨rb, 1, none⟩ (.int .i64 rn.last) = z := ⟨_, rfl⟩
    rw [hw7]
    have hk7 : Kept (fun g => g = rb) y2 w7 := by rw [← hw7]; exact ((Kept.refl (fun g => g = rb) y2).setCell ⟨rb, 0, none⟩ _ rfl).setCell ⟨rb, 1, none⟩ _ rfl
    have HR7 := Lib.hid (show RBox (fun g => g ≠ rb ∧ g ≠ rb + 1) w7 rb rn from ⟨E2, c2, by rw [← hw7]; exact mx_set (j := 1) (mx_set (j := 0) HBLK.out _) _, HRO2.out.kept hk7 (fun g hg e => hg.1 e)⟩)
    have HS7 := Lib.hid (HS2.out.kept hk7 (by omega) (fun g hg e => hg.1 e))
    have hB7 : Below w2.heap.size w2 w7 := by rw [← hw7]; exact (hS.setCell (p := ⟨rb, 0, none⟩) hrb2 _).setCell (p := ⟨rb, 1, none⟩) hrb2 _
    have HB7 := Lib.hid hB7
    refine hK.out _ _ hB7 (fun _ => ?_)
    clear hK hw7 hk7 fr0 fr1 ce0 ce1 hB7 hS
    refine wpAnyH_done (by kernel_rfl) ?_ _
    go_wp2_with fail
    go_roundw
    case rel => exact ⟨k + 1, by omega, by go_num, Lib.hid (by rw [HTK.out, HRN.out]; exact HR7.out), HS7, HB7⟩
    case measure => simp [intOf]; omega
  ·
   obtain rfl : k = cs.length := by omega
   have HR2 := Lib.hid (show RBox (fun g => g ≠ rb ∧ g ≠ rb + 1) wr rb ra from by have := HR.out; rw [List.take_length, HRA.out] at this; exact this)
   clear HR HRB HSB
   obtain ⟨wd, rfl⟩ : ∃ wo : World, wo = wr := ⟨_, rfl⟩
   go_wp2_with fail
   go_loopw [72] (fun iv wr => ∃ (k : Nat), k ≤ acs.length ∧ iv = .int .i64 k ∧ Hid (RBox (fun g => g ≠ rb ∧ g ≠ rb + 1) wr rb ra) ∧ Hid (SBox (fun g => g ≠ rb ∧ g ≠ rb + 1) wr (rb + 1) (rPlayAll ⟨n, 0, [], [0]⟩ (acs.take k))) ∧ Hid (Below w2.heap.size w2 wr)) (fun iv _ => acs.length - (intOf iv).toNat)
   case atStart => exact ⟨0, Nat.zero_le _, rfl, HR2, HS, HW⟩
   case round =>
    obtain ⟨k, hk2, rfl, HR3, HS3, HW3⟩ := hrel
    by_cases hlt2 : k < acs.length
    ·
     obtain ⟨ac, hac⟩ := getElem_of hlt2
     obtain ⟨A', c', hAc, hxs⟩ := HAA.out.below (HB1.out.trans ((HB2.out.trans (HW3.out.mono HB2.out.size)).mono HB1.out.size))
     simp only [Value.slice.injEq, true_and] at hAc
     obtain ⟨rfl, rfl⟩ := hAc
     obtain ⟨g, o, rfl, hg, e0, e1, e2⟩ := hxs k ac hac
     have HTK := Lib.hid (show rPlayAll ⟨n, 0, [], [0]⟩ (acs.take (k + 1)) = (rPlayAll ⟨n, 0, [], [0]⟩ (acs.take k)).play ac from by
      rw [List.take_add_one, hac]
      show rPlayAll ⟨n, 0, [], [0]⟩ (acs.take k ++ [ac]) = _
      rw [rPlayAll_snoc])
     have hlow := rPlayAll_low (acs.take k) ⟨n, 0, [], [0]⟩ 0 (rtlow0 n)
     rw [Nat.zero_add, List.length_take, Nat.min_eq_left hk2] at hlow
     obtain ⟨sk, hsk⟩ : ∃ x, rPlayAll ⟨n, 0, [], [0]⟩ (acs.take k) = x := ⟨_, rfl⟩
     rw [hsk] at HS3 HTK hlow
     have HLOW := Lib.hid hlow
     obtain ⟨EI, cI, ES, cS, hbk, hso⟩ := HS3.out
     have HSO := Lib.hid hso
     have HBK := Lib.hid hbk
     have hzb := heap_lt hbk
     have hzw := HW3.out.size
     obtain ⟨W3, hW3⟩ : ∃ x, wr.alloc (.cells #[.bool ac.push, .int .i64 ac.l, .int .i64 ac.by_] 33) = x := ⟨_, rfl⟩
     have HB3 := Lib.hid (show Below wr.heap.size wr W3 from by rw [← hW3]; exact mx_al _ _)
     have HW3a := Lib.hid hW3
     have HW3b := Lib.hid (show W3.heap[wr.heap.size]? = some (.cells #[.bool ac.push, .int .i64 ac.l, .int .i64 ac.by_] 33 (0, 0)) from by rw [← hW3]; exact World.alloc_heap_new _ _)
     clear hac hxs hlow hsk hso hbk hW3 HS HW HR2
     cases hpu : ac.push with
     | true =>
      have HPL := Lib.hid (show sk.play ac = sk.push from by unfold RTr.play; rw [if_pos hpu])
      have HPU := ref_push sk _ W3 (HSO.out.below HB3.out) (by have := HLOW.out.starts; omega) HLOW.out.now0 (by have := HLOW.out.now; omega)
      rw [hpu] at e0 HW3a
      have HPU := Lib.hid HPU
      clear hpu
      have hblk := (HB3.out.block (rb + 1) hzb).trans HBK.out
      obtain ⟨⟨p0, p1, p2, p3⟩, _⟩ := cells4 hblk
      clear hblk
      go_upto_region 14 with fail
      rw [HW3a.out]
      have q1 := mx_cell (j := 1) HW3b.out
      have q2 := mx_cell (j := 2) HW3b.out
      go_wp2_with fail
      refine HPU.out.mono ?_
      rintro e w4 ⟨v6, rfl, hro2, hbN⟩
      clear e0 e1 e2 p0 p1 p2 p3 q1 q2
      obtain ⟨E4, c4, F4, d4, rfl⟩ := hro2.parts
      have HRO2 := Lib.hid (hro2.mono (O' := fun g => g ≠ rb ∧ g ≠ rb + 1) (fun g hg => by
       rcases hg with hg | hg
       ·
        exact hg
       ·
        have := HB3.out.size
        omega))
      obtain ⟨sn, hsn⟩ : ∃ x, sk.push = x := ⟨_, rfl⟩
      have HSN := Lib.hid hsn
      have hnew : (⟨sk.vars, sk.now + 1, sk.items, sk.starts ++ [(sk.items.length : Int)]⟩ : RTr) = sn := hsn
      rw [hnew] at HRO2 ⊢
      clear hsn hnew hro2
      have HB4 := Lib.hid (HB3.out.trans (hbN.mono HB3.out.size))
      have hblk := (HB4.out.block (rb + 1) hzb).trans HBK.out
      obtain ⟨⟨p0, p1, p2, p3⟩, f0, f1, f2, f3⟩ := cells4 hblk
      have HBLK := Lib.hid hblk
      clear hblk hbN HPU
      go_upto_region 16 with fail
      obtain ⟨w7, hw7⟩ : ∃ z, (((w4.setCell ⟨rb + 1, 0, none⟩ (.int .i64 sn.vars)).setCell ⟨rb + 1, 1, none⟩ (.int .i64 sn.now)).setCell ⟨rb + 1, 2, none⟩ (.slice E4 sn.items.length c4)).setCell ⟨rb + 1, 3, none⟩ (.slice F4 sn.starts.length d4) = z := ⟨_, rfl⟩
      rw [hw7]
      have hk7 : Kept (fun g => g = rb + 1) w4 w7 := by rw [← hw7]; exact ((((Kept.refl (fun g => g = rb + 1) w4).setCell ⟨rb + 1, 0, none⟩ _ rfl).setCell ⟨rb + 1, 1, none⟩ _ rfl).setCell ⟨rb + 1, 2, none⟩ _ rfl).setCell ⟨rb + 1, 3, none⟩ _ rfl
      have HS7 := Lib.hid (show SBox (fun g => g ≠ rb ∧ g ≠ rb + 1) w7 (rb + 1) sn from ⟨E4, c4, F4, d4, by rw [← hw7]; exact mx_set (j := 3) (mx_set (j := 2) (mx_set (j := 1) (mx_set (j := 0) HBLK.out _) _) _) _, HRO2.out.kept hk7 (fun g hg e => hg.2 e)⟩)
      have HR7 := Lib.hid ((HR3.out.below HB4.out).kept hk7 (by omega) (fun g hg e => hg.2 e))
      have hrb2 : w2.heap.size ≤ rb + 1 := by have := HRBE.out; omega
      have HB7 := Lib.hid (show Below w2.heap.size w2 w7 from by rw [← hw7]; exact ((((HW3.out.trans (HB4.out.mono HW3.out.size)).setCell (p := ⟨rb + 1, 0, none⟩) hrb2 _).setCell (p := ⟨rb + 1, 1, none⟩) hrb2 _).setCell (p := ⟨rb + 1, 2, none⟩) hrb2 _).setCell (p := ⟨rb + 1, 3, none⟩) hrb2 _)
      clear hw7 hk7 p0 p1 p2 p3 f0 f1 f2 f3
      go_wp2_with fail
      go_roundw
      case rel => exact ⟨k + 1, by omega, by go_num, HR7, Lib.hid (by rw [HTK.out, HPL.out, HSN.out]; exact HS7.out), HB7⟩
      case measure => simp [intOf]; omega
     | false =>
      have HPL := Lib.hid (show sk.play ac = (sk.assigned ac.l ac.by_) from by unfold RTr.play; rw [if_neg (by rw [hpu]; decide)])
      have HPU := ref_assign sk ac.l ac.by_ _ W3 (HSO.out.below HB3.out) ⟨by have := HLOW.out.items; omega⟩
      rw [hpu] at e0 HW3a
      have HPU := Lib.hid HPU
      clear hpu
      have hblk := (HB3.out.block (rb + 1) hzb).trans HBK.out
      obtain ⟨⟨p0, p1, p2, p3⟩, _⟩ := cells4 hblk
      clear hblk
      go_upto_region 15 with fail
      rw [HW3a.out]
      have q1 := mx_cell (j := 1) HW3b.out
      have q2 := mx_cell (j := 2) HW3b.out
      go_wp2_with fail
      refine HPU.out.mono ?_
      rintro e w4 ⟨v6, rfl, hro2, hbN⟩
      clear e0 e1 e2 p0 p1 p2 p3 q1 q2
      obtain ⟨E4, c4, F4, d4, rfl⟩ := hro2.parts
      have HRO2 := Lib.hid (hro2.mono (O' := fun g => g ≠ rb ∧ g ≠ rb + 1) (fun g hg => by
       rcases hg with hg | hg
       ·
        exact hg
       ·
        have := HB3.out.size
        omega))
      obtain ⟨sn, hsn⟩ : ∃ x, (sk.assigned ac.l ac.by_) = x := ⟨_, rfl⟩
      have HSN := Lib.hid hsn
      have hnew : (sk.assigned ac.l ac.by_) = sn := hsn
      rw [hnew] at HRO2 ⊢
      clear hsn hnew hro2
      have HB4 := Lib.hid (HB3.out.trans (hbN.mono HB3.out.size))
      have hblk := (HB4.out.block (rb + 1) hzb).trans HBK.out
      obtain ⟨⟨p0, p1, p2, p3⟩, f0, f1, f2, f3⟩ := cells4 hblk
      have HBLK := Lib.hid hblk
      clear hblk hbN HPU
      go_upto_region 16 with fail
      obtain ⟨w7, hw7⟩ : ∃ z, (((w4.setCell ⟨rb + 1, 0, none⟩ (.int .i64 sn.vars)).setCell ⟨rb + 1, 1, none⟩ (.int .i64 sn.now)).setCell ⟨rb + 1, 2, none⟩ (.slice E4 sn.items.length c4)).setCell ⟨rb + 1, 3, none⟩ (.slice F4 sn.starts.length d4) = z := ⟨_, rfl⟩
      rw [hw7]
      have hk7 : Kept (fun g => g = rb + 1) w4 w7 := by rw [← hw7]; exact ((((Kept.refl (fun g => g = rb + 1) w4).setCell ⟨rb + 1, 0, none⟩ _ rfl).setCell ⟨rb + 1, 1, none⟩ _ rfl).setCell ⟨rb + 1, 2, none⟩ _ rfl).setCell ⟨rb + 1, 3, none⟩ _ rfl
      have HS7 := Lib.hid (show SBox (fun g => g ≠ rb ∧ g ≠ rb + 1) w7 (rb + 1) sn from ⟨E4, c4, F4, d4, by rw [← hw7]; exact mx_set (j := 3) (mx_set (j := 2) (mx_set (j := 1) (mx_set (j := 0) HBLK.out _) _) _) _, HRO2.out.kept hk7 (fun g hg e => hg.2 e)⟩)
      have HR7 := Lib.hid ((HR3.out.below HB4.out).kept hk7 (by omega) (fun g hg e => hg.2 e))
      have hrb2 : w2.heap.size ≤ rb + 1 := by have := HRBE.out; omega
      have HB7 := Lib.hid (show Below w2.heap.size w2 w7 from by rw [← hw7]; exact ((((HW3.out.trans (HB4.out.mono HW3.out.size)).setCell (p := ⟨rb + 1, 0, none⟩) hrb2 _).setCell (p := ⟨rb + 1, 1, none⟩) hrb2 _).setCell (p := ⟨rb + 1, 2, none⟩) hrb2 _).setCell (p := ⟨rb + 1, 3, none⟩) hrb2 _)
      clear hw7 hk7 p0 p1 p2 p3 f0 f1 f2 f3
      go_wp2_with fail
      go_roundw
      case rel => exact ⟨k + 1, by omega, by go_num, HR7, Lib.hid (by rw [HTK.out, HPL.out, HSN.out]; exact HS7.out), HB7⟩
      case measure => simp [intOf]; omega
    ·
     obtain rfl : k = acs.length := by omega
     have HS4 := Lib.hid (show SBox (fun g => g ≠ rb ∧ g ≠ rb + 1) wr (rb + 1) t from by have := HS3.out; rw [List.take_length, HTT.out] at this; exact this)
     clear HS3 HS HW HR2 HRA HTT hk hk2 hlt hlt2 HCE HAA
     obtain ⟨wcl, rfl⟩ : ∃ wo : World, wo = wr := ⟨_, rfl⟩
     have HBC := Lib.hid (HB1.out.trans ((HB2.out.trans (HW3.out.mono HB2.out.size)).mono HB1.out.size))
     have HPC := Lib.hid (HPA.out.below (HB2.out.trans (HW3.out.mono HB2.out.size)))
     have HUC := Lib.hid (HUU.out.below HBC.out)
     obtain ⟨ER, cR, hbk, hro⟩ := HR3.out
     obtain ⟨EI, cI, ES, cS, hbs, hrt⟩ := HS4.out
     have HRO := Lib.hid hro.weak
     have HRT := Lib.hid hrt.weak
     have HBKR := Lib.hid hbk
     have HBKS := Lib.hid hbs
     have hzr := heap_lt hbk
     have hzs := heap_lt hbs
     clear hbk hro hbs hrt HW3 HR3 HS4 HPA HUU HB1 HB2 HBB HRBE hrbw hsbw
     have CR0 := Lib.hid (mx_cell (j := 0) HBKR.out)
     have CR1 := Lib.hid (mx_cell (j := 1) HBKR.out)
     have CS0 := Lib.hid (mx_cell (j := 0) HBKS.out)
     have CS1 := Lib.hid (mx_cell (j := 1) HBKS.out)
     have CS2 := Lib.hid (mx_cell (j := 2) HBKS.out)
     have CS3 := Lib.hid (mx_cell (j := 3) HBKS.out)
     clear HBKR HBKS
     obtain ⟨li, bk, lvl, hi, mt⟩ := L
     simp only at hll hlh hlm
     go_wp2_with fail
     go_loopw [90] (fun iv wr => ∃ (k : Nat), k ≤ 2 ∧ iv = .int .i64 k ∧ Hid (Below wcl.heap.size wcl wr)) (fun iv _ => 2 - (intOf iv).toNat)
     case atStart => exact ⟨0, by omega, rfl, Lib.hid (Below.refl _ _)⟩
     case round =>
      obtain ⟨k, hk, rfl, HW⟩ := hrel
      by_cases hlt : k < 2
      ·
       have HPW := Lib.hid (HPC.out.below HW.out)
       go_wp2_with fail
       refine (HCG.out wr _ a b HPW.out).mono ?_
       rintro e x1 ⟨⟨v9, rfl, hl⟩, hb⟩
       obtain ⟨x, y, z, rfl, hx, hy, hz⟩ := hl
       simp only at hx hy hz ⊢
       obtain ⟨Ax, cx, rfl, hcx⟩ := mx_slice hx
       obtain ⟨Ay, cy, rfl, _⟩ := mx_slice hy
       obtain ⟨Az, cz, rfl, _⟩ := mx_slice hz
       have HX := Lib.hid hx
       have HY := Lib.hid hy
       have HZ := Lib.hid hz
       have HB1 := Lib.hid hb
       obtain ⟨x2, hx2⟩ : ∃ q, x1.alloc (.cells #[.slice Ax li.length cx, .int .i64 bk, .int .i64 lvl, .slice Ay hi.length cy, .slice Az mt.length cz] 42) = q := ⟨_, rfl⟩
       have HX2 := Lib.hid hx2
       have HB12 := Lib.hid (show Below x1.heap.size x1 x2 from by rw [← hx2]; exact mx_al _ _)
       have HGB := Lib.hid (show x2.heap[x1.heap.size]? = some (.cells #[.slice Ax li.length cx, .int .i64 bk, .int .i64 lvl, .slice Ay hi.length cy, .slice Az mt.length cz] 42 (0, 0)) from by rw [← hx2]; exact World.alloc_heap_new _ _)
       clear hb hx hy hz hx2 HPW
       go_upto_region 20 with fail
       rw [HX2.out]
       have HB2 := Lib.hid (HB1.out.trans (HB12.out.mono HB1.out.size))
       have HW2 := Lib.hid (HW.out.trans (HB2.out.mono HW.out.size))
       have r0 := (HW2.out.cell (p := ⟨rb, 0, none⟩) hzr).trans CR0.out
       have r1 := (HW2.out.cell (p := ⟨rb, 1, none⟩) hzr).trans CR1.out
       have s0 := (HW2.out.cell (p := ⟨rb + 1, 0, none⟩) hzs).trans CS0.out
       have s1 := (HW2.out.cell (p := ⟨rb + 1, 1, none⟩) hzs).trans CS1.out
       have s2 := (HW2.out.cell (p := ⟨rb + 1, 2, none⟩) hzs).trans CS2.out
       have s3 := (HW2.out.cell (p := ⟨rb + 1, 3, none⟩) hzs).trans CS3.out
       go_wp2_with fail
       refine (HCF.out x2 _ _ (HRO.out.below HW2.out) (HRT.out.below HW2.out)).mono ?_
       rintro e x3 ⟨⟨Bx, dx, By, dy, Bz, dz, rfl, hx, hy, hz⟩, hb⟩
       simp only at hx hy hz ⊢
       clear r0 r1 s0 s1 s2 s3
       obtain ⟨x4, hx4⟩ : ∃ q, x3.alloc (.cells #[.slice Bx li.length dx, .int .i64 bk, .int .i64 lvl, .slice By hi.length dy, .slice Bz mt.length dz] 70) = q := ⟨_, rfl⟩
       have HX4 := Lib.hid hx4
       have hb34 : Below x3.heap.size x3 x4 := by rw [← hx4]; exact mx_al _ _
       have HB24 := Lib.hid (hb.trans (hb34.mono hb.size))
       have HWB := Lib.hid (show x4.heap[x3.heap.size]? = some (.cells #[.slice Bx li.length dx, .int .i64 bk, .int .i64 lvl, .slice By hi.length dy, .slice Bz mt.length dz] 70 (0, 0)) from by rw [← hx4]; exact World.alloc_heap_new _ _)
       have HWX := Lib.hid (hx.below hb34)
       have HWY := Lib.hid (hy.below hb34)
       have HWZ := Lib.hid (hz.below hb34)
       clear hx4 hb hb34 hx hy hz
       go_upto_region 21 with fail
       rw [HX4.out]
       obtain ⟨g1, hg1e⟩ : ∃ q, x1.heap.size = q := ⟨_, rfl⟩
       obtain ⟨g2, hg2e⟩ : ∃ q, x3.heap.size = q := ⟨_, rfl⟩
       have HG1E := Lib.hid hg1e
       rw [hg1e] at HGB ⊢
       rw [hg2e] at HWB ⊢
       have HGB4 := Lib.hid ((HB24.out.block g1 (heap_lt HGB.out)).trans HGB.out)
       have hg1 := heap_lt HGB4.out
       have hg2 := heap_lt HWB.out
       have G0 := Lib.hid (mx_cell (j := 0) HGB4.out)
       have W0 := Lib.hid (mx_cell (j := 0) HWB.out)
       have G1 := Lib.hid (mx_cell (j := 1) HGB4.out)
       have W1 := Lib.hid (mx_cell (j := 1) HWB.out)
       have G2 := Lib.hid (mx_cell (j := 2) HGB4.out)
       have W2 := Lib.hid (mx_cell (j := 2) HWB.out)
       have G3 := Lib.hid (mx_cell (j := 3) HGB4.out)
       have W3 := Lib.hid (mx_cell (j := 3) HWB.out)
       have G4 := Lib.hid (mx_cell (j := 4) HGB4.out)
       have W4 := Lib.hid (mx_cell (j := 4) HWB.out)
       have HB14 := Lib.hid (HB12.out.trans (HB24.out.mono HB12.out.size))
       have HGX := Lib.hid ((IntsIn.of_own HX.out).below HB14.out)
       have HGY := Lib.hid ((IntsIn.of_own HY.out).below HB14.out)
       have HGZ := Lib.hid ((IntsIn.of_own HZ.out).below HB14.out)
       have HW4 := Lib.hid (HB1.out.trans (HB14.out.mono HB1.out.size))
       have qb : (bk != bk) = false := by simp
       have ql : (lvl != lvl) = false := by simp
       have qc : ((code : Int) != (code : Int)) = false := by simp
       clear hg1e hg2e HX2 HX4 HGB HB2 HW2 HB12 HB24
       refine wp_region_held_drew (S := fun w' => Below x4.heap.size x4 w') (by kernel_rfl) (mx_drew x4) (fun hS => ?_)
       obtain ⟨wD, hwD⟩ : ∃ x, (x4).drew = x := ⟨_, rfl⟩
       rw [hwD] at hS ⊢
       clear hwD
       refine takeD 0 106 (v := ?_) rfl (by rfl) (by kernel_rfl) (by kernel_rfl) (by kernel_rfl) (fun _ _ _ h => h) (Or.inl ⟨by rfl, ?_⟩) (by assumption) ?_
       rotate_left
       ·
        intro wq hSw
        clear hSw
        go_simp
        try with_reducible rfl
       simp only [Act.put, List.setIfInBounds_toArray, List.set_cons_zero, List.set_cons_succ]
       refine takeD 1 107 (v := ?_) rfl (by rfl) (by kernel_rfl) (by kernel_rfl) (by kernel_rfl) (fun _ _ _ h => h) (Or.inl ⟨by rfl, ?_⟩) (by assumption) ?_
       rotate_left
       ·
        intro wq hSw
        have k0 := (hSw.cell (p := ⟨g1, 0, none⟩) hg1).trans G0.out
        clear hSw
        go_simp
        try with_reducible rfl
       simp only [Act.put, List.setIfInBounds_toArray, List.set_cons_zero, List.set_cons_succ]
       refine takeD 3 109 (v := ?_) rfl (by rfl) (by kernel_rfl) (by kernel_rfl) (by kernel_rfl) (fun _ _ _ h => h) (Or.inl ⟨by rfl, ?_⟩) (by assumption) ?_
       rotate_left
       ·
        intro wq hSw
        clear hSw
        go_simp
        try with_reducible rfl
       simp only [Act.put, List.setIfInBounds_toArray, List.set_cons_zero, List.set_cons_succ]
       refine takeD 4 110 (v := ?_) rfl (by rfl) (by kernel_rfl) (by kernel_rfl) (by kernel_rfl) (fun _ _ _ h => h) (Or.inl ⟨by rfl, ?_⟩) (by assumption) ?_
       rotate_left
       ·
        intro wq hSw
        have k0 := (hSw.cell (p := ⟨g2, 0, none⟩) hg2).trans W0.out
        clear hSw
        go_simp
        try with_reducible rfl
       simp only [Act.put, List.setIfInBounds_toArray, List.set_cons_zero, List.set_cons_succ]
       refine wpAnyH_ready (rs := [2]) (by kernel_rfl) (by simp) ?_
       refine AllReadyH.cons rfl (fun K hK => ?_) AllReadyH.nil
       go_simp
       refine (ints_08 (.slice Ax li.length cx) li wD (HGX.out.below hS) (by omega)).mono ?_
       rintro e y1 ⟨v5, rfl, hown, hbN⟩
       have HOW := Lib.hid (IntsIn.of_own hown)
       have hSN := hS.trans (hbN.mono hS.size)
       refine hK.out _ _ hSN (fun _ => ?_)
       clear hK hown hbN hS
       have hS := hSN
       clear hSN
       refine wpAnyH_ready (rs := [5]) (by kernel_rfl) (by simp) ?_
       refine AllReadyH.cons rfl (fun K hK => ?_) AllReadyH.nil
       go_simp
       refine (eq_same v5 (.slice Bx li.length dx) li y1 HOW.out (HWX.out.below hS) (by omega)).mono ?_
       rintro e y2 ⟨rfl, hbN⟩
       have hSN := hS.trans (hbN.mono hS.size)
       refine hK.out _ _ hSN (fun _ => ?_)
       clear hK hbN hS
       have hS := hSN
       clear hSN
       refine takeD 6 112 (v := ?_) rfl (by rfl) (by kernel_rfl) (by kernel_rfl) (by kernel_rfl) (fun _ _ _ h => h) (Or.inl ⟨by rfl, ?_⟩) (by assumption) ?_
       rotate_left
       ·
        intro wq hSw
        clear hSw
        go_simp
        try with_reducible rfl
       simp only [Act.put, List.setIfInBounds_toArray, List.set_cons_zero, List.set_cons_succ]
       refine takeD 7 113 (v := ?_) rfl (by rfl) (by kernel_rfl) (by kernel_rfl) (by kernel_rfl) (fun _ _ _ h => h) (Or.inl ⟨by rfl, ?_⟩) (by assumption) ?_
       rotate_left
       ·
        intro wq hSw
        clear hSw
        go_simp
        try with_reducible rfl
       simp only [Act.put, List.setIfInBounds_toArray, List.set_cons_zero, List.set_cons_succ]
       refine takeD 8 114 (v := ?_) rfl (by rfl) (by kernel_rfl) (by kernel_rfl) (by kernel_rfl) (fun _ _ _ h => h) (Or.inl ⟨by rfl, ?_⟩) (by assumption) ?_
       rotate_left
       ·
        intro wq hSw
        clear hSw
        go_simp
        try with_reducible rfl
       simp only [Act.put, List.setIfInBounds_toArray, List.set_cons_zero, List.set_cons_succ]
       refine takeD 9 115 (v := ?_) rfl (by rfl) (by kernel_rfl) (by kernel_rfl) (by kernel_rfl) (fun _ _ _ h => h) (Or.inl ⟨by rfl, ?_⟩) (by assumption) ?_
       rotate_left
       ·
        intro wq hSw
        have k0 := (hSw.cell (p := ⟨g1, 1, none⟩) hg1).trans G1.out
        clear hSw
        go_simp
        try with_reducible rfl
       simp only [Act.put, List.setIfInBounds_toArray, List.set_cons_zero, List.set_cons_succ]
       refine takeD 10 116 (v := ?_) rfl (by rfl) (by kernel_rfl) (by kernel_rfl) (by kernel_rfl) (fun _ _ _ h => h) (Or.inl ⟨by rfl, ?_⟩) (by assumption) ?_
       rotate_left
       ·
        intro wq hSw
        clear hSw
        go_simp
        try with_reducible rfl
       simp only [Act.put, List.setIfInBounds_toArray, List.set_cons_zero, List.set_cons_succ]
       refine takeD 11 117 (v := ?_) rfl (by rfl) (by kernel_rfl) (by kernel_rfl) (by kernel_rfl) (fun _ _ _ h => h) (Or.inl ⟨by rfl, ?_⟩) (by assumption) ?_
       rotate_left
       ·
        intro wq hSw
        have k0 := (hSw.cell (p := ⟨g2, 1, none⟩) hg2).trans W1.out
        clear hSw
        go_simp
        try with_reducible rfl
       simp only [Act.put, List.setIfInBounds_toArray, List.set_cons_zero, List.set_cons_succ]
       refine takeD 12 118 (v := ?_) rfl (by rfl) (by kernel_rfl) (by kernel_rfl) (by kernel_rfl) (fun _ _ _ h => h) (Or.inl ⟨by rfl, ?_⟩) (by assumption) ?_
       rotate_left
       ·
        intro wq hSw
        clear hSw
        go_simp
        try with_reducible rfl
       simp only [Act.put, List.setIfInBounds_toArray, List.set_cons_zero, List.set_cons_succ]
       refine takeD 13 119 (v := ?_) rfl (by rfl) (by kernel_rfl) (by kernel_rfl) (by kernel_rfl) (fun _ _ _ h => h) (Or.inl ⟨by rfl, ?_⟩) (by assumption) ?_
       rotate_left
       ·
        intro wq hSw
        clear hSw
        go_simp
        try with_reducible rfl
       simp only [Act.put, List.setIfInBounds_toArray, List.set_cons_zero, List.set_cons_succ]
       refine takeD 14 120 (v := ?_) rfl (by rfl) (by kernel_rfl) (by kernel_rfl) (by kernel_rfl) (fun _ _ _ h => h) (Or.inl ⟨by rfl, ?_⟩) (by assumption) ?_
       rotate_left
       ·
        intro wq hSw
        clear hSw
        go_simp
        try with_reducible rfl
       simp only [Act.put, List.setIfInBounds_toArray, List.set_cons_zero, List.set_cons_succ]
       refine takeD 15 121 (v := ?_) rfl (by rfl) (by kernel_rfl) (by kernel_rfl) (by kernel_rfl) (fun _ _ _ h => h) (Or.inl ⟨by rfl, ?_⟩) (by assumption) ?_
       rotate_left
       ·
        intro wq hSw
        clear hSw
        go_simp
        try with_reducible rfl
       simp only [Act.put, List.setIfInBounds_toArray, List.set_cons_zero, List.set_cons_succ]
       refine takeD 16 122 (v := ?_) rfl (by rfl) (by kernel_rfl) (by kernel_rfl) (by kernel_rfl) (fun _ _ _ h => h) (Or.inl ⟨by rfl, ?_⟩) (by assumption) ?_
       rotate_left
       ·
        intro wq hSw
        have k0 := (hSw.cell (p := ⟨g1, 2, none⟩) hg1).trans G2.out
        clear hSw
        go_simp
        try with_reducible rfl
       simp only [Act.put, List.setIfInBounds_toArray, List.set_cons_zero, List.set_cons_succ]
       refine takeD 17 123 (v := ?_) rfl (by rfl) (by kernel_rfl) (by kernel_rfl) (by kernel_rfl) (fun _ _ _ h => h) (Or.inl ⟨by rfl, ?_⟩) (by assumption) ?_
       rotate_left
       ·
        intro wq hSw
        clear hSw
        go_simp
        try with_reducible rfl
       simp only [Act.put, List.setIfInBounds_toArray, List.set_cons_zero, List.set_cons_succ]
       refine takeD 18 124 (v := ?_) rfl (by rfl) (by kernel_rfl) (by kernel_rfl) (by kernel_rfl) (fun _ _ _ h => h) (Or.inl ⟨by rfl, ?_⟩) (by assumption) ?_
       rotate_left
       ·
        intro wq hSw
        have k0 := (hSw.cell (p := ⟨g2, 2, none⟩) hg2).trans W2.out
        clear hSw
        go_simp
        try with_reducible rfl
       simp only [Act.put, List.setIfInBounds_toArray, List.set_cons_zero, List.set_cons_succ]
       refine takeD 19 125 (v := ?_) rfl (by rfl) (by kernel_rfl) (by kernel_rfl) (by kernel_rfl) (fun _ _ _ h => h) (Or.inl ⟨by rfl, ?_⟩) (by assumption) ?_
       rotate_left
       ·
        intro wq hSw
        clear hSw
        go_simp
        try with_reducible rfl
       simp only [Act.put, List.setIfInBounds_toArray, List.set_cons_zero, List.set_cons_succ]
       refine takeD 20 126 (v := ?_) rfl (by rfl) (by kernel_rfl) (by kernel_rfl) (by kernel_rfl) (fun _ _ _ h => h) (Or.inl ⟨by rfl, ?_⟩) (by assumption) ?_
       rotate_left
       ·
        intro wq hSw
        clear hSw
        go_simp
        try with_reducible rfl
       simp only [Act.put, List.setIfInBounds_toArray, List.set_cons_zero, List.set_cons_succ]
       refine takeD 21 127 (v := ?_) rfl (by rfl) (by kernel_rfl) (by kernel_rfl) (by kernel_rfl) (fun _ _ _ h => h) (Or.inl ⟨by rfl, ?_⟩) (by assumption) ?_
       rotate_left
       ·
        intro wq hSw
        clear hSw
        go_simp
        try with_reducible rfl
       simp only [Act.put, List.setIfInBounds_toArray, List.set_cons_zero, List.set_cons_succ]
       refine takeD 22 128 (v := ?_) rfl (by rfl) (by kernel_rfl) (by kernel_rfl) (by kernel_rfl) (fun _ _ _ h => h) (Or.inl ⟨by rfl, ?_⟩) (by assumption) ?_
       rotate_left
       ·
        intro wq hSw
        clear hSw
        go_simp
        try with_reducible rfl
       simp only [Act.put, List.setIfInBounds_toArray, List.set_cons_zero, List.set_cons_succ]
       refine takeD 23 129 (v := ?_) rfl (by rfl) (by kernel_rfl) (by kernel_rfl) (by kernel_rfl) (fun _ _ _ h => h) (Or.inl ⟨by rfl, ?_⟩) (by assumption) ?_
       rotate_left
       ·
        intro wq hSw
        have k0 := (hSw.cell (p := ⟨g1, 3, none⟩) hg1).trans G3.out
        clear hSw
        go_simp
        try with_reducible rfl
       simp only [Act.put, List.setIfInBounds_toArray, List.set_cons_zero, List.set_cons_succ]
       refine takeD 24 130 (v := ?_) rfl (by rfl) (by kernel_rfl) (by kernel_rfl) (by kernel_rfl) (fun _ _ _ h => h) (Or.inl ⟨by rfl, ?_⟩) (by assumption) ?_
       rotate_left
       ·
        intro wq hSw
        clear hSw
        go_simp
        try with_reducible rfl
       simp only [Act.put, List.setIfInBounds_toArray, List.set_cons_zero, List.set_cons_succ]
       refine takeD 25 131 (v := ?_) rfl (by rfl) (by kernel_rfl) (by kernel_rfl) (by kernel_rfl) (fun _ _ _ h => h) (Or.inl ⟨by rfl, ?_⟩) (by assumption) ?_
       rotate_left
       ·
        intro wq hSw
        have k0 := (hSw.cell (p := ⟨g2, 3, none⟩) hg2).trans W3.out
        clear hSw
        go_simp
        try with_reducible rfl
       simp only [Act.put, List.setIfInBounds_toArray, List.set_cons_zero, List.set_cons_succ]
       refine wpAnyH_ready (rs := [26]) (by kernel_rfl) (by simp) ?_
       refine AllReadyH.cons rfl (fun K hK => ?_) AllReadyH.nil
       go_simp
       refine (eq_same (.slice Ay hi.length cy) (.slice By hi.length dy) hi y2 (HGY.out.below hS) (HWY.out.below hS) (by omega)).mono ?_
       rintro e y3 ⟨rfl, hbN⟩
       have hSN := hS.trans (hbN.mono hS.size)
       refine hK.out _ _ hSN (fun _ => ?_)
       clear hK hbN hS
       have hS := hSN
       clear hSN
       refine takeD 27 133 (v := ?_) rfl (by rfl) (by kernel_rfl) (by kernel_rfl) (by kernel_rfl) (fun _ _ _ h => h) (Or.inl ⟨by rfl, ?_⟩) (by assumption) ?_
       rotate_left
       ·
        intro wq hSw
        clear hSw
        go_simp
        try with_reducible rfl
       simp only [Act.put, List.setIfInBounds_toArray, List.set_cons_zero, List.set_cons_succ]
       refine takeD 28 134 (v := ?_) rfl (by rfl) (by kernel_rfl) (by kernel_rfl) (by kernel_rfl) (fun _ _ _ h => h) (Or.inl ⟨by rfl, ?_⟩) (by assumption) ?_
       rotate_left
       ·
        intro wq hSw
        clear hSw
        go_simp
        try with_reducible rfl
       simp only [Act.put, List.setIfInBounds_toArray, List.set_cons_zero, List.set_cons_succ]
       refine takeD 29 135 (v := ?_) rfl (by rfl) (by kernel_rfl) (by kernel_rfl) (by kernel_rfl) (fun _ _ _ h => h) (Or.inl ⟨by rfl, ?_⟩) (by assumption) ?_
       rotate_left
       ·
        intro wq hSw
        clear hSw
        go_simp
        try with_reducible rfl
       simp only [Act.put, List.setIfInBounds_toArray, List.set_cons_zero, List.set_cons_succ]
       refine takeD 30 136 (v := ?_) rfl (by rfl) (by kernel_rfl) (by kernel_rfl) (by kernel_rfl) (fun _ _ _ h => h) (Or.inl ⟨by rfl, ?_⟩) (by assumption) ?_
       rotate_left
       ·
        intro wq hSw
        clear hSw
        go_simp
        try with_reducible rfl
       simp only [Act.put, List.setIfInBounds_toArray, List.set_cons_zero, List.set_cons_succ]
       refine takeD 31 137 (v := ?_) rfl (by rfl) (by kernel_rfl) (by kernel_rfl) (by kernel_rfl) (fun _ _ _ h => h) (Or.inl ⟨by rfl, ?_⟩) (by assumption) ?_
       rotate_left
       ·
        intro wq hSw
        have k0 := (hSw.cell (p := ⟨g1, 4, none⟩) hg1).trans G4.out
        clear hSw
        go_simp
        try with_reducible rfl
       simp only [Act.put, List.setIfInBounds_toArray, List.set_cons_zero, List.set_cons_succ]
       refine takeD 32 138 (v := ?_) rfl (by rfl) (by kernel_rfl) (by kernel_rfl) (by kernel_rfl) (fun _ _ _ h => h) (Or.inl ⟨by rfl, ?_⟩) (by assumption) ?_
       rotate_left
       ·
        intro wq hSw
        clear hSw
        go_simp
        try with_reducible rfl
       simp only [Act.put, List.setIfInBounds_toArray, List.set_cons_zero, List.set_cons_succ]
       refine takeD 33 139 (v := ?_) rfl (by rfl) (by kernel_rfl) (by kernel_rfl) (by kernel_rfl) (fun _ _ _ h => h) (Or.inl ⟨by rfl, ?_⟩) (by assumption) ?_
       rotate_left
       ·
        intro wq hSw
        have k0 := (hSw.cell (p := ⟨g2, 4, none⟩) hg2).trans W4.out
        clear hSw
        go_simp
        try with_reducible rfl
       simp only [Act.put, List.setIfInBounds_toArray, List.set_cons_zero, List.set_cons_succ]
       refine wpAnyH_ready (rs := [34]) (by kernel_rfl) (by simp) ?_
       refine AllReadyH.cons rfl (fun K hK => ?_) AllReadyH.nil
       go_simp
       refine (eq_same (.slice Az mt.length cz) (.slice Bz mt.length dz) mt y3 (HGZ.out.below hS) (HWZ.out.below hS) (by omega)).mono ?_
       rintro e y4 ⟨rfl, hbN⟩
       have hSN := hS.trans (hbN.mono hS.size)
       refine hK.out _ _ hSN (fun _ => ?_)
       clear hK hbN hS
       have hS := hSN
       clear hSN
       refine takeD 35 141 (v := ?_) rfl (by rfl) (by kernel_rfl) (by kernel_rfl) (by kernel_rfl) (fun _ _ _ h => h) (Or.inl ⟨by rfl, ?_⟩) (by assumption) ?_
       rotate_left
       ·
        intro wq hSw
        clear hSw
        go_simp
        try with_reducible rfl
       simp only [Act.put, List.setIfInBounds_toArray, List.set_cons_zero, List.set_cons_succ]
       refine takeD 36 142 (v := ?_) rfl (by rfl) (by kernel_rfl) (by kernel_rfl) (by kernel_rfl) (fun _ _ _ h => h) (Or.inl ⟨by rfl, ?_⟩) (by assumption) ?_
       rotate_left
       ·
        intro wq hSw
        clear hSw
        go_simp
        try with_reducible rfl
       simp only [Act.put, List.setIfInBounds_toArray, List.set_cons_zero, List.set_cons_succ]
       refine takeD 37 143 (v := ?_) rfl (by rfl) (by kernel_rfl) (by kernel_rfl) (by kernel_rfl) (fun _ _ _ h => h) (Or.inl ⟨by rfl, ?_⟩) (by assumption) ?_
       rotate_left
       ·
        intro wq hSw
        clear hSw
        go_simp
        try with_reducible rfl
       simp only [Act.put, List.setIfInBounds_toArray, List.set_cons_zero, List.set_cons_succ]
       refine takeD 38 144 (v := ?_) rfl (by rfl) (by kernel_rfl) (by kernel_rfl) (by kernel_rfl) (fun _ _ _ h => h) (Or.inl ⟨by rfl, ?_⟩) (by assumption) ?_
       rotate_left
       ·
        intro wq hSw
        clear hSw
        go_simp
        try with_reducible rfl
       simp only [Act.put, List.setIfInBounds_toArray, List.set_cons_zero, List.set_cons_succ]
       refine takeD 39 145 (v := ?_) rfl (by rfl) (by kernel_rfl) (by kernel_rfl) (by kernel_rfl) (fun _ _ _ h => h) (Or.inl ⟨by rfl, ?_⟩) (by assumption) ?_
       rotate_left
       ·
        intro wq hSw
        clear hSw
        go_simp
        try with_reducible rfl
       simp only [Act.put, List.setIfInBounds_toArray, List.set_cons_zero, List.set_cons_succ]
       refine takeD 40 146 (v := ?_) rfl (by rfl) (by kernel_rfl) (by kernel_rfl) (by kernel_rfl) (fun _ _ _ h => h) (Or.inl ⟨by rfl, ?_⟩) (by assumption) ?_
       rotate_left
       ·
        intro wq hSw
        clear hSw
        go_simp
        try with_reducible rfl
       simp only [Act.put, List.setIfInBounds_toArray, List.set_cons_zero, List.set_cons_succ]
       refine takeD 41 147 (v := ?_) rfl (by rfl) (by kernel_rfl) (by kernel_rfl) (by kernel_rfl) (fun _ _ _ h => h) (Or.inl ⟨by rfl, ?_⟩) (by assumption) ?_
       rotate_left
       ·
        intro wq hSw
        clear hSw
        go_simp
        try with_reducible rfl
       simp only [Act.put, List.setIfInBounds_toArray, List.set_cons_zero, List.set_cons_succ]
       refine wpAnyH_done (by kernel_rfl) ?_ _
       have HS4 := Lib.hid hS
       have HGB5 := Lib.hid ((hS.block g1 hg1).trans HGB4.out)
       have HX5 := Lib.hid (own_below HX.out (HB14.out.trans (hS.mono HB14.out.size)))
       have HW5 := Lib.hid (HW4.out.trans (hS.mono HW4.out.size))
       have g0 := mx_cell (j := 0) HGB5.out
       clear hS qb ql qc HWX HWY HWZ HGX HGY HGZ HOW HW4 HB14 HGB4 HWB G0 G1 G2 G3 G4 W0 W1 W2 W3 W4
       obtain ⟨wo, rfl⟩ : ∃ wo : World, wo = wr := ⟨_, rfl⟩
       go_wp2_with fail
       clear g0
       go_loopw [151] (fun iv wr => ∃ (j : Nat) (ys : List Value), j ≤ li.length ∧ iv = .int .i64 j ∧ Hid (wr.ownsRow wo.heap.size 35 1 (.slice Ax li.length cx) li.length ys) ∧ Hid (wr.heap[g1]? = some (.cells #[.slice Ax li.length cx, .int .i64 bk, .int .i64 lvl, .slice Ay hi.length cy, .slice Az mt.length cz] 42 (0, 0))) ∧ Hid (Below wo.heap.size wo wr)) (fun iv _ => li.length - (intOf iv).toNat)
       case atStart => exact ⟨0, _, Nat.zero_le _, rfl, HX5, HGB5, HW5⟩
       case round =>
        obtain ⟨j, ys, hj, rfl, HO, HGW, HWO⟩ := hrel
        by_cases hlt2 : j < li.length
        ·
         obtain ⟨ga, ca', csa, hsl, hle, hba, hga, hblk, _⟩ := mx_some HO.out (by omega)
         simp only [Value.slice.injEq, true_and] at hsl
         obtain ⟨rfl, rfl⟩ := hsl
         have hga1 : ga < g1 := by rw [← HG1E.out]; exact (own_lt HX.out ga rfl).2
         obtain ⟨uo, huo⟩ : ∃ q, ys[j]? = some q := by
          have h1 := HO.out.1
          exact getElem_of (by omega)
         have p0 := mx_at HO.out huo
         have fr := mx_free (j := j) hblk
         have g0 := mx_cell (j := 0) HGW.out
         have hjc : j < cx := by omega
         have HO2 := Lib.hid (own_put (j := j) HO.out (.int .i64 99))
         have HK2 := Lib.hid ((Kept.refl (fun g => g = ga) wr).setCell ⟨ga, j, none⟩ (.int .i64 99) rfl)
         have HG2 := Lib.hid ((HK2.out.block g1 (heap_lt HGW.out) (by omega)).trans HGW.out)
         have HW2 := Lib.hid (HWO.out.setCell (p := ⟨ga, j, none⟩) hba (.int .i64 99))
         clear hblk huo
         go_wp2_with fail
         go_roundw
         case rel => exact ⟨j + 1, _, by omega, by go_num, HO2, HG2, HW2⟩
         case measure => simp [intOf]; omega
        ·
         obtain rfl : j = li.length := by omega
         go_wp2_with fail
         go_roundw
         case rel => exact ⟨k + 1, by omega, by go_num, Lib.hid (HW.out.trans (HWO.out.mono HW.out.size))⟩
         case measure => simp [intOf]; omega
      ·
       obtain rfl : k = 2 := by omega
       obtain ⟨we, rfl⟩ : ∃ wo : World, wo = wr := ⟨_, rfl⟩
       clear HCF HCG hlt hk
       have hw0 := HW.out.size
       obtain ⟨_, OA, OT, pA, pT, _⟩ := HPC.out
       have HPAR := Lib.hid pA
       have HPTR := Lib.hid pT
       clear pA pT
       go_wp2_with fail
       refine (HLV1.out we _ a b (HPC.out.below HW.out)).mono ?_
       rintro e z1 ⟨rfl, hb⟩
       have H1 := Lib.hid (HW.out.trans (hb.mono HW.out.size))
       clear hb
       have r0 := (H1.out.cell (p := ⟨rb, 0, none⟩) hzr).trans CR0.out
       have r1 := (H1.out.cell (p := ⟨rb, 1, none⟩) hzr).trans CR1.out
       have s0 := (H1.out.cell (p := ⟨rb + 1, 0, none⟩) hzs).trans CS0.out
       have s1 := (H1.out.cell (p := ⟨rb + 1, 1, none⟩) hzs).trans CS1.out
       have s2 := (H1.out.cell (p := ⟨rb + 1, 2, none⟩) hzs).trans CS2.out
       have s3 := (H1.out.cell (p := ⟨rb + 1, 3, none⟩) hzs).trans CS3.out
       go_wp2_with fail
       refine (HLV2.out z1 _ _ (HRO.out.below H1.out) (HRT.out.below H1.out)).mono ?_
       rintro e z2 ⟨rfl, hb⟩
       have H2 := Lib.hid (H1.out.trans (hb.mono H1.out.size))
       clear hb
       clear r0 r1 s0 s1 s2 s3
       have qv : (lv != lv) = false := by simp
       have qw : (lc != lc) = false := by simp
       go_wp2_with fail
       refine (HRI1.out z2 _ a b (HPC.out.below H2.out)).mono ?_
       rintro e z3 ⟨rfl, hb⟩
       have H3 := Lib.hid (H2.out.trans (hb.mono H2.out.size))
       clear hb
       go_wp2_with fail
       refine (HLN1.out _ z3 _ a b A (.slice Au c.length cu) (HPC.out.below H3.out) (HUC.out.below H3.out)).mono ?_
       rintro e z4 ⟨rfl, hb⟩
       have H4 := Lib.hid (H3.out.trans (hb.mono H3.out.size))
       clear hb
       clear qv qw
       have hz4r := Nat.lt_of_lt_of_le hzr H4.out.size
       have hz4s := Nat.lt_of_lt_of_le hzs H4.out.size
       have D0 := Lib.hid ((H4.out.cell (p := ⟨rb + 1, 0, none⟩) hzs).trans CS0.out)
       have D1 := Lib.hid ((H4.out.cell (p := ⟨rb + 1, 1, none⟩) hzs).trans CS1.out)
       have D2 := Lib.hid ((H4.out.cell (p := ⟨rb + 1, 2, none⟩) hzs).trans CS2.out)
       have D3 := Lib.hid ((H4.out.cell (p := ⟨rb + 1, 3, none⟩) hzs).trans CS3.out)
       have HU4 := Lib.hid (HUC.out.below H4.out)
       go_upto_region 35 with fail
       refine wp_region_held_drew (S := fun w' => Below z4.heap.size z4 w') (by kernel_rfl) (mx_drew z4) (fun hS => ?_)
       obtain ⟨wD, hwD⟩ : ∃ x, (z4).drew = x := ⟨_, rfl⟩
       rw [hwD] at hS ⊢
       clear hwD
       refine takeD 0 196 (v := ?_) rfl (by rfl) (by kernel_rfl) (by kernel_rfl) (by kernel_rfl) (fun _ _ _ h => h) (Or.inl ⟨by rfl, ?_⟩) (by assumption) ?_
       rotate_left
       ·
        intro wq hSw
        have k0 := (hSw.cell (p := ⟨rb + 1, 0, none⟩) hz4s).trans D0.out
        have k1 := (hSw.cell (p := ⟨rb + 1, 1, none⟩) hz4s).trans D1.out
        have k2 := (hSw.cell (p := ⟨rb + 1, 2, none⟩) hz4s).trans D2.out
        have k3 := (hSw.cell (p := ⟨rb + 1, 3, none⟩) hz4s).trans D3.out
        clear hSw
        go_simp
        try with_reducible rfl
       simp only [Act.put, List.setIfInBounds_toArray, List.set_cons_zero, List.set_cons_succ]
       refine takeD 1 197 (v := ?_) rfl (by rfl) (by kernel_rfl) (by kernel_rfl) (by kernel_rfl) (fun _ _ _ h => h) (Or.inl ⟨by rfl, ?_⟩) (by assumption) ?_
       rotate_left
       ·
        intro wq hSw
        clear hSw
        go_simp
        try with_reducible rfl
       simp only [Act.put, List.setIfInBounds_toArray, List.set_cons_zero, List.set_cons_succ]
       refine wpAnyH_ready (rs := [2]) (by kernel_rfl) (by simp) ?_
       refine AllReadyH.cons rfl (fun K hK => ?_) AllReadyH.nil
       go_simp
       refine (ints_08 (.slice Au c.length cu) c wD (HU4.out.below hS) (by omega)).mono ?_
       rintro e y1 ⟨v5, rfl, hown, hbN⟩
       have HOW := Lib.hid (IntsIn.of_own hown)
       have hSN := hS.trans (hbN.mono hS.size)
       refine hK.out _ _ hSN (fun _ => ?_)
       clear hK hown hbN hS
       have hS := hSN
       clear hSN
       refine wpAnyH_ready (rs := [3]) (by kernel_rfl) (by simp) ?_
       refine AllReadyH.cons rfl (fun K hK => ?_) AllReadyH.nil
       go_simp
       refine (HLN2.out _ y1 _ v5 ((HRT.out.below H4.out).below hS) HOW.out).mono ?_
       rintro e y2 ⟨rfl, hbN⟩
       have hSN := hS.trans (hbN.mono hS.size)
       refine hK.out _ _ hSN (fun _ => ?_)
       clear hK hbN hS
       have hS := hSN
       clear hSN
       refine takeD 4 195 (v := ?_) rfl (by rfl) (by kernel_rfl) (by kernel_rfl) (by kernel_rfl) (fun _ _ _ h => h) (Or.inl ⟨by rfl, ?_⟩) (by assumption) ?_
       rotate_left
       ·
        intro wq hSw
        clear hSw
        go_simp
        try with_reducible rfl
       simp only [Act.put, List.setIfInBounds_toArray, List.set_cons_zero, List.set_cons_succ]
       refine takeD 5 200 (v := ?_) rfl (by rfl) (by kernel_rfl) (by kernel_rfl) (by kernel_rfl) (fun _ _ _ h => h) (Or.inl ⟨by rfl, ?_⟩) (by assumption) ?_
       rotate_left
       ·
        intro wq hSw
        clear hSw
        go_simp
        try with_reducible rfl
       simp only [Act.put, List.setIfInBounds_toArray, List.set_cons_zero, List.set_cons_succ]
       refine takeD 6 201 (v := ?_) rfl (by rfl) (by kernel_rfl) (by kernel_rfl) (by kernel_rfl) (fun _ _ _ h => h) (Or.inl ⟨by rfl, ?_⟩) (by assumption) ?_
       rotate_left
       ·
        intro wq hSw
        clear hSw
        go_simp
        try with_reducible rfl
       simp only [Act.put, List.setIfInBounds_toArray, List.set_cons_zero, List.set_cons_succ]
       refine takeD 7 34 (v := ?_) rfl (by rfl) (by kernel_rfl) (by kernel_rfl) (by kernel_rfl) (fun _ _ _ h => h) (Or.inl ⟨by rfl, ?_⟩) (by assumption) ?_
       rotate_left
       ·
        intro wq hSw
        clear hSw
        go_simp
        try with_reducible rfl
       simp only [Act.put, List.setIfInBounds_toArray, List.set_cons_zero, List.set_cons_succ]
       refine takeD 8 35 (v := ?_) rfl (by rfl) (by kernel_rfl) (by kernel_rfl) (by kernel_rfl) (fun _ _ _ h => h) (Or.inl ⟨by rfl, ?_⟩) (by assumption) ?_
       rotate_left
       ·
        intro wq hSw
        clear hSw
        go_simp
        try with_reducible rfl
       simp only [Act.put, List.setIfInBounds_toArray, List.set_cons_zero, List.set_cons_succ]
       refine wpAnyH_done (by kernel_rfl) ?_ _
       have H5 := Lib.hid (H4.out.trans (hS.mono H4.out.size))
       clear hS HOW D0 D1 D2 D3 HU4
       go_wp2_with fail
       refine (ints_08 (.slice Au c.length cu) c y2 (HUC.out.below H5.out) (by omega)).mono ?_
       rintro e y3 ⟨v7, rfl, hown, hb⟩
       have HOW := Lib.hid (IntsIn.of_own hown)
       have H6 := Lib.hid (H5.out.trans (hb.mono H5.out.size))
       clear hown hb
       have HRC := Lib.hid (ref_right_clause v7 c y3 HOW.out (by omega))
       obtain ⟨cb, hcb⟩ : ∃ q, clauseB c = q := ⟨_, rfl⟩
       rw [hcb] at HRC HLN0
       clear hcb
       go_wp2_with fail
       refine HRC.out.mono ?_
       rintro e w' ⟨rfl, rfl⟩
       clear HRC HOW
       go_upto_if 205 with fail
       go_cut [34] (fun q wx => q = .int .i64 ln ∧ wx = y3)
       case first =>
        cases cb with
        | true =>
         go_wp2_with fail
         go_meet
         exact ⟨rfl, rfl⟩
        | false =>
         have HL0 := Lib.hid (HLN0.out rfl)
         go_wp2_with fail
         go_meet
         exact ⟨by rw [HL0.out], rfl⟩
       case rest =>
        obtain ⟨rfl, rfl⟩ := hcut
        have hz6r := Nat.lt_of_lt_of_le hzr H6.out.size
        have hz6s := Nat.lt_of_lt_of_le hzs H6.out.size
        have D0 := Lib.hid ((H6.out.cell (p := ⟨rb + 1, 0, none⟩) hzs).trans CS0.out)
        have D1 := Lib.hid ((H6.out.cell (p := ⟨rb + 1, 1, none⟩) hzs).trans CS1.out)
        have D2 := Lib.hid ((H6.out.cell (p := ⟨rb + 1, 2, none⟩) hzs).trans CS2.out)
        have D3 := Lib.hid ((H6.out.cell (p := ⟨rb + 1, 3, none⟩) hzs).trans CS3.out)
        have E0 := Lib.hid ((H6.out.cell (p := ⟨rb, 0, none⟩) hzr).trans CR0.out)
        have E1 := Lib.hid ((H6.out.cell (p := ⟨rb, 1, none⟩) hzr).trans CR1.out)
        have HPA6 := Lib.hid (HPAR.out.below H6.out)
        have HPT6 := Lib.hid (HPTR.out.below H6.out)
        have HOL := Lib.hid (show TT.order.length = t.items.length from by rw [HORD.out, List.length_map])
        have qr : (rb0 != rb0) = false := by simp
        have qn : (ln != ln) = false := by simp
        have qe : (le != le) = false := by simp
        have qi : ((t.items.length : Int) != (t.items.length : Int)) = false := by simp
        have qa : ((ra.all.length : Int) != (ra.all.length : Int)) = false := by simp
        go_upto_region 38 with fail
        refine wp_region_held_drew (S := fun w' => Below wc.heap.size wc w') (by kernel_rfl) (mx_drew wc) (fun hS => ?_)
        obtain ⟨wD, hwD⟩ : ∃ x, (wc).drew = x := ⟨_, rfl⟩
        rw [hwD] at hS ⊢
        clear hwD
        refine takeD 0 206 (v := ?_) rfl (by rfl) (by kernel_rfl) (by kernel_rfl) (by kernel_rfl) (fun _ _ _ h => h) (Or.inl ⟨by rfl, ?_⟩) (by assumption) ?_
        rotate_left
        ·
         intro wq hSw
         clear hSw
         go_simp
         try with_reducible rfl
        simp only [Act.put, List.setIfInBounds_toArray, List.set_cons_zero, List.set_cons_succ]
        refine takeD 1 207 (v := ?_) rfl (by rfl) (by kernel_rfl) (by kernel_rfl) (by kernel_rfl) (fun _ _ _ h => h) (Or.inl ⟨by rfl, ?_⟩) (by assumption) ?_
        rotate_left
        ·
         intro wq hSw
         have k0 := (hSw.cell (p := ⟨rb, 0, none⟩) hz6r).trans E0.out
         have k1 := (hSw.cell (p := ⟨rb, 1, none⟩) hz6r).trans E1.out
         clear hSw
         go_simp
         try with_reducible rfl
        simp only [Act.put, List.setIfInBounds_toArray, List.set_cons_zero, List.set_cons_succ]
        refine takeD 2 208 (v := ?_) rfl (by rfl) (by kernel_rfl) (by kernel_rfl) (by kernel_rfl) (fun _ _ _ h => h) (Or.inl ⟨by rfl, ?_⟩) (by assumption) ?_
        rotate_left
        ·
         intro wq hSw
         have k0 := (hSw.cell (p := ⟨rb + 1, 0, none⟩) hz6s).trans D0.out
         have k1 := (hSw.cell (p := ⟨rb + 1, 1, none⟩) hz6s).trans D1.out
         have k2 := (hSw.cell (p := ⟨rb + 1, 2, none⟩) hz6s).trans D2.out
         have k3 := (hSw.cell (p := ⟨rb + 1, 3, none⟩) hz6s).trans D3.out
         clear hSw
         go_simp
         try with_reducible rfl
        simp only [Act.put, List.setIfInBounds_toArray, List.set_cons_zero, List.set_cons_succ]
        refine takeD 3 209 (v := ?_) rfl (by rfl) (by kernel_rfl) (by kernel_rfl) (by kernel_rfl) (fun _ _ _ h => h) (Or.inl ⟨by rfl, ?_⟩) (by assumption) ?_
        rotate_left
        ·
         intro wq hSw
         clear hSw
         go_simp
         try with_reducible rfl
        simp only [Act.put, List.setIfInBounds_toArray, List.set_cons_zero, List.set_cons_succ]
        refine wpAnyH_ready (rs := [4]) (by kernel_rfl) (by simp) ?_
        refine AllReadyH.cons rfl (fun K hK => ?_) AllReadyH.nil
        go_simp
        refine (HRI2.out wD _ _ ((HRO.out.below H6.out).below hS) ((HRT.out.below H6.out).below hS)).mono ?_
        rintro e u1 ⟨rfl, hbN⟩
        have hSN := hS.trans (hbN.mono hS.size)
        refine hK.out _ _ hSN (fun _ => ?_)
        clear hK hbN hS
        have hS := hSN
        clear hSN
        refine takeD 5 211 (v := ?_) rfl (by rfl) (by kernel_rfl) (by kernel_rfl) (by kernel_rfl) (fun _ _ _ h => h) (Or.inl ⟨by rfl, ?_⟩) (by assumption) ?_
        rotate_left
        ·
         intro wq hSw
         clear hSw
         go_simp
         try with_reducible rfl
        simp only [Act.put, List.setIfInBounds_toArray, List.set_cons_zero, List.set_cons_succ]
        refine takeD 6 212 (v := ?_) rfl (by rfl) (by kernel_rfl) (by kernel_rfl) (by kernel_rfl) (fun _ _ _ h => h) (Or.inl ⟨by rfl, ?_⟩) (by assumption) ?_
        rotate_left
        ·
         intro wq hSw
         clear hSw
         go_simp
         try with_reducible rfl
        simp only [Act.put, List.setIfInBounds_toArray, List.set_cons_zero, List.set_cons_succ]
        refine takeD 7 213 (v := ?_) rfl (by rfl) (by kernel_rfl) (by kernel_rfl) (by kernel_rfl) (fun _ _ _ h => h) (Or.inl ⟨by rfl, ?_⟩) (by assumption) ?_
        rotate_left
        ·
         intro wq hSw
         clear hSw
         go_simp
         try with_reducible rfl
        simp only [Act.put, List.setIfInBounds_toArray, List.set_cons_zero, List.set_cons_succ]
        refine takeD 8 214 (v := ?_) rfl (by rfl) (by kernel_rfl) (by kernel_rfl) (by kernel_rfl) (fun _ _ _ h => h) (Or.inl ⟨by rfl, ?_⟩) (by assumption) ?_
        rotate_left
        ·
         intro wq hSw
         clear hSw
         go_simp
         try with_reducible rfl
        simp only [Act.put, List.setIfInBounds_toArray, List.set_cons_zero, List.set_cons_succ]
        refine takeD 9 215 (v := ?_) rfl (by rfl) (by kernel_rfl) (by kernel_rfl) (by kernel_rfl) (fun _ _ _ h => h) (Or.inl ⟨by rfl, ?_⟩) (by assumption) ?_
        rotate_left
        ·
         intro wq hSw
         clear hSw
         go_simp
         try with_reducible rfl
        simp only [Act.put, List.setIfInBounds_toArray, List.set_cons_zero, List.set_cons_succ]
        refine takeD 10 216 (v := ?_) rfl (by rfl) (by kernel_rfl) (by kernel_rfl) (by kernel_rfl) (fun _ _ _ h => h) (Or.inl ⟨by rfl, ?_⟩) (by assumption) ?_
        rotate_left
        ·
         intro wq hSw
         clear hSw
         go_simp
         try with_reducible rfl
        simp only [Act.put, List.setIfInBounds_toArray, List.set_cons_zero, List.set_cons_succ]
        refine takeD 11 217 (v := ?_) rfl (by rfl) (by kernel_rfl) (by kernel_rfl) (by kernel_rfl) (fun _ _ _ h => h) (Or.inl ⟨by rfl, ?_⟩) (by assumption) ?_
        rotate_left
        ·
         intro wq hSw
         clear hSw
         go_simp
         try with_reducible rfl
        simp only [Act.put, List.setIfInBounds_toArray, List.set_cons_zero, List.set_cons_succ]
        refine takeD 12 218 (v := ?_) rfl (by rfl) (by kernel_rfl) (by kernel_rfl) (by kernel_rfl) (fun _ _ _ h => h) (Or.inl ⟨by rfl, ?_⟩) (by assumption) ?_
        rotate_left
        ·
         intro wq hSw
         clear hSw
         go_simp
         try with_reducible rfl
        simp only [Act.put, List.setIfInBounds_toArray, List.set_cons_zero, List.set_cons_succ]
        refine takeD 13 219 (v := ?_) rfl (by rfl) (by kernel_rfl) (by kernel_rfl) (by kernel_rfl) (fun _ _ _ h => h) (Or.inl ⟨by rfl, ?_⟩) (by assumption) ?_
        rotate_left
        ·
         intro wq hSw
         clear hSw
         go_simp
         try with_reducible rfl
        simp only [Act.put, List.setIfInBounds_toArray, List.set_cons_zero, List.set_cons_succ]
        refine takeD 14 220 (v := ?_) rfl (by rfl) (by kernel_rfl) (by kernel_rfl) (by kernel_rfl) (fun _ _ _ h => h) (Or.inl ⟨by rfl, ?_⟩) (by assumption) ?_
        rotate_left
        ·
         intro wq hSw
         clear hSw
         go_simp
         try with_reducible rfl
        simp only [Act.put, List.setIfInBounds_toArray, List.set_cons_zero, List.set_cons_succ]
        refine takeD 15 221 (v := ?_) rfl (by rfl) (by kernel_rfl) (by kernel_rfl) (by kernel_rfl) (fun _ _ _ h => h) (Or.inl ⟨by rfl, ?_⟩) (by assumption) ?_
        rotate_left
        ·
         intro wq hSw
         clear hSw
         go_simp
         try with_reducible rfl
        simp only [Act.put, List.setIfInBounds_toArray, List.set_cons_zero, List.set_cons_succ]
        refine takeD 16 222 (v := ?_) rfl (by rfl) (by kernel_rfl) (by kernel_rfl) (by kernel_rfl) (fun _ _ _ h => h) (Or.inl ⟨by rfl, ?_⟩) (by assumption) ?_
        rotate_left
        ·
         intro wq hSw
         clear hSw
         go_simp
         try with_reducible rfl
        simp only [Act.put, List.setIfInBounds_toArray, List.set_cons_zero, List.set_cons_succ]
        refine takeD 17 223 (v := ?_) rfl (by rfl) (by kernel_rfl) (by kernel_rfl) (by kernel_rfl) (fun _ _ _ h => h) (Or.inl ⟨by rfl, ?_⟩) (by assumption) ?_
        rotate_left
        ·
         intro wq hSw
         clear hSw
         go_simp
         try with_reducible rfl
        simp only [Act.put, List.setIfInBounds_toArray, List.set_cons_zero, List.set_cons_succ]
        refine takeD 18 224 (v := ?_) rfl (by rfl) (by kernel_rfl) (by kernel_rfl) (by kernel_rfl) (fun _ _ _ h => h) (Or.inl ⟨by rfl, ?_⟩) (by assumption) ?_
        rotate_left
        ·
         intro wq hSw
         clear hSw
         go_simp
         try with_reducible rfl
        simp only [Act.put, List.setIfInBounds_toArray, List.set_cons_zero, List.set_cons_succ]
        refine takeD 19 225 (v := ?_) rfl (by rfl) (by kernel_rfl) (by kernel_rfl) (by kernel_rfl) (fun _ _ _ h => h) (Or.inl ⟨by rfl, ?_⟩) (by assumption) ?_
        rotate_left
        ·
         intro wq hSw
         clear hSw
         go_simp
         try with_reducible rfl
        simp only [Act.put, List.setIfInBounds_toArray, List.set_cons_zero, List.set_cons_succ]
        refine takeD 20 226 (v := ?_) rfl (by rfl) (by kernel_rfl) (by kernel_rfl) (by kernel_rfl) (fun _ _ _ h => h) (Or.inl ⟨by rfl, ?_⟩) (by assumption) ?_
        rotate_left
        ·
         intro wq hSw
         clear hSw
         go_simp
         try with_reducible rfl
        simp only [Act.put, List.setIfInBounds_toArray, List.set_cons_zero, List.set_cons_succ]
        refine takeD 21 227 (v := ?_) rfl (by rfl) (by kernel_rfl) (by kernel_rfl) (by kernel_rfl) (fun _ _ _ h => h) (Or.inl ⟨by rfl, ?_⟩) (by assumption) ?_
        rotate_left
        ·
         intro wq hSw
         clear hSw
         go_simp
         try with_reducible rfl
        simp only [Act.put, List.setIfInBounds_toArray, List.set_cons_zero, List.set_cons_succ]
        refine takeD 23 229 (v := ?_) rfl (by rfl) (by kernel_rfl) (by kernel_rfl) (by kernel_rfl) (fun _ _ _ h => h) (Or.inl ⟨by rfl, ?_⟩) (by assumption) ?_
        rotate_left
        ·
         intro wq hSw
         clear hSw
         go_simp
         try with_reducible rfl
        simp only [Act.put, List.setIfInBounds_toArray, List.set_cons_zero, List.set_cons_succ]
        refine takeD 24 230 (v := ?_) rfl (by rfl) (by kernel_rfl) (by kernel_rfl) (by kernel_rfl) (fun _ _ _ h => h) (Or.inl ⟨by rfl, ?_⟩) (by assumption) ?_
        rotate_left
        ·
         intro wq hSw
         have k2 := (hSw.cell (p := ⟨rb + 1, 2, none⟩) hz6s).trans D2.out
         clear hSw
         go_simp
         try with_reducible rfl
        simp only [Act.put, List.setIfInBounds_toArray, List.set_cons_zero, List.set_cons_succ]
        refine takeD 25 231 (v := ?_) rfl (by rfl) (by kernel_rfl) (by kernel_rfl) (by kernel_rfl) (fun _ _ _ h => h) (Or.inl ⟨by rfl, ?_⟩) (by assumption) ?_
        rotate_left
        ·
         intro wq hSw
         clear hSw
         go_simp
         try with_reducible rfl
        simp only [Act.put, List.setIfInBounds_toArray, List.set_cons_zero, List.set_cons_succ]
        refine wpAnyH_ready (rs := [22]) (by kernel_rfl) (by simp) ?_
        refine AllReadyH.cons rfl (fun K hK => ?_) AllReadyH.nil
        go_simp
        refine (tr_len b TT u1 (HPT6.out.below hS)).mono ?_
        rintro e w' ⟨rfl, rfl⟩
        rw [HOL.out]
        refine hK.out _ _ hS (fun _ => ?_)
        clear hK
        refine takeD 26 232 (v := ?_) rfl (by rfl) (by kernel_rfl) (by kernel_rfl) (by kernel_rfl) (fun _ _ _ h => h) (Or.inl ⟨by rfl, ?_⟩) (by assumption) ?_
        rotate_left
        ·
         intro wq hSw
         clear hSw
         go_simp
         try with_reducible rfl
        simp only [Act.put, List.setIfInBounds_toArray, List.set_cons_zero, List.set_cons_succ]
        refine takeD 27 233 (v := ?_) rfl (by rfl) (by kernel_rfl) (by kernel_rfl) (by kernel_rfl) (fun _ _ _ h => h) (Or.inl ⟨by rfl, ?_⟩) (by assumption) ?_
        rotate_left
        ·
         intro wq hSw
         clear hSw
         go_simp
         try with_reducible rfl
        simp only [Act.put, List.setIfInBounds_toArray, List.set_cons_zero, List.set_cons_succ]
        refine takeD 28 234 (v := ?_) rfl (by rfl) (by kernel_rfl) (by kernel_rfl) (by kernel_rfl) (fun _ _ _ h => h) (Or.inl ⟨by rfl, ?_⟩) (by assumption) ?_
        rotate_left
        ·
         intro wq hSw
         clear hSw
         go_simp
         try with_reducible rfl
        simp only [Act.put, List.setIfInBounds_toArray, List.set_cons_zero, List.set_cons_succ]
        refine takeD 29 235 (v := ?_) rfl (by rfl) (by kernel_rfl) (by kernel_rfl) (by kernel_rfl) (fun _ _ _ h => h) (Or.inl ⟨by rfl, ?_⟩) (by assumption) ?_
        rotate_left
        ·
         intro wq hSw
         clear hSw
         go_simp
         try with_reducible rfl
        simp only [Act.put, List.setIfInBounds_toArray, List.set_cons_zero, List.set_cons_succ]
        refine takeD 31 237 (v := ?_) rfl (by rfl) (by kernel_rfl) (by kernel_rfl) (by kernel_rfl) (fun _ _ _ h => h) (Or.inl ⟨by rfl, ?_⟩) (by assumption) ?_
        rotate_left
        ·
         intro wq hSw
         clear hSw
         go_simp
         try with_reducible rfl
        simp only [Act.put, List.setIfInBounds_toArray, List.set_cons_zero, List.set_cons_succ]
        refine takeD 32 238 (v := ?_) rfl (by rfl) (by kernel_rfl) (by kernel_rfl) (by kernel_rfl) (fun _ _ _ h => h) (Or.inl ⟨by rfl, ?_⟩) (by assumption) ?_
        rotate_left
        ·
         intro wq hSw
         have k0 := (hSw.cell (p := ⟨rb, 0, none⟩) hz6r).trans E0.out
         clear hSw
         go_simp
         try with_reducible rfl
        simp only [Act.put, List.setIfInBounds_toArray, List.set_cons_zero, List.set_cons_succ]
        refine takeD 33 239 (v := ?_) rfl (by rfl) (by kernel_rfl) (by kernel_rfl) (by kernel_rfl) (fun _ _ _ h => h) (Or.inl ⟨by rfl, ?_⟩) (by assumption) ?_
        rotate_left
        ·
         intro wq hSw
         clear hSw
         go_simp
         try with_reducible rfl
        simp only [Act.put, List.setIfInBounds_toArray, List.set_cons_zero, List.set_cons_succ]
        refine wpAnyH_ready (rs := [30]) (by kernel_rfl) (by simp) ?_
        refine AllReadyH.cons rfl (fun K hK => ?_) AllReadyH.nil
        go_simp
        refine (ar_count a A u1 (HPA6.out.below hS)).mono ?_
        rintro e w' ⟨rfl, rfl⟩
        rw [HCNT.out]
        refine hK.out _ _ hS (fun _ => ?_)
        clear hK
        refine takeD 34 240 (v := ?_) rfl (by rfl) (by kernel_rfl) (by kernel_rfl) (by kernel_rfl) (fun _ _ _ h => h) (Or.inl ⟨by rfl, ?_⟩) (by assumption) ?_
        rotate_left
        ·
         intro wq hSw
         clear hSw
         go_simp
         try with_reducible rfl
        simp only [Act.put, List.setIfInBounds_toArray, List.set_cons_zero, List.set_cons_succ]
        refine takeD 35 241 (v := ?_) rfl (by rfl) (by kernel_rfl) (by kernel_rfl) (by kernel_rfl) (fun _ _ _ h => h) (Or.inl ⟨by rfl, ?_⟩) (by assumption) ?_
        rotate_left
        ·
         intro wq hSw
         clear hSw
         go_simp
         try with_reducible rfl
        simp only [Act.put, List.setIfInBounds_toArray, List.set_cons_zero, List.set_cons_succ]
        refine wpAnyH_done (by kernel_rfl) ?_ _
        have H7 := Lib.hid (H6.out.trans (hS.mono H6.out.size))
        clear hS qr qn qe qi qa HOL D0 D1 D2 D3 E0 E1 HPA6 HPT6
        have s2 := (H7.out.cell (p := ⟨rb + 1, 2, none⟩) hzs).trans CS2.out
        go_wp2_with fail
        clear s2
        go_loopw [245] (fun iv wr => ∃ (k : Nat), k ≤ t.items.length ∧ iv = .int .i64 k ∧ Hid (Below wcl.heap.size wcl wr)) (fun iv _ => t.items.length - (intOf iv).toNat)
        case atStart => exact ⟨0, Nat.zero_le _, rfl, H7⟩
        case round =>
         obtain ⟨k, hk, rfl, HV⟩ := hrel
         by_cases hlt : k < t.items.length
         ·
          obtain ⟨x, hx⟩ := getElem_of hlt
          obtain ⟨iv, sv, hv, hrow, _⟩ := HRT.out
          obtain ⟨gi, oi, ci2, hsl, hle, hgi, i0, i1, i2⟩ := hrow.item hx
          simp only [Value.agg.injEq, Array.mk.injEq, List.cons.injEq, and_true, true_and] at hv
          obtain ⟨e1, e2⟩ := hv
          rw [← e1] at hsl
          simp only [Value.slice.injEq, true_and] at hsl
          obtain ⟨rfl, rfl⟩ := hsl
          have f0 := (HV.out.cell (p := ⟨gi, oi + k * 3, none⟩) hgi).trans i0
          have f1 := (HV.out.cell (p := ⟨gi, oi + k * 3 + 1, none⟩) hgi).trans i1
          have f2 := (HV.out.cell (p := ⟨gi, oi + k * 3 + 2, none⟩) hgi).trans i2
          have hox : TT.order[k]? = some x.lit := by rw [HORD.out, List.getElem?_map, hx]; rfl
          obtain ⟨w5, hw5⟩ : ∃ q, wr.alloc (.cells #[.int .i64 x.lit, .int .i64 x.reason, .int .i64 x.level] 80) = q := ⟨_, rfl⟩
          have HW5 := Lib.hid hw5
          have HB5 := Lib.hid (show Below wr.heap.size wr w5 from by rw [← hw5]; exact mx_al _ _)
          have HBX := Lib.hid (show w5.heap[wr.heap.size]? = some (.cells #[.int .i64 x.lit, .int .i64 x.reason, .int .i64 x.level] 80 (0, 0)) from by rw [← hw5]; exact World.alloc_heap_new _ _)
          have HV5 := Lib.hid (HV.out.trans (HB5.out.mono HV.out.size))
          have HAT := Lib.hid (tr_at b TT k x.lit w5 (HPTR.out.below HV5.out) hox)
          have hkc : k < cI := by omega
          have qx : (x.lit != x.lit) = false := by simp
          clear hx hrow hw5 hox i0 i1 i2 e1 e2
          go_upto_region 43 with fail
          rw [HW5.out]
          go_wp2_with fail
          refine HAT.out.mono ?_
          rintro e w' ⟨rfl, rfl⟩
          have b0 := mx_cell (j := 0) HBX.out
          go_wp2_with fail
          go_roundw
          case rel => exact ⟨k + 1, by omega, by go_num, HV5⟩
          case measure => simp [intOf]; omega
         ·
          obtain rfl : k = t.items.length := by omega
          go_wp2_with fail
          go_ret
          exact ⟨rfl, HBC.out.trans (HV.out.mono HBC.out.size)⟩
end Go.Proofs.YtfbiaclpopjipaaGreat
