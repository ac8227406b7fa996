/- The states of the references (chapter 15). -/
import Derived.Test.YtiodfolcnnkdjaaGreatDs
import Derived.Test.YtiodfolcnnkdjaaGreatLw
namespace Go.Proofs.YtiodfolcnnkdjaaGreat
open Go.RowKit

theorem RTO.andlt {O : Nat → Prop} {w : World} {v : Value} {t : RTr} (h : RTO O w v t) : RTO (fun g => O g ∧ g < w.heap.size) w v t := by
 obtain ⟨iv, sv, h1, ⟨A0, c0, e01, e02, e03, e04⟩, A, c, e1, e2, e3, e4⟩ := h
 refine ⟨iv, sv, h1, ⟨A0, c0, e01, e02, e03, fun j u hj => ?_⟩, A, c, e1, e2, e3, fun j u hj => ?_⟩
 ·
  obtain ⟨g, o, f1, f2, f3, f4⟩ := e04 j u hj
  exact ⟨g, o, f1, f2, ⟨f3, f2⟩, f4⟩
 ·
  obtain ⟨g, o, f1, f2, f3, f4⟩ := e4 j u hj
  exact ⟨g, o, f1, f2, ⟨f3, f2⟩, f4⟩
theorem ref_add_any {O Q : Nat → Prop} (k : Nat) (u : Value) (c : List Int) (a : RAr) (av : Value) (w : World) (h : RAO Q w av a) (hc : IntsIn O w u c) (hcl : c.length ≤ 1000) (hl : a.Low k) (hk : k < 1000) :
  Calls Tryz.prog 52 #[av, .int .i64 ((k : Int) + 1), u] w fun e w' => ∃ v code, e = .returned (.tuple #[v, .int .i64 code]) ∧ RAO (fun g => Q g ∨ O g ∨ w.heap.size ≤ g) w' v (a.put ((k : Int) + 1) c) ∧ Below w.heap.size w w' := by
 obtain ⟨l1, l2, l3, l4⟩ := hl
 have h2 : rUsed a.all ≤ 1000000 := Nat.le_trans l2 (Nat.mul_le_mul_right 1000 (Nat.le_of_lt hk))
 unfold RAr.put
 cases hr : clauseB c with
 | true =>
  refine (ref_add_ok ((k : Int) + 1) u c a av w h hc hcl hr (by omega) h2 (by omega) (by omega) (by omega)).mono ?_
  rintro e w' ⟨v, rfl, h1, h2⟩
  exact ⟨v, 0, rfl, h1, h2⟩
 | false =>
  refine (ref_add_bad ((k : Int) + 1) u c a av w h hc (by omega) hr).mono ?_
  rintro e w' ⟨v, rfl, h1, h2⟩
  exact ⟨v, 20, rfl, h1.mono (fun g hg => .inl hg), h2⟩
theorem res_two {fn : Func} (h : fn.results = #[.cell 6 56, .cell 7 59]) {w : World} {r q : Nat} {a0 a1 c0 c1 c2 c3 : Value} {t t' : TypeId} (h6 : w.heap[r]? = some (.cells #[a0, a1] t (0, 0))) (h7 : w.heap[q]? = some (.cells #[c0, c1, c2, c3] t' (0, 0)))
  (tmps : Array Value) (t6 : tmps[6]?.getD undef = .pointer (some ⟨r, 0, none⟩)) (t7 : tmps[7]?.getD undef = .pointer (some ⟨q, 0, none⟩)) :
  (results fn tmps).run Tryz.prog w = .ok (.tuple #[.agg #[a0, a1], .agg #[c0, c1, c2, c3]]) w := by
 obtain ⟨p0, p1⟩ := bx2 (Below.refl _ _) h6
 obtain ⟨q0, q1, q2, q3⟩ := bx4 (Below.refl _ _) h7
 simp [results, h, go_sem, t6, t7, p0, p1, q0, q1, q2, q3]
set_option maxRecDepth 100000 in
set_option maxHeartbeats 16000000 in
theorem state_any (n : Nat) (cv av : Value) (cs : List (List Int)) (acs : List ActP) (w : World) (hc : ClsAt w cv cs) (ha : ActsIn w av acs) (hcl : cs.length ≤ 900) (hce : ∀ c ∈ cs, c.length ≤ 900) (hal : acs.length ≤ 90) :
  Calls Tryz.prog 21 #[.int .i64 (n : Int), cv, av] w fun e w' => (∃ rv sv, e = .returned (.tuple #[rv, sv]) ∧ RAAt w' rv (rAddAll ⟨[], 0⟩ 0 cs) ∧ RTAt w' sv (rPlayAll ⟨n, 0, [], [0]⟩ acs)) ∧ Below w.heap.size w w' := by
 obtain ⟨ra, hra⟩ : ∃ x, rAddAll ⟨[], 0⟩ 0 cs = x := ⟨_, rfl⟩
 obtain ⟨t, ht⟩ : ∃ x, rPlayAll ⟨n, 0, [], [0]⟩ acs = x := ⟨_, rfl⟩
 have HRA := Lib.hid hra
 have HTT := Lib.hid ht
 rw [hra, ht]
 clear hra ht
 obtain ⟨w1, hw1, hb1, hq0, hq1⟩ := rbox2 w #[.slice none 0 0, .int .i64 0] #[.int .i64 0, .int .i64 0, .slice none 0 0, .slice none 0 0] 56 59
 have HW1 := Lib.hid hw1
 have HB1 := Lib.hid hb1
 have HQ0 := Lib.hid hq0
 have HQ1 := Lib.hid hq1
 have hw1z : w1.heap.size = w.heap.size + 1 + 1 := by rw [← hw1]; simp
 have HCC := Lib.hid hc
 have HAA := Lib.hid ha
 have HCE := Lib.hid hce
 obtain ⟨Ac, cc, rfl, _⟩ := hc
 obtain ⟨Aa, ca, rfl, _⟩ := ha
 have hw1ge : w.heap.size + 1 + 1 ≤ w1.heap.size := Nat.le_of_eq hw1z.symm
 clear hce hw1 hb1 hq0 hq1 hw1z
 go_enter Tryz.func21, Tryz.ntmps21
 go_upto_region 1 with fail
 rw [HW1.out]
 go_wp2_with fail
 refine (ref_new04 n w1).mono ?_
 rintro e w2 ⟨v4, rfl, hrt, hb2⟩
 obtain ⟨E0, c0, F0, d0, rfl⟩ := hrt.parts
 have HRT0 := Lib.hid hrt.andlt
 have HB2 := Lib.hid hb2
 clear hb2 hrt
 simp only [List.length_nil, List.length_cons, Nat.zero_add] at HRT0 ⊢
 obtain ⟨wb, hwb, hbb, hb0, hb1⟩ := rbox2 w2 #[.slice none 0 0, .int .i64 0] #[.int .i64 n, .int .i64 0, .slice E0 0 c0, .slice F0 1 d0] 56 59
 obtain ⟨rb, hrb⟩ : ∃ x, w2.heap.size = x := ⟨_, rfl⟩
 have HWB := Lib.hid hwb
 have HBB := Lib.hid hbb
 have hrbw : rb < wb.heap.size := by rw [← hrb]; exact heap_lt hb0
 have hsbw : rb + 1 < wb.heap.size := by rw [← hrb]; exact heap_lt hb1
 have hw12 : w1.heap.size ≤ rb := by rw [← hrb]; exact HB2.out.size
 have HRB := Lib.hid (show RBox (fun g => w1.heap.size ≤ g ∧ g ≠ rb ∧ g ≠ rb + 1) wb rb ⟨[], 0⟩ from ⟨none, 0, by rw [← hrb]; exact hb0, _, rfl, [], rfl, RowO.nil _ _, fun m hm => by cases hm⟩)
 have HSB := Lib.hid (show SBox (fun g => w1.heap.size ≤ g ∧ g ≠ rb ∧ g ≠ rb + 1) wb (rb + 1) ⟨n, 0, [], [0]⟩ from ⟨E0, c0, F0, d0, by rw [← hrb]; exact hb1, (HRT0.out.below hbb).mono (fun g hg => ⟨hg.1, by have h : g < w2.heap.size := hg.2; omega, by have h : g < w2.heap.size := hg.2; omega⟩)⟩)
 have HRBE := Lib.hid hrb
 clear hwb hbb hb0 hb1 HRT0
 go_upto_region 2 with fail
 rw [HWB.out]
 clear hrb HWB
 go_wp2_with fail
 go_loopw [19] (fun iv wr => ∃ (k : Nat), k ≤ cs.length ∧ iv = .int .i64 k ∧ Hid (RBox (fun g => w1.heap.size ≤ g ∧ g ≠ rb ∧ g ≠ rb + 1) wr rb (rAddAll ⟨[], 0⟩ 0 (cs.take k))) ∧ Hid (SBox (fun g => w1.heap.size ≤ g ∧ g ≠ rb ∧ g ≠ rb + 1) wr (rb + 1) ⟨n, 0, [], [0]⟩) ∧ Hid (Below w2.heap.size w2 wr)) (fun iv _ => cs.length - (intOf iv).toNat)
 case atStart => exact ⟨0, Nat.zero_le _, rfl, HRB, HSB, HBB⟩
 case round =>
  obtain ⟨k, hk, rfl, HR, HS, HW⟩ := hrel
  by_cases hlt : k < cs.length
  ·
   obtain ⟨ck, hck⟩ := getElem_of hlt
   obtain ⟨A', c', hAc, hxs⟩ := HCC.out.below (HB1.out.trans ((HB2.out.trans (HW.out.mono HB2.out.size)).mono HB1.out.size))
   simp only [Value.slice.injEq, true_and] at hAc
   obtain ⟨rfl, rfl⟩ := hAc
   obtain ⟨g, o, u', rfl, hg, e0, hui⟩ := hxs k ck hck
   have HUI := Lib.hid hui
   have hckl := HCE.out ck (List.mem_of_getElem? hck)
   have HTK := Lib.hid (show rAddAll ⟨[], 0⟩ 0 (cs.take (k + 1)) = (rAddAll ⟨[], 0⟩ 0 (cs.take k)).put ((k : Int) + 1) ck from by
    rw [List.take_add_one, hck]
    show rAddAll ⟨[], 0⟩ 0 (cs.take k ++ [ck]) = _
    rw [rAddAll_snoc, List.length_take, Nat.min_eq_left hk, Nat.zero_add])
   have hlow := rAddAll_low (cs.take k) ⟨[], 0⟩ 0 rlow0 (fun c h => Nat.le_trans (HCE.out c (List.mem_of_mem_take h)) (by omega))
   rw [Nat.zero_add, List.length_take, Nat.min_eq_left hk] at hlow
   obtain ⟨rk, hrk⟩ : ∃ x, rAddAll ⟨[], 0⟩ 0 (cs.take k) = x := ⟨_, rfl⟩
   rw [hrk] at HR HTK hlow
   have HLOW := Lib.hid hlow
   obtain ⟨ER, cR, hbk, hro⟩ := HR.out
   have HRO := Lib.hid hro
   have HBK := Lib.hid hbk
   have R0 := Lib.hid (mx_cell (j := 0) hbk)
   have R1 := Lib.hid (mx_cell (j := 1) hbk)
   have hzb := heap_lt hbk
   have hzw := HW.out.size
   have hrb2 : w2.heap.size ≤ rb := Nat.le_of_eq HRBE.out
   have hzb1 : rb + 1 < wr.heap.size := by
    obtain ⟨_, _, _, _, hsb, _⟩ := HS.out
    exact heap_lt hsb
   have w1' : IntKind.i64.wrap ((k : Int) + 1) = (k : Int) + 1 := IntWalk.i64_in _ (by omega)
   clear hck hxs hui hlow hrk hro hbk HR
   go_upto_region 5 with fail
   refine wp_region_held_drew (S := fun w' => Below w2.heap.size w2 w') (by kernel_rfl) (HW.out.trans ((mx_drew wr).mono HW.out.size)) (fun hS => ?_)
   have hD := mx_drew wr
   obtain ⟨wD, hwD⟩ : ∃ x, (wr).drew = x := ⟨_, rfl⟩
   rw [hwD] at hS hD ⊢
   clear hwD e0
   refine takeE 1 26 ?_
   refine takeE 2 27 ?_
   refine takeE 3 28 ?_
   refine wpAnyH_ready (rs := [0, 4]) (by kernel_rfl) (by simp) ?_
   refine AllReadyH.cons rfl (fun K hK => ?_) (AllReadyH.cons rfl (fun K hK => ?_) AllReadyH.nil)
   ·
    have k0 := (hD.cell (p := ⟨rb, 0, none⟩) hzb).trans R0.out
    have k1 := (hD.cell (p := ⟨rb, 1, none⟩) hzb).trans R1.out
    go_simp
    refine hK.out _ _ hS (fun _ => ?_)
    clear hK k0 k1
    refine ready1 4 (fun K hK => ?_)
    go_simp
    refine (ints_08 u' ck wD (HUI.out.below hD) (by omega)).mono ?_
    rintro e y1 ⟨v5, rfl, hown, hbN⟩
    have HOW := Lib.hid hown
    have hSN := hS.trans ((hbN.mono hD.size).mono hzw)
    have hDN := hD.trans (hbN.mono hD.size)
    have hz1 := hD.size
    refine hK.out _ _ hSN (fun _ => ?_)
    clear hK hown hbN hS hD
    have hS := hSN
    have hD := hDN
    clear hSN hDN
    refine ready1 5 (fun K hK => ?_)
    go_simp
    refine (ref_add_any k v5 ck rk _ y1 (HRO.out.below hD) (IntsIn.of_own HOW.out) (by omega) HLOW.out (by omega)).mono ?_
    rintro e y2 ⟨v6, cd, rfl, hro2, hbN⟩
    obtain ⟨E2, c2, rfl⟩ := hro2.parts
    have hz2 := hD.size
    have hSN := hS.trans ((hbN.mono hz2).mono hzw)
    have hDN := hD.trans (hbN.mono hz2)
    have HRO2 := Lib.hid (hro2.mono (O' := fun g => w1.heap.size ≤ g ∧ g ≠ rb ∧ g ≠ rb + 1) (fun g hg => by
     rcases hg with hg | hg | hg
     ·
      exact hg
     ·
      have := hg.1
      omega
     ·
      omega))
    refine hK.out _ _ hSN (fun _ => ?_)
    clear hK hbN hS hD hro2
    have hS := hSN
    have hD := hDN
    clear hSN hDN
    obtain ⟨rn, hrn⟩ : ∃ x, rk.put ((k : Int) + 1) ck = x := ⟨_, rfl⟩
    have HRN := Lib.hid hrn
    rw [hrn] at HRO2 ⊢
    clear hrn
    refine takeE 6 24 ?_
    refine takeE 7 31 ?_
    refine takeE 8 32 ?_
    have hblk := (hD.block rb hzb).trans HBK.out
    have fr0 := mx_free (j := 0) hblk
    have fr1 := mx_free (j := 1) hblk
    have ce0 := mx_cell (j := 0) hblk
    have ce1 := mx_cell (j := 1) hblk
    have HBLK := Lib.hid hblk
    have HS2 := Lib.hid (HS.out.below hD)
    clear hblk hD
    refine ready1 9 (fun K hK => ?_)
    go_simp
    obtain ⟨w7, hw7⟩ : ∃ z, (y2.setCell ⟨rb, 0, none⟩ (.slice E2 rn.all.length c2)).setCell ⟨rb, 1, none⟩ (.int .i64 rn.last) = z := ⟨_, rfl⟩
    rw [hw7]
    have hk7 : Kept (fun g => g = rb) y2 w7 := by rw [← hw7]; exact ((Kept.refl (fun g => g = rb) y2).setCell ⟨rb, 0, none⟩ _ rfl).setCell ⟨rb, 1, none⟩ _ rfl
    have HR7 := Lib.hid (show RBox (fun g => w1.heap.size ≤ g ∧ g ≠ rb ∧ g ≠ rb + 1) w7 rb rn from ⟨E2, c2, by rw [← hw7]; exact mx_set (j := 1) (mx_set (j := 0) HBLK.out _) _, HRO2.out.kept hk7 (fun g hg e => hg.2.1 e)⟩)
    have HS7 := Lib.hid (HS2.out.kept hk7 (by omega) (fun g hg e => hg.2.1 e))
    have hB7 : Below w2.heap.size w2 w7 := by rw [← hw7]; exact (hS.setCell (p := ⟨rb, 0, none⟩) hrb2 _).setCell (p := ⟨rb, 1, none⟩) hrb2 _
    have HB7 := Lib.hid hB7
    refine hK.out _ _ hB7 (fun _ => ?_)
    clear hK hw7 hk7 fr0 fr1 ce0 ce1 hB7 hS
    refine wpAnyH_done (by kernel_rfl) ?_ _
    go_wp2_with fail
    go_roundw
    case rel => exact ⟨k + 1, by omega, by go_num, Lib.hid (by rw [HTK.out, HRN.out]; exact HR7.out), HS7, HB7⟩
    case measure => simp [intOf]; omega
   ·
    go_simp
    refine (ints_08 u' ck wD (HUI.out.below hD) (by omega)).mono ?_
    rintro e y1 ⟨v5, rfl, hown, hbN⟩
    have HOW := Lib.hid hown
    have hSN := hS.trans ((hbN.mono hD.size).mono hzw)
    have hDN := hD.trans (hbN.mono hD.size)
    have hz1 := hD.size
    refine hK.out _ _ hSN (fun _ => ?_)
    clear hK hown hbN hS hD
    have hS := hSN
    have hD := hDN
    clear hSN hDN
    refine ready1 0 (fun K hK => ?_)
    have k0 := (hD.cell (p := ⟨rb, 0, none⟩) hzb).trans R0.out
    have k1 := (hD.cell (p := ⟨rb, 1, none⟩) hzb).trans R1.out
    go_simp
    refine hK.out _ _ hS (fun _ => ?_)
    clear hK k0 k1
    refine ready1 5 (fun K hK => ?_)
    go_simp
    refine (ref_add_any k v5 ck rk _ y1 (HRO.out.below hD) (IntsIn.of_own HOW.out) (by omega) HLOW.out (by omega)).mono ?_
    rintro e y2 ⟨v6, cd, rfl, hro2, hbN⟩
    obtain ⟨E2, c2, rfl⟩ := hro2.parts
    have hz2 := hD.size
    have hSN := hS.trans ((hbN.mono hz2).mono hzw)
    have hDN := hD.trans (hbN.mono hz2)
    have HRO2 := Lib.hid (hro2.mono (O' := fun g => w1.heap.size ≤ g ∧ g ≠ rb ∧ g ≠ rb + 1) (fun g hg => by
     rcases hg with hg | hg | hg
     ·
      exact hg
     ·
      have := hg.1
      omega
     ·
      omega))
    refine hK.out _ _ hSN (fun _ => ?_)
    clear hK hbN hS hD hro2
    have hS := hSN
    have hD := hDN
    clear hSN hDN
    obtain ⟨rn, hrn⟩ : ∃ x, rk.put ((k : Int) + 1) ck = x := ⟨_, rfl⟩
    have HRN := Lib.hid hrn
    rw [hrn] at HRO2 ⊢
    clear hrn
    refine takeE 6 24 ?_
    refine takeE 7 31 ?_
    refine takeE 8 32 ?_
    have hblk := (hD.block rb hzb).trans HBK.out
    have fr0 := mx_free (j := 0) hblk
    have fr1 := mx_free (j := 1) hblk
    have ce0 := mx_cell (j := 0) hblk
    have ce1 := mx_cell (j := 1) hblk
    have HBLK := Lib.hid hblk
    have HS2 := Lib.hid (HS.out.below hD)
    clear hblk hD
    refine ready1 9 (fun K hK => ?_)
    go_simp
    obtain ⟨w7, hw7⟩ : ∃ z, (y2.setCell ⟨rb, 0, none⟩ (.slice E2 rn.all.length c2)).setCell ⟨rb, 1, none⟩ (.int .i64 rn.last) = z := ⟨_, rfl⟩
    rw [hw7]
    have hk7 : Kept (fun g => g = rb) y2 w7 := by rw [← hw7]; exact ((Kept.refl (fun g => g = rb) y2).setCell ⟨rb, 0, none⟩ _ rfl).setCell ⟨rb, 1, none⟩ _ rfl
    have HR7 := Lib.hid (show RBox (fun g => w1.heap.size ≤ g ∧ g ≠ rb ∧ g ≠ rb + 1) w7 rb rn from ⟨E2, c2, by rw [← hw7]; exact mx_set (j := 1) (mx_set (j := 0) HBLK.out _) _, HRO2.out.kept hk7 (fun g hg e => hg.2.1 e)⟩)
    have HS7 := Lib.hid (HS2.out.kept hk7 (by omega) (fun g hg e => hg.2.1 e))
    have hB7 : Below w2.heap.size w2 w7 := by rw [← hw7]; exact (hS.setCell (p := ⟨rb, 0, none⟩) hrb2 _).setCell (p := ⟨rb, 1, none⟩) hrb2 _
    have HB7 := Lib.hid hB7
    refine hK.out _ _ hB7 (fun _ => ?_)
    clear hK hw7 hk7 fr0 fr1 ce0 ce1 hB7 hS
    refine wpAnyH_done (by kernel_rfl) ?_ _
    go_wp2_with fail
    go_roundw
    case rel => exact ⟨k + 1, by omega, by go_num, Lib.hid (by rw [HTK.out, HRN.out]; exact HR7.out), HS7, HB7⟩
    case measure => simp [intOf]; omega
  ·
   obtain rfl : k = cs.length := by omega
   have HR2 := Lib.hid (show RBox (fun g => w1.heap.size ≤ g ∧ g ≠ rb ∧ g ≠ rb + 1) wr rb ra from by have := HR.out; rw [List.take_length, HRA.out] at this; exact this)
   clear HR HRB HSB
   obtain ⟨wd, rfl⟩ : ∃ wo : World, wo = wr := ⟨_, rfl⟩
   go_wp2_with fail
   go_loopw [36] (fun iv wr => ∃ (k : Nat), k ≤ acs.length ∧ iv = .int .i64 k ∧ Hid (RBox (fun g => w1.heap.size ≤ g ∧ g ≠ rb ∧ g ≠ rb + 1) wr rb ra) ∧ Hid (SBox (fun g => w1.heap.size ≤ g ∧ g ≠ rb ∧ g ≠ rb + 1) wr (rb + 1) (rPlayAll ⟨n, 0, [], [0]⟩ (acs.take k))) ∧ Hid (Below w2.heap.size w2 wr)) (fun iv _ => acs.length - (intOf iv).toNat)
   case atStart => exact ⟨0, Nat.zero_le _, rfl, HR2, HS, HW⟩
   case round =>
    obtain ⟨k, hk2, rfl, HR3, HS3, HW3⟩ := hrel
    by_cases hlt2 : k < acs.length
    ·
     obtain ⟨ac, hac⟩ := getElem_of hlt2
     obtain ⟨A', c', hAc, hxs⟩ := HAA.out.below (HB1.out.trans ((HB2.out.trans (HW3.out.mono HB2.out.size)).mono HB1.out.size))
     simp only [Value.slice.injEq, true_and] at hAc
     obtain ⟨rfl, rfl⟩ := hAc
     obtain ⟨g, o, rfl, hg, e0, e1, e2⟩ := hxs k ac hac
     have HTK := Lib.hid (show rPlayAll ⟨n, 0, [], [0]⟩ (acs.take (k + 1)) = (rPlayAll ⟨n, 0, [], [0]⟩ (acs.take k)).play ac from by
      rw [List.take_add_one, hac]
      show rPlayAll ⟨n, 0, [], [0]⟩ (acs.take k ++ [ac]) = _
      rw [rPlayAll_snoc])
     have hlow := rPlayAll_low (acs.take k) ⟨n, 0, [], [0]⟩ 0 (rtlow0 n)
     rw [Nat.zero_add, List.length_take, Nat.min_eq_left hk2] at hlow
     obtain ⟨sk, hsk⟩ : ∃ x, rPlayAll ⟨n, 0, [], [0]⟩ (acs.take k) = x := ⟨_, rfl⟩
     rw [hsk] at HS3 HTK hlow
     have HLOW := Lib.hid hlow
     obtain ⟨EI, cI, ES, cS, hbk, hso⟩ := HS3.out
     have HSO := Lib.hid hso
     have HBK := Lib.hid hbk
     have hzb := heap_lt hbk
     have hzw := HW3.out.size
     obtain ⟨W3, hW3⟩ : ∃ x, wr.alloc (.cells #[.bool ac.push, .int .i64 ac.l, .int .i64 ac.by_] 34) = x := ⟨_, rfl⟩
     have HB3 := Lib.hid (show Below wr.heap.size wr W3 from by rw [← hW3]; exact mx_al _ _)
     have HW3a := Lib.hid hW3
     have HW3b := Lib.hid (show W3.heap[wr.heap.size]? = some (.cells #[.bool ac.push, .int .i64 ac.l, .int .i64 ac.by_] 34 (0, 0)) from by rw [← hW3]; exact World.alloc_heap_new _ _)
     clear hac hxs hlow hsk hso hbk hW3 HS HW HR2
     cases hpu : ac.push with
     | true =>
      have HPL := Lib.hid (show sk.play ac = sk.push from by unfold RTr.play; rw [if_pos hpu])
      have HPU := ref_push sk _ W3 (HSO.out.below HB3.out) (by have := HLOW.out.starts; omega) HLOW.out.now0 (by have := HLOW.out.now; omega)
      rw [hpu] at e0 HW3a
      have HPU := Lib.hid HPU
      clear hpu
      have hblk := (HB3.out.block (rb + 1) hzb).trans HBK.out
      obtain ⟨⟨p0, p1, p2, p3⟩, _⟩ := cells4 hblk
      clear hblk
      go_upto_region 11 with fail
      rw [HW3a.out]
      have q1 := mx_cell (j := 1) HW3b.out
      have q2 := mx_cell (j := 2) HW3b.out
      go_wp2_with fail
      refine HPU.out.mono ?_
      rintro e w4 ⟨v6, rfl, hro2, hbN⟩
      clear e0 e1 e2 p0 p1 p2 p3 q1 q2
      obtain ⟨E4, c4, F4, d4, rfl⟩ := hro2.parts
      have HRO2 := Lib.hid (hro2.mono (O' := fun g => w1.heap.size ≤ g ∧ g ≠ rb ∧ g ≠ rb + 1) (fun g hg => by
       rcases hg with hg | hg
       ·
        exact hg
       ·
        have := HB3.out.size
        omega))
      obtain ⟨sn, hsn⟩ : ∃ x, sk.push = x := ⟨_, rfl⟩
      have HSN := Lib.hid hsn
      have hnew : (⟨sk.vars, sk.now + 1, sk.items, sk.starts ++ [(sk.items.length : Int)]⟩ : RTr) = sn := hsn
      rw [hnew] at HRO2 ⊢
      clear hsn hnew hro2
      have HB4 := Lib.hid (HB3.out.trans (hbN.mono HB3.out.size))
      have hblk := (HB4.out.block (rb + 1) hzb).trans HBK.out
      obtain ⟨⟨p0, p1, p2, p3⟩, f0, f1, f2, f3⟩ := cells4 hblk
      have HBLK := Lib.hid hblk
      clear hblk hbN HPU
      go_upto_region 13 with fail
      obtain ⟨w7, hw7⟩ : ∃ z, (((w4.setCell ⟨rb + 1, 0, none⟩ (.int .i64 sn.vars)).setCell ⟨rb + 1, 1, none⟩ (.int .i64 sn.now)).setCell ⟨rb + 1, 2, none⟩ (.slice E4 sn.items.length c4)).setCell ⟨rb + 1, 3, none⟩ (.slice F4 sn.starts.length d4) = z := ⟨_, rfl⟩
      rw [hw7]
      have hk7 : Kept (fun g => g = rb + 1) w4 w7 := by rw [← hw7]; exact ((((Kept.refl (fun g => g = rb + 1) w4).setCell ⟨rb + 1, 0, none⟩ _ rfl).setCell ⟨rb + 1, 1, none⟩ _ rfl).setCell ⟨rb + 1, 2, none⟩ _ rfl).setCell ⟨rb + 1, 3, none⟩ _ rfl
      have HS7 := Lib.hid (show SBox (fun g => w1.heap.size ≤ g ∧ g ≠ rb ∧ g ≠ rb + 1) w7 (rb + 1) sn from ⟨E4, c4, F4, d4, by rw [← hw7]; exact mx_set (j := 3) (mx_set (j := 2) (mx_set (j := 1) (mx_set (j := 0) HBLK.out _) _) _) _, HRO2.out.kept hk7 (fun g hg e => hg.2.2 e)⟩)
      have HR7 := Lib.hid ((HR3.out.below HB4.out).kept hk7 (by omega) (fun g hg e => hg.2.2 e))
      have hrb2 : w2.heap.size ≤ rb + 1 := by have := HRBE.out; omega
      have HB7 := Lib.hid (show Below w2.heap.size w2 w7 from by rw [← hw7]; exact ((((HW3.out.trans (HB4.out.mono HW3.out.size)).setCell (p := ⟨rb + 1, 0, none⟩) hrb2 _).setCell (p := ⟨rb + 1, 1, none⟩) hrb2 _).setCell (p := ⟨rb + 1, 2, none⟩) hrb2 _).setCell (p := ⟨rb + 1, 3, none⟩) hrb2 _)
      clear hw7 hk7 p0 p1 p2 p3 f0 f1 f2 f3
      go_wp2_with fail
      go_roundw
      case rel => exact ⟨k + 1, by omega, by go_num, HR7, Lib.hid (by rw [HTK.out, HPL.out, HSN.out]; exact HS7.out), HB7⟩
      case measure => simp [intOf]; omega
     | false =>
      have HPL := Lib.hid (show sk.play ac = (sk.assigned ac.l ac.by_) from by unfold RTr.play; rw [if_neg (by rw [hpu]; decide)])
      have HPU := ref_assign sk ac.l ac.by_ _ W3 (HSO.out.below HB3.out) ⟨by have := HLOW.out.items; omega⟩
      rw [hpu] at e0 HW3a
      have HPU := Lib.hid HPU
      clear hpu
      have hblk := (HB3.out.block (rb + 1) hzb).trans HBK.out
      obtain ⟨⟨p0, p1, p2, p3⟩, _⟩ := cells4 hblk
      clear hblk
      go_upto_region 12 with fail
      rw [HW3a.out]
      have q1 := mx_cell (j := 1) HW3b.out
      have q2 := mx_cell (j := 2) HW3b.out
      go_wp2_with fail
      refine HPU.out.mono ?_
      rintro e w4 ⟨v6, rfl, hro2, hbN⟩
      clear e0 e1 e2 p0 p1 p2 p3 q1 q2
      obtain ⟨E4, c4, F4, d4, rfl⟩ := hro2.parts
      have HRO2 := Lib.hid (hro2.mono (O' := fun g => w1.heap.size ≤ g ∧ g ≠ rb ∧ g ≠ rb + 1) (fun g hg => by
       rcases hg with hg | hg
       ·
        exact hg
       ·
        have := HB3.out.size
        omega))
      obtain ⟨sn, hsn⟩ : ∃ x, (sk.assigned ac.l ac.by_) = x := ⟨_, rfl⟩
      have HSN := Lib.hid hsn
      have hnew : (sk.assigned ac.l ac.by_) = sn := hsn
      rw [hnew] at HRO2 ⊢
      clear hsn hnew hro2
      have HB4 := Lib.hid (HB3.out.trans (hbN.mono HB3.out.size))
      have hblk := (HB4.out.block (rb + 1) hzb).trans HBK.out
      obtain ⟨⟨p0, p1, p2, p3⟩, f0, f1, f2, f3⟩ := cells4 hblk
      have HBLK := Lib.hid hblk
      clear hblk hbN HPU
      go_upto_region 13 with fail
      obtain ⟨w7, hw7⟩ : ∃ z, (((w4.setCell ⟨rb + 1, 0, none⟩ (.int .i64 sn.vars)).setCell ⟨rb + 1, 1, none⟩ (.int .i64 sn.now)).setCell ⟨rb + 1, 2, none⟩ (.slice E4 sn.items.length c4)).setCell ⟨rb + 1, 3, none⟩ (.slice F4 sn.starts.length d4) = z := ⟨_, rfl⟩
      rw [hw7]
      have hk7 : Kept (fun g => g = rb + 1) w4 w7 := by rw [← hw7]; exact ((((Kept.refl (fun g => g = rb + 1) w4).setCell ⟨rb + 1, 0, none⟩ _ rfl).setCell ⟨rb + 1, 1, none⟩ _ rfl).setCell ⟨rb + 1, 2, none⟩ _ rfl).setCell ⟨rb + 1, 3, none⟩ _ rfl
      have HS7 := Lib.hid (show SBox (fun g => w1.heap.size ≤ g ∧ g ≠ rb ∧ g ≠ rb + 1) w7 (rb + 1) sn from ⟨E4, c4, F4, d4, by rw [← hw7]; exact mx_set (j := 3) (mx_set (j := 2) (mx_set (j := 1) (mx_set (j := 0) HBLK.out _) _) _) _, HRO2.out.kept hk7 (fun g hg e => hg.2.2 e)⟩)
      have HR7 := Lib.hid ((HR3.out.below HB4.out).kept hk7 (by omega) (fun g hg e => hg.2.2 e))
      have hrb2 : w2.heap.size ≤ rb + 1 := by have := HRBE.out; omega
      have HB7 := Lib.hid (show Below w2.heap.size w2 w7 from by rw [← hw7]; exact ((((HW3.out.trans (HB4.out.mono HW3.out.size)).setCell (p := ⟨rb + 1, 0, none⟩) hrb2 _).setCell (p := ⟨rb + 1, 1, none⟩) hrb2 _).setCell (p := ⟨rb + 1, 2, none⟩) hrb2 _).setCell (p := ⟨rb + 1, 3, none⟩) hrb2 _)
      clear hw7 hk7 p0 p1 p2 p3 f0 f1 f2 f3
      go_wp2_with fail
      go_roundw
      case rel => exact ⟨k + 1, by omega, by go_num, HR7, Lib.hid (by rw [HTK.out, HPL.out, HSN.out]; exact HS7.out), HB7⟩
      case measure => simp [intOf]; omega
    ·
     obtain rfl : k = acs.length := by omega
     have HS4 := Lib.hid (show SBox (fun g => w1.heap.size ≤ g ∧ g ≠ rb ∧ g ≠ rb + 1) wr (rb + 1) t from by have := HS3.out; rw [List.take_length, HTT.out] at this; exact this)
     obtain ⟨ER, cR, hbk, hro⟩ := HR3.out
     obtain ⟨EI, cI, ES, cS, hbs, hrt⟩ := HS4.out
     have HRO := Lib.hid hro
     have HRT := Lib.hid hrt
     have HBKR := Lib.hid hbk
     have HBKS := Lib.hid hbs
     have hzr := heap_lt hbk
     have hzs := heap_lt hbs
     have hzw3 := HW3.out.size
     have hwr1 : w.heap.size + 1 + 1 ≤ rb := by omega
     have HQA := Lib.hid (((HB2.out.trans (HW3.out.mono HB2.out.size)).block _ (heap_lt HQ0.out)).trans HQ0.out)
     have HQB := Lib.hid (((HB2.out.trans (HW3.out.mono HB2.out.size)).block _ (heap_lt HQ1.out)).trans HQ1.out)
     have HBW := Lib.hid (HB1.out.trans ((HB2.out.trans (HW3.out.mono HB2.out.size)).mono HB1.out.size))
     clear hbk hro hbs hrt HW3 HR3 HS4 HS3 HS HW HR2 HRA HTT hk hk2 hlt hlt2 HCE HAA HCC
     go_upto_region 14 with fail
     refine wp_region_held_drew (S := fun w' => Kept (fun g => g = w.heap.size ∨ g = w.heap.size + 1) wr w') (by kernel_rfl) (Kept.of_below (mx_drew wr)) (fun hS => ?_)
     refine takeF 0 54 (fun wq hSw => And.intro (mx_cell (j := 0) ((hSw.block _ hzr (by omega)).trans HBKR.out)) (mx_cell (j := 1) ((hSw.block _ hzr (by omega)).trans HBKR.out))) ?_
     refine takeF 1 55 (fun wq hSw => (cells4 ((hSw.block _ hzs (by omega)).trans HBKS.out)).1) ?_
     have HFIN := Lib.hid (fun (W : World) (hk : Kept (fun g => g = w.heap.size ∨ g = w.heap.size + 1) wr W) => show RAAt W (.agg #[.slice ER ra.all.length cR, .int .i64 ra.last]) ra ∧ RTAt W (.agg #[.int .i64 t.vars, .int .i64 t.now, .slice EI t.items.length cI, .slice ES t.starts.length cS]) t ∧ Below w.heap.size w W from ⟨(HRO.out.kept hk (fun g hg e => by have := hg.1; omega)).weak, (HRT.out.kept hk (fun g hg e => by have := hg.1; omega)).weak, HBW.out.trans (hk.below (fun i hi => by omega) HBW.out.size)⟩)
     have hqa := ((mx_drew wr).block _ (heap_lt HQA.out)).trans HQA.out
     have hqb := ((mx_drew wr).block _ (heap_lt HQB.out)).trans HQB.out
     obtain ⟨wD, hwD⟩ : ∃ x, wr.drew = x := ⟨_, rfl⟩
     rw [hwD] at hS hqa hqb ⊢
     clear hwD HQA HQB HRO HRT HBW
     have HQB := Lib.hid hqb
     have HS0 := Lib.hid hS
     refine ready1 2 (fun K hK => ?_)
     have HXx1 := Lib.hid hqa
     obtain ⟨c0, c1⟩ := bx2 (Below.refl _ _) hqa
     have f0 := mx_free (j := 0) hqa
     have f1 := mx_free (j := 1) hqa
     clear hqa hqb hS
     go_simp
     obtain ⟨x1, hwx1⟩ : ∃ z, (wD.setCell ⟨w.heap.size, 0, none⟩ (.slice ER ra.all.length cR)).setCell ⟨w.heap.size, 1, none⟩ (.int .i64 ra.last) = z := ⟨_, rfl⟩
     rw [hwx1]
     have hkx1 : Kept (fun g => g = w.heap.size) wD x1 := by rw [← hwx1]; exact ((Kept.refl (fun g => g = w.heap.size) wD).setCell _ _ rfl).setCell _ _ rfl
     have hS : Kept (fun g => g = w.heap.size ∨ g = w.heap.size + 1) wr x1 := by rw [← hwx1]; exact (HS0.out.setCell _ _ (.inl rfl)).setCell _ _ (.inl rfl)
     have hqa : x1.heap[w.heap.size]? = some (.cells #[.slice ER ra.all.length cR, .int .i64 ra.last] 56 (0, 0)) := by rw [← hwx1]; exact mx_set (j := 1) (mx_set (j := 0) HXx1.out _) _
     have hqb := (hkx1.block _ (heap_lt HQB.out) (by omega)).trans HQB.out
     clear HXx1 hwx1 hkx1 c0 c1 f0 f1 HS0
     refine hK.out _ _ hS (fun _ => ?_)
     clear hK
     have HQA := Lib.hid hqa
     have HS0 := Lib.hid hS
     refine ready1 3 (fun K hK => ?_)
     have HXx2 := Lib.hid hqb
     obtain ⟨⟨c0, c1, c2, c3⟩, f0, f1, f2, f3⟩ := cells4 hqb
     clear hqa hqb hS
     go_simp
     obtain ⟨x2, hwx2⟩ : ∃ z, (((x1.setCell ⟨w.heap.size + 1, 0, none⟩ (.int .i64 t.vars)).setCell ⟨w.heap.size + 1, 1, none⟩ (.int .i64 t.now)).setCell ⟨w.heap.size + 1, 2, none⟩ (.slice EI t.items.length cI)).setCell ⟨w.heap.size + 1, 3, none⟩ (.slice ES t.starts.length cS) = z := ⟨_, rfl⟩
     rw [hwx2]
     have hkx2 : Kept (fun g => g = w.heap.size + 1) x1 x2 := by rw [← hwx2]; exact ((((Kept.refl (fun g => g = w.heap.size + 1) x1).setCell _ _ rfl).setCell _ _ rfl).setCell _ _ rfl).setCell _ _ rfl
     have hS : Kept (fun g => g = w.heap.size ∨ g = w.heap.size + 1) wr x2 := by rw [← hwx2]; exact (((HS0.out.setCell _ _ (.inr rfl)).setCell _ _ (.inr rfl)).setCell _ _ (.inr rfl)).setCell _ _ (.inr rfl)
     have hqb : x2.heap[w.heap.size + 1]? = some (.cells #[.int .i64 t.vars, .int .i64 t.now, .slice EI t.items.length cI, .slice ES t.starts.length cS] 59 (0, 0)) := by rw [← hwx2]; exact mx_set (j := 3) (mx_set (j := 2) (mx_set (j := 1) (mx_set (j := 0) HXx2.out _) _) _) _
     have hqa := (hkx2.block _ (heap_lt HQA.out) (by omega)).trans HQA.out
     clear HXx2 hwx2 hkx2 c0 c1 c2 c3 f0 f1 f2 f3 HS0
     refine hK.out _ _ hS (fun _ => ?_)
     clear hK
     refine wpAnyH_done (by kernel_rfl) ?_ _
     obtain ⟨g1, g2, g3⟩ := HFIN.out _ hS
     have HQ6 := Lib.hid hqa
     have HQ7 := Lib.hid hqb
     have G1 := Lib.hid g1
     have G2 := Lib.hid g2
     have G3 := Lib.hid g3
     clear g1 g2 g3 hqa hqb hS
     go_wp2_with fail
     exact bodyPost_ret (v := .tuple #[.agg #[.slice ER ra.all.length cR, .int .i64 ra.last], .agg #[.int .i64 t.vars, .int .i64 t.now, .slice EI t.items.length cI, .slice ES t.starts.length cS]]) (res_two rfl HQ6.out HQ7.out _ rfl rfl) rfl ⟨⟨_, _, rfl, G1.out, G2.out⟩, G3.out⟩
end Go.Proofs.YtiodfolcnnkdjaaGreat
