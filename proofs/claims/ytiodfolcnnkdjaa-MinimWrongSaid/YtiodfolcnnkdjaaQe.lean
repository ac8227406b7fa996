/- minim: start, Covered, Redundant, Shorten. -/
import Derived.Test.YtiodfolcnnkdjaaQd
namespace Go.Proofs.Ytiodfolcnnkdjaa
open Go.RowKit

theorem cells4 {w : World} {b : Nat} {c0 c1 c2 c3 : Value} {t : TypeId} (h : w.heap[b]? = some (.cells #[c0, c1, c2, c3] t (0, 0))) :
    (w.cell? ⟨b, 0, none⟩ = some c0 ∧ w.cell? ⟨b, 1, none⟩ = some c1 ∧ w.cell? ⟨b, 2, none⟩ = some c2 ∧ w.cell? ⟨b, 3, none⟩ = some c3) ∧ w.frozen? ⟨b, 0, none⟩ = false ∧ w.frozen? ⟨b, 1, none⟩ = false ∧ w.frozen? ⟨b, 2, none⟩ = false ∧ w.frozen? ⟨b, 3, none⟩ = false :=
  ⟨⟨mx_cell (j := 0) h, mx_cell (j := 1) h, mx_cell (j := 2) h, mx_cell (j := 3) h⟩, mx_free h, mx_free h, mx_free h, mx_free h⟩
theorem IntsIn.lt {O : Nat → Prop} {w : World} {v : Value} {xs : List Int} (h : IntsIn O w v xs) : IntsIn (fun g => O g ∧ g < w.heap.size) w v xs := by
  obtain ⟨A, c, hv, hc, hn, hx⟩ := h
  refine ⟨A, c, hv, hc, hn, fun i x hi => ?_⟩
  obtain ⟨g, o, h1, h2, h3, h4⟩ := hx i x hi
  exact ⟨g, o, h1, h2, ⟨h3, h2⟩, h4⟩
theorem res_work {fn : Func} (h : fn.results = #[.cell 6 64, .tmp 7]) {w : World} {r : Nat} {c0 c1 c2 c3 v : Value} {t : TypeId} (h6 : w.heap[r]? = some (.cells #[c0, c1, c2, c3] t (0, 0)))
    (tmps : Array Value) (t6 : tmps[6]?.getD undef = .pointer (some ⟨r, 0, none⟩)) (t7 : tmps[7]?.getD undef = v) :
    (results fn tmps).run Try.prog w = .ok (.tuple #[.agg #[c0, c1, c2, c3], v]) w := by
  obtain ⟨⟨p0, p1, p2, p3⟩, _⟩ := cells4 h6
  simp [results, h, go_sem, t6, t7, p0, p1, p2, p3]
set_option maxRecDepth 100000 in
set_option maxHeartbeats 1000000 in
theorem mn_start {OA OT OC : Nat → Prop} (a b : Nat) (A : Arn) (T : Trl) (Ac : Option Addr) (cc : Nat) (c : List Int) (w : World) (ha : ArAt OA w a A) (ht : TrAt OT w b T) (hc : IntsIn OC w (.slice Ac c.length cc) c) (hs : c.length ≤ 4194304) :
    Calls Try.prog 22 #[.pointer (some ⟨a, 0, none⟩), .pointer (some ⟨b, 0, none⟩), .slice Ac c.length cc] w fun e w' => (∃ mb, e = .returned (.tuple #[.agg #[.pointer (some ⟨a, 0, none⟩), .pointer (some ⟨b, 0, none⟩), .slice Ac c.length cc, .map (some mb)], .int .i64 (failE T c)]) ∧ Wk w' a b mb A T (.slice Ac c.length cc) c ∧ MapAt w' mb 0 (fun _ => 0) ∧ w.heap.size ≤ mb) ∧ Below w.heap.size w w' := by
  have hmm := @run_makeMap Try.prog
  obtain ⟨wa, hwa⟩ : ∃ z, w.alloc (.cells #[.pointer none, .pointer none, .slice none 0 0, .map none] 64) = z := ⟨_, rfl⟩
  have hba : Below w.heap.size w wa := by rw [← hwa]; exact mx_al _ _
  have hbn : wa.heap[w.heap.size]? = some (.cells #[.pointer none, .pointer none, .slice none 0 0, .map none] 64 (0, 0)) := by rw [← hwa]; exact World.alloc_heap_new _ _
  obtain ⟨wb, hwb⟩ : ∃ z, wa.alloc (.map #[] 0) = z := ⟨_, rfl⟩
  have hbb : Below wa.heap.size wa wb := by rw [← hwb]; exact mx_al _ _
  have hmp : MapAt wb wa.heap.size 0 (fun _ => 0) := by rw [← hwb]; exact MapAt.made wa
  have HBA := Lib.hid hba
  have HBN := Lib.hid hbn
  have HWA := Lib.hid hwa
  have HWB := Lib.hid hwb
  have HBB := Lib.hid hbb
  have HMP := Lib.hid hmp
  have hzw := heap_lt hbn
  have hzb := hmp.lt
  have HA := Lib.hid (ha.below (hba.trans (hbb.mono hba.size)))
  have HT := Lib.hid (ht.below (hba.trans (hbb.mono hba.size)))
  have HC := Lib.hid (hc.below (hba.trans (hbb.mono hba.size)))
  have HF := Lib.hid (mn_failing b T (.slice Ac c.length cc) c wb HT.out HC.out hs)
  have HOA := Lib.hid ha.own
  have HOT := Lib.hid ht.own
  have HA0 := Lib.hid ha
  have HT0 := Lib.hid ht
  have HC0 := Lib.hid hc
  obtain ⟨FE, hfe⟩ : ∃ z : Int, ((failE T c : Nat) : Int) = z := ⟨_, rfl⟩
  rw [hfe] at HF ⊢
  clear hba hbn hwa hwb hbb hmp ha ht hc hfe
  go_enter Try.func22, Try.ntmps22
  go_upto_region 1 with fail
  rw [HWA.out]
  go_wp2_with fail
  rw [HWB.out]
  refine HF.out.mono ?_
  rintro e w1 ⟨rfl, hb1⟩
  have k6 := (hb1.block w.heap.size (by omega)).trans ((HBB.out.block w.heap.size hzw).trans HBN.out)
  have hz6 : w.heap.size < w1.heap.size := heap_lt k6
  obtain ⟨⟨p0, p1, p2, p3⟩, f0, f1, f2, f3⟩ := cells4 k6
  have K6 := Lib.hid k6
  have HB1 := Lib.hid hb1
  clear k6 hb1 hmm
  go_wp2_with fail
  obtain ⟨Wf, hWf⟩ : ∃ x, (((w1.setCell ⟨w.heap.size, 0, none⟩ (.pointer (some ⟨a, 0, none⟩))).setCell ⟨w.heap.size, 1, none⟩ (.pointer (some ⟨b, 0, none⟩))).setCell ⟨w.heap.size, 2, none⟩ (.slice Ac c.length cc)).setCell ⟨w.heap.size, 3, none⟩ (.map (some wa.heap.size)) = x := ⟨_, rfl⟩
  rw [hWf]
  have r6 : Wf.heap[w.heap.size]? = some (.cells #[.pointer (some ⟨a, 0, none⟩), .pointer (some ⟨b, 0, none⟩), .slice Ac c.length cc, .map (some wa.heap.size)] 64 (0, 0)) := by
    rw [← hWf]
    exact mx_set (j := 3) (mx_set (j := 2) (mx_set (j := 1) (mx_set (j := 0) K6.out _) _) _) _
  have hkf : Kept (fun g => g = w.heap.size) w1 Wf := by
    rw [← hWf]
    exact ((((Kept.refl (fun g => g = w.heap.size) w1).setCell _ _ rfl).setCell _ _ rfl).setCell _ _ rfl).setCell _ _ rfl
  have hbf : Below w.heap.size w Wf := HBA.out.trans ((HBB.out.mono HBA.out.size).trans ((HB1.out.mono (Nat.le_trans HBA.out.size HBB.out.size)).trans (hkf.below (fun i e => by omega) (by omega))))
  have hmf := (HMP.out.below HB1.out).kept hkf (fun e => by omega)
  have HWF := Lib.hid (show Wk Wf a b wa.heap.size A T (.slice Ac c.length cc) c from ⟨OA, OT, fun g => OC g ∧ g < w.heap.size, HA0.out.below hbf, HT0.out.below hbf, HC0.out.lt.below hbf, fun h => by have := HOA.out _ h; omega, fun h => by have := HOT.out _ h; omega, fun h => by have := h.2; omega, hmf.lt⟩)
  have HMF := Lib.hid hmf
  have HBF := Lib.hid hbf
  clear hWf p0 p1 p2 p3 f0 f1 f2 f3 hkf hbf hmf
  exact bodyPost_ret (v := .tuple #[.agg #[.pointer (some ⟨a, 0, none⟩), .pointer (some ⟨b, 0, none⟩), .slice Ac c.length cc, .map (some wa.heap.size)], .int .i64 FE]) (res_work rfl r6 _ rfl rfl) rfl ⟨⟨_, rfl, HWF.out, HMF.out, HBA.out.size⟩, HBF.out⟩
theorem failE_zero {T : Trl} {c : List Int} (h : failE T c = 0) : clauseB c = true ∧ ∀ l ∈ c, T.val l < 0 := by
  unfold failE at h
  cases hc : clauseB c with
  | false => rw [hc, if_pos rfl] at h; cases h
  | true =>
    rw [hc, if_neg (by decide)] at h
    refine ⟨rfl, fun l hl => ?_⟩
    by_cases ha : c.any (fun l => decide (0 ≤ T.val l)) = true
    · rw [if_pos ha] at h
      cases h
    · have := List.any_eq_false.1 (Bool.eq_false_iff.2 ha) l hl
      simp only [decide_eq_true_eq] at this
      omega
set_option maxRecDepth 100000 in
set_option maxHeartbeats 1000000 in
theorem mn_covered {OA OT OC : Nat → Prop} (a b : Nat) (A : Arn) (T : Trl) (its : List RIt) (Ac : Option Addr) (cc : Nat) (c : List Int) (l : Int) (w : World) (hsim : Sim T its) (hil : its.length ≤ 500000) (ha : ArAt OA w a A) (ht : TrAt OT w b T) (hc : IntsIn OC w (.slice Ac c.length cc) c) (hs : c.length ≤ 4194304) :
    Calls Try.prog 8 #[.pointer (some ⟨a, 0, none⟩), .pointer (some ⟨b, 0, none⟩), .slice Ac c.length cc, .int .i64 l] w fun e w' => e = .returned (.tuple #[.bool (if failE T c = 0 then decide (T.val l < 0) && cov15 A T c l else false), .int .i64 (failE T c)]) ∧ Below w.heap.size w w' := by
  have HS := Lib.hid (mn_start a b A T Ac cc c w ha ht hc hs)
  have HSI := Lib.hid hsim
  clear ha ht hc
  obtain ⟨FE, hfe⟩ : ∃ z, failE T c = z := ⟨_, rfl⟩
  rw [hfe] at HS ⊢
  have HFE := Lib.hid hfe
  clear hfe hsim
  by_cases h0 : FE = 0
  · subst h0
    have HV := Lib.hid (fun l hl => (failE_zero HFE.out).2 l hl)
    simp only [if_pos, Int.natCast_zero] at HS ⊢
    have HTV := Lib.hid (fun (W : World) (O : Nat → Prop) (h : TrAt O W b T) => tr_value b T l W h)
    by_cases hl : T.val l < 0
    · have q1 : decide (T.val l < 0) = true := decide_eq_true hl
      rw [HSI.out.val] at hl
      obtain ⟨p, x, hp, rfl, _⟩ := HSI.out.fal hl
      have HC := Lib.hid (fun (mb : Nat) (W : World) (hw : Wk W a b mb A T (.slice Ac c.length cc) c) (hm : MapAt W mb 0 (fun _ => 0)) => cov_all a b mb A T its Ac cc c (0 + 2 * zer its (fun _ => 0)) HSI.out (by have := zer_le its (fun _ => 0); omega) hs p x hp W _ 0 hw hm (fun q y _ _ => .inl rfl) (Nat.le_refl _))
      obtain ⟨z, hz⟩ : ∃ z, cov15 A T c (-x.lit) = z := ⟨_, rfl⟩
      obtain ⟨tv, htv⟩ : ∃ z, T.val (-x.lit) = z := ⟨_, rfl⟩
      obtain ⟨l, hll⟩ : ∃ z, -x.lit = z := ⟨_, rfl⟩
      rw [hz, hll] at HC
      rw [hll] at htv hz
      rw [hll, htv] at HTV
      rw [hll, htv] at q1
      rw [hll, htv, hz, q1, Bool.true_and]
      clear hz htv hp hl hll
      go_enter Try.func8, Try.ntmps8
      go_wp2_with fail
      refine HS.out.mono ?_
      rintro e w1 ⟨⟨mb, rfl, hw, hm, hmb⟩, hb⟩
      obtain ⟨wx, hwx⟩ : ∃ x, w1.alloc (.cells #[.pointer (some ⟨a, 0, none⟩), .pointer (some ⟨b, 0, none⟩), .slice Ac c.length cc, .map (some mb)] 64) = x := ⟨_, rfl⟩
      have hbx : Below w1.heap.size w1 wx := by rw [← hwx]; exact mx_al _ _
      have hbn : wx.heap[w1.heap.size]? = some (.cells #[.pointer (some ⟨a, 0, none⟩), .pointer (some ⟨b, 0, none⟩), .slice Ac c.length cc, .map (some mb)] 64 (0, 0)) := by rw [← hwx]; exact World.alloc_heap_new _ _
      have HWX := Lib.hid hwx
      have HW := Lib.hid (hw.below hbx)
      have HM := Lib.hid (hm.below hbx)
      have HB := Lib.hid (hb.trans (hbx.mono hb.size))
      have HBN := Lib.hid hbn
      have hzx := heap_lt hbn
      have hm1 := hm.lt
      clear hw hm hb HS hwx hbx hbn
      have hwk := HW.out
      obtain ⟨_, OT', _, _, htt, _⟩ := hwk
      have HTW := Lib.hid (HTV.out wx _ htt)
      clear htt HTV
      go_wp2_with (rw [HWX.out])
      refine HTW.out.mono ?_
      rintro e w2 ⟨rfl, hb⟩
      obtain ⟨⟨e0, e1, e2, e3⟩, _⟩ := cells4 ((hb.block w1.heap.size hzx).trans HBN.out)
      have HB2 := Lib.hid hb
      have HC2 := Lib.hid (HC.out mb w2 (HW.out.below hb) (HM.out.below hb))
      have hz2 := hb.size
      clear hb HC HTW
      go_wp2_with fail
      refine HC2.out.mono ?_
      rintro e w3 ⟨f3, k3, rfl, _, _, _, _, hk⟩
      have HB3 := Lib.hid (HB.out.trans ((HB2.out.mono HB.out.size).trans (hk.below (B := w.heap.size) (fun i e => by omega) (by have := HB.out.size; omega))))
      clear hk HC2
      go_wp2_with fail
      go_ret2
      exact ⟨rfl, HB3.out⟩
    · have q1 : decide (T.val l < 0) = false := decide_eq_false hl
      obtain ⟨tv, htv⟩ : ∃ z, T.val l = z := ⟨_, rfl⟩
      rw [htv] at HTV q1 ⊢
      rw [q1, Bool.false_and]
      clear htv hl
      go_enter Try.func8, Try.ntmps8
      go_wp2_with fail
      refine HS.out.mono ?_
      rintro e w1 ⟨⟨mb, rfl, hw, hm, hmb⟩, hb⟩
      obtain ⟨wx, hwx⟩ : ∃ x, w1.alloc (.cells #[.pointer (some ⟨a, 0, none⟩), .pointer (some ⟨b, 0, none⟩), .slice Ac c.length cc, .map (some mb)] 64) = x := ⟨_, rfl⟩
      have hbx : Below w1.heap.size w1 wx := by rw [← hwx]; exact mx_al _ _
      have hbn : wx.heap[w1.heap.size]? = some (.cells #[.pointer (some ⟨a, 0, none⟩), .pointer (some ⟨b, 0, none⟩), .slice Ac c.length cc, .map (some mb)] 64 (0, 0)) := by rw [← hwx]; exact World.alloc_heap_new _ _
      have HWX := Lib.hid hwx
      have HW := Lib.hid (hw.below hbx)
      have HM := Lib.hid (hm.below hbx)
      have HB := Lib.hid (hb.trans (hbx.mono hb.size))
      have HBN := Lib.hid hbn
      have hzx := heap_lt hbn
      have hm1 := hm.lt
      clear hw hm hb HS hwx hbx hbn
      have hwk := HW.out
      obtain ⟨_, OT', _, _, htt, _⟩ := hwk
      have HTW := Lib.hid (HTV.out wx _ htt)
      clear htt HTV
      go_wp2_with (rw [HWX.out])
      refine HTW.out.mono ?_
      rintro e w2 ⟨rfl, hb⟩
      have HB2 := Lib.hid (HB.out.trans (hb.mono HB.out.size))
      clear hb HTW
      go_wp2_with fail
      go_ret2
      exact ⟨rfl, HB2.out⟩
  · have q0 : ((FE : Int) != 0) = true := by simp; omega
    rw [if_neg h0] 
    go_enter Try.func8, Try.ntmps8
    go_wp2_with fail
    refine HS.out.mono ?_
    rintro e w1 ⟨⟨mb, rfl, hw, hm, hmb⟩, hb⟩
    have HB := Lib.hid hb
    clear hw hm hb HS
    go_wp2_with fail
    go_ret2
    exact ⟨rfl, HB.out.trans ((mx_al _ _).mono HB.out.size)⟩
set_option maxRecDepth 100000 in
set_option maxHeartbeats 1000000 in
theorem mn_shorten_any {OA OT OC : Nat → Prop} (a b : Nat) (A : Arn) (T : Trl) (its : List RIt) (Ac : Option Addr) (cc : Nat) (c : List Int) (w : World) (hsim : Sim T its) (hil : its.length ≤ 500000) (ha : ArAt OA w a A) (ht : TrAt OT w b T) (hc : IntsIn OC w (.slice Ac c.length cc) c) (hs : c.length ≤ 4194304) :
    Calls Try.prog 10 #[.pointer (some ⟨a, 0, none⟩), .pointer (some ⟨b, 0, none⟩), .slice Ac c.length cc] w fun e w' => (∃ u', e = .returned (.tuple #[u', .int .i64 (failE T c)]) ∧ w'.ownsRow w.heap.size 26 1 u' (if failE T c = 0 then short15 A T c else []).length ((if failE T c = 0 then short15 A T c else []).map (Value.int .i64))) ∧ Below w.heap.size w w' := by
  have HS := Lib.hid (mn_start a b A T Ac cc c w ha ht hc hs)
  have HSI := Lib.hid hsim
  clear ha ht hc
  obtain ⟨FE, hfe⟩ : ∃ z, failE T c = z := ⟨_, rfl⟩
  rw [hfe] at HS ⊢
  have HFE := Lib.hid hfe
  clear hfe hsim
  by_cases h0 : FE = 0
  · subst h0
    have HV := Lib.hid (fun l hl => (failE_zero HFE.out).2 l hl)
    simp only [if_pos, Int.natCast_zero] at HS ⊢
    have HC := Lib.hid (fun (mb : Nat) (W : World) (hw : Wk W a b mb A T (.slice Ac c.length cc) c) (hm : MapAt W mb 0 (fun _ => 0)) => mn_shorten a b mb A T its Ac cc c (0 + 2 * zer its (fun _ => 0)) W _ 0 HSI.out (by have := zer_le its (fun _ => 0); omega) hs (fun l hl => by rw [← HSI.out.val]; exact HV.out l hl) hw hm (fun q y _ _ => .inl rfl) (Nat.le_refl _))
    go_enter Try.func10, Try.ntmps10
    go_wp2_with fail
    refine HS.out.mono ?_
    rintro e w1 ⟨⟨mb, rfl, hw, hm, hmb⟩, hb⟩
    obtain ⟨wx, hwx⟩ : ∃ x, w1.alloc (.cells #[.pointer (some ⟨a, 0, none⟩), .pointer (some ⟨b, 0, none⟩), .slice Ac c.length cc, .map (some mb)] 64) = x := ⟨_, rfl⟩
    have hbx : Below w1.heap.size w1 wx := by rw [← hwx]; exact mx_al _ _
    have hbn : wx.heap[w1.heap.size]? = some (.cells #[.pointer (some ⟨a, 0, none⟩), .pointer (some ⟨b, 0, none⟩), .slice Ac c.length cc, .map (some mb)] 64 (0, 0)) := by rw [← hwx]; exact World.alloc_heap_new _ _
    have HWX := Lib.hid hwx
    have HW := Lib.hid (hw.below hbx)
    have HM := Lib.hid (hm.below hbx)
    have HB := Lib.hid (hb.trans (hbx.mono hb.size))
    have HBN := Lib.hid hbn
    have hzx := heap_lt hbn
    have hm1 := hm.lt
    clear hw hm hb HS hwx hbx hbn
    obtain ⟨⟨e0, e1, e2, e3⟩, _⟩ := cells4 HBN.out
    have HC2 := Lib.hid (HC.out mb wx HW.out HM.out)
    clear HC
    go_wp2_with (rw [HWX.out])
    refine HC2.out.mono ?_
    rintro e w3 ⟨⟨u', rfl, ho⟩, hk⟩
    have HO := Lib.hid (own_mono ho HB.out.size)
    have HB3 := Lib.hid (HB.out.trans (hk.below (B := w.heap.size) (fun i e => by omega) (by have := HB.out.size; omega)))
    clear hk HC2 ho
    go_wp2_with fail
    go_ret2
    exact ⟨⟨_, rfl, HO.out⟩, HB3.out⟩
  · have q0 : ((FE : Int) != 0) = true := by simp; omega
    rw [if_neg h0] 
    go_enter Try.func10, Try.ntmps10
    go_wp2_with fail
    refine HS.out.mono ?_
    rintro e w1 ⟨⟨mb, rfl, hw, hm, hmb⟩, hb⟩
    have HB := Lib.hid hb
    clear hw hm hb HS
    go_wp2_with fail
    go_ret2
    exact ⟨⟨_, rfl, World.ownsRow_nil _ _ _ _⟩, HB.out.trans ((mx_al _ _).mono HB.out.size)⟩
set_option maxRecDepth 100000 in
set_option maxHeartbeats 1000000 in
theorem mn_redundant {OA OT OC : Nat → Prop} (a b : Nat) (A : Arn) (T : Trl) (its : List RIt) (Ac : Option Addr) (cc : Nat) (c : List Int) (l : Int) (w : World) (hsim : Sim T its) (hil : its.length ≤ 500000) (ha : ArAt OA w a A) (ht : TrAt OT w b T) (hc : IntsIn OC w (.slice Ac c.length cc) c) (hs : c.length ≤ 4194304) :
    Calls Try.prog 9 #[.pointer (some ⟨a, 0, none⟩), .pointer (some ⟨b, 0, none⟩), .slice Ac c.length cc, .int .i64 l] w fun e w' => e = .returned (.tuple #[.bool (if failE T c = 0 then c.contains l && impl15 A T c (litV l) else false), .int .i64 (failE T c)]) ∧ Below w.heap.size w w' := by
  have HS := Lib.hid (mn_start a b A T Ac cc c w ha ht hc hs)
  have HSI := Lib.hid hsim
  clear ha ht hc
  obtain ⟨FE, hfe⟩ : ∃ z, failE T c = z := ⟨_, rfl⟩
  rw [hfe] at HS ⊢
  have HFE := Lib.hid hfe
  clear hfe hsim
  by_cases h0 : FE = 0
  · subst h0
    have HV := Lib.hid (fun l hl => (failE_zero HFE.out).2 l hl)
    simp only [if_pos, Int.natCast_zero] at HS ⊢
    have HCT := Lib.hid (fun (W : World) (OC : Nat → Prop) (h : IntsIn OC W (.slice Ac c.length cc) c) => contains_c (.slice Ac c.length cc) c l W h (by omega))
    have HLV := Lib.hid (fun W => lit_var l W)
    obtain ⟨cb, hcb⟩ : ∃ z, c.contains l = z := ⟨_, rfl⟩
    rw [hcb] at HCT ⊢
    cases cb with
    | false =>
      rw [Bool.false_and]
      clear hcb HLV
      go_enter Try.func9, Try.ntmps9
      go_wp2_with fail
      refine HS.out.mono ?_
      rintro e w1 ⟨⟨mb, rfl, hw, hm, hmb⟩, hb⟩
      obtain ⟨wx, hwx⟩ : ∃ x, w1.alloc (.cells #[.pointer (some ⟨a, 0, none⟩), .pointer (some ⟨b, 0, none⟩), .slice Ac c.length cc, .map (some mb)] 64) = x := ⟨_, rfl⟩
      have hbx : Below w1.heap.size w1 wx := by rw [← hwx]; exact mx_al _ _
      have hbn : wx.heap[w1.heap.size]? = some (.cells #[.pointer (some ⟨a, 0, none⟩), .pointer (some ⟨b, 0, none⟩), .slice Ac c.length cc, .map (some mb)] 64 (0, 0)) := by rw [← hwx]; exact World.alloc_heap_new _ _
      have HWX := Lib.hid hwx
      have HW := Lib.hid (hw.below hbx)
      have HM := Lib.hid (hm.below hbx)
      have HB := Lib.hid (hb.trans (hbx.mono hb.size))
      have HBN := Lib.hid hbn
      have hzx := heap_lt hbn
      have hm1 := hm.lt
      clear hw hm hb HS hwx hbx hbn
      have hwk := HW.out
      obtain ⟨_, _, OCC, _, _, hci, _⟩ := hwk
      have HCI := Lib.hid hci
      clear hci
      obtain ⟨⟨e0, e1, e2, e3⟩, _⟩ := cells4 HBN.out
      go_upto_region 4 with (rw [HWX.out])
      refine wp_region_held_drew (S := fun w' => Below wx.heap.size wx w') (by kernel_rfl) (mx_drew wx) (fun hS => ?_)
      have hD := mx_drew wx
      obtain ⟨wD, hwD⟩ : ∃ q, (wx).drew = q := ⟨_, rfl⟩
      rw [hwD] at hS hD ⊢
      clear hwD
      refine takeD 0 22 (v := ?_) rfl (by rfl) (by kernel_rfl) (by kernel_rfl) (by kernel_rfl) (fun _ _ _ h => h) (Or.inl ⟨by rfl, ?_⟩) (by assumption) ?_
      rotate_left
      · intro wq hSw
        clear hSw
        go_simp
        try with_reducible rfl
      simp only [Act.put, List.setIfInBounds_toArray, List.set_cons_zero, List.set_cons_succ]
      refine takeD 1 23 (v := ?_) rfl (by rfl) (by kernel_rfl) (by kernel_rfl) (by kernel_rfl) (fun _ _ _ h => h) (Or.inl ⟨by rfl, ?_⟩) (by assumption) ?_
      rotate_left
      · intro wq hSw
        clear hSw
        go_simp
        try with_reducible rfl
      simp only [Act.put, List.setIfInBounds_toArray, List.set_cons_zero, List.set_cons_succ]
      refine wpAnyH_ready (rs := [2]) (by kernel_rfl) (by simp) ?_
      refine AllReadyH.cons rfl (fun K hK => ?_) AllReadyH.nil
      go_simp
      refine (HCT.out wD OCC (HCI.out.below hD)).mono ?_
      rintro e w' ⟨rfl, rfl⟩
      refine hK.out _ _ hS (fun _ => ?_)
      clear hK
      refine takeD 3 25 (v := ?_) rfl (by rfl) (by kernel_rfl) (by kernel_rfl) (by kernel_rfl) (fun _ _ _ h => h) (Or.inl ⟨by rfl, ?_⟩) (by assumption) ?_
      rotate_left
      · intro wq hSw
        clear hSw
        go_simp
        try with_reducible rfl
      simp only [Act.put, List.setIfInBounds_toArray, List.set_cons_zero, List.set_cons_succ]
      refine takeD 4 26 (v := undef) rfl (by rfl) (by kernel_rfl) (by kernel_rfl) (by kernel_rfl) (fun _ _ _ h => h) (Or.inr ⟨by rfl, rfl⟩) (by assumption) ?_
      simp only [Act.put, List.setIfInBounds_toArray, List.set_cons_zero, List.set_cons_succ]
      refine takeD 5 27 (v := undef) rfl (by rfl) (by kernel_rfl) (by kernel_rfl) (by kernel_rfl) (fun _ _ _ h => h) (Or.inr ⟨by rfl, rfl⟩) (by assumption) ?_
      simp only [Act.put, List.setIfInBounds_toArray, List.set_cons_zero, List.set_cons_succ]
      refine takeD 6 28 (v := undef) rfl (by rfl) (by kernel_rfl) (by kernel_rfl) (by kernel_rfl) (fun _ _ _ h => h) (Or.inr ⟨by rfl, rfl⟩) (by assumption) ?_
      simp only [Act.put, List.setIfInBounds_toArray, List.set_cons_zero, List.set_cons_succ]
      refine takeD 7 29 (v := undef) rfl (by rfl) (by kernel_rfl) (by kernel_rfl) (by kernel_rfl) (fun _ _ _ h => h) (Or.inr ⟨by rfl, rfl⟩) (by assumption) ?_
      simp only [Act.put, List.setIfInBounds_toArray, List.set_cons_zero, List.set_cons_succ]
      refine takeD 8 30 (v := ?_) rfl (by rfl) (by kernel_rfl) (by kernel_rfl) (by kernel_rfl) (fun _ _ _ h => h) (Or.inl ⟨by rfl, ?_⟩) (by assumption) ?_
      rotate_left
      · intro wq hSw
        clear hSw
        go_simp
        try with_reducible rfl
      simp only [Act.put, List.setIfInBounds_toArray, List.set_cons_zero, List.set_cons_succ]
      refine takeD 9 8 (v := ?_) rfl (by rfl) (by kernel_rfl) (by kernel_rfl) (by kernel_rfl) (fun _ _ _ h => h) (Or.inl ⟨by rfl, ?_⟩) (by assumption) ?_
      rotate_left
      · intro wq hSw
        clear hSw
        go_simp
        try with_reducible rfl
      simp only [Act.put, List.setIfInBounds_toArray, List.set_cons_zero, List.set_cons_succ]
      refine takeD 10 9 (v := ?_) rfl (by rfl) (by kernel_rfl) (by kernel_rfl) (by kernel_rfl) (fun _ _ _ h => h) (Or.inl ⟨by rfl, ?_⟩) (by assumption) ?_
      rotate_left
      · intro wq hSw
        clear hSw
        go_simp
        try with_reducible rfl
      simp only [Act.put, List.setIfInBounds_toArray, List.set_cons_zero, List.set_cons_succ]
      refine wpAnyH_done (by kernel_rfl) ?_ _
      have HB2 := Lib.hid (HB.out.trans (hS.mono HB.out.size))
      clear hS hD
      go_wp2_with fail
      go_ret2
      exact ⟨rfl, HB2.out⟩
    | true =>
      rw [Bool.true_and]
      have hl := HV.out l (List.contains_iff_mem.1 hcb)
      rw [HSI.out.val] at hl
      obtain ⟨p, x, hp, hle, hlv⟩ := HSI.out.fal hl
      have HC := Lib.hid (fun (mb : Nat) (W : World) (hw : Wk W a b mb A T (.slice Ac c.length cc) c) (hm : MapAt W mb 0 (fun _ => 0)) => imp_all a b mb A T its Ac cc c (0 + 2 * zer its (fun _ => 0)) HSI.out (by have := zer_le its (fun _ => 0); omega) hs p x hp W _ 0 hw hm (fun q y _ _ => .inl rfl) (Nat.le_refl _))
      rw [hlv] at HC
      obtain ⟨ib, hib⟩ : ∃ z, impl15 A T c (litV l : Nat) = z := ⟨_, rfl⟩
      rw [hib] at HC ⊢
      clear hib hlv hl hcb hp hle
      go_enter Try.func9, Try.ntmps9
      go_wp2_with fail
      refine HS.out.mono ?_
      rintro e w1 ⟨⟨mb, rfl, hw, hm, hmb⟩, hb⟩
      obtain ⟨wx, hwx⟩ : ∃ x, w1.alloc (.cells #[.pointer (some ⟨a, 0, none⟩), .pointer (some ⟨b, 0, none⟩), .slice Ac c.length cc, .map (some mb)] 64) = x := ⟨_, rfl⟩
      have hbx : Below w1.heap.size w1 wx := by rw [← hwx]; exact mx_al _ _
      have hbn : wx.heap[w1.heap.size]? = some (.cells #[.pointer (some ⟨a, 0, none⟩), .pointer (some ⟨b, 0, none⟩), .slice Ac c.length cc, .map (some mb)] 64 (0, 0)) := by rw [← hwx]; exact World.alloc_heap_new _ _
      have HWX := Lib.hid hwx
      have HW := Lib.hid (hw.below hbx)
      have HM := Lib.hid (hm.below hbx)
      have HB := Lib.hid (hb.trans (hbx.mono hb.size))
      have HBN := Lib.hid hbn
      have hzx := heap_lt hbn
      have hm1 := hm.lt
      clear hw hm hb HS hwx hbx hbn
      have hwk := HW.out
      obtain ⟨_, _, OCC, _, _, hci, _⟩ := hwk
      have HCI := Lib.hid hci
      clear hci
      obtain ⟨⟨e0, e1, e2, e3⟩, _⟩ := cells4 HBN.out
      go_upto_region 4 with (rw [HWX.out])
      refine wp_region_held_drew (S := fun w' => Kept (fun g => g = mb) wx w') (by kernel_rfl) (Kept.of_below (mx_drew wx)) (fun hS => ?_)
      have hD := mx_drew wx
      obtain ⟨wD, hwD⟩ : ∃ q, (wx).drew = q := ⟨_, rfl⟩
      rw [hwD] at hS hD ⊢
      clear hwD
      refine takeD 0 22 (v := ?_) rfl (by rfl) (by kernel_rfl) (by kernel_rfl) (by kernel_rfl) (fun _ _ _ h => h) (Or.inl ⟨by rfl, ?_⟩) (by assumption) ?_
      rotate_left
      · intro wq hSw
        clear hSw
        go_simp
        try with_reducible rfl
      simp only [Act.put, List.setIfInBounds_toArray, List.set_cons_zero, List.set_cons_succ]
      refine takeD 1 23 (v := ?_) rfl (by rfl) (by kernel_rfl) (by kernel_rfl) (by kernel_rfl) (fun _ _ _ h => h) (Or.inl ⟨by rfl, ?_⟩) (by assumption) ?_
      rotate_left
      · intro wq hSw
        clear hSw
        go_simp
        try with_reducible rfl
      simp only [Act.put, List.setIfInBounds_toArray, List.set_cons_zero, List.set_cons_succ]
      refine wpAnyH_ready (rs := [2]) (by kernel_rfl) (by simp) ?_
      refine AllReadyH.cons rfl (fun K hK => ?_) AllReadyH.nil
      go_simp
      refine (HCT.out wD OCC (HCI.out.below hD)).mono ?_
      rintro e w' ⟨rfl, rfl⟩
      refine hK.out _ _ hS (fun _ => ?_)
      clear hK
      refine takeD 3 25 (v := ?_) rfl (by rfl) (by kernel_rfl) (by kernel_rfl) (by kernel_rfl) (fun _ _ _ h => h) (Or.inl ⟨by rfl, ?_⟩) (by assumption) ?_
      rotate_left
      · intro wq hSw
        clear hSw
        go_simp
        try with_reducible rfl
      simp only [Act.put, List.setIfInBounds_toArray, List.set_cons_zero, List.set_cons_succ]
      refine takeD 4 26 (v := ?_) rfl (by rfl) (by kernel_rfl) (by kernel_rfl) (by kernel_rfl) (fun _ _ _ h => h) (Or.inl ⟨by rfl, ?_⟩) (by assumption) ?_
      rotate_left
      · intro wq hSw
        have k0 := (hSw.cell (p := ⟨w1.heap.size, 0, none⟩) hzx (Nat.ne_of_gt hm1)).trans e0
        have k1 := (hSw.cell (p := ⟨w1.heap.size, 1, none⟩) hzx (Nat.ne_of_gt hm1)).trans e1
        have k2 := (hSw.cell (p := ⟨w1.heap.size, 2, none⟩) hzx (Nat.ne_of_gt hm1)).trans e2
        have k3 := (hSw.cell (p := ⟨w1.heap.size, 3, none⟩) hzx (Nat.ne_of_gt hm1)).trans e3
        clear hSw
        go_simp
        try with_reducible rfl
      simp only [Act.put, List.setIfInBounds_toArray, List.set_cons_zero, List.set_cons_succ]
      refine takeD 5 27 (v := ?_) rfl (by rfl) (by kernel_rfl) (by kernel_rfl) (by kernel_rfl) (fun _ _ _ h => h) (Or.inl ⟨by rfl, ?_⟩) (by assumption) ?_
      rotate_left
      · intro wq hSw
        clear hSw
        go_simp
        try with_reducible rfl
      simp only [Act.put, List.setIfInBounds_toArray, List.set_cons_zero, List.set_cons_succ]
      refine wpAnyH_ready (rs := [6]) (by kernel_rfl) (by simp) ?_
      refine AllReadyH.cons rfl (fun K hK => ?_) AllReadyH.nil
      go_simp
      refine (HLV.out wD).mono ?_
      rintro e w' ⟨rfl, rfl⟩
      refine hK.out _ _ hS (fun _ => ?_)
      clear hK
      refine wpAnyH_ready (rs := [7]) (by kernel_rfl) (by simp) ?_
      refine AllReadyH.cons rfl (fun K hK => ?_) AllReadyH.nil
      go_simp
      refine (HC.out mb wD (HW.out.below hD) (HM.out.below hD)).mono ?_
      rintro e w3 ⟨f3, k3, rfl, _, _, _, _, hk⟩
      have hSN := hS.trans (O := fun g => g = mb) hk (fun _ _ h => h)
      refine hK.out _ _ hSN (fun _ => ?_)
      clear hK hS hk
      have hS := hSN
      clear hSN
      refine takeD 8 30 (v := ?_) rfl (by rfl) (by kernel_rfl) (by kernel_rfl) (by kernel_rfl) (fun _ _ _ h => h) (Or.inl ⟨by rfl, ?_⟩) (by assumption) ?_
      rotate_left
      · intro wq hSw
        clear hSw
        go_simp
        try with_reducible rfl
      simp only [Act.put, List.setIfInBounds_toArray, List.set_cons_zero, List.set_cons_succ]
      refine takeD 9 8 (v := ?_) rfl (by rfl) (by kernel_rfl) (by kernel_rfl) (by kernel_rfl) (fun _ _ _ h => h) (Or.inl ⟨by rfl, ?_⟩) (by assumption) ?_
      rotate_left
      · intro wq hSw
        clear hSw
        go_simp
        try with_reducible rfl
      simp only [Act.put, List.setIfInBounds_toArray, List.set_cons_zero, List.set_cons_succ]
      refine takeD 10 9 (v := ?_) rfl (by rfl) (by kernel_rfl) (by kernel_rfl) (by kernel_rfl) (fun _ _ _ h => h) (Or.inl ⟨by rfl, ?_⟩) (by assumption) ?_
      rotate_left
      · intro wq hSw
        clear hSw
        go_simp
        try with_reducible rfl
      simp only [Act.put, List.setIfInBounds_toArray, List.set_cons_zero, List.set_cons_succ]
      refine wpAnyH_done (by kernel_rfl) ?_ _
      have HB2 := Lib.hid (HB.out.trans (hS.below (B := w.heap.size) (fun i e => by omega) (by have := HB.out.size; omega)))
      clear hS hD
      go_wp2_with fail
      go_ret2
      exact ⟨rfl, HB2.out⟩
  · have q0 : ((FE : Int) != 0) = true := by simp; omega
    rw [if_neg h0] 
    go_enter Try.func9, Try.ntmps9
    go_wp2_with fail
    refine HS.out.mono ?_
    rintro e w1 ⟨⟨mb, rfl, hw, hm, hmb⟩, hb⟩
    have HB := Lib.hid hb
    clear hw hm hb HS
    go_wp2_with fail
    go_ret2
    exact ⟨rfl, HB.out.trans ((mx_al _ _).mono HB.out.size)⟩
end Go.Proofs.Ytiodfolcnnkdjaa
