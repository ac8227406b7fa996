/- minim: hints, at a clause that fails. -/
import Derived.Test.YtiodfolcnnkdjaaQi
import Derived.Laws.EntriesVeiled
namespace Go.Proofs.Ytiodfolcnnkdjaa
open Go.RowKit Go.Shelf Go.Maps
attribute [local go_sem] Oper.semAt_some

set_option maxRecDepth 100000 in
set_option maxHeartbeats 8000000 in
theorem hints_main {OA OT OC : Nat → Prop} (a b mk : Nat) (A : Arn) (T : Trl) (its : List RIt) (Ac : Option Addr) (cc : Nat) (c : List Int) (id : Int) (f : List Int) (w : World) (hs : Sim T its) (ha : ArAt OA w a A) (ht : TrAt OT w b T) (hc : IntsIn OC w (.slice Ac c.length cc) c) (hcl : c.length ≤ 4194304) (hmw : mk < w.heap.size) (hma : ¬ OA mk) (hmt : ¬ OT mk) (hmc : ¬ OC mk) (hg : A.get id = some f) (hf : failE T f = 0) :
    Calls Try.prog 29 #[.agg #[.pointer (some ⟨a, 0, none⟩), .pointer (some ⟨b, 0, none⟩), .slice Ac c.length cc, .map (some mk)], .int .i64 id] w fun e w' => (∃ u', e = .returned (.tuple #[u', .int .i64 ((hintP A T c id).2 : Nat)]) ∧ w'.ownsRow w.heap.size 3 1 u' (hintP A T c id).1.length ((hintP A T c id).1.map (Value.int .i64))) ∧ Below w.heap.size w w' := by
  have HFA := Lib.hid (fun (W : World) (O : Nat → Prop) (u : Value) (h : TrAt OT W b T) (hu : IntsIn O W u f) => mn_failing b T u f W h hu (Arn.get_len ha.1 hg))
  have hfl := Arn.get_len ha.1 hg
  have HHP := Lib.hid (show hintP A T c id = if (mAll (rho A T c) f T.order).any (badV A T c) = true then ([], 150) else (((mAll (rho A T c) f T.order).filterMap (hintV A T c)).reverse ++ [id], 0) from by
    unfold hintP
    rw [hg]
    simp only [hf]
    rw [if_neg (by simp)])
  rw [hf] at HFA
  have HA := Lib.hid ha
  have HT := Lib.hid ht
  have HC := Lib.hid hc
  have HSI := Lib.hid hs
  have HMA := Lib.hid hma
  have HMT := Lib.hid hmt
  have HMC := Lib.hid hmc
  obtain ⟨HPL, hhpl⟩ : ∃ z, (hintP A T c id).1 = z := ⟨_, rfl⟩
  obtain ⟨HPE, hhpe⟩ : ∃ z : Int, (((hintP A T c id).2 : Nat) : Int) = z := ⟨_, rfl⟩
  rw [hhpl, hhpe]
  have HPL1 := Lib.hid hhpl
  have HPE1 := Lib.hid hhpe
  obtain ⟨W0, hW0, hh0⟩ := hn_start a b mk Ac c cc w
  have HW0 := Lib.hid hW0
  have HH0 := Lib.hid hh0
  have HGT := Lib.hid (ar_get a A id f W0 (ha.below hh0.below) hg)
  obtain ⟨⟨e0, e1, e2, e3⟩, _⟩ := cells4 hh0.wk
  clear ha ht hc hW0 hh0 hs hma hmt hmc hg hf hhpl hhpe
  refine (callsIn_wide (n := 10)).1 ?_
  refine callsIn_of_wp_marks Try.func29 rfl trivial ?_ rfl
  simp only [Try.ntmps29, List.size_toArray, List.length_cons, List.length_nil, Nat.reduceAdd, Nat.reduceSub, Array.replicate_succ, Array.replicate_zero, List.push_toArray, List.append_toArray, List.nil_append, List.cons_append]
  rw [← HW0.out] at e0 e1 e2 e3
  gi_wp2_with fail
  rw [HW0.out]
  rw [HW0.out] at e0 e1 e2 e3
  refine ⟨trivial, ?_⟩
  refine (callsIn_wide.2 HGT.out).mono ?_
  rintro e w1 ⟨uf, rfl, hof, hb1⟩
  obtain ⟨Af, cf, rfl, _⟩ := mx_slice hof
  have HX1 := Lib.hid (HH0.out.more hb1)
  have HFI1 := Lib.hid (IntsIn.of_own hof)
  have HFC := Lib.hid (HFA.out w1 _ _ (HT.out.below HX1.out.below) HFI1.out)
  have HF1 := Lib.hid (hof)
  clear hb1 e0 e1 e2 e3 HGT hof HFA
  obtain ⟨⟨e0, e1, e2, e3⟩, _⟩ := cells4 HX1.out.wk
  gi_wp2_with fail
  refine ⟨trivial, ?_⟩
  refine (callsIn_wide.2 HFC.out).mono ?_
  rintro e w2 ⟨rfl, hb2⟩
  have HX2 := Lib.hid (HX1.out.more hb2)
  have HFI2 := Lib.hid (HFI1.out.below hb2)
  obtain ⟨w3, hw3⟩ : ∃ x, w2.alloc (.cells #[.slice none 0 0] 42) = x := ⟨_, rfl⟩
  have hb3 : Below w2.heap.size w2 w3 := by rw [← hw3]; exact mx_al _ _
  have ho3 : w3.heap[w2.heap.size]? = some (.cells #[.slice none 0 0] 42 (0, 0)) := by rw [← hw3]; exact World.alloc_heap_new _ _
  have hz3 : w3.heap.size = w2.heap.size + 1 := by rw [← hw3]; simp
  have HX3 := Lib.hid (HX2.out.more hb3)
  have HW3 := Lib.hid hw3
  have HO3 := Lib.hid ho3
  have HFI3 := Lib.hid (HFI2.out.below hb3)
  clear hb2 e0 e1 e2 e3 HFC hw3 hb3 ho3
  obtain ⟨⟨e0, e1, e2, e3⟩, _⟩ := cells4 HX3.out.wk
  rw [← HW3.out] at e0 e1 e2 e3
  gi_wp2_with fail
  rw [HW3.out]
  rw [HW3.out] at e0 e1 e2 e3
  refine ⟨trivial, ?_⟩
  refine (callsIn_wide.2 (met_run a b mk Ac cc c Af f.length cf w3)).mono ?_
  rintro e WL ⟨rfl, hWL⟩
  obtain ⟨w4, hw4⟩ : ∃ x, w3.alloc (.cells #[.pointer (some ⟨a, 0, none⟩), .pointer (some ⟨b, 0, none⟩), .slice Ac c.length cc, .map (some mk)] 64) = x := ⟨_, rfl⟩
  rw [hw4] at hWL
  have hb4 : Below w3.heap.size w3 w4 := by rw [← hw4]; exact mx_al _ _
  have hk4 : w4.heap[w3.heap.size]? = some (.cells #[.pointer (some ⟨a, 0, none⟩), .pointer (some ⟨b, 0, none⟩), .slice Ac c.length cc, .map (some mk)] 64 (0, 0)) := by rw [← hw4]; exact World.alloc_heap_new _ _
  have hz4 : w4.heap.size = w3.heap.size + 1 := by rw [← hw4]; simp
  have hb5 : Below w4.heap.size w4 WL := by rw [← hWL]; exact mx_al _ _
  have hk5 : WL.heap[w3.heap.size + 1]? = some (.cells #[.slice Af f.length cf] 27 (0, 0)) := by rw [← hWL, ← hz4]; exact World.alloc_heap_new _ _
  have hz5 : WL.heap.size = w3.heap.size + 2 := by rw [← hWL]; simp [hz4]
  have hbL : Below w3.heap.size w3 WL := hb4.trans (hb5.mono (by omega))
  have HXL := Lib.hid (HX3.out.more hbL)
  have HFIL := Lib.hid (HFI3.out.below hbL)
  have HOL := Lib.hid ((hbL.block _ (heap_lt HO3.out)).trans HO3.out)
  have hszw := HX2.out.size
  have HOT := Lib.hid HT.out.own
  have HSEQ := Lib.hid (met_stops (rho A T c) (fun g => g = w2.heap.size) (w3.heap.size + 1) w3.heap.size b T _ f WL (mx_cell (j := 0) hk5) ((mx_cell (j := 1) ((hb5.block _ (by omega)).trans hk4)).trans rfl) (HT.out.below HXL.out.below) HFIL.out hfl (rho_len HA.out T c) (fun g hg => by
    subst hg
    refine ⟨by omega, fun h => ?_⟩
    have := HOT.out _ h
    omega))
  have HI0 := Lib.hid (show HI A T a b mk Ac c cc w WL.heap.size w2.heap.size [] WL from ⟨.slice none 0 0, HXL.out, HOL.out, World.ownsRow_nil _ _ _ _, fun g hg => (by cases hg), fun y hy => (by cases hy), Nat.le_refl _, hszw, by omega⟩)
  have hOWL : w.heap.size + 3 ≤ WL.heap.size := by omega
  have HWK := Lib.hid (fun (W : World) (hb : Below w.heap.size w W) => show Wk W a b mk A T (.slice Ac c.length cc) c from ⟨OA, OT, OC, HA.out.below hb, HT.out.below hb, HC.out.below hb, HMA.out, HMT.out, HMC.out, Nat.lt_of_lt_of_le hmw hb.size⟩)
  have HRL := Lib.hid (rho_len HA.out T c)
  have HORD := Lib.hid HT.out.1.order
  have hzL : w2.heap.size < WL.heap.size := by omega
  have hz3L : w3.heap.size < WL.heap.size := by omega
  clear hWL hw4 hb4 hk4 hb5 hk5 hbL e0 e1 e2 e3 hz4 hz3 hz5
  gi_wp2_with fail
  obtain ⟨i1, hi1, iz1, iz2, iz3⟩ := info_parts tinfo_int
  have I1 := Lib.hid hi1
  have I2 := Lib.hid iz1
  have I3 := Lib.hid iz2
  have I4 := Lib.hid iz3
  clear hi1 iz1 iz2 iz3
  refine wpIn_range_M (gf := 65) (lb := #[.pointer (some ⟨w3.heap.size + 1, 0, none⟩), .pointer (some ⟨w3.heap.size, 0, none⟩)]) rfl (enters_of Try.func65 (by kernel_rfl) rfl) HSEQ.out (Below.refl _ _) (fun _ => rfl)
    (fun pre x W W3 l r r' h1 h2 h3 h4 => h4.turn h3 (by have := h2.lon; omega)) (fun pre x W W3 l r r' h1 h2 h3 h4 => h4.turn (by have := h2.lon; omega))
    (HI A T a b mk Ac c cc w WL.heap.size w2.heap.size) (HIx A T c w) (hi_own _ _ _ _ _ _ _ _ _ _ _) (hix_own _ _ _ _ hOWL) HI0.out
    ?frame (fun pre x W Bx W' => HMid (HI A T a b mk Ac c cc w WL.heap.size w2.heap.size) WL.heap.size w2.heap.size pre x W Bx W')
    (fun pre x W Bx W' l r r' h1 h2 h3 h4 => h4.turn (hi_own _ _ _ _ _ _ _ _ _ _ _) h1 h2 h3)
    ?assign ?body ?done ?stop
  case assign =>
    rintro l pre x W K hi hp hK
    dsimp only [MX.enc, moreV]
    gi_wp2
    obtain ⟨Wb, hWb⟩ : ∃ z, W.alloc (.cells #[.int .i64 x.v] 3) = z := ⟨_, rfl⟩
    have hbW : Below W.heap.size W Wb := by rw [← hWb]; exact mx_al _ _
    have hbx : Wb.heap[W.heap.size]? = some (.cells #[.int .i64 x.v] 3 (0, 0)) := by rw [← hWb]; exact World.alloc_heap_new _ _
    rw [hWb]
    obtain ⟨ov, hi⟩ := hi
    have hm : HMid (HI A T a b mk Ac c cc w WL.heap.size w2.heap.size) WL.heap.size w2.heap.size pre x W W.heap.size Wb := ⟨⟨ov, hi.below hbW⟩, hp.below hbW, RdK.below hbW, hbx⟩
    have hK2 := hK _ _ (KeepsRec.of_below hbW) hm
    clear hbx hbW hWb hi hp hm hK
    revert hK2
    generalize W.heap.size = Bx
    intro hK2
    exact hK2
  case body =>
    rintro l pre x W Bx W' hm
    obtain ⟨ov, hi⟩ := hm.inv
    have HIV := Lib.hid hi
    have HPR := Lib.hid hm.pre
    have HKP := Lib.hid hm.kp
    have HBX := Lib.hid hm.bx
    obtain ⟨⟨e0, e1, e2, e3⟩, _⟩ := cells4 hi.hn.wk
    have HCN := Lib.hid (contains_hint Bx x.v (.slice Ac c.length cc) c W' (mx_cell (j := 0) hm.bx) (HC.out.below hi.hn.below) hcl)
    obtain ⟨ib, hib⟩ : ∃ z, c.any (fun l => decide ((litV l : Int) = x.v)) = z := ⟨_, rfl⟩
    rw [hib] at HCN
    have HIB := Lib.hid (show inC c x.v = ib from hib)
    clear hi hm hib
    gi_wp2_with fail
    refine ⟨trivial, ((CallsIn.inRound l (callsIn_wide.2 HCN.out)).mono ?_)⟩
    rintro e w5 ⟨rfl, hb5⟩
    have HI5 := Lib.hid (HIV.out.below hb5)
    have HP5 := Lib.hid (HPR.out.below hb5)
    have HK5 := Lib.hid (HKP.out.trans (RdK.below (x := x) (ob := w2.heap.size) hb5))
    have HR5 := Lib.hid (KeepsRec.of_below hb5)
    have HBX5 := Lib.hid ((hb5.block Bx (heap_lt HBX.out)).trans HBX.out)
    clear hb5 e0 e1 e2 e3 HCN HIV HKP HBX
    cases ib with
    | true =>
      gi_wp2_with fail
      have hrho : rho A T c x.v = [] := by unfold rho; rw [if_pos HIB.out]
      refine ⟨HR5.out, ⟨ov, HI5.out.skip x HP5.out.same (by unfold hintV; rw [if_pos HIB.out]) (by unfold badV; rw [HIB.out]; rfl)⟩, HK5.out.1, HK5.out.2, HP5.out.box, ?_⟩
      rw [hrho]
      simpa [varsI] using HP5.out.map
    | false =>
      obtain ⟨⟨e0, e1, e2, e3⟩, _⟩ := cells4 HI5.out.hn.wk
      have kx := mx_cell (j := 0) HBX5.out
      have HRE := Lib.hid (mn_reason_any a b mk A T its Ac cc c x.v w5 HSI.out (HWK.out w5 HI5.out.hn.below))
      gi_wp2_with fail
      refine ⟨trivial, ((CallsIn.inRound l (callsIn_wide.2 HRE.out)).mono ?_)⟩
      rintro e w6 ⟨⟨hn, rfl⟩ | ⟨r, u', hr, rfl, hiu, hru⟩, hb6⟩
      · have HI6 := Lib.hid (HI5.out.below hb6)
        have HK6 := Lib.hid (HK5.out.2.trans (RdK.below (x := x) (ob := w2.heap.size) hb6).2)
        have HR6 := Lib.hid (HR5.out.trans (KeepsRec.of_below hb6))
        have HN := Lib.hid hn
        have hlon := HP5.out.lon
        clear hb6 e0 e1 e2 e3 kx HRE hn
        obtain ⟨k4, g4⟩ := cells1 HI6.out.hn.res
        obtain ⟨k5, g5⟩ := cells1 HI6.out.hn.err
        gi_wp2_with fail
        obtain ⟨Wf, hWf, hbf, r4, r5⟩ := hn_bad HI6.out.hn 150
        have hkf : Kept (fun g => g = w.heap.size + 1 ∨ g = w.heap.size + 1 + 1) w6 Wf := by
          rw [← hWf]
          exact ((Kept.refl (fun g => g = w.heap.size + 1 ∨ g = w.heap.size + 1 + 1) w6).setCell _ _ (.inl rfl)).setCell _ _ (.inr rfl)
        rw [hWf]
        refine ⟨HR6.out.trans (KeepsRec.of_kept hkf (fun g o e ho => .inl ?_)), ⟨r4, r5, hbf, x, by simp, ?_⟩, ?_⟩
        · rcases e with rfl | rfl
          · rw [HI6.out.hn.res] at ho
            cases ho
            rfl
          · rw [HI6.out.hn.err] at ho
            cases ho
            rfl
        · unfold badV
          rw [HIB.out, HN.out]
          rfl
        · exact KeepsFrom.trans HK6.out ⟨hkf.size, fun i o hR hi _ => (hkf.block i (heap_lt hi) (fun e => by omega)).trans hi⟩
      · obtain ⟨Au, cu, hu, _⟩ := (show IntsIn _ _ _ _ from hiu)
        subst hu
        have HI6 := Lib.hid (HI5.out.below hb6)
        have HP6 := Lib.hid (HP5.out.below hb6)
        have HK6 := Lib.hid (HK5.out.trans (RdK.below (x := x) (ob := w2.heap.size) hb6))
        have HR6 := Lib.hid (HR5.out.trans (KeepsRec.of_below hb6))
        have HIU := Lib.hid hiu
        have HRV := Lib.hid hr
        have hsz6 := hb6.size
        have hsz5 := HP5.out.size
        have hrr := HP6.out.size
        have hlob := HI6.out.lob
        have hlom := HP6.out.lom
        have hloB := HP6.out.loB
        have him := HP6.out.him
        have hiB := HP6.out.hiB
        have hlon := HP6.out.lon
        have hkb := HP6.out.kb
        have hsB := HI6.out.size
        have hlen := HP6.out.len
        have hol := houts_len A T c pre
        have HOW := Lib.hid (fun g (hg : ov.ownBlock = some g) => own_lt HI5.out.row g hg)
        have HHV := Lib.hid (show hintV A T c x.v = some r.1 from by unfold hintV; rw [if_neg (by rw [HIB.out]; decide), hr]; rfl)
        have HBD := Lib.hid (show badV A T c x.v = false from by unfold badV; rw [hr]; simp)
        have HRH := Lib.hid (show rho A T c x.v = r.2 from by unfold rho; rw [if_neg (by rw [HIB.out]; decide), hr])
        obtain ⟨Ao, co, hov, _⟩ := mx_slice HI6.out.row
        subst hov
        obtain ⟨no, hno⟩ : ∃ z, (houts A T c pre).length = z := ⟨_, rfl⟩
        have hrow6 := HI6.out.row
        rw [hno] at hrow6 hol
        have HROW6 := Lib.hid hrow6
        have HNO := Lib.hid hno
        have k8 := (cells1 HI6.out.out).1
        rw [hno] at k8
        obtain ⟨r1, hr1⟩ : ∃ z, r.1 = z := ⟨_, rfl⟩
        obtain ⟨r2, hr2⟩ : ∃ z, r.2 = z := ⟨_, rfl⟩
        rw [hr1] at HHV
        rw [hr2] at HRH HIU hru
        rw [hr1, hr2]
        clear hb6 e0 e1 e2 e3 kx HRE hiu hr hrow6 hno hr1 hr2 HRV
        gi_wp2_with (gi_at_builtin; refine wpListIn_append_any rfl _ _ 42 rfl WL.heap.size 3 i1 (.int .i64 0) 1 8 Try.underlying42 I1.out I2.out I3.out I4.out rfl (by decide) _ no _ rfl (own_below HROW6.out (mx_al w6 (.cells #[.int .i64 r1] 3))) (.slice (some ⟨w6.heap.size, 0, none⟩) 1 1) 1 [.int .i64 r1] rfl (mx_src w6 3 [.int .i64 r1]) rfl (by simp [Value.oneCell']) (by unfold maxLen; omega) (by omega) (by simp; omega) ?_; intro v' w8 hown' hgrow hat; obtain ⟨A8, c8, hv8, _⟩ := mx_slice hown'; subst hv8; obtain ⟨hi8, hk8, hs8⟩ := HI6.out.push x r1 HP6.out.same HHV.out HBD.out hrr (mx_al w6 (.cells #[.int .i64 r1] 3)) (by rw [HNO.out]; exact hgrow) (by rw [HNO.out]; exact hown') (by rw [HNO.out]; exact hat); have x8 := mx_cell (j := 0) hs8; have y8 := mx_free (j := 0) hs8; have HI8 := Lib.hid hi8; have HK8 := Lib.hid hk8; clear hi8 hk8 hs8 hown' hgrow hat k8)
        obtain ⟨W9, hW9⟩ : ∃ z, w8.setCell ⟨w2.heap.size, 0, none⟩ (.slice A8 (no + 1) c8) = z := ⟨_, rfl⟩
        rw [hW9] at HI8 HK8 ⊢
        clear x8 y8 hW9
        have hbmap : ∀ g, some g = (Value.slice Ao no co).ownBlock → g ≠ x.B := fun g e1 e2 => by
          obtain ⟨cq, hcq⟩ := own_type HROW6.out g e1.symm
          rw [e2, HP6.out.box] at hcq
          cases hcq
        have hmmap : ∀ g, some g = (Value.slice Ao no co).ownBlock → g ≠ x.mb := fun g e1 e2 => by
          obtain ⟨cq, hcq⟩ := own_type HROW6.out g e1.symm
          obtain ⟨Dm, ⟨es, cl, hb, _⟩, _⟩ := HP6.out.map
          rw [e2, hb] at hcq
          cases hcq
        have hk8 : Kept (fun g => g = w2.heap.size ∨ some g = (Value.slice Ao no co).ownBlock) w6 W9 := by
          have := HK8.out
          rw [HNO.out] at this
          exact this
        have HP9 := Lib.hid (HP6.out.kept hk8 (fun e => e.elim (fun e => by omega) (fun e => hbmap _ e rfl)) (fun e => e.elim (fun e => by omega) (fun e => hmmap _ e rfl)))
        have HOW2 := Lib.hid (show ∀ g, some g = (Value.slice Ao no co).ownBlock → WL.heap.size ≤ g ∧ g < w5.heap.size from fun g e => HOW.out g (by rw [HNO.out]; exact e.symm))
        have HIU9 := Lib.hid (HIU.out.kept hk8 (fun g hg e => e.elim (fun e => by have := HP5.out.size; omega) (fun e => by have := (HOW2.out g e).2; omega)))
        have HMR := Lib.hid (more_run x.B x.mb x.k x.ms _ r2 W9 (mx_cell (j := 0) HP9.out.box) HP9.out.map HIU9.out (by have := HP5.out.size; omega) HP9.out.ne (by omega))
        have hfar : ∀ g, some g = (Value.slice Ao no co).ownBlock → x.R ≤ g := fun g e => by
          obtain ⟨h1, h2⟩ := HI6.out.far g (by rw [HNO.out]; exact e.symm)
          obtain ⟨z, hz⟩ := List.exists_mem_of_ne_nil _ h1
          rw [← HP6.out.same z hz]
          exact h2 z hz
        have hcel : ∀ g o, g = w2.heap.size ∨ some g = (Value.slice Ao no co).ownBlock → w6.heap[g]? = some o → o.isCells = true := fun g o e ho => by
          rcases e with rfl | e
          · rw [HI6.out.out] at ho
            cases ho
            rfl
          · obtain ⟨cq, hcq⟩ := own_type HROW6.out g e.symm
            rw [ho] at hcq
            cases hcq
            rfl
        have HK9 := Lib.hid (HK6.out.trans (RdK.kept (x := x) (ob := w2.heap.size) hk8 (fun g e => e.elim (fun e => .inr (.inr e)) (fun e => .inr (.inl (hfar g e)))) (fun g o e _ ho => hcel g o e ho)))
        have HR9 := Lib.hid (HR6.out.trans (KeepsRec.of_kept hk8 (fun g o e ho => .inl (hcel g o e ho))))
        clear hk8 hbmap hmmap hfar hcel
        refine ⟨trivial, ((CallsIn.inRound l (callsIn_wide.2 HMR.out)).mono ?_)⟩
        rintro e W10 ⟨⟨v0, rfl⟩, hm10, hk10⟩
        have hmc : ∀ o, W9.heap[x.mb]? = some o → o.isCells = false ∧ o.isWalk = true := fun o ho => by
          obtain ⟨Dm, ⟨es, cl, hb, _⟩, _⟩ := HP9.out.map
          rw [hb] at ho
          cases ho
          exact ⟨rfl, rfl⟩
        have HI10 := Lib.hid (HI8.out.kept hk10 (fun g e => by
          subst e
          refine ⟨hlom, fun e => ?_⟩
          obtain ⟨cq, hcq⟩ := own_type HI8.out.row _ e
          have := (hmc _ hcq).1
          cases this))
        have HK10 := Lib.hid (HK9.out.trans (RdK.kept (x := x) (ob := w2.heap.size) hk10 (fun g e => .inl e) (fun g o e hR _ => by omega)))
        have HR10 := Lib.hid (HR9.out.trans (KeepsRec.of_kept hk10 (fun g o e ho => by
          subst e
          exact .inr (hmc o ho).2)))
        have HB10 := Lib.hid ((hk10.block x.B (heap_lt HP9.out.box) HP9.out.ne).trans HP9.out.box)
        have HM10 := Lib.hid hm10
        clear hm10 hk10 hmc HMR
        gi_wp2_with fail
        refine ⟨HR10.out, ⟨_, HI10.out⟩, HK10.out.1, HK10.out.2, HB10.out, ?_⟩
        rw [HRH.out]
        exact HM10.out
  case done =>
    rintro D ys W hD hS ⟨ov, hi⟩ hK
    have hany : (mAll (rho A T c) f T.order).any (badV A T c) = false := by
      rw [← hS]
      refine List.any_eq_false.2 (fun z hz => ?_)
      obtain ⟨y, hy, rfl⟩ := List.mem_map.1 hz
      rw [hi.good y hy]
      decide
    have hhp := HHP.out
    rw [if_neg (by rw [hany]; decide)] at hhp
    have hpl := HPL1.out
    have hpe := HPE1.out
    rw [hhp] at hpl hpe
    have hho : (houts A T c ys).reverse ++ [id] = HPL := by
      rw [← hpl, ← hS]
      rfl
    obtain rfl : (0 : Int) = HPE := hpe
    have HHO := Lib.hid hho
    have hlen : (houts A T c ys).length ≤ 1048576 := by
      refine Nat.le_trans (houts_len A T c ys) ?_
      have h1 := mRun_len (rho A T c) T.order.reverse ([], varsI f)
      have h2 : ys.length = (mAll (rho A T c) f T.order).length := by rw [← hS, List.length_map]
      rw [h2]
      unfold mAll
      rw [List.length_reverse] at h1
      have h3 := HORD.out
      simp only [List.length_nil] at h1
      omega
    have HIF := Lib.hid hi
    have HKD := Lib.hid hK
    clear hany hhp hpl hho hi hS hK
    obtain ⟨Ao, co, hov, _⟩ := mx_slice HIF.out.row
    subst hov
    obtain ⟨xs, hxs⟩ : ∃ z, houts A T c ys = z := ⟨_, rfl⟩
    have HXL := Lib.hid (show (houts A T c ys).length = xs.length from by rw [hxs])
    have hrow := HIF.out.row
    rw [hxs] at hrow HHO hlen
    have k8 := (cells1 HIF.out.out).1
    rw [hxs] at k8
    have HX := Lib.hid HIF.out.hn
    have HB := Lib.hid (show WL.heap.size ≤ W.heap.size from HIF.out.size)
    have HROW := Lib.hid hrow
    clear hrow hxs
    gi_wp2_with fail
    refine ⟨trivial, (callsIn_wide.2 (own_reverse _ xs W HROW.out (by omega))).mono ?_⟩
    rintro e W2 ⟨rfl, hown2, hk2⟩
    have hne : ∀ g t cq, W.heap[g]? = some (.cells cq t (0, 0)) → t ≠ 3 → (Value.slice Ao xs.length co).ownBlock ≠ some g := fun g t cq hg ht e => by
      obtain ⟨cz, hcz⟩ := own_type HROW.out g e
      rw [hg] at hcz
      cases hcz
      exact ht rfl
    have hge : ∀ g, (Value.slice Ao xs.length co).ownBlock = some g → w.heap.size + 3 ≤ g := fun g e => by
      have := (own_lt HROW.out g e).1
      omega
    have HX2 := Lib.hid (HX.out.kept hk2 hge)
    have HO2 := Lib.hid ((hk2.block _ (heap_lt HIF.out.out) (hne _ _ _ HIF.out.out (by decide))).trans HIF.out.out)
    have HK2 := Lib.hid ((hk2.block D (heap_lt HKD.out) (fun e => by
      obtain ⟨cz, hcz⟩ := own_type HROW.out D e
      rw [HKD.out] at hcz
      cases hcz)).trans HKD.out)
    have hz2 := hk2.size
    have hzB := HB.out
    have HR2 := Lib.hid hown2
    have k82 := (cells1 HO2.out).1
    have hlr : xs.reverse.length = xs.length := List.length_reverse
    have HLR := Lib.hid hlr
    have hh := HIF.out.out
    clear hown2 hk2 hne hge k8 hlr hh
    have hr2 := HR2.out
    rw [HLR.out] at hr2
    obtain ⟨nz, hnz⟩ : ∃ z, xs.length = z := ⟨_, rfl⟩
    rw [HXL.out, hnz] at k82
    rw [hnz] at hlen hr2
    have HR3 := Lib.hid hr2
    have HNZ := Lib.hid hnz
    clear hr2 hnz
    gi_wp2_with (gi_at_builtin; refine wpListIn_append_any rfl _ _ 42 rfl WL.heap.size 3 i1 (.int .i64 0) 1 8 Try.underlying42 I1.out I2.out I3.out I4.out rfl (by decide) _ nz _ rfl (own_below HR3.out (mx_al W2 (.cells #[.int .i64 id] 3))) (.slice (some ⟨W2.heap.size, 0, none⟩) 1 1) 1 [.int .i64 id] rfl (mx_src W2 3 [.int .i64 id]) rfl (by simp [Value.oneCell']) (by unfold maxLen; omega) (by omega) (by simp; omega) ?_; intro v' w8 hown' hgrow hat; obtain ⟨A8, c8, hv8, _⟩ := mx_slice hown'; subst hv8; have hkA := (Kept.of_below (O := fun g => some g = (Value.slice Ao nz co).ownBlock) (mx_al W2 (.cells #[.int .i64 id] 3))).trans (Kept.grown hgrow) (fun _ _ h => h); have hgA : ∀ g, some g = (Value.slice Ao nz co).ownBlock → WL.heap.size ≤ g := (fun g e => (own_lt HR3.out g e.symm).1); have HX8 := Lib.hid (HX2.out.kept hkA (fun g e => by have := hgA g e; omega)); have HK8 := Lib.hid ((hkA.block D (heap_lt HK2.out) (fun e => by obtain ⟨cz, hcz⟩ := own_type HR3.out D e.symm; rw [HK2.out] at hcz; cases hcz)).trans HK2.out); obtain ⟨k4, g4⟩ := cells1 HX8.out.res; obtain ⟨k5, g5⟩ := cells1 HX8.out.err; have HO8 := Lib.hid hown'; clear hown' hgrow hat hkA hgA k82)
    obtain ⟨Wf, hWf⟩ : ∃ z, (w8.setCell ⟨w.heap.size + 1, 0, none⟩ (.slice A8 (nz + 1) c8)).setCell ⟨w.heap.size + 1 + 1, 0, none⟩ (.int .i64 0) = z := ⟨_, rfl⟩
    rw [hWf]
    have hkf : Kept (fun g => g = w.heap.size + 1 ∨ g = w.heap.size + 1 + 1) w8 Wf := by
      rw [← hWf]
      exact ((Kept.refl (fun g => g = w.heap.size + 1 ∨ g = w.heap.size + 1 + 1) w8).setCell _ _ (.inl rfl)).setCell _ _ (.inr rfl)
    have r4 : Wf.heap[w.heap.size + 1]? = some (.cells #[.slice A8 (nz + 1) c8] 42 (0, 0)) := by
      rw [← hWf, Below.heap_setCell _ _ _ _ (by simp)]
      exact mx_set (j := 0) HX8.out.res _
    have r5 : Wf.heap[w.heap.size + 1 + 1]? = some (.cells #[.int .i64 0] 37 (0, 0)) := by
      rw [← hWf]
      exact mx_set (j := 0) ((Below.heap_setCell _ _ _ _ (by simp)).trans HX8.out.err) _
    have hDf := (hkf.block D (heap_lt HK8.out) (fun e => by omega)).trans HK8.out
    have hbf : Below w.heap.size w Wf := HX8.out.below.trans (hkf.below (fun i e => by omega) HX8.out.below.size)
    have hof := own_kept HO8.out hkf (fun g hg e => by
      have := (own_lt HO8.out g hg).1
      omega)
    clear k4 g4 k5 g5 hWf
    refine ⟨by simp, .inl ⟨_, _, rfl, run_takeDeferred hDf, ?_⟩⟩
    refine ⟨_, res_hints rfl ((World.putObj_heap_other (by omega)).trans r4) ((World.putObj_heap_other (by omega)).trans r5) _ rfl rfl, ⟨⟨_, rfl, ?_⟩, hbf.trans (belowK_b (w := w) (Nat.le_refl _) Wf D _ _ (by omega) hDf rfl rfl)⟩⟩
    rw [← HHO.out, List.length_append, List.map_append, HLR.out, HNZ.out]
    exact own_mono (ownsRow_putObj hof _ hDf rfl) (by omega)
  case stop =>
    rintro D pre W hD ⟨hpre, hne⟩ ⟨r4, r5, hb, y, hy, hbad⟩ hK
    have hany : (mAll (rho A T c) f T.order).any (badV A T c) = true :=
      List.any_eq_true.2 ⟨y.v, hpre.subset (List.mem_map_of_mem hy), hbad⟩
    have hhp := HHP.out
    rw [if_pos hany] at hhp
    have hpl := HPL1.out
    have hpe := HPE1.out
    rw [hhp] at hpl hpe
    subst hpl
    obtain rfl : (150 : Int) = HPE := hpe
    have R4 := Lib.hid r4
    have R5 := Lib.hid r5
    have HB := Lib.hid hb
    have HKD := Lib.hid hK
    clear hany hhp hpre hne r4 r5 hb hy hbad hK
    gi_wp2_with fail
    refine ⟨by simp, .inl ⟨_, _, rfl, run_takeDeferred HKD.out, ?_⟩⟩
    exact ⟨_, res_hints rfl ((World.putObj_heap_other (by omega)).trans R4.out) ((World.putObj_heap_other (by omega)).trans R5.out) _ rfl rfl, ⟨⟨_, rfl, World.ownsRow_nil _ _ _ _⟩, HB.out.trans (belowK_b (w := w) (Nat.le_refl _) W D _ _ (by omega) HKD.out rfl rfl)⟩⟩
end Go.Proofs.Ytiodfolcnnkdjaa
