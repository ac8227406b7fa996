/- package rup: needed. Plain: hints are followed from the negations of a clause; what a chain of hints gives: all of them serve, and all are needed. -/
import Derived.Test.YtoojmhjagipmdaaGreatU028
import Derived.Test.YtoojmhjagipmdaaGreatU014
import Derived.Test.YtoojmhjagipmdaaGreatU026
import Derived.Test.YtoojmhjagipmdaaGreatU025
import Derived.Test.YtoojmhjagipmdaaGreatU017
namespace Go.Proofs.YtoojmhjagipmdaaGreat
open Go.RowKit Go.Maps Go.Shelf

/-- the negations of a clause's literals are needed too -/
def needM (f : Int → Int) (xs : List Int) : Int → Int := xs.foldl (fun f l => fun z => if z = litN l then 1 else f z) f
/-- which of the first k hints are needed, from the last one on -/
def needGo (hs : List (List Int)) (us : List Int) : Nat → (Int → Int) → List Int → List Int
  | 0, _, out => out
  | k + 1, f, out => if k < us.length ∧ f (us.getD k 0) = 0 then needGo hs us k f out else needGo hs us k (needM f (hs.getD k [])) (out ++ [(k : Int)])
def needL (hs : List (List Int)) (us : List Int) : List Int := (needGo hs us hs.length (fun _ => 0) []).reverse
theorem wf_litN (l : Int) : (Lit.int .i64 (litN l)).wf = true := by
  unfold litN
  split
  · rename_i h
    have := (litB_iff l).1 h
    exact wf64 (by omega) (by omega)
  · exact wf64 (by omega) (by omega)
theorem cinfo_int : (Tryz.prog.info? 3).map (fun i => (i.zero, i.size, i.bytes)) = some (some (.int .i64 0), 1, 8) := by kernel_rfl
set_option maxRecDepth 100000 in
set_option maxHeartbeats 4000000 in
theorem rup_needed {O Ou : Nat → Prop} (hv uv : Value) (hs : List (List Int)) (us : List Int) (w : World) (hh : ClsIn O w hv hs) (hu : IntsIn Ou w uv us) (hn : hs.length ≤ 1000000) (hx : ∀ xs ∈ hs, xs.length ≤ 1000000) (hul : us.length ≤ 1000000) (hw : ∀ x ∈ us, (Lit.int .i64 x).wf = true) :
    Calls Tryz.prog 130 #[hv, uv] w fun e w' => ∃ v, e = .returned v ∧ w'.ownsRow (w.heap.size + 1) 3 1 v (needL hs us).length ((needL hs us).map (Value.int .i64)) ∧ Below w.heap.size w w' := by
  have hmm := @run_makeMap Tryz.prog
  obtain ⟨i0, hi, hz0, hz1, hz2⟩ := info_parts cinfo_int
  obtain ⟨W0, hW0⟩ : ∃ x, w.alloc (.map #[] 0) = x := ⟨_, rfl⟩
  have hb0 : Below w.heap.size w W0 := by rw [← hW0]; exact mx_al _ _
  have hm0 : MapL W0 w.heap.size 0 (fun _ => 0) := by rw [← hW0]; exact MapL.made w
  have hs0 : W0.heap.size = w.heap.size + 1 := by rw [← hW0]; simp
  have HH := Lib.hid hh.lt
  have HU := Lib.hid hu.lt
  have HX := Lib.hid hx
  have HWF := Lib.hid hw
  obtain ⟨Ah, ch, rfl, _⟩ := hh
  obtain ⟨Au, cu, rfl, _⟩ := hu
  have HW0 := Lib.hid hW0
  have HB0 := Lib.hid hb0
  have HM0 := Lib.hid hm0
  obtain ⟨R, hR⟩ : ∃ r, needGo hs us hs.length (fun _ => 0) [] = r := ⟨_, rfl⟩
  have HR := Lib.hid hR
  unfold needL
  rw [hR]
  clear hW0 hb0 hm0 hR hx hw
  go_enter Tryz.func130, Tryz.ntmps130
  go_wp2_with fail
  rw [HW0.out]
  go_loopw [5, 7] (fun ov iv wr => ∃ (z : Int) (k n : Nat) (f : Int → Int) (out : List Int), iv = .int .i64 z ∧ -1 ≤ z ∧ z < 1000000 ∧ Hid (z + 1 = k) ∧ Hid (k ≤ hs.length) ∧ Hid (n ≤ (hs.length - k) * 1000000) ∧ Hid (needGo hs us k f out = R) ∧ Hid (MapL wr w.heap.size n f) ∧ Hid (wr.ownsRow (w.heap.size + 1) 3 1 ov out.length (out.map (Value.int .i64))) ∧ Hid (out.length ≤ hs.length - k) ∧ Hid (Below w.heap.size w wr ∧ w.heap.size + 1 ≤ wr.heap.size)) (fun _ iv _ => (intOf iv + 1).toNat)
  case atStart => exact ⟨(hs.length : Int) - 1, hs.length, 0, _, [], rfl, by omega, by omega, Lib.hid (by omega), Lib.hid (Nat.le_refl _), Lib.hid (by omega), HR, HM0, Lib.hid (World.ownsRow_nil _ _ _ _), Lib.hid (by simp), Lib.hid ⟨HB0.out, by omega⟩⟩
  case round =>
    obtain ⟨z, k1, n, f, out, rfl, hz1', hz2', HZ, HKL, HNB, HG, HM, HO, HOL, HB⟩ := hrel
    obtain ⟨Ao, co, rfl, _⟩ := mx_slice HO.out
    by_cases hlt : 0 ≤ z
    · obtain ⟨k, rfl⟩ : ∃ k : Nat, z = (k : Int) := ⟨z.toNat, by omega⟩
      obtain rfl : k1 = k + 1 := by have := HZ.out; omega
      have hkl : k < hs.length := HKL.out
      obtain ⟨xs, hxk⟩ := getElem_of hkl
      have HXS := Lib.hid (show hs.getD k [] = xs from by rw [List.getD_eq_getElem?_getD, hxk]; rfl)
      have hgo := HG.out
      simp only [needGo] at hgo
      rw [HXS.out] at hgo
      -- the hint's literals
      obtain ⟨A', c', hAc, _, _, hxs⟩ := HH.out
      simp only [Value.slice.injEq, true_and] at hAc
      obtain ⟨rfl, rfl⟩ := hAc
      obtain ⟨g, o, hv, rfl, hg, _, d0, hin⟩ := hxs k xs hxk
      have d1 : wr.cell? ⟨g, o + k, none⟩ = some hv := (HB.out.1.cell (p := ⟨g, o + k, none⟩) hg).trans d0
      have hxl := HX.out xs (List.mem_of_getElem? hxk)
      have HIN := Lib.hid hin
      obtain ⟨Ax, cx, rfl, _⟩ := hin
      clear hxk hxs d0
      have hbs := HB.out.2
      have hol := HOL.out
      have HZZ := Lib.hid hz2'
      clear hz1' hz2' hlt hs0
      have hnb : n ≤ 1000000000000 := Nat.le_trans HNB.out (Nat.le_trans (Nat.mul_le_mul_right _ (show _ ≤ 1000000 by omega)) (by decide))
      by_cases hku : k < us.length
      · obtain ⟨x, hxu⟩ := getElem_of hku
        have hxd : us.getD k 0 = x := by rw [List.getD_eq_getElem?_getD, hxu]; rfl
        rw [hxd] at hgo
        obtain ⟨A', c', hAc, _, _, hus⟩ := HU.out
        simp only [Value.slice.injEq, true_and] at hAc
        obtain ⟨rfl, rfl⟩ := hAc
        obtain ⟨gu, ou, rfl, hgu, _, u0⟩ := hus k x hxu
        have u1 : wr.cell? ⟨gu, ou + k, none⟩ = some (.int .i64 x) := (HB.out.1.cell (p := ⟨gu, ou + k, none⟩) hgu).trans u0
        have hlk := HM.out.look (HWF.out x (List.mem_of_getElem? hxu))
        obtain ⟨fx, hfx⟩ : ∃ y, f x = y := ⟨_, rfl⟩
        rw [hfx] at hgo hlk
        have hdu : decide ((k : Int) < (us.length : Int)) = true := by simp; omega
        clear hxu hxd hus u0 hfx
        by_cases hf0 : fx = 0
        · rw [if_pos ⟨hku, hf0⟩] at hgo
          have q0 : (fx == 0) = true := by simpa using hf0
          have HG2 := Lib.hid hgo
          clear hgo hf0 d1
          go_wp2_with fail
          go_roundw
          case rel => exact ⟨(k : Int) - 1, k, n, f, out, by go_num, by omega, by have := HZZ.out; omega, Lib.hid (by omega), Lib.hid (by omega), Lib.hid (Nat.le_trans HNB.out (Nat.mul_le_mul_right _ (by omega))), HG2, HM, HO, Lib.hid (by omega), HB⟩
          case measure => simp [intOf]
        · rw [if_neg (fun h => hf0 h.2)] at hgo
          have q0 : (fx == 0) = false := by simpa using hf0
          clear hf0
          have HG2 := Lib.hid hgo
          clear hgo
          go_wp2_with (at_builtin; refine wpList_append_own_at _ rfl _ _ 63 rfl (w.heap.size + 1) 3 i0 (.int .i64 0) 1 8 Tryz.underlying63 hi hz0 hz1 hz2 rfl (by decide) _ out.length _ rfl (own_below HO.out (mx_al wr _)) ⟨wr.heap.size, 0, none⟩ 1 1 [.int .i64 (k : Int)] rfl rfl (fun i u hi => by
            match i, hi with
            | 0, hi => simp at hi; subst hi; simp [Addr.add]) (fun u hu => by rw [List.mem_singleton.1 hu]; rfl) (by unfold maxLen; omega) (by omega) (by simp; omega) ?_; intro v' w2 hown hgrow hnl2 hat; obtain ⟨g2, c2, rfl⟩ := ownsRow_succ hown; have hB2 : Below (w.heap.size + 1) wr w2 := ((mx_al wr (.cells #[.int .i64 (k : Int)] 3)).mono hbs).grown hgrow (by simp; omega) (fun g hg => (own_lt HO.out g hg).1); have d2 : w2.cell? ⟨g, o + k, none⟩ = some (.slice Ax xs.length cx) := (hB2.cell (p := ⟨g, o + k, none⟩) (by simp only; omega)).trans d1)
          have HO2 := Lib.hid hown
          have HB2 := Lib.hid hB2
          have HM2 := Lib.hid ((HM.out.below (mx_al wr (.cells #[.int .i64 (k : Int)] 3))).kept (Kept.grown hgrow) (fun e => by
            have := (own_lt HO.out _ e.symm).1
            omega))
          have hsz2 := hB2.size
          clear hown hgrow hnl2 hat hB2 d2 d1
          go_wp2_with fail
          obtain ⟨wo, hwo⟩ : ∃ wo : World, wo = w2 := ⟨_, rfl⟩
          rw [← hwo] at HO2 HB2 HM2 hsz2 ⊢
          clear hwo
          go_loopw [40] (fun iv wq => ∃ (j n' : Nat), j ≤ xs.length ∧ iv = .int .i64 j ∧ n' ≤ n + j ∧ Hid (MapL wq w.heap.size n' (needM f (xs.take j))) ∧ Hid (Kept (fun g => g = w.heap.size) wo wq)) (fun iv _ => xs.length - (intOf iv).toNat)
          case atStart => exact ⟨0, n, Nat.zero_le _, rfl, Nat.le_refl _, HM2, Lib.hid (Kept.refl _ _)⟩
          case round =>
            obtain ⟨j, n', hj, rfl, hn', HMQ, HKQ⟩ := hrel
            by_cases hjl : j < xs.length
            · obtain ⟨y, hyk⟩ := getElem_of hjl
              obtain ⟨A'', c'', hAc, _, _, hys⟩ := HIN.out
              simp only [Value.slice.injEq, true_and] at hAc
              obtain ⟨rfl, rfl⟩ := hAc
              obtain ⟨g3, o3, rfl, hg3, hlt3, f0⟩ := hys j y hyk
              have f1 : wr.cell? ⟨g3, o3 + j, none⟩ = some (.int .i64 y) := (HKQ.out.cell (p := ⟨g3, o3 + j, none⟩) (by simp only; omega) (by simp only; omega)).trans ((HB2.out.cell (p := ⟨g3, o3 + j, none⟩) (by simp only; omega)).trans ((HB.out.1.cell (p := ⟨g3, o3 + j, none⟩) hg3).trans f0))
              have HTK := Lib.hid (show needM f (xs.take (j + 1)) = fun z => if z = litN y then 1 else needM f (xs.take j) z from by
                unfold needM
                rw [List.take_add_one, hyk]
                simp)
              have HNG := Lib.hid (fun W => lit_neg y W)
              have HWN := Lib.hid (wf_litN y)
              clear hyk hys f0
              go_wp2_with fail
              refine (HNG.out _).mono ?_
              rintro e w' ⟨rfl, rfl⟩
              go_wp2_with (at_mapUpdate; refine wpList_putL HMQ.out rfl _ _ _ rfl rfl (by unfold maxLen; omega) (litN y) 1 rfl rfl HWN.out rfl ?_; intro w4 hm4 hg4)
              have HM4 := Lib.hid (show MapL w4 w.heap.size (n' + 1) (needM f (xs.take (j + 1))) from by rw [HTK.out]; exact hm4)
              have HK4 := Lib.hid (HKQ.out.trans (O := fun g => g = w.heap.size) (Kept.grown hg4) (fun i _ e => Option.some.inj e))
              clear hm4 hg4
              go_wp2_with fail
              go_roundw
              case rel => exact ⟨j + 1, n' + 1, by omega, by go_num, by omega, HM4, HK4⟩
              case measure => simp [intOf]; omega
            · obtain rfl : j = xs.length := by omega
              have hmq := HMQ.out
              rw [List.take_length] at hmq
              have HMF := Lib.hid hmq
              clear hmq
              go_wp2_with fail
              go_roundw
              case rel => exact ⟨(k : Int) - 1, k, n', _, out ++ [(k : Int)], by go_num, by omega, by have := HZZ.out; omega, Lib.hid (by omega), Lib.hid (by omega), Lib.hid (by
                rw [show hs.length - k = (hs.length - (k + 1)) + 1 by omega, Nat.succ_mul]
                exact Nat.le_trans hn' (Nat.add_le_add HNB.out hxl)), HG2, HMF, Lib.hid (by
                have := own_kept HO2.out HKQ.out (fun g hg e => by have := (own_lt HO2.out g hg).1; omega)
                simpa using this), Lib.hid (by have := HOL.out; simp; omega), Lib.hid ⟨HB.out.1.trans ((HB2.out.mono (Nat.le_succ _)).trans (HKQ.out.below (fun g e => by omega) (by omega))), by have := HKQ.out.size; omega⟩⟩
              case measure => simp [intOf]
      · rw [if_neg (fun h => hku h.1)] at hgo
        have hdu : decide ((k : Int) < (us.length : Int)) = false := by simp; omega
        have HG2 := Lib.hid hgo
        clear hgo
        go_wp2_with (at_builtin; refine wpList_append_own_at _ rfl _ _ 63 rfl (w.heap.size + 1) 3 i0 (.int .i64 0) 1 8 Tryz.underlying63 hi hz0 hz1 hz2 rfl (by decide) _ out.length _ rfl (own_below HO.out (mx_al wr _)) ⟨wr.heap.size, 0, none⟩ 1 1 [.int .i64 (k : Int)] rfl rfl (fun i u hi => by
          match i, hi with
          | 0, hi => simp at hi; subst hi; simp [Addr.add]) (fun u hu => by rw [List.mem_singleton.1 hu]; rfl) (by unfold maxLen; omega) (by omega) (by simp; omega) ?_; intro v' w2 hown hgrow hnl2 hat; obtain ⟨g2, c2, rfl⟩ := ownsRow_succ hown; have hB2 : Below (w.heap.size + 1) wr w2 := ((mx_al wr (.cells #[.int .i64 (k : Int)] 3)).mono hbs).grown hgrow (by simp; omega) (fun g hg => (own_lt HO.out g hg).1); have d2 : w2.cell? ⟨g, o + k, none⟩ = some (.slice Ax xs.length cx) := (hB2.cell (p := ⟨g, o + k, none⟩) (by simp only; omega)).trans d1)
        have HO2 := Lib.hid hown
        have HB2 := Lib.hid hB2
        have HM2 := Lib.hid ((HM.out.below (mx_al wr (.cells #[.int .i64 (k : Int)] 3))).kept (Kept.grown hgrow) (fun e => by
          have := (own_lt HO.out _ e.symm).1
          omega))
        have hsz2 := hB2.size
        clear hown hgrow hnl2 hat hB2 d2 d1
        go_wp2_with fail
        obtain ⟨wo, hwo⟩ : ∃ wo : World, wo = w2 := ⟨_, rfl⟩
        rw [← hwo] at HO2 HB2 HM2 hsz2 ⊢
        clear hwo
        go_loopw [40] (fun iv wq => ∃ (j n' : Nat), j ≤ xs.length ∧ iv = .int .i64 j ∧ n' ≤ n + j ∧ Hid (MapL wq w.heap.size n' (needM f (xs.take j))) ∧ Hid (Kept (fun g => g = w.heap.size) wo wq)) (fun iv _ => xs.length - (intOf iv).toNat)
        case atStart => exact ⟨0, n, Nat.zero_le _, rfl, Nat.le_refl _, HM2, Lib.hid (Kept.refl _ _)⟩
        case round =>
          obtain ⟨j, n', hj, rfl, hn', HMQ, HKQ⟩ := hrel
          by_cases hjl : j < xs.length
          · obtain ⟨y, hyk⟩ := getElem_of hjl
            obtain ⟨A'', c'', hAc, _, _, hys⟩ := HIN.out
            simp only [Value.slice.injEq, true_and] at hAc
            obtain ⟨rfl, rfl⟩ := hAc
            obtain ⟨g3, o3, rfl, hg3, hlt3, f0⟩ := hys j y hyk
            have f1 : wr.cell? ⟨g3, o3 + j, none⟩ = some (.int .i64 y) := (HKQ.out.cell (p := ⟨g3, o3 + j, none⟩) (by simp only; omega) (by simp only; omega)).trans ((HB2.out.cell (p := ⟨g3, o3 + j, none⟩) (by simp only; omega)).trans ((HB.out.1.cell (p := ⟨g3, o3 + j, none⟩) hg3).trans f0))
            have HTK := Lib.hid (show needM f (xs.take (j + 1)) = fun z => if z = litN y then 1 else needM f (xs.take j) z from by
              unfold needM
              rw [List.take_add_one, hyk]
              simp)
            have HNG := Lib.hid (fun W => lit_neg y W)
            have HWN := Lib.hid (wf_litN y)
            clear hyk hys f0
            go_wp2_with fail
            refine (HNG.out _).mono ?_
            rintro e w' ⟨rfl, rfl⟩
            go_wp2_with (at_mapUpdate; refine wpList_putL HMQ.out rfl _ _ _ rfl rfl (by unfold maxLen; omega) (litN y) 1 rfl rfl HWN.out rfl ?_; intro w4 hm4 hg4)
            have HM4 := Lib.hid (show MapL w4 w.heap.size (n' + 1) (needM f (xs.take (j + 1))) from by rw [HTK.out]; exact hm4)
            have HK4 := Lib.hid (HKQ.out.trans (O := fun g => g = w.heap.size) (Kept.grown hg4) (fun i _ e => Option.some.inj e))
            clear hm4 hg4
            go_wp2_with fail
            go_roundw
            case rel => exact ⟨j + 1, n' + 1, by omega, by go_num, by omega, HM4, HK4⟩
            case measure => simp [intOf]; omega
          · obtain rfl : j = xs.length := by omega
            have hmq := HMQ.out
            rw [List.take_length] at hmq
            have HMF := Lib.hid hmq
            clear hmq
            go_wp2_with fail
            go_roundw
            case rel => exact ⟨(k : Int) - 1, k, n', _, out ++ [(k : Int)], by go_num, by omega, by have := HZZ.out; omega, Lib.hid (by omega), Lib.hid (by omega), Lib.hid (by
              rw [show hs.length - k = (hs.length - (k + 1)) + 1 by omega, Nat.succ_mul]
              exact Nat.le_trans hn' (Nat.add_le_add HNB.out hxl)), HG2, HMF, Lib.hid (by
              have := own_kept HO2.out HKQ.out (fun g hg e => by have := (own_lt HO2.out g hg).1; omega)
              simpa using this), Lib.hid (by have := HOL.out; simp; omega), Lib.hid ⟨HB.out.1.trans ((HB2.out.mono (Nat.le_succ _)).trans (HKQ.out.below (fun g e => by omega) (by omega))), by have := HKQ.out.size; omega⟩⟩
            case measure => simp [intOf]
    · obtain rfl : k1 = 0 := by have := HZ.out; omega
      have hd : decide (0 ≤ z) = false := by simpa using hlt
      have hgo := HG.out
      simp only [needGo] at hgo
      have hol := HOL.out
      have hb := HB.out
      subst hgo
      have HS := Lib.hid (own_reverse _ _ wr HO.out (by omega))
      clear hlt
      go_wp2_with fail
      refine HS.out.mono ?_
      rintro e w2 ⟨rfl, hr2, hk2⟩
      have HR2 := Lib.hid hr2
      have HB2 := Lib.hid (hb.1.trans (hk2.below (fun g hg => by have := (own_lt HO.out g hg).1; omega) hb.1.size))
      clear hr2 hk2
      go_wp2_with fail
      go_ret
      exact ⟨_, rfl, by simpa using HR2.out, HB2.out⟩
end Go.Proofs.YtoojmhjagipmdaaGreat
namespace Go.Proofs.YtoojmhjagipmdaaGreat
open Go.RowKit

theorem has_two {T : Trl} {its : List RIt} (h : Sim T its) {y : Int} (hy : litB y = true) (h1 : Has its y) (h2 : Has its (-y)) : False := by
  obtain ⟨p, x, hp, e⟩ := h1
  obtain ⟨q, z, hq, e2⟩ := h2
  have := h.inj hp hq (by rw [e, e2, litV_negate])
  subst this
  rw [hp] at hq
  obtain rfl := Option.some.inj hq
  have := (litB_iff y).1 hy
  omega
/-- hints are followed: the literals, how many hints there were, whether there was a conflict, the error -/
def folGo (f : Int → Int) : List (List Int) → List Int → Nat → List Int × Nat × Bool × Nat
  | [], us, i => (us, i, false, 0)
  | c :: r, us, i => if (lookF f c).1 = 2 then (us, i + 1, true, 0) else if (lookF f c).1 = 3 then folGo (putF f (lookF f c).2) r (us ++ [(lookF f c).2]) (i + 1) else ([], i, false, 81)
/-- from the assumption that a clause fails -/
def chkP (c : List Int) (hs : List (List Int)) : List Int × Nat × Nat :=
  if alwL c = true then ([], 0, 0) else match asgF (asmL c) with
    | none => ([], 0, 82)
    | some f => ((folGo f hs [] 0).1, (folGo f hs [] 0).2.1, if (folGo f hs [] 0).2.2.2 = 0 ∧ (folGo f hs [] 0).2.2.1 = false then 82 else (folGo f hs [] 0).2.2.2)
/-- which hints are needed -/
def trimP (c : List Int) (hs : List (List Int)) : List Int := if (chkP c hs).2.2 = 0 ∧ (chkP c hs).2.1 ≠ 0 then needL (hs.take (chkP c hs).2.1) (chkP c hs).1 else []
/-- what an assignment says: P are the literals that are true -/
def Says (f : Int → Int) (P : Int → Prop) : Prop := ∀ y, litB y = true → ((0 < ofF f y ↔ P y) ∧ (ofF f y < 0 ↔ P (-y)))
theorem asm_ok {L : List Int} (hL : clauseB L = true) (hno : ∀ y ∈ L, -y ∉ L) : ∃ f, asgF (asmL L) = some f ∧ Says f (fun y => -y ∈ L) := by
  have hr : ∀ x ∈ L, litB x = true := fun x hx => by
    unfold clauseB at hL
    rw [Bool.and_eq_true] at hL
    exact List.all_eq_true.1 hL.2 x hx
  have hmem : ∀ x, x ∈ asmL L ↔ -x ∈ L := fun x => by
    unfold asmL
    rw [sortL_mem, List.mem_map]
    constructor
    · rintro ⟨y, hy, rfl⟩
      have hy := (normL_has hr).1 hy
      rw [litN_eq (hr y hy), Int.neg_neg]
      exact hy
    · intro h
      exact ⟨-x, (normL_has hr).2 h, by rw [litN_eq (hr _ h), Int.neg_neg]⟩
  have hb : ∀ x ∈ asmL L, litB x = true := fun x hx => by
    have := hr _ ((hmem x).1 hx)
    rwa [litB_minus] at this
  have hnd : ((asmL L).map litV).Nodup := by
    unfold asmL
    refine ((sortL_perm _).map litV).nodup_iff.2 ?_
    unfold List.Nodup
    rw [List.pairwise_map, List.pairwise_map]
    refine (normL_nodup hr).imp_of_mem ?_
    intro a b ha hb hne e
    have ha := (normL_has hr).1 ha
    have hb := (normL_has hr).1 hb
    rw [litN_eq (hr a ha), litN_eq (hr b hb), litV_negate, litV_negate] at e
    rcases litV_two (hr a ha) e with h | h
    · exact hne h.symm
    · exact hno a ha (h ▸ hb)
  obtain ⟨g, h1, h2, h3⟩ := k_asg (asmL L) (fun _ => 0) hb hnd (fun _ _ => rfl)
  refine ⟨g, h1, fun y hy => ?_⟩
  have hzero : ∀ z, ofF (fun _ => 0) z = 0 := fun z => by unfold ofF; split <;> rfl
  suffices key : (0 < ofF g y ↔ -y ∈ L) ∧ (ofF g y < 0 ↔ y ∈ L) from ⟨key.1, key.2.trans (by show y ∈ L ↔ - -y ∈ L; rw [Int.neg_neg])⟩
  by_cases hy1 : y ∈ L
  · have := (h3 (-y) ((hmem _).2 (by rw [Int.neg_neg]; exact hy1))).2
    rw [Int.neg_neg] at this
    rw [this]
    exact ⟨⟨fun h => by omega, fun h => absurd h (hno y hy1)⟩, ⟨fun _ => hy1, fun _ => by decide⟩⟩
  · by_cases hy2 : -y ∈ L
    · have := (h3 y ((hmem _).2 hy2)).1
      rw [this]
      exact ⟨⟨fun _ => hy2, fun _ => by decide⟩, ⟨fun h => by omega, fun h => absurd h hy1⟩⟩
    · have hz := h2 y fun x hx e => by
        rcases litV_two (hb x hx) e with h | h
        · exact hy2 ((hmem y).1 (h ▸ hx))
        · have := (hmem x).1 hx
          exact hy1 (by rw [h]; exact this)
      rw [hz, hzero]
      exact ⟨⟨fun h => by omega, fun h => absurd h hy2⟩, ⟨fun h => by omega, fun h => absurd h hy1⟩⟩
theorem says_put {f : Int → Int} {P : Int → Prop} (h : Says f P) {x : Int} (hx : litB x = true) (hp : ¬ P x) (hn : ¬ P (-x)) : Says (putF f x) (fun y => P y ∨ y = x) := fun y hy => by
  by_cases e : litV y = litV x
  · rcases litV_two hx e.symm with h1 | h1
    · subst h1
      rw [k_put_self]
      refine ⟨⟨fun _ => .inr rfl, fun _ => by decide⟩, ⟨fun h => by omega, fun h2 => ?_⟩⟩
      rcases h2 with h2 | h2
      · exact absurd h2 hn
      · have := (litB_iff y).1 hy
        omega
    · subst h1
      rw [k_put_neg f hx, Int.neg_neg]
      refine ⟨⟨fun h => by omega, fun h2 => ?_⟩, ⟨fun _ => .inr rfl, fun _ => by decide⟩⟩
      rcases h2 with h2 | h2
      · exact absurd h2 hn
      · have := (litB_iff x).1 hx
        omega
  · rw [k_put_ne f e]
    have hne : y ≠ x := fun h => e (by rw [h])
    have hne2 : -y ≠ x := fun h => e (by rw [← h, litV_negate])
    have := h y hy
    exact ⟨this.1.trans ⟨.inl, fun h => h.resolve_right hne⟩, this.2.trans ⟨.inl, fun h => h.resolve_right hne2⟩⟩
/-- the clause of a place's reason -/
def rcAt (C : Int → Option (List Int)) (its : List RIt) (r : Nat) : List Int := (C (rsAt its r)).getD []
/-- all literals are some -/
def FitB (C : Int → Option (List Int)) : Prop := ∀ id c, C id = some c → clauseB c = true
theorem FitB.lit {C : Int → Option (List Int)} (h : FitB C) {id : Int} {c : List Int} (hc : C id = some c) {y : Int} (hy : y ∈ c) : litB y = true := by
  have := h id c hc
  unfold clauseB at this
  rw [Bool.and_eq_true] at this
  exact List.all_eq_true.1 this.2 y hy
section
variable {C : Int → Option (List Int)} {T : Trl} {its : List RIt} {L c : List Int} {R : List Nat}
theorem Chain.at (h : Chain C its L c R) {r : Nat} (hr : r ∈ R) : ∃ (z : RIt) (d : List Int), its[r]? = some z ∧ litAt its r = z.lit ∧ rcAt C its r = d ∧ C (rsAt its r) = some d ∧ z.lit ∈ d ∧ ∀ y ∈ d, y ≠ z.lit → ∃ q, q < r ∧ litAt its q = -y ∧ (q ∈ R ∨ y ∈ L) := by
  obtain ⟨z, d, h1, h2, h3, h4⟩ := h.rs r hr
  refine ⟨z, d, h1, litAt_eq h1, by unfold rcAt; rw [rsAt_eq h1, h2]; rfl, by rw [rsAt_eq h1, h2], h3, fun y hy hne => ?_⟩
  obtain ⟨q, x, a1, a2, a3, a4⟩ := h4 y hy hne
  exact ⟨q, a1, by rw [litAt_eq a2, a3], a4⟩
/-- no literal of the clause is one's negation -/
theorem Chain.no (h : Chain C its L c R) (hs : Sim T its) : ∀ y ∈ L, -y ∉ L := fun y hy hn => by
  obtain ⟨p, x, hp, e⟩ := h.fal y hy
  have hb := (at_fal hs hp e).1
  refine has_two hs hb ?_ (h.fal y hy)
  have := h.fal _ hn
  rwa [Int.neg_neg] at this
theorem chain_fol (h : Chain C its L c R) (hs : Sim T its) (hb : FitB C) (hcb : clauseB c = true) (R2 : List Nat) : ∀ (R1 : List Nat) (f : Int → Int) (us : List Int) (i : Nat), R = R1 ++ R2 → Says f (fun y => -y ∈ L ∨ ∃ q ∈ R1, litAt its q = y) → folGo f (R2.map (rcAt C its) ++ [c]) us i = (us ++ R2.map (litAt its), i + R2.length + 1, true, 0) := by
  induction R2 with
  | nil =>
    intro R1 f us i hR hf
    rw [List.append_nil] at hR
    subst hR
    show folGo f [c] us i = _
    unfold folGo
    rw [k_fail (c := c) fun y hy => ?_]
    · rw [if_pos rfl]
      simp
    · have hyb : litB y = true := by
        unfold clauseB at hcb
        rw [Bool.and_eq_true] at hcb
        exact List.all_eq_true.1 hcb.2 y hy
      refine ((hf y hyb).2).2 ?_
      obtain ⟨q, x, hq, e, ho⟩ := h.cl y hy
      rcases ho with ho | ho
      · exact .inr ⟨q, ho, by rw [litAt_eq hq, e]⟩
      · exact .inl (by rw [Int.neg_neg]; exact ho)
  | cons r R2 ih =>
    intro R1 f us i hR hf
    have hrR : r ∈ R := by rw [hR]; simp
    obtain ⟨z, d, hz, hl, hd, hcd, hzd, ho⟩ := h.at hrR
    have hup := h.up
    rw [hR, List.pairwise_append, List.pairwise_cons] at hup
    have hzb := (hs.at_ r z hz).1
    have hR1 : ∀ q ∈ R1, q < r := fun q hq => hup.2.2 q hq r List.mem_cons_self
    have hnot : ¬ (-z.lit ∈ L ∨ ∃ q ∈ R1, litAt its q = z.lit) := by
      rintro (h1 | ⟨q, hq, e⟩)
      · exact h.dis r hrR (hl ▸ h1)
      · obtain ⟨z', _, hz', hl', _⟩ := h.at (show q ∈ R by rw [hR]; exact List.mem_append_left _ hq)
        have := hs.inj hz' hz (by rw [← hl', e])
        have := hR1 q hq
        omega
    have hnot2 : ¬ (- -z.lit ∈ L ∨ ∃ q ∈ R1, litAt its q = -z.lit) := by
      rw [Int.neg_neg]
      rintro (h1 | ⟨q, hq, e⟩)
      · exact has_two hs hzb ⟨r, z, hz, rfl⟩ (h.fal _ h1)
      · obtain ⟨z', _, hz', hl', _⟩ := h.at (show q ∈ R by rw [hR]; exact List.mem_append_left _ hq)
        have := hs.inj hz' hz (by rw [← hl', e, litV_negate])
        have := hR1 q hq
        omega
    have hu : lookF f d = (3, z.lit) := by
      refine k_unit hzd ?_ (fun y hy hne => ?_) (fun y hy => ?_)
      · have h1 := (hf z.lit hzb).1
        have h2 := (hf z.lit hzb).2
        have : ¬ 0 < ofF f z.lit := fun h => hnot (h1.1 h)
        have : ¬ ofF f z.lit < 0 := fun h => hnot2 (h2.1 h)
        omega
      · refine ((hf y (hb.lit hcd hy)).2).2 ?_
        obtain ⟨q, hq, e, hqq⟩ := ho y hy hne
        rcases hqq with hqq | hqq
        · refine .inr ⟨q, ?_, e⟩
          rw [hR, List.mem_append] at hqq
          refine hqq.resolve_right fun hm => ?_
          rcases List.mem_cons.1 hm with h2 | h2
          · omega
          · have := hup.2.1.1 q h2
            omega
        · exact .inl (by rw [Int.neg_neg]; exact hqq)
      · have := (litB_iff y).1 (hb.lit hcd hy)
        omega
    rw [List.map_cons, List.cons_append, hd]
    unfold folGo
    rw [hu, if_neg (show ¬ (3 : Nat) = 2 by decide), if_pos rfl]
    show folGo (putF f z.lit) (R2.map (rcAt C its) ++ [c]) (us ++ [z.lit]) (i + 1) = _
    rw [ih (R1 ++ [r]) (putF f z.lit) (us ++ [z.lit]) (i + 1) (by rw [hR]; simp) (fun y hy => by
      have := says_put hf hzb hnot hnot2 y hy
      have key : ∀ v, ((-v ∈ L ∨ ∃ q ∈ R1, litAt its q = v) ∨ v = z.lit) ↔ (-v ∈ L ∨ ∃ q ∈ R1 ++ [r], litAt its q = v) := fun v => by
        constructor
        · rintro ((h1 | ⟨q, hq, e⟩) | e)
          · exact .inl h1
          · exact .inr ⟨q, List.mem_append_left _ hq, e⟩
          · exact .inr ⟨r, by simp, hl.trans e.symm⟩
        · rintro (h1 | ⟨q, hq, e⟩)
          · exact .inl (.inl h1)
          · rcases List.mem_append.1 hq with hq | hq
            · exact .inl (.inr ⟨q, hq, e⟩)
            · rw [List.mem_singleton.1 hq, hl] at e
              exact .inr e.symm
      exact ⟨this.1.trans (key y), this.2.trans (key (-y))⟩)]
    rw [List.map_cons, hl, List.length_cons]
    simp only [List.append_assoc, List.singleton_append, Prod.mk.injEq, true_and, and_true]
    omega
theorem needM_one {f : Int → Int} {xs : List Int} {z : Int} (h : f z = 1 ∨ ∃ l ∈ xs, z = litN l) : needM f xs z = 1 := by
  unfold needM
  induction xs generalizing f with
  | nil =>
    rcases h with h | ⟨l, hl, _⟩
    · exact h
    · cases hl
  | cons x xs ih =>
    rw [List.foldl_cons]
    refine ih ?_
    rcases h with h | ⟨l, hl, e⟩
    · left
      show (if z = litN x then (1 : Int) else f z) = 1
      split
      · rfl
      · exact h
    · rcases List.mem_cons.1 hl with h2 | h2
      · left
        show (if z = litN x then (1 : Int) else f z) = 1
        rw [if_pos (by rw [e, h2])]
      · exact .inr ⟨l, h2, e⟩
theorem needGo_all {hs : List (List Int)} {us : List Int} : ∀ (k : Nat) (f : Int → Int) (out : List Int), (∀ j, j < k → j < us.length → f (us.getD j 0) = 1 ∨ ∃ i, j < i ∧ i < k ∧ ∃ l ∈ hs.getD i [], us.getD j 0 = litN l) → (needGo hs us k f out).length = out.length + k := by
  intro k
  induction k with
  | zero => exact fun _ _ _ => rfl
  | succ k ih =>
    intro f out h
    have hk : ¬ (k < us.length ∧ f (us.getD k 0) = 0) := by
      rintro ⟨h1, h2⟩
      rcases h k (Nat.lt_succ_self k) h1 with h3 | ⟨i, h3, h4, _⟩
      · omega
      · omega
    unfold needGo
    rw [if_neg hk, ih]
    · rw [List.length_append, List.length_singleton]
      omega
    · intro j hj hju
      rcases h j (by omega) hju with h3 | ⟨i, h3, h4, l, h5, h6⟩
      · exact .inl (needM_one (.inl h3))
      · rcases Nat.eq_or_lt_of_le (Nat.le_of_lt_succ h4) with e | hlt
        · subst e
          exact .inl (needM_one (.inr ⟨l, h5, h6⟩))
        · exact .inr ⟨i, h3, hlt, l, h5, h6⟩
theorem chain_need (h : Chain C its L c R) (hs : Sim T its) : (needL (R.map (rcAt C its) ++ [c]) (R.map (litAt its))).length = R.length + 1 := by
  unfold needL
  rw [List.length_reverse, needGo_all]
  · simp
  · intro j hj hju
    rw [List.length_map] at hju
    obtain ⟨r, hr⟩ := getElem_of hju
    have hrR := List.mem_of_getElem? hr
    obtain ⟨z, d, hz, hl, _⟩ := h.at hrR
    have hzb := (hs.at_ r z hz).1
    have eu : (R.map (litAt its)).getD j 0 = z.lit := by
      rw [List.getD_eq_getElem?_getD, List.getElem?_map, hr]
      exact hl
    have en : z.lit = litN (-z.lit) := by rw [litN_eq (by rw [litB_minus]; exact hzb), Int.neg_neg]
    rw [eu]
    right
    rcases h.need r hrR with h1 | ⟨r', z', d', h1, h2, h3, h4, h5⟩
    · refine ⟨R.length, hju, by simp, -z.lit, ?_, en⟩
      rw [List.getD_eq_getElem?_getD, List.getElem?_append_right (by simp), List.length_map, Nat.sub_self]
      rw [hl] at h1
      exact h1
    · obtain ⟨i, hi⟩ := List.getElem?_of_mem h2
      have hil := (List.getElem?_eq_some_iff.1 hi).1
      refine ⟨i, ?_, by simp; omega, -z.lit, ?_, en⟩
      · refine Classical.byContradiction fun hc => ?_
        rcases Nat.eq_or_lt_of_le (Nat.le_of_not_lt hc) with e | hlt
        · subst e
          rw [hi] at hr
          have := Option.some.inj hr
          omega
        · have := List.pairwise_iff_getElem.1 h.up i j hil hju hlt
          rw [(List.getElem?_eq_some_iff.1 hi).2, (List.getElem?_eq_some_iff.1 hr).2] at this
          omega
      · rw [List.getD_eq_getElem?_getD, List.getElem?_append_left (by simpa using hil), List.getElem?_map, hi]
        show -z.lit ∈ rcAt C its r'
        unfold rcAt
        rw [rsAt_eq h3, h4]
        rw [hl] at h5
        exact h5
/-- Check and Trim at a chain -/
theorem chain_check (h : Chain C its L c R) (hs : Sim T its) (hb : FitB C) (hcb : clauseB c = true) (hL : clauseB L = true) : chkP L (R.map (rcAt C its) ++ [c]) = (R.map (litAt its), R.length + 1, 0) ∧ (trimP L (R.map (rcAt C its) ++ [c])).length = R.length + 1 := by
  have hno := h.no hs
  obtain ⟨f, hf, hsays⟩ := asm_ok hL hno
  have hfol := chain_fol h hs hb hcb R [] f [] 0 rfl (fun y hy => by
    have := hsays y hy
    have key : ∀ v, (-v ∈ L) ↔ (-v ∈ L ∨ ∃ q ∈ ([] : List Nat), litAt its q = v) := fun v => ⟨.inl, fun h => h.elim id fun ⟨q, hq, _⟩ => by cases hq⟩
    exact ⟨this.1.trans (key y), this.2.trans (key (-y))⟩)
  have hck : chkP L (R.map (rcAt C its) ++ [c]) = (R.map (litAt its), R.length + 1, 0) := by
    unfold chkP
    rw [if_neg (by rw [alwL_no hno]; decide), hf]
    simp only [hfol]
    simp
  refine ⟨hck, ?_⟩
  unfold trimP
  rw [hck, if_pos ⟨rfl, Nat.succ_ne_zero _⟩]
  show (needL (List.take (R.length + 1) _) (R.map (litAt its))).length = _
  rw [List.take_of_length_le (by simp)]
  exact chain_need h hs
/-- it follows: what satisfies all clauses satisfies it -/
theorem chain_sat (h : Chain C its L c R) {B : Int → Prop} (hB : ∀ y, B y → ¬ B (-y)) (hC : ∀ id d, C id = some d → ∃ y ∈ d, B y) {id : Int} (hid : C id = some c) : ∃ y ∈ L, B y := by
  refine Classical.byContradiction fun hc => ?_
  have hno : ∀ y ∈ L, ¬ B y := fun y hy hb => hc ⟨y, hy, hb⟩
  have key : ∀ n : Nat, ∀ r ∈ R, r < n → B (litAt its r) := by
    intro n
    induction n with
    | zero => exact fun r _ h => by omega
    | succ n ih =>
      intro r hr hn
      obtain ⟨z, d, hz, hl, _, hcd, hzd, ho⟩ := h.at hr
      obtain ⟨y, hy, hby⟩ := hC _ d hcd
      by_cases e : y = z.lit
      · rw [hl, ← e]
        exact hby
      · obtain ⟨q, hq, e2, hqq⟩ := ho y hy e
        rcases hqq with hqq | hqq
        · have := ih q hqq (by omega)
          rw [e2] at this
          exact absurd this (hB y hby)
        · exact absurd hby (hno y hqq)
  obtain ⟨y, hy, hby⟩ := hC id c hid
  obtain ⟨q, x, hq, e, hqq⟩ := h.cl y hy
  rcases hqq with hqq | hqq
  · have := key (q + 1) q hqq (Nat.lt_succ_self q)
    rw [litAt_eq hq, e] at this
    exact hB y hby this
  · exact hno y hqq hby
end
end Go.Proofs.YtoojmhjagipmdaaGreat
