/- AnalyzeReasons: the plain law, and the walk. -/
import Derived.Test.YtoojmhjagipmdaaGreatQ30
import Derived.Test.YtoojmhjagipmdaaGreatQ32
import Derived.Test.YtoojmhjagipmdaaGreatQ22
import Derived.Test.YtoojmhjagipmdaaGreatQ34
import Derived.Test.YtoojmhjagipmdaaGreatQ21
import Derived.Deep.DeepCutAuto
import Derived.Deep.CutBlock
namespace Go.Proofs.YtoojmhjagipmdaaGreat
open Go.RowKit

section
variable {A : Arn} {C : Int → Option (List Int)} {T : Trl} {its : List RIt}
theorem reason_is (hs : Sim T its) (hr : Rsn C its) (hA : ∀ j, A.get j = C j) {p : Nat} {x : RIt} (hp : its[p]? = some x) : rightB A T (litV x.lit : Nat) = (x.reason != 0) := by
  rw [rightB_at hs A hp]
  by_cases h0 : x.reason = 0
  · have e : rightP A T x.lit = none := by
      unfold rightP
      rw [hs.rsn hp, h0, Arn.get_low A (by omega)]
    rw [e, h0]
    rfl
  · obtain ⟨d, _, hd, _⟩ := right_ok hs hr hA hp h0
    rw [hd]
    have : (x.reason != 0) = true := by simpa using h0
    rw [this]
    rfl
theorem failMax_true {y : Int} : ∀ {c : List Int} {m : Int}, y ∈ c → 0 ≤ T.val y → T.failMax c m = none := by
  intro c
  induction c with
  | nil => exact fun h => by cases h
  | cons x c ih =>
    intro m hy h0
    unfold Trl.failMax
    split
    · rfl
    · rename_i hx
      rcases List.mem_cons.1 hy with e | hy
      · rw [e] at h0
        exact absurd h0 hx
      · exact ih hy h0
theorem rest_fails (hb : FitB C) (hr : Rsn C its) {p : Nat} {x : RIt} (hp : its[p]? = some x) {d : List Int} (hd : C x.reason = some d) (h0 : x.reason ≠ 0) {f : Int → Int} (hff : ∀ y, litB y = true → ((0 < ofF f y ↔ Has its y) ∧ (ofF f y < 0 ↔ Has its (-y)))) : x.lit ∈ d ∧ clauseB (restW x.lit (normL d)) = true ∧ lookF f (restW x.lit (normL d)) = (2, 0) := by
  obtain ⟨d2, h1, h2, h3⟩ := hr p x hp h0
  rw [hd] at h1
  obtain rfl := Option.some.inj h1
  have hdb := hb _ _ hd
  have hmem : ∀ y ∈ restW x.lit (normL d), y ∈ d ∧ y ≠ x.lit := fun y hy => by
    unfold restW at hy
    obtain ⟨a1, a2⟩ := List.mem_filter.1 hy
    exact ⟨normL_mem a1, of_decide_eq_true a2⟩
  refine ⟨h2, ?_, k_fail fun y hy => ?_⟩
  · unfold clauseB at hdb ⊢
    rw [Bool.and_eq_true, decide_eq_true_eq, List.all_eq_true] at hdb ⊢
    refine ⟨?_, fun y hy => hdb.2 y (hmem y hy).1⟩
    have h4 := normL_len d
    have h5 : (restW x.lit (normL d)).length ≤ (normL d).length := List.length_filter_le _ _
    omega
  · obtain ⟨a1, a2⟩ := hmem y hy
    exact ((hff y (hb.lit hd a1)).2).2 (h3 y a1 a2).has
end
theorem Six.fitB {cs : List (List Int)} (h : Six cs) : FitB (clsC cs) := fun _ _ hc => h.fit.right hc
/-- one literal that is made, of a part of a row -/
theorem made_sub (g o c : Nat) (n : Int) (w : World) (hn : (Lit.int .i8 n).wf = true) (hc : 1 ≤ c) (hcm : c ≤ maxLen) (hg : g < w.heap.size) (h : w.cell? ⟨g, o, none⟩ = some (.int .i8 n)) :
    Calls Tryz.prog 14 #[.slice (some ⟨g, o, none⟩) 1 c] w fun e w' => ∃ g c, e = .returned (.slice (some ⟨g, 0, none⟩) 1 c) ∧ 1 ≤ c ∧ w'.cell? ⟨g, 0, none⟩ = some (.int .i64 (madeLit n)) ∧ Below w.heap.size w w' := by
  have hr : RowAt .i8 w (.slice (some ⟨g, o, none⟩) 1 c) [n] := ⟨some ⟨g, o, none⟩, c, rfl, hc, hcm, (fun h => by cases h), (fun m hm => by rw [List.mem_singleton.1 hm]; exact hn), fun i x hi => ⟨g, o, rfl, hg, by
    match i, hi with
    | 0, hi =>
      obtain rfl : n = x := by simpa using hi
      exact h⟩⟩
  refine (made_any _ [n] _ hr).mono ?_
  rintro e w' ⟨v, rfl, ho, hb⟩
  obtain ⟨g, c, cs, rfl, hc, _, _, hg, hx⟩ := mx_some ho (by simp [madeL])
  exact ⟨g, c, rfl, hc, mx_at ho rfl, hb⟩
set_option maxRecDepth 100000 in
set_option maxHeartbeats 8000000 in
theorem reasons_any (v0 v1 : Value) (x : List (List Int)) (l : List Int) (w : World) (h0 : RowsAt .i8 w v0 x) (h1 : RowAt .i8 w v1 l) :
    Calls Tryz.prog 3 #[v0, v1] w fun e w' => e = .returned (.bool true) ∧ Below w.heap.size w w' := by
  obtain ⟨cs, hcs⟩ : ∃ cs, (x.take 14).map madeL = cs := ⟨_, rfl⟩
  have h6 : Six cs := by rw [← hcs]; exact six_made x 14 (by decide)
  have H0 := Lib.hid h0
  have H1 := Lib.hid h1
  have HCS := Lib.hid hcs
  obtain ⟨A0, c0, rfl, _⟩ := h0
  obtain ⟨A1, c1, rfl, hc1, hm1, hn1, hwf1, hx1⟩ := h1
  have HWF := Lib.hid hwf1
  have HX1 := Lib.hid hx1
  clear hcs hwf1 hx1 hn1
  go_enter Tryz.func3, Tryz.ntmps3
  go_wp2_with fail
  refine (awake_any w).mono ?_
  rintro e w1 ⟨rfl, hb1⟩
  have HB1 := Lib.hid hb1
  have HALL := Lib.hid (all_any _ x 14 w1 (H0.out.below hb1) (by decide))
  clear hb1
  go_wp2_with fail
  refine HALL.out.mono ?_
  rintro e w2 ⟨v, rfl, hcl, hb2⟩
  rw [HCS.out] at hcl
  have HB2 := Lib.hid (HB1.out.trans (hb2.mono HB1.out.size))
  have hca := hcl.cls
  obtain ⟨Av, cv, rfl, _⟩ := id hca
  have HBE := Lib.hid (law_begin Av cv cs w2 hca hcl.clsIn h6)
  clear hb2 hcl hca HALL HB1
  go_wp2_with fail
  refine HBE.out.mono ?_
  rintro e w3 ⟨sb, b, a, t, lab, T, its, S, id, av, us, rfl, hsr, hs, hnw⟩
  have HSR := Lib.hid hsr
  have HS := Lib.hid hs
  have HNW := Lib.hid (show T.now ≤ ((0 : Nat) : Int) from by rw [hnw]; exact Int.le_refl _)
  clear hsr hs hnw HBE
  go_wp2_with fail
  go_loopw [6, 7, 8] (fun iv okv kv wr => ∃ (k : Nat) (id : Int) (labr : Nat → Nat) (T : Trl) (its : List RIt) (S : Wst), kv = .int .i64 k ∧ iv = .int .i64 id ∧ okv = .bool true ∧ k ≤ 8 ∧ Hid (T.now ≤ k) ∧ Hid (SrAt w2 wr labr sb b a t (addAll arn0 0 cs) T S cs av us) ∧ Hid (Sr cs T its S id)) (fun _ _ kv _ => 9 - (intOf kv).toNat)
  case atStart => exact ⟨0, id, lab, T, its, S, rfl, rfl, rfl, by decide, HNW, HSR, HS⟩
  case round =>
    obtain ⟨k, id, labr, T, its, S, rfl, rfl, rfl, hk8, HNK, HL, HG⟩ := hrel
    obtain ⟨N, hN⟩ : ∃ N : Nat, min l.length 8 = N := ⟨_, rfl⟩
    have hNi : min (l.length : Int) 8 = (N : Int) := by omega
    have HNN := Lib.hid hN
    clear hN
    go_upto_region 5 with fail
    go_cut [42] (fun q wx => q = .bool (decide (id = 0) && decide (k < N)) ∧ wx = wr)
    case first =>
      by_cases hz : id = 0
      · have qz : (id == 0) = true := by simpa using hz
        go_wp2_with fail
        go_meet
        exact ⟨by rw [decide_eq_true hz]; rfl, rfl⟩
      · have qz : (id == 0) = false := by simpa using hz
        go_wp2_with fail
        go_meet
        exact ⟨by rw [decide_eq_false hz]; rfl, rfl⟩
    case rest =>
      obtain ⟨rfl, rfl⟩ := hcut
      obtain ⟨bb, hbb⟩ : ∃ bb, (decide (id = 0) && decide (k < N)) = bb := ⟨_, rfl⟩
      rw [hbb]
      have HBW := Lib.hid (HB2.out.trans (HL.out.lw.hb.mono HB2.out.size))
      cases bb with
      | true =>
        rw [Bool.and_eq_true, decide_eq_true_eq, decide_eq_true_eq] at hbb
        obtain ⟨hz, hkN⟩ := hbb
        have HG0 := Lib.hid (show Sr cs T its S 0 from by rw [← hz]; exact HG.out)
        have hkl : k < l.length := by have := HNN.out; omega
        have hk7 : k + 1 ≤ 8 := by have := HNN.out; omega
        obtain ⟨n, hnk⟩ := getElem_of hkl
        obtain ⟨g, o, rfl, hg, d0⟩ := HX1.out k n hnk
        have HMO := Lib.hid (made_sub g (o + k) (c1 - k) n wc (HWF.out n (List.mem_of_getElem? hnk)) (by omega) (by omega) (Nat.lt_of_lt_of_le hg HBW.out.size) ((HBW.out.cell (p := ⟨g, o + k, none⟩) hg).trans d0))
        have HYN := Lib.hid (madeLit_six n)
        have hwk : IntKind.i64.wrap ((k : Int) + 1) = (k : Int) + 1 := IntWalk.i64_in _ (by omega)
        clear hnk d0 hz hkN
        go_wp2_with fail
        refine HMO.out.mono ?_
        rintro e w9 ⟨gy, cy, rfl, hcy, hy, hb9⟩
        have HL9 := Lib.hid (HL.out.below hb9)
        have HDE := Lib.hid (law_decide14 (madeLit n) HL9.out HG0.out h6 HYN.out (by have := HNK.out; omega))
        clear hb9 HMO
        go_wp2_with fail
        refine HDE.out.mono ?_
        rintro e w10 ⟨lab10, T', its', S', id', rfl, hl10, hs10, hn10, _⟩
        have HL10 := Lib.hid hl10
        have HS10 := Lib.hid hs10
        have HN10 := Lib.hid (show T'.now ≤ ((k + 1 : Nat) : Int) from by have := HNK.out; omega)
        clear hl10 hs10 hn10 HDE HL9 hy
        go_wp2_with fail
        go_roundw
        case rel => exact ⟨k + 1, id', lab10, T', its', S', by go_num, rfl, rfl, hk7, HN10, HL10, HS10⟩
        case measure => simp [intOf]; omega
      | false =>
        clear hbb HNN
        have hv7 := HG.out.st.vars
        have hfew := HG.out.st.sim.few hv7
        have HAS := Lib.hid (law_assigned14 t T wc HL.out.lw.sys.tr (by omega))
        obtain ⟨-, d1, -, -⟩ := HL.out.cells
        clear hv7
        go_wp2_with fail
        refine HAS.out.mono ?_
        rintro e w4 ⟨vn, rfl, hrn, hb4⟩
        obtain ⟨An, cn, rfl, _⟩ := mx_slice hrn
        have HRN := Lib.hid hrn
        have H4 := Lib.hid (HL.out.below hb4)
        clear hrn hb4 HAS d1
        go_wp2_with fail
        go_loopw [66] (fun i wr => ∃ k : Nat, k ≤ T.order.length ∧ i = .int .i64 k ∧ Hid (Below w4.heap.size w4 wr)) (fun i _ => T.order.length - (intOf i).toNat)
        case atStart => exact ⟨0, Nat.zero_le _, rfl, Lib.hid (Below.refl _ _)⟩
        case round =>
          obtain ⟨j, hj, rfl, HB⟩ := hrel
          have H5 := Lib.hid (H4.out.below HB.out)
          obtain ⟨c0, c1', -, c3⟩ := H5.out.cells
          have hsbl := H5.out.sblt
          by_cases hlt : j < T.order.length
          · obtain ⟨y, hyj⟩ := getElem_of hlt
            obtain ⟨x, hxj, hxy⟩ : ∃ x, its[j]? = some x ∧ x.lit = y := by
              have := hyj
              rw [HG.out.st.sim.order, List.getElem?_map] at this
              cases hx : its[j]? with
              | none => rw [hx] at this; cases this
              | some x => rw [hx] at this; exact ⟨x, rfl, Option.some.inj this⟩
            subst hxy
            obtain ⟨g, cc, hv, hg0, hg, e0⟩ := own_cell HRN.out hyj
            simp only [Value.slice.injEq, true_and] at hv
            obtain ⟨rfl, rfl⟩ := hv
            have d0 : wr.cell? ⟨g, j, none⟩ = some (.int .i64 x.lit) := (HB.out.cell (p := ⟨g, j, none⟩) hg).trans e0
            have hsim := HG.out.st.sim
            have hrsn := HG.out.st.inv.rs
            have hA := fun j => get_cls h6 j
            have hrb := reason_is hsim hrsn hA hxj
            have hwhy := hsim.why hxj
            have hrs := hsim.rsn hxj
            have hxb := (hsim.at_ j x hxj).1
            obtain ⟨f, hf, hff⟩ := k_its (fun x hx => hsim.litb hx) hsim.nodup
            rw [← hsim.order] at hf
            have HTR := Lib.hid (fun W (hb : Below wr.heap.size wr W) => tr_reason t T ((litV x.lit : Nat) : Int) W ((H5.out.below hb).lw.sys.tr))
            rw [hrs, hwhy] at HTR
            have HRI := Lib.hid (fun W (hb : Below wr.heap.size wr W) => an_right a t (addAll arn0 0 cs) T ((litV x.lit : Nat) : Int) W (H5.out.below hb).lw.sys.ar (H5.out.below hb).lw.sys.tr)
            rw [hrb] at HRI
            obtain ⟨V, hV⟩ : ∃ V : Int, ((litV x.lit : Nat) : Int) = V := ⟨_, rfl⟩
            have HV := Lib.hid (fun W => lit_var x.lit W)
            rw [hV] at HV HTR HRI
            obtain ⟨B, hB⟩ : ∃ B, x.reason = B := ⟨_, rfl⟩
            obtain ⟨Y, hY⟩ : ∃ Y, x.lit = Y := ⟨_, rfl⟩
            have HHH := Lib.hid (show its[j]? = some x ∧ x.reason = B ∧ x.lit = Y ∧ asgF T.order = some f ∧ (∀ y, litB y = true → ((0 < ofF f y ↔ Has its y) ∧ (ofF f y < 0 ↔ Has its (-y)))) ∧ litB Y = true from ⟨hxj, hB, hY, hf, hff, by rw [← hY]; exact hxb⟩)
            rw [hB] at HTR HRI
            rw [hY] at HV d0
            clear hyj e0 hsim hrsn hrb hwhy hrs hxb hf hff hV hB hY hA hxj
            go_upto_region 13 with fail
            refine wp_region_held_drew (S := fun w' => Below wr.heap.size wr w') (by kernel_rfl) (mx_drew wr) (fun hS => ?_)
            refine takeE 0 71 ?_
            refine takeE 1 72 ?_
            refine takeE 2 73 ?_
            refine takeF 3 74 (fun wq hSw => (hSw.cell (p := ⟨sb, 1, none⟩) hsbl).trans c1') ?_
            refine takeE 4 75 ?_
            refine ready1 5 (fun K hK => ?_)
            go_simp
            refine (HV.out _).mono ?_
            rintro e w' ⟨rfl, rfl⟩
            refine hK.out _ _ hS (fun _ => ?_)
            clear hK
            refine ready1 6 (fun K hK => ?_)
            go_simp
            refine (HTR.out _ hS).mono ?_
            rintro e w6 ⟨rfl, hbN⟩
            have hSN := hS.trans (hbN.mono hS.size)
            refine hK.out _ _ hSN (fun _ => ?_)
            clear hK hbN hS
            have hS := hSN
            clear hSN
            refine takeE 7 70 ?_
            refine takeE 8 78 ?_
            refine takeE 9 79 ?_
            refine takeE 10 11 ?_
            refine takeE 11 12 ?_
            refine wpAnyH_done (by kernel_rfl) ?_ _
            have HZ := Lib.hid hS
            clear hS
            have d74 := (HZ.out.cell (p := ⟨sb, 0, none⟩) hsbl).trans c0
            go_upto_region 14 with fail
            refine wp_region_held_drew (S := fun w' => Below wr.heap.size wr w') (by kernel_rfl) (HZ.out.trans ((mx_drew w6).mono HZ.out.size)) (fun hS => ?_)
            refine takeE 0 81 ?_
            refine takeE 1 82 ?_
            refine takeE 2 83 ?_
            refine takeF 3 84 (fun wq hSw => (hSw.cell (p := ⟨sb, 0, none⟩) hsbl).trans c0) ?_
            refine takeE 4 85 ?_
            refine takeE 5 86 ?_
            refine takeE 6 87 ?_
            refine takeF 7 88 (fun wq hSw => (hSw.cell (p := ⟨sb, 1, none⟩) hsbl).trans c1') ?_
            refine takeE 8 89 ?_
            refine ready1 9 (fun K hK => ?_)
            go_simp
            refine (HV.out _).mono ?_
            rintro e w' ⟨rfl, rfl⟩
            refine hK.out _ _ hS (fun _ => ?_)
            clear hK
            refine ready1 10 (fun K hK => ?_)
            go_simp
            refine (HRI.out _ hS).mono ?_
            rintro e w7 ⟨rfl, hbN⟩
            have hSN := hS.trans (hbN.mono hS.size)
            refine hK.out _ _ hSN (fun _ => ?_)
            clear hK hbN hS
            have hS := hSN
            clear hSN
            refine takeE 11 80 ?_
            refine takeE 12 92 ?_
            refine takeE 13 93 ?_
            refine takeE 14 13 ?_
            refine takeE 15 14 ?_
            refine wpAnyH_done (by kernel_rfl) ?_ _
            have HZ7 := Lib.hid hS
            clear hS HZ d74
            by_cases hb0 : B = 0
            · have q0 : (B == 0) = true := by simpa using hb0
              have q1 : (B != 0) = false := by simpa using hb0
              rw [q1]
              go_wp2_with fail
              go_roundw
              case rel => exact ⟨j + 1, by omega, by go_num, Lib.hid (HB.out.trans (HZ7.out.mono HB.out.size))⟩
              case measure => simp [intOf]; omega
            · have q0 : (B == 0) = false := by simpa using hb0
              have q1 : (B != 0) = true := by simpa using hb0
              have hxj := HHH.out.1
              have hxB := HHH.out.2.1
              have hxY := HHH.out.2.2.1
              obtain ⟨d, hcd0, _, _⟩ := HG.out.st.inv.rs j x hxj (by rw [hxB]; exact hb0)
              obtain ⟨_, hrc, hlk⟩ := rest_fails h6.fitB HG.out.st.inv.rs hxj hcd0 (by rw [hxB]; exact hb0) HHH.out.2.2.2.2.1
              have hxd := (rest_fails h6.fitB HG.out.st.inv.rs hxj hcd0 (by rw [hxB]; exact hb0) HHH.out.2.2.2.2.1).1
              have hfm : T.failMax d 0 = none := failMax_true hxd (by rw [sim_tru HG.out.st.sim ⟨j, x, hxj, rfl⟩]; decide)
              rw [hxB] at hcd0
              rw [hxY] at hrc hlk
              obtain ⟨n, hBn, hnd, hnl⟩ := clsC_some hcd0
              have hget : (addAll arn0 0 cs).get B = some d := (get_cls h6 B).trans hcd0
              have hdb := h6.fitB _ _ hcd0
              have HLV := Lib.hid (fun W (hb : Below wr.heap.size wr W) => an_level a t (addAll arn0 0 cs) T B d W (H5.out.below hb).lw.sys.ar (H5.out.below hb).lw.sys.tr hget)
              rw [hfm, show levelVal none = .tuple #[.int .i64 0, .int .i64 140] from rfl] at HLV
              have hcs9 := h6.1
              have HDB := Lib.hid (show clauseB d = true ∧ clauseB (restW Y (normL d)) = true ∧ lookF f (restW Y (normL d)) = (2, 0) from ⟨hdb, hrc, hlk⟩)
              have H7 := Lib.hid (H5.out.below HZ7.out)
              obtain ⟨e0, e1', -, e3⟩ := H7.out.cells
              have hsb7 := H7.out.sblt
              obtain ⟨Aa, ca, hav, hca, _, hux⟩ := H7.out.cls
              obtain ⟨ga, oa, u, rfl, hga, _, hda, hu⟩ := hux n d hnd
              subst hav
              have HU := Lib.hid hu
              obtain ⟨Au, cu, rfl, _⟩ := hu
              have q2 : decide ((cs.length : Int) < B) = false := by simp; omega
              have q3 : IntKind.i64.wrap (B - 1) = (n : Int) := by rw [IntWalk.i64_in _ (by omega)]; omega
              have q4 : (n : Int) < (cs.length : Int) := by omega
              have HDA := Lib.hid (fun W (hb : Below w7.heap.size w7 W) => (hb.cell (p := ⟨ga, oa + n, none⟩) hga).trans hda)
              clear hux hda hxj hxB hxY hcd0 hrc hlk hxd hfm hnd hget hdb hBn
              rw [q1]
              go_upto_region 20 with fail
              refine wp_region_held_drew (S := fun w' => Below w7.heap.size w7 w') (by kernel_rfl) (mx_drew w7) (fun hS => ?_)
              refine takeE 0 116 ?_
              refine takeE 1 117 ?_
              refine takeE 2 118 ?_
              refine takeF 3 119 (fun wq hSw => (hSw.cell (p := ⟨sb, 0, none⟩) hsb7).trans e0) ?_
              refine takeE 4 120 ?_
              refine takeE 5 121 ?_
              refine takeE 6 122 ?_
              refine takeF 7 123 (fun wq hSw => (hSw.cell (p := ⟨sb, 1, none⟩) hsb7).trans e1') ?_
              refine takeE 8 124 ?_
              refine ready1 9 (fun K hK => ?_)
              go_simp
              refine (HLV.out _ (HZ7.out.trans (hS.mono HZ7.out.size))).mono ?_
              rintro e w8 ⟨rfl, hbN⟩
              have hSN := hS.trans (hbN.mono hS.size)
              refine hK.out _ _ hSN (fun _ => ?_)
              clear hK hbN hS
              have hS := hSN
              clear hSN
              refine takeE 10 115 ?_
              refine takeE 11 126 ?_
              refine takeE 12 127 ?_
              refine takeE 13 14 ?_
              refine wpAnyH_done (by kernel_rfl) ?_ _
              have H8 := Lib.hid (H7.out.below hS)
              have d8 := HDA.out _ hS
              have HU8 := Lib.hid (HU.out.below hS)
              have HB8 := Lib.hid (HZ7.out.trans (hS.mono HZ7.out.size))
              obtain ⟨-, -, -, e8⟩ := H8.out.cells
              have HWO := Lib.hid (cl_without _ d Y w8 HU8.out HDB.out.1 HHH.out.2.2.2.2.2)
              clear hS e0 e1' e3
              go_wp2_with fail
              refine HWO.out.mono ?_
              rintro e w9 ⟨⟨vr, rfl, hr9⟩, hb9⟩
              have HR9 := Lib.hid hr9
              obtain ⟨Ar, cr, rfl, _⟩ := hr9
              have H9 := Lib.hid (H8.out.below hb9)
              have HB9 := Lib.hid (HB8.out.trans (hb9.mono HB8.out.size))
              obtain ⟨-, e9, -, -⟩ := H9.out.cells
              have HAS9 := Lib.hid (law_assigned14 t T w9 H9.out.lw.sys.tr (by omega))
              clear hb9 HWO e8 d8
              go_wp2_with fail
              refine HAS9.out.mono ?_
              rintro e w10 ⟨va, rfl, hra, hb10⟩
              obtain ⟨A10, c10, rfl, _⟩ := mx_slice hra
              have hlk := rup_Look _ _ (restW Y (normL d)) T.order w10 (HR9.out.below hb10) (IntsIn.of_own hra) HDB.out.2.1 f HHH.out.2.2.2.1 (clause_len HDB.out.2.1) (by omega)
              rw [HDB.out.2.2] at hlk
              have HLK := Lib.hid hlk
              have HB10 := Lib.hid (HB9.out.trans (hb10.mono HB9.out.size))
              clear hra hb10 hlk HAS9 e9
              go_wp2_with fail
              refine HLK.out.mono ?_
              rintro e w11 ⟨rfl, hb11⟩
              have HB11 := Lib.hid (HB.out.trans ((HB10.out.trans (hb11.mono HB10.out.size)).mono HB.out.size))
              clear hb11 HLK
              go_wp2_with fail
              go_roundw
              case rel => exact ⟨j + 1, by omega, by go_num, HB11⟩
              case measure => simp [intOf]; omega
          · obtain rfl : j = T.order.length := by omega
            have h7 : T.val 7 = 0 := by
              refine sim_val ?_ ?_
              · cases hf : T.fal 7 with
                | false => rfl
                | true =>
                  obtain ⟨p, z, hz, e⟩ := (HG.out.st.sim.fal_iff (by decide)).1 hf
                  have h1 := (HG.out.st.sim.varlt hz).2
                  have h2 := HG.out.st.vars
                  rw [e] at h1
                  have h3 : litV (-7) = 7 := by decide
                  omega
              · cases hf : T.tru 7 with
                | false => rfl
                | true =>
                  obtain ⟨p, z, hz, e⟩ := (HG.out.st.sim.tru_iff (by decide)).1 hf
                  have h1 := (HG.out.st.sim.varlt hz).2
                  have h2 := HG.out.st.vars
                  rw [e] at h1
                  have h3 : litV 7 = 7 := by decide
                  omega
            have hr7 : rightB (addAll arn0 0 cs) T 7 = false := by unfold rightB; rw [if_pos h7]
            have HRI := Lib.hid (fun W (hb : Below wr.heap.size wr W) => an_right a t (addAll arn0 0 cs) T 7 W (H5.out.below hb).lw.sys.ar (H5.out.below hb).lw.sys.tr)
            rw [hr7] at HRI
            clear h7 hr7 hlt
            go_upto_region 26 with fail
            refine wp_region_held_drew (S := fun w' => Below wr.heap.size wr w') (by kernel_rfl) (mx_drew wr) (fun hS => ?_)
            refine takeE 0 166 ?_
            refine takeE 1 167 ?_
            refine takeE 2 168 ?_
            refine takeF 3 169 (fun wq hSw => (hSw.cell (p := ⟨sb, 0, none⟩) hsbl).trans c0) ?_
            refine takeE 4 170 ?_
            refine takeE 5 171 ?_
            refine takeE 6 172 ?_
            refine takeF 7 173 (fun wq hSw => (hSw.cell (p := ⟨sb, 1, none⟩) hsbl).trans c1') ?_
            refine ready1 8 (fun K hK => ?_)
            go_simp
            refine (HRI.out _ hS).mono ?_
            rintro e w8 ⟨rfl, hbN⟩
            have hSN := hS.trans (hbN.mono hS.size)
            refine hK.out _ _ hSN (fun _ => ?_)
            clear hK hbN hS
            have hS := hSN
            clear hSN
            refine takeE 9 165 ?_
            refine takeE 10 175 ?_
            refine takeE 11 176 ?_
            refine takeE 12 20 ?_
            refine takeE 13 21 ?_
            refine wpAnyH_done (by kernel_rfl) ?_ _
            have HBF := Lib.hid (HB2.out.trans ((H5.out.below hS).lw.hb.mono HB2.out.size))
            clear hS
            go_wp2_with fail
            go_ret
            exact ⟨rfl, HBF.out⟩
end Go.Proofs.YtoojmhjagipmdaaGreat
