/- package salvorlaw13: started. package salvorlaw13: WatchAdds. Calls of a law at a watch that knows all of its clauses. -/
import Derived.Test.YtobcnejecogfoaaGreatQ34
import Derived.Test.YtobcnejecogfoaaGreatQ35
import Derived.Test.YtobcnejecogfoaaGreatQ15
namespace Go.Proofs.YtobcnejecogfoaaGreat
open Go.RowKit

/-- what started gives -/
structure Started (cs : List (List Int)) (w0 w : World) (lab : Nat → Nat) (b ab tb : Nat) (T : Trl) (its : List RIt) (S : Wst) (fl : Bool) : Prop where
  lw : Lw w0 w lab b ab tb (addAll arn0 0 cs) T S
  st : St (clsC cs) T its S
  kn : ∀ j, (S.kn j).isSome = (clsC cs j).isSome
  now : T.now = 0
  ok : fl = false → Run cs T its S
  bad : fl = true → ∃ c ∈ cs, ∀ y ∈ c, Has its (-y)
  pz : PZ (fun _ => False) T
set_option maxRecDepth 100000 in
set_option maxHeartbeats 8000000 in
theorem law_started (Ac : Option Addr) (cc : Nat) (cs : List (List Int)) (w : World) (hc : ClsAt w (.slice Ac cs.length cc) cs) (h6 : Six cs) :
    Calls Tryz.prog 13 #[.slice Ac cs.length cc] w fun e w' => ∃ b a t lab T its S fl, e = .returned (.tuple #[.pointer (some ⟨b, 0, none⟩), .pointer (some ⟨a, 0, none⟩), .pointer (some ⟨t, 0, none⟩), .bool fl, .bool true]) ∧ Started cs w w' lab b a t T its S fl := by
  have hcl := h6.1
  have HC := Lib.hid hc
  have HST := Lib.hid (store_any 6 _ cs w (by decide) hc (by omega) (fun c hm => ⟨by have := (h6.right hm).2; omega, (h6.right hm).1⟩))
  clear hc
  go_enter Tryz.func13, Tryz.ntmps13
  go_wp2_with fail
  refine HST.out.mono ?_
  rintro e w1 ⟨a, t, rfl, hp, hb1⟩
  obtain ⟨A, hA⟩ : ∃ A, addAll arn0 0 cs = A := ⟨_, rfl⟩
  rw [hA] at hp
  have HA := Lib.hid hA
  have HNW := Lib.hid (wa_new_at hp)
  have HB1 := Lib.hid hb1
  clear hp hb1 HST hA
  go_wp2_with fail
  refine HNW.out.mono ?_
  rintro e w2 ⟨b, lab, rfl, hs2, hge, hb2⟩
  have HLW := Lib.hid (show Lw w w2 lab b a t A (trl0 6) ⟨[], [], 0⟩ from ⟨hs2, hge, HB1.out.trans (hb2.mono HB1.out.size)⟩)
  have HBG := Lib.hid (beg0 cs)
  clear hs2 hge hb2 HNW HB1
  go_wp2_with fail
  go_loopw [12, 43] (fun fv i wr => ∃ (k : Nat) (fl : Bool) (labr : Nat → Nat) (T : Trl) (its : List RIt) (S : Wst), k ≤ cs.length ∧ i = .int .i64 k ∧ fv = .bool fl ∧ Hid (Lw w wr labr b a t A T S) ∧ Hid (Beg cs k T its S fl)) (fun _ i _ => cs.length - (intOf i).toNat)
  case atStart => exact ⟨0, false, lab, _, [], _, Nat.zero_le _, rfl, rfl, HLW, HBG⟩
  case round =>
    obtain ⟨k, fl, labr, T, its, S, hk, rfl, rfl, HL, HG⟩ := hrel
    by_cases hlt : k < cs.length
    · obtain ⟨c, hck⟩ := getElem_of hlt
      obtain ⟨A', c', hAc, hxs⟩ := HC.out.below HL.out.hb
      simp only [Value.slice.injEq, true_and] at hAc
      obtain ⟨rfl, rfl⟩ := hAc
      obtain ⟨g, o, u, rfl, hg, d0, hu⟩ := hxs k c hck
      have hmem := List.mem_of_getElem? hck
      have hgw : g < w.heap.size := by
        obtain ⟨A2, c2, hA2, hys⟩ := HC.out
        simp only [Value.slice.injEq, true_and] at hA2
        obtain ⟨g2, o2, u2, he2, hg2, _⟩ := hys k c hck
        rw [← hA2.1] at he2
        cases he2
        exact hg2
      have HU := Lib.hid (show ∃ u0, w.cell? ⟨g, o + k, none⟩ = some u0 ∧ IntsIn (fun g => g < w.heap.size) w u0 c from by
        obtain ⟨A2, c2, hA2, hys⟩ := HC.out
        simp only [Value.slice.injEq, true_and] at hA2
        obtain ⟨g2, o2, u2, he2, hg2, hcell, hu2⟩ := hys k c hck
        rw [← hA2.1] at he2
        cases he2
        exact ⟨u2, hcell, hu2⟩)
      have HUU := Lib.hid (show IntsIn (fun g => g < w.heap.size) w u c from by
        obtain ⟨u0, h1, h2⟩ := HU.out
        have h3 := (HL.out.hb.cell (p := ⟨g, o + k, none⟩) hgw).trans h1
        rw [d0] at h3
        rwa [Option.some.inj h3])
      have hrt := h6.right hmem
      have hv7 := HG.out.st.vars
      have hsim := HG.out.st.sim
      have hfew := hsim.few hv7
      obtain ⟨f, hf, hff⟩ := k_its (fun x hx => hsim.litb hx) hsim.nodup
      rw [← hsim.order] at hf
      have HF := Lib.hid hf
      have HNX := Lib.hid (HG.out.next h6 hck hff)
      have HAS := Lib.hid (law_assigned t T wr HL.out.sys.tr (by omega))
      have HRT := Lib.hid hrt
      have HAG := Lib.hid (show A.get ((k : Int) + 1) = some c from by
        rw [← HA.out, get_cls h6]
        unfold clsC
        rw [if_pos (by omega), show ((k : Int) + 1 - 1).toNat = k by omega]
        exact hck)
      have HC7 := Lib.hid (h6.2 c hmem)
      have hwk : IntKind.i64.wrap ((k : Int) + 1) = (k : Int) + 1 := IntWalk.i64_in _ (by omega)
      obtain ⟨Au, cu, rfl, _⟩ := id hu
      clear hck hxs hu hmem HU hf hff hrt hsim
      go_wp2_with fail
      refine HAS.out.mono ?_
      rintro e w3 ⟨vn, rfl, hrn, hb3⟩
      have hin := HL.out.ints hrn
      have HIN := Lib.hid hin
      have HL3 := Lib.hid (HL.out.below hb3)
      have hadd := lw_add HL3.out ((k : Int) + 1) (wf64 (by omega) (by omega)) (fun d hd => by
        rw [HAG.out] at hd
        rw [← Option.some.inj hd]
        exact ⟨by have := HRT.out.2; omega, HRT.out.1, by omega, by omega⟩) (by omega) HG.out.st.inv.link
      have hkn : S.kn ((k : Int) + 1) = none := by
        have := HG.out.kn ((k : Int) + 1)
        rw [decide_eq_false (by omega)] at this
        exact Option.isSome_eq_false_iff.1 this |> Option.isNone_iff_eq_none.1
      have hw : addW A T S ((k : Int) + 1) = addOk T S ((k : Int) + 1) c := by
        unfold addW
        rw [hkn]
        simp only []
        rw [HAG.out]
        simp only []
        rw [if_neg (by
          rw [Bool.not_eq_true, List.any_eq_false]
          intro y hy
          have := (HC7.out.2 y hy).2
          rw [decide_eq_true_eq]
          omega)]
      rw [hw, addOk_err] at hadd
      obtain ⟨R, hR⟩ : ∃ R, addOk T S ((k : Int) + 1) c = R := ⟨_, rfl⟩
      rw [hR] at hadd
      have hnx := HNX.out
      rw [hR] at hnx
      obtain ⟨K, T', S', hRK⟩ : ∃ K T' S', R.res = K ∧ R.T = T' ∧ R.S = S' := ⟨_, _, _, rfl, rfl, rfl⟩
      rw [hRK.1, hRK.2.1, hRK.2.2] at hadd hnx
      obtain ⟨its', hbeg, hso⟩ := hnx
      obtain ⟨An, cn, rfl, _⟩ := mx_slice hrn
      have HADD := Lib.hid hadd
      have HBG' := Lib.hid hbeg
      have HSO := Lib.hid hso
      clear hrn hin hb3 hadd hkn hw hR hRK hbeg hso HAS HNX
      go_wp2_with fail
      refine HADD.out.mono ?_
      rintro e w4 ⟨rfl, lab4, hl4, hk4⟩
      have HL4 := Lib.hid hl4
      have HIN4 := Lib.hid (HIN.out.next hk4)
      have HU4 := Lib.hid (HUU.out.below hl4.hb)
      have hlk := rup_Look _ _ c T.order w4 HU4.out HIN4.out HRT.out.1 f HF.out (by have := HRT.out.2; omega) (by omega)
      obtain ⟨I, hI⟩ : ∃ I, (lookF f c).1 = I := ⟨_, rfl⟩
      obtain ⟨U, hU⟩ : ∃ U, (lookF f c).2 = U := ⟨_, rfl⟩
      have hso := HSO.out
      rw [hI, hU] at hlk hso
      have HLK := Lib.hid hlk
      have HSO2 := Lib.hid hso
      clear hl4 hk4 hlk hI hU hso HADD HSO HL3 HIN
      go_wp2_with fail
      refine HLK.out.mono ?_
      rintro e w5 ⟨rfl, hb5⟩
      have HL5 := Lib.hid (HL4.out.below hb5)
      have HALW := Lib.hid (always_any _ c w5 (HU4.out.below hb5) (by have := HRT.out.2; omega))
      clear hb5 HLK HL4 HIN4 HU4 HUU
      rcases HSO2.out with ⟨ha, rfl⟩ | ⟨ha, rfl, rfl, _⟩ | ⟨ha, rfl, rfl, hv, _⟩ | ⟨ha, rfl, hi, _⟩
      · rw [ha] at HALW
        clear HSO2
        go_wp2_with fail
        refine HALW.out.mono ?_
        rintro e w6 ⟨rfl, hb6⟩
        have HL6 := Lib.hid (HL5.out.below hb6)
        clear hb6 HALW HL5
        cases fl with
        | true =>
          go_wp2_with fail
          go_roundw
          case rel => exact ⟨k + 1, true, lab4, _, its', _, by omega, by go_num, rfl, HL6, Lib.hid (by have := HBG'.out; simpa using this)⟩
          case measure => simp [intOf]; omega
        | false =>
          go_wp2_with fail
          go_roundw
          case rel => exact ⟨k + 1, _, lab4, _, its', _, by omega, by go_num, rfl, HL6, Lib.hid (by have := HBG'.out; simpa using this)⟩
          case measure => simp [intOf]; omega
      · rw [ha] at HALW
        clear HSO2
        go_wp2_with fail
        refine HALW.out.mono ?_
        rintro e w6 ⟨rfl, hb6⟩
        have HL6 := Lib.hid (HL5.out.below hb6)
        clear hb6 HALW HL5
        cases fl with
        | true =>
          go_wp2_with fail
          go_roundw
          case rel => exact ⟨k + 1, true, lab4, _, its', _, by omega, by go_num, rfl, HL6, Lib.hid (by have := HBG'.out; simpa using this)⟩
          case measure => simp [intOf]; omega
        | false =>
          go_wp2_with fail
          go_roundw
          case rel => exact ⟨k + 1, _, lab4, _, its', _, by omega, by go_num, rfl, HL6, Lib.hid (by have := HBG'.out; simpa using this)⟩
          case measure => simp [intOf]; omega
      · rw [ha] at HALW
        clear HSO2
        go_wp2_with fail
        refine HALW.out.mono ?_
        rintro e w6 ⟨rfl, hb6⟩
        have HL6 := Lib.hid (HL5.out.below hb6)
        clear hb6 HALW HL5
        have hva := tr_value t T' U w6 HL6.out.sys.tr
        rw [hv] at hva
        have HVA := Lib.hid hva
        clear hva hv
        go_wp2_with fail
        refine HVA.out.mono ?_
        rintro e w7 ⟨rfl, hb7⟩
        have HL7 := Lib.hid (HL6.out.below hb7)
        clear hb7 HVA HL6
        cases fl with
        | true =>
          go_wp2_with fail
          go_roundw
          case rel => exact ⟨k + 1, true, lab4, _, its', _, by omega, by go_num, rfl, HL7, Lib.hid (by have := HBG'.out; simpa using this)⟩
          case measure => simp [intOf]; omega
        | false =>
          go_wp2_with fail
          go_roundw
          case rel => exact ⟨k + 1, _, lab4, _, its', _, by omega, by go_num, rfl, HL7, Lib.hid (by have := HBG'.out; simpa using this)⟩
          case measure => simp [intOf]; omega
      · rw [ha] at HALW
        have q3 : ((I : Int) == 3) = false := by simp; omega
        have q2 : ((I : Int) == 2) = false := by simp; omega
        clear hi
        clear HSO2
        go_wp2_with fail
        refine HALW.out.mono ?_
        rintro e w6 ⟨rfl, hb6⟩
        have HL6 := Lib.hid (HL5.out.below hb6)
        clear hb6 HALW HL5
        cases fl with
        | true =>
          go_wp2_with fail
          go_roundw
          case rel => exact ⟨k + 1, true, lab4, _, its', _, by omega, by go_num, rfl, HL6, Lib.hid (by have := HBG'.out; simpa using this)⟩
          case measure => simp [intOf]; omega
        | false =>
          go_wp2_with fail
          go_roundw
          case rel => exact ⟨k + 1, _, lab4, _, its', _, by omega, by go_num, rfl, HL6, Lib.hid (by have := HBG'.out; simpa using this)⟩
          case measure => simp [intOf]; omega
    · obtain rfl : k = cs.length := by omega
      cases fl with
      | true =>
        have HFIN := Lib.hid (show Started cs w wr labr b a t T its S true from ⟨by rw [HA.out]; exact HL.out, HG.out.st, HG.out.all, HG.out.now, (fun h => by cases h), HG.out.bad, HG.out.pz⟩)
        clear HG HL hlt
        go_wp2_with fail
        refine bodyPost_ret (v := .tuple #[.pointer (some ⟨b, 0, none⟩), .pointer (some ⟨a, 0, none⟩), .pointer (some ⟨t, 0, none⟩), .bool true, .bool true]) (by simp [results, Tryz.results13, go_sem]) rfl ?_
        exact ⟨b, a, t, labr, T, its, S, true, rfl, HFIN.out⟩
      | false =>
        obtain ⟨its', hst', hpre, hnow, hkn, hres⟩ := HG.out.st.prop (A := A) h6.fit (by rw [← HA.out]; exact HG.out.st.find h6)
        have hpr := lw_prop HL.out HG.out.st.inv.link ⟨_, HG.out.st.sim⟩ (by rw [HG.out.st.vars]; decide)
        obtain ⟨r, hr⟩ : ∃ r, (propW A T S).2.2 = r := ⟨_, rfl⟩
        rw [hr] at hpr hres
        obtain ⟨rs, hrs⟩ : ∃ rs, r.isSome = rs := ⟨_, rfl⟩
        obtain ⟨rg, hrg⟩ : ∃ rg, r.getD 0 = rg := ⟨_, rfl⟩
        rw [hrs, hrg] at hpr
        obtain ⟨T', hT'⟩ : ∃ T', (propW A T S).1 = T' := ⟨_, rfl⟩
        obtain ⟨S', hS'⟩ : ∃ S', (propW A T S).2.1 = S' := ⟨_, rfl⟩
        rw [hT', hS'] at hpr hst'
        rw [hT'] at hnow
        rw [hS'] at hkn hres
        have HPR := Lib.hid hpr
        have HFI := Lib.hid (show ∀ W lab', Lw w W lab' b a t A T' S' → Started cs w W lab' b a t T' its' S' rs from fun W lab' hl => by
          refine ⟨by rw [HA.out]; exact hl, hst', fun j => (hkn j).trans (HG.out.all j), hnow.trans HG.out.now, fun h => ?_, fun h => ?_, by rw [← hT']; exact PZ.propGo _ HG.out.st.inv.bnd HG.out.st.inv.link ⟨_, HG.out.st.sim⟩ HG.out.pz⟩
          · rcases hres with ⟨h1, h2⟩ | ⟨id, c, h1, _⟩
            · exact ⟨hst', fun j => (hkn j).trans (HG.out.all j), HG.out.ones.pre hpre, h2⟩
            · rw [← hrs, h1] at h; cases h
          · rcases hres with ⟨h1, _⟩ | ⟨id, c, h1, h2, h3⟩
            · rw [← hrs, h1] at h; cases h
            · obtain ⟨n, _, hn, _⟩ := clsC_some h2
              exact ⟨c, List.mem_of_getElem? hn, h3⟩)
        clear hst' hpre hnow hkn hres hpr hr hrs hrg hT' hS' HG hlt
        go_wp2_with fail
        refine HPR.out.mono ?_
        rintro e w3 ⟨rfl, lab3, hl3, _⟩
        have HFIN := Lib.hid (HFI.out w3 lab3 hl3)
        clear hl3 HPR HFI HL
        go_wp2_with fail
        refine bodyPost_ret (v := .tuple #[.pointer (some ⟨b, 0, none⟩), .pointer (some ⟨a, 0, none⟩), .pointer (some ⟨t, 0, none⟩), .bool rs, .bool true]) (by simp [results, Tryz.results13, go_sem]) rfl ?_
        exact ⟨b, a, t, lab3, T', its', S', rs, rfl, HFIN.out⟩
end Go.Proofs.YtobcnejecogfoaaGreat
namespace Go.Proofs.YtobcnejecogfoaaGreat
open Go.RowKit

/-- an operation under a guard that is on -/
theorem wpList_on {P : Program} {ops : Array Oper} {rest : List Oper} {o : Oper} {a : Act} {w : World} {Q : Exit → Act → World → Prop} (hw : Region.wanted o (yielded ops a.tmps) = true) (h : wpList P ops Q (⟨o.dst, o.op, o.type, o.pos, o.after, none⟩ :: rest) a w) : wpList P ops Q (o :: rest) a w := by
  unfold wpList at h ⊢
  rw [if_pos hw]
  rw [if_pos (by simp [Region.wanted])] at h
  exact h
theorem madeLit_six (x : Int) : litB (madeLit x) = true ∧ litV (madeLit x) < 7 := by
  obtain ⟨h1, h2⟩ := madeLit_rng x
  have hb : litB (madeLit x) = true := (litB_iff _).2 (by omega)
  exact ⟨hb, by have := (litV_pos hb).2; omega⟩
/-- one literal that is made -/
theorem made_one (n : Int) (w : World) (hn : (Lit.int .i8 n).wf = true) :
    Calls Tryz.prog 20 #[.slice (some ⟨w.heap.size, 0, none⟩) 1 1] (w.alloc (.cells #[.int .i8 n] 33)) fun e w' => ∃ g c, e = .returned (.slice (some ⟨g, 0, none⟩) 1 c) ∧ 1 ≤ c ∧ w'.cell? ⟨g, 0, none⟩ = some (.int .i64 (madeLit n)) ∧ Below w.heap.size w w' := by
  have hr : RowAt .i8 (w.alloc (.cells #[.int .i8 n] 33)) (.slice (some ⟨w.heap.size, 0, none⟩) 1 1) [n] := ⟨some ⟨w.heap.size, 0, none⟩, 1, rfl, Nat.le_refl _, by decide, (fun h => by cases h), (fun m hm => by rw [List.mem_singleton.1 hm]; exact hn), fun i x hi => ⟨w.heap.size, 0, rfl, by simp, by
    rw [cell_new, Nat.zero_add]
    match i, hi with
    | 0, hi =>
      obtain rfl : n = x := by simpa using hi
      rfl⟩⟩
  refine (made_any _ [n] _ hr).mono ?_
  rintro e w' ⟨v, rfl, ho, hb⟩
  obtain ⟨g, c, cs, rfl, hc, _, _, hg, hx⟩ := mx_some ho (by simp [madeL])
  refine ⟨g, c, rfl, hc, mx_at ho rfl, (mx_al _ _).trans (hb.mono (by simp))⟩
structure FewT (T : Trl) (k : Nat) : Prop where
  sim : ∃ its, Sim T its
  vars : T.vars.length = 7
  starts : T.starts.length ≤ k + 1
theorem FewT.push {T : Trl} {k : Nat} (h : FewT T k) : FewT T.push (k + 1) := by
  obtain ⟨⟨its, h1⟩, h2, h3⟩ := h
  exact ⟨⟨its, h1.pushT⟩, h2, by show (T.starts ++ [(T.order.length : Int)]).length ≤ _; rw [List.length_append]; simp; omega⟩
theorem FewT.assign {T : Trl} {k : Nat} (h : FewT T k) (l : Int) : FewT (T.assigned l 0) k := by
  obtain ⟨⟨its, h1⟩, h2, h3⟩ := h
  refine ⟨?_, (assigned_vars T l 0).trans h2, by rw [assigned_starts]; exact h3⟩
  by_cases he : T.assignErr l 0 = 0
  · exact ⟨_, h1.snoc he⟩
  · have e : T.assigned l 0 = T := by unfold Trl.assigned; rw [if_neg he]
    rw [e]
    exact ⟨its, h1⟩
theorem FewT.few {T : Trl} {k : Nat} (h : FewT T k) : T.order.length ≤ 6 := by
  obtain ⟨⟨its, h1⟩, h2, _⟩ := h
  exact h1.few h2
theorem FewT.mono {T : Trl} {k j : Nat} (h : FewT T k) (hj : k ≤ j) : FewT T j := ⟨h.sim, h.vars, by have := h.starts; omega⟩
theorem val_free {T : Trl} {y : Int} : T.fal y = false → T.tru y = false → T.val y = 0 := fun h1 h2 => by
  unfold Trl.fal at h1
  unfold Trl.tru at h2
  rw [decide_eq_false_iff_not] at h1 h2
  omega
/-- what Add of a clause tells, and what the clause is -/
inductive AddsO (T : Trl) (c : List Int) (K I : Nat) (U : Int) (T' : Trl) : Prop
  | alw (ha : alwL c = true) (hk : K = 4) (ht : T' = T)
  | unit (ha : alwL c = false) (hi : I = 3) (hk : K = 2) (ho : T'.order = T.order ++ [U]) (hs : T'.starts = T.starts) (hl : T'.level (litV U : Nat) = (T.starts.length : Int) - 1) (hr : T'.reason (litV U : Nat) = 1)
  | fails (ha : alwL c = false) (hi : I = 2) (hk : K = 3) (ht : T' = T)
  | rests (ha : alwL c = false) (hi : I ≠ 2 ∧ I ≠ 3) (hk : K = 1) (ht : T' = T)
theorem adds_out {T : Trl} {its : List RIt} {c : List Int} {S : Wst} {f : Int → Int} (hs : Sim T its) (hv : T.vars.length = 7) (hc : ∀ y ∈ c, litB y = true ∧ litV y < 7) (hf : ∀ y, litB y = true → ((0 < ofF f y ↔ Has its y) ∧ (ofF f y < 0 ↔ Has its (-y)))) :
    AddsO T c (addOk T S 1 c).res (lookF f c).1 (lookF f c).2 (addOk T S 1 c).T := by
  cases ha : alwL c with
  | true =>
    have e : addOk T S 1 c = ⟨4, 0, T, S.set 1 ⟨[], eachL c⟩⟩ := by unfold addOk; rw [if_pos ha]
    rw [e]
    exact .alw ha rfl rfl
  | false =>
    rw [addOk_no ha]
    rcases add_kind hs (fun y hy => (hc y hy).1) hf with ⟨h6, h7, _⟩ | ⟨a, h6, h7, ha1, ha2, ha3, ha4, ha5⟩ | ⟨h6, h7, _⟩ | ⟨h6, h7, _⟩
    · rw [h6, h7]
      exact .fails ha rfl rfl (by simp)
    · rw [h6, h7]
      have herr := free_err hv (hc a ha1).1 (hc a ha1).2 (val_free ha2 ha3) (r := 1) ⟨by omega, by omega⟩
      have hsn := hs.snoc herr
      have hp : (its ++ [(⟨a, 1, T.now⟩ : RIt)])[its.length]? = some ⟨a, 1, T.now⟩ := by simp
      refine .unit ha rfl rfl ?_ ?_ ?_ ?_
      · simp only [if_true, ha4]
        unfold Trl.assigned
        rw [if_pos herr]
        rfl
      · simp only [if_true, ha4]
        exact assigned_starts _ _
      · simp only [if_true, ha4]
        exact hsn.level hp
      · simp only [if_true, ha4]
        unfold Trl.reason
        have := hsn.why hp
        simp only at this
        rw [this]
    · rw [h6, h7]
      exact .rests ha (by simp) rfl (by simp)
    · rw [h6, h7]
      exact .rests ha (by simp) rfl (by simp)
end Go.Proofs.YtobcnejecogfoaaGreat
namespace Go.Proofs.YtobcnejecogfoaaGreat
open Go.RowKit

section
variable {cs : List (List Int)} {T : Trl} {its : List RIt} {S : Wst} {w0 w : World} {lab : Nat → Nat} {b ab tb : Nat}
theorem St.pt {C : Int → Option (List Int)} (h : St C T its S) : PT T := ⟨its, h.sim, h.sta⟩
theorem six_all {cs : List (List Int)} (h6 : Six cs) : (∀ c ∈ cs, clauseB c = true ∧ c.length ≤ 6) ∧ cs.length ≤ 1000 := ⟨fun _ hc => h6.right hc, by have := h6.1; omega⟩
theorem six_made (xss : List (List Int)) (m : Nat) (hm : m ≤ 900) : Six ((xss.take m).map madeL) := by
  refine ⟨by rw [List.length_map, List.length_take]; omega, fun c hc => ?_⟩
  obtain ⟨xs, _, rfl⟩ := List.mem_map.1 hc
  refine ⟨by simp [madeL]; omega, fun y hy => ?_⟩
  obtain ⟨n, _, rfl⟩ := List.mem_map.1 hy
  exact madeLit_six n
theorem run_complete (h : Lw w0 w lab b ab tb (addAll arn0 0 cs) T S) (hr : Run cs T its S) (h6 : Six cs) {Ac : Option Addr} {cc : Nat} (hc : ClsAt w0 (.slice Ac cs.length cc) cs) :
    Calls Tryz.prog 16 #[.pointer (some ⟨tb, 0, none⟩), .slice Ac cs.length cc] w fun e w' => e = .returned (.bool true) ∧ Below w.heap.size w w' := by
  obtain ⟨f, hf, hff⟩ := k_its (fun x hx => hr.st.sim.litb hx) hr.st.sim.nodup
  rw [← hr.st.sim.order] at hf
  exact law_complete tb T its Ac cc cs w h.sys.tr (hc.below h.hb) hr.st.sim hr.st.vars hr.st.inv.rs (six_all h6).1 (six_all h6).2 f hf (hr.done h6 hff)
theorem st_reasons (h : Lw w0 w lab b ab tb (addAll arn0 0 cs) T S) (hr : St (clsC cs) T its S) (h6 : Six cs) {Ac : Option Addr} {cc : Nat} (hc : ClsAt w0 (.slice Ac cs.length cc) cs) :
    Calls Tryz.prog 14 #[.pointer (some ⟨tb, 0, none⟩), .slice Ac cs.length cc] w fun e w' => e = .returned (.bool true) ∧ Below w.heap.size w w' :=
  law_reasons tb T its Ac cc cs w h.sys.tr (hc.below h.hb) hr.sim hr.vars hr.inv.rs (six_all h6).1 (six_all h6).2
theorem st_failing (h : Lw w0 w lab b ab tb (addAll arn0 0 cs) T S) (hr : St (clsC cs) T its S) (h6 : Six cs) (hb : ∃ c ∈ cs, ∀ y ∈ c, Has its (-y)) {Ac : Option Addr} {cc : Nat} (hc : ClsAt w0 (.slice Ac cs.length cc) cs) :
    Calls Tryz.prog 15 #[.pointer (some ⟨tb, 0, none⟩), .slice Ac cs.length cc] w fun e w' => e = .returned (.bool true) ∧ Below w.heap.size w w' := by
  obtain ⟨f, hf, hff⟩ := k_its (fun x hx => hr.sim.litb hx) hr.sim.nodup
  rw [← hr.sim.order] at hf
  obtain ⟨c, hcm, hh⟩ := hb
  refine law_failing tb T its _ cs w h.sys.tr (hc.below h.hb) hr.sim hr.vars (six_all h6).1 (six_all h6).2 f hf ⟨c, hcm, ?_⟩
  rw [k_fail (fun y hy => (hff y ((h6.2 c hcm).2 y hy).1).2.2 (hh y hy))]
theorem run_back (h : Lw w0 w lab b ab tb (addAll arn0 0 cs) T S) (hs : St (clsC cs) T its S) (hkn : ∀ j, (S.kn j).isSome = (clsC cs j).isSome) (hone : One (clsC cs) (fun _ => True) its) {j : Int} (h0 : 0 ≤ j) (hj : j < T.now ∨ j = T.now ∧ S.looked = its.length) :
    Calls Tryz.prog 17 #[.pointer (some ⟨b, 0, none⟩), .int .i64 j] w fun e w' => e = .returned (.int .i64 0) ∧ ∃ T' its' S', Run cs T' its' S' ∧ T'.now = j ∧ its' <+: its ∧ (∀ y, Has0 its y → Has0 its' y) ∧ LwNext w0 w w' lab b ab tb (addAll arn0 0 cs) T' S' := by
  obtain ⟨its', h1, h2, h3, h4, h5⟩ := back_step hs hkn hone h0 hj
  refine (lw_back h j hs.pt.sta hs.pt.fit).mono ?_
  rintro e w' ⟨rfl, hn⟩
  rw [h3]
  exact ⟨rfl, _, its', _, h1, h2, h4, h5, hn⟩
theorem run_dec (h : Lw w0 w lab b ab tb (addAll arn0 0 cs) T S) (hr : Run cs T its S) (h6 : Six cs) {l : Int} (hl : litB l = true ∧ litV l < 7) (hn : T.now ≤ 1000) :
    Calls Tryz.prog 19 #[.pointer (some ⟨b, 0, none⟩), .pointer (some ⟨tb, 0, none⟩), .int .i64 l] w fun e w' => ∃ R its', e = .returned (.tuple #[.int .i64 (R.2.2.getD 0), .bool true]) ∧ DecO cs T its S l R its' ∧ LwNext w0 w w' lab b ab tb (addAll arn0 0 cs) R.1 R.2.1 := by
  obtain ⟨its', hd⟩ := dec_step hr h6 hl
  refine (law_decide l h hr.st.sim hr.st.vars hr.st.inv.link hl (by have := now_eq (T := T); omega) (fun id he => ?_)).mono ?_
  · obtain ⟨c, hc, _⟩ := hd.bad id he
    exact (h6.fit id c hc).1.1
  · rintro e w' ⟨rfl, hx⟩
    exact ⟨_, its', rfl, hd, hx⟩
end
end Go.Proofs.YtobcnejecogfoaaGreat
