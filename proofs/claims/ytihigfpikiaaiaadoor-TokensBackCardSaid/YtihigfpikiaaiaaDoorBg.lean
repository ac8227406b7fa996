/- The walk of TokensBack: the text is built, and what is told of it. -/
import Derived.Test.YtihigfpikiaaiaaDoorBf
import Derived.Deep.DeepCutAuto
import Derived.Deep.RegionHeld3
import Derived.IntWalk
namespace Go.Proofs.YtihigfpikiaaiaaDoor
open Go.RowKit

theorem info3 : (Tryd.prog.info? 3).map (fun i => (i.zero, i.size, i.bytes)) = some (some (.int .i64 0), 1, 8) := by kernel_rfl
/-- the gap before the i-th word -/
def gapF (gs : List Nat) : Nat → List UInt8 := if gs = [] then spF else fun i => (frontAt (gs.getD (i % gs.length) 0 % 5)).data.toList
theorem gapF_nil : gapF [] = spF := rfl
theorem gapF_cons (gs : List Nat) (h : gs ≠ []) (i : Nat) : gapF gs i = (frontAt (gs.getD (i % gs.length) 0 % 5)).data.toList := by unfold gapF; rw [if_neg h]
theorem gapF_gap (gs : List Nat) (j : Nat) : Tk.Gap (gapF gs j) := by
  by_cases h : gs = []
  · subst h; exact spF_gap j
  · rw [gapF_cons gs h]; exact front_gap _ (Nat.mod_lt _ (by omega))
theorem gapF_stops (gs : List Nat) (j : Nat) (r : List UInt8) (hj : 0 < j) : Tk.stops (gapF gs j ++ r) = true := by
  by_cases h : gs = []
  · subst h; exact spF_stops j r hj
  · rw [gapF_cons gs h]; exact front_stops _ _ (Nat.mod_lt _ (by omega))
theorem gapF_len (gs : List Nat) (j : Nat) : (gapF gs j).length ≤ 8 := by
  by_cases h : gs = []
  · subst h
    cases j <;> simp [gapF_nil, spF]
  · rw [gapF_cons gs h, size_list]; exact front_le _
theorem text_of (T : ByteArray) (gs ns : List Nat) (h : T.data.toList = Tk.flat (mkP (gapF gs) 0 (ns.map wordOf))) : TextOf T (gapF gs) (ns.map wordOf) := by
  have hw : ∀ w ∈ ns.map wordOf, ∃ k, Tk.Word w k := by
    intro w hw
    simp only [List.mem_map] at hw
    obtain ⟨n, _, rfl⟩ := hw
    exact wordOf_word n
  exact ⟨h, mkP_good _ 0 _ (gapF_gap gs) (fun j r hj => gapF_stops gs j r hj) hw, hw⟩
/-- what is told of the text, in the walk's order -/
structure BackFacts (T : ByteArray) (ns at_ : List Nat) : Prop where
  len : at_.length = ns.length
  e1 : scanErr T = 0
  s1 : stopAt T = T.size
  l1 : scanL T = at_
  e2 : scanErr (tidyS T) = 0
  t2 : tidyS (tidyS T) = tidyS T
  z2 : (tidyS T).size ≤ 65536
  join : (⟨(Lib.join ((ns.map wordS).map (·.data.toList)) [32]).toArray⟩ : ByteArray) = tidyS T
  tok : ∀ i n p, ns[i]? = some n → at_[i]? = some p → tkEnd T p = p + (wordS n).size ∧ 1 ≤ tkKind T p ∧ tkKind T p ≤ 4 ∧ tokS T p = wordS n ∧ p + (wordS n).size ≤ T.size ∧ skipTo T (fromOf T 0 at_ i) = p
  last : skipTo T (fromOf T 0 at_ ns.length) = T.size
theorem back_facts (T : ByteArray) (gf : Nat → List UInt8) (ns : List Nat) (h : TextOf T gf (ns.map wordOf)) (hn : ns.length ≤ 40) : BackFacts T ns (atL gf (ns.map wordOf)) := by
  obtain ⟨a1, a2, a3, a4⟩ := h.scan
  have hl : (atL gf (ns.map wordOf)).length = ns.length := by rw [a4, List.length_map]
  have hjl : (ns.map wordS).map (·.data.toList) = ns.map wordOf := by
    rw [List.map_map]
    exact List.map_congr_left (fun n _ => wordS_list n)
  have hpl : places T (T.size + 1) 0 = atL gf (ns.map wordOf) ++ [T.size] := by
    rw [(places_eq T).1, a2]
    congr 1
    unfold scanL at a3
    rwa [if_neg (by omega)] at a3
  have hnext := fun i hi => places_next T (T.size + 1) 0 (atL gf (ns.map wordOf)) T.size hpl i hi
  refine ⟨hl, a1, a2, a3, ?_, h.same, ?_, ?_, fun i n p hn hp => ?_, ?_⟩
  · exact h.again.scan.1
  · rw [← size_list, h.tidy]
    have := join_len (ns.map wordOf) 12 (fun x hx => by
      simp only [List.mem_map] at hx
      obtain ⟨n, _, rfl⟩ := hx
      exact wordOf_len n)
    rw [List.length_map] at this
    have h2 : ns.length * (12 + 1) ≤ 40 * 13 := Nat.mul_le_mul_right _ hn
    omega
  · apply ByteArray.ext
    apply Array.toList_inj.1
    rw [h.tidy, hjl]
  · have hw : (ns.map wordOf)[i]? = some (wordOf n) := by rw [List.getElem?_map, hn]; rfl
    obtain ⟨b1, b2, b3, b4, b5⟩ := h.tok i _ p hw hp
    have hz : (wordOf n).length = (wordS n).size := by rw [← size_list, wordS_list]
    rw [hz] at b1 b5
    have hil : i < (atL gf (ns.map wordOf)).length := (List.getElem?_eq_some_iff.1 hp).1
    refine ⟨b1, b2, b3, ?_, b5, ?_⟩
    · apply ByteArray.ext
      apply Array.toList_inj.1
      rw [b4, wordS_list]
    · have := hnext i (by omega)
      rw [List.getElem?_append_left hil, hp] at this
      exact (Option.some.inj this).symm
  · have := hnext ns.length (by omega)
    rw [List.getElem?_append_right (by omega), hl, Nat.sub_self] at this
    exact (Option.some.inj this).symm
theorem slice_vals {w : World} {base n c : Nat} {e : TypeId} {A : Option Addr} {xs : List Value} (h : w.ownsRow base e 1 (.slice A n c) n xs) : ∀ i u, xs[i]? = some u → ∃ g, A = some ⟨g, 0, none⟩ ∧ base ≤ g ∧ g < w.heap.size ∧ w.cell? ⟨g, i, none⟩ = some u := by
  obtain ⟨A', c', hv, _, hx⟩ := slice_of_own h
  simp only [Value.slice.injEq] at hv
  obtain ⟨rfl, _, rfl⟩ := hv
  exact hx
theorem strCells_list (s : ByteArray) : Lib.strCells s = Lib.byteCells s.data.toList := rfl
theorem byteCells_app (a b : List UInt8) : Lib.byteCells a ++ Lib.byteCells b = Lib.byteCells (a ++ b) := by simp [Lib.byteCells]

set_option maxRecDepth 100000 in
set_option maxHeartbeats 8000000 in
theorem back_any (A : Option Addr) (c : Nat) (l : List Nat) (A2 : Option Addr) (c2 : Nat) (gs : List Nat) (w : World) (hm : MaxL w) (hl : BytesAt w A l) (hc : l.length ≤ c) (hg : BytesAt w A2 gs) :
    Calls Tryd.prog 7 #[.slice A l.length c, .slice A2 gs.length c2] w fun e w' => e = .returned (.bool true) ∧ Below w.heap.size w w' := by
  obtain ⟨i0, hi, hz0, hz1, hz2⟩ := info_parts info3
  obtain ⟨ns, hns⟩ : ∃ ns, l.take 40 = ns := ⟨_, rfl⟩
  have hn40 : ns.length ≤ 40 := by rw [← hns, List.length_take]; omega
  have hmd := fun w hl => made_any A c l w hl hc
  rw [hns] at hmd
  have HMD := Lib.hid hmd
  have HL := Lib.hid hl
  have HG := Lib.hid hg
  clear hl hg hns hmd
  go_enter Tryd.func7, Tryd.ntmps7
  go_wp2_with fail
  refine (awake_any _ hm).mono ?_
  rintro e w1 ⟨rfl, hb1⟩
  have L1 := Lib.hid (HL.out.below hb1)
  have B1 := Lib.hid hb1
  clear hb1
  go_wp2_with fail
  refine (HMD.out _ L1.out).mono ?_
  rintro e w2 ⟨v, rfl, hr, hb2⟩
  obtain ⟨AW, cW, rfl, hcW, hW⟩ := slice_of_own hr
  have B2 := Lib.hid (B1.out.trans (hb2.mono B1.out.size))
  have HW := Lib.hid hW
  have HR := Lib.hid hr
  have HG2 := Lib.hid (HG.out.below B2.out)
  clear hb2 hW hr
  go_wp2_with fail
  have hB3 : Below w2.heap.size w2 (w2.alloc (.cells #[.pointer none, .slice none 0 0] 44)) := (Below.refl _ _).alloc (Nat.le_refl _) _
  have hbl : Lib.IsBuilderF 44 5 w2.heap.size w2.heap.size (Lib.byteCells []) (w2.alloc (.cells #[.pointer none, .slice none 0 0] 44)) := Lib.IsBuilderF.of (Lib.fresh_isBuilder 44 5 w2)
  have hz3 : w2.heap.size < (w2.alloc (.cells #[.pointer none, .slice none 0 0] 44)).heap.size := by simp
  generalize w2.alloc (.cells #[.pointer none, .slice none 0 0] 44) = w3 at hB3 hbl hz3 ⊢
  obtain ⟨gf, hgf⟩ : ∃ gf, gapF gs = gf := ⟨_, rfl⟩
  obtain ⟨ws, hws⟩ : ∃ ws, ns.map wordOf = ws := ⟨_, rfl⟩
  have hlenT := textTo_len gf ws (fun j => by rw [← hgf]; exact gapF_len gs j) (fun w hw => by
    rw [← hws] at hw
    simp only [List.mem_map] at hw
    obtain ⟨n, _, rfl⟩ := hw
    exact wordOf_len n)
  have HLT := Lib.hid hlenT
  have HGF := Lib.hid hgf
  have HWS := Lib.hid hws
  have HB3 := Lib.hid hB3
  have HBL := Lib.hid hbl
  clear hB3 hbl hlenT hgf hws
  go_loopw [7, 32] (fun v i wr => ∃ k : Nat, k ≤ ns.length ∧ i = .int .i64 k ∧ wr.ownsRow w2.heap.size 3 1 v k ((atL gf (ws.take k)).map fun p => Value.int .i64 (p : Nat)) ∧ v.ownBlock ≠ some w2.heap.size ∧ Hid (Lib.IsBuilderF 44 5 w2.heap.size w2.heap.size (Lib.byteCells (textTo gf ws k)) wr) ∧ Hid (Below w2.heap.size w2 wr)) (fun _ i _ => ns.length - (intOf i).toNat)
  case atStart => exact ⟨0, by omega, rfl, World.ownsRow_nil _ _ _ _, by simp [Value.ownBlock], HBL, HB3⟩
  case round =>
    obtain ⟨k, hk, rfl, hat, hnb, HBL, HB⟩ := hrel
    have HNB := Lib.hid hnb
    clear hnb
    by_cases hlt : k < ns.length
    · have HAT := Lib.hid hat
      clear hat
      obtain ⟨n, hn⟩ : ∃ n, ns[k]? = some n := ⟨_, List.getElem?_eq_getElem hlt⟩
      obtain ⟨g, rfl, hgb, hg2, hcell⟩ := HW.out k (.string (wordS n)) (by rw [List.getElem?_map, hn]; rfl)
      have d0 := (HB.out.cell (p := ⟨g, k, none⟩) hg2).trans hcell
      have hwk : ws[k]? = some (wordOf n) := by rw [← HWS.out, List.getElem?_map, hn]; rfl
      have hst := Lib.hid (textTo_step gf ws k _ hwk)
      have hta := Lib.hid (atL_take gf ws k _ hwk)
      have hlk := HLT.out k
      have HCELL := Lib.hid hcell
      clear hcell hn hwk
      go_upto_if 39 with fail
      go_cut [] (fun wx => wx.ownsRow w2.heap.size 3 1 u7 k ((atL gf (ws.take k)).map fun p => Value.int .i64 (p : Nat)) ∧ Hid (Lib.IsBuilderF 44 5 w2.heap.size w2.heap.size (Lib.byteCells (textTo gf ws k ++ gf k)) wx) ∧ Hid (Below w2.heap.size w2 wx))
      case first =>
        have hbs := HB.out.size
        by_cases hg0 : 0 < gs.length
        · have hml := Nat.mod_lt k hg0
          obtain ⟨m, hmk⟩ : ∃ m, gs[k % gs.length]? = some m := ⟨_, List.getElem?_eq_getElem hml⟩
          obtain ⟨h256, ab, ao, rfl, hab, hce⟩ := HG2.out (k % gs.length) m hmk
          have d1 := (HB.out.cell (p := ⟨ab, ao + k % gs.length, none⟩) hab).trans hce
          have hr0 : 0 ≤ (k : Int) % (gs.length : Int) := Int.emod_nonneg _ (by omega)
          have hr1 : (k : Int) % (gs.length : Int) < (gs.length : Int) := Int.emod_lt_of_pos _ (by omega)
          have hr2 : ((k : Int) % (gs.length : Int)).toNat = k % gs.length := by rw [← Int.natCast_emod, Int.toNat_natCast]
          have hgk : gf k = (frontAt (m % 5)).data.toList := by
            rw [← HGF.out, gapF_cons gs (by intro h; simp [h] at hg0), List.getD_eq_getElem?_getD, hmk]; rfl
          have HGK := Lib.hid hgk
          clear hce hmk hgk
          go_wp2_with fail
          refine (blank_any m _).mono ?_
          rintro e w4 ⟨rfl, hb4⟩
          have HBL4 := builder_below HBL.out hb4
          have HAT4 := own_below HAT.out hb4
          have hs4 := hb4.size
          have hfl := front_le (m % 5)
          have hlb : (Lib.byteCells (textTo gf ws k)).length + (frontAt (m % 5)).size ≤ 140737488355328 := by rw [Lib.byteCells_length]; omega
          go_wp2_with fail
          refine (write_string_k _ _ _ _ _ HBL4 hlb (by omega)).mono ?_
          rintro e w5 ⟨rfl, hb5, hbel5, hok5⟩
          go_wp2_with fail
          go_meet
          case rel =>
            refine ⟨own_others HAT4 hok5 (by decide) HNB.out, Lib.hid ?_, Lib.hid ((HB.out.trans (hb4.mono hbs)).trans hbel5)⟩
            rw [HGK.out, ← byteCells_app]; exact hb5
        · have hg1 : gs = [] := List.eq_nil_of_length_eq_zero (by omega)
          by_cases hk0 : 0 < k
          · have hgk : gf k = [32] := by
              obtain ⟨j, rfl⟩ : ∃ j, k = j + 1 := ⟨k - 1, by omega⟩
              rw [← HGF.out, hg1]; rfl
            have HGK := Lib.hid hgk
            clear hgk hg1
            go_wp2_with fail
            have hlb : (Lib.byteCells (textTo gf ws k)).length + 1 ≤ 140737488355328 := by rw [Lib.byteCells_length]; omega
            refine (write_byte_k _ _ _ _ _ HBL.out hlb (by omega)).mono ?_
            rintro e w5 ⟨rfl, hb5, hbel5, hok5⟩
            go_wp2_with fail
            go_meet
            case rel =>
              refine ⟨own_others HAT.out hok5 (by decide) HNB.out, Lib.hid ?_, Lib.hid (HB.out.trans hbel5)⟩
              rw [HGK.out, ← byteCells_app]; exact hb5
          · obtain rfl : k = 0 := by omega
            have hgk : gf 0 = [] := by rw [← HGF.out, hg1]; rfl
            have HGK := Lib.hid hgk
            clear hgk hg1
            go_wp2_with fail
            go_meet
            case rel => exact ⟨HAT.out, by rw [HGK.out, List.append_nil]; exact HBL, HB⟩
      case rest =>
        obtain ⟨hat1, HBL1, HB1⟩ := hcut
        have HAT1 := Lib.hid hat1
        have hsc := HB1.out.size
        have hgl : (gf k).length ≤ 8 := by rw [← HGF.out]; exact gapF_len gs k
        have hbl0 : (Lib.byteCells (textTo gf ws k ++ gf k)).length = (textTo gf ws k).length + (gf k).length := by rw [Lib.byteCells_length, List.length_append]
        have hn400 : k < 40 := by omega
        have HBL0 := Lib.hid hbl0
        clear hat1 hbl0
        have hd1 := (HB1.out.cell (p := ⟨g, k, none⟩) hg2).trans HCELL.out
        go_wp2_with fail
        refine (Tryd.Builder_Len_f _ _ _ _ HBL1.out).mono ?_
        rintro e w' ⟨rfl, rfl⟩
        rw [HBL0.out]
        obtain ⟨bl, hble⟩ : ∃ bl, (textTo gf ws k).length + (gf k).length = bl := ⟨_, rfl⟩
        rw [hble]
        have HBLE := Lib.hid hble
        have hbl8 : bl ≤ 20 * k + 8 := by omega
        clear hble
        go_wp2_with (at_builtin; refine wpList_append_own_at _ rfl _ _ 45 rfl w2.heap.size 3 i0 (.int .i64 0) 1 8 Tryd.underlying45 hi hz0 hz1 hz2 rfl (by decide) _ _ _ rfl (HAT1.out.alloc _) ⟨_, 0, none⟩ 1 1 [.int .i64 (bl : Int)] rfl rfl (cell_one_new _ _ _) (by simp [Value.oneCell']) (by unfold maxLen; omega) (by omega) (by simp; omega) ?_; intro v' w4 hown' hgrow hnl hat)
        clear hnl hat
        have hBa := builder_below HBL1.out ((Below.refl _ _).alloc (Nat.le_refl _) (.cells #[.int .i64 (bl : Int)] 3))
        have hHa := HAT1.out.alloc (.cells #[.int .i64 (bl : Int)] 3)
        have hBK := builder_grown hBa hgrow (fun g hg => ⟨fun e => HNB.out (by rw [← e]; exact hg), by obtain ⟨c', fz, h'⟩ := own_type hHa g hg; exact ⟨c', 3, fz, h', by decide⟩⟩)
        have hNB1 := own_not_builder hown' hBK (by decide)
        have hgz := hgrow.size
        have hB4 : Below w2.heap.size w2 w4 := (HB1.out.alloc hsc _).grown hgrow (by simp; omega) (fun g' hg' => own_lt HAT1.out g' hg')
        have hs4 := hB4.size
        have hwl : (wordS n).size ≤ 12 := by rw [← size_list, wordS_list]; exact wordOf_len n
        have hlb : (Lib.byteCells (textTo gf ws k ++ gf k)).length + (wordS n).size ≤ 140737488355328 := by rw [Lib.byteCells_length, List.length_append]; omega
        have HGROW := Lib.hid hgrow
        have HOWN := Lib.hid hown'
        have HNB1 := Lib.hid hNB1
        have HB4 := Lib.hid hB4
        clear hgrow hown' hNB1 hB4 hBa hHa
        refine (write_string_k _ _ _ _ _ hBK hlb (by omega)).mono ?_
        rintro e w5 ⟨rfl, hb5, hbel5, hok5⟩
        have hown5 := Lib.hid (own_others HOWN.out hok5 (by decide) HNB1.out)
        have hNB5 := own_not_builder hown5.out hb5 (by decide)
        have HB5 := Lib.hid (HB4.out.trans hbel5)
        go_wp2_with fail
        go_roundw
        case rel =>
          refine ⟨k + 1, by omega, by go_num, ?_, hNB5, Lib.hid ?_, HB5⟩
          · rw [hta.out, List.map_append, List.map_singleton, HBLE.out]; exact hown5.out
          · rw [hst.out]
            rw [strCells_list, byteCells_app, wordS_list] at hb5
            exact hb5
        case measure => simp [intOf]; omega
    · obtain rfl : k = ns.length := by omega
      have hsb := HB.out.size
      have hwl : ws.length = ns.length := by rw [← HWS.out, List.length_map]
      have hta := textTo_all gf ws
      rw [hwl] at hta
      have hlt := HLT.out ns.length
      obtain ⟨T, hT⟩ : ∃ T : ByteArray, T.data.toList = textTo gf ws ns.length := ⟨⟨(textTo gf ws ns.length).toArray⟩, by simp⟩
      have hTs : T.size ≤ 800 := by rw [← size_list, hT]; omega
      have htx : TextOf T gf ws := by
        have := text_of T gs ns (by rw [HGF.out, HWS.out, hT, hta])
        rwa [HGF.out, HWS.out] at this
      rw [List.take_of_length_le (by omega)] at hat
      have hBF := back_facts T gf ns (by rw [HWS.out]; exact htx) hn40
      rw [HWS.out] at hBF
      obtain ⟨at_, hatE⟩ : ∃ at_, atL gf ws = at_ := ⟨_, rfl⟩
      rw [hatE] at hBF hat
      have hTe : (⟨(textTo gf ws ns.length).toArray⟩ : ByteArray) = T := by
        apply ByteArray.ext
        apply Array.toList_inj.1
        rw [hT]
      have hsc := fun w => scan_toks T (by omega) w
      rw [hBF.e1, hBF.s1, hBF.l1, hBF.len] at hsc
      have htd := fun w => tidy_any T w (by omega)
      rw [hBF.e1, hBF.s1] at htd
      have htd2 := fun w => tidy_any (tidyS T) w hBF.z2
      rw [hBF.e2, hBF.t2] at htd2
      have hjn := fun w h => join_any (.slice AW ns.length cW) (ns.map wordS) w1.heap.size w h (by rw [List.length_map]; omega) (by
        have h1 := congrArg (fun b : ByteArray => b.data.toList.length) hBF.join
        have h2 := hBF.z2
        rw [← size_list] at h2
        simp only at h1
        omega)
      rw [hBF.join, List.length_map, List.map_map] at hjn
      have HBF := Lib.hid hBF
      have HSC := Lib.hid hsc
      have HTD := Lib.hid htd
      have HTD2 := Lib.hid htd2
      have HJN := Lib.hid hjn
      have HAT := Lib.hid hat
      have HTE := Lib.hid hTe
      clear hBF hsc htd htd2 hjn hat hTe hT htx hta hatE hwl hlt
      go_wp2_with fail
      refine (Tryd.Builder_String_any_k _ _ _ _ HBL.out (by omega)).mono ?_
      rintro e w5 ⟨rfl, _, hbel5, hok5⟩
      rw [HTE.out]
      have hat5 := Lib.hid (own_others HAT.out hok5 (by decide) HNB.out)
      have B5 := Lib.hid (HB.out.trans hbel5)
      clear hbel5 hok5
      go_wp2_with fail
      refine (HSC.out _).mono ?_
      rintro e w6 ⟨A6, c6, rfl, hT6, hb6⟩
      have hat6 := Lib.hid (own_below hat5.out hb6)
      have B6 := Lib.hid (B5.out.trans (hb6.mono B5.out.size))
      have HT6 := Lib.hid hT6
      clear hT6 hb6
      go_wp2_with fail
      refine (HTD.out _).mono ?_
      rintro e w7 ⟨rfl, hb7⟩
      have hat7 := Lib.hid (own_below hat6.out hb7)
      have B7 := Lib.hid (B6.out.trans (hb7.mono B6.out.size))
      have HT7 := Lib.hid (HT6.out.below hb7)
      clear hb7
      go_wp2_with fail
      refine (HTD2.out _).mono ?_
      rintro e w8 ⟨rfl, hb8⟩
      have hat8 := Lib.hid (own_below hat7.out hb8)
      have B8 := Lib.hid (B7.out.trans (hb8.mono B7.out.size))
      have HT8 := Lib.hid (HT7.out.below hb8)
      have hr8 := own_below HR.out B8.out
      clear hb8
      have q1 : ((0 : Int) + 0 + 0 != 0) = false := by decide
      go_wp2_with fail
      refine (HJN.out _ hr8).mono ?_
      rintro e w9 ⟨rfl, hb9⟩
      have hat9 := Lib.hid (own_below hat8.out hb9)
      have B9 := Lib.hid (B8.out.trans (hb9.mono B8.out.size))
      have HT9 := Lib.hid (HT8.out.below hb9)
      have HR9 := Lib.hid (own_below HR.out B9.out)
      have hz9 := B9.out.size
      clear hb9 hr8
      go_wp2_with fail
      go_loopw [20, 115] (fun f i wr => ∃ k : Nat, k ≤ ns.length ∧ i = .int .i64 k ∧ f = .int .i64 (fromOf T 0 at_ k : Nat) ∧ Hid (Below w9.heap.size w9 wr)) (fun _ i _ => ns.length - (intOf i).toNat)
      case atStart => exact ⟨0, by omega, rfl, rfl, Lib.hid (Below.refl _ _)⟩
      case round =>
        obtain ⟨k, hk, rfl, rfl, HB⟩ := hrel
        by_cases hlt : k < ns.length
        · obtain ⟨n, hn⟩ : ∃ n, ns[k]? = some n := ⟨_, List.getElem?_eq_getElem hlt⟩
          obtain ⟨p, hp⟩ : ∃ p, at_[k]? = some p := ⟨_, List.getElem?_eq_getElem (by have := HBF.out.len; omega)⟩
          obtain ⟨f1, f2, f3, f4, f5, f6⟩ := HBF.out.tok k n p hn hp
          obtain ⟨g, rfl, hg, c0, c1, c2⟩ := HT9.out.2.2 k p hp
          obtain ⟨gw, rfl, _, hgw, x0⟩ := (slice_vals HR9.out) k (.string (wordS n)) (by rw [List.getElem?_map, hn]; rfl)
          obtain ⟨q, cq, rfl, hqc, hqx⟩ := slice_of_own hat9.out
          obtain ⟨gq, rfl, _, hgq, y0⟩ := hqx k (.int .i64 (p : Int)) (by rw [List.getElem?_map, hp]; rfl)
          have hsz := HB.out.size
          have d0 := (HB.out.cell (p := ⟨g, k * 3, none⟩) hg).trans c0
          have d1 := (HB.out.cell (p := ⟨g, k * 3 + 1, none⟩) hg).trans c1
          have d2 := (HB.out.cell (p := ⟨g, k * 3 + 2, none⟩) hg).trans c2
          have dx := (HB.out.cell (p := ⟨gw, k, none⟩) hgw).trans x0
          have dy := (HB.out.cell (p := ⟨gq, k, none⟩) hgq).trans y0
          have htt := fun w => text_tok T p w (by omega)
          rw [f4] at htt
          have hnx := fun w => next_any T (fromOf T 0 at_ k) w (by omega) (by have := skipTo_ge T (fromOf T 0 at_ k); omega)
          rw [f6, show nxErr T p = 0 by unfold nxErr; rw [if_neg (by omega)]] at hnx
          unfold tokV at hnx
          have q2 : ((tkEnd T p : Int) != (p : Int) + ((wordS n).size : Int)) = false := by rw [f1]; simp
          have q3 : decide ((tkKind T p : Int) < 1) = false := by simp; omega
          have q4 : decide ((4 : Int) < (tkKind T p : Int)) = false := by simp; omega
          have hwl : (wordS n).size ≤ 12 := by rw [← size_list, wordS_list]; exact wordOf_len n
          have hwr : IntKind.i64.wrap ((p : Int) + ((wordS n).size : Int)) = (p : Int) + ((wordS n).size : Int) := IntWalk.i64_in _ (by omega)
          have hfo : fromOf T 0 at_ (k + 1) = tkEnd T p := by
            show tkEnd T (at_.getD k 0) = _
            rw [List.getD_eq_getElem?_getD, hp]; rfl
          have HTT := Lib.hid htt
          have HNX := Lib.hid hnx
          have HFO := Lib.hid hfo
          have hpT : p ≤ 800 := by omega
          have hkd := tkKind_le T p
          clear htt hnx hfo hqx hn hp c0 c1 c2 x0 y0 f1 f4 f6
          go_wp2_with fail
          go_region_held3 (fun w' => w'.cell? ⟨wr.heap.size, 0, none⟩ = some (.int .u8 (tkKind T p : Nat)) ∧ w'.cell? ⟨wr.heap.size, 1, none⟩ = some (.int .i64 (p : Int)) ∧ w'.cell? ⟨wr.heap.size, 2, none⟩ = some (.int .i64 (tkEnd T p : Nat)) ∧ w'.cell? ⟨gq, k, none⟩ = some (.int .i64 (p : Int)) ∧ w'.cell? ⟨gw, k, none⟩ = some (.string (wordS n)))
            (first | (go_split_ands; exact ⟨(hc3 wr.heap.size 0 (by simp)).trans (by first | assumption | (simp [*]; done)), (hc3 wr.heap.size 1 (by simp)).trans (by first | assumption | (simp [*]; done)), (hc3 wr.heap.size 2 (by simp)).trans (by first | assumption | (simp [*]; done)), (hc3 gq k (by simp; omega)).trans (by first | assumption | (simp [*]; done)), (hc3 gw k (by simp; omega)).trans (by first | assumption | (simp [*]; done))⟩) | go_keep)
            ((go_at_call 13; refine (HTT.out _).mono ?_; rintro e w11 ⟨rfl, hb3⟩; obtain ⟨hc3, hf3⟩ := bcell hb3))
          have hB3 : Below w9.heap.size w9 w11 := ((HB.out.alloc hsz _).drew).trans (hb3.mono (by simp; omega))
          have hz11 : wr.heap.size < w11.heap.size := by have := hb3.size; simp at this; omega
          have HB3 := Lib.hid hB3
          clear hB3
          go_wp2_with fail
          refine (HNX.out _).mono ?_
          rintro e w12 ⟨rfl, hb12⟩
          have e0 : w12.cell? ⟨wr.heap.size, 0, none⟩ = some (.int .u8 (tkKind T p : Nat)) := (hb12.cell (p := ⟨wr.heap.size, 0, none⟩) hz11).trans ((hc3 wr.heap.size 0 (by simp)).trans (by simp [go_sem]))
          have e1 : w12.cell? ⟨wr.heap.size, 1, none⟩ = some (.int .i64 (p : Int)) := (hb12.cell (p := ⟨wr.heap.size, 1, none⟩) hz11).trans ((hc3 wr.heap.size 1 (by simp)).trans (by simp [go_sem]))
          have e2 : w12.cell? ⟨wr.heap.size, 2, none⟩ = some (.int .i64 (tkEnd T p : Nat)) := (hb12.cell (p := ⟨wr.heap.size, 2, none⟩) hz11).trans ((hc3 wr.heap.size 2 (by simp)).trans (by simp [go_sem]))
          have hz12 := hb12.size
          have hz13 : wr.heap.size < w12.heap.size := by omega
          have HB12 := Lib.hid ((HB3.out.trans (hb12.mono HB3.out.size)).alloc (by have := HB3.out.size; omega) (.cells #[.int .u8 (tkKind T p : Nat), .int .i64 (p : Int), .int .i64 (tkEnd T p : Nat)] 29))
          go_wp2_with fail
          go_roundw
          case rel => exact ⟨k + 1, by omega, by go_num, by rw [HFO.out], HB12⟩
          case measure => simp [intOf]; omega
        · obtain rfl : k = ns.length := by omega
          have hsb := HB.out.size
          have hlast := HBF.out.last
          have hnx := fun w => next_any T (fromOf T 0 at_ ns.length) w (by omega) (by
            rcases Nat.lt_or_ge T.size (fromOf T 0 at_ ns.length) with h | h
            · have := skipTo_ge T (fromOf T 0 at_ ns.length); omega
            · exact h)
          rw [hlast, tkKind_end, tkEnd_end, show nxErr T T.size = 0 by unfold nxErr; rw [if_neg (by omega)]] at hnx
          unfold tokV at hnx
          have HNX := Lib.hid hnx
          clear hnx hlast
          go_wp2_with fail
          refine (HNX.out _).mono ?_
          rintro e w10 ⟨rfl, hb10⟩
          have hz10 := hb10.size
          go_wp2_with fail
          go_ret
          have hb11 := ((HB.out.trans (hb10.mono hsb)).alloc (by omega) (.cells #[.int .u8 0, .int .i64 (T.size : Int), .int .i64 (T.size : Int)] 29))
          exact ⟨rfl, B2.out.trans ((B9.out.trans (hb11.mono hz9)).mono B2.out.size)⟩
end Go.Proofs.YtihigfpikiaaiaaDoor
