/- AnalyzeFollows: the walk. -/
import Derived.Test.YtoojmhjagipmdaaGreatQ30
import Derived.Test.YtoojmhjagipmdaaGreatQ31
import Derived.Test.YtoojmhjagipmdaaGreatQ32
namespace Go.Proofs.YtoojmhjagipmdaaGreat
open Go.RowKit

theorem cfRun_met {A : Arn} {T : Trl} {lv : Int} : ∀ (ls : List Int) (s s' : CSt), cfRun A T lv s ls = some s' → s'.met.length ≤ s.met.length + ls.length := by
  intro ls
  induction ls with
  | nil =>
    intro s s' h
    obtain rfl := Option.some.inj h
    exact Nat.le_refl _
  | cons l r ih =>
    intro s s' h
    unfold cfRun at h
    cases hs : cfStep A T lv s l with
    | none => rw [hs] at h; cases h
    | some s1 =>
      rw [hs] at h
      have h1 := ih s1 s' h
      have h2 : s1.met.length ≤ s.met.length + 1 := by
        unfold cfStep at hs
        split at hs
        · obtain rfl := Option.some.inj hs
          omega
        · split at hs
          · obtain rfl := Option.some.inj hs
            simp only
            split
            · simp
            · omega
          · split at hs
            · cases hs
            · obtain rfl := Option.some.inj hs
              simp only
              split
              · simp
              · omega
      simp only [List.length_cons]
      omega
theorem conf_met {A : Arn} {T : Trl} {id : Int} {x : Lrn} (h : confP A T id = (x, 0)) : x.met.length ≤ T.order.length := by
  unfold confP at h
  split at h
  · cases h
  · split at h
    · cases h
    · split at h
      · cases h
      · rename_i s hs
        have e : x = ⟨s.lits, T.backOf s.lits, T.levelsOf s.lits, s.hints.reverse ++ [id], sortI s.met⟩ := (congrArg Prod.fst h).symm
        rw [e]
        show (sortI s.met).length ≤ _
        rw [sortI_length]
        unfold cfEnd at hs
        have := cfRun_met _ _ _ hs
        simp only [List.length_nil, List.length_reverse] at this
        omega
theorem LrnAt.mono {n m : Nat} {w : World} {v : Value} {x : Lrn} (h : LrnAt n w v x) (hm : m ≤ n) : LrnAt m w v x := by
  obtain ⟨a, b, c, rfl, h1, h2, h3⟩ := h
  exact ⟨a, b, c, rfl, own_mono h1 hm, own_mono h2 hm, own_mono h3 hm⟩
theorem LrnAt.below {n : Nat} {w w' : World} {v : Value} {x : Lrn} (h : LrnAt n w v x) (k : Below w.heap.size w w') : LrnAt n w' v x := by
  obtain ⟨a, b, c, rfl, h1, h2, h3⟩ := h
  exact ⟨a, b, c, rfl, own_below h1 k, own_below h2 k, own_below h3 k⟩
theorem LrnAt.kept {O : Nat → Prop} {n : Nat} {w w' : World} {v : Value} {x : Lrn} (h : LrnAt n w v x) (k : Kept O w w') (hO : ∀ g, n ≤ g → ¬ O g) : LrnAt n w' v x := by
  obtain ⟨a, b, c, rfl, h1, h2, h3⟩ := h
  exact ⟨a, b, c, rfl, own_kept h1 k (fun g hg => hO g (own_lt h1 g hg).1), own_kept h2 k (fun g hg => hO g (own_lt h2 g hg).1), own_kept h3 k (fun g hg => hO g (own_lt h3 g hg).1)⟩
theorem LrnAt.ints {n m c : Nat} {w w' : World} {A : Option Addr} {B L : Int} {b' c' : Value} {x : Lrn} (h : LrnAt n w (.agg #[.slice A m c, .int .i64 B, .int .i64 L, b', c']) x) (k : Below w.heap.size w w') : IntsIn (fun g => n ≤ g) w' (.slice A m c) x.lits := by
  obtain ⟨a, b, c2, hv, h1, _, _⟩ := h
  simp only [Value.agg.injEq, Array.mk.injEq, List.cons.injEq, and_true] at hv
  obtain ⟨rfl, _⟩ := hv
  exact ((IntsIn.of_own h1).below k).mono (fun g hg => hg.1)
/-- what is learned in a variable -/
structure YAt (wc wx : World) (yb : Nat) (y : Lrn) (a b c : Value) : Prop where
  box : wx.heap[yb]? = some (.cells #[a, .int .i64 y.back, .int .i64 y.levels, b, c] 65 (0, 0))
  lrn : LrnAt wc.heap.size wx (.agg #[a, .int .i64 y.back, .int .i64 y.levels, b, c]) y
  hb : Below wc.heap.size wc wx
  le : wc.heap.size ≤ yb
theorem YAt.kept {O : Nat → Prop} {wc w w' : World} {yb : Nat} {y : Lrn} {a b c : Value} (h : YAt wc w yb y a b c) (k : Kept O w w') (hO : ∀ g, wc.heap.size ≤ g → ¬ O g) : w'.heap[yb]? = some (.cells #[a, .int .i64 y.back, .int .i64 y.levels, b, c] 65 (0, 0)) ∧ LrnAt wc.heap.size w' (.agg #[a, .int .i64 y.back, .int .i64 y.levels, b, c]) y :=
  ⟨(k.block _ (heap_lt h.box) (hO _ h.le)).trans h.box, h.lrn.kept k hO⟩
theorem YAt.below {wc w w' : World} {yb : Nat} {y : Lrn} {a b c : Value} (h : YAt wc w yb y a b c) (k : Below w.heap.size w w') : YAt wc w' yb y a b c :=
  ⟨(k.block _ (heap_lt h.box)).trans h.box, h.lrn.below k, h.hb.trans (k.mono h.hb.size), h.le⟩
theorem backed_few (T : Trl) (j : Int) : (T.backed j).order.length ≤ T.order.length := by
  unfold Trl.backed
  split
  · show (T.order.take _).length ≤ _
    rw [List.length_take]
    omega
  · exact Nat.le_refl _
/-- where nothing is left, the empty clause is added -/
theorem learn_zero {cs : List (List Int)} {T : Trl} {its : List RIt} {S : Wst} {id lv : Int} {c : List Int} {x : Lrn} {R K : List Nat} (hst : St (clsC cs) T its S) (h6 : Six cs) (hlen : cs.length < 900) (h : ConfO (clsC cs) T its id c lv x R K) (hlv : lv = 0) :
    x.lits = [] ∧ Six (cs ++ [x.lits]) ∧ T.backErr x.back = 0 ∧ (addW (addAll arn0 0 (cs ++ [x.lits])) (T.backed x.back) (backS T S x.back) ((cs.length : Int) + 1)).err = 0 := by
  have hl : x.lits = [] := by rw [h.lits, h.none hlv]; rfl
  have hb : x.back = 0 := by rw [h.back, hl]; rfl
  have h6' : Six (cs ++ [x.lits]) := by
    refine ⟨by rw [List.length_append, List.length_singleton]; omega, fun d hd => ?_⟩
    rcases List.mem_append.1 hd with hd | hd
    · exact h6.2 d hd
    · rw [List.mem_singleton.1 hd, hl]
      exact ⟨Nat.zero_le _, fun y hy => by cases hy⟩
  refine ⟨hl, h6', ?_, ?_⟩
  · have := hst.sim.now
    have := now_eq (T := T)
    rw [hb]
    unfold Trl.backErr
    rw [if_neg (by omega)]
  · have hk0 : (backS T S x.back).kn ((cs.length : Int) + 1) = none := by
      show S.kn ((cs.length : Int) + 1) = none
      cases hk : S.kn ((cs.length : Int) + 1) with
      | none => rfl
      | some k =>
        obtain ⟨d, hd, _⟩ := hst.inv.kn _ k hk
        rw [clsC_past] at hd
        cases hd
    have hget : (addAll arn0 0 (cs ++ [x.lits])).get ((cs.length : Int) + 1) = some x.lits := (get_cls h6' _).trans (clsC_last cs x.lits)
    unfold addW
    rw [hk0]
    simp only []
    rw [hget]
    simp only []
    rw [if_neg (by rw [hl]; simp)]
    exact addOk_err _ _ _ _
/-- a struct of five cells is stored -/
theorem five_set {w5 : World} {yb : Nat} {z0 z1 z2 z3 z4 : Value} {t : TypeId} (hb : w5.heap[yb]? = some (.cells #[z0, z1, z2, z3, z4] t (0, 0))) (a0 a1 a2 a3 a4 : Value) : ∃ wy, (((((w5.setCell ⟨yb, 0, none⟩ a0).setCell ⟨yb, 1, none⟩ a1).setCell ⟨yb, 2, none⟩ a2).setCell ⟨yb, 3, none⟩ a3).setCell ⟨yb, 4, none⟩ a4) = wy ∧ wy.heap[yb]? = some (.cells #[a0, a1, a2, a3, a4] t (0, 0)) ∧ Kept (fun g => g = yb) w5 wy := by
  refine ⟨_, rfl, ?_, ?_⟩
  · have h1 := mx_set hb (j := 0) a0
    have h2 := mx_set h1 (j := 1) a1
    have h3 := mx_set h2 (j := 2) a2
    have h4 := mx_set h3 (j := 3) a3
    have h5 := mx_set h4 (j := 4) a4
    exact h5
  · exact (((((Kept.refl (fun g => g = yb) w5).setCell ⟨yb, 0, none⟩ a0 rfl).setCell ⟨yb, 1, none⟩ a1 rfl).setCell ⟨yb, 2, none⟩ a2 rfl).setCell ⟨yb, 3, none⟩ a3 rfl).setCell ⟨yb, 4, none⟩ a4 rfl
set_option maxRecDepth 100000 in
set_option maxHeartbeats 8000000 in
theorem follows_any (v0 v1 : Value) (x : List (List Int)) (l : List Int) (w : World) (h0 : RowsAt .i8 w v0 x) (h1 : RowAt .i8 w v1 l) :
    Calls Tryz.prog 5 #[v0, v1] w fun e w' => e = .returned (.bool true) ∧ Below w.heap.size w w' := by
  obtain ⟨cs, hcs⟩ : ∃ cs, (x.take 14).map madeL = cs := ⟨_, rfl⟩
  have h6 : Six cs := by rw [← hcs]; exact six_made x 14 (by decide)
  have H0 := Lib.hid h0
  have H1 := Lib.hid h1
  have HCS := Lib.hid hcs
  obtain ⟨A0, c0, rfl, _⟩ := h0
  obtain ⟨A1, c1, rfl, hc1, hm1, hn1, hwf1, hx1⟩ := h1
  have HWF := Lib.hid hwf1
  have HX1 := Lib.hid hx1
  clear hcs hwf1 hx1 hn1
  go_enter Tryz.func5, Tryz.ntmps5
  go_wp2_with fail
  refine (awake_any w).mono ?_
  rintro e w1 ⟨rfl, hb1⟩
  have HB1 := Lib.hid hb1
  have HALL := Lib.hid (all_any _ x 14 w1 (H0.out.below hb1) (by decide))
  clear hb1
  go_wp2_with fail
  refine HALL.out.mono ?_
  rintro e w2 ⟨v, rfl, hcl, hb2⟩
  rw [HCS.out] at hcl
  have HB2 := Lib.hid (HB1.out.trans (hb2.mono HB1.out.size))
  have hca := hcl.cls
  obtain ⟨Av, cv, rfl, _⟩ := id hca
  have HBE := Lib.hid (law_begin Av cv cs w2 hca hcl.clsIn h6)
  clear hb2 hcl hca HALL HB1
  go_wp2_with fail
  refine HBE.out.mono ?_
  rintro e w3 ⟨sb, b, a, t, lab, T, its, S, id, av, us, rfl, hsr, hs, hnw⟩
  have HSR := Lib.hid hsr
  have HS := Lib.hid hs
  have HNW := Lib.hid (show T.now ≤ ((0 : Nat) : Int) from by rw [hnw]; exact Int.le_refl _)
  clear hsr hs hnw HBE
  go_wp2_with fail
  go_loopw [6, 7, 8] (fun iv okv kv wr => ∃ (k : Nat) (id : Int) (labr : Nat → Nat) (T : Trl) (its : List RIt) (S : Wst), kv = .int .i64 k ∧ iv = .int .i64 id ∧ okv = .bool true ∧ k ≤ 8 ∧ Hid (T.now ≤ k) ∧ Hid (SrAt w2 wr labr sb b a t (addAll arn0 0 cs) T S cs av us) ∧ Hid (Sr cs T its S id)) (fun _ _ kv _ => 9 - (intOf kv).toNat)
  case atStart => exact ⟨0, id, lab, T, its, S, rfl, rfl, rfl, by decide, HNW, HSR, HS⟩
  case round =>
    obtain ⟨k, id, labr, T, its, S, rfl, rfl, rfl, hk8, HNK, HL, HG⟩ := hrel
    obtain ⟨N, hN⟩ : ∃ N : Nat, min l.length 8 = N := ⟨_, rfl⟩
    have hNi : min (l.length : Int) 8 = (N : Int) := by omega
    have HNN := Lib.hid hN
    clear hN
    go_upto_region 5 with fail
    go_cut [34] (fun q wx => q = .bool (decide (id = 0) && decide (k < N)) ∧ wx = wr)
    case first =>
      by_cases hz : id = 0
      · have qz : (id == 0) = true := by simpa using hz
        go_wp2_with fail
        go_meet
        exact ⟨by rw [decide_eq_true hz]; rfl, rfl⟩
      · have qz : (id == 0) = false := by simpa using hz
        go_wp2_with fail
        go_meet
        exact ⟨by rw [decide_eq_false hz]; rfl, rfl⟩
    case rest =>
      obtain ⟨rfl, rfl⟩ := hcut
      obtain ⟨bb, hbb⟩ : ∃ bb, (decide (id = 0) && decide (k < N)) = bb := ⟨_, rfl⟩
      rw [hbb]
      have HBW := Lib.hid (HB2.out.trans (HL.out.lw.hb.mono HB2.out.size))
      cases bb with
      | true =>
        rw [Bool.and_eq_true, decide_eq_true_eq, decide_eq_true_eq] at hbb
        obtain ⟨hz, hkN⟩ := hbb
        have HG0 := Lib.hid (show Sr cs T its S 0 from by rw [← hz]; exact HG.out)
        have hkl : k < l.length := by have := HNN.out; omega
        have hk7 : k + 1 ≤ 8 := by have := HNN.out; omega
        obtain ⟨n, hnk⟩ := getElem_of hkl
        obtain ⟨g, o, rfl, hg, d0⟩ := HX1.out k n hnk
        have HMO := Lib.hid (made_sub g (o + k) (c1 - k) n wc (HWF.out n (List.mem_of_getElem? hnk)) (by omega) (by omega) (Nat.lt_of_lt_of_le hg HBW.out.size) ((HBW.out.cell (p := ⟨g, o + k, none⟩) hg).trans d0))
        have HYN := Lib.hid (madeLit_six n)
        have hwk : IntKind.i64.wrap ((k : Int) + 1) = (k : Int) + 1 := IntWalk.i64_in _ (by omega)
        clear hnk d0 hz hkN
        go_wp2_with fail
        refine HMO.out.mono ?_
        rintro e w9 ⟨gy, cy, rfl, hcy, hy, hb9⟩
        have HL9 := Lib.hid (HL.out.below hb9)
        have HDE := Lib.hid (law_decide14 (madeLit n) HL9.out HG0.out h6 HYN.out (by have := HNK.out; omega))
        clear hb9 HMO
        go_wp2_with fail
        refine HDE.out.mono ?_
        rintro e w10 ⟨lab10, T', its', S', id', rfl, hl10, hs10, hn10, _⟩
        have HL10 := Lib.hid hl10
        have HS10 := Lib.hid hs10
        have HN10 := Lib.hid (show T'.now ≤ ((k + 1 : Nat) : Int) from by have := HNK.out; omega)
        clear hl10 hs10 hn10 HDE HL9 hy
        go_wp2_with fail
        go_roundw
        case rel => exact ⟨k + 1, id', lab10, T', its', S', by go_num, rfl, rfl, hk7, HN10, HL10, HS10⟩
        case measure => simp [intOf]; omega
      | false =>
        clear hbb HNN HNK
        by_cases hid : id = 0
        · have qz : (id == 0) = true := by simpa using hid
          clear hid
          go_wp2_with fail
          go_ret
          exact ⟨rfl, HBW.out⟩
        · have qz : (id == 0) = false := by simpa using hid
          obtain ⟨c, hcc, hcf⟩ := HG.out.bad hid
          obtain ⟨y, lv, R, K, hcp, hco⟩ := conf_law HG.out.st.sim HG.out.st.inv.rs (fun j => get_cls h6 j) HG.out.dcs hcc hcf
          have HCO := Lib.hid hco
          have HCC := Lib.hid hcc
          have HNID := Lib.hid hid
          obtain ⟨f, hgf⟩ := good_facts HG.out.st.sim HG.out.st.vars h6 hcc hco
          have HGF := Lib.hid hgf
          have HMET := Lib.hid (conf_met hcp)
          have HCF := Lib.hid (fun W (hb : Below wc.heap.size wc W) => an_conflict a t (addAll arn0 0 cs) T id W (HL.out.below hb).lw.sys.ar (HL.out.below hb).lw.sys.tr)
          rw [hcp] at HCF
          obtain ⟨e0, e1, -, -⟩ := HL.out.cells
          have hsbl := HL.out.sblt
          clear hcc hcf hcp hco hgf hid
          go_upto_region 10 with fail
          go_cut [9, 10] (fun yp ev wx => ∃ yb, yp = .pointer (some ⟨yb, 0, none⟩) ∧ ev = .int .i64 0 ∧ Hid (∃ ya yb' yc, YAt wc wx yb y ya yb' yc))
          case first =>
            refine wp_region_held_drew (S := fun w' => Below wc.heap.size wc w') (by kernel_rfl) (mx_drew wc) (fun hS => ?_)
            obtain ⟨xD, hxD⟩ : ∃ z, wc.drew = z := ⟨_, rfl⟩
            rw [hxD] at hS ⊢
            clear hxD
            refine takeE 0 58 ?_
            refine takeE 1 59 ?_
            refine takeE 2 60 ?_
            refine takeF 3 61 (fun wq hSw => (hSw.cell (p := ⟨sb, 0, none⟩) hsbl).trans e0) ?_
            refine takeE 4 62 ?_
            refine takeE 5 63 ?_
            refine takeE 6 64 ?_
            refine takeF 7 65 (fun wq hSw => (hSw.cell (p := ⟨sb, 1, none⟩) hsbl).trans e1) ?_
            refine takeE 8 66 ?_
            refine wpAnyH_ready (rs := [9, 13]) (by kernel_rfl) (by simp) ?_
            refine AllReadyH.cons rfl (fun K hK => ?_) (AllReadyH.cons rfl (fun K hK => ?_) AllReadyH.nil)
            · go_simp
              refine (HCF.out _ hS).mono ?_
              rintro e w4 ⟨⟨v, rfl, hlr⟩, hbN⟩
              have hlr := hlr.mono hS.size
              have hSN := hS.trans (hbN.mono hS.size)
              have HLR := Lib.hid hlr
              obtain ⟨Ay1, cy1, Ay2, cy2, Ay3, cy3, rfl, -⟩ := hlr.parts
              clear hlr
              refine hK.out _ _ hSN (fun _ => ?_)
              clear hK hbN hS
              have hS := hSN
              clear hSN
              refine takeE 10 57 ?_
              refine takeE 11 68 ?_
              refine takeE 12 69 ?_
              refine ready1 13 (fun K hK => ?_)
              go_simp
              obtain ⟨w5, hw5⟩ : ∃ z, w4.alloc (.cells #[.slice none 0 0, .int .i64 0, .int .i64 0, .slice none 0 0, .slice none 0 0] 65) = z := ⟨_, rfl⟩
              have hb5 : Below w4.heap.size w4 w5 := by rw [← hw5]; exact mx_al _ _
              have hbk : w5.heap[w4.heap.size]? = some (.cells #[.slice none 0 0, .int .i64 0, .int .i64 0, .slice none 0 0, .slice none 0 0] 65 (0, 0)) := by rw [← hw5]; exact World.alloc_heap_new _ _
              rw [hw5]
              have hS5 := hS.trans (hb5.mono hS.size)
              refine hK.out _ _ hS5 (fun _ => ?_)
              clear hK
              obtain ⟨y0, y1, y2, y3, y4⟩ := (cells5 hbk).1
              have f0 := mx_free (j := 0) hbk
              have f1 := mx_free (j := 1) hbk
              have f2 := mx_free (j := 2) hbk
              have f3 := mx_free (j := 3) hbk
              have f4 := mx_free (j := 4) hbk
              refine ready1 14 (fun K hK => ?_)
              go_simp
              obtain ⟨wy, hwy, hby, hky⟩ := five_set hbk (.slice Ay1 y.lits.length cy1) (.int .i64 y.back) (.int .i64 y.levels) (.slice Ay2 y.hints.length cy2) (.slice Ay3 y.met.length cy3)
              rw [hwy]
              have hSy := hS5.trans (hky.below (fun i h => by rw [h]; exact hS.size) hS5.size)
              have HY := Lib.hid (show YAt wc wy w4.heap.size y (.slice Ay1 y.lits.length cy1) (.slice Ay2 y.hints.length cy2) (.slice Ay3 y.met.length cy3) from ⟨hby, HLR.out.below (hb5.trans (hky.below (fun i h => Nat.le_of_eq h.symm) hb5.size)), hSy, hS.size⟩)
              refine hK.out _ _ hSy (fun _ => ?_)
              clear hK hwy hby hky hb5 hbk y0 y1 y2 y3 y4 f0 f1 f2 f3 f4
              refine takeE 15 10 ?_
              refine wpAnyH_done (by kernel_rfl) ?_ _
              go_wp2_with fail
              go_meet
              exact ⟨_, rfl, rfl, Lib.hid ⟨_, _, _, HY.out⟩⟩
            · go_simp
              obtain ⟨w5, hw5⟩ : ∃ z, xD.alloc (.cells #[.slice none 0 0, .int .i64 0, .int .i64 0, .slice none 0 0, .slice none 0 0] 65) = z := ⟨_, rfl⟩
              have hb5 : Below xD.heap.size xD w5 := by rw [← hw5]; exact mx_al _ _
              have hbk : w5.heap[xD.heap.size]? = some (.cells #[.slice none 0 0, .int .i64 0, .int .i64 0, .slice none 0 0, .slice none 0 0] 65 (0, 0)) := by rw [← hw5]; exact World.alloc_heap_new _ _
              have hlt5 := heap_lt hbk
              have hxle := hS.size
              rw [hw5]
              have hS5 := hS.trans (hb5.mono hS.size)
              refine hK.out _ _ hS5 (fun _ => ?_)
              clear hK hS hw5
              refine ready1 9 (fun K hK => ?_)
              go_simp
              refine (HCF.out _ hS5).mono ?_
              rintro e w4 ⟨⟨v, rfl, hlr⟩, hbN⟩
              have hSN := hS5.trans (hbN.mono hS5.size)
              have HLR := Lib.hid hlr
              obtain ⟨Ay1, cy1, Ay2, cy2, Ay3, cy3, rfl, -⟩ := hlr.parts
              clear hlr
              refine hK.out _ _ hSN (fun _ => ?_)
              have hbk4 := (hbN.block _ hlt5).trans hbk
              clear hK hbN
              refine takeE 10 57 ?_
              refine takeE 11 68 ?_
              refine takeE 12 69 ?_
              obtain ⟨y0, y1, y2, y3, y4⟩ := (cells5 hbk4).1
              have f0 := mx_free (j := 0) hbk4
              have f1 := mx_free (j := 1) hbk4
              have f2 := mx_free (j := 2) hbk4
              have f3 := mx_free (j := 3) hbk4
              have f4 := mx_free (j := 4) hbk4
              refine ready1 14 (fun K hK => ?_)
              go_simp
              obtain ⟨wy, hwy, hby, hky⟩ := five_set hbk4 (.slice Ay1 y.lits.length cy1) (.int .i64 y.back) (.int .i64 y.levels) (.slice Ay2 y.hints.length cy2) (.slice Ay3 y.met.length cy3)
              rw [hwy]
              have hSy := hSN.trans (hky.below (fun i h => by rw [h]; exact hxle) hSN.size)
              have HY := Lib.hid (show YAt wc wy xD.heap.size y (.slice Ay1 y.lits.length cy1) (.slice Ay2 y.hints.length cy2) (.slice Ay3 y.met.length cy3) from ⟨hby, (HLR.out.kept hky (fun g hg e => by omega)).mono hS5.size, hSy, hxle⟩)
              refine hK.out _ _ hSy (fun _ => ?_)
              clear hK hwy hby hky hb5 hbk hbk4 y0 y1 y2 y3 y4 f0 f1 f2 f3 f4
              refine takeE 15 10 ?_
              refine wpAnyH_done (by kernel_rfl) ?_ _
              go_wp2_with fail
              go_meet
              exact ⟨_, rfl, rfl, Lib.hid ⟨_, _, _, HY.out⟩⟩
          case rest =>
            obtain ⟨yb, rfl, rfl, HYX⟩ := hcut
            obtain ⟨ya, yb', yc, hy⟩ := HYX.out
            have hyl := hy.lrn
            obtain ⟨Ay1, cy1, Ay2, cy2, Ay3, cy3, hyv, -⟩ := hyl.parts
            simp only [Value.agg.injEq, Array.mk.injEq, List.cons.injEq, and_true, true_and] at hyv
            obtain ⟨rfl, rfl, rfl⟩ := hyv
            obtain ⟨y0, y1, y2, y3, y4⟩ := (cells5 hy.box).1
            have h10 := HL.out.below hy.hb
            have hfew := HG.out.st.sim.few HG.out.st.vars
            have HGD := Lib.hid (law_good _ h10 h6 hfew HGF.out ((get_cls h6 id).trans HCC.out) HCO.out.max hyl (by have := HMET.out; omega))
            have HY := Lib.hid hy
            have HYL := Lib.hid hyl
            have H10 := Lib.hid h10
            clear h10 hyl hy HYX HCF e0 e1
            go_wp2_with fail
            refine HGD.out.mono ?_
            rintro e w7 ⟨rfl, hb7⟩
            have H7 := Lib.hid (H10.out.below hb7)
            have HY7 := Lib.hid (HY.out.below hb7)
            have HYL7 := Lib.hid (HYL.out.below hb7)
            clear hb7 HGD H10 HY HYL y0 y1 y2 y3 y4
            obtain ⟨y0, y1, y2, y3, y4⟩ := (cells5 HY7.out.box).1
            have hlab := HL.out.lw.sys.lt
            have hrow := HL.out.row
            have hlen9 : cs.length < 900 := by
              have h2 := HCS.out
              rw [← h2, List.length_map, List.length_take]
              omega
            by_cases hlv : lv = 0
            · obtain ⟨z1, z2, z3, z4⟩ := learn_zero HG.out.st h6 hlen9 HCO.out hlv
              have HLN := Lib.hid (law_learn _ H7.out HG.out.st z2 hlen9 HYL7.out hlab hsbl (fun g hg => (own_lt hrow g hg).2) z3 _ rfl z4 (.inr z1) HG.out.st.inv.link (Nat.le_trans (backed_few T y.back) hfew))
              have q0 : ((y.lits.length : Int) == 0) = true := by rw [z1]; rfl
              clear z1 z2 z3 z4 hlv
              go_wp2_with fail
              refine HLN.out.mono ?_
              rintro e w8 ⟨rfl, ⟨lab8, av8, us8, h8⟩, hk8⟩
              obtain ⟨x0, -⟩ := (cells5 (HY7.out.kept hk8 (fun g hg hh => by
                rcases hh with hh | hh | hh
                · have := hlab g hh
                  omega
                · omega
                · have := (own_lt hrow g hh).2
                  omega)).1).1
              have HBF := Lib.hid (HB2.out.trans (h8.lw.hb.mono HB2.out.size))
              clear h8 hk8 hlab hrow y0 y1 y2 y3 y4 HLN
              go_wp2_with fail
              go_ret
              exact ⟨rfl, HBF.out⟩
            · obtain ⟨its1, l0, ho⟩ := sr_learn HG.out HNID.out h6 hlen9 HCC.out HCO.out hlv
              obtain ⟨W, hW⟩ : ∃ W, addW (addAll arn0 0 (cs ++ [y.lits])) (T.backed y.back) (backS T S y.back) ((cs.length : Int) + 1) = W := ⟨_, rfl⟩
              rw [hW] at ho
              have HO := Lib.hid ho
              have HLN := Lib.hid (law_learn _ H7.out HG.out.st ho.six hlen9 HYL7.out hlab hsbl (fun g hg => (own_lt hrow g hg).2) ho.berr W hW ho.err (.inl ho.res) HG.out.st.inv.link (Nat.le_trans (backed_few T y.back) hfew))
              obtain ⟨rr, hrr⟩ := ho.head
              have q0 : ((y.lits.length : Int) == 0) = false := by
                rw [hrr]
                simp
                omega
              have hl0 : y.lits[0]? = some l0 := by rw [hrr]; rfl
              have hlp : 0 < y.lits.length := by rw [hrr]; simp
              obtain ⟨N1, hN1⟩ : ∃ N1, its1.length = N1 := ⟨_, rfl⟩
              have hord : W.T.order = its1.map RIt.lit ++ [l0] := by rw [ho.st.sim.order, List.map_append]; rfl
              obtain ⟨N2, hN2⟩ : ∃ N2, W.T.order.length = N2 := ⟨_, rfl⟩
              have hN12 : N2 = N1 + 1 := by rw [← hN2, ← hN1, hord]; simp
              have hf2 := ho.st.sim.few ho.st.vars
              rw [hN2] at hf2
              obtain ⟨f1, hf1, hff1⟩ := k_its (fun x hx => ho.st1.sim.litb hx) ho.st1.sim.nodup
              have hlk1 : lookF f1 y.lits = (3, l0) := by
                have hlr := HGF.out.litr
                refine k_unit (by rw [hrr]; exact List.mem_cons_self) ?_ (fun z hz hne => ((hff1 z (hlr z hz).1).2).2 (ho.fal z hz hne)) (fun z hz => by
                  have := (litB_iff z).1 (hlr z hz).1
                  omega)
                have h1 := hff1 l0 (hlr l0 (by rw [hrr]; exact List.mem_cons_self)).1
                have h2 := ho.val
                have h3 : ¬ 0 < ofF f1 l0 := fun h => by
                  have := sim_tru ho.st1.sim (h1.1.1 h)
                  omega
                have h4 : ¬ ofF f1 l0 < 0 := fun h => by
                  obtain ⟨p, z, hz, e⟩ := h1.2.1 h
                  have := (at_fal ho.st1.sim hz e).2.2.1
                  omega
                omega
              have HLK := Lib.hid hlk1
              have HF1 := Lib.hid hf1
              have HTK := Lib.hid (show W.T.order.take N1 = its1.map RIt.lit from by rw [hord, ← hN1]; simp)
              have HV1 := Lib.hid (show W.T.val l0 = 1 from sim_tru ho.st.sim ⟨its1.length, ⟨l0, (cs.length : Int) + 1, y.back⟩, by simp, rfl⟩)
              have HNW := Lib.hid (show (W.T.starts.length : Int) - 1 = y.back from ho.now)
              have HN2 := Lib.hid hN2
              clear ho hlv hrr hN1 hord hN2 hff1 hlk1 hf1 hW
              go_wp2_with fail
              refine HLN.out.mono ?_
              rintro e w8 ⟨rfl, ⟨lab8, av8, us8, h8⟩, hk8⟩
              obtain ⟨hbx8, hyl8⟩ := HY7.out.kept hk8 (fun g hg hh => by
                rcases hh with hh | hh | hh
                · have := hlab g hh
                  omega
                · omega
                · have := (own_lt hrow g hh).2
                  omega)
              obtain ⟨x0, x1, -, -, -⟩ := (cells5 hbx8).1
              obtain ⟨-, e1, -, -⟩ := h8.cells
              have HBX8 := Lib.hid hbx8
              have HYL8 := Lib.hid hyl8
              have H8 := Lib.hid h8
              have HAS := Lib.hid (law_assigned14 t W.T w8 h8.lw.sys.tr (by rw [HN2.out]; omega))
              rw [HN2.out] at HAS
              clear h8 hk8 hlab hrow y0 y1 y2 y3 y4 HLN hbx8 hyl8 HY7 HYL7 H7
              go_wp2_with fail
              refine HAS.out.mono ?_
              rintro e w9 ⟨va, rfl, hra, hb9⟩
              obtain ⟨An, cn, rfl, hcn⟩ := mx_slice hra
              have HB9 := Lib.hid hb9
              obtain ⟨v0, v1, -, -, -⟩ := (cells5 ((hb9.block yb (heap_lt HBX8.out)).trans HBX8.out)).1
              have hyb9 : yb < w9.heap.size := Nat.lt_of_lt_of_le (heap_lt HBX8.out) hb9.size
              have hia := IntsIn.of_own (show w9.ownsRow w8.heap.size 32 1 (.slice An N2 cn) W.T.order.length (W.T.order.map (Value.int .i64)) from by rw [HN2.out]; exact hra)
              have q1 : IntKind.i64.wrap ((N2 : Int) - 1) = (N1 : Int) := by rw [IntWalk.i64_in _ (by omega)]; omega
              have q2 : max (N1 : Int) 0 = (N1 : Int) := by omega
              have hncn : N1 ≤ cn := by omega
              have HSB := Lib.hid (fun (Wd : World) (hb : Below w9.heap.size w9 Wd) => (hia.below hb))
              have q3 : (N1 : Int) ≤ (cn : Int) := by omega
              have q4 : N1 ≤ N2 := by omega
              clear hra hb9 HAS x0 x1 e1 hN12
              go_upto_region 16 with fail
              refine wp_region_held_drew (S := fun w' => Below w9.heap.size w9 w') (by kernel_rfl) (mx_drew w9) (fun hS => ?_)
              refine takeE 0 95 ?_
              refine takeF 1 96 (fun wq hSw => (hSw.cell (p := ⟨yb, 0, none⟩) hyb9).trans v0) ?_
              refine takeE 2 97 ?_
              refine takeE 3 98 ?_
              refine takeE 4 99 ?_
              refine takeE 5 100 ?_
              refine takeE 6 101 ?_
              refine takeE 7 102 ?_
              refine ready1 8 (fun K hK => ?_)
              go_simp
              have hlkw := rup_Look (.slice Ay1 y.lits.length cy1) (.slice An N1 cn) y.lits (W.T.order.take N1) _ (HYL8.out.ints (HB9.out.trans (hS.mono HB9.out.size))) ((HSB.out _ hS).take (by rw [HN2.out]; exact q4)) HGF.out.litb f1 (by rw [HTK.out]; exact HF1.out) (clause_len HGF.out.litb) (by rw [List.length_take]; omega)
              rw [HLK.out] at hlkw
              have HLKW := Lib.hid hlkw
              clear hlkw
              refine HLKW.out.mono ?_
              rintro e w10 ⟨rfl, hbN⟩
              have hSN := hS.trans (hbN.mono hS.size)
              refine hK.out _ _ hSN (fun _ => ?_)
              clear hK hbN hS
              have hS := hSN
              clear hSN HLKW
              refine takeE 9 94 ?_
              refine takeE 10 104 ?_
              refine takeE 11 105 ?_
              refine takeE 12 106 ?_
              refine takeE 13 12 ?_
              refine takeE 14 13 ?_
              refine takeE 15 10 ?_
              refine wpAnyH_done (by kernel_rfl) ?_ _
              have HB10 := Lib.hid (HB9.out.trans (hS.mono HB9.out.size))
              clear hS v0 v1
              have H10 := Lib.hid (H8.out.below HB10.out)
              obtain ⟨v0, v1, -, -, -⟩ := (cells5 ((HB10.out.block yb (heap_lt HBX8.out)).trans HBX8.out)).1
              obtain ⟨-, e1, -, -⟩ := H10.out.cells
              obtain ⟨A3, c3, hAc, _, _, hxc⟩ := HYL8.out.ints HB10.out
              simp only [Value.slice.injEq] at hAc
              obtain ⟨rfl, -, rfl⟩ := hAc
              obtain ⟨gx, ox, rfl, hgx, _, d0⟩ := hxc 0 l0 hl0
              have HVA := Lib.hid (fun (Wd : World) (hb : Below w10.heap.size w10 Wd) => tr_value t W.T l0 Wd (H10.out.below hb).lw.sys.tr)
              have HTN := Lib.hid (fun (Wd : World) (hb : Below w10.heap.size w10 Wd) => tr_now t W.T Wd (H10.out.below hb).lw.sys.tr)
              rw [HV1.out] at HVA
              rw [HNW.out] at HTN
              have hyb10 : yb < w10.heap.size := heap_lt ((HB10.out.block yb (heap_lt HBX8.out)).trans HBX8.out)
              have hsb10 := H10.out.sblt
              have hq0 : (0 : Int) < (y.lits.length : Int) := by omega
              have d0z : w10.cell? ⟨gx, ox, none⟩ = some (.int .i64 l0) := by simpa using d0
              clear hxc
              go_upto_region 17 with fail
              refine wp_region_held_drew (S := fun w' => Below w10.heap.size w10 w') (by kernel_rfl) (mx_drew w10) (fun hS => ?_)
              refine takeE 0 107 ?_
              refine takeE 1 108 ?_
              refine takeE 2 109 ?_
              refine takeE 3 110 ?_
              refine takeE 4 111 ?_
              refine takeE 5 112 ?_
              refine takeE 6 113 ?_
              refine takeE 7 114 ?_
              refine takeE 8 115 ?_
              refine takeF 9 116 (fun wq hSw => (hSw.cell (p := ⟨yb, 0, none⟩) hyb10).trans v0) ?_
              refine takeE 10 117 ?_
              refine takeF 11 118 (fun wq hSw => (hSw.cell (p := ⟨gx, ox, none⟩) hgx).trans d0z) ?_
              refine takeE 12 119 ?_
              refine takeE 13 120 ?_
              refine takeE 14 121 ?_
              refine takeE 15 122 ?_
              refine takeE 16 123 ?_
              refine takeE 17 124 ?_
              refine takeF 18 125 (fun wq hSw => (hSw.cell (p := ⟨sb, 1, none⟩) hsb10).trans e1) ?_
              refine takeE 19 126 ?_
              refine ready1 20 (fun K hK => ?_)
              go_simp
              refine (HVA.out _ hS).mono ?_
              rintro e w11 ⟨rfl, hbN⟩
              have hSN := hS.trans (hbN.mono hS.size)
              refine hK.out _ _ hSN (fun _ => ?_)
              clear hK hbN hS
              have hS := hSN
              clear hSN
              refine takeE 21 128 ?_
              refine takeE 22 129 ?_
              refine takeE 23 130 ?_
              refine takeE 24 131 ?_
              refine takeE 25 132 ?_
              refine takeE 26 133 ?_
              refine takeF 27 134 (fun wq hSw => (hSw.cell (p := ⟨sb, 1, none⟩) hsb10).trans e1) ?_
              refine takeE 29 136 ?_
              refine takeF 30 137 (fun wq hSw => (hSw.cell (p := ⟨yb, 1, none⟩) hyb10).trans v1) ?_
              refine ready1 28 (fun K hK => ?_)
              go_simp
              refine (HTN.out _ hS).mono ?_
              rintro e w' ⟨rfl, rfl⟩
              refine hK.out _ _ hS (fun _ => ?_)
              clear hK
              refine takeE 31 138 ?_
              refine takeE 32 139 ?_
              refine takeE 33 4 ?_
              refine wpAnyH_done (by kernel_rfl) ?_ _
              have HBF := Lib.hid (HB2.out.trans ((H10.out.below hS).lw.hb.mono HB2.out.size))
              go_wp2_with fail
              go_ret
              exact ⟨by simp, HBF.out⟩

end Go.Proofs.YtoojmhjagipmdaaGreat
