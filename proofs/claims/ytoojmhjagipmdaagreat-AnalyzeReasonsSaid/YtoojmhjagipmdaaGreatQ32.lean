/- package clauses: Without. awake (package salvorlaw14). -/
import Derived.Test.YtoojmhjagipmdaaGreatQ31
import Derived.Test.YtoojmhjagipmdaaGreatQ06
import Derived.Test.YtoojmhjagipmdaaGreatQ30
import Derived.Test.YtoojmhjagipmdaaGreatQ27
import Derived.Lib.SliceRun
import Derived.Test.YtoojmhjagipmdaaGreatQ23
namespace Go.Proofs.YtoojmhjagipmdaaGreat
open Go.RowKit

def restW (v : Int) (c : List Int) : List Int := c.filter fun l => decide (l ≠ v)
theorem without_one (q : Nat) (v x : Int) (w : World) (hq : w.cell? ⟨q, 0, none⟩ = some (.int .i64 v)) :
    Calls Tryz.prog 66 #[.int .i64 x, .pointer (some ⟨q, 0, none⟩)] w fun e w' => e = .returned (.bool (decide (x = v))) ∧ Below w.heap.size w w' := by
  obtain ⟨z, hz⟩ : ∃ z, decide (x = v) = z := ⟨_, rfl⟩
  have hz2 : (x == v) = z := by rw [← hz]; rfl
  rw [hz]
  clear hz
  go_enter Tryz.func66, Tryz.ntmps66
  go_wp2_with fail
  go_ret
  exact ⟨rfl, Below.refl _ _⟩
set_option maxRecDepth 100000 in
set_option maxHeartbeats 1000000 in
theorem index_without {Oc : Nat → Prop} (q : Nat) (v : Int) (u : Value) (xs : List Int) (w : World) (hq : w.cell? ⟨q, 0, none⟩ = some (.int .i64 v)) (h1 : IntsIn Oc w u xs) (hs : xs.length ≤ 4194304) :
    Calls Tryz.prog 113 #[u, .func (.func 66) #[] #[.pointer (some ⟨q, 0, none⟩)]] w fun e w' => (∃ i : Int, e = .returned (.int .i64 i) ∧ FstAt xs (fun l => decide (l = v)) i) ∧ Below w.heap.size w w' := by
  have HONE := Lib.hid (fun (W : World) (hb : Below w.heap.size w W) (x : Int) => without_one q v x W ((hb.cell (p := ⟨q, 0, none⟩) (World.block_lt_of_cell? w _ hq)).trans hq))
  have HX := Lib.hid h1
  obtain ⟨A, c, rfl, hc, _, _⟩ := h1
  go_enter Tryz.func113, Tryz.ntmps113
  go_wp2
  go_loopw [8] (fun i wr => ∃ k : Nat, k ≤ xs.length ∧ i = .int .i64 k ∧ Hid (∀ j x, j < k → xs[j]? = some x → ((fun l => decide (l = v))) x = false) ∧ Hid (Below w.heap.size w wr)) (fun i _ => xs.length - (intOf i).toNat)
  case atStart => exact ⟨0, Nat.zero_le _, rfl, Lib.hid (fun j x hj => by omega), Lib.hid (Below.refl _ _)⟩
  case round =>
    obtain ⟨k, hk, rfl, HE, HW⟩ := hrel
    by_cases hlt : k < xs.length
    · obtain ⟨x, hxk⟩ := getElem_of hlt
      obtain ⟨A', c', hAc, _, _, hxs⟩ := HX.out.below HW.out
      simp only [Value.slice.injEq, true_and] at hAc
      obtain ⟨rfl, rfl⟩ := hAc
      obtain ⟨g, o, rfl, hg, _, d1⟩ := hxs k x hxk
      have HXK := Lib.hid hxk
      have HC := Lib.hid (HONE.out wr HW.out x)
      clear hxk hxs
      obtain ⟨b, hb⟩ : ∃ b, ((fun l => decide (l = v))) x = b := ⟨_, rfl⟩
      have HB := Lib.hid hb
      simp only [] at hb
      rw [hb] at HC
      clear hb
      cases b with
      | true =>
        go_wp2_with fail
        refine HC.out.mono ?_
        rintro e w' ⟨rfl, hbw⟩
        have HB2 := Lib.hid (HW.out.trans (hbw.mono HW.out.size))
        clear hbw d1
        go_wp2
        go_ret
        exact ⟨⟨_, rfl, .inr ⟨k, rfl, hlt, HE.out, x, HXK.out, HB.out⟩⟩, HB2.out⟩
      | false =>
        go_wp2_with fail
        refine HC.out.mono ?_
        rintro e w' ⟨rfl, hbw⟩
        have HB2 := Lib.hid (HW.out.trans (hbw.mono HW.out.size))
        clear hbw d1
        go_wp2
        go_roundw
        case rel => exact ⟨k + 1, by omega, by go_num, Lib.hid (fun j y hj hy => by
          rcases Nat.lt_or_ge j k with h | h
          · exact HE.out j y h hy
          · obtain rfl : j = k := by omega
            rw [HXK.out] at hy
            obtain rfl := Option.some.inj hy
            exact HB.out), HB2⟩
        case measure => simp [intOf]; omega
    · obtain rfl : k = xs.length := by omega
      go_wp2
      go_ret
      exact ⟨⟨_, rfl, .inl ⟨rfl, fun x hx => by
        obtain ⟨j, hj⟩ := List.getElem?_of_mem hx
        exact HE.out j x (List.getElem?_eq_some_iff.1 hj).1 hj⟩⟩, HW.out⟩
/-- what is left of the first k -/
def keepW (v : Int) (c : List Int) (k : Nat) : List Int := restW v (c.take k)
theorem keepW_len (v : Int) (c : List Int) (k : Nat) : (keepW v c k).length ≤ k := by
  unfold keepW restW
  exact Nat.le_trans (List.length_filter_le _ _) (by rw [List.length_take]; omega)
theorem keepW_succ (v : Int) (c : List Int) (k : Nat) (x : Int) (hx : c[k]? = some x) : keepW v c (k + 1) = if x = v then keepW v c k else keepW v c k ++ [x] := by
  unfold keepW restW
  rw [List.take_add_one, hx]
  show (c.take k ++ [x]).filter _ = _
  rw [List.filter_append]
  split
  · rename_i h
    rw [List.filter_cons_of_neg (by simpa using h)]
    simp
  · rename_i h
    rw [List.filter_cons_of_pos (by simpa using h)]
    simp
theorem keepW_all (v : Int) (c : List Int) : keepW v c c.length = restW v c := by unfold keepW; rw [List.take_length]
theorem keepW_fst (v : Int) (c : List Int) (k : Nat) (h : ∀ j x, j < k → c[j]? = some x → decide (x = v) = false) : keepW v c k = c.take k := by
  unfold keepW restW
  refine List.filter_eq_self.2 (fun x hx => ?_)
  obtain ⟨j, hj, e⟩ := List.getElem_of_mem hx
  rw [List.length_take] at hj
  rw [List.getElem_take] at e
  have := h j x (by omega) (by rw [List.getElem?_eq_getElem (by omega), e])
  simpa using this
set_option maxRecDepth 100000 in
set_option maxHeartbeats 4000000 in
theorem delete_without (q base : Nat) (v : Int) (u : Value) (c : List Int) (w : World) (h : w.ownsRow base 32 1 u c.length (c.map (Value.int .i64))) (hq : w.cell? ⟨q, 0, none⟩ = some (.int .i64 v)) (hqb : q < base) (hbz : base ≤ w.heap.size) (hs : c.length ≤ 4194304) :
    Calls Tryz.prog 64 #[u, .func (.func 66) #[] #[.pointer (some ⟨q, 0, none⟩)]] w fun e w' => (∃ u', e = .returned u' ∧ IntsIn (fun g => base ≤ g) w' u' (restW v c)) ∧ Below base w w' := by
  have HQ := Lib.hid hq
  have hql := World.block_lt_of_cell? w _ hq
  have HIX := Lib.hid (index_without q v u c w hq (IntsIn.of_own h) hs)
  have HOW := Lib.hid h
  obtain ⟨Au, cu, rfl, hcu⟩ := mx_slice h
  clear h hq
  go_enter Tryz.func64, Tryz.ntmps64
  go_wp2_with fail
  refine HIX.out.mono ?_
  rintro e w1 ⟨⟨i, rfl, hi⟩, hb⟩
  have HB1 := Lib.hid hb
  have HO1 := Lib.hid (own_below HOW.out hb)
  clear hb HIX
  rcases hi with ⟨rfl, hno⟩ | ⟨i0, rfl, hil, hfst, x0, hx0, hp0⟩
  · have HR := Lib.hid (show restW v c = c from by
      unfold restW
      exact List.filter_eq_self.2 (fun x hx => by have := hno x hx; simpa using this))
    clear hno
    go_wp2_with fail
    go_ret
    exact ⟨⟨_, rfl, by rw [HR.out]; exact (IntsIn.of_own HO1.out).mono (fun g hg => hg.1)⟩, HB1.out.mono hbz⟩
  · obtain ⟨gu, cu', csu, hsl, _, hgb, hgl, _, _⟩ := mx_some HO1.out (by omega)
    simp only [Value.slice.injEq, true_and] at hsl
    obtain ⟨rfl, rfl⟩ := hsl
    have HK0 := Lib.hid (keepW_fst v c i0 hfst)
    have HK1 := Lib.hid (show keepW v c (i0 + 1) = keepW v c i0 from by rw [keepW_succ v c i0 x0 hx0, if_pos (by simpa using hp0)])
    have hkl : (keepW v c i0).length = i0 := by rw [HK0.out, List.length_take]; omega
    have HKL := Lib.hid hkl
    have q1 : ((i0 : Int) == -1) = false := by simp
    have w1' : IntKind.i64.wrap ((i0 : Int) + 1) = (i0 : Int) + 1 := IntWalk.i64_in _ (by omega)
    clear hfst hx0 hp0 hkl
    go_wp2_with fail
    go_loopw [5, 6, 7] (fun iv jv _ wr => ∃ (i j : Nat) (ys : List Int), i + 1 ≤ j ∧ j ≤ c.length ∧ iv = .int .i64 i ∧ jv = .int .i64 j ∧ Hid ((keepW v c j).length = i) ∧ Hid (ys.length = c.length) ∧ Hid (ys.take i = keepW v c j) ∧ Hid (∀ k, j ≤ k → ys[k]? = c[k]?) ∧ Hid (wr.ownsRow base 32 1 (.slice (some ⟨gu, 0, none⟩) c.length cu) c.length (ys.map (Value.int .i64))) ∧ Hid (Below base w wr)) (fun _ jv _ _ => c.length - (intOf jv).toNat)
    case atStart => exact ⟨i0, i0 + 1, c, Nat.le_refl _, hil, rfl, by go_num, Lib.hid (by rw [HK1.out]; exact HKL.out), Lib.hid rfl, Lib.hid (by rw [HK1.out, HK0.out]), Lib.hid (fun _ _ => rfl), HO1, Lib.hid (HB1.out.mono hbz)⟩
    case round =>
      obtain ⟨i, j, ys, hij, hjc, rfl, rfl, HIL, HYL, HYT, HYR, HO, HB⟩ := hrel
      by_cases hlt : j < c.length
      · obtain ⟨x, hx⟩ := getElem_of hlt
        have d0 : wr.cell? ⟨gu, j, none⟩ = some (.int .i64 x) := mx_at HO.out (by rw [List.getElem?_map, HYR.out j (Nat.le_refl _), hx]; rfl)
        have hqw : wr.cell? ⟨q, 0, none⟩ = some (.int .i64 v) := (HB.out.cell (p := ⟨q, 0, none⟩) hqb).trans HQ.out
        have HR := Lib.hid (without_one q v x wr hqw)
        have HKS := Lib.hid (keepW_succ v c j x hx)
        have w2' : IntKind.i64.wrap ((j : Int) + 1) = (j : Int) + 1 := IntWalk.i64_in _ (by omega)
        have w3' : IntKind.i64.wrap ((i : Int) + 1) = (i : Int) + 1 := IntWalk.i64_in _ (by omega)
        have hjcu : j < cu := by omega
        have HX := Lib.hid hx
        clear hx hqw
        by_cases hv : x = v
        · have HV := Lib.hid hv
          rw [decide_eq_true hv] at HR
          clear hv
          go_wp2_with fail
          refine HR.out.mono ?_
          rintro e w2 ⟨rfl, hb⟩
          have HB2 := Lib.hid (HB.out.trans (hb.mono (Nat.le_trans hbz HB.out.size)))
          have HO2 := Lib.hid (own_below HO.out hb)
          clear hb d0
          go_wp2_with fail
          go_roundw
          case rel => exact ⟨i, j + 1, ys, by omega, by omega, rfl, by go_num, Lib.hid (by rw [HKS.out, if_pos HV.out]; exact HIL.out), HYL, Lib.hid (by rw [HKS.out, if_pos HV.out]; exact HYT.out), Lib.hid (fun k hk => HYR.out k (by omega)), HO2, HB2⟩
          case measure => simp [intOf]; omega
        · have HV := Lib.hid hv
          rw [decide_eq_false hv] at HR
          clear hv
          go_wp2_with fail
          refine HR.out.mono ?_
          rintro e w2 ⟨rfl, hb⟩
          have HB2 := Lib.hid (HB.out.trans (hb.mono (Nat.le_trans hbz HB.out.size)))
          have HO2 := Lib.hid (own_below HO.out hb)
          clear hb d0
          obtain ⟨y, hy⟩ : ∃ y, (ys.map (Value.int .i64))[i]? = some y := getElem_of (by rw [List.length_map, HYL.out]; omega)
          have p0 := mx_at HO2.out hy
          obtain ⟨_, _, csw, hsl2, _, _, _, hblk, _⟩ := mx_some HO2.out (by omega)
          simp only [Value.slice.injEq, true_and, Option.some.injEq, Addr.mk.injEq, and_true] at hsl2
          have fr := mx_free (j := i) (by rw [hsl2.1]; exact hblk : w2.heap[gu]? = _)
          have hicu : i < cu := by omega
          clear hy hblk hsl2
          have HO3 := Lib.hid (show (w2.setCell ⟨gu, i, none⟩ (.int .i64 x)).ownsRow base 32 1 (.slice (some ⟨gu, 0, none⟩) c.length cu) c.length ((ys.set i x).map (Value.int .i64)) from by
            rw [List.map_set]
            exact own_setr i HO2.out (.int .i64 x))
          have HB3 := Lib.hid (HB2.out.setCell (p := ⟨gu, i, none⟩) hgb (.int .i64 x))
          go_wp2_with fail
          go_roundw
          case rel => exact ⟨i + 1, j + 1, ys.set i x, by omega, by omega, by go_num, by go_num, Lib.hid (by rw [HKS.out, if_neg HV.out, List.length_append, HIL.out]; rfl), Lib.hid (by rw [List.length_set]; exact HYL.out), Lib.hid (by
            rw [HKS.out, if_neg HV.out, ← HYT.out, List.take_add_one, List.getElem?_set_self (by rw [HYL.out]; omega), List.take_set_of_le (Nat.le_refl _)]
            rfl), Lib.hid (fun k hk => by rw [List.getElem?_set_ne (by omega)]; exact HYR.out k (by omega)), HO3, HB3⟩
          case measure => simp [intOf]; omega
      · obtain rfl : j = c.length := by omega
        have hic : i < cu := by omega
        have hicl : i < c.length := by omega
        obtain ⟨m, hm⟩ : ∃ m, c.length - i = m := ⟨_, rfl⟩
        have hm0 : 0 < m := by omega
        have HOF := Lib.hid (fun k (hk : k < c.length) => (by
          obtain ⟨y, hy⟩ : ∃ y, (ys.map (Value.int .i64))[k]? = some y := getElem_of (by rw [List.length_map, HYL.out]; omega)
          rw [mx_at HO.out hy]
          rfl : (wr.cell? ⟨gu, k, none⟩).isSome = true))
        have hcl := fun ty cc => Lib.run_clear_slice (P := Tryz.prog) wr 34 32 ty (.int .i64 0) Tryz.underlying34 lit_zero rfl rfl gu i m cc hm0 (fun k hk => HOF.out (i + k) (by omega)) (fun k _ => own_freer HO.out (i + k))
        obtain ⟨wz, hwz⟩ : ∃ x, wr.setCells gu i (List.replicate m (.int .i64 0)) = x := ⟨_, rfl⟩
        rw [hwz] at hcl
        have HKZ := Lib.hid (show (∀ k, k < i → wz.cell? ⟨gu, k, none⟩ = wr.cell? ⟨gu, k, none⟩) ∧ Below base wr wz from by rw [← hwz]; exact setCells_keep gu i _ wr base hgb)
        have HFIN := Lib.hid (show IntsIn (fun g => base ≤ g) wz (.slice (some ⟨gu, 0, none⟩) i cu) (restW v c) from by
          have hl : (restW v c).length = i := by rw [← keepW_all, HIL.out]
          refine ⟨some ⟨gu, 0, none⟩, cu, by rw [hl], by rw [hl]; omega, (fun h => by cases h), fun k x hk => ⟨gu, 0, rfl, ?_, hgb, ?_⟩⟩
          · exact Nat.lt_of_lt_of_le (own_lt HO.out gu rfl).2 HKZ.out.2.size
          · have hki : k < i := by rw [← hl]; exact (List.getElem?_eq_some_iff.1 hk).1
            rw [Nat.zero_add, HKZ.out.1 k hki]
            refine mx_at HO.out ?_
            rw [List.getElem?_map]
            have := HYT.out
            rw [keepW_all] at this
            rw [← this, List.getElem?_take_of_lt hki] at hk
            rw [hk]
            rfl)
        have HBZ := Lib.hid (HB.out.trans HKZ.out.2)
        clear hwz
        go_wp2_with fail
        go_ret
        exact ⟨⟨_, rfl, HFIN.out⟩, HBZ.out⟩
/-- a clause without a literal -/
theorem cl_without {O : Nat → Prop} (u : Value) (c : List Int) (l : Int) (w : World) (h : IntsIn O w u c) (hcb : clauseB c = true) (hl : litB l = true) :
    Calls Tryz.prog 20 #[u, .int .i64 l] w fun e w' => (∃ v, e = .returned (.tuple #[v, .int .i64 0]) ∧ IntsIn (fun g => w.heap.size < g) w' v (restW l (normL c))) ∧ Below w.heap.size w w' := by
  have hcl : c.length ≤ 4096 := by
    unfold clauseB at hcb
    rw [Bool.and_eq_true, decide_eq_true_eq] at hcb
    exact hcb.1
  have HNL := Lib.hid (normL_len c)
  obtain ⟨wa, hwa⟩ : ∃ z, w.alloc (.cells #[.int .i64 l] 32) = z := ⟨_, rfl⟩
  have hba : Below w.heap.size w wa := by rw [← hwa]; exact mx_al _ _
  have hza : wa.heap.size = w.heap.size + 1 := by rw [← hwa]; simp
  have d0 : wa.cell? ⟨w.heap.size, 0, none⟩ = some (.int .i64 l) := by rw [← hwa]; exact mx_cell (j := 0) (World.alloc_heap_new _ _)
  have hr := right_clause u c wa (h.below hba) (by omega)
  rw [hcb] at hr
  have HR := Lib.hid hr
  have hwl := fun W => wrong_lit l W
  simp only [hl, Bool.not_true] at hwl
  have HW := Lib.hid hwl
  have HN := Lib.hid (normal_any u c wa (h.below hba) (by omega))
  have HBA := Lib.hid hba
  have HWA := Lib.hid hwa
  have HZ := Lib.hid hza
  obtain ⟨A, cc, rfl, _⟩ := h
  clear hr hba hwa hza hcb hl hwl
  go_enter Tryz.func20, Tryz.ntmps20
  go_wp2_with fail
  rw [HWA.out]
  refine HR.out.mono ?_
  rintro e w' ⟨rfl, rfl⟩
  go_wp2_with fail
  refine (HW.out _).mono ?_
  rintro e w' ⟨rfl, rfl⟩
  go_wp2_with fail
  refine HN.out.mono ?_
  rintro e w2 ⟨v, rfl, ho, hb2⟩
  have d2 : w2.cell? ⟨w.heap.size, 0, none⟩ = some (.int .i64 l) := (hb2.cell (p := ⟨w.heap.size, 0, none⟩) (by rw [HZ.out]; exact Nat.lt_succ_self _)).trans d0
  have HD := Lib.hid (delete_without w.heap.size wa.heap.size l v (normL c) w2 ho d2 (by rw [HZ.out]; exact Nat.lt_succ_self _) hb2.size (by have := HNL.out; omega))
  obtain ⟨Av, cv, rfl, _⟩ := mx_slice ho
  have HB2 := Lib.hid hb2
  clear ho hb2 d0 d2 HN
  go_wp2_with fail
  refine HD.out.mono ?_
  rintro e w3 ⟨⟨u', rfl, hu'⟩, hb3⟩
  have HU := Lib.hid (hu'.mono (O' := fun g => w.heap.size < g) (fun g hg => by rw [HZ.out] at hg; exact hg))
  have HB3 := Lib.hid (HBA.out.trans ((HB2.out.trans hb3).mono HBA.out.size))
  clear hu' hb3 HD
  go_wp2_with fail
  go_ret2
  exact ⟨⟨_, rfl, HU.out⟩, HB3.out⟩
end Go.Proofs.YtoojmhjagipmdaaGreat
namespace Go.Proofs.YtoojmhjagipmdaaGreat
open Go.RowKit

def exL : List (List Int) := [[-1, 2], [-2, -3, 4], [-4, 5], [-5, -4, -2], [3]]
def exA : List ActP := [⟨true, 0, 0⟩, ⟨false, 3, 0⟩, ⟨true, 0, 0⟩, ⟨false, 1, 0⟩, ⟨false, 2, 1⟩, ⟨false, 4, 2⟩, ⟨false, 5, 3⟩]
def exB : List ActP := [⟨false, 3, 5⟩, ⟨true, 0, 0⟩, ⟨false, 1, 0⟩, ⟨false, 2, 1⟩, ⟨false, 4, 2⟩, ⟨false, 5, 3⟩]
def exAr : Arn := addAll arn0 0 exL
def exT : Trl := playAll (trl0 5) exA
def exU : Trl := playAll (trl0 5) exB
theorem ex_get4 : exAr.get 4 = some [-5, -4, -2] := by kernel_rfl
theorem ex_get5 : exAr.get 5 = some [3] := by kernel_rfl
theorem ex_f4 : exT.failMax [-5, -4, -2] 0 = some 2 := by kernel_rfl
theorem ex_f5 : exT.failMax [3] 0 = none := by kernel_rfl
theorem ex_g4 : exU.failMax [-5, -4, -2] 0 = some 1 := by kernel_rfl
theorem ex_end1 : cfEnd exAr exT 2 [-5, -4, -2] = some ⟨[5, 4, 2, 3], 1, [-2, -3], [3, 2], [5, 4, 2, 3]⟩ := by kernel_rfl
theorem ex_end2 : cfEnd exAr exU 1 [-5, -4, -2] = some ⟨[5, 4, 2, 3], 1, [-2], [3, 2, 5], [5, 4, 2]⟩ := by kernel_rfl
theorem ex_lv1 : exT.levelsOf [-2, -3] = 2 := by
  unfold Trl.levelsOf Trl.nLevels
  rw [if_pos (by decide), show exT.lvls [-2, -3] = [2, 1] from by kernel_rfl, sortI_eq (ys := [1, 2]) (by decide) (by decide)]
  rfl
theorem ex_lv2 : exU.levelsOf [-2] = 1 := by
  unfold Trl.levelsOf Trl.nLevels
  rw [if_pos (by decide), show exU.lvls [-2] = [1] from by kernel_rfl, sortI_eq (ys := [1]) (by decide) (by decide)]
  rfl
theorem ex_conf1 : confP exAr exT 4 = (⟨[-2, -3], 1, 2, [2, 3, 4], [2, 3, 4, 5]⟩, 0) := by
  unfold confP
  rw [ex_get4]
  simp only [ex_f4, ex_end1]
  rw [ex_lv1, sortI_eq (xs := [5, 4, 2, 3]) (ys := [2, 3, 4, 5]) (by decide) (by decide), show exT.backOf [-2, -3] = 1 from by kernel_rfl]
  rfl
theorem ex_conf2 : confP exAr exU 4 = (⟨[-2], 0, 1, [5, 2, 3, 4], [2, 4, 5]⟩, 0) := by
  unfold confP
  rw [ex_get4]
  simp only [ex_g4, ex_end2]
  rw [ex_lv2, sortI_eq (xs := [5, 4, 2]) (ys := [2, 4, 5]) (by decide) (by decide), show exU.backOf [-2] = 0 from by kernel_rfl]
  rfl
theorem ex_conf5 : confP exAr exT 5 = (lrn0, 140) := by
  unfold confP
  rw [ex_get5]
  simp only [ex_f5]
theorem ex_right4 : rightB exAr exT 4 = true := by kernel_rfl
theorem ex_right1 : rightB exAr exT 1 = false := by kernel_rfl

/-! ### the lists of the example in memory -/
theorem ex_in {w : World} {n : Nat} {xs : List Int} {t : TypeId} {W : World} (hs : W.heap.size = n) (hb : Below (n + 1) (W.alloc (.cells (xs.map (Value.int .i64)).toArray t)) w) : IntsIn (fun g => g < w.heap.size) w (.slice (some ⟨n, 0, none⟩) xs.length xs.length) xs := by
  subst hs
  have hb' : Below (W.alloc (.cells (xs.map (Value.int .i64)).toArray t)).heap.size (W.alloc (.cells (xs.map (Value.int .i64)).toArray t)) w := by simpa using hb
  refine ((mx_ints W xs t).below hb').mono (fun g hg => ?_)
  have := hb.size
  simp at this
  omega
set_option maxRecDepth 100000 in
set_option maxHeartbeats 1000000 in
theorem example_any (w : World) :
    Calls Tryz.prog 47 #[] w fun e w' => ∃ cv g W6, e = .returned (.tuple #[cv, .slice (some ⟨g, 0, none⟩) 7 7]) ∧ ClsAt W6 cv exL ∧ W6.heap.size = g ∧ Below g W6 w' ∧ w'.heap[g]? = some (.cells (exA.flatMap ActP.cells).toArray 90 (0, 0)) ∧ w.heap.size ≤ g ∧ Below w.heap.size w w' := by
  obtain ⟨W6, hW6, hb6, hc6⟩ : ∃ W6, ((((((w.alloc (.cells #[.int .i64 (-1), .int .i64 2] 32)).alloc (.cells #[.int .i64 (-2), .int .i64 (-3), .int .i64 4] 32)).alloc (.cells #[.int .i64 (-4), .int .i64 5] 32)).alloc (.cells #[.int .i64 (-5), .int .i64 (-4), .int .i64 (-2)] 32)).alloc (.cells #[.int .i64 3] 32)).alloc (.cells #[.slice (some ⟨w.heap.size, 0, none⟩) 2 2, .slice (some ⟨w.heap.size + 1, 0, none⟩) 3 3, .slice (some ⟨w.heap.size + 1 + 1, 0, none⟩) 2 2, .slice (some ⟨w.heap.size + 1 + 1 + 1, 0, none⟩) 3 3, .slice (some ⟨w.heap.size + 1 + 1 + 1 + 1, 0, none⟩) 1 1] 34)) = W6 ∧ Below w.heap.size w W6 ∧ ClsAt W6 (.slice (some ⟨w.heap.size + 1 + 1 + 1 + 1 + 1, 0, none⟩) 5 5) exL := by
    refine ⟨_, rfl, (((((mx_al _ _).alloc (by simp) _).alloc (by simp; omega) _).alloc (by simp; omega) _).alloc (by simp; omega) _).alloc (by simp; omega) _, ?_⟩
    have key := cls_new (((((w.alloc (.cells #[.int .i64 (-1), .int .i64 2] 32)).alloc (.cells #[.int .i64 (-2), .int .i64 (-3), .int .i64 4] 32)).alloc (.cells #[.int .i64 (-4), .int .i64 5] 32)).alloc (.cells #[.int .i64 (-5), .int .i64 (-4), .int .i64 (-2)] 32)).alloc (.cells #[.int .i64 3] 32)) [.slice (some ⟨w.heap.size, 0, none⟩) 2 2, .slice (some ⟨w.heap.size + 1, 0, none⟩) 3 3, .slice (some ⟨w.heap.size + 1 + 1, 0, none⟩) 2 2, .slice (some ⟨w.heap.size + 1 + 1 + 1, 0, none⟩) 3 3, .slice (some ⟨w.heap.size + 1 + 1 + 1 + 1, 0, none⟩) 1 1] exL 34 (fun i xs hi => by
      match i, hi with
      | 0, hi =>
        obtain rfl := Option.some.inj hi
        exact ⟨_, rfl, ex_in (xs := [-1, 2]) (W := w) rfl ((((mx_al _ _).mono (by simp)).alloc (by simp) _).alloc (by simp) _ |>.alloc (by simp) _)⟩
      | 1, hi =>
        obtain rfl := Option.some.inj hi
        exact ⟨_, rfl, ex_in (xs := [-2, -3, 4]) (W := w.alloc (.cells #[.int .i64 (-1), .int .i64 2] 32)) (by simp) ((((mx_al _ _).mono (by simp)).alloc (by simp) _).alloc (by simp) _)⟩
      | 2, hi =>
        obtain rfl := Option.some.inj hi
        exact ⟨_, rfl, ex_in (xs := [-4, 5]) (W := (w.alloc (.cells #[.int .i64 (-1), .int .i64 2] 32)).alloc (.cells #[.int .i64 (-2), .int .i64 (-3), .int .i64 4] 32)) (by simp) (((mx_al _ _).mono (by simp)).alloc (by simp) _)⟩
      | 3, hi =>
        obtain rfl := Option.some.inj hi
        exact ⟨_, rfl, ex_in (xs := [-5, -4, -2]) (W := ((w.alloc (.cells #[.int .i64 (-1), .int .i64 2] 32)).alloc (.cells #[.int .i64 (-2), .int .i64 (-3), .int .i64 4] 32)).alloc (.cells #[.int .i64 (-4), .int .i64 5] 32)) (by simp) ((mx_al _ _).mono (by simp))⟩
      | 4, hi =>
        obtain rfl := Option.some.inj hi
        exact ⟨_, rfl, ex_in (xs := [3]) (W := (((w.alloc (.cells #[.int .i64 (-1), .int .i64 2] 32)).alloc (.cells #[.int .i64 (-2), .int .i64 (-3), .int .i64 4] 32)).alloc (.cells #[.int .i64 (-4), .int .i64 5] 32)).alloc (.cells #[.int .i64 (-5), .int .i64 (-4), .int .i64 (-2)] 32)) (by simp) (Below.refl _ _)⟩
      | n + 5, hi => exact absurd hi (by simp [exL]))
    simpa [exL] using key
  have hsz : W6.heap.size = w.heap.size + 1 + 1 + 1 + 1 + 1 + 1 := by rw [← hW6]; simp
  have HSZ := Lib.hid hsz
  have HW6 := Lib.hid hW6
  have HB6 := Lib.hid hb6
  have HC6 := Lib.hid hc6
  clear hW6 hb6 hc6 hsz
  go_enter Tryz.func47, Tryz.ntmps47
  go_wp2_with fail
  rw [HW6.out]
  go_ret2
  have hnew := World.alloc_heap_new W6 (.cells (exA.flatMap ActP.cells).toArray 90)
  have hb := mx_al W6 (.cells (exA.flatMap ActP.cells).toArray 90)
  rw [HSZ.out] at hnew hb
  exact ⟨_, _, W6, rfl, HC6.out, HSZ.out, hb, hnew, by omega, HB6.out.trans (hb.mono (by omega))⟩
end Go.Proofs.YtoojmhjagipmdaaGreat
namespace Go.Proofs.YtoojmhjagipmdaaGreat
open Go.RowKit

theorem run_clear3 (w : World) (ty : TypeId) (b o c : Nat) (hc : ∀ j, j < 3 → (w.cell? ⟨b, o + j, none⟩).isSome = true) (hf : ∀ j, j < 3 → w.frozen? ⟨b, o + j, none⟩ = false) :
    (Builtin.clear_ #[84] ty #[.slice (some ⟨b, o, none⟩) 1 c]).run Tryz.prog w = .ok (.tuple #[]) (w.setCells b o [.bool false, .int .i64 0, .int .i64 0]) := by
  have hzc : (Builtin.zeroCells (Value.agg #[.bool false, .int .i64 0, .int .i64 0]).cells 1).toList = [.bool false, .int .i64 0, .int .i64 0] := by kernel_rfl
  have hst := run_storeCells_cells (P := Tryz.prog) b o [.bool false, .int .i64 0, .int .i64 0] 0 w (by simpa using hc) (by simpa using hf) (by simp [Value.oneCell'])
  simp only [Nat.add_zero] at hst
  simp [Builtin.clear_, run_underlying Tryz.underlying84, hzc, hst]
set_option maxRecDepth 100000 in
set_option maxHeartbeats 2000000 in
theorem del_acts (g : Nat) (cs : Array Value) (l : List ActP) (w : World) (hb : w.heap[g]? = some (.cells cs 90 (0, 0))) (hl : l.length = 7) (ht : cs.toList = l.flatMap ActP.cells) :
    Calls Tryz.prog 49 #[.slice (some ⟨g, 0, none⟩) 7 7, .int .i64 2, .int .i64 3] w fun e w' => e = .returned (.slice (some ⟨g, 0, none⟩) 6 7) ∧ ActsIn w' (.slice (some ⟨g, 0, none⟩) 6 7) (l.eraseIdx 2) ∧ Kept (fun k => k = g) w w' := by
  have hcs : cs.size = 21 := by
    have := congrArg List.length ht
    rw [actCells_len, hl] at this
    simpa using this
  obtain ⟨i0, hi0, hz0, hz1, hz2⟩ := info_parts ainfo_act
  have hgD : w.drew.heap[g]? = some (.cells cs 90 (0, 0)) := hb
  have hnl : (cs.toList.drop 9).length = 4 * i0.size := by rw [hz1, List.length_drop, Array.length_toList, hcs]
  have hnews : ∀ j u, (cs.toList.drop 9)[j]? = some u → w.drew.cell? ((⟨g, 9, none⟩ : Addr).add j) = some u := fun j u hj => by
    rw [addr_add2, mx_cell hgD]
    rw [List.getElem?_drop, Array.getElem?_toList] at hj
    exact hj
  have h1 : ∀ u ∈ cs.toList.drop 9, u.oneCell' = true := fun u hu => by
    have := List.mem_of_mem_drop hu
    rw [ht] at this
    obtain ⟨a, _, ha⟩ := List.mem_flatMap.1 this
    simp only [ActP.cells, List.mem_cons, List.not_mem_nil, or_false] at ha
    rcases ha with rfl | rfl | rfl <;> rfl
  have hrun := fun ty => run_append_room (P := Tryz.prog) w.drew 84 ty 90 i0 Tryz.underlying84 hi0 g 2 7 cs hgD ⟨g, 9, none⟩ 4 4 (cs.toList.drop 9) hnl hnews h1 (by decide) (by rw [hnl, hz1, hcs]; decide)
  rw [hz1] at hrun
  obtain ⟨W2, hW2⟩ : ∃ x, w.drew.setRow g (cs.toList.take (2 * 3) ++ cs.toList.drop 9 ++ cs.toList.drop (2 * 3 + (cs.toList.drop 9).length)).toArray = x := ⟨_, rfl⟩
  rw [hW2] at hrun
  have hb2 : W2.heap[g]? = some (.cells (cs.toList.take (2 * 3) ++ cs.toList.drop 9 ++ cs.toList.drop (2 * 3 + (cs.toList.drop 9).length)).toArray 90 (0, 0)) := by
    rw [← hW2]
    exact setRow_heap w.drew g cs _ _ _ hgD
  have hk2 : Kept (fun k => k = g) w W2 := by
    rw [← hW2]
    exact ⟨rfl, rfl, rfl, by simp, fun k _ hk => setRow_other w.drew g k _ hk⟩
  have hs2 : (cs.toList.take (2 * 3) ++ cs.toList.drop 9 ++ cs.toList.drop (2 * 3 + (cs.toList.drop 9).length)).toArray.size = 21 := by
    simp [hcs]
  have ht2 : (cs.toList.take (2 * 3) ++ cs.toList.drop 9 ++ cs.toList.drop (2 * 3 + (cs.toList.drop 9).length)).toArray.toList.take 18 = (l.eraseIdx 2).flatMap ActP.cells := by
    rw [List.toList_toArray, ht, List.eraseIdx_eq_take_drop_succ, List.flatMap_append]
    have e1 : (l.flatMap ActP.cells).take (2 * 3) = (l.take 2).flatMap ActP.cells := by
      match l, hl with
      | [a, b, c, d, e, f, g], _ => rfl
    have e2 : (l.flatMap ActP.cells).drop 9 = (l.drop 3).flatMap ActP.cells := by
      match l, hl with
      | [a, b, c, d, e, f, g], _ => rfl
    have e3 : ((l.take 2).flatMap ActP.cells ++ (l.drop 3).flatMap ActP.cells).length = 18 := by
      rw [List.length_append, actCells_len, actCells_len, List.length_take, List.length_drop, hl]
      rfl
    rw [e1, e2, List.take_append_of_le_length (Nat.le_of_eq e3.symm), List.take_of_length_le (Nat.le_of_eq e3)]
  generalize (cs.toList.take (2 * 3) ++ cs.toList.drop 9 ++ cs.toList.drop (2 * 3 + (cs.toList.drop 9).length)).toArray = c2 at hb2 hs2 ht2
  have hcl := fun ty => run_clear3 W2 ty g 18 1 (fun j hj => by rw [mx_cell hb2, Array.getElem?_eq_getElem (by omega)]; rfl) (fun j _ => mx_free hb2)
  obtain ⟨W3, hW3⟩ : ∃ x, W2.setCells g 18 [.bool false, .int .i64 0, .int .i64 0] = x := ⟨_, rfl⟩
  rw [hW3] at hcl
  have hb3 : W3.heap[g]? = some (.cells (((c2.setIfInBounds 18 (.bool false)).setIfInBounds 19 (.int .i64 0)).setIfInBounds 20 (.int .i64 0)) 90 (0, 0)) := by
    rw [← hW3]
    exact mx_set (j := 20) (mx_set (j := 19) (mx_set (j := 18) hb2 _) _) _
  have hk3 : Kept (fun k => k = g) w W3 := by
    rw [← hW3]
    exact ((hk2.setCell ⟨g, 18, none⟩ _ rfl).setCell ⟨g, 19, none⟩ _ rfl).setCell ⟨g, 20, none⟩ _ rfl
  have hA := acts_of_block (n := 6) (c := 7) (l := l.eraseIdx 2) hb3 (by rw [List.length_eraseIdx_of_lt (by omega), hl]) (by
    rw [← ht2]
    simp only [Array.toList_setIfInBounds]
    rw [List.take_set_of_le (by decide), List.take_set_of_le (by decide), List.take_set_of_le (by decide)])
  have HRUN := Lib.hid hrun
  have HCL := Lib.hid hcl
  have HA := Lib.hid hA
  have HK3 := Lib.hid hk3
  clear hb ht hcs hgD hnl hnews h1 hrun hW2 hb2 hk2 hs2 ht2 hcl hW3 hb3 hk3 hA hi0 hz0 hz1 hz2
  go_enter Tryz.func49, Tryz.ntmps49
  go_upto_region 5 with fail
  refine wp_region_held_drew (S := fun _ => True) (by kernel_rfl) trivial (fun hS => ?_)
  refine takeE 0 20 ?_
  refine takeE 1 21 ?_
  refine takeE 2 22 ?_
  refine takeE 3 23 ?_
  refine takeE 4 24 ?_
  refine takeE 5 25 ?_
  refine ready1 6 (fun K hK => ?_)
  rw [if_pos (by rfl)]
  refine wp_append_run 26 (by rfl) _ _ 84 rfl _ _ (by rfl) (by rfl) (HRUN.out _) ?_
  refine hK.out _ _ trivial (fun _ => ?_)
  clear hK
  simp only [Act.put, List.setIfInBounds_toArray, List.set_cons_zero, List.set_cons_succ]
  refine takeE 7 0 ?_
  refine wpAnyH_done (by kernel_rfl) ?_ _
  have hcl := HCL.out
  go_wp2_with fail
  go_ret
  exact ⟨rfl, HA.out, HK3.out⟩
end Go.Proofs.YtoojmhjagipmdaaGreat
namespace Go.Proofs.YtoojmhjagipmdaaGreat
open Go.RowKit

def exD : List ActP := [⟨false, 3, 5⟩, ⟨true, 0, 0⟩, ⟨true, 0, 0⟩, ⟨false, 1, 0⟩, ⟨false, 2, 1⟩, ⟨false, 4, 2⟩, ⟨false, 5, 3⟩]
theorem exL_len : ∀ c ∈ exL, c.length ≤ 1000 := by decide
set_option maxRecDepth 100000 in
set_option maxHeartbeats 4000000 in
theorem awake_any (w : World) : Calls Tryz.prog 10 #[] w fun e w' => e = .returned (.bool true) ∧ Below w.heap.size w w' := by
  have HEX := Lib.hid (example_any w)
  go_enter Tryz.func10, Tryz.ntmps10
  go_wp2_with fail
  refine HEX.out.mono ?_
  rintro e w1 ⟨cv, g, W6, rfl, hc, hz6, hb6, hg, hwg, hb1⟩
  have HC := Lib.hid hc
  have HG := Lib.hid hg
  have H6 := Lib.hid hb6
  have HB1 := Lib.hid hb1
  have HZ6 := Lib.hid hz6
  have hg1 := heap_lt hg
  obtain ⟨Ac, cc, rfl, _⟩ := hc
  rw [show exL.length = 5 from rfl] at HC
  have ha1 : ActsIn w1 (.slice (some ⟨g, 0, none⟩) 7 7) exA := acts_of_block (l := exA) hg rfl (by rw [List.toList_toArray]; exact List.take_of_length_le (by decide))
  have hp := put_any 5 _ _ exL exA w1 (by decide) ((HC.out).below (by rw [hz6]; exact hb6)) ha1 (by decide) exL_len (by decide)
  have HP := Lib.hid hp
  clear hg hb6 hb1 hz6 ha1 hp HEX
  rw [show exL.length = 5 from rfl]
  go_wp2_with fail
  refine HP.out.mono ?_
  rintro e w2 ⟨a, b, rfl, hpa, hb2⟩
  have HPA := Lib.hid hpa
  have hz2 := hb2.size
  have HB2 := Lib.hid hb2
  clear HP hpa hb2
  have hcf := put_conf 4 HPA.out
  rw [show addAll arn0 0 exL = exAr from rfl, show playAll (trl0 5) exA = exT from rfl, ex_conf1] at hcf
  have HCF := Lib.hid hcf
  clear hcf
  go_wp2_with fail
  refine HCF.out.mono ?_
  rintro e w3 ⟨⟨v, rfl, hv⟩, hb3⟩
  obtain ⟨Ax, cx, Ay, cy, Az, cz, rfl, hx, hy, hz⟩ := hv.parts
  have HX := Lib.hid hx
  have HY := Lib.hid hy
  have HZ := Lib.hid hz
  have HB3 := Lib.hid hb3
  clear hx hy hz hv HCF hb3
  go_wp2_with fail
  obtain ⟨Wa, hWa⟩ : ∃ x, w3.alloc (.cells #[.slice Ax 2 cx, .int .i64 1, .int .i64 2, .slice Ay 3 cy, .slice Az 4 cz] 65) = x := ⟨_, rfl⟩
  have hbA : Below w3.heap.size w3 Wa := by rw [← hWa]; exact mx_al _ _
  have hbx : Wa.heap[w3.heap.size]? = some (.cells #[.slice Ax 2 cx, .int .i64 1, .int .i64 2, .slice Ay 3 cy, .slice Az 4 cz] 65 (0, 0)) := by rw [← hWa]; exact World.alloc_heap_new _ _
  have hzA : Wa.heap.size = w3.heap.size + 1 := by rw [← hWa]; simp
  rw [hWa]
  have HA1 := Lib.hid hbA
  have HBX1 := Lib.hid hbx
  have HZA1 := Lib.hid hzA
  clear hbA hbx hzA hWa
  have hq := eqc_lit Wa (.slice Ax 2 cx) [-2, -3] [-2, -3] (fun w' hb => HX.out w' (HA1.out.trans (hb.mono HA1.out.size))) (by decide)
  rw [HZA1.out] at hq
  rw [show (([-2, -3] : List Int) == [-2, -3]) = true from rfl] at hq
  have HQ := Lib.hid hq
  clear hq
  refine HQ.out.mono ?_
  rintro e w4 ⟨rfl, hbq⟩
  clear HQ
  rw [← HZA1.out] at hbq
  have HB4 := Lib.hid (HA1.out.trans (hbq.mono HA1.out.size))
  obtain ⟨⟨o0, o1, o2, o3, o4⟩, _⟩ := cells5 ((hbq.block _ (heap_lt HBX1.out)).trans HBX1.out)
  have HBX4 := Lib.hid ((hbq.block _ (heap_lt HBX1.out)).trans HBX1.out)
  clear hbq
  go_wp2_with fail
  have hq := eqi_lit w4 (.slice Ay 3 cy) [2, 3, 4] [2, 3, 4] (fun w' hb => HY.out w' (HB4.out.trans (hb.mono HB4.out.size))) (by decide)
  skip
  rw [show (([2, 3, 4] : List Int) == [2, 3, 4]) = true from rfl] at hq
  have HQ := Lib.hid hq
  clear hq
  refine HQ.out.mono ?_
  rintro e w5 ⟨rfl, hbq⟩
  clear HQ
  have HB5 := Lib.hid (HB4.out.trans (hbq.mono HB4.out.size))
  clear o0 o1 o2 o3 o4
  obtain ⟨⟨o0, o1, o2, o3, o4⟩, _⟩ := cells5 ((hbq.block _ (heap_lt HBX4.out)).trans HBX4.out)
  clear hbq
  go_wp2_with fail
  have hq := eqi_lit w5 (.slice Az 4 cz) [2, 3, 4, 5] [2, 3, 4, 5] (fun w' hb => HZ.out w' (HB5.out.trans (hb.mono HB5.out.size))) (by decide)
  skip
  rw [show (([2, 3, 4, 5] : List Int) == [2, 3, 4, 5]) = true from rfl] at hq
  have HQ := Lib.hid hq
  clear hq
  refine HQ.out.mono ?_
  rintro e w6 ⟨rfl, hbq⟩
  clear HQ
  have HB6 := Lib.hid (HB3.out.trans ((HB5.out.trans (hbq.mono HB5.out.size)).mono HB3.out.size))
  clear o0 o1 o2 o3 o4 hbq
  have hr4 := put_right 4 (HPA.out.below HB6.out)
  rw [show addAll arn0 0 exL = exAr from rfl, show playAll (trl0 5) exA = exT from rfl, ex_right4] at hr4
  have HR4 := Lib.hid hr4
  clear hr4
  go_wp2_with fail
  refine HR4.out.mono ?_
  rintro e w7 ⟨rfl, hb⟩
  have HB7 := Lib.hid (HB6.out.trans (hb.mono HB6.out.size))
  clear hb HR4
  have hr1 := put_right 1 (HPA.out.below HB7.out)
  rw [show addAll arn0 0 exL = exAr from rfl, show playAll (trl0 5) exA = exT from rfl, ex_right1] at hr1
  have HR1 := Lib.hid hr1
  clear hr1
  go_wp2_with fail
  refine HR1.out.mono ?_
  rintro e w8 ⟨rfl, hb⟩
  have HB8 := Lib.hid (HB7.out.trans (hb.mono HB7.out.size))
  clear hb HR1
  have hl4 := put_level (A := exAr) (T := exT) 4 [-5, -4, -2] ex_get4 (HPA.out.below HB8.out)
  rw [ex_f4] at hl4
  have HL4 := Lib.hid hl4
  clear hl4
  go_wp2_with fail
  refine HL4.out.mono ?_
  rintro e w9 ⟨rfl, hb⟩
  rw [show levelVal (some 2) = .tuple #[.int .i64 2, .int .i64 0] from rfl]
  have HB9 := Lib.hid (HB8.out.trans (hb.mono HB8.out.size))
  clear hb HL4
  have hc5 := put_conf 5 (HPA.out.below HB9.out)
  rw [show addAll arn0 0 exL = exAr from rfl, show playAll (trl0 5) exA = exT from rfl, ex_conf5] at hc5
  have HC5 := Lib.hid hc5
  clear hc5
  go_wp2_with fail
  refine HC5.out.mono ?_
  rintro e w10 ⟨⟨v, rfl, hv⟩, hb⟩
  obtain ⟨Bx, dx, By, dy, Bz, dz, rfl, _⟩ := hv.parts
  have HB10 := Lib.hid (HB9.out.trans (hb.mono HB9.out.size))
  clear hv HC5 hb
  have hg10 : w10.heap[g]? = some (.cells (exA.flatMap ActP.cells).toArray 90 (0, 0)) := (HB10.out.block g (by omega)).trans ((HB2.out.block g hg1).trans HG.out)
  have c0 : w10.cell? ⟨g, 0, none⟩ = some (.bool true) := mx_cell (j := 0) hg10
  have c1 : w10.cell? ⟨g, 1, none⟩ = some (.int .i64 0) := mx_cell (j := 1) hg10
  have c2 : w10.cell? ⟨g, 2, none⟩ = some (.int .i64 0) := mx_cell (j := 2) hg10
  have c3 : w10.cell? ⟨g, 3, none⟩ = some (.bool false) := mx_cell (j := 3) hg10
  have c4 : w10.cell? ⟨g, 4, none⟩ = some (.int .i64 3) := mx_cell (j := 4) hg10
  have c5 : w10.cell? ⟨g, 5, none⟩ = some (.int .i64 0) := mx_cell (j := 5) hg10
  have f0 := mx_free (j := 0) hg10
  have f1 := mx_free (j := 1) hg10
  have f2 := mx_free (j := 2) hg10
  have f3 := mx_free (j := 3) hg10
  have f4 := mx_free (j := 4) hg10
  have f5 := mx_free (j := 5) hg10
  have hglt := heap_lt hg10
  have HG10 := Lib.hid hg10
  clear hg10
  go_wp2_with fail
  obtain ⟨Wd, hWd⟩ : ∃ x, ((((((w10.setCell ⟨g, 0, none⟩ (.bool false)).setCell ⟨g, 1, none⟩ (.int .i64 3)).setCell ⟨g, 2, none⟩ (.int .i64 5)).setCell ⟨g, 3, none⟩ (.bool true)).setCell ⟨g, 4, none⟩ (.int .i64 0)).setCell ⟨g, 5, none⟩ (.int .i64 0)).alloc (.cells #[.slice Bx lrn0.lits.length dx, .int .i64 lrn0.back, .int .i64 lrn0.levels, .slice By lrn0.hints.length dy, .slice Bz lrn0.met.length dz] 65) = x := ⟨_, rfl⟩
  have hgd : Wd.heap[g]? = some (.cells (exD.flatMap ActP.cells).toArray 90 (0, 0)) := by
    rw [← hWd, Below.heap_alloc _ _ _ (by simp [World.setCell]; omega)]
    exact mx_set (j := 5) (mx_set (j := 4) (mx_set (j := 3) (mx_set (j := 2) (mx_set (j := 1) (mx_set (j := 0) HG10.out _) _) _) _) _) _
  have h1d : Below g w1 Wd := by
    rw [← hWd]
    exact ((((((((HB2.out.trans (HB10.out.mono hz2)).mono (Nat.le_of_lt hg1)).setCell (Nat.le_refl g) _).setCell (Nat.le_refl g) _).setCell (Nat.le_refl g) _).setCell (Nat.le_refl g) _).setCell (Nat.le_refl g) _).setCell (Nat.le_refl g) _).alloc (by simp [World.setCell]; omega) _
  rw [hWd]
  have H1D := Lib.hid h1d
  have HGD := Lib.hid hgd
  have hgdl := heap_lt hgd
  have HDL := Lib.hid (del_acts g _ exD Wd hgd rfl (List.toList_toArray))
  clear hWd hgd h1d c0 c1 c2 c3 c4 c5 f0 f1 f2 f3 f4 f5
  refine HDL.out.mono ?_
  rintro e w11 ⟨rfl, hac, hk11⟩
  rw [show exD.eraseIdx 2 = exB from rfl] at hac
  have h11 : Below g w1 w11 := below_kept H1D.out hk11 (fun i e => Nat.le_of_eq e.symm) (Nat.le_of_lt hgdl)
  have hg11 : g < w11.heap.size := Nat.lt_of_lt_of_le hgdl hk11.size
  have hp := put_any 5 _ _ exL exB w11 (by decide) (HC.out.below (by rw [HZ6.out]; exact H6.out.trans h11)) hac (by decide) exL_len (by decide)
  have HP := Lib.hid hp
  have H11 := Lib.hid h11
  clear hp hac hk11 h11 HDL
  go_wp2_with fail
  refine HP.out.mono ?_
  rintro e w12 ⟨a2, b2, rfl, hpa, hb12⟩
  have HPB := Lib.hid hpa
  have HB12 := Lib.hid (H11.out.trans (hb12.mono (Nat.le_of_lt hg11)))
  have hz12 := hb12.size
  clear HP hpa hb12
  have hcf := put_conf 4 HPB.out
  rw [show addAll arn0 0 exL = exAr from rfl, show playAll (trl0 5) exB = exU from rfl, ex_conf2] at hcf
  have HCF := Lib.hid hcf
  clear hcf
  go_wp2_with fail
  refine HCF.out.mono ?_
  rintro e w13 ⟨⟨v, rfl, hv⟩, hb13⟩
  obtain ⟨Cx, ex, Cy, ey, Cz, ez, rfl, hx, hy, _⟩ := hv.parts
  have HX2 := Lib.hid hx
  have HY2 := Lib.hid hy
  have HB13 := Lib.hid (HB12.out.trans (hb13.mono (Nat.le_trans (Nat.le_of_lt hg11) hz12)))
  have hz13 := hb13.size
  clear hx hy hv HCF hb13
  go_wp2_with fail
  obtain ⟨Wb, hWb⟩ : ∃ x, w13.alloc (.cells #[.slice Cx 1 ex, .int .i64 0, .int .i64 1, .slice Cy 4 ey, .slice Cz 3 ez] 65) = x := ⟨_, rfl⟩
  have hbA : Below w13.heap.size w13 Wb := by rw [← hWb]; exact mx_al _ _
  have hbx : Wb.heap[w13.heap.size]? = some (.cells #[.slice Cx 1 ex, .int .i64 0, .int .i64 1, .slice Cy 4 ey, .slice Cz 3 ez] 65 (0, 0)) := by rw [← hWb]; exact World.alloc_heap_new _ _
  have hzA : Wb.heap.size = w13.heap.size + 1 := by rw [← hWb]; simp
  rw [hWb]
  have HA2 := Lib.hid hbA
  have HBX2 := Lib.hid hbx
  have HZA2 := Lib.hid hzA
  clear hbA hbx hzA hWb
  have hq := eqc_lit Wb (.slice Cx 1 ex) [-2] [-2] (fun w' hb => HX2.out w' (HA2.out.trans (hb.mono HA2.out.size))) (by decide)
  rw [HZA2.out] at hq
  rw [show (([-2] : List Int) == [-2]) = true from rfl] at hq
  have HQ := Lib.hid hq
  clear hq
  refine HQ.out.mono ?_
  rintro e w14 ⟨rfl, hbq⟩
  clear HQ
  rw [← HZA2.out] at hbq
  have HB14 := Lib.hid (HA2.out.trans (hbq.mono HA2.out.size))
  obtain ⟨⟨o0, o1, o2, o3, o4⟩, _⟩ := cells5 ((hbq.block _ (heap_lt HBX2.out)).trans HBX2.out)
  clear hbq
  go_wp2_with fail
  have hq := eqi_lit w14 (.slice Cy 4 ey) [5, 2, 3, 4] [5, 2, 3, 4] (fun w' hb => HY2.out w' (HB14.out.trans (hb.mono HB14.out.size))) (by decide)
  skip
  rw [show (([5, 2, 3, 4] : List Int) == [5, 2, 3, 4]) = true from rfl] at hq
  have HQ := Lib.hid hq
  clear hq
  refine HQ.out.mono ?_
  rintro e w15 ⟨rfl, hbq⟩
  clear HQ
  have hlast : Below w.heap.size w w15 := HB1.out.trans ((HB13.out.trans ((HB14.out.trans (hbq.mono HB14.out.size)).mono (Nat.le_trans (Nat.le_trans (Nat.le_of_lt hg11) hz12) hz13))).mono hwg)
  have HLAST := Lib.hid hlast
  clear hbq hlast o0 o1 o2 o3 o4
  go_wp2_with fail
  go_ret
  exact ⟨rfl, HLAST.out⟩
end Go.Proofs.YtoojmhjagipmdaaGreat
