/- AnalyzeWrong: the walk. -/
import Derived.Test.YtfbiaclpopjipaaAw
import Derived.Test.YtfbiaclpopjipaaAx
import Derived.Test.YtfbiaclpopjipaaEt
import Derived.Deep.DeepCutAuto
import Derived.Deep.CutBlock
namespace Go.Proofs.Ytfbiaclpopjipaa
open Go.RowKit

theorem own_new (W : World) (xs : List Value) (t : TypeId) (h : xs.length ≤ 1000) : (W.alloc (.cells xs.toArray t)).ownsRow W.heap.size t 1 (.slice (some ⟨W.heap.size, 0, none⟩) xs.length xs.length) xs.length xs :=
  ⟨by simp, .inr ⟨W.heap.size, xs.length, xs.toArray, rfl, Nat.le_refl _, World.alloc_heap_new _ _, Nat.le_refl _, by unfold maxLen; omega, by simp, by simp⟩⟩
/-- more clauses -/
theorem ClsOwn.append {n : Nat} {w w1 w2 : World} {v v' : Value} {cs ds : List (List Int)} {us vs : List Value} (h1 : w.ownsRow n 29 1 v cs.length us) (h2 : ∀ (i : Nat) (xs : List Int), cs[i]? = some xs → ∃ u, us[i]? = some u ∧ w.ownsRow n 33 1 u xs.length (xs.map (Value.int .i64)))
    (hb : Below w.heap.size w w1) (hu : ∀ (i : Nat) (xs : List Int), ds[i]? = some xs → ∃ u, vs[i]? = some u ∧ w1.ownsRow n 33 1 u xs.length (xs.map (Value.int .i64))) (hg : w1.grownBy w2 v.ownBlock) (ho : w2.ownsRow n 29 1 v' (cs.length + ds.length) (us ++ vs)) : ClsOwn n w2 v' (cs ++ ds) := by
  have hlu : us.length = cs.length := by
    have := h1.1
    omega
  have hk : ∀ {u : Value} {ys : List Int}, w1.ownsRow n 33 1 u ys.length (ys.map (Value.int .i64)) → w2.ownsRow n 33 1 u ys.length (ys.map (Value.int .i64)) := fun hu => own_kept hu (Kept.grown hg) (fun g hg e => mx_apart hu (own_below h1 hb) (by decide) hg e.symm)
  refine ⟨us ++ vs, by rw [List.length_append]; exact ho, fun i ys hi => ?_⟩
  by_cases hil : i < cs.length
  · rw [List.getElem?_append_left hil] at hi
    obtain ⟨z, hz, hzo⟩ := h2 i ys hi
    exact ⟨z, by rw [List.getElem?_append_left (by omega)]; exact hz, hk (own_below hzo hb)⟩
  · rw [List.getElem?_append_right (by omega)] at hi
    obtain ⟨z, hz, hzo⟩ := hu _ ys hi
    exact ⟨z, by rw [List.getElem?_append_right (by omega), hlu]; exact hz, hk hzo⟩
theorem LrnAt.zero {n : Nat} {w : World} {v : Value} (h : LrnAt n w v lrn0) : ∃ Ax cx Ay cy Az cz, v = .agg #[.slice Ax 0 cx, .int .i64 0, .int .i64 0, .slice Ay 0 cy, .slice Az 0 cz] := by
  obtain ⟨Ax, cx, Ay, cy, Az, cz, e, _⟩ := h.parts
  exact ⟨Ax, cx, Ay, cy, Az, cz, e⟩
theorem put_level_none {n : Nat} {w : World} {a b : Nat} {A : Arn} {T : Trl} (id : Int) (hg : A.get id = none) (h : PutAt n w a b A T) :
    Calls Try.prog 19 #[.pointer (some ⟨a, 0, none⟩), .pointer (some ⟨b, 0, none⟩), .int .i64 id] w fun e w' => e = .returned (.tuple #[.int .i64 0, .int .i64 30]) ∧ Below w.heap.size w w' := by
  obtain ⟨h0, OA, OT, h1, h2, h3, h4, h5⟩ := h
  exact an_level_none a b A id w h1 hg
theorem val0 (v : Int) : (trl0 6).val v = 0 := by
  unfold Trl.val
  cases h : (trl0 6).at ((litV v : Nat) : Int) with
  | none => rfl
  | some s =>
    have h1 := List.mem_of_getElem? (Trl.at_get h)
    rw [List.eq_of_mem_replicate h1]
    exact Int.zero_mul _
theorem right0 (A : Arn) (v : Int) : rightB A (trl0 6) v = false := by
  unfold rightB
  rw [if_pos (val0 v)]
theorem put_levels_bad {w : World} {b : Nat} (cv : Value) (c : List Int) (O : Nat → Prop) (hc : IntsIn O w cv c) (hr : clauseB c = false) (hl : c.length ≤ 1000) :
    Calls Try.prog 13 #[.pointer (some ⟨b, 0, none⟩), cv] w fun e w' => e = .returned (.tuple #[.int .i64 0, .int .i64 20]) ∧ w = w' := an_levels_bad b cv c w hc hr (by omega)
theorem wr_del {L : Nat} {A : Arn} (h : WrA L A) (hL : L ≤ 10) : (A.add ((L : Int) + 3) [-1, 2]).get ((L : Int) + 3) = some [-1, 2] ∧ (A.add ((L : Int) + 3) [-1, 2]).get ((L : Int) + 2) = some [-1, -2] ∧ ∃ p x, (A.add ((L : Int) + 3) [-1, 2]).find ((L : Int) + 2) = some p ∧ (A.add ((L : Int) + 3) [-1, 2]).all[p]? = some x ∧ x.upto - x.fr ≤ (A.add ((L : Int) + 3) [-1, 2]).used ∧ 1 ≤ (A.add ((L : Int) + 3) [-1, 2]).count ∧ (A.add ((L : Int) + 3) [-1, 2]).store.length ≤ 2 * ((A.add ((L : Int) + 3) [-1, 2]).used - (x.upto - x.fr)) + 64 ∧ (A.add ((L : Int) + 3) [-1, 2]).all.length ≤ 2 * ((A.add ((L : Int) + 3) [-1, 2]).count - 1) + 64 ∧ ((A.add ((L : Int) + 3) [-1, 2]).del p x).get ((L : Int) + 3) = some [-1, 2] ∧ ((A.add ((L : Int) + 3) [-1, 2]).del p x).get ((L : Int) + 2) = none := by
  have hlast := h.low.last
  have hid : A.last < (L : Int) + 3 := by omega
  have g3 := h.inv.get_add [-1, 2] hid (by omega)
  have g2 : (A.add ((L : Int) + 3) [-1, 2]).get ((L : Int) + 2) = some [-1, -2] := (h.inv.get_add_ne [-1, 2] (by omega)).trans h.two
  have hf := h.full.add ((L : Int) + 3) [-1, 2]
  have hi := h.inv.add [-1, 2] hid
  obtain ⟨p, x, hp, hx, hlen, hup⟩ := hi.lies g2
  have hpl := (List.getElem?_eq_some_iff.1 hx).1
  have hd := Arn.get_del hp hx
  have hl2 : x.upto - x.fr = 2 := hlen
  have hu := hf.used
  have hc := hf.count
  exact ⟨g3, g2, p, x, hp, hx, by omega, by omega, by omega, by omega, (hd.2 _ (by omega)).trans g3, hd.1⟩
def trP : Trl := ⟨[z4, z4, z4, z4, z4, z4, z4], [], [0, 0]⟩
def tr1 : Trl := ⟨[z4, ⟨1, 0, 0, -1⟩, z4, z4, z4, z4, z4], [-1], [0, 0]⟩
def tr2 : Trl := ⟨[z4, ⟨1, 0, 0, 1⟩, z4, z4, z4, z4, z4], [1], [0, 0]⟩
theorem trP_eq : (trl0 6).push = trP := by kernel_rfl
theorem tr1_eq : trP.assigned (-1) 0 = tr1 := by kernel_rfl
theorem tr1_err : trP.assignErr (-1) 0 = 0 := by kernel_rfl
theorem trD_eq' : tr1.assigned (-2) 0 = trD := by kernel_rfl
theorem trD_err : tr1.assignErr (-2) 0 = 0 := by kernel_rfl
theorem tr2_eq : trP.assigned 1 0 = tr2 := by kernel_rfl
theorem tr2_err : trP.assignErr 1 0 = 0 := by kernel_rfl
theorem trR_eq' {r : Int} (h0 : 0 ≤ r) (h1 : r ≤ 1073741824) : tr2.assigned (-2) r = trR r ∧ tr2.assignErr (-2) r = 0 := by
  have e : (trl0 6).push.assigned 1 0 = tr2 := by kernel_rfl
  rw [← e]
  exact trR_eq h0 h1
theorem put_add_at {n : Nat} {w : World} {a b : Nat} {A : Arn} {T : Trl} {L : Nat} {O : Nat → Prop} (cv : Value) (h : PutAt n w a b A T) (hl : A.Low (L + 2)) (hk : L ≤ 10) (hc : IntsIn O w cv [-1, 2]) :
    Calls Try.prog 22 #[.pointer (some ⟨a, 0, none⟩), .int .i64 ((L : Int) + 3), cv] w fun e w' => e = .returned (.int .i64 0) ∧ PutAt n w' a b (A.add ((L : Int) + 3) [-1, 2]) T ∧ Below n w w' := by
  have := put_add_ok cv [-1, 2] h hl (by omega) hc (by decide) (by decide)
  rwa [show (((L + 2 : Nat) : Int) + 1) = (L : Int) + 3 by omega] at this
set_option maxRecDepth 100000 in
set_option maxHeartbeats 8000000 in
theorem wrong_any (u : Value) (xss : List (List Int)) (n : Int) (w : World) (h : RowsAt .i8 w u xss) (hn1 : -9223372036854775808 ≤ n) (hn2 : n ≤ 9223372036854775807) :
    Calls Try.prog 4 #[u, .int .i64 n] w fun e w' => e = .returned (.bool true) ∧ Below w.heap.size w w' := by
  obtain ⟨i0, hi, hz0, hz1, hz2⟩ := info_parts info_cls
  have HR := Lib.hid h
  have HAW := Lib.hid (awake_any w)
  clear h
  go_enter Try.func4, Try.ntmps4
  go_wp2_with fail
  refine HAW.out.mono ?_
  rintro e w1 ⟨rfl, hb1⟩
  obtain ⟨B, hB⟩ : ∃ B, w1.heap.size = B := ⟨_, rfl⟩
  have hall := all_any u xss 10 w1 (HR.out.below hb1) (by decide)
  obtain ⟨cs, hcs⟩ : ∃ cs, (xss.take 10).map madeL = cs := ⟨_, rfl⟩
  have hcl : cs.length ≤ 10 := by rw [← hcs, List.length_map, List.length_take]; omega
  have HCB := Lib.hid (show ∀ c ∈ cs, clauseB c = true ∧ c.length ≤ 1000 from fun c hc => by
    rw [← hcs] at hc
    obtain ⟨xs, _, rfl⟩ := List.mem_map.1 hc
    exact ⟨madeL_ok xs, by
      unfold madeL
      rw [List.length_map, List.length_take]
      omega⟩)
  rw [hcs, hB, show ((10 : Nat) : Int) = 10 from rfl] at hall
  have HALL := Lib.hid hall
  have HB1 := Lib.hid hb1
  clear hall hb1 hcs HAW
  go_wp2_with fail
  refine HALL.out.mono ?_
  rintro e w2 ⟨v, rfl, hv, hb2⟩
  have HV := Lib.hid hv
  have HB2 := Lib.hid hb2
  have hzB : B ≤ w2.heap.size := by rw [← hB]; exact hb2.size
  have HCL := Lib.hid (clone_cls v cs w2 hv hzB (by omega))
  obtain ⟨L, hL⟩ : ∃ L, cs.length = L := ⟨_, rfl⟩
  have hvs : ∃ Av cv, v = .slice Av L cv := by
    obtain ⟨us, h1, _⟩ := hv
    obtain ⟨A, c, rfl, _⟩ := mx_slice h1
    exact ⟨A, c, by rw [hL]⟩
  obtain ⟨Av, cv, rfl⟩ := hvs
  clear hv hb2 HALL
  go_wp2_with fail
  refine HCL.out.mono ?_
  rintro e w3 ⟨v3, rfl, hv3, hb3⟩
  have hz3 := hb3.size
  have hz3' : B ≤ w3.heap.size := Nat.le_trans hzB hz3
  obtain ⟨us, hu1, hu2⟩ := hv3
  have HU1 := Lib.hid hu1
  have HU2 := Lib.hid hu2
  have HB3 := Lib.hid hb3
  rw [hL] at hu1 hcl
  obtain ⟨A3, c3, rfl, _⟩ := mx_slice hu1
  have HO3 := Lib.hid hu1
  clear hu1 hu2 hb3 HCL
  have hbL : Below w3.heap.size w3 (((w3.alloc (.cells #[.int .i64 1, .int .i64 2] 33)).alloc (.cells #[.int .i64 (-1), .int .i64 (-2)] 33)).alloc (.cells #[.slice (some ⟨w3.heap.size, 0, none⟩) 2 2, .slice (some ⟨w3.heap.size + 1, 0, none⟩) 2 2] 29)) := ((mx_al w3 _).alloc (by simp) _).alloc (by simp; omega) _
  have hnew : ∀ (j : Nat) z, ([.slice (some ⟨w3.heap.size, 0, none⟩) 2 2, .slice (some ⟨w3.heap.size + 1, 0, none⟩) 2 2] : List Value)[j]? = some z → (((w3.alloc (.cells #[.int .i64 1, .int .i64 2] 33)).alloc (.cells #[.int .i64 (-1), .int .i64 (-2)] 33)).alloc (.cells #[.slice (some ⟨w3.heap.size, 0, none⟩) 2 2, .slice (some ⟨w3.heap.size + 1, 0, none⟩) 2 2] 29)).cell? ((⟨w3.heap.size + 1 + 1, 0, none⟩ : Addr).add j) = some z := by
    have := cells_list_new ((w3.alloc (.cells #[.int .i64 1, .int .i64 2] 33)).alloc (.cells #[.int .i64 (-1), .int .i64 (-2)] 33)) [.slice (some ⟨w3.heap.size, 0, none⟩) 2 2, .slice (some ⟨w3.heap.size + 1, 0, none⟩) 2 2] 29
    rwa [World.size_alloc, World.size_alloc] at this
  have ho1 := own_new w3 [.int .i64 1, .int .i64 2] 33 (by decide)
  have ho2 := own_new (w3.alloc (.cells #[.int .i64 1, .int .i64 2] 33)) [.int .i64 (-1), .int .i64 (-2)] 33 (by decide)
  rw [World.size_alloc] at ho2
  have ho1 := own_below (own_below ho1 (mx_al _ (.cells #[.int .i64 (-1), .int .i64 (-2)] 33))) (mx_al _ (.cells #[.slice (some ⟨w3.heap.size, 0, none⟩) 2 2, .slice (some ⟨w3.heap.size + 1, 0, none⟩) 2 2] 29))
  have ho2 := own_below ho2 (mx_al _ (.cells #[.slice (some ⟨w3.heap.size, 0, none⟩) 2 2, .slice (some ⟨w3.heap.size + 1, 0, none⟩) 2 2] 29))
  have HBL := Lib.hid hbL
  have HNEW := Lib.hid hnew
  have HO1 := Lib.hid (own_mono ho1 (show B ≤ w3.heap.size by omega))
  have HO2 := Lib.hid (own_mono ho2 (show B ≤ w3.heap.size + 1 by omega))
  clear hbL hnew ho1 ho2
  go_wp2_with (at_builtin; refine wpList_append_own_at _ rfl _ _ 46 rfl B 29 i0 (.slice none 0 0) 1 24 Try.underlying46 hi hz0 hz1 hz2 rfl (by decide) _ L _ rfl (own_below HO3.out HBL.out) ⟨w3.heap.size + 1 + 1, 0, none⟩ 2 2 [.slice (some ⟨w3.heap.size, 0, none⟩) 2 2, .slice (some ⟨w3.heap.size + 1, 0, none⟩) 2 2] rfl rfl HNEW.out (by simp [Value.oneCell']) (by unfold maxLen; omega) (by omega) (by simp; omega) ?_; intro v4 w4 hown hgrow hnl hat)
  have happ := ClsOwn.append (ds := [[1, 2], [-1, -2]]) (vs := [.slice (some ⟨w3.heap.size, 0, none⟩) 2 2, .slice (some ⟨w3.heap.size + 1, 0, none⟩) 2 2]) HU1.out HU2.out HBL.out (fun i xs hx => by
    match i, hx with
    | 0, hx =>
      obtain rfl := Option.some.inj hx
      exact ⟨_, rfl, HO1.out⟩
    | 1, hx =>
      obtain rfl := Option.some.inj hx
      exact ⟨_, rfl, HO2.out⟩
    | i + 2, hx => cases hx) hgrow (by rw [hL]; exact hown)
  have hb4 : Below B w3 w4 := (HBL.out.mono hz3').grown hgrow (by simp; omega) (fun g hg => (own_lt HO3.out g hg).1)
  have hput := put_any 6 v4 (.slice none 0 0) (cs ++ [[1, 2], [-1, -2]]) [] w4 (by decide) happ.cls (ActsIn.nil _) (by simp; omega) (fun c hc => by
    rcases List.mem_append.1 hc with h | h
    · exact (HCB.out c h).2
    · simp only [List.mem_cons, List.not_mem_nil, or_false] at h
      rcases h with rfl | rfl <;> decide) (by simp)
  have HA := Lib.hid (wrA hL hcl HCB.out)
  obtain ⟨A, hA⟩ : ∃ A, addAll arn0 0 (cs ++ [[1, 2], [-1, -2]]) = A := ⟨_, rfl⟩
  rw [hA] at hput HA
  have HPUT := Lib.hid hput
  have HB4 := Lib.hid ((HB1.out.trans ((hB ▸ HB2.out : Below w1.heap.size w1 w2).mono HB1.out.size)).trans (((HB3.out.mono (by omega : B ≤ w2.heap.size)).trans hb4).mono (by have := HB1.out.size; omega)))
  clear hgrow hnl hat hown happ hb4 hput hA
  refine HPUT.out.mono ?_
  rintro e w5 ⟨a, b, rfl, hpa, hb5⟩
  have HPA := Lib.hid hpa
  have HB5 := Lib.hid (HB4.out.trans (hb5.mono HB4.out.size))
  rw [show playAll (trl0 6) [] = trl0 6 from rfl] at HPA
  obtain ⟨P, hP⟩ : ∃ P, w4.heap.size = P := ⟨_, rfl⟩
  rw [hP] at HPA
  have hPw : w.heap.size ≤ P := by rw [← hP]; exact HB4.out.size
  clear hpa hb5 HPUT
  go_upto_if 49 with fail
  go_cut [9] (fun s9 wx => ∃ N0 : Int, s9 = .int .i64 N0 ∧ Hid (N0 < 1 ∨ (L : Int) + 3 ≤ N0) ∧ Hid (wx = w5))
  case first =>
    by_cases hq : n < 1
    · have q0 : decide (n < 1) = true := by simpa using hq
      go_wp2_with fail
      go_meet
      exact ⟨n, rfl, Lib.hid (.inl hq), Lib.hid rfl⟩
    · have q0 : decide (n < 1) = false := by simpa using hq
      go_wp2_with fail
      go_meet
      exact ⟨max n ((L : Int) + 3), rfl, Lib.hid (.inr (by omega)), Lib.hid rfl⟩
  case rest =>
    obtain ⟨N0, rfl, HN0, HW⟩ := hcut
    clear HO3 HO1 HO2 HNEW HU1 HU2 HBL HR HV HB1 HB2 HB3 HB4 hz3 hz3' hzB hi hz0 hz1 hz2
    have v9 : IntKind.i64.wrap ((L : Int) + 1) = (L : Int) + 1 := IntWalk.i64_in _ (by omega)
    have v10 : IntKind.i64.wrap ((L : Int) + 2) = (L : Int) + 2 := IntWalk.i64_in _ (by omega)
    have v11 : IntKind.i64.wrap ((L : Int) + 3) = (L : Int) + 3 := IntWalk.i64_in _ (by omega)
    have v12 : IntKind.i64.wrap ((L : Int) + 1 + 1) = (L : Int) + 2 := by rw [show (L : Int) + 1 + 1 = (L : Int) + 2 by omega]; exact v10
    have v13 : IntKind.i64.wrap ((L : Int) + 1 + 2) = (L : Int) + 3 := by rw [show (L : Int) + 1 + 2 = (L : Int) + 3 by omega]; exact v11
    have HPW5 := Lib.hid (show PutAt P wc a b A (trl0 6) from by rw [HW.out]; exact HPA.out)
    have HBW5 := Lib.hid (show Below w.heap.size w wc from by rw [HW.out]; exact HB5.out)
    clear HW HPA HB5
    have hc := put_conf N0 HPW5.out
    rw [conf_miss (HA.out.gone N0 HN0.out)] at hc
    have HC := Lib.hid hc
    clear hc
    go_wp2_with fail
    refine HC.out.mono ?_
    rintro e w6 ⟨⟨v, rfl, hv⟩, hb⟩
    obtain ⟨Ax, cx, Ay, cy, Az, cz, rfl⟩ := LrnAt.zero hv
    have HPw6 := Lib.hid (HPW5.out.below hb)
    have HBw6 := Lib.hid (HBW5.out.trans (hb.mono HBW5.out.size))
    clear hb hv HC
    go_wp2_with fail
    obtain ⟨Wa, hWa⟩ : ∃ x, w6.alloc (.cells #[.slice Ax 0 cx, .int .i64 0, .int .i64 0, .slice Ay 0 cy, .slice Az 0 cz] 51) = x := ⟨_, rfl⟩
    have hbA : Below w6.heap.size w6 Wa := by rw [← hWa]; exact mx_al _ _
    have hbx : Wa.heap[w6.heap.size]? = some (.cells #[.slice Ax 0 cx, .int .i64 0, .int .i64 0, .slice Ay 0 cy, .slice Az 0 cz] 51 (0, 0)) := by rw [← hWa]; exact World.alloc_heap_new _ _
    have HWa := Lib.hid hWa
    have HBAWa := Lib.hid hbA
    have HBXWa := Lib.hid hbx
    clear hbA hbx hWa
    rw [HWa.out]
    have HPWa := Lib.hid (HPw6.out.below HBAWa.out)
    have HBWa := Lib.hid (HBw6.out.trans (HBAWa.out.mono HBw6.out.size))
    refine (put_level_none N0 (HA.out.gone N0 HN0.out) HPWa.out).mono ?_
    rintro e w7 ⟨rfl, hb⟩
    have HPw7 := Lib.hid (HPWa.out.below hb)
    have HBw7 := Lib.hid (HBWa.out.trans (hb.mono HBWa.out.size))
    have HY7 := Lib.hid ((hb.block _ (heap_lt HBXWa.out)).trans HBXWa.out)
    clear hb
    have hc := put_conf ((L : Int) + 1) HPw7.out
    rw [conf_free HA.out.one] at hc
    have HC := Lib.hid hc
    clear hc
    go_wp2_with fail
    refine HC.out.mono ?_
    rintro e w8 ⟨⟨v, rfl, hv⟩, hb⟩
    obtain ⟨Bx, dx, By, dy, Bz, dz, rfl⟩ := LrnAt.zero hv
    have HPw8 := Lib.hid (HPw7.out.below hb)
    have HBw8 := Lib.hid (HBw7.out.trans (hb.mono HBw7.out.size))
    have HY8 := Lib.hid ((hb.block _ (heap_lt HY7.out)).trans HY7.out)
    clear hb hv HC
    go_wp2_with fail
    obtain ⟨Wb, hWb⟩ : ∃ x, w8.alloc (.cells #[.slice Bx 0 dx, .int .i64 0, .int .i64 0, .slice By 0 dy, .slice Bz 0 dz] 51) = x := ⟨_, rfl⟩
    have hbA : Below w8.heap.size w8 Wb := by rw [← hWb]; exact mx_al _ _
    have hbx : Wb.heap[w8.heap.size]? = some (.cells #[.slice Bx 0 dx, .int .i64 0, .int .i64 0, .slice By 0 dy, .slice Bz 0 dz] 51 (0, 0)) := by rw [← hWb]; exact World.alloc_heap_new _ _
    have HWb := Lib.hid hWb
    have HBAWb := Lib.hid hbA
    have HBXWb := Lib.hid hbx
    clear hbA hbx hWb
    rw [HWb.out]
    have HPWb := Lib.hid (HPw8.out.below HBAWb.out)
    have HBWb := Lib.hid (HBw8.out.trans (HBAWb.out.mono HBw8.out.size))
    have HYb := Lib.hid ((HBAWb.out.block _ (heap_lt HY8.out)).trans HY8.out)
    have hl := put_level ((L : Int) + 1) [1, 2] HA.out.one HPWb.out
    rw [show (trl0 6).failMax [1, 2] 0 = none from by kernel_rfl, show levelVal none = .tuple #[.int .i64 0, .int .i64 140] from rfl] at hl
    have HL := Lib.hid hl
    clear hl
    refine HL.out.mono ?_
    rintro e w9 ⟨rfl, hb⟩
    have HPw9 := Lib.hid (HPWb.out.below hb)
    have HBw9 := Lib.hid (HBWb.out.trans (hb.mono HBWb.out.size))
    have HY9 := Lib.hid ((hb.block _ (heap_lt HYb.out)).trans HYb.out)
    clear hb HL
    go_wp2_with fail
    obtain ⟨Wc, hWc⟩ : ∃ x, w9.alloc (.cells #[.int .i64 0] 33) = x := ⟨_, rfl⟩
    have hbA : Below w9.heap.size w9 Wc := by rw [← hWc]; exact mx_al _ _
    have hbx : Wc.heap[w9.heap.size]? = some (.cells #[.int .i64 0] 33 (0, 0)) := by rw [← hWc]; exact World.alloc_heap_new _ _
    have HWc := Lib.hid hWc
    have HBAWc := Lib.hid hbA
    have HBXWc := Lib.hid hbx
    clear hbA hbx hWc
    rw [HWc.out]
    have HPWc := Lib.hid (HPw9.out.below HBAWc.out)
    have HBWc := Lib.hid (HBw9.out.trans (HBAWc.out.mono HBw9.out.size))
    have HYc := Lib.hid ((HBAWc.out.block _ (heap_lt HY9.out)).trans HY9.out)
    have hi0 := mx_ints w9 [0] 33
    rw [show (([0] : List Int).map (Value.int .i64)).toArray = #[.int .i64 0] from rfl, HWc.out] at hi0
    have HLB := Lib.hid (put_levels_bad (b := b) (.slice (some ⟨w9.heap.size, 0, none⟩) 1 1) [0] _ hi0 (by decide) (by decide))
    clear hi0
    refine HLB.out.mono ?_
    rintro e w' ⟨rfl, rfl⟩
    have hr := put_right n HPWc.out
    rw [right0 A n] at hr
    have HR := Lib.hid hr
    clear hr HLB
    go_wp2_with fail
    refine HR.out.mono ?_
    rintro e w10 ⟨rfl, hb⟩
    have HPw10 := Lib.hid (HPWc.out.below hb)
    have HBw10 := Lib.hid (HBWc.out.trans (hb.mono HBWc.out.size))
    have hy10 := (hb.block _ (heap_lt HYc.out)).trans HYc.out
    obtain ⟨⟨o0, o1, o2, o3, o4⟩, _⟩ := cells5 hy10
    clear hb HR hy10
    have hc := put_push HPw10.out (show Trl.Low (trl0 6) 5 from ⟨by decide, by decide⟩) (by decide)
    rw [trP_eq] at hc
    have HC := Lib.hid hc
    clear hc
    go_wp2_with fail
    refine HC.out.mono ?_
    rintro e w11 ⟨rfl, hp, hb⟩
    have HPw11 := Lib.hid hp
    have HBw11 := Lib.hid (HBw10.out.trans (hb.mono hPw))
    clear hp hb HC
    clear o0 o1 o2 o3 o4
    have hc := put_assign (-1) 0 HPw11.out (show Trl.Low trP 5 from ⟨by decide, by decide⟩) (by decide)
    rw [tr1_eq, tr1_err] at hc
    have HC := Lib.hid hc
    clear hc
    go_wp2_with fail
    refine HC.out.mono ?_
    rintro e w12 ⟨rfl, hp, hb⟩
    have HPw12 := Lib.hid hp
    have HBw12 := Lib.hid (HBw11.out.trans (hb.mono hPw))
    clear hp hb HC
    have hc := put_assign (-2) 0 HPw12.out (show Trl.Low tr1 5 from ⟨by decide, by decide⟩) (by decide)
    rw [trD_eq', trD_err] at hc
    have HC := Lib.hid hc
    clear hc
    go_wp2_with fail
    refine HC.out.mono ?_
    rintro e w13 ⟨rfl, hp, hb⟩
    have HPw13 := Lib.hid hp
    have HBw13 := Lib.hid (HBw12.out.trans (hb.mono hPw))
    clear hp hb HC
    have hc := put_conf ((L : Int) + 1) HPw13.out
    rw [conf_two HA.out.one] at hc
    have HC := Lib.hid hc
    clear hc
    go_wp2_with fail
    refine HC.out.mono ?_
    rintro e w14 ⟨⟨v, rfl, hv⟩, hb⟩
    obtain ⟨Dx, fx, Dy, fy, Dz, fz, rfl⟩ := LrnAt.zero hv
    have HPw14 := Lib.hid (HPw13.out.below hb)
    have HBw14 := Lib.hid (HBw13.out.trans (hb.mono HBw13.out.size))
    clear hb hv HC
    go_wp2_with fail
    obtain ⟨Wd, hWd⟩ : ∃ x, w14.alloc (.cells #[.slice Dx 0 fx, .int .i64 0, .int .i64 0, .slice Dy 0 fy, .slice Dz 0 fz] 51) = x := ⟨_, rfl⟩
    have hbA : Below w14.heap.size w14 Wd := by rw [← hWd]; exact mx_al _ _
    have hbx : Wd.heap[w14.heap.size]? = some (.cells #[.slice Dx 0 fx, .int .i64 0, .int .i64 0, .slice Dy 0 fy, .slice Dz 0 fz] 51 (0, 0)) := by rw [← hWd]; exact World.alloc_heap_new _ _
    have HWd := Lib.hid hWd
    have HBAWd := Lib.hid hbA
    have HBXWd := Lib.hid hbx
    clear hbA hbx hWd
    rw [HWd.out]
    have HPWd := Lib.hid (HPw14.out.below HBAWd.out)
    have HBWd := Lib.hid (HBw14.out.trans (HBAWd.out.mono HBw14.out.size))
    have hc := put_back 0 0 HPWd.out (by decide) rfl (Nat.zero_le _) (by decide)
    rw [trD_back] at hc
    have HC := Lib.hid hc
    clear hc
    refine HC.out.mono ?_
    rintro e w15 ⟨rfl, hp, hb⟩
    have HPw15 := Lib.hid hp
    have HBw15 := Lib.hid (HBWd.out.trans (hb.mono hPw))
    clear hp hb HC
    have hc := put_push HPw15.out (show Trl.Low (trl0 6) 5 from ⟨by decide, by decide⟩) (by decide)
    rw [trP_eq] at hc
    have HC := Lib.hid hc
    clear hc
    go_wp2_with fail
    refine HC.out.mono ?_
    rintro e w16 ⟨rfl, hp, hb⟩
    have HPw16 := Lib.hid hp
    have HBw16 := Lib.hid (HBw15.out.trans (hb.mono hPw))
    clear hp hb HC
    have hc := put_assign 1 0 HPw16.out (show Trl.Low trP 5 from ⟨by decide, by decide⟩) (by decide)
    rw [tr2_eq, tr2_err] at hc
    have HC := Lib.hid hc
    clear hc
    go_wp2_with fail
    refine HC.out.mono ?_
    rintro e w17 ⟨rfl, hp, hb⟩
    have HPw17 := Lib.hid hp
    have HBw17 := Lib.hid (HBw16.out.trans (hb.mono hPw))
    clear hp hb HC
    have hc := put_assign (-2) ((L : Int) + 2) HPw17.out (show Trl.Low tr2 5 from ⟨by decide, by decide⟩) (by decide)
    rw [(trR_eq' (r := (L : Int) + 2) (by omega) (by omega)).1, (trR_eq' (r := (L : Int) + 2) (by omega) (by omega)).2] at hc
    have HC := Lib.hid hc
    clear hc
    go_wp2_with fail
    refine HC.out.mono ?_
    rintro e w18 ⟨rfl, hp, hb⟩
    have HPw18 := Lib.hid hp
    have HBw18 := Lib.hid (HBw17.out.trans (hb.mono hPw))
    clear hp hb HC
    go_wp2_with fail
    obtain ⟨We, hWe⟩ : ∃ x, w18.alloc (.cells #[.int .i64 (-1), .int .i64 2] 33) = x := ⟨_, rfl⟩
    have hbA : Below w18.heap.size w18 We := by rw [← hWe]; exact mx_al _ _
    have hbx : We.heap[w18.heap.size]? = some (.cells #[.int .i64 (-1), .int .i64 2] 33 (0, 0)) := by rw [← hWe]; exact World.alloc_heap_new _ _
    have HWe := Lib.hid hWe
    have HBAWe := Lib.hid hbA
    have HBXWe := Lib.hid hbx
    clear hbA hbx hWe
    rw [HWe.out]
    have HPWe := Lib.hid (HPw18.out.below HBAWe.out)
    have HBWe := Lib.hid (HBw18.out.trans (HBAWe.out.mono HBw18.out.size))
    have hi0 := mx_ints w18 [-1, 2] 33
    rw [show (([-1, 2] : List Int).map (Value.int .i64)).toArray = #[.int .i64 (-1), .int .i64 2] from rfl, HWe.out] at hi0
    have HAD := Lib.hid (put_add_at (.slice (some ⟨w18.heap.size, 0, none⟩) 2 2) HPWe.out HA.out.low hcl hi0)
    clear hi0
    obtain ⟨A2, hA2⟩ : ∃ x, A.add ((L : Int) + 3) [-1, 2] = x := ⟨_, rfl⟩
    have hwd := wr_del HA.out hcl
    rw [hA2] at hwd HAD
    clear hA2
    obtain ⟨g3, g2, p, x, hfp, hxp, hu, hc1, hs, hl, d3, d2⟩ := hwd
    have G3 := Lib.hid g3
    have G2 := Lib.hid g2
    have D3 := Lib.hid d3
    have D2 := Lib.hid d2
    have HDEL := Lib.hid (fun (W : World) (hP : PutAt P W a b A2 (trR ((L : Int) + 2))) => put_del ((L : Int) + 2) p x hP hfp hxp hu hc1 hs hl)
    obtain ⟨A3, hA3⟩ : ∃ y, A2.del p x = y := ⟨_, rfl⟩
    rw [hA3] at D3 D2 HDEL
    clear hA3 g3 g2 d3 d2 hfp hxp hu hc1 hs hl
    refine HAD.out.mono ?_
    rintro e w19 ⟨rfl, hp, hb⟩
    have HPw19 := Lib.hid hp
    have HBw19 := Lib.hid (HBWe.out.trans (hb.mono hPw))
    clear hp hb HAD
    obtain ⟨y, hy1, hy2⟩ := conf_one G3.out G2.out
    have hc := put_conf ((L : Int) + 3) HPw19.out
    rw [hy1] at hc
    have HC := Lib.hid hc
    clear hc hy1
    go_wp2_with fail
    refine HC.out.mono ?_
    rintro e w20 ⟨⟨v, rfl, hv⟩, hb⟩
    obtain ⟨Ex, kx, Ey, ky, Ez, kz, hve, hx, _, _⟩ := hv.parts
    rw [hy2] at hve hx
    rw [show ([-1] : List Int).length = 1 from rfl] at hve hx
    obtain ⟨y1, hy1⟩ : ∃ z, y.back = z := ⟨_, rfl⟩
    obtain ⟨y2, hy2⟩ : ∃ z, y.levels = z := ⟨_, rfl⟩
    obtain ⟨y3, hy3⟩ : ∃ z, y.hints.length = z := ⟨_, rfl⟩
    obtain ⟨y4, hy4⟩ : ∃ z, y.met.length = z := ⟨_, rfl⟩
    rw [hy1, hy2, hy3, hy4] at hve
    subst hve
    have HPw20 := Lib.hid (HPw19.out.below hb)
    have HBw20 := Lib.hid (HBw19.out.trans (hb.mono HBw19.out.size))
    have HX := Lib.hid hx
    clear hb hv HC hx hy1 hy2 hy3 hy4
    go_wp2_with fail
    obtain ⟨Wf, hWf⟩ : ∃ x, w20.alloc (.cells #[.slice Ex 1 kx, .int .i64 y1, .int .i64 y2, .slice Ey y3 ky, .slice Ez y4 kz] 51) = x := ⟨_, rfl⟩
    have hbA : Below w20.heap.size w20 Wf := by rw [← hWf]; exact mx_al _ _
    have hbx : Wf.heap[w20.heap.size]? = some (.cells #[.slice Ex 1 kx, .int .i64 y1, .int .i64 y2, .slice Ey y3 ky, .slice Ez y4 kz] 51 (0, 0)) := by rw [← hWf]; exact World.alloc_heap_new _ _
    have HWf := Lib.hid hWf
    have HBAWf := Lib.hid hbA
    have HBXWf := Lib.hid hbx
    clear hbA hbx hWf
    have HPWf := Lib.hid (HPw20.out.below HBAWf.out)
    have HBWf := Lib.hid (HBw20.out.trans (HBAWf.out.mono HBw20.out.size))
    have hzf : Wf.heap.size = w20.heap.size + 1 := by rw [← HWf.out]; simp
    have hq := eqc_lit Wf (.slice Ex 1 kx) [-1] [-1] (fun w' hb => HX.out w' (HBAWf.out.trans (hb.mono HBAWf.out.size))) (by decide)
    rw [show ((([-1] : List Int) == [-1]) = true) from rfl, hzf] at hq
    have HQ := Lib.hid hq
    clear hq hzf
    rw [HWf.out]
    refine HQ.out.mono ?_
    rintro e w21 ⟨rfl, hbq⟩
    have hbq' : Below Wf.heap.size Wf w21 := by
      have hzf : Wf.heap.size = w20.heap.size + 1 := by rw [← HWf.out]; simp
      rw [hzf]
      exact hbq
    have HPw21 := Lib.hid (HPWf.out.below hbq')
    have HBw21 := Lib.hid (HBWf.out.trans (hbq'.mono HBWf.out.size))
    clear hbq hbq' HQ
    have hd := HDEL.out w21 HPw21.out
    have HD := Lib.hid hd
    clear hd
    go_wp2_with fail
    refine HD.out.mono ?_
    rintro e w22 ⟨rfl, hp, hb⟩
    have HPw22 := Lib.hid hp
    have HBw22 := Lib.hid (HBw21.out.trans (hb.mono hPw))
    clear hp hb HD
    have hc := put_conf ((L : Int) + 3) HPw22.out
    rw [conf_lost D3.out D2.out] at hc
    have HC := Lib.hid hc
    clear hc
    go_wp2_with fail
    refine HC.out.mono ?_
    rintro e w23 ⟨⟨v, rfl, hv⟩, hb⟩
    obtain ⟨Fx, mx, Fy, my, Fz, mz, rfl⟩ := LrnAt.zero hv
    have HPw23 := Lib.hid (HPw22.out.below hb)
    have HBw23 := Lib.hid (HBw22.out.trans (hb.mono HBw22.out.size))
    clear hb hv HC
    go_wp2_with fail
    go_ret
    exact ⟨rfl, HBw23.out⟩
end Go.Proofs.Ytfbiaclpopjipaa
