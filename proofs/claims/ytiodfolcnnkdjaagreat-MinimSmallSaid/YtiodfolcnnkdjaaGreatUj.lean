/- MinimSmall: calls; without an arena, or a trail. -/
import Derived.Test.YtiodfolcnnkdjaaGreatQl
import Derived.Test.YtiodfolcnnkdjaaGreatAs
namespace Go.Proofs.YtiodfolcnnkdjaaGreat
open Go.RowKit

theorem act_one (l : List ActP) : ∀ u ∈ l.flatMap ActP.cells, u.oneCell' = true := fun u hu => by
 obtain ⟨a, _, ha⟩ := List.mem_flatMap.1 hu
 simp only [ActP.cells, List.mem_cons, List.not_mem_nil, or_false] at ha
 rcases ha with rfl | rfl | rfl <;> rfl
theorem acts_own {w : World} {base : Nat} {v : Value} {l : List ActP} (h : w.ownsRow base 34 3 v l.length (l.flatMap ActP.cells)) : ActsIn w v l := by
 rcases h.2 with ⟨rfl, hn⟩ | ⟨g, cap, cur, rfl, _, hg, _, _, _, hx⟩
 ·
  rw [List.eq_nil_of_length_eq_zero hn]
  exact ActsIn.nil _
 ·
  exact acts_of_block hg rfl hx
set_option maxRecDepth 100000 in
set_option maxHeartbeats 1000000 in
theorem clone_acts (g cap : Nat) (l : List ActP) (w : World) (h : w.ownsRow 0 34 3 (.slice (some ⟨g, 0, none⟩) l.length cap) l.length (l.flatMap ActP.cells)) (hn : l.length ≤ 1000) :
  Calls Tryz.prog 9 #[.slice (some ⟨g, 0, none⟩) l.length cap] w fun e w' => ∃ v', e = .returned v' ∧ w'.ownsRow w.heap.size 34 3 v' l.length (l.flatMap ActP.cells) ∧ Below w.heap.size w w' := by
 obtain ⟨i0, hi, iz0, iz1, iz2⟩ := info_parts ainfo_act
 have hl := h.1
 have hq := fun w => Lib.run_eql_slice_nil (P := Tryz.prog) w 23 34 (some ⟨g, 0, none⟩) l.length cap 0 0 Tryz.underlying23
 have hgl : g < w.heap.size := (own_lt h g rfl).2
 have hnews : ∀ j u, (l.flatMap ActP.cells)[j]? = some u → (w.alloc (.cells #[] 34)).cell? ((⟨g, 0, none⟩ : Addr).add j) = some u := fun j u hj => by
  rw [addr_add, ((Below.refl _ _).alloc (Nat.le_refl _) _).cell (p := ⟨g, j, none⟩) hgl, ← addr_add]
  exact h.cells (g := g) rfl j u hj
 have h0 : (w.alloc (.cells #[] 34)).ownsRow w.heap.size 34 3 (.slice (some ⟨w.heap.size, 0, none⟩) 0 0) 0 [] := ⟨rfl, .inr ⟨w.heap.size, 0, #[], rfl, Nat.le_refl _, World.alloc_heap_new _ _, Nat.le_refl _, Nat.zero_le _, rfl, rfl⟩⟩
 have HN := Lib.hid hnews
 have H0 := Lib.hid h0
 have HL := Lib.hid hl
 clear h hnews h0 hl
 go_enter Tryz.func9, Tryz.ntmps9
 go_wp2_with (at_builtin; refine wpList_append_own_at _ rfl _ _ 23 rfl w.heap.size 34 i0 (.agg #[.bool false, .int .i64 0, .int .i64 0]) 3 24 Tryz.underlying23 hi iz0 iz1 iz2 rfl (by decide) _ _ _ rfl H0.out ⟨g, 0, none⟩ l.length cap (l.flatMap ActP.cells) rfl HL.out HN.out (act_one l) (by unfold maxLen; omega) (by omega) (by simp) ?_; intro v' w1 hown hgrow hnl hat)
 go_ret
 have hB : Below w.heap.size w w1 := ((Below.refl w.heap.size w).alloc (Nat.le_refl _) (.cells #[] 34)).grown hgrow (by simp) (fun g hg => by cases hg; exact Nat.le_refl _)
 exact ⟨_, rfl, by simpa using hown, hB⟩
set_option maxRecDepth 100000 in
set_option maxHeartbeats 2000000 in
theorem del_any (g cap i m base : Nat) (l : List ActP) (w : World) (h : w.ownsRow base 34 3 (.slice (some ⟨g, 0, none⟩) l.length cap) l.length (l.flatMap ActP.cells)) (hl : l.length = i + m + 1) (hb : l.length ≤ 1000) :
  Calls Tryz.prog 10 #[.slice (some ⟨g, 0, none⟩) l.length cap, .int .i64 (i : Int), .int .i64 ((i : Int) + 1)] w fun e w' => e = .returned (.slice (some ⟨g, 0, none⟩) (i + m) cap) ∧ ActsIn w' (.slice (some ⟨g, 0, none⟩) (i + m) cap) (l.eraseIdx i) ∧ Kept (fun k => k = g) w w' := by
 obtain ⟨i0, hi0, hz0, hz1, hz2⟩ := info_parts ainfo_act
 have hle : l.length ≤ cap := by
  obtain ⟨A, c, hv, hc⟩ := mx_slice h
  simp only [Value.slice.injEq, true_and] at hv
  rw [← hv.2] at hc
  exact hc
 obtain ⟨cs, hg, hcs, hcx, hm⟩ : ∃ cs : Array Value, w.heap[g]? = some (.cells cs 34 (0, 0)) ∧ cs.size = cap * 3 ∧ cs.toList.take (l.length * 3) = l.flatMap ActP.cells ∧ cap ≤ maxLen := by
  rcases h.2 with ⟨h1, _⟩ | ⟨g', cap', cur, hv, _, hg, _, hm, hs, hx⟩
  ·
   cases h1
  ·
   cases hv
   exact ⟨cur, hg, hs, hx, hm⟩
 have hfl : (l.flatMap ActP.cells).length = l.length * 3 := actCells_len l
 have hgD : w.drew.heap[g]? = some (.cells cs 34 (0, 0)) := hg
 obtain ⟨Ad, hAd, hAd2⟩ : ∃ Ad : Addr, (if cap = i + 1 then (some ⟨g, 0, none⟩ : Option Addr) else some ⟨g, (i + 1) * 3, none⟩) = some Ad ∧ (0 < m → Ad = ⟨g, (i + 1) * 3, none⟩) := by
  by_cases he : cap = i + 1
  ·
   rw [if_pos he]
   exact ⟨_, rfl, fun hm => by omega⟩
  ·
   rw [if_neg he]
   exact ⟨_, rfl, fun _ => rfl⟩
 obtain ⟨news, hnw⟩ : ∃ x, (l.drop (i + 1)).flatMap ActP.cells = x := ⟨_, rfl⟩
 have hnl0 : news.length = m * 3 := by rw [← hnw, actCells_len, List.length_drop]; omega
 have hnl : news.length = m * i0.size := by rw [hz1, hnl0]
 have hnews : ∀ j u, news[j]? = some u → w.drew.cell? (Ad.add j) = some u := fun j u hj => by
  have hj3 := (List.getElem?_eq_some_iff.1 hj).1
  rw [hAd2 (by omega), addr_add2, mx_cell hgD]
  have e1 : (l.flatMap ActP.cells).drop ((i + 1) * 3) = news := by
   rw [← hnw]
   conv => lhs; rw [← List.take_append_drop (i + 1) l, List.flatMap_append]
   rw [List.drop_append_of_le_length (by rw [actCells_len, List.length_take]; omega), List.drop_eq_nil_of_le (by rw [actCells_len, List.length_take]; omega), List.nil_append]
  rw [← e1, List.getElem?_drop, ← hcx, List.getElem?_take_of_lt (by omega), Array.getElem?_toList] at hj
  exact hj
 have h1 : ∀ u ∈ news, u.oneCell' = true := fun u hu => act_one (l.drop (i + 1)) u (by rw [hnw]; exact hu)
 have hrun := fun ty => run_append_room (P := Tryz.prog) w.drew 23 ty 34 i0 Tryz.underlying23 hi0 g i cap cs hgD Ad m (cap - (i + 1)) news hnl hnews h1 (by omega) (by rw [hnl, hz1, hcs]; omega)
 rw [hz1] at hrun
 obtain ⟨c2, hc2⟩ : ∃ x, (cs.toList.take (i * 3) ++ news ++ cs.toList.drop (i * 3 + news.length)).toArray = x := ⟨_, rfl⟩
 rw [hc2] at hrun
 obtain ⟨W2, hW2⟩ : ∃ x, w.drew.setRow g c2 = x := ⟨_, rfl⟩
 rw [hW2] at hrun
 have hb2 : W2.heap[g]? = some (.cells c2 34 (0, 0)) := by
  rw [← hW2]
  exact setRow_heap w.drew g cs _ _ _ hgD
 have hk2 : Kept (fun k => k = g) w W2 := by
  rw [← hW2]
  exact ⟨rfl, rfl, rfl, by simp, fun k _ hk => setRow_other w.drew g k _ hk⟩
 have hs2 : c2.size = cap * 3 := by
  rw [← hc2]
  simp only [List.size_toArray, List.length_append, List.length_take, List.length_drop, Array.length_toList, hcs, hnl0]
  omega
 have ht2 : c2.toList.take ((i + m) * 3) = (l.eraseIdx i).flatMap ActP.cells := by
  rw [← hc2, List.toList_toArray, List.eraseIdx_eq_take_drop_succ, List.flatMap_append, hnw]
  have e1 : cs.toList.take (i * 3) = (l.take i).flatMap ActP.cells := by
   have e2 : (l.flatMap ActP.cells).take (i * 3) = (l.take i).flatMap ActP.cells := by
    conv => lhs; rw [← List.take_append_drop i l, List.flatMap_append]
    rw [List.take_append_of_le_length (by rw [actCells_len, List.length_take]; omega), List.take_of_length_le (by rw [actCells_len, List.length_take]; omega)]
   rw [← e2, ← hcx, List.take_take, Nat.min_eq_left (by omega)]
  rw [e1]
  have e3 : ((l.take i).flatMap ActP.cells ++ news).length = (i + m) * 3 := by
   rw [List.length_append, actCells_len, List.length_take, hnl0]
   omega
  rw [List.take_append_of_le_length (Nat.le_of_eq e3.symm), List.take_of_length_le (Nat.le_of_eq e3)]
 have hcl := fun ty c => run_clear3 W2 ty g ((i + m) * 3) c (fun j hj => by rw [mx_cell hb2, Array.getElem?_eq_getElem (by omega)]; rfl) (fun j _ => mx_free hb2)
 obtain ⟨W3, hW3⟩ : ∃ x, W2.setCells g ((i + m) * 3) [.bool false, .int .i64 0, .int .i64 0] = x := ⟨_, rfl⟩
 rw [hW3] at hcl
 have hb3 : W3.heap[g]? = some (.cells (((c2.setIfInBounds ((i + m) * 3) (.bool false)).setIfInBounds ((i + m) * 3 + 1) (.int .i64 0)).setIfInBounds ((i + m) * 3 + 2) (.int .i64 0)) 34 (0, 0)) := by
  rw [← hW3]
  exact mx_set (j := (i + m) * 3 + 2) (mx_set (j := (i + m) * 3 + 1) (mx_set (j := (i + m) * 3) hb2 _) _) _
 have hk3 : Kept (fun k => k = g) w W3 := by
  rw [← hW3]
  exact ((hk2.setCell ⟨g, (i + m) * 3, none⟩ _ rfl).setCell ⟨g, (i + m) * 3 + 1, none⟩ _ rfl).setCell ⟨g, (i + m) * 3 + 2, none⟩ _ rfl
 have hA := acts_of_block (n := i + m) (c := cap) (l := l.eraseIdx i) hb3 (by rw [List.length_eraseIdx_of_lt (by omega)]; omega) (by
  rw [← ht2]
  simp only [Array.toList_setIfInBounds]
  rw [List.take_set_of_le (by omega), List.take_set_of_le (by omega), List.take_set_of_le (by omega)])
 have HRUN := Lib.hid hrun
 have HCL := Lib.hid hcl
 have HA := Lib.hid hA
 have HK3 := Lib.hid hk3
 clear hg hcs hgD hnl hnews h1 hrun hW2 hb2 hk2 hs2 ht2 hcl hW3 hb3 hk3 hA hi0 hz0 hz1 hz2 h hcx hfl hnw hnl0 hc2 hAd2
 have HAD := Lib.hid hAd
 clear hAd
 obtain ⟨L, hL⟩ : ∃ x, l.length = x := ⟨_, rfl⟩
 rw [hL] at hle hl hb ⊢
 clear hL
 unfold maxLen at hm
 have hic : i ≤ cap := by omega
 have hi1 : i + 1 ≤ L := by omega
 have hm2 : L - (i + 1) = m := by omega
 have cn1 : (0 : Int) ≤ (i : Int) + 1 := by omega
 have cn2 : (i : Int) ≤ (i : Int) + (m : Int) := by omega
 have hAd := HAD.out
 go_enter Tryz.func10, Tryz.ntmps10
 go_upto_region 5 with fail
 refine wp_region_held_drew (S := fun _ => True) (by kernel_rfl) trivial (fun hS => ?_)
 refine takeE 0 20 ?_
 refine takeE 1 21 ?_
 refine takeE 2 22 ?_
 refine takeE 3 23 ?_
 refine takeE 4 24 ?_
 refine takeE 5 25 ?_
 refine ready1 6 (fun K hK => ?_)
 rw [if_pos (by rfl)]
 refine wp_append_run 26 (by rfl) _ _ 23 rfl _ _ (by rfl) (by rfl) (by first | exact HRUN.out _ | (simp only [HAD.out]; exact HRUN.out _)) ?_
 refine hK.out _ _ trivial (fun _ => ?_)
 clear hK
 simp only [Act.put, List.setIfInBounds_toArray, List.set_cons_zero, List.set_cons_succ]
 refine takeE 7 0 ?_
 refine wpAnyH_done (by kernel_rfl) ?_ _
 have hcl := HCL.out
 go_wp2_with fail
 go_ret
 exact ⟨rfl, HA.out, HK3.out⟩
theorem nil_start (w : World) : ∃ W0, ((w.alloc (.cells #[.slice none 0 0, .int .i64 0, .int .i64 0, .slice none 0 0, .slice none 0 0] 44)).alloc (.cells #[.int .i64 1] 45)) = W0 ∧ Below w.heap.size w W0 ∧ W0.heap[w.heap.size]? = some (.cells #[.slice none 0 0, .int .i64 0, .int .i64 0, .slice none 0 0, .slice none 0 0] 44 (0, 0)) ∧ W0.heap[w.heap.size + 1]? = some (.cells #[.int .i64 1] 45 (0, 0)) := by
 refine ⟨_, rfl, (mx_al _ _).alloc (by simp) _, ?_, ?_⟩
 ·
  rw [Below.heap_alloc _ _ _ (by simp)]
  exact World.alloc_heap_new _ _
 ·
  have := World.alloc_heap_new (w.alloc (.cells #[.slice none 0 0, .int .i64 0, .int .i64 0, .slice none 0 0, .slice none 0 0] 44)) (.cells #[.int .i64 1] 45)
  rwa [World.size_alloc] at this
set_option maxRecDepth 100000 in
set_option maxHeartbeats 4000000 in
theorem conf_nil (pa pb : Option Addr) (id : Int) (w : World) (hp : (pa = none) ∨ (∃ ad, pa = some ad ∧ pb = none)) :
  Calls Tryz.prog 40 #[.pointer pa, .pointer pb, .int .i64 id] w fun e w' => e = .returned (.tuple #[.agg #[.slice none 0 0, .int .i64 0, .int .i64 0, .slice none 0 0, .slice none 0 0], .int .i64 1]) ∧ Below w.heap.size w w' := by
 obtain ⟨W0, hW0, hb0, hs6, hs7⟩ := nil_start w
 have HW0 := Lib.hid hW0
 have HB0 := Lib.hid hb0
 have H6 := Lib.hid hs6
 have H7 := Lib.hid hs7
 clear hW0 hb0 hs6 hs7
 rcases hp with rfl | ⟨ad, rfl, rfl⟩
 all_goals
  refine (callsIn_wide (n := 9)).1 ?_
  refine callsIn_of_wp_marks Tryz.func40 rfl trivial ?_ rfl
  simp only [Tryz.ntmps40, List.size_toArray, List.length_cons, List.length_nil, Nat.reduceAdd, Nat.reduceSub, Array.replicate_succ, Array.replicate_zero, List.push_toArray, List.append_toArray, List.nil_append, List.cons_append]
  gi_wp2
  refine wpIn_wide.2 (wp_scope_straight ((wpIn_wide (n := 9)).1 ?_))
  gi_wp2_with fail
  rw [Exit.noGoto_ret, HW0.out]
  exact ⟨_, res_learned rfl H6.out H7.out _ rfl rfl, rfl, HB0.out⟩
theorem own_puts {w : World} {base size n c g : Nat} {e : TypeId} {xs : List Value} (j : Nat) (h : w.ownsRow base e size (.slice (some ⟨g, 0, none⟩) n c) n xs) (v : Value) :
  (w.setCell ⟨g, j, none⟩ v).ownsRow base e size (.slice (some ⟨g, 0, none⟩) n c) n (xs.set j v) := by
 obtain ⟨h0, h1⟩ := h
 rcases h1 with ⟨h1, _⟩ | ⟨g', cap, cur, hv, hb, hg, hle, hm, hs, hx⟩
 ·
  cases h1
 ·
  cases hv
  refine ⟨by rw [List.length_set, h0], .inr ⟨g, c, _, rfl, hb, mx_set hg _, hle, hm, by simpa using hs, ?_⟩⟩
  rw [Array.toList_setIfInBounds, List.take_set, hx]
theorem kept_below {O : Nat → Prop} {n : Nat} {w w' : World} (h : Kept O w w') (hO : ∀ g, O g → n ≤ g) (hn : n ≤ w.heap.size) : Below n w w' :=
 ⟨h.os, h.tape, h.output, h.size, fun k hk => h.block k (by omega) (fun ho => by have := hO k ho; omega)⟩
theorem own_free {w : World} {base size n c g : Nat} {e : TypeId} {xs : List Value} (h : w.ownsRow base e size (.slice (some ⟨g, 0, none⟩) n c) n xs) (j : Nat) : w.frozen? ⟨g, j, none⟩ = false := by
 rcases h.2 with ⟨h1, _⟩ | ⟨g', cap, cur, hv, _, hg, _⟩
 ·
  cases h1
 ·
  cases hv
  exact mx_free hg
theorem act_set (l : List ActP) (p : Nat) (x : ActP) (z : Int) (hx : l[p]? = some x) : (l.flatMap ActP.cells).set (p * 3 + 2) (.int .i64 z) = (l.set p ⟨x.push, x.l, z⟩).flatMap ActP.cells := by
 induction l generalizing p with
 | nil => cases hx
 | cons y l ih =>
  cases p with
  | zero =>
   obtain rfl := Option.some.inj hx
   rfl
  | succ p =>
   rw [List.set_cons_succ, List.flatMap_cons, List.flatMap_cons, ← ih p (by simpa using hx), List.set_append_right _ _ (by simp only [ActP.cells, List.length_cons, List.length_nil]; omega)]
   simp only [ActP.cells, List.length_cons, List.length_nil]
   congr 2
   omega
theorem own_acts_new (W : World) (l : List ActP) (n : Nat) (hl : l.length = n) (hn : n ≤ 1000) : (W.alloc (.cells (l.flatMap ActP.cells).toArray 34)).ownsRow W.heap.size 34 3 (.slice (some ⟨W.heap.size, 0, none⟩) n n) n (l.flatMap ActP.cells) := by
 subst hl
 refine ⟨actCells_len l, .inr ⟨_, _, _, rfl, Nat.le_refl _, World.alloc_heap_new _ _, Nat.le_refl _, by unfold maxLen; omega, ?_, ?_⟩⟩
 ·
  rw [List.size_toArray, actCells_len]
 ·
  rw [List.toList_toArray, List.take_of_length_le (Nat.le_of_eq (actCells_len l))]
set_option maxRecDepth 100000 in
set_option maxHeartbeats 1000000 in
theorem start_nil (pa pb : Option Addr) (u : Value) (w : World) (hp : pa = none ∨ ∃ ad, pa = some ad ∧ pb = none) :
    Calls Tryz.prog 41 #[.pointer pa, .pointer pb, u] w fun e w' => e = .returned (.tuple #[.agg #[.pointer none, .pointer none, .slice none 0 0, .map none], .int .i64 1]) ∧ Below w.heap.size w w' := by
  obtain ⟨wa, hwa⟩ : ∃ z, w.alloc (.cells #[.pointer none, .pointer none, .slice none 0 0, .map none] 87) = z := ⟨_, rfl⟩
  have HBA := Lib.hid (show Below w.heap.size w wa from by rw [← hwa]; exact mx_al _ _)
  have HBN := Lib.hid (show wa.heap[w.heap.size]? = some (.cells #[.pointer none, .pointer none, .slice none 0 0, .map none] 87 (0, 0)) from by rw [← hwa]; exact World.alloc_heap_new _ _)
  have HWA := Lib.hid hwa
  clear hwa
  rcases hp with rfl | ⟨ad, rfl, rfl⟩
  all_goals
    go_enter Tryz.func41, Tryz.ntmps41
    go_wp2_with fail
    rw [HWA.out]
    exact bodyPost_ret (v := .tuple #[.agg #[.pointer none, .pointer none, .slice none 0 0, .map none], .int .i64 1]) (res_work rfl HBN.out _ rfl rfl) rfl ⟨rfl, HBA.out⟩
set_option maxRecDepth 100000 in
set_option maxHeartbeats 1000000 in
theorem covered_nil (pa pb : Option Addr) (u : Value) (l : Int) (w : World) (hp : pa = none ∨ ∃ ad, pa = some ad ∧ pb = none) :
    Calls Tryz.prog 16 #[.pointer pa, .pointer pb, u, .int .i64 l] w fun e w' => e = .returned (.tuple #[.bool false, .int .i64 1]) ∧ Below w.heap.size w w' := by
  have HS := Lib.hid (start_nil pa pb u w hp)
  clear hp
  go_enter Tryz.func16, Tryz.ntmps16
  go_wp2_with fail
  refine HS.out.mono ?_
  rintro e w1 ⟨rfl, hb⟩
  have HB := Lib.hid hb
  clear hb HS
  go_wp2_with fail
  go_ret2
  exact ⟨rfl, HB.out.trans ((mx_al _ _).mono HB.out.size)⟩
set_option maxRecDepth 100000 in
set_option maxHeartbeats 1000000 in
theorem redundant_nil (pa pb : Option Addr) (u : Value) (l : Int) (w : World) (hp : pa = none ∨ ∃ ad, pa = some ad ∧ pb = none) :
    Calls Tryz.prog 17 #[.pointer pa, .pointer pb, u, .int .i64 l] w fun e w' => e = .returned (.tuple #[.bool false, .int .i64 1]) ∧ Below w.heap.size w w' := by
  have HS := Lib.hid (start_nil pa pb u w hp)
  clear hp
  go_enter Tryz.func17, Tryz.ntmps17
  go_wp2_with fail
  refine HS.out.mono ?_
  rintro e w1 ⟨rfl, hb⟩
  have HB := Lib.hid hb
  clear hb HS
  go_wp2_with fail
  go_ret2
  exact ⟨rfl, HB.out.trans ((mx_al _ _).mono HB.out.size)⟩
set_option maxRecDepth 100000 in
set_option maxHeartbeats 1000000 in
theorem shorten_nil (pa pb : Option Addr) (u : Value) (w : World) (hp : pa = none ∨ ∃ ad, pa = some ad ∧ pb = none) :
    Calls Tryz.prog 18 #[.pointer pa, .pointer pb, u] w fun e w' => e = .returned (.tuple #[.slice none 0 0, .int .i64 1]) ∧ Below w.heap.size w w' := by
  have HS := Lib.hid (start_nil pa pb u w hp)
  clear hp
  go_enter Tryz.func18, Tryz.ntmps18
  go_wp2_with fail
  refine HS.out.mono ?_
  rintro e w1 ⟨rfl, hb⟩
  have HB := Lib.hid hb
  clear hb HS
  go_wp2_with fail
  go_ret2
  exact ⟨rfl, HB.out.trans ((mx_al _ _).mono HB.out.size)⟩
set_option maxRecDepth 100000 in
set_option maxHeartbeats 1000000 in
theorem hints_nil (pa pb : Option Addr) (u : Value) (l : Int) (w : World) (hp : pa = none ∨ ∃ ad, pa = some ad ∧ pb = none) :
    Calls Tryz.prog 25 #[.pointer pa, .pointer pb, .int .i64 l, u] w fun e w' => e = .returned (.tuple #[.slice none 0 0, .int .i64 1]) ∧ Below w.heap.size w w' := by
  have HS := Lib.hid (start_nil pa pb u w hp)
  clear hp
  go_enter Tryz.func25, Tryz.ntmps25
  go_wp2_with fail
  refine HS.out.mono ?_
  rintro e w1 ⟨rfl, hb⟩
  have HB := Lib.hid hb
  clear hb HS
  go_wp2_with fail
  go_ret2
  exact ⟨rfl, HB.out.trans ((mx_al _ _).mono HB.out.size)⟩
set_option maxRecDepth 100000 in
set_option maxHeartbeats 2000000 in
theorem minconf_nil (pa pb : Option Addr) (id : Int) (w : World) (hp : pa = none ∨ ∃ ad, pa = some ad ∧ pb = none) :
    Calls Tryz.prog 15 #[.pointer pa, .pointer pb, .int .i64 id] w fun e w' => e = .returned (.tuple #[.agg #[.slice none 0 0, .int .i64 0, .int .i64 0, .slice none 0 0, .slice none 0 0], .int .i64 1]) ∧ Below w.heap.size w w' := by
  obtain ⟨wa, hwa⟩ : ∃ z, w.alloc (.cells #[.slice none 0 0, .int .i64 0, .int .i64 0, .slice none 0 0, .slice none 0 0] 44) = z := ⟨_, rfl⟩
  have HBA := Lib.hid (show Below w.heap.size w wa from by rw [← hwa]; exact mx_al _ _)
  have HBN := Lib.hid (show wa.heap[w.heap.size]? = some (.cells #[.slice none 0 0, .int .i64 0, .int .i64 0, .slice none 0 0, .slice none 0 0] 44 (0, 0)) from by rw [← hwa]; exact World.alloc_heap_new _ _)
  have HWA := Lib.hid hwa
  have HS := Lib.hid (conf_nil pa pb id wa hp)
  clear hwa hp
  go_enter Tryz.func15, Tryz.ntmps15
  go_upto_region 1 with fail
  rw [HWA.out]
  go_wp2_with fail
  refine HS.out.mono ?_
  rintro e w1 ⟨rfl, hb⟩
  obtain ⟨w2, hw2⟩ : ∃ z, w1.alloc (.cells #[.slice none 0 0, .int .i64 0, .int .i64 0, .slice none 0 0, .slice none 0 0] 44) = z := ⟨_, rfl⟩
  have hb2 : Below w1.heap.size w1 w2 := by rw [← hw2]; exact mx_al _ _
  have HB := Lib.hid (hb.trans (hb2.mono hb.size))
  have HN2 := Lib.hid ((HB.out.block _ (heap_lt HBN.out)).trans HBN.out)
  obtain ⟨⟨p0, p1, p2, p3, p4⟩, f0, f1, f2, f3, f4⟩ := cells5 HN2.out
  have HW2 := Lib.hid hw2
  clear hb hb2 hw2 HS
  go_upto_region 2 with fail
  rw [HW2.out]
  go_wp2_with fail
  obtain ⟨Wf, hWf⟩ : ∃ q, ((((w2.setCell ⟨w.heap.size, 0, none⟩ (.slice none 0 0)).setCell ⟨w.heap.size, 1, none⟩ (.int .i64 0)).setCell ⟨w.heap.size, 2, none⟩ (.int .i64 0)).setCell ⟨w.heap.size, 3, none⟩ (.slice none 0 0)).setCell ⟨w.heap.size, 4, none⟩ (.slice none 0 0) = q := ⟨_, rfl⟩
  have hr : Wf.heap[w.heap.size]? = some (.cells #[.slice none 0 0, .int .i64 0, .int .i64 0, .slice none 0 0, .slice none 0 0] 44 (0, 0)) := by rw [← hWf]; exact mx_set (j := 4) (mx_set (j := 3) (mx_set (j := 2) (mx_set (j := 1) (mx_set (j := 0) HN2.out _) _) _) _) _
  have hbf : Below w.heap.size w Wf := by rw [← hWf]; exact (((((HBA.out.trans (HB.out.mono HBA.out.size)).setCell (Nat.le_refl _) _).setCell (Nat.le_refl _) _).setCell (Nat.le_refl _) _).setCell (Nat.le_refl _) _).setCell (Nat.le_refl _) _
  rw [hWf]
  exact bodyPost_ret (v := .tuple #[.agg #[.slice none 0 0, .int .i64 0, .int .i64 0, .slice none 0 0, .slice none 0 0], .int .i64 1]) (res_mlrn rfl hr _ rfl rfl) rfl ⟨rfl, hbf⟩
theorem ClsAt.nil15 (w : World) : ClsAt w (.slice none 0 0) [] := ⟨none, 0, rfl, fun i xs h => by simp at h⟩
set_option maxRecDepth 100000 in
set_option maxHeartbeats 4000000 in
theorem none15_any (w : World) : Calls Tryz.prog 11 #[] w fun e w' => e = .returned (.bool true) ∧ Below w.heap.size w w' := by
  have HPUT := Lib.hid (put_any 2 (.slice none 0 0) (.slice none 0 0) [] [] w (by decide) (ClsAt.nil15 w) (ActsIn.nil _) (by decide) (fun c h => by cases h) (by decide))
  go_enter Tryz.func11, Tryz.ntmps11
  go_wp2_with fail
  refine HPUT.out.mono ?_
  rintro e w1 ⟨a, b, rfl, _, hb1⟩
  have HB1 := Lib.hid hb1
  obtain ⟨w2, hw2⟩ : ∃ z, w1.alloc (.cells #[.int .i64 0] 31) = z := ⟨_, rfl⟩
  have HB2 := Lib.hid (show Below w.heap.size w w2 from hb1.trans (by rw [← hw2]; exact (mx_al _ _).mono hb1.size))
  have HW2 := Lib.hid hw2
  clear hb1 hw2 HPUT
  go_wp2_with fail
  rw [HW2.out]
  refine (covered_nil none (some ⟨b, 0, none⟩) _ 1 w2 (.inl rfl)).mono ?_
  rintro e w3 ⟨rfl, hb⟩
  have HB3 := Lib.hid (HB2.out.trans (hb.mono HB2.out.size))
  clear hb
  go_wp2_with fail
  refine (redundant_nil (some ⟨a, 0, none⟩) none (.slice none 0 0) 1 w3 (.inr ⟨_, rfl, rfl⟩)).mono ?_
  rintro e w4 ⟨rfl, hb⟩
  have HB4 := Lib.hid (HB3.out.trans (hb.mono HB3.out.size))
  clear hb
  go_wp2_with fail
  refine (shorten_nil none none (.slice none 0 0) w4 (.inl rfl)).mono ?_
  rintro e w5 ⟨rfl, hb⟩
  have HB5 := Lib.hid (HB4.out.trans (hb.mono HB4.out.size))
  clear hb
  go_wp2_with fail
  refine (hints_nil (some ⟨a, 0, none⟩) none (.slice none 0 0) 1 w5 (.inr ⟨_, rfl, rfl⟩)).mono ?_
  rintro e w6 ⟨rfl, hb⟩
  have HB6 := Lib.hid (HB5.out.trans (hb.mono HB5.out.size))
  clear hb
  go_wp2_with fail
  refine (minconf_nil none (some ⟨b, 0, none⟩) 1 w6 (.inl rfl)).mono ?_
  rintro e w7 ⟨rfl, hb⟩
  have HB7 := Lib.hid (HB6.out.trans (hb.mono HB6.out.size))
  obtain ⟨w8, hw8⟩ : ∃ z, w7.alloc (.cells #[.slice none 0 0, .int .i64 0, .int .i64 0, .slice none 0 0, .slice none 0 0] 44) = z := ⟨_, rfl⟩
  have hb8 : Below w7.heap.size w7 w8 := by rw [← hw8]; exact mx_al _ _
  have hn8 : w8.heap[w7.heap.size]? = some (.cells #[.slice none 0 0, .int .i64 0, .int .i64 0, .slice none 0 0, .slice none 0 0] 44 (0, 0)) := by rw [← hw8]; exact World.alloc_heap_new _ _
  obtain ⟨w9, hw9⟩ : ∃ z, w8.alloc (.cells #[.int .i64 1, .int .i64 1, .int .i64 1, .int .i64 1, .int .i64 1] 45) = z := ⟨_, rfl⟩
  have hb9 : Below w8.heap.size w8 w9 := by rw [← hw9]; exact mx_al _ _
  have hn9 : w9.heap[w8.heap.size]? = some (.cells #[.int .i64 1, .int .i64 1, .int .i64 1, .int .i64 1, .int .i64 1] 45 (0, 0)) := by rw [← hw9]; exact World.alloc_heap_new _ _
  have HW8 := Lib.hid hw8
  have HW9 := Lib.hid hw9
  have HB9 := Lib.hid (HB7.out.trans ((hb8.trans (hb9.mono hb8.size)).mono HB7.out.size))
  have HN8 := Lib.hid ((hb9.block _ (heap_lt hn8)).trans hn8)
  have HN9 := Lib.hid hn9
  clear hb hw8 hb8 hn8 hw9 hb9 hn9
  go_upto_region 9 with fail
  rw [HW8.out]
  go_wp2_with fail
  rw [HW9.out]
  go_loopw [55] (fun iv wr => ∃ (k : Nat), k ≤ 5 ∧ iv = .int .i64 k ∧ Hid (Below w9.heap.size w9 wr)) (fun iv _ => 5 - (intOf iv).toNat)
  case atStart => exact ⟨0, Nat.zero_le _, rfl, Lib.hid (Below.refl _ _)⟩
  case round =>
    obtain ⟨k, hk, rfl, HE⟩ := hrel
    by_cases hlt : k < 5
    · have hq : decide ((k : Int) < 5) = true := by simp; omega
      have hq1 : (k : Int) < 5 := by omega
      have c0 : wr.cell? ⟨w8.heap.size, k, none⟩ = some (.int .i64 1) := by
        have := fun (j : Nat) => mx_cell (j := j) ((HE.out.block _ (heap_lt HN9.out)).trans HN9.out)
        match k, hlt with
        | 0, _ => exact this 0
        | 1, _ => exact this 1
        | 2, _ => exact this 2
        | 3, _ => exact this 3
        | 4, _ => exact this 4
      go_wp2_with fail
      go_roundw
      case rel => exact ⟨k + 1, by omega, by go_num, HE⟩
      case measure => simp [intOf]; omega
    · have hq : decide ((k : Int) < 5) = false := by simp; omega
      obtain ⟨⟨p0, p1, p2, p3, p4⟩, _⟩ := cells5 ((HE.out.block _ (heap_lt HN8.out)).trans HN8.out)
      go_wp2_with fail
      go_ret
      exact ⟨rfl, HB9.out.trans (HE.out.mono HB9.out.size)⟩
end Go.Proofs.YtiodfolcnnkdjaaGreat
