/- The references of chapter 15: Hints. -/
import Derived.Test.YtiodfolcnnkdjaaGreatDd
import Derived.Test.YtiodfolcnnkdjaaGreatAm
import Derived.Test.YtiodfolcnnkdjaaGreatDf
namespace Go.Proofs.YtiodfolcnnkdjaaGreat
open Go.RowKit

set_option maxRecDepth 100000 in
set_option maxHeartbeats 1000000 in
theorem ref_has15 {O : Nat → Prop} (x : Int) (u : Value) (l : List Int) (w : World) (h : IntsIn O w u l) (hl : l.length ≤ 10000000000) :
  Calls Tryz.prog 60 #[u, .int .i64 x] w fun e w' => e = .returned (.bool (l.contains x)) ∧ w = w' := by
 obtain ⟨A, c, rfl, hc, _, hx⟩ := h
 have HX := Lib.hid hx
 clear hx
 obtain ⟨bb, hbb⟩ : ∃ b, l.contains x = b := ⟨_, rfl⟩
 rw [hbb]
 have HBB := Lib.hid hbb
 clear hbb
 go_enter Tryz.func60, Tryz.ntmps60
 go_wp2_with fail
 go_loop [5] (fun i => ∃ k : Nat, k ≤ l.length ∧ i = .int .i64 k ∧ Hid (bb = (l.drop k).contains x)) (fun i => l.length - (intOf i).toNat)
 case atStart => exact ⟨0, Nat.zero_le _, rfl, Lib.hid HBB.out.symm⟩
 case round =>
  obtain ⟨k, hk, rfl, HE⟩ := hrel
  by_cases hlt : k < l.length
  ·
   obtain ⟨y, hy⟩ := getElem_of hlt
   obtain ⟨g, o, rfl, hg, _, d0⟩ := HX.out k y hy
   have hdr := drop_at hy
   clear hy
   by_cases hq : y = x
   ·
    have q1 : (y == x) = true := by simpa using hq
    have HN := Lib.hid (show bb = true from by rw [HE.out, hdr, List.contains_cons, Bool.or_eq_true]; exact .inl (by simpa using hq.symm))
    clear hq hdr
    go_wp2_with fail
    go_ret
    exact ⟨by rw [HN.out]; rfl, rfl⟩
   ·
    have q1 : (y == x) = false := by simpa using hq
    have HN := Lib.hid (show bb = (l.drop (k + 1)).contains x from by rw [HE.out, hdr, List.contains_cons, show (x == y) = false from by simpa using fun e : x = y => hq e.symm, Bool.false_or])
    clear hq hdr
    go_wp2_with fail
    go_round
    case rel => exact ⟨k + 1, by omega, by go_num, HN⟩
    case measure => simp [intOf]; omega
  ·
   obtain rfl : k = l.length := by omega
   have hE := HE.out
   rw [List.drop_length] at hE
   have HN := Lib.hid (show bb = false from hE)
   clear hE
   go_wp2_with fail
   go_ret
   exact ⟨by rw [HN.out]; rfl, rfl⟩
def rV15 (l : List Int) : List Int := l.map fun x => (litV x : Int)
theorem rV15_snoc {l : List Int} {k : Nat} {x : Int} (h : l[k]? = some x) : rV15 (l.take (k + 1)) = rV15 (l.take k) ++ [(litV x : Int)] := by
 unfold rV15
 rw [List.take_add_one, h]
 simp
set_option maxRecDepth 100000 in
set_option maxHeartbeats 1000000 in
theorem ref_vars15 {O : Nat → Prop} (u : Value) (l : List Int) (w : World) (h : IntsIn O w u l) (hl : l.length ≤ 1000000) :
  Calls Tryz.prog 58 #[u] w fun e w' => (∃ v, e = .returned v ∧ w'.ownsRow w.heap.size 3 1 v (rV15 l).length ((rV15 l).map (Value.int .i64))) ∧ Below w.heap.size w w' := by
 obtain ⟨i0, hi0, hi1, hi2, hi3⟩ := info_parts tinfo_int
 have HU := Lib.hid h
 obtain ⟨A, c, rfl, _, _, _⟩ := h
 go_enter Tryz.func58, Tryz.ntmps58
 go_wp2_with fail
 go_loopw [3, 4] (fun v i wr => ∃ k : Nat, k ≤ l.length ∧ i = .int .i64 k ∧ Hid (wr.ownsRow w.heap.size 3 1 v k ((rV15 (l.take k)).map (Value.int .i64))) ∧ Hid (Below w.heap.size w wr)) (fun _ i _ => l.length - (intOf i).toNat)
 case atStart => exact ⟨0, Nat.zero_le _, rfl, Lib.hid (World.ownsRow_nil _ _ _ _), Lib.hid (Below.refl _ _)⟩
 case round =>
  obtain ⟨k, hk, rfl, HV, HB⟩ := hrel
  have hzw := HB.out.size
  obtain ⟨Av, cv, rfl, _⟩ := mx_slice HV.out
  by_cases hlt : k < l.length
  ·
   obtain ⟨x, hx⟩ := getElem_of hlt
   obtain ⟨A', c', hA, hc, _, hxs⟩ := HU.out.below HB.out
   simp only [Value.slice.injEq, true_and] at hA
   obtain ⟨rfl, rfl⟩ := hA
   obtain ⟨g, o, rfl, hg, _, d0⟩ := hxs k x hx
   have HN := Lib.hid (rV15_snoc hx)
   have hkc : k < c := by omega
   clear hx hxs
   go_wp2_with fail
   refine (ref_var x wr).mono ?_
   rintro e w' ⟨rfl, rfl⟩
   go_wp2_with (at_builtin; refine wpList_append_own_at _ rfl _ _ 36 rfl w.heap.size 3 i0 (.int .i64 0) 1 8 Tryz.underlying36 hi0 hi1 hi2 hi3 rfl (by decide) _ k _ rfl (own_below HV.out (mx_al wr _)) ⟨wr.heap.size, 0, none⟩ 1 1 [.int .i64 (litV x : Nat)] rfl rfl (cell_one _ _ _) (by simp [Value.oneCell']) (by unfold maxLen; omega) (by omega) (by simp; omega) ?_; intro v' w9 hown hgrow hnl hat; obtain ⟨Aw, kw, hv2, _⟩ := mx_slice hown; subst hv2; have HOWN := Lib.hid hown; have HG := Lib.hid hgrow; clear hown hgrow hnl hat)
   have hw9 : Below w.heap.size w w9 := (HB.out.trans ((mx_al wr (.cells #[.int .i64 (litV x : Nat)] 3)).mono hzw)).grown HG.out (by simp; omega) (fun g hg => (own_lt HV.out g hg).1)
   go_roundw
   case rel => exact ⟨k + 1, by omega, by go_num, Lib.hid (by rw [HN.out, List.map_append]; exact HOWN.out), Lib.hid hw9⟩
   case measure => simp [intOf]; omega
  ·
   obtain rfl : k = l.length := by omega
   have HN := Lib.hid (show (rV15 l).length = l.length from List.length_map _)
   go_wp2_with fail
   go_ret
   exact ⟨⟨_, rfl, by have h := HV.out; rw [List.take_length] at h; rw [HN.out]; exact h⟩, HB.out⟩
def rF15 (its : List RIt) (c : List Int) : Int := if clauseB c = true then (if c.any (fun y => decide (0 ≤ rVl its y)) = true then 140 else 0) else 20
set_option maxRecDepth 100000 in
set_option maxHeartbeats 2000000 in
theorem ref_fails15 {O : Nat → Prop} (u : Value) (l : List Int) (t : RTr) (tv : Value) (w : World) (h : RTAt w tv t) (ho : t.Ok) (hu : IntsIn O w u l) (hl : l.length ≤ 1000000) :
  Calls Tryz.prog 23 #[tv, u] w fun e w' => e = .returned (.int .i64 (rF15 t.items l)) ∧ Below w.heap.size w w' := by
 obtain ⟨res, hres⟩ : ∃ r, rF15 t.items l = r := ⟨_, rfl⟩
 rw [hres]
 unfold rF15 at hres
 have HRS := Lib.hid hres
 clear hres
 have HOK := Lib.hid ho
 obtain ⟨iv, sv, rfl, hi, hs⟩ := h
 obtain ⟨wa, hwa⟩ : ∃ z, w.alloc (.cells #[.int .i64 t.vars, .int .i64 t.now, iv, sv] 59) = z := ⟨_, rfl⟩
 have hba : Below w.heap.size w wa := by rw [← hwa]; exact mx_al _ _
 have hbn : wa.heap[w.heap.size]? = some (.cells #[.int .i64 t.vars, .int .i64 t.now, iv, sv] 59 (0, 0)) := by rw [← hwa]; exact World.alloc_heap_new _ _
 have HT := Lib.hid (show RTAt wa (.agg #[.int .i64 t.vars, .int .i64 t.now, iv, sv]) t from ⟨iv, sv, rfl, hi.below hba, hs.below hba⟩)
 have HU := Lib.hid (hu.below hba)
 have HY := Lib.hid hbn
 have HWA := Lib.hid hwa
 have HBA := Lib.hid hba
 have HCL := Lib.hid (ref_right_clause u l wa (hu.below hba) (by omega))
 obtain ⟨Au, cu, rfl, _⟩ := hu
 clear hwa hba hbn hi hs
 go_enter Tryz.func23, Tryz.ntmps23
 go_upto_region 1 with fail
 rw [HWA.out]
 go_wp2_with fail
 refine HCL.out.mono ?_
 rintro e w' ⟨rfl, rfl⟩
 clear HCL
 cases hcb : clauseB l with
 | false =>
  have HN := Lib.hid (show res = 20 from by rw [← HRS.out, hcb]; rfl)
  clear hcb
  go_wp2_with fail
  go_ret
  exact ⟨by rw [HN.out]; rfl, HBA.out⟩
 | true =>
  have HN := Lib.hid (show res = if l.any (fun y => decide (0 ≤ rVl t.items y)) = true then 140 else 0 from by rw [← HRS.out, if_pos hcb])
  clear hcb HRS
  go_wp2_with fail
  go_loopw [5] (fun i wr => ∃ k : Nat, k ≤ l.length ∧ i = .int .i64 k ∧ Hid (l.any (fun y => decide (0 ≤ rVl t.items y)) = (l.drop k).any (fun y => decide (0 ≤ rVl t.items y))) ∧ Hid (Below wa.heap.size wa wr)) (fun i _ => l.length - (intOf i).toNat)
  case atStart => exact ⟨0, Nat.zero_le _, rfl, Lib.hid rfl, Lib.hid (Below.refl _ _)⟩
  case round =>
   obtain ⟨k, hk, rfl, HE, HB⟩ := hrel
   by_cases hlt : k < l.length
   ·
    obtain ⟨x, hx⟩ := getElem_of hlt
    obtain ⟨A', c', hA, hc, _, hxs⟩ := HU.out.below HB.out
    simp only [Value.slice.injEq, true_and] at hA
    obtain ⟨rfl, rfl⟩ := hA
    obtain ⟨g, o, rfl, hg, _, d0⟩ := hxs k x hx
    have D0 := Lib.hid d0
    have HTR := Lib.hid (HT.out.below HB.out)
    have HYR := Lib.hid ((HB.out.block _ (heap_lt HY.out)).trans HY.out)
    have hdr := drop_at hx
    have hkc : k < cu := by omega
    clear hx hxs d0
    by_cases hv : 0 ≤ rVl t.items x
    ·
     have q2 : decide (0 ≤ rVl t.items x) = true := by simpa using hv
     have HN2 := Lib.hid (show res = 140 from by rw [HN.out, HE.out, hdr, List.any_cons, q2, Bool.true_or, if_pos rfl])
     clear hdr hv
     go_upto_region 6 with fail
     refine wp_region_held_drew (S := fun w' => Below wr.heap.size wr w') (by kernel_rfl) (mx_drew wr) (fun hS => ?_)
     refine takeF 0 15 (fun wq hSw => bx4 hSw HYR.out) ?_
     refine takeE 1 16 ?_
     refine takeE 2 17 ?_
     refine takeE 3 18 ?_
     refine takeF 4 19 (fun wq hSw => (hSw.cell (p := ⟨g, o + k, none⟩) hg).trans D0.out) ?_
     refine ready1 5 (fun K hK => ?_)
     go_simp
     refine (ref_value x t _ _ (HTR.out.below hS) HOK.out).mono ?_
     rintro e w4 ⟨rfl, hbN⟩
     have hSN := hS.trans (hbN.mono hS.size)
     refine hK.out _ _ hSN (fun _ => ?_)
     clear hK hbN hS
     have hS := hSN
     clear hSN
     refine takeE 6 21 ?_
     refine wpAnyH_done (by kernel_rfl) ?_ _
     have HB4 := Lib.hid (HB.out.trans (hS.mono HB.out.size))
     clear hS
     go_wp2_with fail
     go_ret
     exact ⟨by rw [HN2.out]; rfl, HBA.out.trans (HB4.out.mono HBA.out.size)⟩
    ·
     have q2 : decide (0 ≤ rVl t.items x) = false := by simpa using hv
     have HN2 := Lib.hid (show l.any (fun y => decide (0 ≤ rVl t.items y)) = (l.drop (k + 1)).any (fun y => decide (0 ≤ rVl t.items y)) from by rw [HE.out, hdr, List.any_cons, q2, Bool.false_or])
     clear hdr hv
     go_upto_region 6 with fail
     refine wp_region_held_drew (S := fun w' => Below wr.heap.size wr w') (by kernel_rfl) (mx_drew wr) (fun hS => ?_)
     refine takeF 0 15 (fun wq hSw => bx4 hSw HYR.out) ?_
     refine takeE 1 16 ?_
     refine takeE 2 17 ?_
     refine takeE 3 18 ?_
     refine takeF 4 19 (fun wq hSw => (hSw.cell (p := ⟨g, o + k, none⟩) hg).trans D0.out) ?_
     refine ready1 5 (fun K hK => ?_)
     go_simp
     refine (ref_value x t _ _ (HTR.out.below hS) HOK.out).mono ?_
     rintro e w4 ⟨rfl, hbN⟩
     have hSN := hS.trans (hbN.mono hS.size)
     refine hK.out _ _ hSN (fun _ => ?_)
     clear hK hbN hS
     have hS := hSN
     clear hSN
     refine takeE 6 21 ?_
     refine wpAnyH_done (by kernel_rfl) ?_ _
     have HB4 := Lib.hid (HB.out.trans (hS.mono HB.out.size))
     clear hS
     go_wp2_with fail
     go_roundw
     case rel => exact ⟨k + 1, by omega, by go_num, HN2, HB4⟩
     case measure => simp [intOf]; omega
   ·
    obtain rfl : k = l.length := by omega
    have hE := HE.out
    rw [List.drop_length] at hE
    have HN2 := Lib.hid (show res = 0 from by rw [HN.out, hE]; rfl)
    clear hE
    go_wp2_with fail
    go_ret
    exact ⟨by rw [HN2.out]; rfl, HBA.out.trans (HB.out.mono HBA.out.size)⟩
/-- the other literals of the reason of what stands at a place -/
def rW15 (all : List REn) (its : List RIt) (p : Nat) : Option (List Int) := match its[p]? with
 | some x => if rRight all its (litV x.lit : Nat) = true then (match all[(rFind all x.reason).toNat]? with
  | some e => some (e.lits.filter fun z => decide (z ≠ x.lit))
  | none => none) else none
 | none => none
/-- a right reason is there -/
theorem rRight_find {all : List REn} {its : List RIt} {p : Nat} {x : RIt} (hx : its[p]? = some x) (hp : rP its (litV x.lit : Nat) = p) (hr : rRight all its (litV x.lit : Nat) = true) : 0 ≤ rFind all x.reason ∧ ∃ e, all[(rFind all x.reason).toNat]? = some e := by
 unfold rRight at hr
 rw [hp, if_neg (by omega), Int.toNat_natCast, hx] at hr
 simp only at hr
 unfold rReason at hr
 rw [litV_negate, hp, Int.toNat_natCast, hx] at hr
 simp only at hr
 unfold rReasonAt at hr
 by_cases hf : rFind all x.reason < 0
 ·
  rw [if_pos hf] at hr
  cases hr
 ·
  rw [if_neg hf] at hr
  refine ⟨by omega, ?_⟩
  cases he : all[(rFind all x.reason).toNat]? with
  | none => rw [he] at hr; cases hr
  | some e => exact ⟨e, rfl⟩
theorem rW15_len {all : List REn} {its : List RIt} {p : Nat} {r : List Int} (h : rW15 all its p = some r) (ha : ∀ e ∈ all, e.lits.length ≤ 4096) : r.length ≤ 4096 := by
 unfold rW15 at h
 split at h
 ·
  split at h
  ·
   split at h
   ·
    rename_i e he
    obtain rfl := Option.some.inj h
    exact Nat.le_trans (List.length_filter_le _ _) (ha e (List.mem_of_getElem? he))
   ·
    cases h
  ·
   cases h
 ·
  cases h
theorem filter_snoc {l : List Int} {k : Nat} {x : Int} (f : Int → Bool) (h : l[k]? = some x) : (l.take (k + 1)).filter f = (l.take k).filter f ++ (if f x = true then [x] else []) := by
 rw [List.take_add_one, h, Option.toList_some, List.filter_append]
 rw [List.filter_cons]
 split <;> rfl
set_option maxRecDepth 100000 in
set_option maxHeartbeats 4000000 in
theorem ref_reason15 (p : Nat) (x : RIt) (a : RAr) (t : RTr) (av tv : Value) (w : World) (ha : RAAt w av a) (h : RTAt w tv t) (hao : a.Ok) (ho : t.Ok) (hx : t.items[p]? = some x) (hp : rP t.items (litV x.lit : Nat) = p) :
  Calls Tryz.prog 61 #[av, tv, .int .i64 p] w fun e w' => ((∃ v r, rW15 a.all t.items p = some r ∧ e = .returned (.tuple #[v, .bool true]) ∧ w'.ownsRow w.heap.size 3 1 v r.length (r.map (Value.int .i64))) ∨ (rW15 a.all t.items p = none ∧ e = .returned (.tuple #[.slice none 0 0, .bool false]))) ∧ Below w.heap.size w w' := by
 obtain ⟨i0, hi0, hi1, hi2, hi3⟩ := info_parts tinfo_int
 have HOK := Lib.hid ho
 have HAO := Lib.hid hao
 have hlena := hao.len
 obtain ⟨res, hres⟩ : ∃ r, rW15 a.all t.items p = r := ⟨_, rfl⟩
 rw [hres]
 have hW : rW15 a.all t.items p = if rRight a.all t.items (litV x.lit : Nat) = true then (match a.all[(rFind a.all x.reason).toNat]? with
  | some e => some (e.lits.filter fun z => decide (z ≠ x.lit))
  | none => none) else none := by
  unfold rW15
  rw [hx]
 have HRS := Lib.hid (hres.symm.trans hW)
 have HRF := Lib.hid (fun hr => rRight_find (all := a.all) hx hp hr)
 have hpl := (List.getElem?_eq_some_iff.1 hx).1
 clear hW hres hp
 obtain ⟨ev, rfl, he⟩ := ha
 obtain ⟨iv, sv, rfl, hi, hs⟩ := h
 obtain ⟨wa, hwa, hba, hb0, hb1⟩ := rbox2 w #[ev, .int .i64 a.last] #[.int .i64 t.vars, .int .i64 t.now, iv, sv] 56 59
 have HE := Lib.hid (he.below hba)
 have HI := Lib.hid (hi.below hba)
 have HT := Lib.hid (show RTAt wa (.agg #[.int .i64 t.vars, .int .i64 t.now, iv, sv]) t from ⟨iv, sv, rfl, hi.below hba, hs.below hba⟩)
 have HA := Lib.hid (show RAAt wa (.agg #[ev, .int .i64 a.last]) a from ⟨ev, rfl, he.below hba⟩)
 have HX := Lib.hid hb0
 have HY := Lib.hid hb1
 have HBA := Lib.hid hba
 have HWA := Lib.hid hwa
 clear hwa hba hb0 hb1 hs hi he
 obtain ⟨g, o, c, rfl, hlc, hg, d0, d1, d2⟩ := HI.out.item hx
 obtain ⟨xl, hxl⟩ : ∃ z, x.lit = z := ⟨_, rfl⟩
 obtain ⟨xr, hxr⟩ : ∃ z, x.reason = z := ⟨_, rfl⟩
 obtain ⟨xv, hxv⟩ : ∃ z, x.level = z := ⟨_, rfl⟩
 rw [hxl] at d0 HRS HRF
 rw [hxr] at d1 HRS HRF
 rw [hxv] at d2
 have hpc : p < c := by omega
 clear hxl hxr hxv hx
 go_enter Tryz.func61, Tryz.ntmps61
 go_upto_region 1 with fail
 rw [HWA.out]
 obtain ⟨b0, b1, b2, b3⟩ := bx4 (Below.refl _ _) HY.out
 go_upto_region 2 with fail
 obtain ⟨wb, hwb⟩ : ∃ z, wa.alloc (.cells #[.int .i64 xl, .int .i64 xr, .int .i64 xv] 114) = z := ⟨_, rfl⟩
 have hbb : Below wa.heap.size wa wb := by rw [← hwb]; exact mx_al _ _
 have hbz : wb.heap[wa.heap.size]? = some (.cells #[.int .i64 xl, .int .i64 xr, .int .i64 xv] 114 (0, 0)) := by rw [← hwb]; exact World.alloc_heap_new _ _
 rw [hwb]
 have HZ := Lib.hid hbz
 have HXB := Lib.hid ((hbb.block _ (heap_lt HX.out)).trans HX.out)
 have HYB := Lib.hid ((hbb.block _ (heap_lt HY.out)).trans HY.out)
 have HEB := Lib.hid (HE.out.below hbb)
 have HAB := Lib.hid (HA.out.below hbb)
 have HTB := Lib.hid (HT.out.below hbb)
 have HBB := Lib.hid (HBA.out.trans (hbb.mono HBA.out.size))
 clear hwb hbb hbz b0 b1 b2 b3 d0 d1 d2 HX HY HE HA HT HBA HWA HI
 refine wp_region_held_drew (S := fun w' => Below wb.heap.size wb w') (by kernel_rfl) (mx_drew wb) (fun hS => ?_)
 refine takeF 0 17 (fun wq hSw => bx2 hSw HXB.out) ?_
 refine takeF 1 18 (fun wq hSw => bx4 hSw HYB.out) ?_
 refine takeE 2 19 ?_
 refine takeF 3 20 (fun wq hSw => bx3 hSw HZ.out) ?_
 refine ready1 4 (fun K hK => ?_)
 go_simp
 refine (ref_var xl _).mono ?_
 rintro e w' ⟨rfl, rfl⟩
 refine hK.out _ _ hS (fun _ => ?_)
 clear hK
 refine ready1 5 (fun K hK => ?_)
 go_simp
 refine (ref_right14 (litV xl : Nat) a t _ _ _ (HAB.out.below hS) (HTB.out.below hS) HAO.out HOK.out).mono ?_
 rintro e w2 ⟨rfl, hbN⟩
 have hSN := hS.trans (hbN.mono hS.size)
 refine hK.out _ _ hSN (fun _ => ?_)
 clear hK hbN hS
 have hS := hSN
 clear hSN
 refine takeE 6 23 ?_
 refine wpAnyH_done (by kernel_rfl) ?_ _
 have HB2 := Lib.hid hS
 clear hS
 cases hr : rRight a.all t.items (litV xl : Nat) with
 | false =>
  have HN := Lib.hid (show res = none from by rw [HRS.out, hr]; rfl)
  clear hr
  go_wp2_with fail
  go_ret2
  exact ⟨.inr ⟨HN.out, rfl⟩, HBB.out.trans (HB2.out.mono HBB.out.size)⟩
 | true =>
  obtain ⟨hf0, en, hen⟩ := HRF.out hr
  have HN := Lib.hid (show res = some (en.lits.filter fun z => decide (z ≠ xl)) from by rw [HRS.out, if_pos hr, hen])
  have HFD := Lib.hid (fun (w : World) av (h : RAAt w av a) => ref_find xr a av w h hlena)
  have hflt := rFind_lt a.all xr
  obtain ⟨fi, hfi⟩ : ∃ f, rFind a.all xr = f := ⟨_, rfl⟩
  rw [hfi] at HFD hflt hf0 hen
  clear hr hfi HRS HRF
  obtain ⟨f, rfl⟩ : ∃ f : Nat, fi = f := ⟨_, (Int.toNat_of_nonneg (by omega)).symm⟩
  rw [Int.toNat_natCast] at hen
  have hfl : f < a.all.length := by omega
  obtain ⟨g2, o2, c2, u, hv2, hlc2, hg2, e0, e1, hu⟩ := (HEB.out.below HB2.out).at_ hen
  subst hv2
  have HU := Lib.hid hu
  have E1 := Lib.hid e1
  have hul : en.lits.length ≤ 4096 := HAO.out.lits en (List.mem_of_getElem? hen)
  have hfc : f < c2 := by omega
  obtain ⟨Au, cu, rfl, _⟩ := hu
  have HX2 := Lib.hid ((HB2.out.block _ (heap_lt HXB.out)).trans HXB.out)
  have HZ2 := Lib.hid ((HB2.out.block _ (heap_lt HZ.out)).trans HZ.out)
  have HA2 := Lib.hid (HAB.out.below HB2.out)
  have HBC := Lib.hid (HBB.out.trans (HB2.out.mono HBB.out.size))
  clear hf0 hflt hen e0 e1 HB2 HBB HEB HAB HTB HXB HYB HZ
  go_wp2_with fail
  refine wp_region_held_drew (S := fun w' => Below w2.heap.size w2 w') (by kernel_rfl) (mx_drew w2) (fun hS => ?_)
  refine takeE 0 24 ?_
  refine takeF 1 25 (fun wq hSw => bx2 hSw HX2.out) ?_
  refine takeF 2 26 (fun wq hSw => bx2 hSw HX2.out) ?_
  refine takeE 3 27 ?_
  refine takeF 4 28 (fun wq hSw => bx3 hSw HZ2.out) ?_
  refine ready1 5 (fun K hK => ?_)
  go_simp
  refine (HFD.out _ _ (HA2.out.below hS)).mono ?_
  rintro e w3 ⟨rfl, hbN⟩
  have hSN := hS.trans (hbN.mono hS.size)
  refine hK.out _ _ hSN (fun _ => ?_)
  clear hK hbN hS
  have hS := hSN
  clear hSN
  refine takeE 6 30 ?_
  refine takeE 7 31 ?_
  refine takeF 8 32 (fun wq hSw => (hSw.cell (p := ⟨g2, o2 + f * 2 + 1, none⟩) hg2).trans E1.out) ?_
  refine takeE 9 9 ?_
  refine wpAnyH_done (by kernel_rfl) ?_ _
  have HB3 := Lib.hid hS
  have HU3 := Lib.hid (HU.out.below hS)
  have HZ3 := Lib.hid ((hS.block _ (heap_lt HZ2.out)).trans HZ2.out)
  have HBD := Lib.hid (HBC.out.trans (hS.mono HBC.out.size))
  clear hS HU HZ2 HBC HX2 HA2 HFD E1
  go_wp2_with fail
  go_loopw [10, 11] (fun v i wr => ∃ k : Nat, k ≤ en.lits.length ∧ i = .int .i64 k ∧ Hid (wr.ownsRow w3.heap.size 3 1 v ((en.lits.take k).filter fun z => decide (z ≠ xl)).length (((en.lits.take k).filter fun z => decide (z ≠ xl)).map (Value.int .i64))) ∧ Hid (Below w3.heap.size w3 wr)) (fun _ i _ => en.lits.length - (intOf i).toNat)
  case atStart => exact ⟨0, Nat.zero_le _, rfl, Lib.hid (World.ownsRow_nil _ _ _ _), Lib.hid (Below.refl _ _)⟩
  case round =>
   obtain ⟨k, hk, rfl, HV, HB⟩ := hrel
   have hzw := HB.out.size
   by_cases hlt : k < en.lits.length
   ·
    obtain ⟨y, hy⟩ := getElem_of hlt
    obtain ⟨A', c', hA, hc, _, hxs⟩ := HU3.out.below HB.out
    simp only [Value.slice.injEq, true_and] at hA
    obtain ⟨rfl, rfl⟩ := hA
    obtain ⟨g3, o3, rfl, hg3, _, f0⟩ := hxs k y hy
    have F0 := Lib.hid f0
    have HZR := Lib.hid ((HB.out.block _ (heap_lt HZ3.out)).trans HZ3.out)
    have hsn := filter_snoc (fun z => decide (z ≠ xl)) hy
    have hacl : ((en.lits.take k).filter fun z => decide (z ≠ xl)).length ≤ k := Nat.le_trans (List.length_filter_le _ _) (List.length_take_le _ _)
    obtain ⟨acc, hacc⟩ : ∃ l, (en.lits.take k).filter (fun z => decide (z ≠ xl)) = l := ⟨_, rfl⟩
    rw [hacc] at HV hsn hacl
    obtain ⟨Av, cv, rfl, _⟩ := mx_slice HV.out
    have hkc : k < cu := by omega
    clear hy hxs f0 hacc
    by_cases hq : y = xl
    ·
     have q1 : (y != xl) = false := by simpa using hq
     have HSN := Lib.hid (show (en.lits.take (k + 1)).filter (fun z => decide (z ≠ xl)) = acc from by rw [hsn, if_neg (by simpa using hq), List.append_nil])
     clear hsn hq
     go_upto_region 9 with fail
     refine wp_region_held_drew (S := fun w' => Below wr.heap.size wr w') (by kernel_rfl) (mx_drew wr) (fun hS => ?_)
     refine takeE 0 39 ?_
     refine takeE 1 40 ?_
     refine takeE 2 41 ?_
     refine takeF 3 42 (fun wq hSw => (hSw.cell (p := ⟨g3, o3 + k, none⟩) hg3).trans F0.out) ?_
     refine takeE 4 43 ?_
     refine takeF 5 44 (fun wq hSw => bx3 hSw HZR.out) ?_
     refine takeE 6 45 ?_
     refine wpAnyH_done (by kernel_rfl) ?_ _
     have HBR := Lib.hid (HB.out.trans (hS.mono HB.out.size))
     have HVR := Lib.hid (own_below HV.out hS)
     clear hS
     go_wp2_with fail
     go_roundw
     case rel => exact ⟨k + 1, by omega, by go_num, Lib.hid (by rw [HSN.out]; exact HVR.out), HBR⟩
     case measure => simp [intOf]; omega
    ·
     have q1 : (y != xl) = true := by simpa using hq
     have HSN := Lib.hid (show (en.lits.take (k + 1)).filter (fun z => decide (z ≠ xl)) = acc ++ [y] from by rw [hsn, if_pos (by simpa using hq)])
     clear hsn hq
     go_upto_region 9 with fail
     refine wp_region_held_drew (S := fun w' => Below wr.heap.size wr w') (by kernel_rfl) (mx_drew wr) (fun hS => ?_)
     refine takeE 0 39 ?_
     refine takeE 1 40 ?_
     refine takeE 2 41 ?_
     refine takeF 3 42 (fun wq hSw => (hSw.cell (p := ⟨g3, o3 + k, none⟩) hg3).trans F0.out) ?_
     refine takeE 4 43 ?_
     refine takeF 5 44 (fun wq hSw => bx3 hSw HZR.out) ?_
     refine takeE 6 45 ?_
     refine wpAnyH_done (by kernel_rfl) ?_ _
     have HBR := Lib.hid (HB.out.trans (hS.mono HB.out.size))
     have HVR := Lib.hid (own_below HV.out hS)
     have f0 := F0.out
     have hzq := HBR.out.size
     go_wp2_with (at_builtin; refine wpList_append_own_at _ rfl _ _ 36 rfl w3.heap.size 3 i0 (.int .i64 0) 1 8 Tryz.underlying36 hi0 hi1 hi2 hi3 rfl (by decide) _ acc.length _ rfl (own_below HVR.out (mx_al _ _)) ⟨wr.heap.size, 0, none⟩ 1 1 [.int .i64 y] rfl rfl (cell_one _ _ _) (by simp [Value.oneCell']) (by unfold maxLen; omega) (by omega) (by simp; omega) ?_; intro v' w9 hown hgrow hnl hat; obtain ⟨Aw, kw, hv2, _⟩ := mx_slice hown; subst hv2; have HOWN := Lib.hid hown; have HG := Lib.hid hgrow; clear hown hgrow hnl hat)
     have hw9 : Below w3.heap.size w3 w9 := (HBR.out.trans ((mx_al _ (.cells #[.int .i64 y] 3)).mono hzq)).grown HG.out (by simp; omega) (fun g hg => (own_lt HVR.out g hg).1)
     clear hS
     go_roundw
     case rel => exact ⟨k + 1, by omega, by go_num, Lib.hid (by rw [HSN.out, List.length_append, List.map_append]; exact HOWN.out), Lib.hid hw9⟩
     case measure => simp [intOf]; omega
   ·
    obtain rfl : k = en.lits.length := by omega
    have hV := HV.out
    rw [List.take_length] at hV
    have HVE := Lib.hid hV
    obtain ⟨Av, cv, rfl, _⟩ := mx_slice hV
    clear hV HV
    go_wp2_with fail
    go_ret2
    exact ⟨.inl ⟨_, _, HN.out, rfl, own_mono HVE.out HBD.out.size⟩, HBD.out.trans (HB.out.mono HBD.out.size)⟩
end Go.Proofs.YtiodfolcnnkdjaaGreat
namespace Go.Proofs.YtiodfolcnnkdjaaGreat
open Go.RowKit

theorem tinfo_bool : (Tryz.prog.info? 4).map (fun i => (i.zero, i.size, i.bytes)) = some (some (.bool false), 1, 1) := by kernel_rfl
/-- the literals of a right reason are false, before it -/
theorem rW15_place {all : List REn} {its : List RIt} {p : Nat} {x : RIt} {r : List Int} (hx : its[p]? = some x) (hp : rP its (litV x.lit : Nat) = p) (h : rW15 all its p = some r) : ∀ z ∈ r, rVl its z < 0 ∧ 0 ≤ rP its (litV z : Nat) ∧ rP its (litV z : Nat) < p := by
 unfold rW15 at h
 rw [hx] at h
 simp only at h
 split at h
 ·
  rename_i hr
  obtain ⟨hf, e, he⟩ := rRight_find hx hp hr
  rw [he] at h
  obtain rfl := Option.some.inj h
  unfold rRight at hr
  rw [hp, if_neg (by omega), Int.toNat_natCast, hx] at hr
  simp only at hr
  unfold rReason at hr
  rw [litV_negate, hp, Int.toNat_natCast, hx] at hr
  simp only at hr
  unfold rReasonAt at hr
  rw [if_neg (by omega), he] at hr
  simp only at hr
  split at hr
  ·
   cases hq : rRest its (-(-x.lit)) p [] e.lits with
   | none => rw [hq] at hr; cases hr
   | some q =>
    intro z hz
    obtain ⟨hz1, hz2⟩ := List.mem_filter.1 hz
    have hz3 : z ≠ x.lit := by simpa using hz2
    have key : ∀ (acc c q : List Int), rRest its x.lit p acc c = some q → ∀ z ∈ c, z ≠ x.lit → rVl its z < 0 ∧ rP its (litV z : Nat) < p := by
     intro acc c
     induction c generalizing acc with
     | nil => intro q _ z hz; cases hz
     | cons y c ih =>
      intro q hq z hz hne
      unfold rRest at hq
      by_cases h1 : y = x.lit
      ·
       rw [if_pos h1] at hq
       rcases List.mem_cons.1 hz with rfl | hz
       ·
        exact absurd h1 hne
       ·
        exact ih _ q hq z hz hne
      ·
       rw [if_neg h1] at hq
       by_cases h2 : 0 ≤ rVl its y
       ·
        rw [if_pos h2] at hq; cases hq
       ·
        rw [if_neg h2] at hq
        by_cases h3 : (p : Int) ≤ rP its (litV y : Nat)
        ·
         rw [if_pos h3] at hq; cases hq
        ·
         rw [if_neg h3] at hq
         rcases List.mem_cons.1 hz with rfl | hz
         ·
          exact ⟨by omega, by omega⟩
         ·
          exact ih _ q hq z hz hne
    rw [Int.neg_neg] at hq
    obtain ⟨g1, g2⟩ := key [] e.lits q hq z hz1 hz3
    refine ⟨g1, ?_, g2⟩
    have := rP_lt its (litV z : Nat)
    rcases this with h0 | h0
    ·
     exfalso
     have : rVl its z = 0 := by
      refine rVl_none its z (fun hb y hy e2 => ?_)
      have hpos := (litV_pos hb).1
      have : ∀ (l : List RIt) (i : Nat), (∃ y ∈ l, litV y.lit = litV z) → (i : Int) ≤ rPl l (litV z : Nat) i := by
       intro l
       induction l with
       | nil => rintro i ⟨y, hy, _⟩; cases hy
       | cons a l ih =>
        rintro i ⟨y, hy, e3⟩
        unfold rPl
        split
        ·
         exact Int.le_refl _
        ·
         rename_i hne
         rcases List.mem_cons.1 hy with rfl | hy
         ·
          exact absurd ⟨by omega, by rw [e3]⟩ hne
         ·
          have := ih (i + 1) ⟨y, hy, e3⟩
          omega
      have := this its 0 ⟨y, hy, e2⟩
      unfold rP at h0
      omega
     omega
    ·
     exact h0.1
  ·
   cases hr
 ·
  cases h
/-- whether what stands at a place is implied -/
def rRow15 (all : List REn) (its : List RIt) (cov : List Bool) (p : Nat) : Bool := match rW15 all its p with
 | none => false
 | some r => r.all fun z => cov.getD (rP its (litV z : Nat)).toNat false
def itLit (its : List RIt) (p : Nat) : Int := match its[p]? with
 | some x => x.lit
 | none => 0
/-- each place is the first one of its variable -/
def PlOk (its : List RIt) : Prop := ∀ (p : Nat) (x : RIt), its[p]? = some x → rP its (litV x.lit : Nat) = p
/-- the table -/
def rTab15 (all : List REn) (its : List RIt) (c : List Int) : Nat → List Bool × List Bool
 | 0 => ([], [])
 | n + 1 => ((rTab15 all its c n).1 ++ [rRow15 all its (rTab15 all its c n).2 n], (rTab15 all its c n).2 ++ [rRow15 all its (rTab15 all its c n).2 n || c.contains (-(itLit its n))])
theorem rTab15_len (all : List REn) (its : List RIt) (c : List Int) (n : Nat) : (rTab15 all its c n).1.length = n ∧ (rTab15 all its c n).2.length = n := by
 induction n with
 | zero => exact ⟨rfl, rfl⟩
 | succ n ih => unfold rTab15; simp [ih.1, ih.2]
theorem row_at {w : World} {base n c g j : Nat} {e : TypeId} {xs : List Bool} (h : w.ownsRow base e 1 (.slice (some ⟨g, 0, none⟩) n c) n (xs.map Value.bool)) (hj : j < xs.length) : w.cell? ⟨g, j, none⟩ = some (.bool (xs.getD j false)) := by
 refine mx_at h ?_
 rw [List.getElem?_map, List.getElem?_eq_getElem hj, List.getD_eq_getElem?_getD, List.getElem?_eq_getElem hj]
 rfl
theorem all_snoc {l : List Int} {k : Nat} {x : Int} (f : Int → Bool) (h : l[k]? = some x) : (l.take (k + 1)).all f = ((l.take k).all f && f x) := by
 rw [List.take_add_one, h, Option.toList_some, List.all_append]
 simp
/-- the round's end -/
theorem tab_round {wa w9 w7 : World} {Aw A2 Az : Option Addr} {kw c2 kz k : Nat} {all : List REn} {its : List RIt} {c : List Int} {im cv : List Bool} {rw_ bb yy : Bool} {xl : Int} (hre : rw_ = bb) (hli : itLit its k = xl)
  (htn : rTab15 all its c (k + 1) = (im ++ [rw_], cv ++ [rw_ || c.contains (-(itLit its k))])) (hyy : (bb || c.contains (-xl)) = yy) (h1 : w9.ownsRow wa.heap.size 4 1 (.slice Aw (k + 1) kw) (k + 1) (im.map Value.bool ++ [.bool bb]))
  (h2 : w7.ownsRow wa.heap.size 4 1 (.slice Az (k + 1) kz) (k + 1) (cv.map Value.bool ++ [.bool yy])) (hg : (w9.alloc (.cells #[.bool yy] 4)).grownBy w7 (Value.slice A2 k c2).ownBlock)
  (hat : (Value.slice Az (k + 1) kz).ownBlock = (Value.slice A2 k c2).ownBlock ∨ (Value.slice Az (k + 1) kz).ownBlock = some (w9.alloc (.cells #[.bool yy] 4)).heap.size) (hap : ∀ g, (Value.slice Aw (k + 1) kw).ownBlock = some g → (Value.slice A2 k c2).ownBlock ≠ some g) (hb : Below wa.heap.size wa w9) (h0 : w9.ownsRow wa.heap.size 4 1 (.slice A2 k c2) k (cv.map Value.bool)) :
  w7.ownsRow wa.heap.size 4 1 (.slice Aw (k + 1) kw) (k + 1) ((rTab15 all its c (k + 1)).1.map Value.bool) ∧ w7.ownsRow wa.heap.size 4 1 (.slice Az (k + 1) kz) (k + 1) ((rTab15 all its c (k + 1)).2.map Value.bool) ∧ (∀ g, (Value.slice Aw (k + 1) kw).ownBlock = some g → (Value.slice Az (k + 1) kz).ownBlock ≠ some g) ∧ Below wa.heap.size wa w7 := by
 have hz : (w9.alloc (.cells #[.bool yy] 4)).heap.size = w9.heap.size + 1 := by simp
 have hzz := hb.size
 rw [htn, hli, hre, hyy, List.map_append, List.map_append]
 refine ⟨own_kept (own_below h1 (mx_al _ _)) (Kept.grown hg) (fun g hg e => hap g hg e.symm), h2, fun g hg' e => ?_, (hb.trans ((mx_al _ _).mono hzz)).grown hg (by simp; omega) (fun g hg => (own_lt h0 g hg).1)⟩
 rcases hat with h | h
 ·
  exact hap g hg' (h.symm.trans e)
 ·
  have hl := (own_lt h1 g hg').2
  have := e.symm.trans h
  rw [hz] at this
  have := Option.some.inj this
  omega
set_option maxRecDepth 100000 in
set_option maxHeartbeats 8000000 in
theorem ref_table15 {O : Nat → Prop} (u : Value) (c : List Int) (a : RAr) (t : RTr) (av tv : Value) (w : World) (ha : RAAt w av a) (h : RTAt w tv t) (hao : a.Ok) (ho : t.Ok) (hu : IntsIn O w u c) (hcl : c.length ≤ 1000000) (hP : PlOk t.items) :
  Calls Tryz.prog 62 #[av, tv, u] w fun e w' => (∃ v1 v2, e = .returned (.tuple #[v1, v2]) ∧ w'.ownsRow w.heap.size 4 1 v1 t.items.length ((rTab15 a.all t.items c t.items.length).1.map Value.bool) ∧ w'.ownsRow w.heap.size 4 1 v2 t.items.length ((rTab15 a.all t.items c t.items.length).2.map Value.bool)) ∧ Below w.heap.size w w' := by
 obtain ⟨i0, hi0, hi1, hi2, hi3⟩ := info_parts tinfo_bool
 have HOK := Lib.hid ho
 have HAO := Lib.hid hao
 have HPP := Lib.hid hP
 have hlent := ho.len
 have HU0 := Lib.hid hu
 clear ho hao hP
 obtain ⟨ev, rfl, he⟩ := ha
 obtain ⟨iv, sv, rfl, hi, hs⟩ := h
 obtain ⟨wa, hwa, hba, hb0, hb1⟩ := rbox2 w #[ev, .int .i64 a.last] #[.int .i64 t.vars, .int .i64 t.now, iv, sv] 56 59
 have HE := Lib.hid (he.below hba)
 have HI := Lib.hid (hi.below hba)
 have HT := Lib.hid (show RTAt wa (.agg #[.int .i64 t.vars, .int .i64 t.now, iv, sv]) t from ⟨iv, sv, rfl, hi.below hba, hs.below hba⟩)
 have HA := Lib.hid (show RAAt wa (.agg #[ev, .int .i64 a.last]) a from ⟨ev, rfl, he.below hba⟩)
 have HX := Lib.hid hb0
 have HY := Lib.hid hb1
 have HBA := Lib.hid hba
 have HWA := Lib.hid hwa
 clear hwa hba hb0 hb1 hs hi he
 have HU := Lib.hid (HU0.out.below HBA.out)
 obtain ⟨Au, cu, rfl, _⟩ := hu
 have hiv : ∃ Ai ci, iv = .slice Ai t.items.length ci := by
  obtain ⟨A, c, e, _⟩ := HI.out
  exact ⟨A, c, e⟩
 obtain ⟨Ai, ci, rfl⟩ := hiv
 clear HU0
 go_enter Tryz.func62, Tryz.ntmps62
 go_upto_region 1 with fail
 rw [HWA.out]
 go_wp2_with fail
 go_loopw [8, 9, 10] (fun v1 v2 i wr => ∃ k : Nat, k ≤ t.items.length ∧ i = .int .i64 k ∧ Hid (wr.ownsRow wa.heap.size 4 1 v1 k ((rTab15 a.all t.items c k).1.map Value.bool)) ∧ Hid (wr.ownsRow wa.heap.size 4 1 v2 k ((rTab15 a.all t.items c k).2.map Value.bool)) ∧ Hid (∀ g, v1.ownBlock = some g → v2.ownBlock ≠ some g) ∧ Hid (Below wa.heap.size wa wr)) (fun _ _ i _ => t.items.length - (intOf i).toNat)
 case atStart => exact ⟨0, Nat.zero_le _, rfl, Lib.hid (World.ownsRow_nil _ _ _ _), Lib.hid (World.ownsRow_nil _ _ _ _), Lib.hid (fun g hg => (by cases hg)), Lib.hid (Below.refl _ _)⟩
 case round =>
  obtain ⟨k, hk, rfl, HV1, HV2, HAP, HB⟩ := hrel
  have hzw := HB.out.size
  obtain ⟨A1, c1, rfl, hc1⟩ := mx_slice HV1.out
  obtain ⟨A2, c2, rfl, hc2⟩ := mx_slice HV2.out
  obtain ⟨b0, b1, b2, b3⟩ := bx4 HB.out HY.out
  obtain ⟨a0, a1⟩ := bx2 HB.out HX.out
  by_cases hlt : k < t.items.length
  ·
   obtain ⟨x, hx⟩ := getElem_of hlt
   have hp := HPP.out k x hx
   have HRS := Lib.hid (fun (w : World) av tv (ha : RAAt w av a) (h : RTAt w tv t) => ref_reason15 k x a t av tv w ha h HAO.out HOK.out hx hp)
   have HPL := Lib.hid (fun r hr => rW15_place (all := a.all) (r := r) hx hp hr)
   have hxr := litV_lit (l := x.lit) (by have := (rP_var hp hx).1; omega)
   have HX0 := Lib.hid hx
   have HLI := Lib.hid (show itLit t.items k = x.lit from by unfold itLit; rw [hx])
   have HTL := Lib.hid (rTab15_len a.all t.items c k)
   have HTN := Lib.hid (show rTab15 a.all t.items c (k + 1) = ((rTab15 a.all t.items c k).1 ++ [rRow15 a.all t.items (rTab15 a.all t.items c k).2 k], (rTab15 a.all t.items c k).2 ++ [rRow15 a.all t.items (rTab15 a.all t.items c k).2 k || c.contains (-(itLit t.items k))]) from rfl)
   have HRW := Lib.hid (show rRow15 a.all t.items (rTab15 a.all t.items c k).2 k = match rW15 a.all t.items k with
    | none => false
    | some r => r.all fun z => (rTab15 a.all t.items c k).2.getD (rP t.items (litV z : Nat)).toNat false from rfl)
   obtain ⟨im, him⟩ : ∃ z, (rTab15 a.all t.items c k).1 = z := ⟨_, rfl⟩
   obtain ⟨cv, hcv⟩ : ∃ z, (rTab15 a.all t.items c k).2 = z := ⟨_, rfl⟩
   obtain ⟨rw_, hrw⟩ : ∃ z, rRow15 a.all t.items cv k = z := ⟨_, rfl⟩
   rw [him] at HV1 HTN HTL
   rw [hcv] at HV2 HTN HTL HRW
   rw [hrw] at HTN HRW
   clear him hcv hrw hp hx
   go_wp2_with fail
   refine (HRS.out _ _ _ (HA.out.below HB.out) (HT.out.below HB.out)).mono ?_
   rintro e w2 ⟨hor, hb⟩
   have hun : ∃ (v : Value) (r : List Int) (ok : Bool), e = .returned (.tuple #[v, .bool ok]) ∧ w2.ownsRow wr.heap.size 3 1 v r.length (r.map (Value.int .i64)) ∧ rw_ = (ok && r.all fun z => cv.getD (rP t.items (litV z : Nat)).toNat false) ∧ (∀ z ∈ r, 0 ≤ rP t.items (litV z : Nat) ∧ rP t.items (litV z : Nat) < k) ∧ r.length ≤ 4096 := by
    have hrw := HRW.out
    rcases hor with ⟨v, r, hr, he, ho⟩ | ⟨hr, he⟩
    ·
     rw [hr] at hrw
     exact ⟨v, r, true, he, ho, by rw [hrw, Bool.true_and], fun z hz => (HPL.out r hr z hz).2, rW15_len hr HAO.out.lits⟩
    ·
     rw [hr] at hrw
     exact ⟨_, [], false, he, World.ownsRow_nil _ _ _ _, by rw [hrw]; rfl, (fun z hz => by cases hz), Nat.zero_le _⟩
   obtain ⟨v, r, ok, rfl, hown, hrq, hrp, hrl⟩ := hun
   obtain ⟨Ar, cr, rfl, hcr⟩ := mx_slice hown
   have HR2 := Lib.hid hown
   have HRQ := Lib.hid hrq
   have HRP := Lib.hid hrp
   have HV1b := Lib.hid (own_below HV1.out hb)
   have HV2b := Lib.hid (own_below HV2.out hb)
   have HBb := Lib.hid (HB.out.trans (hb.mono hzw))
   clear hown hrq hrp hb hor HRS HPL HRW HV1 HV2 HB b0 b1 b2 b3 a0 a1 HX0
   have hkt : decide ((k : Int) < (t.items.length : Int)) = true := by simp; omega
   have hkt2 : decide (k < t.items.length) = true := by simp; omega
   have hzb := HBb.out.size
   obtain ⟨xl, hxl⟩ : ∃ z, x.lit = z := ⟨_, rfl⟩
   rw [hxl] at hxr HLI
   clear hxl
   go_wp2_with fail
   go_loopw [12, 13] (fun b i wz => ∃ (j : Nat) (bb : Bool), j ≤ r.length ∧ i = .int .i64 j ∧ b = .bool bb ∧ Hid (bb = (ok && (r.take j).all fun z => cv.getD (rP t.items (litV z : Nat)).toNat false)) ∧ Hid (Below w2.heap.size w2 wz)) (fun _ i _ => r.length - (intOf i).toNat)
   case atStart => exact ⟨0, ok, Nat.zero_le _, rfl, rfl, Lib.hid (by simp), Lib.hid (Below.refl _ _)⟩
   case round =>
    obtain ⟨j, bb, hj, rfl, rfl, HBB, HZ⟩ := hrel
    by_cases hjt : j < r.length
    ·
     obtain ⟨z, hz⟩ := getElem_of hjt
     obtain ⟨gr, _, _, hvr, _, _, _, _, _⟩ := mx_some HR2.out (by omega)
     simp only [Value.slice.injEq, true_and] at hvr
     obtain ⟨rfl, rfl⟩ := hvr
     have f0 := mx_at (own_below HR2.out HZ.out) (j := j) (u := .int .i64 z) (by rw [List.getElem?_map, hz]; rfl)
     have hgr := (own_lt (own_below HR2.out HZ.out) gr rfl).2
     have F0 := Lib.hid f0
     have hsn := all_snoc (fun z => cv.getD (rP t.items (litV z : Nat)).toNat false) hz
     obtain ⟨q0, q1⟩ := HRP.out z (List.mem_of_getElem? hz)
     obtain ⟨q, hq⟩ : ∃ q : Nat, rP t.items (litV z : Nat) = q := ⟨_, (Int.toNat_of_nonneg q0).symm⟩
     have hPL := ref_place (litV z : Nat) t (.agg #[.int .i64 t.vars, .int .i64 t.now, .slice Ai t.items.length ci, sv])
     rw [hq] at hsn q0 q1 hPL
     rw [Int.toNat_natCast] at hsn
     have hqk : q < k := by omega
     have hql : q < cv.length := by rw [HTL.out.2]; exact hqk
     obtain ⟨g2, _, _, hv2, _, _, _, _, _⟩ := mx_some HV2b.out (by omega)
     simp only [Value.slice.injEq, true_and] at hv2
     obtain ⟨rfl, rfl⟩ := hv2
     have e0 := row_at (own_below HV2b.out HZ.out) hql
     have hg2 := (own_lt (own_below HV2b.out HZ.out) g2 rfl).2
     obtain ⟨y, hy⟩ : ∃ y, cv.getD q false = y := ⟨_, rfl⟩
     rw [hy] at e0
     have E0 := Lib.hid e0
     have HSN := Lib.hid (show (ok && (r.take (j + 1)).all fun z => cv.getD (rP t.items (litV z : Nat)).toNat false) = (bb && y) from by rw [hsn, HBB.out, hy, Bool.and_assoc])
     have HPC := Lib.hid (fun (W : World) (h : Below wr.heap.size wr W) => hPL W (HT.out.below (HBb.out.trans ((HZ.out.trans (h.mono HZ.out.size)).mono HBb.out.size))) HOK.out)
     have HYR := Lib.hid (((HBb.out.trans (HZ.out.mono HBb.out.size)).block _ (heap_lt HY.out)).trans HY.out)
     clear hz hsn hq hPL e0 f0 hy hql
     go_upto_region 9 with fail
     refine wp_region_held_drew (S := fun w' => Below wr.heap.size wr w') (by kernel_rfl) (mx_drew wr) (fun hS => ?_)
     refine takeF 0 35 (fun wq hSw => bx4 hSw HYR.out) ?_
     refine takeE 1 36 ?_
     refine takeE 2 37 ?_
     refine takeE 3 38 ?_
     refine takeF 4 39 (fun wq hSw => (hSw.cell (p := ⟨gr, j, none⟩) hgr).trans F0.out) ?_
     refine ready1 5 (fun K hK => ?_)
     go_simp
     refine (ref_var z _).mono ?_
     rintro e w' ⟨rfl, rfl⟩
     refine hK.out _ _ hS (fun _ => ?_)
     clear hK
     refine ready1 6 (fun K hK => ?_)
     go_simp
     refine (HPC.out _ hS).mono ?_
     rintro e w5 ⟨rfl, hbN⟩
     have hSN := hS.trans (hbN.mono hS.size)
     refine hK.out _ _ hSN (fun _ => ?_)
     clear hK hbN hS
     have hS := hSN
     clear hSN
     refine takeE 7 14 ?_
     refine wpAnyH_done (by kernel_rfl) ?_ _
     have e0 := (hS.cell (p := ⟨g2, q, none⟩) hg2).trans E0.out
     have HZ5 := Lib.hid (HZ.out.trans (hS.mono HZ.out.size))
     clear hS
     have hqa : (0 : Int) ≤ (q : Int) := by omega
     have hqb : (q : Int) < (k : Int) := by omega
     cases bb with
     | false =>
      go_wp2_with fail
      go_roundw
      case rel => exact ⟨j + 1, false, by omega, by go_num, rfl, Lib.hid (by rw [HSN.out]; rfl), HZ5⟩
      case measure => simp [intOf]; omega
     | true =>
      go_wp2_with fail
      go_roundw
      case rel => exact ⟨j + 1, y, by omega, by go_num, rfl, Lib.hid (by rw [HSN.out]; rfl), HZ5⟩
      case measure => simp [intOf]; omega
    ·
     obtain rfl : j = r.length := by omega
     have HRE := Lib.hid (show rw_ = bb from by rw [HRQ.out, HBB.out, List.take_length])
     have hbw := HZ.out
     have HV1c := Lib.hid (own_below HV1b.out hbw)
     have HV2c := Lib.hid (own_below HV2b.out hbw)
     have HBc := Lib.hid (HBb.out.trans (hbw.mono HBb.out.size))
     have hzc := HBc.out.size
     have hjx : decide ((r.length : Int) < (r.length : Int)) = false := by simp
     clear hbw HV1b HV2b HBb HZ HBB HRQ HRP HR2
     go_upto_region 12 with (at_builtin; refine wpList_append_own_at _ rfl _ _ 118 rfl wa.heap.size 4 i0 (.bool false) 1 1 Tryz.underlying118 hi0 hi1 hi2 hi3 rfl (by decide) _ k _ rfl (own_below HV1c.out (mx_al _ _)) ⟨wr.heap.size, 0, none⟩ 1 1 [.bool bb] rfl rfl (cell_one _ _ _) (by simp [Value.oneCell']) (by unfold maxLen; omega) (by omega) (by simp; omega) ?_; intro v' w9 hown hgrow hnl hat; obtain ⟨Aw, kw, hv2, _⟩ := mx_slice hown; subst hv2; have HOWN := Lib.hid hown; have HG := Lib.hid hgrow; have HAT := Lib.hid hat; clear hown hgrow hnl hat)
     have hba : Below wr.heap.size wr (wr.alloc (.cells #[.bool bb] 4)) := mx_al _ _
     have hza : (wr.alloc (.cells #[.bool bb] 4)).heap.size = wr.heap.size + 1 := by simp
     have HB9 := Lib.hid ((HBc.out.trans (hba.mono hzc)).grown HG.out (by simp; omega) (fun g hg => (own_lt HV1c.out g hg).1))
     have HV2d := Lib.hid (own_kept (own_below HV2c.out hba) (Kept.grown HG.out) (fun g hg e => HAP.out g e.symm hg))
     have HAP9 := Lib.hid (show ∀ g, (Value.slice Aw (k + 1) kw).ownBlock = some g → (Value.slice A2 k c2).ownBlock ≠ some g from fun g hg e => by
      have hl := (own_lt HV2c.out g e).2
      rcases HAT.out with h | h
      ·
       exact HAP.out g (h.symm.trans hg) e
      ·
       have := hg.symm.trans h
       rw [hza] at this
       have := Option.some.inj this
       omega)
     have hz9 := HB9.out.size
     have HU9 := Lib.hid (HU.out.below HB9.out)
     have w1 : IntKind.i64.wrap (-xl) = -xl := IntWalk.i64_in _ (by omega)
     have hcell : ∃ g o, Ai = some ⟨g, o, none⟩ ∧ w9.cell? ⟨g, o + k * 3, none⟩ = some (.int .i64 xl) ∧ k < ci := by
      obtain ⟨x', hx'⟩ := getElem_of hlt
      obtain ⟨g, o, c', hv, hlc, hg, d0, _⟩ := HI.out.item hx'
      simp only [Value.slice.injEq, true_and] at hv
      obtain ⟨rfl, rfl⟩ := hv
      have hli := HLI.out
      unfold itLit at hli
      rw [hx'] at hli
      refine ⟨g, o, rfl, ?_, by omega⟩
      rw [← hli]
      exact (HB9.out.cell (p := ⟨g, o + k * 3, none⟩) hg).trans d0
     obtain ⟨gi, oi, rfl, d0, hkci⟩ := hcell
     obtain ⟨b0, b1, b2, b3⟩ := bx4 HB9.out HY.out
     cases bb with
     | true =>
      go_wp2_with (at_builtin; refine wpList_append_own_at _ rfl _ _ 118 rfl wa.heap.size 4 i0 (.bool false) 1 1 Tryz.underlying118 hi0 hi1 hi2 hi3 rfl (by decide) _ k _ rfl (own_below HV2d.out (mx_al _ _)) ⟨w9.heap.size, 0, none⟩ 1 1 [.bool true] rfl rfl (cell_one _ _ _) (by simp [Value.oneCell']) (by unfold maxLen; omega) (by omega) (by simp; omega) ?_; intro v' w7 hown hgrow hnl hat; obtain ⟨Az, kz, hv2, _⟩ := mx_slice hown; subst hv2; have HOWZ := Lib.hid hown; have HGZ := Lib.hid hgrow; have HAZ := Lib.hid hat; clear hown hgrow hnl hat)
      have hres := tab_round (bb := true) HRE.out HLI.out HTN.out rfl HOWN.out HOWZ.out HGZ.out HAZ.out HAP9.out HB9.out HV2d.out
      obtain ⟨h1, h2, h3, h4⟩ := hres
      go_roundw
      case rel => exact ⟨k + 1, by omega, by go_num, Lib.hid h1, Lib.hid h2, Lib.hid h3, Lib.hid h4⟩
      case measure => simp [intOf]; omega
     | false =>
      go_wp2_with fail
      refine (ref_has15 (-xl) (.slice Au c.length cu) c w9 HU9.out (by omega)).mono ?_
      rintro e w' ⟨rfl, rfl⟩
      obtain ⟨yy, hyy⟩ : ∃ y, c.contains (-xl) = y := ⟨_, rfl⟩
      rw [hyy]
      have HYY := Lib.hid hyy
      clear hyy
      go_wp2_with (at_builtin; refine wpList_append_own_at _ rfl _ _ 118 rfl wa.heap.size 4 i0 (.bool false) 1 1 Tryz.underlying118 hi0 hi1 hi2 hi3 rfl (by decide) _ k _ rfl (own_below HV2d.out (mx_al _ _)) ⟨w9.heap.size, 0, none⟩ 1 1 [.bool yy] rfl rfl (cell_one _ _ _) (by simp [Value.oneCell']) (by unfold maxLen; omega) (by omega) (by simp; omega) ?_; intro v' w7 hown hgrow hnl hat; obtain ⟨Az, kz, hv2, _⟩ := mx_slice hown; subst hv2; have HOWZ := Lib.hid hown; have HGZ := Lib.hid hgrow; have HAZ := Lib.hid hat; clear hown hgrow hnl hat)
      have hres := tab_round (bb := false) HRE.out HLI.out HTN.out (by rw [HYY.out]; rfl) HOWN.out HOWZ.out HGZ.out HAZ.out HAP9.out HB9.out HV2d.out
      obtain ⟨h1, h2, h3, h4⟩ := hres
      go_roundw
      case rel => exact ⟨k + 1, by omega, by go_num, Lib.hid h1, Lib.hid h2, Lib.hid h3, Lib.hid h4⟩
      case measure => simp [intOf]; omega
  ·
   obtain rfl : k = t.items.length := by omega
   go_wp2_with fail
   go_ret2
   exact ⟨⟨_, _, rfl, own_mono HV1.out HBA.out.size, own_mono HV2.out HBA.out.size⟩, HBA.out.trans (HB.out.mono HBA.out.size)⟩
end Go.Proofs.YtiodfolcnnkdjaaGreat
namespace Go.Proofs.YtiodfolcnnkdjaaGreat
open Go.RowKit

def rCov15 (all : List REn) (its : List RIt) (c : List Int) (l : Int) : Bool := decide (rVl its l < 0) && (rTab15 all its c its.length).2.getD (rP its (litV l : Nat)).toNat false
def rRed15 (all : List REn) (its : List RIt) (c : List Int) (l : Int) : Bool := c.contains l && (rTab15 all its c its.length).1.getD (rP its (litV l : Nat)).toNat false
theorem neg_place {its : List RIt} {l : Int} (h : rVl its l < 0) : ∃ q : Nat, rP its (litV l : Nat) = q ∧ q < its.length := by
 have h1 := rVl_place (its := its) (x := l) (by omega)
 have h2 := rP_lt its (litV l : Nat)
 exact ⟨(rP its (litV l : Nat)).toNat, (Int.toNat_of_nonneg h1).symm, by omega⟩
set_option maxRecDepth 100000 in
set_option maxHeartbeats 2000000 in
theorem ref_covered15 {O : Nat → Prop} (u : Value) (c : List Int) (l : Int) (a : RAr) (t : RTr) (av tv : Value) (w : World) (ha : RAAt w av a) (h : RTAt w tv t) (hao : a.Ok) (ho : t.Ok) (hu : IntsIn O w u c) (hcl : c.length ≤ 1000000) (hP : PlOk t.items) :
  Calls Tryz.prog 27 #[av, tv, u, .int .i64 l] w fun e w' => e = .returned (.bool (rCov15 a.all t.items c l)) ∧ Below w.heap.size w w' := by
 obtain ⟨res, hres⟩ : ∃ r, rCov15 a.all t.items c l = r := ⟨_, rfl⟩
 rw [hres]
 have HOK := Lib.hid ho
 have HAO := Lib.hid hao
 have HU0 := Lib.hid hu
 have HTB := Lib.hid (fun av tv w ha h u (hu : IntsIn O w u c) => ref_table15 u c a t av tv w ha h hao ho hu hcl hP)
 clear ho hao hP
 obtain ⟨ev, rfl, he⟩ := ha
 obtain ⟨iv, sv, rfl, hi, hs⟩ := h
 obtain ⟨wa, hwa, hba, hb0, hb1⟩ := rbox2 w #[ev, .int .i64 a.last] #[.int .i64 t.vars, .int .i64 t.now, iv, sv] 56 59
 have HE := Lib.hid (he.below hba)
 have HI := Lib.hid (hi.below hba)
 have HT := Lib.hid (show RTAt wa (.agg #[.int .i64 t.vars, .int .i64 t.now, iv, sv]) t from ⟨iv, sv, rfl, hi.below hba, hs.below hba⟩)
 have HA := Lib.hid (show RAAt wa (.agg #[ev, .int .i64 a.last]) a from ⟨ev, rfl, he.below hba⟩)
 have HX := Lib.hid hb0
 have HY := Lib.hid hb1
 have HBA := Lib.hid hba
 have HWA := Lib.hid hwa
 clear hwa hba hb0 hb1 hs hi he
 have HU := Lib.hid (HU0.out.below HBA.out)
 have hu := HU0.out
 obtain ⟨Au, cu, rfl, _⟩ := hu
 clear HU0
 go_enter Tryz.func27, Tryz.ntmps27
 go_upto_region 1 with fail
 rw [HWA.out]
 have k0 := bx4 (Below.refl _ _) HY.out
 have k1 := bx2 (Below.refl _ _) HX.out
 go_wp2_with fail
 refine (HTB.out _ _ _ HA.out HT.out _ HU.out).mono ?_
 rintro e w2 ⟨⟨v1, v2, rfl, ho1, ho2⟩, hb⟩
 obtain ⟨A1, c1, rfl, _⟩ := mx_slice ho1
 obtain ⟨A2, c2, rfl, _⟩ := mx_slice ho2
 have HO1 := Lib.hid ho1
 have HO2 := Lib.hid ho2
 have HB2 := Lib.hid hb
 have HT2 := Lib.hid (HT.out.below hb)
 have HU2 := Lib.hid (HU.out.below hb)
 have HY2 := Lib.hid ((hb.block _ (heap_lt HY.out)).trans HY.out)
 have HL := Lib.hid (rTab15_len a.all t.items c t.items.length)
 clear ho1 ho2 hb k0 k1 HTB HA HT HX HY HU
 unfold rCov15 at hres
 by_cases hv : rVl t.items l < 0
 ·
  have q0 : decide (rVl t.items l < 0) = true := by simpa using hv
  obtain ⟨q, hq, hql⟩ := neg_place hv
  rw [q0, hq, Int.toNat_natCast, Bool.true_and] at hres
  have HVL := Lib.hid (ref_value l t (.agg #[.int .i64 t.vars, .int .i64 t.now, iv, sv]))
  have hPL := ref_place (litV l : Nat) t (.agg #[.int .i64 t.vars, .int .i64 t.now, iv, sv])
  rw [hq] at hPL
  have HPL := Lib.hid hPL
  obtain ⟨g2, _, _, hv2, hc2, _, _, _, _⟩ := mx_some HO2.out (by omega)
  simp only [Value.slice.injEq, true_and] at hv2
  obtain ⟨rfl, rfl⟩ := hv2
  have e0 := row_at HO2.out (j := q) (by rw [HL.out.2]; exact hql)
  rw [hres] at e0
  have E0 := Lib.hid e0
  have hg2 := (own_lt HO2.out g2 rfl).2
  have hqa : (0 : Int) ≤ (q : Int) := by omega
  have hqb : (q : Int) < (t.items.length : Int) := by omega
  clear hv hq hPL e0 hres
  go_upto_region 2 with fail
  refine wp_region_held_drew (S := fun w' => Below w2.heap.size w2 w') (by kernel_rfl) (mx_drew w2) (fun hS => ?_)
  refine takeF 0 18 (fun wq hSw => bx4 hSw HY2.out) ?_
  refine takeE 1 19 ?_
  refine ready1 2 (fun K hK => ?_)
  go_simp
  refine (HVL.out _ (HT2.out.below hS) HOK.out).mono ?_
  rintro e w3 ⟨rfl, hbN⟩
  have hSN := hS.trans (hbN.mono hS.size)
  refine hK.out _ _ hSN (fun _ => ?_)
  clear hK hbN hS
  have hS := hSN
  clear hSN
  refine takeE 3 21 ?_
  refine takeE 4 22 ?_
  refine takeE 5 23 ?_
  refine takeF 6 24 (fun wq hSw => bx4 hSw HY2.out) ?_
  refine takeE 7 25 ?_
  refine ready1 8 (fun K hK => ?_)
  go_simp
  refine (ref_var l _).mono ?_
  rintro e w' ⟨rfl, rfl⟩
  refine hK.out _ _ hS (fun _ => ?_)
  clear hK
  refine ready1 9 (fun K hK => ?_)
  go_simp
  refine (HPL.out _ (HT2.out.below hS) HOK.out).mono ?_
  rintro e w4 ⟨rfl, hbN⟩
  have hSN := hS.trans (hbN.mono hS.size)
  refine hK.out _ _ hSN (fun _ => ?_)
  clear hK hbN hS
  have hS := hSN
  clear hSN
  refine takeE 10 28 ?_
  refine takeF 11 29 (fun wq hSw => (hSw.cell (p := ⟨g2, q, none⟩) hg2).trans E0.out) ?_
  refine takeE 12 30 ?_
  refine takeE 13 8 ?_
  refine wpAnyH_done (by kernel_rfl) ?_ _
  have HBE := Lib.hid (HBA.out.trans ((HB2.out.trans (hS.mono HB2.out.size)).mono HBA.out.size))
  clear hS
  go_wp2_with fail
  go_ret
  exact ⟨rfl, HBE.out⟩
 ·
  have q0 : decide (rVl t.items l < 0) = false := by simpa using hv
  rw [q0, Bool.false_and] at hres
  subst hres
  have HVL := Lib.hid (ref_value l t (.agg #[.int .i64 t.vars, .int .i64 t.now, iv, sv]))
  clear hv
  go_upto_region 2 with fail
  refine wp_region_held_drew (S := fun w' => Below w2.heap.size w2 w') (by kernel_rfl) (mx_drew w2) (fun hS => ?_)
  refine takeF 0 18 (fun wq hSw => bx4 hSw HY2.out) ?_
  refine takeE 1 19 ?_
  refine ready1 2 (fun K hK => ?_)
  go_simp
  refine (HVL.out _ (HT2.out.below hS) HOK.out).mono ?_
  rintro e w3 ⟨rfl, hbN⟩
  have hSN := hS.trans (hbN.mono hS.size)
  refine hK.out _ _ hSN (fun _ => ?_)
  clear hK hbN hS
  have hS := hSN
  clear hSN
  refine takeE 3 21 ?_
  refine takeE 4 22 ?_
  refine takeU 5 23 ?_
  refine takeU 6 24 ?_
  refine takeU 7 25 ?_
  refine takeU 8 26 ?_
  refine takeU 9 27 ?_
  refine takeU 10 28 ?_
  refine takeU 11 29 ?_
  refine takeE 12 30 ?_
  refine takeE 13 8 ?_
  refine wpAnyH_done (by kernel_rfl) ?_ _
  have HBE := Lib.hid (HBA.out.trans ((HB2.out.trans (hS.mono HB2.out.size)).mono HBA.out.size))
  clear hS
  go_wp2_with fail
  go_ret
  exact ⟨rfl, HBE.out⟩
set_option maxRecDepth 100000 in
set_option maxHeartbeats 2000000 in
theorem ref_redundant15 {O : Nat → Prop} (u : Value) (c : List Int) (l : Int) (a : RAr) (t : RTr) (av tv : Value) (w : World) (ha : RAAt w av a) (h : RTAt w tv t) (hao : a.Ok) (ho : t.Ok) (hu : IntsIn O w u c) (hcl : c.length ≤ 1000000) (hP : PlOk t.items) (hf : ∀ y ∈ c, rVl t.items y < 0) :
  Calls Tryz.prog 28 #[av, tv, u, .int .i64 l] w fun e w' => e = .returned (.bool (rRed15 a.all t.items c l)) ∧ Below w.heap.size w w' := by
 obtain ⟨res, hres⟩ : ∃ r, rRed15 a.all t.items c l = r := ⟨_, rfl⟩
 rw [hres]
 have HOK := Lib.hid ho
 have HAO := Lib.hid hao
 have HU0 := Lib.hid hu
 have HTB := Lib.hid (fun av tv w ha h u (hu : IntsIn O w u c) => ref_table15 u c a t av tv w ha h hao ho hu hcl hP)
 clear ho hao hP
 obtain ⟨ev, rfl, he⟩ := ha
 obtain ⟨iv, sv, rfl, hi, hs⟩ := h
 obtain ⟨wa, hwa, hba, hb0, hb1⟩ := rbox2 w #[ev, .int .i64 a.last] #[.int .i64 t.vars, .int .i64 t.now, iv, sv] 56 59
 have HE := Lib.hid (he.below hba)
 have HI := Lib.hid (hi.below hba)
 have HT := Lib.hid (show RTAt wa (.agg #[.int .i64 t.vars, .int .i64 t.now, iv, sv]) t from ⟨iv, sv, rfl, hi.below hba, hs.below hba⟩)
 have HA := Lib.hid (show RAAt wa (.agg #[ev, .int .i64 a.last]) a from ⟨ev, rfl, he.below hba⟩)
 have HX := Lib.hid hb0
 have HY := Lib.hid hb1
 have HBA := Lib.hid hba
 have HWA := Lib.hid hwa
 clear hwa hba hb0 hb1 hs hi he
 have HU := Lib.hid (HU0.out.below HBA.out)
 have hu := HU0.out
 obtain ⟨Au, cu, rfl, _⟩ := hu
 clear HU0
 go_enter Tryz.func28, Tryz.ntmps28
 go_upto_region 1 with fail
 rw [HWA.out]
 have k0 := bx4 (Below.refl _ _) HY.out
 have k1 := bx2 (Below.refl _ _) HX.out
 go_wp2_with fail
 refine (HTB.out _ _ _ HA.out HT.out _ HU.out).mono ?_
 rintro e w2 ⟨⟨v1, v2, rfl, ho1, ho2⟩, hb⟩
 obtain ⟨A1, c1, rfl, _⟩ := mx_slice ho1
 obtain ⟨A2, c2, rfl, _⟩ := mx_slice ho2
 have HO1 := Lib.hid ho1
 have HO2 := Lib.hid ho2
 have HB2 := Lib.hid hb
 have HT2 := Lib.hid (HT.out.below hb)
 have HU2 := Lib.hid (HU.out.below hb)
 have HY2 := Lib.hid ((hb.block _ (heap_lt HY.out)).trans HY.out)
 have HL := Lib.hid (rTab15_len a.all t.items c t.items.length)
 clear ho1 ho2 hb k0 k1 HTB HA HT HX HY HU
 unfold rRed15 at hres
 have hHS := fun w h => ref_has15 l (.slice Au c.length cu) c w (O := O) h (by omega)
 cases hv : c.contains l with
 | true =>
  rw [hv] at hHS
  obtain ⟨q, hq, hql⟩ := neg_place (hf l (by simpa using hv))
  rw [hv, hq, Int.toNat_natCast, Bool.true_and] at hres
  have HHS := Lib.hid hHS
  have hPL := ref_place (litV l : Nat) t (.agg #[.int .i64 t.vars, .int .i64 t.now, iv, sv])
  rw [hq] at hPL
  have HPL := Lib.hid hPL
  obtain ⟨g1, _, _, hv1, hc1, _, _, _, _⟩ := mx_some HO1.out (by omega)
  simp only [Value.slice.injEq, true_and] at hv1
  obtain ⟨rfl, rfl⟩ := hv1
  have e0 := row_at HO1.out (j := q) (by rw [HL.out.1]; exact hql)
  rw [hres] at e0
  have E0 := Lib.hid e0
  have hg1 := (own_lt HO1.out g1 rfl).2
  have hqa : (0 : Int) ≤ (q : Int) := by omega
  have hqb : (q : Int) < (t.items.length : Int) := by omega
  clear hv hq hPL e0 hres hf hHS
  go_upto_region 2 with fail
  refine wp_region_held_drew (S := fun w' => Below w2.heap.size w2 w') (by kernel_rfl) (mx_drew w2) (fun hS => ?_)
  refine takeE 0 18 ?_
  refine takeE 1 19 ?_
  refine ready1 2 (fun K hK => ?_)
  go_simp
  refine (HHS.out _ (HU2.out.below hS)).mono ?_
  rintro e w' ⟨rfl, rfl⟩
  refine hK.out _ _ hS (fun _ => ?_)
  clear hK
  refine takeE 3 21 ?_
  refine takeE 4 22 ?_
  refine takeF 5 23 (fun wq hSw => bx4 hSw HY2.out) ?_
  refine takeE 6 24 ?_
  refine ready1 7 (fun K hK => ?_)
  go_simp
  refine (ref_var l _).mono ?_
  rintro e w' ⟨rfl, rfl⟩
  refine hK.out _ _ hS (fun _ => ?_)
  clear hK
  refine ready1 8 (fun K hK => ?_)
  go_simp
  refine (HPL.out _ (HT2.out.below hS) HOK.out).mono ?_
  rintro e w4 ⟨rfl, hbN⟩
  have hSN := hS.trans (hbN.mono hS.size)
  refine hK.out _ _ hSN (fun _ => ?_)
  clear hK hbN hS
  have hS := hSN
  clear hSN
  refine takeE 9 27 ?_
  refine takeF 10 28 (fun wq hSw => (hSw.cell (p := ⟨g1, q, none⟩) hg1).trans E0.out) ?_
  refine takeE 11 29 ?_
  refine takeE 12 8 ?_
  refine wpAnyH_done (by kernel_rfl) ?_ _
  have HBE := Lib.hid (HBA.out.trans ((HB2.out.trans (hS.mono HB2.out.size)).mono HBA.out.size))
  clear hS
  go_wp2_with fail
  go_ret
  exact ⟨rfl, HBE.out⟩
 | false =>
  rw [hv] at hHS
  rw [hv, Bool.false_and] at hres
  subst hres
  have HHS := Lib.hid hHS
  clear hv hf hHS
  go_upto_region 2 with fail
  refine wp_region_held_drew (S := fun w' => Below w2.heap.size w2 w') (by kernel_rfl) (mx_drew w2) (fun hS => ?_)
  refine takeE 0 18 ?_
  refine takeE 1 19 ?_
  refine ready1 2 (fun K hK => ?_)
  go_simp
  refine (HHS.out _ (HU2.out.below hS)).mono ?_
  rintro e w' ⟨rfl, rfl⟩
  refine hK.out _ _ hS (fun _ => ?_)
  clear hK
  refine takeE 3 21 ?_
  refine takeU 4 22 ?_
  refine takeU 5 23 ?_
  refine takeU 6 24 ?_
  refine takeU 7 25 ?_
  refine takeU 8 26 ?_
  refine takeU 9 27 ?_
  refine takeU 10 28 ?_
  refine takeE 11 29 ?_
  refine takeE 12 8 ?_
  refine wpAnyH_done (by kernel_rfl) ?_ _
  have HBE := Lib.hid (HBA.out.trans ((HB2.out.trans (hS.mono HB2.out.size)).mono HBA.out.size))
  clear hS
  go_wp2_with fail
  go_ret
  exact ⟨rfl, HBE.out⟩
def rShr15 (red : Int → Bool) (h0 : Int) : List Int → List Int → List Int
 | out, [] => out
 | out, x :: r => rShr15 red h0 (if out.contains x = false ∧ (x = h0 ∨ red x = false) then out ++ [x] else out) r
def rShort15 (all : List REn) (its : List RIt) (c : List Int) : List Int := rShr15 (fun x => rRed15 all its c x) (c.getD 0 0) [] c
set_option maxRecDepth 100000 in
set_option maxHeartbeats 4000000 in
theorem ref_shorten15 {O : Nat → Prop} (u : Value) (c : List Int) (a : RAr) (t : RTr) (av tv : Value) (w : World) (ha : RAAt w av a) (h : RTAt w tv t) (hao : a.Ok) (ho : t.Ok) (hu : IntsIn O w u c) (hcl : c.length ≤ 1000000) (hP : PlOk t.items) (hf : ∀ y ∈ c, rVl t.items y < 0) :
  Calls Tryz.prog 29 #[av, tv, u] w fun e w' => (∃ v, e = .returned v ∧ w'.ownsRow w.heap.size 3 1 v (rShort15 a.all t.items c).length ((rShort15 a.all t.items c).map (Value.int .i64))) ∧ Below w.heap.size w w' := by
 obtain ⟨i0, hi0, hi1, hi2, hi3⟩ := info_parts tinfo_int
 have HRD := Lib.hid (fun (l : Int) av tv w ha h u (hu : IntsIn O w u c) => ref_redundant15 u c l a t av tv w ha h hao ho hu hcl hP hf)
 obtain ⟨red, hred⟩ : ∃ r : Int → Bool, (fun x => rRed15 a.all t.items c x) = r := ⟨_, rfl⟩
 have HRED := Lib.hid (fun l => (congrFun hred l : rRed15 a.all t.items c l = red l))
 obtain ⟨res, hres⟩ : ∃ r, rShort15 a.all t.items c = r := ⟨_, rfl⟩
 rw [hres]
 unfold rShort15 at hres
 rw [hred] at hres
 obtain ⟨h0, hh0⟩ : ∃ z, c.getD 0 0 = z := ⟨_, rfl⟩
 rw [hh0] at hres
 have HRS := Lib.hid hres
 have HH0 := Lib.hid hh0
 have HU0 := Lib.hid hu
 clear ho hao hP hf hred hres hh0
 obtain ⟨ev, rfl, he⟩ := ha
 obtain ⟨iv, sv, rfl, hi, hs⟩ := h
 obtain ⟨wa, hwa, hba, hb0, hb1⟩ := rbox2 w #[ev, .int .i64 a.last] #[.int .i64 t.vars, .int .i64 t.now, iv, sv] 56 59
 have HE := Lib.hid (he.below hba)
 have HI := Lib.hid (hi.below hba)
 have HT := Lib.hid (show RTAt wa (.agg #[.int .i64 t.vars, .int .i64 t.now, iv, sv]) t from ⟨iv, sv, rfl, hi.below hba, hs.below hba⟩)
 have HA := Lib.hid (show RAAt wa (.agg #[ev, .int .i64 a.last]) a from ⟨ev, rfl, he.below hba⟩)
 have HX := Lib.hid hb0
 have HY := Lib.hid hb1
 have HBA := Lib.hid hba
 have HWA := Lib.hid hwa
 clear hwa hba hb0 hb1 hs hi he
 have HU := Lib.hid (HU0.out.below HBA.out)
 have hu := HU0.out
 obtain ⟨Au, cu, rfl, hcu, _, _⟩ := hu
 clear HU0
 go_enter Tryz.func29, Tryz.ntmps29
 go_upto_region 1 with fail
 rw [HWA.out]
 go_wp2_with fail
 go_loopw [7, 8] (fun v i wr => ∃ (k : Nat) (out : List Int), k ≤ c.length ∧ out.length ≤ k ∧ i = .int .i64 k ∧ Hid (res = rShr15 red h0 out (c.drop k)) ∧ Hid (wr.ownsRow wa.heap.size 3 1 v out.length (out.map (Value.int .i64))) ∧ Hid (Below wa.heap.size wa wr)) (fun _ i _ => c.length - (intOf i).toNat)
 case atStart => exact ⟨0, [], Nat.zero_le _, Nat.zero_le _, rfl, Lib.hid HRS.out.symm, Lib.hid (World.ownsRow_nil _ _ _ _), Lib.hid (Below.refl _ _)⟩
 case round =>
  obtain ⟨k, out, hk, hko, rfl, HE, HV, HB⟩ := hrel
  have hzw := HB.out.size
  obtain ⟨Av, cv, rfl, _⟩ := mx_slice HV.out
  by_cases hlt : k < c.length
  ·
   obtain ⟨x, hx⟩ := getElem_of hlt
   obtain ⟨A', c', hA, _, _, hxs⟩ := HU.out.below HB.out
   simp only [Value.slice.injEq, true_and] at hA
   obtain ⟨rfl, rfl⟩ := hA
   obtain ⟨g, o, rfl, hg, _, d0⟩ := hxs k x hx
   obtain ⟨y, hy⟩ := getElem_of (show 0 < c.length by omega)
   obtain ⟨g', o', hgo, _, _, d1⟩ := hxs 0 y hy
   simp only [Option.some.injEq, Addr.mk.injEq, and_true] at hgo
   obtain ⟨rfl, rfl⟩ := hgo
   have hyh : y = h0 := by rw [← HH0.out, List.getD_eq_getElem?_getD, hy]; rfl
   subst hyh
   rw [Nat.add_zero] at d1
   have D0 := Lib.hid d0
   have D1 := Lib.hid d1
   have hkc : k < cu := by omega
   have h0c : 0 < cu := by omega
   have hka : (0 : Int) ≤ (k : Int) := by omega
   have hkb : (k : Int) < (c.length : Int) := by omega
   have hkb0 : 0 < c.length := by omega
   have hHS := ref_has15 x (.slice Av out.length cv) out wr (IntsIn.of_own HV.out) (by omega)
   have HHO := Lib.hid (fun w (hw : Below wr.heap.size wr w) => ref_has15 x (.slice Av out.length cv) out w ((IntsIn.of_own HV.out).below hw) (by omega))
   have hdr := drop_at hx
   have HNX := Lib.hid (show res = rShr15 red y (if out.contains x = false ∧ (x = y ∨ red x = false) then out ++ [x] else out) (c.drop (k + 1)) from by rw [HE.out, hdr]; rfl)
   have HTR := Lib.hid (HT.out.below HB.out)
   have HAR := Lib.hid (HA.out.below HB.out)
   have HUR := Lib.hid (HU.out.below HB.out)
   have HXR := Lib.hid ((HB.out.block _ (heap_lt HX.out)).trans HX.out)
   have HYR := Lib.hid ((HB.out.block _ (heap_lt HY.out)).trans HY.out)
   clear hx hxs hy d0 d1 hdr hHS
   cases hc : out.contains x with
   | true =>
    rw [hc] at HHO HNX
    have HN2 := Lib.hid (show res = rShr15 red y out (c.drop (k + 1)) from HNX.out)
    clear hc
    go_upto_region 5 with fail
    refine wp_region_held_drew (S := fun w' => Below wr.heap.size wr w') (by kernel_rfl) (mx_drew wr) (fun hS => ?_)
    refine takeE 0 15 ?_
    refine takeE 1 16 ?_
    refine takeE 2 17 ?_
    refine takeE 3 18 ?_
    refine takeF 4 19 (fun wq hSw => (hSw.cell (p := ⟨g, o + k, none⟩) hg).trans D0.out) ?_
    refine ready1 5 (fun K hK => ?_)
    go_simp
    refine (HHO.out _ hS).mono ?_
    rintro e w' ⟨rfl, rfl⟩
    refine hK.out _ _ hS (fun _ => ?_)
    clear hK
    refine takeE 6 21 ?_
    refine takeE 7 22 ?_
    refine takeU 8 23 ?_
    refine takeU 9 24 ?_
    refine takeU 10 25 ?_
    refine takeU 11 26 ?_
    refine takeU 12 27 ?_
    refine takeU 13 28 ?_
    refine takeU 14 29 ?_
    refine takeU 15 30 ?_
    refine takeU 16 31 ?_
    refine takeU 17 32 ?_
    refine takeU 18 33 ?_
    refine takeU 19 34 ?_
    refine takeU 20 35 ?_
    refine takeU 21 36 ?_
    refine takeU 22 37 ?_
    refine takeU 23 38 ?_
    refine takeU 24 39 ?_
    refine takeU 25 40 ?_
    refine takeU 26 41 ?_
    refine takeE 27 42 ?_
    refine wpAnyH_done (by kernel_rfl) ?_ _
    have HB4 := Lib.hid (HB.out.trans (hS.mono HB.out.size))
    have HV4 := Lib.hid (own_below HV.out hS)
    clear hS
    go_wp2_with fail
    go_roundw
    case rel => exact ⟨k + 1, out, by omega, by omega, by go_num, HN2, HV4, HB4⟩
    case measure => simp [intOf]; omega
   | false =>
    rw [hc] at HHO HNX
    clear hc
    by_cases hxy : x = y
    ·
     have q1 : (x == y) = true := by simpa using hxy
     have HN2 := Lib.hid (show res = rShr15 red y (out ++ [x]) (c.drop (k + 1)) from by rw [HNX.out, if_pos ⟨rfl, .inl hxy⟩])
     clear hxy
     go_upto_region 5 with fail
     refine wp_region_held_drew (S := fun w' => Below wr.heap.size wr w') (by kernel_rfl) (mx_drew wr) (fun hS => ?_)
     refine takeE 0 15 ?_
     refine takeE 1 16 ?_
     refine takeE 2 17 ?_
     refine takeE 3 18 ?_
     refine takeF 4 19 (fun wq hSw => (hSw.cell (p := ⟨g, o + k, none⟩) hg).trans D0.out) ?_
     refine ready1 5 (fun K hK => ?_)
     go_simp
     refine (HHO.out _ hS).mono ?_
     rintro e w' ⟨rfl, rfl⟩
     refine hK.out _ _ hS (fun _ => ?_)
     clear hK
     refine takeE 6 21 ?_
     refine takeE 7 22 ?_
     refine takeE 8 23 ?_
     refine takeE 9 24 ?_
     refine takeE 10 25 ?_
     refine takeF 11 26 (fun wq hSw => (hSw.cell (p := ⟨g, o + k, none⟩) hg).trans D0.out) ?_
     refine takeE 12 27 ?_
     refine takeE 13 28 ?_
     refine takeF 14 29 (fun wq hSw => (hSw.cell (p := ⟨g, o, none⟩) hg).trans D1.out) ?_
     refine takeE 15 30 ?_
     refine takeE 16 31 ?_
     refine takeU 17 32 ?_
     refine takeU 18 33 ?_
     refine takeU 19 34 ?_
     refine takeU 20 35 ?_
     refine takeU 21 36 ?_
     refine takeU 22 37 ?_
     refine takeU 23 38 ?_
     refine takeU 24 39 ?_
     refine takeU 25 40 ?_
     refine takeE 26 41 ?_
     refine takeE 27 42 ?_
     refine wpAnyH_done (by kernel_rfl) ?_ _
     have HB4 := Lib.hid (HB.out.trans (hS.mono HB.out.size))
     have HV4 := Lib.hid (own_below HV.out hS)
     have d0 := (hS.cell (p := ⟨g, o + k, none⟩) hg).trans D0.out
     have hz4 := HB4.out.size
     go_wp2_with (at_builtin; refine wpList_append_own_at _ rfl _ _ 36 rfl wa.heap.size 3 i0 (.int .i64 0) 1 8 Tryz.underlying36 hi0 hi1 hi2 hi3 rfl (by decide) _ out.length _ rfl (own_below HV4.out (mx_al _ _)) ⟨wr.drew.heap.size, 0, none⟩ 1 1 [.int .i64 x] rfl rfl (cell_one _ _ _) (by simp [Value.oneCell']) (by unfold maxLen; omega) (by omega) (by simp; omega) ?_; intro v' w9 hown hgrow hnl hat; obtain ⟨Aw, kw, hv2, _⟩ := mx_slice hown; subst hv2; have HOWN := Lib.hid hown; have HG := Lib.hid hgrow; clear hown hgrow hnl hat)
     have hw9 : Below wa.heap.size wa w9 := (HB4.out.trans ((mx_al _ (.cells #[.int .i64 x] 3)).mono hz4)).grown HG.out (Nat.le_trans hz4 (mx_al _ _).size) (fun g hg => (own_lt HV4.out g hg).1)
     clear hS
     go_roundw
     case rel => exact ⟨k + 1, out ++ [x], by omega, by simp; omega, by go_num, HN2, Lib.hid (by rw [List.length_append, List.map_append]; exact HOWN.out), Lib.hid hw9⟩
     case measure => simp [intOf]; omega
    ·
     have q1 : (x == y) = false := by simpa using hxy
     have hRX := fun w ha h hu => HRD.out x (.agg #[ev, .int .i64 a.last]) (.agg #[.int .i64 t.vars, .int .i64 t.now, iv, sv]) w ha h (.slice (some ⟨g, o, none⟩) c.length cu) hu
     rw [HRED.out x] at hRX
     cases hr : red x with
     | true =>
      rw [hr] at hRX
      have HRX := Lib.hid hRX
      have HN2 := Lib.hid (show res = rShr15 red y out (c.drop (k + 1)) from by rw [HNX.out, hr, if_neg (fun h => h.2.elim (fun h => hxy h) (fun h => by cases h))])
      clear hxy hr hRX
      go_upto_region 5 with fail
      refine wp_region_held_drew (S := fun w' => Below wr.heap.size wr w') (by kernel_rfl) (mx_drew wr) (fun hS => ?_)
      refine takeE 0 15 ?_
      refine takeE 1 16 ?_
      refine takeE 2 17 ?_
      refine takeE 3 18 ?_
      refine takeF 4 19 (fun wq hSw => (hSw.cell (p := ⟨g, o + k, none⟩) hg).trans D0.out) ?_
      refine ready1 5 (fun K hK => ?_)
      go_simp
      refine (HHO.out _ hS).mono ?_
      rintro e w' ⟨rfl, rfl⟩
      refine hK.out _ _ hS (fun _ => ?_)
      clear hK
      refine takeE 6 21 ?_
      refine takeE 7 22 ?_
      refine takeE 8 23 ?_
      refine takeE 9 24 ?_
      refine takeE 10 25 ?_
      refine takeF 11 26 (fun wq hSw => (hSw.cell (p := ⟨g, o + k, none⟩) hg).trans D0.out) ?_
      refine takeE 12 27 ?_
      refine takeE 13 28 ?_
      refine takeF 14 29 (fun wq hSw => (hSw.cell (p := ⟨g, o, none⟩) hg).trans D1.out) ?_
      refine takeE 15 30 ?_
      refine takeE 16 31 ?_
      refine takeF 17 32 (fun wq hSw => bx2 hSw HXR.out) ?_
      refine takeF 18 33 (fun wq hSw => bx4 hSw HYR.out) ?_
      refine takeE 19 34 ?_
      refine takeE 20 35 ?_
      refine takeE 21 36 ?_
      refine takeE 22 37 ?_
      refine takeF 23 38 (fun wq hSw => (hSw.cell (p := ⟨g, o + k, none⟩) hg).trans D0.out) ?_
      refine ready1 24 (fun K hK => ?_)
      go_simp
      refine (HRX.out _ (HAR.out.below hS) (HTR.out.below hS) (HUR.out.below hS)).mono ?_
      rintro e w4 ⟨rfl, hbN⟩
      have hSN := hS.trans (hbN.mono hS.size)
      refine hK.out _ _ hSN (fun _ => ?_)
      clear hK hbN hS
      have hS := hSN
      clear hSN
      refine takeE 25 40 ?_
      refine takeE 26 41 ?_
      refine takeE 27 42 ?_
      refine wpAnyH_done (by kernel_rfl) ?_ _
      have HB4 := Lib.hid (HB.out.trans (hS.mono HB.out.size))
      have HV4 := Lib.hid (own_below HV.out hS)
      clear hS
      go_wp2_with fail
      go_roundw
      case rel => exact ⟨k + 1, out, by omega, by omega, by go_num, HN2, HV4, HB4⟩
      case measure => simp [intOf]; omega
     | false =>
      rw [hr] at hRX
      have HRX := Lib.hid hRX
      have HN2 := Lib.hid (show res = rShr15 red y (out ++ [x]) (c.drop (k + 1)) from by rw [HNX.out, if_pos ⟨rfl, .inr hr⟩])
      clear hxy hr hRX
      go_upto_region 5 with fail
      refine wp_region_held_drew (S := fun w' => Below wr.heap.size wr w') (by kernel_rfl) (mx_drew wr) (fun hS => ?_)
      refine takeE 0 15 ?_
      refine takeE 1 16 ?_
      refine takeE 2 17 ?_
      refine takeE 3 18 ?_
      refine takeF 4 19 (fun wq hSw => (hSw.cell (p := ⟨g, o + k, none⟩) hg).trans D0.out) ?_
      refine ready1 5 (fun K hK => ?_)
      go_simp
      refine (HHO.out _ hS).mono ?_
      rintro e w' ⟨rfl, rfl⟩
      refine hK.out _ _ hS (fun _ => ?_)
      clear hK
      refine takeE 6 21 ?_
      refine takeE 7 22 ?_
      refine takeE 8 23 ?_
      refine takeE 9 24 ?_
      refine takeE 10 25 ?_
      refine takeF 11 26 (fun wq hSw => (hSw.cell (p := ⟨g, o + k, none⟩) hg).trans D0.out) ?_
      refine takeE 12 27 ?_
      refine takeE 13 28 ?_
      refine takeF 14 29 (fun wq hSw => (hSw.cell (p := ⟨g, o, none⟩) hg).trans D1.out) ?_
      refine takeE 15 30 ?_
      refine takeE 16 31 ?_
      refine takeF 17 32 (fun wq hSw => bx2 hSw HXR.out) ?_
      refine takeF 18 33 (fun wq hSw => bx4 hSw HYR.out) ?_
      refine takeE 19 34 ?_
      refine takeE 20 35 ?_
      refine takeE 21 36 ?_
      refine takeE 22 37 ?_
      refine takeF 23 38 (fun wq hSw => (hSw.cell (p := ⟨g, o + k, none⟩) hg).trans D0.out) ?_
      refine ready1 24 (fun K hK => ?_)
      go_simp
      refine (HRX.out _ (HAR.out.below hS) (HTR.out.below hS) (HUR.out.below hS)).mono ?_
      rintro e w4 ⟨rfl, hbN⟩
      have hSN := hS.trans (hbN.mono hS.size)
      refine hK.out _ _ hSN (fun _ => ?_)
      clear hK hbN hS
      have hS := hSN
      clear hSN
      refine takeE 25 40 ?_
      refine takeE 26 41 ?_
      refine takeE 27 42 ?_
      refine wpAnyH_done (by kernel_rfl) ?_ _
      have HB4 := Lib.hid (HB.out.trans (hS.mono HB.out.size))
      have HV4 := Lib.hid (own_below HV.out hS)
      have d0 := (hS.cell (p := ⟨g, o + k, none⟩) hg).trans D0.out
      have hz4 := HB4.out.size
      go_wp2_with (at_builtin; refine wpList_append_own_at _ rfl _ _ 36 rfl wa.heap.size 3 i0 (.int .i64 0) 1 8 Tryz.underlying36 hi0 hi1 hi2 hi3 rfl (by decide) _ out.length _ rfl (own_below HV4.out (mx_al _ _)) ⟨w4.heap.size, 0, none⟩ 1 1 [.int .i64 x] rfl rfl (cell_one _ _ _) (by simp [Value.oneCell']) (by unfold maxLen; omega) (by omega) (by simp; omega) ?_; intro v' w9 hown hgrow hnl hat; obtain ⟨Aw, kw, hv2, _⟩ := mx_slice hown; subst hv2; have HOWN := Lib.hid hown; have HG := Lib.hid hgrow; clear hown hgrow hnl hat)
      have hw9 : Below wa.heap.size wa w9 := (HB4.out.trans ((mx_al _ (.cells #[.int .i64 x] 3)).mono hz4)).grown HG.out (Nat.le_trans hz4 (mx_al _ _).size) (fun g hg => (own_lt HV4.out g hg).1)
      clear hS
      go_roundw
      case rel => exact ⟨k + 1, out ++ [x], by omega, by simp; omega, by go_num, HN2, Lib.hid (by rw [List.length_append, List.map_append]; exact HOWN.out), Lib.hid hw9⟩
      case measure => simp [intOf]; omega
  ·
   obtain rfl : k = c.length := by omega
   have hE := HE.out
   rw [List.drop_length] at hE
   have HN2 := Lib.hid (show res = out from hE)
   clear hE
   go_wp2_with fail
   go_ret
   exact ⟨⟨_, rfl, by rw [HN2.out]; exact own_mono HV.out HBA.out.size⟩, HBA.out.trans (HB.out.mono HBA.out.size)⟩
end Go.Proofs.YtiodfolcnnkdjaaGreat
namespace Go.Proofs.YtiodfolcnnkdjaaGreat
open Go.RowKit

/-- append of numbers to a row of one's own -/
theorem wpList_app_ints {w : World} {ops : Array Oper} {rest : List Oper} {o : Oper} {a : Act} {Q : Exit → Act → World → Prop} (hg : o.guard = none) (s x : Operand) (ho : o.op = .call { callee := .builtin .append, args := #[s, x], argTypes := #[36, 36] })
  (base : Nat) (v : Value) (xs : List Int) (hs : a.eval s = v) (hown : w.ownsRow base 3 1 v xs.length (xs.map (Value.int .i64))) (y : Value) (zs : List Int) (hx : a.eval x = y) (hy : SrcAt w y zs.length (zs.map (Value.int .i64)))
  (h63 : xs.length + zs.length ≤ 10000000000) (hbase : base ≤ w.heap.size)
  (h : ∀ v' w', w'.ownsRow base 3 1 v' (xs.length + zs.length) ((xs ++ zs).map (Value.int .i64)) → w.grownBy w' v.ownBlock → (v'.ownBlock = v.ownBlock ∨ v'.ownBlock = some w.heap.size) → wpList Tryz.prog ops Q rest (a.put o.dst v') w') : wpList Tryz.prog ops Q (o :: rest) a w := by
 obtain ⟨i0, hi0, hi1, hi2, hi3⟩ := info_parts tinfo_int
 refine wpList_append_any hg s x 36 ho base 3 i0 (.int .i64 0) 1 8 Tryz.underlying36 hi0 hi1 hi2 hi3 rfl (by decide) v xs.length _ hs hown y zs.length (zs.map (Value.int .i64)) hx hy (by simp) (fun u hu => ?_) (by unfold maxLen; omega) (by omega) hbase (fun v' w' h1 h2 h3 => h v' w' (by rw [List.map_append]; exact h1) h2 h3)
 obtain ⟨z, _, rfl⟩ := List.mem_map.1 hu
 rfl
def itRea (its : List RIt) (p : Nat) : Int := match its[p]? with
 | some x => x.reason
 | none => 0
/-- the hints: what is met is gone through from the last place on -/
def rH15 (all : List REn) (its : List RIt) (c : List Int) : Nat → List Int → List Int → Option (List Int)
 | 0, _, out => some out
 | n + 1, met, out => if met.contains (litV (itLit its n) : Int) = false ∨ (rV15 c).contains (litV (itLit its n) : Int) = true then rH15 all its c n met out else match rW15 all its n with
  | none => none
  | some r => rH15 all its c n (met ++ rV15 r) (itRea its n :: out)
def rHints15 (all : List REn) (its : List RIt) (id : Int) (c : List Int) : List Int × Int :=
 if rFind all id < 0 then ([], 30) else match all[(rFind all id).toNat]? with
 | none => ([], 30)
 | some e => if rF15 its e.lits ≠ 0 then ([], rF15 its e.lits) else match rH15 all its c its.length (rV15 e.lits) [id] with
  | none => ([], 150)
  | some o => (o, 0)
theorem own_one (W : World) (x : Int) : (W.alloc (.cells #[.int .i64 x] 3)).ownsRow W.heap.size 3 1 (.slice (some ⟨W.heap.size, 0, none⟩) 1 1) [x].length ([x].map (Value.int .i64)) :=
 ⟨rfl, .inr ⟨W.heap.size, 1, #[.int .i64 x], rfl, Nat.le_refl _, World.alloc_heap_new _ _, Nat.le_refl _, by unfold maxLen; omega, rfl, rfl⟩⟩
set_option maxRecDepth 100000 in
set_option maxHeartbeats 8000000 in
theorem ref_hints15 {O : Nat → Prop} (u : Value) (c : List Int) (id : Int) (a : RAr) (t : RTr) (av tv : Value) (w : World) (ha : RAAt w av a) (h : RTAt w tv t) (hao : a.Ok) (ho : t.Ok) (hu : IntsIn O w u c) (hcl : c.length ≤ 1000000) (hP : PlOk t.items) :
  Calls Tryz.prog 26 #[av, tv, .int .i64 id, u] w fun e w' => (∃ v, e = .returned (.tuple #[v, .int .i64 (rHints15 a.all t.items id c).2]) ∧ w'.ownsRow w.heap.size 3 1 v (rHints15 a.all t.items id c).1.length ((rHints15 a.all t.items id c).1.map (Value.int .i64))) ∧ Below w.heap.size w w' := by
 have hlena := hao.len
 have hlent := ho.len
 have HOK := Lib.hid ho
 have HAO := Lib.hid hao
 have HPP := Lib.hid hP
 have HU0 := Lib.hid hu
 obtain ⟨res, hres⟩ : ∃ r, rHints15 a.all t.items id c = r := ⟨_, rfl⟩
 rw [hres]
 have HF := Lib.hid (fun (w : World) av (h : RAAt w av a) => ref_find id a av w h hlena)
 obtain ⟨fi, hfi⟩ : ∃ f, rFind a.all id = f := ⟨_, rfl⟩
 have hflt := rFind_lt a.all id
 unfold rHints15 at hres
 rw [hfi] at HF hres hflt
 have HRS := Lib.hid hres
 clear hres hfi ho hao hP
 obtain ⟨ev, rfl, he⟩ := ha
 obtain ⟨iv, sv, rfl, hi, hs⟩ := h
 obtain ⟨wa, hwa, hba, hb0, hb1⟩ := rbox2 w #[ev, .int .i64 a.last] #[.int .i64 t.vars, .int .i64 t.now, iv, sv] 56 59
 have HE := Lib.hid (he.below hba)
 have HI := Lib.hid (hi.below hba)
 have HT := Lib.hid (show RTAt wa (.agg #[.int .i64 t.vars, .int .i64 t.now, iv, sv]) t from ⟨iv, sv, rfl, hi.below hba, hs.below hba⟩)
 have HA := Lib.hid (show RAAt wa (.agg #[ev, .int .i64 a.last]) a from ⟨ev, rfl, he.below hba⟩)
 have HX := Lib.hid hb0
 have HY := Lib.hid hb1
 have HBA := Lib.hid hba
 have HWA := Lib.hid hwa
 clear hwa hba hb0 hb1 hs hi he
 have HU := Lib.hid (HU0.out.below HBA.out)
 have hu := HU0.out
 obtain ⟨Au, cu, rfl, _⟩ := hu
 have hiv : ∃ Ai ci, iv = .slice Ai t.items.length ci := by
  obtain ⟨A, c, e, _⟩ := HI.out
  exact ⟨A, c, e⟩
 obtain ⟨Ai, ci, rfl⟩ := hiv
 clear HU0
 go_enter Tryz.func26, Tryz.ntmps26
 go_upto_region 1 with fail
 rw [HWA.out]
 have k1 := bx2 (Below.refl _ _) HX.out
 go_wp2_with fail
 refine (HF.out _ _ HA.out).mono ?_
 rintro e w2 ⟨rfl, hb⟩
 have HB2 := Lib.hid hb
 clear hb k1 HF
 by_cases hf0 : fi < 0
 ·
  have q0 : decide (fi < 0) = true := by simpa using hf0
  have HN := Lib.hid (show res = ([], 30) from by rw [← HRS.out]; exact if_pos hf0)
  clear hf0 hflt
  go_wp2_with fail
  go_ret2
  exact ⟨⟨_, by rw [HN.out]; rfl, by rw [HN.out]; exact World.ownsRow_nil _ _ _ _⟩, HBA.out.trans (HB2.out.mono HBA.out.size)⟩
 have q0 : decide (fi < 0) = false := by simpa using hf0
 obtain ⟨f, rfl⟩ : ∃ f : Nat, fi = f := ⟨_, (Int.toNat_of_nonneg (by omega)).symm⟩
 have hfl : f < a.all.length := by omega
 obtain ⟨en, hen⟩ := getElem_of hfl
 have hrs := HRS.out
 rw [if_neg hf0, Int.toNat_natCast, hen] at hrs
 simp only at hrs
 obtain ⟨g2, o2, c2, u2, rfl, hlc2, hg2, e0, e1, hu2⟩ := HE.out.at_ hen
 have HU2 := Lib.hid hu2
 have E1 := Lib.hid e1
 have hul : en.lits.length ≤ 4096 := HAO.out.lits en (List.mem_of_getElem? hen)
 have hfc : f < c2 := by omega
 have hfa : (0 : Int) ≤ (f : Int) := by omega
 have hfb : (f : Int) < (a.all.length : Int) := by omega
 obtain ⟨A2, k2, rfl, _⟩ := hu2
 have HRR := Lib.hid hrs
 have HFA := Lib.hid (fun w tv h hu => ref_fails15 (O := fun _ => True) (.slice A2 en.lits.length k2) en.lits t tv w h HOK.out hu (by omega))
 obtain ⟨er, her⟩ : ∃ z, rF15 t.items en.lits = z := ⟨_, rfl⟩
 rw [her] at HFA HRR
 clear hf0 hflt hen hrs e0 e1 HRS her
 go_upto_region 4 with fail
 refine wp_region_held_drew (S := fun w' => Below w2.heap.size w2 w') (by kernel_rfl) (mx_drew w2) (fun hS => ?_)
 refine takeF 0 23 (fun wq hSw => bx4 (HB2.out.trans (hSw.mono HB2.out.size)) HY.out) ?_
 refine takeE 1 24 ?_
 refine takeF 2 25 (fun wq hSw => bx2 (HB2.out.trans (hSw.mono HB2.out.size)) HX.out) ?_
 refine takeE 3 26 ?_
 refine takeE 4 27 ?_
 refine takeE 5 28 ?_
 refine takeF 6 29 (fun wq hSw => ((HB2.out.trans (hSw.mono HB2.out.size)).cell (p := ⟨g2, o2 + f * 2 + 1, none⟩) hg2).trans E1.out) ?_
 refine ready1 7 (fun K hK => ?_)
 go_simp
 refine (HFA.out _ _ (HT.out.below (HB2.out.trans (hS.mono HB2.out.size))) (HU2.out.below (HB2.out.trans (hS.mono HB2.out.size)))).mono ?_
 rintro e w3 ⟨rfl, hbN⟩
 have hSN := hS.trans (hbN.mono hS.size)
 refine hK.out _ _ hSN (fun _ => ?_)
 clear hK hbN hS
 have hS := hSN
 clear hSN
 refine takeE 8 11 ?_
 refine wpAnyH_done (by kernel_rfl) ?_ _
 have HB3 := Lib.hid (HB2.out.trans (hS.mono HB2.out.size))
 clear hS HB2 HFA
 by_cases he : er = 0
 case neg =>
  have q1 : (er != 0) = true := by simpa using he
  have HN := Lib.hid (show res = ([], er) from by rw [← HRR.out, if_pos he])
  clear he
  go_wp2_with fail
  go_ret2
  exact ⟨⟨_, by rw [HN.out]; rfl, by rw [HN.out]; exact World.ownsRow_nil _ _ _ _⟩, HBA.out.trans (HB3.out.mono HBA.out.size)⟩
 subst he
 have hrr := HRR.out
 rw [if_neg (by decide)] at hrr
 have HRR := Lib.hid hrr
 clear hrr
 have k1 := bx2 HB3.out HX.out
 have k2' := (HB3.out.cell (p := ⟨g2, o2 + f * 2 + 1, none⟩) hg2).trans E1.out
 have HVA := Lib.hid (ref_vars15 (.slice A2 en.lits.length k2) en.lits w3 (HU2.out.below HB3.out) (by omega))
 have hvl0 : (rV15 en.lits).length ≤ en.lits.length := Nat.le_of_eq (List.length_map _)
 go_wp2_with fail
 refine HVA.out.mono ?_
 rintro e w4 ⟨⟨vm, rfl, hown⟩, hb⟩
 have hz3 := HB3.out.size
 have hz4 := hb.size
 obtain ⟨W5, hW5⟩ : ∃ x, w4.alloc (.cells #[.int .i64 id] 3) = x := ⟨_, rfl⟩
 have hb5 : Below w4.heap.size w4 W5 := by rw [← hW5]; exact mx_al _ _
 have ho2 := own_one w4 id
 rw [hW5] at ho2
 have HB5 := Lib.hid ((HB3.out.trans (hb.mono hz3)).trans (hb5.mono (by omega)))
 have HM := Lib.hid (own_below (own_mono hown hz3) hb5)
 have HO := Lib.hid (own_mono ho2 (show wa.heap.size ≤ w4.heap.size by omega))
 have HAP := Lib.hid (show ∀ g, vm.ownBlock = some g → (Value.slice (some ⟨w4.heap.size, 0, none⟩) 1 1).ownBlock ≠ some g from fun g hg e => by
  have h1 := (own_lt hown g hg).2
  have h2 : w4.heap.size = g := by simpa [Value.ownBlock] using e
  omega)
 obtain ⟨m0, hm0⟩ : ∃ z, rV15 en.lits = z := ⟨_, rfl⟩
 rw [hm0] at HM HRR hvl0
 have HW5 := Lib.hid hW5
 clear hown hb hb5 ho2 hW5 k1 k2' HVA hm0
 obtain ⟨Am, cm, rfl, _⟩ := mx_slice HM.out
 obtain ⟨b0, b1, b2, b3⟩ := bx4 HB5.out HY.out
 have v1 : IntKind.i64.wrap ((t.items.length : Int) - 1) = (t.items.length : Int) - 1 := IntWalk.i64_in _ (by omega)
 go_upto_region 9 with fail
 rw [HW5.out]
 go_wp2_with fail
 go_loopw [12, 13, 14] (fun mv ov iv wr => ∃ (k : Nat) (met out : List Int) (z : Int), z = (k : Int) - 1 ∧ k ≤ t.items.length ∧ iv = .int .i64 z ∧ met.length + 4096 * k ≤ 4096 + 4096 * t.items.length ∧ out.length + k ≤ t.items.length + 1 ∧ 0 < out.length ∧ Hid ((match rH15 a.all t.items c t.items.length m0 [id] with
  | none => (([], 150) : List Int × Int)
  | some o => (o, 0)) = match rH15 a.all t.items c k met out with
  | none => (([], 150) : List Int × Int)
  | some o => (o, 0)) ∧ Hid (wr.ownsRow wa.heap.size 3 1 mv met.length (met.map (Value.int .i64))) ∧ Hid (wr.ownsRow wa.heap.size 3 1 ov out.length (out.map (Value.int .i64))) ∧ Hid (∀ g, mv.ownBlock = some g → ov.ownBlock ≠ some g) ∧ Hid (Below wa.heap.size wa wr)) (fun _ _ iv _ => (intOf iv + 1).toNat)
 case atStart => exact ⟨t.items.length, m0, [id], _, rfl, Nat.le_refl _, rfl, by omega, by simp; omega, by simp, Lib.hid rfl, HM, HO, HAP, HB5⟩
 case round =>
  obtain ⟨k, met, out, z, hz, hk, rfl, hml, hol, hop, HE', HM', HO', HAP', HB⟩ := hrel
  clear HM HO HAP HB5 b0 b1 b2 b3 v1
  have hzw := HB.out.size
  obtain ⟨Am', cm', rfl, _⟩ := mx_slice HM'.out
  by_cases hk0 : k = 0
  ·
   have q2 : decide (0 ≤ z) = false := by simp; omega
   subst hk0
   have HN := Lib.hid (show res = (out, 0) from by rw [← HRR.out, HE'.out]; rfl)
   clear hz
   go_wp2_with fail
   go_ret2
   exact ⟨⟨_, by rw [HN.out]; rfl, by rw [HN.out]; exact own_mono HO'.out HBA.out.size⟩, HBA.out.trans (HB.out.mono HBA.out.size)⟩
  obtain ⟨q, rfl⟩ : ∃ q, k = q + 1 := ⟨k - 1, by omega⟩
  obtain rfl : z = (q : Int) := by omega
  clear hz hk0
  have hq0 : (0 : Int) ≤ (q : Int) := by omega
  have hqb : (q : Int) < (t.items.length : Int) := by omega
  have q2 : decide (0 ≤ (q : Int)) = true := by simp
  obtain ⟨x, hx⟩ := getElem_of (show q < t.items.length by omega)
  have hp := HPP.out q x hx
  obtain ⟨g, o, c', hv, hlc, hg, d0, d1, _⟩ := HI.out.item hx
  simp only [Value.slice.injEq, true_and] at hv
  obtain ⟨rfl, rfl⟩ := hv
  have hqc : q < ci := by omega
  have HRS := Lib.hid (fun (w : World) av tv (ha : RAAt w av a) (h : RTAt w tv t) => ref_reason15 q x a t av tv w ha h HAO.out HOK.out hx hp)
  have HLL := Lib.hid (fun r hr => rW15_len (all := a.all) (its := t.items) (p := q) (r := r) hr HAO.out.lits)
  have hst : rH15 a.all t.items c (q + 1) met out = if met.contains (litV x.lit : Int) = false ∨ (rV15 c).contains (litV x.lit : Int) = true then rH15 a.all t.items c q met out else match rW15 a.all t.items q with
   | none => none
   | some r => rH15 a.all t.items c q (met ++ rV15 r) (x.reason :: out) := by
   have e1 : itLit t.items q = x.lit := by unfold itLit; rw [hx]
   have e2 : itRea t.items q = x.reason := by unfold itRea; rw [hx]
   rw [rH15, e1, e2]
  obtain ⟨xl, hxl⟩ : ∃ z, x.lit = z := ⟨_, rfl⟩
  obtain ⟨xr, hxr⟩ : ∃ z, x.reason = z := ⟨_, rfl⟩
  rw [hxl] at hst d0
  rw [hxr] at hst d1
  have HST := Lib.hid hst
  have D1 := Lib.hid d1
  clear hst hxl hxr hx hp d1
  have d0 := (HB.out.cell (p := ⟨g, o + q * 3, none⟩) hg).trans d0
  obtain ⟨b0, b1, b2, b3⟩ := bx4 HB.out HY.out
  obtain ⟨a0, a1⟩ := bx2 HB.out HX.out
  have HHM := ref_has15 (litV xl : Int) (.slice Am' met.length cm') met wr (IntsIn.of_own HM'.out) (by omega)
  obtain ⟨vx, hvx⟩ : ∃ v : Nat, litV xl = v := ⟨_, rfl⟩
  have HVR := ref_var xl wr
  rw [hvx] at HHM HVR HST
  have HVR := Lib.hid HVR
  clear hvx
  cases hh : met.contains (vx : Int) with
  | false =>
   rw [hh] at HHM
   have HN := Lib.hid (show rH15 a.all t.items c (q + 1) met out = rH15 a.all t.items c q met out from by rw [HST.out, if_pos (.inl hh)])
   have HHM := Lib.hid HHM
   clear hh
   go_wp2_with fail
   refine HVR.out.mono ?_
   rintro e w' ⟨rfl, rfl⟩
   go_wp2_with fail
   refine HHM.out.mono ?_
   rintro e w' ⟨rfl, rfl⟩
   go_wp2_with fail
   go_roundw
   case rel => exact ⟨q, met, out, _, rfl, by omega, rfl, by omega, by omega, hop, Lib.hid (by rw [HE'.out, HN.out]), HM', HO', HAP', HB⟩
   case measure => simp [intOf]
  | true =>
   rw [hh] at HHM
   have HHM := Lib.hid HHM
   have HVC := Lib.hid (ref_vars15 (.slice Au c.length cu) c wr (HU.out.below HB.out) hcl)
   have hvc : (rV15 c).length ≤ c.length := Nat.le_of_eq (List.length_map _)
   go_wp2_with fail
   refine HVR.out.mono ?_
   rintro e w' ⟨rfl, rfl⟩
   go_wp2_with fail
   refine HHM.out.mono ?_
   rintro e w' ⟨rfl, rfl⟩
   go_wp2_with fail
   refine HVC.out.mono ?_
   rintro e w5 ⟨⟨vv, rfl, hov⟩, hb⟩
   have hHC := ref_has15 (vx : Int) vv (rV15 c) w5 (IntsIn.of_own hov) (by omega)
   have HM5 := Lib.hid (own_below HM'.out hb)
   have HO5 := Lib.hid (own_below HO'.out hb)
   have HB5 := Lib.hid (HB.out.trans (hb.mono hzw))
   clear b0 b1 b2 b3 a0 a1 d0 HHM HVC hb HVR
   cases hh2 : (rV15 c).contains (vx : Int) with
   | true =>
    rw [hh2] at hHC
    have HHC := Lib.hid hHC
    have HN := Lib.hid (show rH15 a.all t.items c (q + 1) met out = rH15 a.all t.items c q met out from by rw [HST.out, if_pos (.inr hh2)])
    clear hh hh2 hHC hov
    go_wp2_with fail
    refine HHC.out.mono ?_
    rintro e w' ⟨rfl, rfl⟩
    go_wp2_with fail
    go_roundw
    case rel => exact ⟨q, met, out, _, rfl, by omega, rfl, by omega, by omega, hop, Lib.hid (by rw [HE'.out, HN.out]), HM5, HO5, HAP', HB5⟩
    case measure => simp [intOf]
   | false =>
    rw [hh2] at hHC
    have HHC := Lib.hid hHC
    have HN := Lib.hid (show rH15 a.all t.items c (q + 1) met out = match rW15 a.all t.items q with
     | none => none
     | some r => rH15 a.all t.items c q (met ++ rV15 r) (xr :: out) from by rw [HST.out, if_neg (fun h => h.elim (fun h => by rw [hh] at h; cases h) (fun h => by rw [hh2] at h; cases h))])
    clear hh hh2 hHC hov
    obtain ⟨b0, b1, b2, b3⟩ := bx4 HB5.out HY.out
    obtain ⟨a0, a1⟩ := bx2 HB5.out HX.out
    go_wp2_with fail
    refine HHC.out.mono ?_
    rintro e w' ⟨rfl, rfl⟩
    go_wp2_with fail
    refine (HRS.out _ _ _ (HA.out.below HB5.out) (HT.out.below HB5.out)).mono ?_
    rintro e w6 ⟨hor, hb⟩
    have HB6 := Lib.hid (HB5.out.trans (hb.mono HB5.out.size))
    have HM6 := Lib.hid (own_below HM5.out hb)
    have HO6 := Lib.hid (own_below HO5.out hb)
    clear HB5 HM5 HO5 hb HRS HHC b0 b1 b2 b3 a0 a1
    rcases hor with ⟨v, r, hr, rfl, hor⟩ | ⟨hr, rfl⟩
    case inr =>
     have HN2 := Lib.hid (show res = ([], 150) from by rw [← HRR.out, HE'.out, HN.out, hr])
     clear hr
     go_wp2_with fail
     go_ret2
     exact ⟨⟨_, by rw [HN2.out]; rfl, by rw [HN2.out]; exact World.ownsRow_nil _ _ _ _⟩, HBA.out.trans (HB6.out.mono HBA.out.size)⟩
    have HNS := Lib.hid (show rH15 a.all t.items c (q + 1) met out = rH15 a.all t.items c q (met ++ rV15 r) (xr :: out) from by rw [HN.out, hr])
    have hrl := HLL.out r hr
    have hvr : (rV15 r).length ≤ r.length := Nat.le_of_eq (List.length_map _)
    have HOR := Lib.hid hor
    obtain ⟨b0, b1, b2, b3⟩ := bx4 HB6.out HY.out
    have d1 := (HB6.out.cell (p := ⟨g, o + q * 3 + 1, none⟩) hg).trans D1.out
    obtain ⟨go_, _, co, hvo, _, _, hgo, _, _⟩ := mx_some HO6.out hop
    subst hvo
    obtain ⟨W7, hW7⟩ : ∃ x, w6.alloc (.cells #[.int .i64 xr] 3) = x := ⟨_, rfl⟩
    have hb7 : Below w6.heap.size w6 W7 := by rw [← hW7]; exact mx_al _ _
    have ho1 := own_one w6 xr
    rw [hW7] at ho1
    have hz6 := HB6.out.size
    have hz7 : W7.heap.size = w6.heap.size + 1 := by rw [← hW7]; simp
    have HO7 := Lib.hid (own_below HO6.out hb7)
    have HM7 := Lib.hid (own_below HM6.out hb7)
    have HOR7 := Lib.hid (own_below HOR.out hb7)
    have HF1 := Lib.hid (own_mono ho1 (show wa.heap.size ≤ w6.heap.size by omega))
    have HB7 := Lib.hid (HB6.out.trans (hb7.mono hz6))
    have HW7 := Lib.hid hW7
    have HSZ := Lib.hid hz7
    have hz7' : wa.heap.size ≤ W7.heap.size := by omega
    have HSRC := Lib.hid (IntsIn.src (IntsIn.of_own HO7.out))
    obtain ⟨Ar, cr, rfl, _⟩ := mx_slice hor
    have hm6 := HM6.out
    clear hr hor hb7 ho1 hW7 hz7 HN HRR HE HO6 HM6
    go_upto_region 17 with fail
    go_upto_region 18 with (at_builtin; rw [HW7.out]; refine wpList_app_ints rfl _ _ rfl wa.heap.size _ [xr] rfl HF1.out _ out rfl HSRC.out (by simp; omega) hz7' ?_; intro v' w8 hown hgrow hat)
    rw [show [xr].length + out.length = (xr :: out).length from by simp; omega, show [xr] ++ out = xr :: out from rfl] at hown
    have hfb : (Value.slice (some ⟨w6.heap.size, 0, none⟩) 1 1).ownBlock = some w6.heap.size := rfl
    have HB8 := Lib.hid (HB7.out.grown hgrow hz7' (fun g hg => by cases hg; exact hz6))
    have hkm : ∀ {base n : Nat} {v : Value} {xs : List Value}, w6.ownsRow base 3 1 v n xs → W7.ownsRow base 3 1 v n xs → w8.ownsRow base 3 1 v n xs := fun h0 h7 => own_kept h7 (Kept.grown hgrow) (fun g hg e => by
     have h1 := (own_lt h0 g hg).2
     have h2 := Option.some.inj (e.trans hfb)
     omega)
    have HM8 := Lib.hid (hkm hm6 HM7.out)
    have HOR8 := Lib.hid (hkm HOR.out HOR7.out)
    have HAP8 := Lib.hid (show ∀ g, (Value.slice Am' met.length cm').ownBlock = some g → v'.ownBlock ≠ some g from fun g hg e => by
     have h1 := (own_lt hm6 g hg).2
     rcases hat with h | h
     ·
      have h2 := Option.some.inj ((e.symm.trans h).trans hfb)
      omega
     ·
      have h2 := Option.some.inj (e.symm.trans h)
      have := HSZ.out
      omega)
    have HO8 := Lib.hid hown
    have hz8 := HB8.out.size
    have HVR := Lib.hid (ref_vars15 (.slice Ar r.length cr) r w8 (IntsIn.of_own HOR8.out) (by omega))
    clear hown hgrow hat hfb hkm hm6 HB7 HO7 HM7 HOR7 HF1 HW7 HSRC HB6 HOR b0 b1 b2 b3 d1
    go_wp2_with fail
    refine HVR.out.mono ?_
    rintro e w9 ⟨⟨vr, rfl, hovr⟩, hb⟩
    have HM9 := Lib.hid (own_below HM8.out hb)
    have HO9 := Lib.hid (own_below HO8.out hb)
    have HB9 := Lib.hid (HB8.out.trans (hb.mono hz8))
    have hz9 := HB9.out.size
    have HOV := Lib.hid hovr
    have hlv := (own_lt HO8.out)
    have HLV := Lib.hid (show ∀ g, v'.ownBlock = some g → g < w9.heap.size from fun g hg => Nat.lt_of_lt_of_le (hlv g hg).2 hb.size)
    clear hovr hb hlv HVR
    go_wp2_with (at_builtin; refine wpList_app_ints rfl _ _ rfl wa.heap.size _ met rfl HM9.out _ (rV15 r) rfl (IntsIn.src (IntsIn.of_own HOV.out)) (by omega) hz9 ?_; intro v'' w10 hown hgrow hat; have HOW := Lib.hid hown; have HG := Lib.hid hgrow; have HAT := Lib.hid hat; clear hown hgrow hat)
    have hB10 := HB9.out.grown HG.out hz9 (fun g hg => (own_lt HM9.out g hg).1)
    have hO10 := own_kept HO9.out (Kept.grown HG.out) (fun g hg e => HAP8.out g e.symm hg)
    have hA10 : ∀ g, v''.ownBlock = some g → v'.ownBlock ≠ some g := fun g hg e => by
     rcases HAT.out with h | h
     ·
      exact HAP8.out g (h.symm.trans hg) e
     ·
      have h1 := HLV.out g e
      have h2 := Option.some.inj (hg.symm.trans h)
      omega
    go_roundw
    case rel => exact ⟨q, met ++ rV15 r, xr :: out, _, rfl, by omega, rfl, by rw [List.length_append]; omega, by rw [List.length_cons]; omega, by rw [List.length_cons]; omega, Lib.hid (by rw [HE'.out, HNS.out]), Lib.hid (by rw [List.length_append]; exact HOW.out), Lib.hid hO10, Lib.hid hA10, Lib.hid hB10⟩
    case measure => simp [intOf]
end Go.Proofs.YtiodfolcnnkdjaaGreat
