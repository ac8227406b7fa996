/- The reference of layer 14: sorted. -/
import Derived.Test.YtiodfolcnnkdjaaGreatDf
namespace Go.Proofs.YtiodfolcnnkdjaaGreat
open Go.RowKit

theorem own_none (W : World) (base : Nat) (e : TypeId) (size : Nat) (hb : base ≤ W.heap.size) : (W.alloc (.cells #[] e)).ownsRow base e size (.slice (some ⟨W.heap.size, 0, none⟩) 0 0) 0 [] :=
 ⟨by simp, .inr ⟨_, 0, #[], rfl, hb, World.alloc_heap_new _ _, Nat.le_refl _, Nat.zero_le _, by simp, by simp⟩⟩
theorem src_grown' {w w' : World} {p m c : Nat} {xs : List Value} {row : Option Nat} (h : SrcAt w (.slice (some ⟨p, 0, none⟩) m c) m xs) (hg : w.grownBy w' row) (hp : row ≠ some p) : SrcAt w' (.slice (some ⟨p, 0, none⟩) m c) m xs := by
 rcases h with ⟨h, _⟩ | ⟨ad, c', hx, hn⟩
 ·
  cases h
 ·
  refine .inr ⟨ad, c', hx, fun j u hj => ?_⟩
  have h0 := hn j u hj
  have hlt := World.block_lt_of_cell? w _ h0
  have had : ad = ⟨p, 0, none⟩ := by cases hx; rfl
  rw [had] at h0 hlt ⊢
  have hb : ((⟨p, 0, none⟩ : Addr).add j).block = p := by rw [addr_add]
  exact ((Kept.grown hg).cell (p := (⟨p, 0, none⟩ : Addr).add j) hlt (fun e => hp (by rw [← e, hb]))).trans h0
/-- where a key goes -/
def rK (at_ : List Int) (y : Int) : Nat → Nat
 | 0 => 0
 | k + 1 => if y < at_.getD k 0 then rK at_ y k else k + 1
theorem rK_le (at_ : List Int) (y : Int) (k : Nat) : rK at_ y k ≤ k := by
 induction k with
 | zero => exact Nat.le_refl _
 | succ k ih =>
  unfold rK
  split <;> omega
def rSrt : List Int → List Int → List Int → List Int → List Int
 | out, at_, x :: l, y :: ks => rSrt (out.take (rK at_ y at_.length) ++ [x] ++ out.drop (rK at_ y at_.length)) (at_.take (rK at_ y at_.length) ++ [y] ++ at_.drop (rK at_ y at_.length)) l ks
 | out, _, _, _ => out
def rSorted (l ks : List Int) : List Int := rSrt [] [] l ks
theorem src_take {w : World} {base n c g k : Nat} {e : TypeId} {xs : List Value} (h : w.ownsRow base e 1 (.slice (some ⟨g, 0, none⟩) n c) n xs) : SrcAt w (.slice (some ⟨g, 0, none⟩) k c) k (xs.take k) := by
 refine .inr ⟨_, _, rfl, fun j u hj => ?_⟩
 rw [addr_add]
 have hjk : j < k := by
  have := (List.getElem?_eq_some_iff.1 hj).1
  rw [List.length_take] at this
  omega
 rw [List.getElem?_take_of_lt hjk] at hj
 exact mx_at h hj
theorem src_drop {w : World} {base n c g k m c' : Nat} {e : TypeId} {xs : List Value} (h : w.ownsRow base e 1 (.slice (some ⟨g, 0, none⟩) n c) n xs) : SrcAt w (.slice (some ⟨g, k, none⟩) m c') m (xs.drop k) := by
 refine .inr ⟨_, _, rfl, fun j u hj => ?_⟩
 rw [addr_add2]
 rw [List.getElem?_drop] at hj
 exact mx_at h hj
theorem src_drop2 {w : World} {base n c g k m c' : Nat} {e : TypeId} {xs : List Value} {Ad : Addr} (h : w.ownsRow base e 1 (.slice (some ⟨g, 0, none⟩) n c) n xs) (hn : n ≤ c) (hA : (if c = k then (some ⟨g, 0, none⟩ : Option Addr) else some ⟨g, k, none⟩) = some Ad) : SrcAt w (.slice (some Ad) m c') m (xs.drop k) := by
 by_cases hc : c = k
 ·
  have hl := h.1
  refine .inr ⟨_, _, rfl, fun j u hj => ?_⟩
  rw [List.drop_eq_nil_of_le (by omega)] at hj
  simp at hj
 ·
  rw [if_neg hc] at hA
  obtain rfl := Option.some.inj hA
  exact src_drop h
theorem ad_any (c k g : Nat) : ∃ Ad, (if c = k then (some ⟨g, 0, none⟩ : Option Addr) else some ⟨g, k, none⟩) = some Ad := by
 split
 ·
  exact ⟨_, rfl⟩
 ·
  exact ⟨_, rfl⟩
theorem row_fin {w : World} {base n : Nat} {v : Value} {ys : List Int} {zs : List Value} (h : w.ownsRow base 3 1 v n zs) (hz : zs = ys.map (Value.int .i64)) (hn : n = ys.length) : w.ownsRow base 3 1 v ys.length (ys.map (Value.int .i64)) := by
 rw [← hz, ← hn]
 exact h
set_option maxRecDepth 100000 in
set_option maxHeartbeats 8000000 in
theorem ref_sorted {O O' : Nat → Prop} (u v : Value) (l ks : List Int) (w : World) (hu : IntsIn O w u l) (hv : IntsIn O' w v ks) (hl : l.length ≤ 1000000) (hk : ks.length = l.length) :
  Calls Tryz.prog 100 #[u, v] w fun e w' => (∃ v, e = .returned v ∧ w'.ownsRow w.heap.size 3 1 v (rSorted l ks).length ((rSorted l ks).map (Value.int .i64)) ∧ (rSorted l ks).length = l.length) ∧ Below w.heap.size w w' := by
 obtain ⟨i0, hi0, hi1, hi2, hi3⟩ := info_parts tinfo_int
 have HU := Lib.hid hu
 have HV := Lib.hid hv
 obtain ⟨Au, cu, rfl, _⟩ := hu
 obtain ⟨Av, cv, rfl, _⟩ := hv
 rw [hk] at HV ⊢
 go_enter Tryz.func100, Tryz.ntmps100
 go_wp2_with fail
 go_loopw [5, 6, 7] (fun ov av i wr => ∃ (k : Nat) (out at_ : List Int), k ≤ l.length ∧ out.length = k ∧ at_.length = k ∧ i = .int .i64 k ∧ Hid (rSrt [] [] l ks = rSrt out at_ (l.drop k) (ks.drop k)) ∧ Hid (wr.ownsRow w.heap.size 3 1 ov out.length (out.map (Value.int .i64))) ∧ Hid (wr.ownsRow w.heap.size 3 1 av at_.length (at_.map (Value.int .i64))) ∧ Hid (Below w.heap.size w wr) ∧ (k = 0 → ov = .slice none 0 0 ∧ av = .slice none 0 0)) (fun _ _ i _ => l.length - (intOf i).toNat)
 case atStart => exact ⟨0, [], [], Nat.zero_le _, rfl, rfl, rfl, Lib.hid rfl, Lib.hid (World.ownsRow_nil _ _ _ _), Lib.hid (World.ownsRow_nil _ _ _ _), Lib.hid (Below.refl _ _), fun _ => ⟨rfl, rfl⟩⟩
 case round =>
  obtain ⟨k, out, at_, hkl, hlo, hlat, rfl, HE, HO, HA, HW, hnil⟩ := hrel
  by_cases hlt : k < l.length
  ·
   obtain ⟨x, hx⟩ := getElem_of hlt
   obtain ⟨y, hy⟩ := getElem_of (l := ks) (i := k) (by omega)
   obtain ⟨A3, c3, hA3, hlc3, _, hxs⟩ := HU.out
   simp only [Value.slice.injEq, true_and] at hA3
   obtain ⟨rfl, rfl⟩ := hA3
   obtain ⟨g3, o3, rfl, hg3, _, f0⟩ := hxs k x hx
   obtain ⟨A4, c4, hA4, hlc4, _, hys⟩ := HV.out
   simp only [Value.slice.injEq] at hA4
   obtain ⟨rfl, hxx, rfl⟩ := hA4
   clear hxx
   obtain ⟨g4, o4, rfl, hg4, _, f1⟩ := hys k y hy
   have F0 := Lib.hid f0
   have F1 := Lib.hid f1
   have hkc : k < cu := by omega
   have hkc4 : k < cv := by omega
   have HN := Lib.hid (show rSrt [] [] l ks = rSrt (out.take (rK at_ y k) ++ [x] ++ out.drop (rK at_ y k)) (at_.take (rK at_ y k) ++ [y] ++ at_.drop (rK at_ y k)) (l.drop (k + 1)) (ks.drop (k + 1)) from by rw [HE.out, drop_at hx, drop_at hy]; conv => lhs; unfold rSrt; rw [hlat])
   clear hx hy hxs hys f0 f1
   by_cases hk0 : k = 0
   ·
    obtain ⟨rfl, rfl⟩ := hnil hk0
    have HO0 := Lib.hid (show out = [] from List.eq_nil_of_length_eq_zero (by omega))
    have HA0 := Lib.hid (show at_ = [] from List.eq_nil_of_length_eq_zero (by omega))
    have HK0 := Lib.hid hk0
    clear hnil hk0
    obtain ⟨wo, rfl⟩ : ∃ wo : World, wo = wr := ⟨_, rfl⟩
    go_wp2_with fail
    go_loopw [8] (fun j wr => ∃ q : Nat, q ≤ k ∧ j = .int .i64 q ∧ Hid (rK at_ y k = rK at_ y q) ∧ Hid (Below wo.heap.size wo wr)) (fun j _ => (intOf j).toNat)
    case atStart => exact ⟨0, Nat.zero_le _, rfl, Lib.hid (by rw [HK0.out]), Lib.hid (Below.refl _ _)⟩
    case round =>
     obtain ⟨q, hq, rfl, HK, HW2⟩ := hrel
     have HWR := Lib.hid (HW.out.trans (HW2.out.mono HW.out.size))
     have hzwr := HWR.out.size
     obtain rfl : q = 0 := by have := HK0.out; omega
     have HQQ := Lib.hid (show rK at_ y 0 = 0 from rfl)
     have q0 : decide ((0 : Int) < 0) = false := by decide
     have HNQ := Lib.hid (show rSrt [] [] l ks = rSrt (out.take 0 ++ [x] ++ out.drop 0) (at_.take 0 ++ [y] ++ at_.drop 0) (l.drop (k + 1)) (ks.drop (k + 1)) from by have h := HN.out; rw [HK.out, HQQ.out] at h; exact h)
     go_upto_region 6 with fail
     refine wp_region_held_drew (S := fun w' => Below wr.heap.size wr w') (by kernel_rfl) (mx_drew wr) (fun hS => ?_)
     obtain ⟨wD, hwD⟩ : ∃ x, wr.drew = x := ⟨_, rfl⟩
     rw [hwD] at hS ⊢
     refine takeE 0 17 ?_
     refine takeE 1 18 ?_
     refine takeE 2 19 ?_
     refine takeU 3 20 ?_
     refine takeU 4 21 ?_
     refine takeU 5 22 ?_
     refine takeU 6 23 ?_
     refine takeU 7 24 ?_
     refine takeU 8 25 ?_
     refine takeU 9 26 ?_
     refine takeU 10 27 ?_
     refine takeU 11 28 ?_
     refine takeU 12 29 ?_
     refine takeE 13 30 ?_
     refine wpAnyH_done (by kernel_rfl) ?_ _
     have HW3 := Lib.hid (HW2.out.trans (hS.mono HW2.out.size))
     have HWR3 := Lib.hid (HWR.out.trans (hS.mono HWR.out.size))
     have hS3 := hS
     clear hS
     clear HW2 HWR hzwr hwD
     obtain ⟨wr, rfl⟩ : ∃ x : World, x = wD := ⟨_, rfl⟩
     have HWR := HWR3
     have hzwr := HWR.out.size
     clear HW3 HWR3 hS3
     go_upto_region 8 with fail
     simp only [Int.cast_ofNat_Int]
     go_cut [5] (fun s wx => ∃ (Az : Option Addr) (kz n : Nat), s = .slice Az n kz ∧ Hid (n = (out.take 0 ++ [x] ++ out.drop 0).length) ∧ Hid (wx.ownsRow w.heap.size 3 1 (.slice Az n kz) n ((out.take 0 ++ [x] ++ out.drop 0).map (Value.int .i64))) ∧ Hid (Below wr.heap.size wr wx))
     case first =>
      have HT0 := Lib.hid (show SrcAt wr (.slice none 0 0) 0 [] from .inl ⟨rfl, rfl, rfl⟩)
      obtain ⟨x0, hx0⟩ : ∃ x, (wr).drew = x := ⟨_, rfl⟩
      have hS0 := mx_drew wr
      rw [hx0] at hS0
      refine wp_region_held_drew (S := fun w' => Below wr.heap.size wr w') (by kernel_rfl) (by rw [hx0]; exact hS0) (fun hS => ?_)
      rw [hx0] at hS ⊢
      clear hS0 hx0
      refine takeE 1 34 ?_
      refine takeE 2 35 ?_
      refine takeE 3 36 ?_
      refine takeE 5 38 ?_
      refine takeE 6 39 ?_
      refine takeE 7 40 ?_
      refine takeD 8 41 (v := ?_) rfl (by rfl) (by kernel_rfl) (by kernel_rfl) (by kernel_rfl) (fun _ _ _ h => h) (Or.inl ⟨by rfl, ?_⟩) (by assumption) ?_
      rotate_left
      ·
       intro wq hSw
       have hSz := HWR.out.trans (hSw.mono HWR.out.size)
       have k0 := (hSz.cell (p := ⟨g3, o3 + k, none⟩) hg3).trans F0.out
       clear hSw
       go_simp
       try with_reducible rfl
      simp only [Act.put, List.setIfInBounds_toArray, List.set_cons_zero, List.set_cons_succ]
      refine takeE 11 44 ?_
      refine takeE 12 45 ?_
      refine takeE 13 46 ?_
      refine wpAnyH_ready (rs := [0, 9]) (by kernel_rfl) (by simp) ?_
      refine AllReadyH.cons rfl (fun K hK => ?_) (AllReadyH.cons rfl (fun K hK => ?_) AllReadyH.nil)
      ·
       go_simp
       obtain ⟨x1, hwn⟩ : ∃ z, x0.alloc (.cells #[] 3) = z := ⟨_, rfl⟩
       have hbn : Below x0.heap.size x0 x1 := by rw [← hwn]; exact mx_al _ _
       have hon := own_none x0 wr.heap.size 3 1 hS.size
       have hsz : x1.heap.size = x0.heap.size + 1 := by rw [← hwn]; simp
       rw [hwn] at hon
       rw [hwn]
       have HZx1 := Lib.hid hsz
       have HO := Lib.hid hon
       have hSN := hS.trans (hbn.mono hS.size)
       clear hbn hon hwn hsz
       refine hK.out _ _ hSN (fun _ => ?_)
       clear hK hS
       have hS := hSN
       clear hSN
       refine wpAnyH_ready (rs := [4, 9]) (by kernel_rfl) (by simp) ?_
       refine AllReadyH.cons rfl (fun K hK => ?_) (AllReadyH.cons rfl (fun K hK => ?_) AllReadyH.nil)
       ·
        rw [if_pos (by rfl)]
        refine wp_append_any_at 37 (by rfl) _ _ 36 rfl wr.heap.size 3 i0 (.int .i64 0) 1 8 Tryz.underlying36 hi0 hi1 hi2 hi3 rfl (by decide) _ (0) _ (by rfl) HO.out (.slice none 0 0) (0) [] (by rfl) (HT0.out.below hS) rfl (by simp) (by unfold maxLen; omega) (by omega) hS.size ?_
        intro v' x2 hown hgrow hat
        rw [Nat.zero_add, List.nil_append] at hown
        obtain ⟨Aw, kAw, rfl, _⟩ := mx_slice hown
        have hSN := hS.grown hgrow hS.size (fun g hg => (own_lt HO.out g hg).1)
        have HO1 := Lib.hid hown
        clear HO
        have HO := HO1
        clear HO1 hown hgrow hat
        refine hK.out _ _ hSN (fun _ => ?_)
        clear hK hS
        have hS := hSN
        clear hSN
        refine ready1 9 (fun K hK => ?_)
        go_simp
        obtain ⟨x3, hwn⟩ : ∃ z, x2.alloc (.cells #[.int .i64 x] 3) = z := ⟨_, rfl⟩
        have hbn : Below x2.heap.size x2 x3 := by rw [← hwn]; exact mx_al _ _
        have hnn := mx_src x2 3 [.int .i64 x]
        rw [show ([.int .i64 x] : List Value).toArray = #[.int .i64 x] from rfl, hwn] at hnn
        have hsz : x3.heap.size = x2.heap.size + 1 := by rw [← hwn]; simp
        rw [hwn]
        have HZx3 := Lib.hid hsz
        have HN := Lib.hid hnn
        have HO1 := Lib.hid (own_below HO.out hbn)
        clear HO
        have HO := HO1
        clear HO1
        have hSN := hS.trans (hbn.mono hS.size)
        clear hbn hnn hwn hsz
        refine hK.out _ _ hSN (fun _ => ?_)
        clear hK hS
        have hS := hSN
        clear hSN
        refine ready1 10 (fun K hK => ?_)
        rw [if_pos (by rfl)]
        refine wp_append_any_at 43 (by rfl) _ _ 36 rfl wr.heap.size 3 i0 (.int .i64 0) 1 8 Tryz.underlying36 hi0 hi1 hi2 hi3 rfl (by decide) _ (0) _ (by rfl) HO.out (.slice (some ⟨x2.heap.size, 0, none⟩) 1 1) (1) [.int .i64 x] (by rfl) HN.out rfl (by simp [Value.oneCell']) (by unfold maxLen; omega) (by omega) hS.size ?_
        intro v' x4 hown hgrow hat
        obtain ⟨Ax, kAx, rfl, _⟩ := mx_slice hown
        have hSN := hS.grown hgrow hS.size (fun g hg => (own_lt HO.out g hg).1)
        have HO1 := Lib.hid hown
        clear HO
        have HO := HO1
        clear HO1 hown hgrow hat
        refine hK.out _ _ hSN (fun _ => ?_)
        clear hK hS
        have hS := hSN
        clear hSN
        refine ready1 14 (fun K hK => ?_)
        rw [if_pos (by rfl)]
        refine wp_append_any_at 47 (by rfl) _ _ 36 rfl wr.heap.size 3 i0 (.int .i64 0) 1 8 Tryz.underlying36 hi0 hi1 hi2 hi3 rfl (by decide) _ (0 + 1) _ (by rfl) HO.out (.slice none 0 0) (0) [] (by rfl) (HT0.out.below hS) rfl (by simp) (by unfold maxLen; omega) (by omega) hS.size ?_
        intro v' x5 hown hgrow hat
        obtain ⟨Ay, kAy, rfl, _⟩ := mx_slice hown
        have hSN := hS.grown hgrow hS.size (fun g hg => (own_lt HO.out g hg).1)
        have HO1 := Lib.hid hown
        clear HO
        have HO := HO1
        clear HO1 hown hgrow hat
        refine hK.out _ _ hSN (fun _ => ?_)
        clear hK hS
        have hS := hSN
        clear hSN
        refine takeE 15 5 ?_
        refine wpAnyH_done (by kernel_rfl) ?_ _
        have hzz : [] ++ [.int .i64 x] ++ [] = (out.take 0 ++ [x] ++ out.drop 0).map (Value.int .i64) := by simp [HO0.out]
        have hnn : 0 + 1 + 0 = (out.take 0 ++ [x] ++ out.drop 0).length := by simp [HO0.out]
        have hown := own_mono HO.out (show w.heap.size ≤ wr.heap.size from hzwr)
        rw [hzz] at hown
        have HJ := Lib.hid hown
        have HNN := Lib.hid hnn
        have HSE := Lib.hid hS
        clear hS hown hzz hnn
        go_wp2_with fail
        go_meet
        exact ⟨Ay, kAy, 1, rfl, HNN, HJ, HSE⟩
       ·
        go_simp
        obtain ⟨x2, hwn⟩ : ∃ z, x1.alloc (.cells #[.int .i64 x] 3) = z := ⟨_, rfl⟩
        have hbn : Below x1.heap.size x1 x2 := by rw [← hwn]; exact mx_al _ _
        have hnn := mx_src x1 3 [.int .i64 x]
        rw [show ([.int .i64 x] : List Value).toArray = #[.int .i64 x] from rfl, hwn] at hnn
        have hsz : x2.heap.size = x1.heap.size + 1 := by rw [← hwn]; simp
        rw [hwn]
        have HZx2 := Lib.hid hsz
        have HN := Lib.hid hnn
        have HO1 := Lib.hid (own_below HO.out hbn)
        clear HO
        have HO := HO1
        clear HO1
        have hSN := hS.trans (hbn.mono hS.size)
        clear hbn hnn hwn hsz
        refine hK.out _ _ hSN (fun _ => ?_)
        clear hK hS
        have hS := hSN
        clear hSN
        refine ready1 4 (fun K hK => ?_)
        rw [if_pos (by rfl)]
        refine wp_append_any_at 37 (by rfl) _ _ 36 rfl wr.heap.size 3 i0 (.int .i64 0) 1 8 Tryz.underlying36 hi0 hi1 hi2 hi3 rfl (by decide) _ (0) _ (by rfl) HO.out (.slice none 0 0) (0) [] (by rfl) (HT0.out.below hS) rfl (by simp) (by unfold maxLen; omega) (by omega) hS.size ?_
        intro v' x3 hown hgrow hat
        rw [Nat.zero_add, List.nil_append] at hown
        obtain ⟨Aw, kAw, rfl, _⟩ := mx_slice hown
        have hSN := hS.grown hgrow hS.size (fun g hg => (own_lt HO.out g hg).1)
        have HN1 := Lib.hid (src_grown' HN.out hgrow (by have := HZx1.out; simp [Value.ownBlock]; omega))
        clear HN
        have HN := HN1
        clear HN1
        have HO1 := Lib.hid hown
        clear HO
        have HO := HO1
        clear HO1 hown hgrow hat
        refine hK.out _ _ hSN (fun _ => ?_)
        clear hK hS
        have hS := hSN
        clear hSN
        refine ready1 10 (fun K hK => ?_)
        rw [if_pos (by rfl)]
        refine wp_append_any_at 43 (by rfl) _ _ 36 rfl wr.heap.size 3 i0 (.int .i64 0) 1 8 Tryz.underlying36 hi0 hi1 hi2 hi3 rfl (by decide) _ (0) _ (by rfl) HO.out (.slice (some ⟨x1.heap.size, 0, none⟩) 1 1) (1) [.int .i64 x] (by rfl) HN.out rfl (by simp [Value.oneCell']) (by unfold maxLen; omega) (by omega) hS.size ?_
        intro v' x4 hown hgrow hat
        obtain ⟨Ax, kAx, rfl, _⟩ := mx_slice hown
        have hSN := hS.grown hgrow hS.size (fun g hg => (own_lt HO.out g hg).1)
        have HO1 := Lib.hid hown
        clear HO
        have HO := HO1
        clear HO1 hown hgrow hat
        refine hK.out _ _ hSN (fun _ => ?_)
        clear hK hS
        have hS := hSN
        clear hSN
        refine ready1 14 (fun K hK => ?_)
        rw [if_pos (by rfl)]
        refine wp_append_any_at 47 (by rfl) _ _ 36 rfl wr.heap.size 3 i0 (.int .i64 0) 1 8 Tryz.underlying36 hi0 hi1 hi2 hi3 rfl (by decide) _ (0 + 1) _ (by rfl) HO.out (.slice none 0 0) (0) [] (by rfl) (HT0.out.below hS) rfl (by simp) (by unfold maxLen; omega) (by omega) hS.size ?_
        intro v' x5 hown hgrow hat
        obtain ⟨Ay, kAy, rfl, _⟩ := mx_slice hown
        have hSN := hS.grown hgrow hS.size (fun g hg => (own_lt HO.out g hg).1)
        have HO1 := Lib.hid hown
        clear HO
        have HO := HO1
        clear HO1 hown hgrow hat
        refine hK.out _ _ hSN (fun _ => ?_)
        clear hK hS
        have hS := hSN
        clear hSN
        refine takeE 15 5 ?_
        refine wpAnyH_done (by kernel_rfl) ?_ _
        have hzz : [] ++ [.int .i64 x] ++ [] = (out.take 0 ++ [x] ++ out.drop 0).map (Value.int .i64) := by simp [HO0.out]
        have hnn : 0 + 1 + 0 = (out.take 0 ++ [x] ++ out.drop 0).length := by simp [HO0.out]
        have hown := own_mono HO.out (show w.heap.size ≤ wr.heap.size from hzwr)
        rw [hzz] at hown
        have HJ := Lib.hid hown
        have HNN := Lib.hid hnn
        have HSE := Lib.hid hS
        clear hS hown hzz hnn
        go_wp2_with fail
        go_meet
        exact ⟨Ay, kAy, 1, rfl, HNN, HJ, HSE⟩
      ·
       go_simp
       obtain ⟨x1, hwn⟩ : ∃ z, x0.alloc (.cells #[.int .i64 x] 3) = z := ⟨_, rfl⟩
       have hbn : Below x0.heap.size x0 x1 := by rw [← hwn]; exact mx_al _ _
       have hnn := mx_src x0 3 [.int .i64 x]
       rw [show ([.int .i64 x] : List Value).toArray = #[.int .i64 x] from rfl, hwn] at hnn
       have hsz : x1.heap.size = x0.heap.size + 1 := by rw [← hwn]; simp
       rw [hwn]
       have HZx1 := Lib.hid hsz
       have HN := Lib.hid hnn
       have hSN := hS.trans (hbn.mono hS.size)
       clear hbn hnn hwn hsz
       refine hK.out _ _ hSN (fun _ => ?_)
       clear hK hS
       have hS := hSN
       clear hSN
       refine ready1 0 (fun K hK => ?_)
       go_simp
       obtain ⟨x2, hwn⟩ : ∃ z, x1.alloc (.cells #[] 3) = z := ⟨_, rfl⟩
       have hbn : Below x1.heap.size x1 x2 := by rw [← hwn]; exact mx_al _ _
       have hon := own_none x1 wr.heap.size 3 1 hS.size
       have hsz : x2.heap.size = x1.heap.size + 1 := by rw [← hwn]; simp
       rw [hwn] at hon
       rw [hwn]
       have HZx2 := Lib.hid hsz
       have HO := Lib.hid hon
       have HN1 := Lib.hid (HN.out.below hbn)
       clear HN
       have HN := HN1
       clear HN1
       have hSN := hS.trans (hbn.mono hS.size)
       clear hbn hon hwn hsz
       refine hK.out _ _ hSN (fun _ => ?_)
       clear hK hS
       have hS := hSN
       clear hSN
       refine ready1 4 (fun K hK => ?_)
       rw [if_pos (by rfl)]
       refine wp_append_any_at 37 (by rfl) _ _ 36 rfl wr.heap.size 3 i0 (.int .i64 0) 1 8 Tryz.underlying36 hi0 hi1 hi2 hi3 rfl (by decide) _ (0) _ (by rfl) HO.out (.slice none 0 0) (0) [] (by rfl) (HT0.out.below hS) rfl (by simp) (by unfold maxLen; omega) (by omega) hS.size ?_
       intro v' x3 hown hgrow hat
       rw [Nat.zero_add, List.nil_append] at hown
       obtain ⟨Aw, kAw, rfl, _⟩ := mx_slice hown
       have hSN := hS.grown hgrow hS.size (fun g hg => (own_lt HO.out g hg).1)
       have HN1 := Lib.hid (src_grown' HN.out hgrow (by have := HZx1.out; simp [Value.ownBlock]; omega))
       clear HN
       have HN := HN1
       clear HN1
       have HO1 := Lib.hid hown
       clear HO
       have HO := HO1
       clear HO1 hown hgrow hat
       refine hK.out _ _ hSN (fun _ => ?_)
       clear hK hS
       have hS := hSN
       clear hSN
       refine ready1 10 (fun K hK => ?_)
       rw [if_pos (by rfl)]
       refine wp_append_any_at 43 (by rfl) _ _ 36 rfl wr.heap.size 3 i0 (.int .i64 0) 1 8 Tryz.underlying36 hi0 hi1 hi2 hi3 rfl (by decide) _ (0) _ (by rfl) HO.out (.slice (some ⟨x0.heap.size, 0, none⟩) 1 1) (1) [.int .i64 x] (by rfl) HN.out rfl (by simp [Value.oneCell']) (by unfold maxLen; omega) (by omega) hS.size ?_
       intro v' x4 hown hgrow hat
       obtain ⟨Ax, kAx, rfl, _⟩ := mx_slice hown
       have hSN := hS.grown hgrow hS.size (fun g hg => (own_lt HO.out g hg).1)
       have HO1 := Lib.hid hown
       clear HO
       have HO := HO1
       clear HO1 hown hgrow hat
       refine hK.out _ _ hSN (fun _ => ?_)
       clear hK hS
       have hS := hSN
       clear hSN
       refine ready1 14 (fun K hK => ?_)
       rw [if_pos (by rfl)]
       refine wp_append_any_at 47 (by rfl) _ _ 36 rfl wr.heap.size 3 i0 (.int .i64 0) 1 8 Tryz.underlying36 hi0 hi1 hi2 hi3 rfl (by decide) _ (0 + 1) _ (by rfl) HO.out (.slice none 0 0) (0) [] (by rfl) (HT0.out.below hS) rfl (by simp) (by unfold maxLen; omega) (by omega) hS.size ?_
       intro v' x5 hown hgrow hat
       obtain ⟨Ay, kAy, rfl, _⟩ := mx_slice hown
       have hSN := hS.grown hgrow hS.size (fun g hg => (own_lt HO.out g hg).1)
       have HO1 := Lib.hid hown
       clear HO
       have HO := HO1
       clear HO1 hown hgrow hat
       refine hK.out _ _ hSN (fun _ => ?_)
       clear hK hS
       have hS := hSN
       clear hSN
       refine takeE 15 5 ?_
       refine wpAnyH_done (by kernel_rfl) ?_ _
       have hzz : [] ++ [.int .i64 x] ++ [] = (out.take 0 ++ [x] ++ out.drop 0).map (Value.int .i64) := by simp [HO0.out]
       have hnn : 0 + 1 + 0 = (out.take 0 ++ [x] ++ out.drop 0).length := by simp [HO0.out]
       have hown := own_mono HO.out (show w.heap.size ≤ wr.heap.size from hzwr)
       rw [hzz] at hown
       have HJ := Lib.hid hown
       have HNN := Lib.hid hnn
       have HSE := Lib.hid hS
       clear hS hown hzz hnn
       go_wp2_with fail
       go_meet
       exact ⟨Ay, kAy, 1, rfl, HNN, HJ, HSE⟩
     case rest =>
      obtain ⟨Az, kz, n8, rfl, HN8, HR8, HB8⟩ := hcut
      have HWC := Lib.hid (HWR.out.trans (HB8.out.mono HWR.out.size))
      have hzwc := HWC.out.size
      go_upto_region 9 with fail
      have HT0 := Lib.hid (show SrcAt wc (.slice none 0 0) 0 [] from .inl ⟨rfl, rfl, rfl⟩)
      obtain ⟨x0, hx0⟩ : ∃ x, (wc).drew = x := ⟨_, rfl⟩
      have hS0 := mx_drew wc
      rw [hx0] at hS0
      refine wp_region_held_drew (S := fun w' => Below wc.heap.size wc w') (by kernel_rfl) (by rw [hx0]; exact hS0) (fun hS => ?_)
      rw [hx0] at hS ⊢
      clear hS0 hx0
      refine takeE 1 49 ?_
      refine takeE 2 50 ?_
      refine takeE 3 51 ?_
      refine takeE 5 53 ?_
      refine takeE 6 54 ?_
      refine takeE 7 55 ?_
      refine takeD 8 56 (v := ?_) rfl (by rfl) (by kernel_rfl) (by kernel_rfl) (by kernel_rfl) (fun _ _ _ h => h) (Or.inl ⟨by rfl, ?_⟩) (by assumption) ?_
      rotate_left
      ·
       intro wq hSw
       have hSz := HWC.out.trans (hSw.mono HWC.out.size)
       have k0 := (hSz.cell (p := ⟨g4, o4 + k, none⟩) hg4).trans F1.out
       clear hSw
       go_simp
       try with_reducible rfl
      simp only [Act.put, List.setIfInBounds_toArray, List.set_cons_zero, List.set_cons_succ]
      refine takeE 11 59 ?_
      refine takeE 12 60 ?_
      refine takeE 13 61 ?_
      refine wpAnyH_ready (rs := [0, 9]) (by kernel_rfl) (by simp) ?_
      refine AllReadyH.cons rfl (fun K hK => ?_) (AllReadyH.cons rfl (fun K hK => ?_) AllReadyH.nil)
      ·
       go_simp
       obtain ⟨x1, hwn⟩ : ∃ z, x0.alloc (.cells #[] 3) = z := ⟨_, rfl⟩
       have hbn : Below x0.heap.size x0 x1 := by rw [← hwn]; exact mx_al _ _
       have hon := own_none x0 wc.heap.size 3 1 hS.size
       have hsz : x1.heap.size = x0.heap.size + 1 := by rw [← hwn]; simp
       rw [hwn] at hon
       rw [hwn]
       have HZx1 := Lib.hid hsz
       have HO := Lib.hid hon
       have hSN := hS.trans (hbn.mono hS.size)
       clear hbn hon hwn hsz
       refine hK.out _ _ hSN (fun _ => ?_)
       clear hK hS
       have hS := hSN
       clear hSN
       refine wpAnyH_ready (rs := [4, 9]) (by kernel_rfl) (by simp) ?_
       refine AllReadyH.cons rfl (fun K hK => ?_) (AllReadyH.cons rfl (fun K hK => ?_) AllReadyH.nil)
       ·
        rw [if_pos (by rfl)]
        refine wp_append_any_at 52 (by rfl) _ _ 36 rfl wc.heap.size 3 i0 (.int .i64 0) 1 8 Tryz.underlying36 hi0 hi1 hi2 hi3 rfl (by decide) _ (0) _ (by rfl) HO.out (.slice none 0 0) (0) [] (by rfl) (HT0.out.below hS) rfl (by simp) (by unfold maxLen; omega) (by omega) hS.size ?_
        intro v' x2 hown hgrow hat
        rw [Nat.zero_add, List.nil_append] at hown
        obtain ⟨Aw, kAw, rfl, _⟩ := mx_slice hown
        have hSN := hS.grown hgrow hS.size (fun g hg => (own_lt HO.out g hg).1)
        have HO1 := Lib.hid hown
        clear HO
        have HO := HO1
        clear HO1 hown hgrow hat
        refine hK.out _ _ hSN (fun _ => ?_)
        clear hK hS
        have hS := hSN
        clear hSN
        refine ready1 9 (fun K hK => ?_)
        go_simp
        obtain ⟨x3, hwn⟩ : ∃ z, x2.alloc (.cells #[.int .i64 y] 3) = z := ⟨_, rfl⟩
        have hbn : Below x2.heap.size x2 x3 := by rw [← hwn]; exact mx_al _ _
        have hnn := mx_src x2 3 [.int .i64 y]
        rw [show ([.int .i64 y] : List Value).toArray = #[.int .i64 y] from rfl, hwn] at hnn
        have hsz : x3.heap.size = x2.heap.size + 1 := by rw [← hwn]; simp
        rw [hwn]
        have HZx3 := Lib.hid hsz
        have HN := Lib.hid hnn
        have HO1 := Lib.hid (own_below HO.out hbn)
        clear HO
        have HO := HO1
        clear HO1
        have hSN := hS.trans (hbn.mono hS.size)
        clear hbn hnn hwn hsz
        refine hK.out _ _ hSN (fun _ => ?_)
        clear hK hS
        have hS := hSN
        clear hSN
        refine ready1 10 (fun K hK => ?_)
        rw [if_pos (by rfl)]
        refine wp_append_any_at 58 (by rfl) _ _ 36 rfl wc.heap.size 3 i0 (.int .i64 0) 1 8 Tryz.underlying36 hi0 hi1 hi2 hi3 rfl (by decide) _ (0) _ (by rfl) HO.out (.slice (some ⟨x2.heap.size, 0, none⟩) 1 1) (1) [.int .i64 y] (by rfl) HN.out rfl (by simp [Value.oneCell']) (by unfold maxLen; omega) (by omega) hS.size ?_
        intro v' x4 hown hgrow hat
        obtain ⟨Ax, kAx, rfl, _⟩ := mx_slice hown
        have hSN := hS.grown hgrow hS.size (fun g hg => (own_lt HO.out g hg).1)
        have HO1 := Lib.hid hown
        clear HO
        have HO := HO1
        clear HO1 hown hgrow hat
        refine hK.out _ _ hSN (fun _ => ?_)
        clear hK hS
        have hS := hSN
        clear hSN
        refine ready1 14 (fun K hK => ?_)
        rw [if_pos (by rfl)]
        refine wp_append_any_at 62 (by rfl) _ _ 36 rfl wc.heap.size 3 i0 (.int .i64 0) 1 8 Tryz.underlying36 hi0 hi1 hi2 hi3 rfl (by decide) _ (0 + 1) _ (by rfl) HO.out (.slice none 0 0) (0) [] (by rfl) (HT0.out.below hS) rfl (by simp) (by unfold maxLen; omega) (by omega) hS.size ?_
        intro v' x5 hown hgrow hat
        obtain ⟨Ay, kAy, rfl, _⟩ := mx_slice hown
        have hSN := hS.grown hgrow hS.size (fun g hg => (own_lt HO.out g hg).1)
        have HO1 := Lib.hid hown
        clear HO
        have HO := HO1
        clear HO1 hown hgrow hat
        refine hK.out _ _ hSN (fun _ => ?_)
        clear hK hS
        have hS := hSN
        clear hSN
        refine takeE 15 6 ?_
        refine wpAnyH_done (by kernel_rfl) ?_ _
        have hzz : [] ++ [.int .i64 y] ++ [] = (at_.take 0 ++ [y] ++ at_.drop 0).map (Value.int .i64) := by simp [HA0.out]
        have hnn : 0 + 1 + 0 = (at_.take 0 ++ [y] ++ at_.drop 0).length := by simp [HA0.out]
        have hown := own_mono HO.out (show w.heap.size ≤ wc.heap.size from hzwc)
        have HJ := Lib.hid (row_fin hown hzz hnn)
        have H8 := Lib.hid (row_fin (own_below HR8.out hS) rfl HN8.out)
        have HSE := Lib.hid (HWC.out.trans (hS.mono HWC.out.size))
        have hnl : (out.take 0 ++ [x] ++ out.drop 0).length = k + 1 := by simp; omega
        have hnl2 : (at_.take 0 ++ [y] ++ at_.drop 0).length = k + 1 := by simp; omega
        clear hS hown hzz hnn
        go_wp2_with fail
        go_roundw
        case rel => exact ⟨k + 1, _, _, by omega, hnl, hnl2, by go_num, HNQ, H8, HJ, HSE, fun h => absurd h (by omega)⟩
        case measure => simp [intOf]; omega
       ·
        go_simp
        obtain ⟨x2, hwn⟩ : ∃ z, x1.alloc (.cells #[.int .i64 y] 3) = z := ⟨_, rfl⟩
        have hbn : Below x1.heap.size x1 x2 := by rw [← hwn]; exact mx_al _ _
        have hnn := mx_src x1 3 [.int .i64 y]
        rw [show ([.int .i64 y] : List Value).toArray = #[.int .i64 y] from rfl, hwn] at hnn
        have hsz : x2.heap.size = x1.heap.size + 1 := by rw [← hwn]; simp
        rw [hwn]
        have HZx2 := Lib.hid hsz
        have HN := Lib.hid hnn
        have HO1 := Lib.hid (own_below HO.out hbn)
        clear HO
        have HO := HO1
        clear HO1
        have hSN := hS.trans (hbn.mono hS.size)
        clear hbn hnn hwn hsz
        refine hK.out _ _ hSN (fun _ => ?_)
        clear hK hS
        have hS := hSN
        clear hSN
        refine ready1 4 (fun K hK => ?_)
        rw [if_pos (by rfl)]
        refine wp_append_any_at 52 (by rfl) _ _ 36 rfl wc.heap.size 3 i0 (.int .i64 0) 1 8 Tryz.underlying36 hi0 hi1 hi2 hi3 rfl (by decide) _ (0) _ (by rfl) HO.out (.slice none 0 0) (0) [] (by rfl) (HT0.out.below hS) rfl (by simp) (by unfold maxLen; omega) (by omega) hS.size ?_
        intro v' x3 hown hgrow hat
        rw [Nat.zero_add, List.nil_append] at hown
        obtain ⟨Aw, kAw, rfl, _⟩ := mx_slice hown
        have hSN := hS.grown hgrow hS.size (fun g hg => (own_lt HO.out g hg).1)
        have HN1 := Lib.hid (src_grown' HN.out hgrow (by have := HZx1.out; simp [Value.ownBlock]; omega))
        clear HN
        have HN := HN1
        clear HN1
        have HO1 := Lib.hid hown
        clear HO
        have HO := HO1
        clear HO1 hown hgrow hat
        refine hK.out _ _ hSN (fun _ => ?_)
        clear hK hS
        have hS := hSN
        clear hSN
        refine ready1 10 (fun K hK => ?_)
        rw [if_pos (by rfl)]
        refine wp_append_any_at 58 (by rfl) _ _ 36 rfl wc.heap.size 3 i0 (.int .i64 0) 1 8 Tryz.underlying36 hi0 hi1 hi2 hi3 rfl (by decide) _ (0) _ (by rfl) HO.out (.slice (some ⟨x1.heap.size, 0, none⟩) 1 1) (1) [.int .i64 y] (by rfl) HN.out rfl (by simp [Value.oneCell']) (by unfold maxLen; omega) (by omega) hS.size ?_
        intro v' x4 hown hgrow hat
        obtain ⟨Ax, kAx, rfl, _⟩ := mx_slice hown
        have hSN := hS.grown hgrow hS.size (fun g hg => (own_lt HO.out g hg).1)
        have HO1 := Lib.hid hown
        clear HO
        have HO := HO1
        clear HO1 hown hgrow hat
        refine hK.out _ _ hSN (fun _ => ?_)
        clear hK hS
        have hS := hSN
        clear hSN
        refine ready1 14 (fun K hK => ?_)
        rw [if_pos (by rfl)]
        refine wp_append_any_at 62 (by rfl) _ _ 36 rfl wc.heap.size 3 i0 (.int .i64 0) 1 8 Tryz.underlying36 hi0 hi1 hi2 hi3 rfl (by decide) _ (0 + 1) _ (by rfl) HO.out (.slice none 0 0) (0) [] (by rfl) (HT0.out.below hS) rfl (by simp) (by unfold maxLen; omega) (by omega) hS.size ?_
        intro v' x5 hown hgrow hat
        obtain ⟨Ay, kAy, rfl, _⟩ := mx_slice hown
        have hSN := hS.grown hgrow hS.size (fun g hg => (own_lt HO.out g hg).1)
        have HO1 := Lib.hid hown
        clear HO
        have HO := HO1
        clear HO1 hown hgrow hat
        refine hK.out _ _ hSN (fun _ => ?_)
        clear hK hS
        have hS := hSN
        clear hSN
        refine takeE 15 6 ?_
        refine wpAnyH_done (by kernel_rfl) ?_ _
        have hzz : [] ++ [.int .i64 y] ++ [] = (at_.take 0 ++ [y] ++ at_.drop 0).map (Value.int .i64) := by simp [HA0.out]
        have hnn : 0 + 1 + 0 = (at_.take 0 ++ [y] ++ at_.drop 0).length := by simp [HA0.out]
        have hown := own_mono HO.out (show w.heap.size ≤ wc.heap.size from hzwc)
        have HJ := Lib.hid (row_fin hown hzz hnn)
        have H8 := Lib.hid (row_fin (own_below HR8.out hS) rfl HN8.out)
        have HSE := Lib.hid (HWC.out.trans (hS.mono HWC.out.size))
        have hnl : (out.take 0 ++ [x] ++ out.drop 0).length = k + 1 := by simp; omega
        have hnl2 : (at_.take 0 ++ [y] ++ at_.drop 0).length = k + 1 := by simp; omega
        clear hS hown hzz hnn
        go_wp2_with fail
        go_roundw
        case rel => exact ⟨k + 1, _, _, by omega, hnl, hnl2, by go_num, HNQ, H8, HJ, HSE, fun h => absurd h (by omega)⟩
        case measure => simp [intOf]; omega
      ·
       go_simp
       obtain ⟨x1, hwn⟩ : ∃ z, x0.alloc (.cells #[.int .i64 y] 3) = z := ⟨_, rfl⟩
       have hbn : Below x0.heap.size x0 x1 := by rw [← hwn]; exact mx_al _ _
       have hnn := mx_src x0 3 [.int .i64 y]
       rw [show ([.int .i64 y] : List Value).toArray = #[.int .i64 y] from rfl, hwn] at hnn
       have hsz : x1.heap.size = x0.heap.size + 1 := by rw [← hwn]; simp
       rw [hwn]
       have HZx1 := Lib.hid hsz
       have HN := Lib.hid hnn
       have hSN := hS.trans (hbn.mono hS.size)
       clear hbn hnn hwn hsz
       refine hK.out _ _ hSN (fun _ => ?_)
       clear hK hS
       have hS := hSN
       clear hSN
       refine ready1 0 (fun K hK => ?_)
       go_simp
       obtain ⟨x2, hwn⟩ : ∃ z, x1.alloc (.cells #[] 3) = z := ⟨_, rfl⟩
       have hbn : Below x1.heap.size x1 x2 := by rw [← hwn]; exact mx_al _ _
       have hon := own_none x1 wc.heap.size 3 1 hS.size
       have hsz : x2.heap.size = x1.heap.size + 1 := by rw [← hwn]; simp
       rw [hwn] at hon
       rw [hwn]
       have HZx2 := Lib.hid hsz
       have HO := Lib.hid hon
       have HN1 := Lib.hid (HN.out.below hbn)
       clear HN
       have HN := HN1
       clear HN1
       have hSN := hS.trans (hbn.mono hS.size)
       clear hbn hon hwn hsz
       refine hK.out _ _ hSN (fun _ => ?_)
       clear hK hS
       have hS := hSN
       clear hSN
       refine ready1 4 (fun K hK => ?_)
       rw [if_pos (by rfl)]
       refine wp_append_any_at 52 (by rfl) _ _ 36 rfl wc.heap.size 3 i0 (.int .i64 0) 1 8 Tryz.underlying36 hi0 hi1 hi2 hi3 rfl (by decide) _ (0) _ (by rfl) HO.out (.slice none 0 0) (0) [] (by rfl) (HT0.out.below hS) rfl (by simp) (by unfold maxLen; omega) (by omega) hS.size ?_
       intro v' x3 hown hgrow hat
       rw [Nat.zero_add, List.nil_append] at hown
       obtain ⟨Aw, kAw, rfl, _⟩ := mx_slice hown
       have hSN := hS.grown hgrow hS.size (fun g hg => (own_lt HO.out g hg).1)
       have HN1 := Lib.hid (src_grown' HN.out hgrow (by have := HZx1.out; simp [Value.ownBlock]; omega))
       clear HN
       have HN := HN1
       clear HN1
       have HO1 := Lib.hid hown
       clear HO
       have HO := HO1
       clear HO1 hown hgrow hat
       refine hK.out _ _ hSN (fun _ => ?_)
       clear hK hS
       have hS := hSN
       clear hSN
       refine ready1 10 (fun K hK => ?_)
       rw [if_pos (by rfl)]
       refine wp_append_any_at 58 (by rfl) _ _ 36 rfl wc.heap.size 3 i0 (.int .i64 0) 1 8 Tryz.underlying36 hi0 hi1 hi2 hi3 rfl (by decide) _ (0) _ (by rfl) HO.out (.slice (some ⟨x0.heap.size, 0, none⟩) 1 1) (1) [.int .i64 y] (by rfl) HN.out rfl (by simp [Value.oneCell']) (by unfold maxLen; omega) (by omega) hS.size ?_
       intro v' x4 hown hgrow hat
       obtain ⟨Ax, kAx, rfl, _⟩ := mx_slice hown
       have hSN := hS.grown hgrow hS.size (fun g hg => (own_lt HO.out g hg).1)
       have HO1 := Lib.hid hown
       clear HO
       have HO := HO1
       clear HO1 hown hgrow hat
       refine hK.out _ _ hSN (fun _ => ?_)
       clear hK hS
       have hS := hSN
       clear hSN
       refine ready1 14 (fun K hK => ?_)
       rw [if_pos (by rfl)]
       refine wp_append_any_at 62 (by rfl) _ _ 36 rfl wc.heap.size 3 i0 (.int .i64 0) 1 8 Tryz.underlying36 hi0 hi1 hi2 hi3 rfl (by decide) _ (0 + 1) _ (by rfl) HO.out (.slice none 0 0) (0) [] (by rfl) (HT0.out.below hS) rfl (by simp) (by unfold maxLen; omega) (by omega) hS.size ?_
       intro v' x5 hown hgrow hat
       obtain ⟨Ay, kAy, rfl, _⟩ := mx_slice hown
       have hSN := hS.grown hgrow hS.size (fun g hg => (own_lt HO.out g hg).1)
       have HO1 := Lib.hid hown
       clear HO
       have HO := HO1
       clear HO1 hown hgrow hat
       refine hK.out _ _ hSN (fun _ => ?_)
       clear hK hS
       have hS := hSN
       clear hSN
       refine takeE 15 6 ?_
       refine wpAnyH_done (by kernel_rfl) ?_ _
       have hzz : [] ++ [.int .i64 y] ++ [] = (at_.take 0 ++ [y] ++ at_.drop 0).map (Value.int .i64) := by simp [HA0.out]
       have hnn : 0 + 1 + 0 = (at_.take 0 ++ [y] ++ at_.drop 0).length := by simp [HA0.out]
       have hown := own_mono HO.out (show w.heap.size ≤ wc.heap.size from hzwc)
       have HJ := Lib.hid (row_fin hown hzz hnn)
       have H8 := Lib.hid (row_fin (own_below HR8.out hS) rfl HN8.out)
       have HSE := Lib.hid (HWC.out.trans (hS.mono HWC.out.size))
       have hnl : (out.take 0 ++ [x] ++ out.drop 0).length = k + 1 := by simp; omega
       have hnl2 : (at_.take 0 ++ [y] ++ at_.drop 0).length = k + 1 := by simp; omega
       clear hS hown hzz hnn
       go_wp2_with fail
       go_roundw
       case rel => exact ⟨k + 1, _, _, by omega, hnl, hnl2, by go_num, HNQ, H8, HJ, HSE, fun h => absurd h (by omega)⟩
       case measure => simp [intOf]; omega
   ·
    obtain ⟨go, co, _, rfl, hco, _, hgo, _, _⟩ := mx_some HO.out (by omega)
    obtain ⟨ga, ca, _, rfl, hca, _, hga, _, _⟩ := mx_some HA.out (by omega)
    clear hnil
    rw [hlo] at hco
    rw [hlat] at hca
    rw [hlo] at HO
    rw [hlat] at HA
    rw [hlo, hlat]
    obtain ⟨wo, rfl⟩ : ∃ wo : World, wo = wr := ⟨_, rfl⟩
    go_wp2_with fail
    go_loopw [8] (fun j wr => ∃ q : Nat, q ≤ k ∧ j = .int .i64 q ∧ Hid (rK at_ y k = rK at_ y q) ∧ Hid (Below wo.heap.size wo wr)) (fun j _ => (intOf j).toNat)
    case atStart => exact ⟨k, Nat.le_refl _, rfl, Lib.hid rfl, Lib.hid (Below.refl _ _)⟩
    case round =>
     obtain ⟨q, hq, rfl, HK, HW2⟩ := hrel
     have HWR := Lib.hid (HW.out.trans (HW2.out.mono HW.out.size))
     have hzwr := HWR.out.size
     by_cases hq0 : q = 0
     ·
      have HQQ := Lib.hid (show rK at_ y q = q from by rw [hq0]; rfl)
      have q0 : decide ((0 : Int) < (q : Int)) = false := by simp; omega
      have q1 : decide (0 < q) = false := by simp; omega
      clear hq0
      have HNQ := Lib.hid (show rSrt [] [] l ks = rSrt (out.take q ++ [x] ++ out.drop q) (at_.take q ++ [y] ++ at_.drop q) (l.drop (k + 1)) (ks.drop (k + 1)) from by have h := HN.out; rw [HK.out, HQQ.out] at h; exact h)
      go_upto_region 6 with fail
      refine wp_region_held_drew (S := fun w' => Below wr.heap.size wr w') (by kernel_rfl) (mx_drew wr) (fun hS => ?_)
      obtain ⟨wD, hwD⟩ : ∃ x, wr.drew = x := ⟨_, rfl⟩
      rw [hwD] at hS ⊢
      refine takeE 0 17 ?_
      refine takeE 1 18 ?_
      refine takeE 2 19 ?_
      refine takeU 3 20 ?_
      refine takeU 4 21 ?_
      refine takeU 5 22 ?_
      refine takeU 6 23 ?_
      refine takeU 7 24 ?_
      refine takeU 8 25 ?_
      refine takeU 9 26 ?_
      refine takeU 10 27 ?_
      refine takeU 11 28 ?_
      refine takeU 12 29 ?_
      refine takeE 13 30 ?_
      refine wpAnyH_done (by kernel_rfl) ?_ _
      have HW3 := Lib.hid (HW2.out.trans (hS.mono HW2.out.size))
      have HWR3 := Lib.hid (HWR.out.trans (hS.mono HWR.out.size))
      have hS3 := hS
      clear hS
      clear HW2 HWR hzwr hwD
      obtain ⟨wr, rfl⟩ : ∃ x : World, x = wD := ⟨_, rfl⟩
      have HWR := HWR3
      have hzwr := HWR.out.size
      have HO1 := Lib.hid (own_below HO.out HW3.out)
      have HA1 := Lib.hid (own_below HA.out HW3.out)
      clear HW3 HWR3 hS3
      go_upto_region 8 with fail
      go_cut [5] (fun s wx => ∃ (Az : Option Addr) (kz n : Nat), s = .slice Az n kz ∧ Hid (n = (out.take q ++ [x] ++ out.drop q).length) ∧ Hid (wx.ownsRow w.heap.size 3 1 (.slice Az n kz) n ((out.take q ++ [x] ++ out.drop q).map (Value.int .i64))) ∧ Hid (Below wr.heap.size wr wx))
      case first =>
       have HT1 := Lib.hid (src_take (k := q) HO1.out)
       obtain ⟨Ad, hAd⟩ := ad_any co q go
       have hqo : q ≤ co := by omega
       have HT3 := Lib.hid (src_drop2 (m := k - q) (c' := co - q) HO1.out (by omega) hAd)
       obtain ⟨x0, hx0⟩ : ∃ x, (wr).drew = x := ⟨_, rfl⟩
       have hS0 := mx_drew wr
       rw [hx0] at hS0
       refine wp_region_held_drew (S := fun w' => Below wr.heap.size wr w') (by kernel_rfl) (by rw [hx0]; exact hS0) (fun hS => ?_)
       rw [hx0] at hS ⊢
       clear hS0 hx0
       refine takeE 1 34 ?_
       refine takeE 2 35 ?_
       refine takeE 3 36 ?_
       refine takeE 5 38 ?_
       refine takeE 6 39 ?_
       refine takeE 7 40 ?_
       refine takeD 8 41 (v := ?_) rfl (by rfl) (by kernel_rfl) (by kernel_rfl) (by kernel_rfl) (fun _ _ _ h => h) (Or.inl ⟨by rfl, ?_⟩) (by assumption) ?_
       rotate_left
       ·
        intro wq hSw
        have hSz := HWR.out.trans (hSw.mono HWR.out.size)
        have k0 := (hSz.cell (p := ⟨g3, o3 + k, none⟩) hg3).trans F0.out
        clear hSw
        go_simp
        try with_reducible rfl
       simp only [Act.put, List.setIfInBounds_toArray, List.set_cons_zero, List.set_cons_succ]
       refine takeE 11 44 ?_
       refine takeE 12 45 ?_
       refine takeE 13 46 ?_
       refine wpAnyH_ready (rs := [0, 9]) (by kernel_rfl) (by simp) ?_
       refine AllReadyH.cons rfl (fun K hK => ?_) (AllReadyH.cons rfl (fun K hK => ?_) AllReadyH.nil)
       ·
        go_simp
        obtain ⟨x1, hwn⟩ : ∃ z, x0.alloc (.cells #[] 3) = z := ⟨_, rfl⟩
        have hbn : Below x0.heap.size x0 x1 := by rw [← hwn]; exact mx_al _ _
        have hon := own_none x0 wr.heap.size 3 1 hS.size
        have hsz : x1.heap.size = x0.heap.size + 1 := by rw [← hwn]; simp
        rw [hwn] at hon
        rw [hwn]
        have HZx1 := Lib.hid hsz
        have HO := Lib.hid hon
        have hSN := hS.trans (hbn.mono hS.size)
        clear hbn hon hwn hsz
        refine hK.out _ _ hSN (fun _ => ?_)
        clear hK hS
        have hS := hSN
        clear hSN
        refine wpAnyH_ready (rs := [4, 9]) (by kernel_rfl) (by simp) ?_
        refine AllReadyH.cons rfl (fun K hK => ?_) (AllReadyH.cons rfl (fun K hK => ?_) AllReadyH.nil)
        ·
         rw [if_pos (by rfl)]
         refine wp_append_any_at 37 (by rfl) _ _ 36 rfl wr.heap.size 3 i0 (.int .i64 0) 1 8 Tryz.underlying36 hi0 hi1 hi2 hi3 rfl (by decide) _ (0) _ (by rfl) HO.out (.slice (some ⟨go, 0, none⟩) q co) (q) ((out.map (Value.int .i64)).take q) (by rfl) (HT1.out.below hS) (by rw [List.length_take, List.length_map]; omega) (by intro u hu; obtain ⟨z, _, rfl⟩ := List.mem_map.1 (List.mem_of_mem_take hu); rfl) (by unfold maxLen; omega) (by omega) hS.size ?_
         intro v' x2 hown hgrow hat
         rw [Nat.zero_add, List.nil_append] at hown
         obtain ⟨Aw, kAw, rfl, _⟩ := mx_slice hown
         have hSN := hS.grown hgrow hS.size (fun g hg => (own_lt HO.out g hg).1)
         have HO1 := Lib.hid hown
         clear HO
         have HO := HO1
         clear HO1 hown hgrow hat
         refine hK.out _ _ hSN (fun _ => ?_)
         clear hK hS
         have hS := hSN
         clear hSN
         refine ready1 9 (fun K hK => ?_)
         go_simp
         obtain ⟨x3, hwn⟩ : ∃ z, x2.alloc (.cells #[.int .i64 x] 3) = z := ⟨_, rfl⟩
         have hbn : Below x2.heap.size x2 x3 := by rw [← hwn]; exact mx_al _ _
         have hnn := mx_src x2 3 [.int .i64 x]
         rw [show ([.int .i64 x] : List Value).toArray = #[.int .i64 x] from rfl, hwn] at hnn
         have hsz : x3.heap.size = x2.heap.size + 1 := by rw [← hwn]; simp
         rw [hwn]
         have HZx3 := Lib.hid hsz
         have HN := Lib.hid hnn
         have HO1 := Lib.hid (own_below HO.out hbn)
         clear HO
         have HO := HO1
         clear HO1
         have hSN := hS.trans (hbn.mono hS.size)
         clear hbn hnn hwn hsz
         refine hK.out _ _ hSN (fun _ => ?_)
         clear hK hS
         have hS := hSN
         clear hSN
         refine ready1 10 (fun K hK => ?_)
         rw [if_pos (by rfl)]
         refine wp_append_any_at 43 (by rfl) _ _ 36 rfl wr.heap.size 3 i0 (.int .i64 0) 1 8 Tryz.underlying36 hi0 hi1 hi2 hi3 rfl (by decide) _ (q) _ (by rfl) HO.out (.slice (some ⟨x2.heap.size, 0, none⟩) 1 1) (1) [.int .i64 x] (by rfl) HN.out rfl (by simp [Value.oneCell']) (by unfold maxLen; omega) (by omega) hS.size ?_
         intro v' x4 hown hgrow hat
         obtain ⟨Ax, kAx, rfl, _⟩ := mx_slice hown
         have hSN := hS.grown hgrow hS.size (fun g hg => (own_lt HO.out g hg).1)
         have HO1 := Lib.hid hown
         clear HO
         have HO := HO1
         clear HO1 hown hgrow hat
         refine hK.out _ _ hSN (fun _ => ?_)
         clear hK hS
         have hS := hSN
         clear hSN
         refine ready1 14 (fun K hK => ?_)
         rw [if_pos (by rfl)]
         refine wp_append_any_at 47 (by rfl) _ _ 36 rfl wr.heap.size 3 i0 (.int .i64 0) 1 8 Tryz.underlying36 hi0 hi1 hi2 hi3 rfl (by decide) _ (q + 1) _ (by rfl) HO.out (.slice (some Ad) (k - q) (co - q)) ((k - q)) ((out.map (Value.int .i64)).drop q) (by rfl) (HT3.out.below hS) (by rw [List.length_drop, List.length_map]; omega) (by intro u hu; obtain ⟨z, _, rfl⟩ := List.mem_map.1 (List.mem_of_mem_drop hu); rfl) (by unfold maxLen; omega) (by omega) hS.size ?_
         intro v' x5 hown hgrow hat
         obtain ⟨Ay, kAy, rfl, _⟩ := mx_slice hown
         have hSN := hS.grown hgrow hS.size (fun g hg => (own_lt HO.out g hg).1)
         have HO1 := Lib.hid hown
         clear HO
         have HO := HO1
         clear HO1 hown hgrow hat
         refine hK.out _ _ hSN (fun _ => ?_)
         clear hK hS
         have hS := hSN
         clear hSN
         refine takeE 15 5 ?_
         refine wpAnyH_done (by kernel_rfl) ?_ _
         have hzz : (out.map (Value.int .i64)).take q ++ [.int .i64 x] ++ (out.map (Value.int .i64)).drop q = (out.take q ++ [x] ++ out.drop q).map (Value.int .i64) := by simp
         have hnn : q + 1 + (k - q) = (out.take q ++ [x] ++ out.drop q).length := by simp; omega
         have hown := own_mono HO.out (show w.heap.size ≤ wr.heap.size from hzwr)
         rw [hzz] at hown
         have HJ := Lib.hid hown
         have HNN := Lib.hid hnn
         have HSE := Lib.hid hS
         clear hS hown hzz hnn
         go_wp2_with fail
         go_meet
         exact ⟨Ay, kAy, q + 1 + (k - q), rfl, HNN, HJ, HSE⟩
        ·
         go_simp
         obtain ⟨x2, hwn⟩ : ∃ z, x1.alloc (.cells #[.int .i64 x] 3) = z := ⟨_, rfl⟩
         have hbn : Below x1.heap.size x1 x2 := by rw [← hwn]; exact mx_al _ _
         have hnn := mx_src x1 3 [.int .i64 x]
         rw [show ([.int .i64 x] : List Value).toArray = #[.int .i64 x] from rfl, hwn] at hnn
         have hsz : x2.heap.size = x1.heap.size + 1 := by rw [← hwn]; simp
         rw [hwn]
         have HZx2 := Lib.hid hsz
         have HN := Lib.hid hnn
         have HO1 := Lib.hid (own_below HO.out hbn)
         clear HO
         have HO := HO1
         clear HO1
         have hSN := hS.trans (hbn.mono hS.size)
         clear hbn hnn hwn hsz
         refine hK.out _ _ hSN (fun _ => ?_)
         clear hK hS
         have hS := hSN
         clear hSN
         refine ready1 4 (fun K hK => ?_)
         rw [if_pos (by rfl)]
         refine wp_append_any_at 37 (by rfl) _ _ 36 rfl wr.heap.size 3 i0 (.int .i64 0) 1 8 Tryz.underlying36 hi0 hi1 hi2 hi3 rfl (by decide) _ (0) _ (by rfl) HO.out (.slice (some ⟨go, 0, none⟩) q co) (q) ((out.map (Value.int .i64)).take q) (by rfl) (HT1.out.below hS) (by rw [List.length_take, List.length_map]; omega) (by intro u hu; obtain ⟨z, _, rfl⟩ := List.mem_map.1 (List.mem_of_mem_take hu); rfl) (by unfold maxLen; omega) (by omega) hS.size ?_
         intro v' x3 hown hgrow hat
         rw [Nat.zero_add, List.nil_append] at hown
         obtain ⟨Aw, kAw, rfl, _⟩ := mx_slice hown
         have hSN := hS.grown hgrow hS.size (fun g hg => (own_lt HO.out g hg).1)
         have HN1 := Lib.hid (src_grown' HN.out hgrow (by have := HZx1.out; simp [Value.ownBlock]; omega))
         clear HN
         have HN := HN1
         clear HN1
         have HO1 := Lib.hid hown
         clear HO
         have HO := HO1
         clear HO1 hown hgrow hat
         refine hK.out _ _ hSN (fun _ => ?_)
         clear hK hS
         have hS := hSN
         clear hSN
         refine ready1 10 (fun K hK => ?_)
         rw [if_pos (by rfl)]
         refine wp_append_any_at 43 (by rfl) _ _ 36 rfl wr.heap.size 3 i0 (.int .i64 0) 1 8 Tryz.underlying36 hi0 hi1 hi2 hi3 rfl (by decide) _ (q) _ (by rfl) HO.out (.slice (some ⟨x1.heap.size, 0, none⟩) 1 1) (1) [.int .i64 x] (by rfl) HN.out rfl (by simp [Value.oneCell']) (by unfold maxLen; omega) (by omega) hS.size ?_
         intro v' x4 hown hgrow hat
         obtain ⟨Ax, kAx, rfl, _⟩ := mx_slice hown
         have hSN := hS.grown hgrow hS.size (fun g hg => (own_lt HO.out g hg).1)
         have HO1 := Lib.hid hown
         clear HO
         have HO := HO1
         clear HO1 hown hgrow hat
         refine hK.out _ _ hSN (fun _ => ?_)
         clear hK hS
         have hS := hSN
         clear hSN
         refine ready1 14 (fun K hK => ?_)
         rw [if_pos (by rfl)]
         refine wp_append_any_at 47 (by rfl) _ _ 36 rfl wr.heap.size 3 i0 (.int .i64 0) 1 8 Tryz.underlying36 hi0 hi1 hi2 hi3 rfl (by decide) _ (q + 1) _ (by rfl) HO.out (.slice (some Ad) (k - q) (co - q)) ((k - q)) ((out.map (Value.int .i64)).drop q) (by rfl) (HT3.out.below hS) (by rw [List.length_drop, List.length_map]; omega) (by intro u hu; obtain ⟨z, _, rfl⟩ := List.mem_map.1 (List.mem_of_mem_drop hu); rfl) (by unfold maxLen; omega) (by omega) hS.size ?_
         intro v' x5 hown hgrow hat
         obtain ⟨Ay, kAy, rfl, _⟩ := mx_slice hown
         have hSN := hS.grown hgrow hS.size (fun g hg => (own_lt HO.out g hg).1)
         have HO1 := Lib.hid hown
         clear HO
         have HO := HO1
         clear HO1 hown hgrow hat
         refine hK.out _ _ hSN (fun _ => ?_)
         clear hK hS
         have hS := hSN
         clear hSN
         refine takeE 15 5 ?_
         refine wpAnyH_done (by kernel_rfl) ?_ _
         have hzz : (out.map (Value.int .i64)).take q ++ [.int .i64 x] ++ (out.map (Value.int .i64)).drop q = (out.take q ++ [x] ++ out.drop q).map (Value.int .i64) := by simp
         have hnn : q + 1 + (k - q) = (out.take q ++ [x] ++ out.drop q).length := by simp; omega
         have hown := own_mono HO.out (show w.heap.size ≤ wr.heap.size from hzwr)
         rw [hzz] at hown
         have HJ := Lib.hid hown
         have HNN := Lib.hid hnn
         have HSE := Lib.hid hS
         clear hS hown hzz hnn
         go_wp2_with fail
         go_meet
         exact ⟨Ay, kAy, q + 1 + (k - q), rfl, HNN, HJ, HSE⟩
       ·
        go_simp
        obtain ⟨x1, hwn⟩ : ∃ z, x0.alloc (.cells #[.int .i64 x] 3) = z := ⟨_, rfl⟩
        have hbn : Below x0.heap.size x0 x1 := by rw [← hwn]; exact mx_al _ _
        have hnn := mx_src x0 3 [.int .i64 x]
        rw [show ([.int .i64 x] : List Value).toArray = #[.int .i64 x] from rfl, hwn] at hnn
        have hsz : x1.heap.size = x0.heap.size + 1 := by rw [← hwn]; simp
        rw [hwn]
        have HZx1 := Lib.hid hsz
        have HN := Lib.hid hnn
        have hSN := hS.trans (hbn.mono hS.size)
        clear hbn hnn hwn hsz
        refine hK.out _ _ hSN (fun _ => ?_)
        clear hK hS
        have hS := hSN
        clear hSN
        refine ready1 0 (fun K hK => ?_)
        go_simp
        obtain ⟨x2, hwn⟩ : ∃ z, x1.alloc (.cells #[] 3) = z := ⟨_, rfl⟩
        have hbn : Below x1.heap.size x1 x2 := by rw [← hwn]; exact mx_al _ _
        have hon := own_none x1 wr.heap.size 3 1 hS.size
        have hsz : x2.heap.size = x1.heap.size + 1 := by rw [← hwn]; simp
        rw [hwn] at hon
        rw [hwn]
        have HZx2 := Lib.hid hsz
        have HO := Lib.hid hon
        have HN1 := Lib.hid (HN.out.below hbn)
        clear HN
        have HN := HN1
        clear HN1
        have hSN := hS.trans (hbn.mono hS.size)
        clear hbn hon hwn hsz
        refine hK.out _ _ hSN (fun _ => ?_)
        clear hK hS
        have hS := hSN
        clear hSN
        refine ready1 4 (fun K hK => ?_)
        rw [if_pos (by rfl)]
        refine wp_append_any_at 37 (by rfl) _ _ 36 rfl wr.heap.size 3 i0 (.int .i64 0) 1 8 Tryz.underlying36 hi0 hi1 hi2 hi3 rfl (by decide) _ (0) _ (by rfl) HO.out (.slice (some ⟨go, 0, none⟩) q co) (q) ((out.map (Value.int .i64)).take q) (by rfl) (HT1.out.below hS) (by rw [List.length_take, List.length_map]; omega) (by intro u hu; obtain ⟨z, _, rfl⟩ := List.mem_map.1 (List.mem_of_mem_take hu); rfl) (by unfold maxLen; omega) (by omega) hS.size ?_
        intro v' x3 hown hgrow hat
        rw [Nat.zero_add, List.nil_append] at hown
        obtain ⟨Aw, kAw, rfl, _⟩ := mx_slice hown
        have hSN := hS.grown hgrow hS.size (fun g hg => (own_lt HO.out g hg).1)
        have HN1 := Lib.hid (src_grown' HN.out hgrow (by have := HZx1.out; simp [Value.ownBlock]; omega))
        clear HN
        have HN := HN1
        clear HN1
        have HO1 := Lib.hid hown
        clear HO
        have HO := HO1
        clear HO1 hown hgrow hat
        refine hK.out _ _ hSN (fun _ => ?_)
        clear hK hS
        have hS := hSN
        clear hSN
        refine ready1 10 (fun K hK => ?_)
        rw [if_pos (by rfl)]
        refine wp_append_any_at 43 (by rfl) _ _ 36 rfl wr.heap.size 3 i0 (.int .i64 0) 1 8 Tryz.underlying36 hi0 hi1 hi2 hi3 rfl (by decide) _ (q) _ (by rfl) HO.out (.slice (some ⟨x0.heap.size, 0, none⟩) 1 1) (1) [.int .i64 x] (by rfl) HN.out rfl (by simp [Value.oneCell']) (by unfold maxLen; omega) (by omega) hS.size ?_
        intro v' x4 hown hgrow hat
        obtain ⟨Ax, kAx, rfl, _⟩ := mx_slice hown
        have hSN := hS.grown hgrow hS.size (fun g hg => (own_lt HO.out g hg).1)
        have HO1 := Lib.hid hown
        clear HO
        have HO := HO1
        clear HO1 hown hgrow hat
        refine hK.out _ _ hSN (fun _ => ?_)
        clear hK hS
        have hS := hSN
        clear hSN
        refine ready1 14 (fun K hK => ?_)
        rw [if_pos (by rfl)]
        refine wp_append_any_at 47 (by rfl) _ _ 36 rfl wr.heap.size 3 i0 (.int .i64 0) 1 8 Tryz.underlying36 hi0 hi1 hi2 hi3 rfl (by decide) _ (q + 1) _ (by rfl) HO.out (.slice (some Ad) (k - q) (co - q)) ((k - q)) ((out.map (Value.int .i64)).drop q) (by rfl) (HT3.out.below hS) (by rw [List.length_drop, List.length_map]; omega) (by intro u hu; obtain ⟨z, _, rfl⟩ := List.mem_map.1 (List.mem_of_mem_drop hu); rfl) (by unfold maxLen; omega) (by omega) hS.size ?_
        intro v' x5 hown hgrow hat
        obtain ⟨Ay, kAy, rfl, _⟩ := mx_slice hown
        have hSN := hS.grown hgrow hS.size (fun g hg => (own_lt HO.out g hg).1)
        have HO1 := Lib.hid hown
        clear HO
        have HO := HO1
        clear HO1 hown hgrow hat
        refine hK.out _ _ hSN (fun _ => ?_)
        clear hK hS
        have hS := hSN
        clear hSN
        refine takeE 15 5 ?_
        refine wpAnyH_done (by kernel_rfl) ?_ _
        have hzz : (out.map (Value.int .i64)).take q ++ [.int .i64 x] ++ (out.map (Value.int .i64)).drop q = (out.take q ++ [x] ++ out.drop q).map (Value.int .i64) := by simp
        have hnn : q + 1 + (k - q) = (out.take q ++ [x] ++ out.drop q).length := by simp; omega
        have hown := own_mono HO.out (show w.heap.size ≤ wr.heap.size from hzwr)
        rw [hzz] at hown
        have HJ := Lib.hid hown
        have HNN := Lib.hid hnn
        have HSE := Lib.hid hS
        clear hS hown hzz hnn
        go_wp2_with fail
        go_meet
        exact ⟨Ay, kAy, q + 1 + (k - q), rfl, HNN, HJ, HSE⟩
      case rest =>
       obtain ⟨Az, kz, n8, rfl, HN8, HR8, HB8⟩ := hcut
       have HWC := Lib.hid (HWR.out.trans (HB8.out.mono HWR.out.size))
       have hzwc := HWC.out.size
       have HA8 := Lib.hid (own_below HA1.out HB8.out)
       go_upto_region 9 with fail
       have HT1 := Lib.hid (src_take (k := q) HA8.out)
       obtain ⟨Ad, hAd⟩ := ad_any ca q ga
       have hqo : q ≤ ca := by omega
       have HT3 := Lib.hid (src_drop2 (m := k - q) (c' := ca - q) HA8.out (by omega) hAd)
       obtain ⟨x0, hx0⟩ : ∃ x, (wc).drew = x := ⟨_, rfl⟩
       have hS0 := mx_drew wc
       rw [hx0] at hS0
       refine wp_region_held_drew (S := fun w' => Below wc.heap.size wc w') (by kernel_rfl) (by rw [hx0]; exact hS0) (fun hS => ?_)
       rw [hx0] at hS ⊢
       clear hS0 hx0
       refine takeE 1 49 ?_
       refine takeE 2 50 ?_
       refine takeE 3 51 ?_
       refine takeE 5 53 ?_
       refine takeE 6 54 ?_
       refine takeE 7 55 ?_
       refine takeD 8 56 (v := ?_) rfl (by rfl) (by kernel_rfl) (by kernel_rfl) (by kernel_rfl) (fun _ _ _ h => h) (Or.inl ⟨by rfl, ?_⟩) (by assumption) ?_
       rotate_left
       ·
        intro wq hSw
        have hSz := HWC.out.trans (hSw.mono HWC.out.size)
        have k0 := (hSz.cell (p := ⟨g4, o4 + k, none⟩) hg4).trans F1.out
        clear hSw
        go_simp
        try with_reducible rfl
       simp only [Act.put, List.setIfInBounds_toArray, List.set_cons_zero, List.set_cons_succ]
       refine takeE 11 59 ?_
       refine takeE 12 60 ?_
       refine takeE 13 61 ?_
       refine wpAnyH_ready (rs := [0, 9]) (by kernel_rfl) (by simp) ?_
       refine AllReadyH.cons rfl (fun K hK => ?_) (AllReadyH.cons rfl (fun K hK => ?_) AllReadyH.nil)
       ·
        go_simp
        obtain ⟨x1, hwn⟩ : ∃ z, x0.alloc (.cells #[] 3) = z := ⟨_, rfl⟩
        have hbn : Below x0.heap.size x0 x1 := by rw [← hwn]; exact mx_al _ _
        have hon := own_none x0 wc.heap.size 3 1 hS.size
        have hsz : x1.heap.size = x0.heap.size + 1 := by rw [← hwn]; simp
        rw [hwn] at hon
        rw [hwn]
        have HZx1 := Lib.hid hsz
        have HO := Lib.hid hon
        have hSN := hS.trans (hbn.mono hS.size)
        clear hbn hon hwn hsz
        refine hK.out _ _ hSN (fun _ => ?_)
        clear hK hS
        have hS := hSN
        clear hSN
        refine wpAnyH_ready (rs := [4, 9]) (by kernel_rfl) (by simp) ?_
        refine AllReadyH.cons rfl (fun K hK => ?_) (AllReadyH.cons rfl (fun K hK => ?_) AllReadyH.nil)
        ·
         rw [if_pos (by rfl)]
         refine wp_append_any_at 52 (by rfl) _ _ 36 rfl wc.heap.size 3 i0 (.int .i64 0) 1 8 Tryz.underlying36 hi0 hi1 hi2 hi3 rfl (by decide) _ (0) _ (by rfl) HO.out (.slice (some ⟨ga, 0, none⟩) q ca) (q) ((at_.map (Value.int .i64)).take q) (by rfl) (HT1.out.below hS) (by rw [List.length_take, List.length_map]; omega) (by intro u hu; obtain ⟨z, _, rfl⟩ := List.mem_map.1 (List.mem_of_mem_take hu); rfl) (by unfold maxLen; omega) (by omega) hS.size ?_
         intro v' x2 hown hgrow hat
         rw [Nat.zero_add, List.nil_append] at hown
         obtain ⟨Aw, kAw, rfl, _⟩ := mx_slice hown
         have hSN := hS.grown hgrow hS.size (fun g hg => (own_lt HO.out g hg).1)
         have HO1 := Lib.hid hown
         clear HO
         have HO := HO1
         clear HO1 hown hgrow hat
         refine hK.out _ _ hSN (fun _ => ?_)
         clear hK hS
         have hS := hSN
         clear hSN
         refine ready1 9 (fun K hK => ?_)
         go_simp
         obtain ⟨x3, hwn⟩ : ∃ z, x2.alloc (.cells #[.int .i64 y] 3) = z := ⟨_, rfl⟩
         have hbn : Below x2.heap.size x2 x3 := by rw [← hwn]; exact mx_al _ _
         have hnn := mx_src x2 3 [.int .i64 y]
         rw [show ([.int .i64 y] : List Value).toArray = #[.int .i64 y] from rfl, hwn] at hnn
         have hsz : x3.heap.size = x2.heap.size + 1 := by rw [← hwn]; simp
         rw [hwn]
         have HZx3 := Lib.hid hsz
         have HN := Lib.hid hnn
         have HO1 := Lib.hid (own_below HO.out hbn)
         clear HO
         have HO := HO1
         clear HO1
         have hSN := hS.trans (hbn.mono hS.size)
         clear hbn hnn hwn hsz
         refine hK.out _ _ hSN (fun _ => ?_)
         clear hK hS
         have hS := hSN
         clear hSN
         refine ready1 10 (fun K hK => ?_)
         rw [if_pos (by rfl)]
         refine wp_append_any_at 58 (by rfl) _ _ 36 rfl wc.heap.size 3 i0 (.int .i64 0) 1 8 Tryz.underlying36 hi0 hi1 hi2 hi3 rfl (by decide) _ (q) _ (by rfl) HO.out (.slice (some ⟨x2.heap.size, 0, none⟩) 1 1) (1) [.int .i64 y] (by rfl) HN.out rfl (by simp [Value.oneCell']) (by unfold maxLen; omega) (by omega) hS.size ?_
         intro v' x4 hown hgrow hat
         obtain ⟨Ax, kAx, rfl, _⟩ := mx_slice hown
         have hSN := hS.grown hgrow hS.size (fun g hg => (own_lt HO.out g hg).1)
         have HO1 := Lib.hid hown
         clear HO
         have HO := HO1
         clear HO1 hown hgrow hat
         refine hK.out _ _ hSN (fun _ => ?_)
         clear hK hS
         have hS := hSN
         clear hSN
         refine ready1 14 (fun K hK => ?_)
         rw [if_pos (by rfl)]
         refine wp_append_any_at 62 (by rfl) _ _ 36 rfl wc.heap.size 3 i0 (.int .i64 0) 1 8 Tryz.underlying36 hi0 hi1 hi2 hi3 rfl (by decide) _ (q + 1) _ (by rfl) HO.out (.slice (some Ad) (k - q) (ca - q)) ((k - q)) ((at_.map (Value.int .i64)).drop q) (by rfl) (HT3.out.below hS) (by rw [List.length_drop, List.length_map]; omega) (by intro u hu; obtain ⟨z, _, rfl⟩ := List.mem_map.1 (List.mem_of_mem_drop hu); rfl) (by unfold maxLen; omega) (by omega) hS.size ?_
         intro v' x5 hown hgrow hat
         obtain ⟨Ay, kAy, rfl, _⟩ := mx_slice hown
         have hSN := hS.grown hgrow hS.size (fun g hg => (own_lt HO.out g hg).1)
         have HO1 := Lib.hid hown
         clear HO
         have HO := HO1
         clear HO1 hown hgrow hat
         refine hK.out _ _ hSN (fun _ => ?_)
         clear hK hS
         have hS := hSN
         clear hSN
         refine takeE 15 6 ?_
         refine wpAnyH_done (by kernel_rfl) ?_ _
         have hzz : (at_.map (Value.int .i64)).take q ++ [.int .i64 y] ++ (at_.map (Value.int .i64)).drop q = (at_.take q ++ [y] ++ at_.drop q).map (Value.int .i64) := by simp
         have hnn : q + 1 + (k - q) = (at_.take q ++ [y] ++ at_.drop q).length := by simp; omega
         have hown := own_mono HO.out (show w.heap.size ≤ wc.heap.size from hzwc)
         have HJ := Lib.hid (row_fin hown hzz hnn)
         have H8 := Lib.hid (row_fin (own_below HR8.out hS) rfl HN8.out)
         have HSE := Lib.hid (HWC.out.trans (hS.mono HWC.out.size))
         have hnl : (out.take q ++ [x] ++ out.drop q).length = k + 1 := by simp; omega
         have hnl2 : (at_.take q ++ [y] ++ at_.drop q).length = k + 1 := by simp; omega
         clear hS hown hzz hnn
         go_wp2_with fail
         go_roundw
         case rel => exact ⟨k + 1, _, _, by omega, hnl, hnl2, by go_num, HNQ, H8, HJ, HSE, fun h => absurd h (by omega)⟩
         case measure => simp [intOf]; omega
        ·
         go_simp
         obtain ⟨x2, hwn⟩ : ∃ z, x1.alloc (.cells #[.int .i64 y] 3) = z := ⟨_, rfl⟩
         have hbn : Below x1.heap.size x1 x2 := by rw [← hwn]; exact mx_al _ _
         have hnn := mx_src x1 3 [.int .i64 y]
         rw [show ([.int .i64 y] : List Value).toArray = #[.int .i64 y] from rfl, hwn] at hnn
         have hsz : x2.heap.size = x1.heap.size + 1 := by rw [← hwn]; simp
         rw [hwn]
         have HZx2 := Lib.hid hsz
         have HN := Lib.hid hnn
         have HO1 := Lib.hid (own_below HO.out hbn)
         clear HO
         have HO := HO1
         clear HO1
         have hSN := hS.trans (hbn.mono hS.size)
         clear hbn hnn hwn hsz
         refine hK.out _ _ hSN (fun _ => ?_)
         clear hK hS
         have hS := hSN
         clear hSN
         refine ready1 4 (fun K hK => ?_)
         rw [if_pos (by rfl)]
         refine wp_append_any_at 52 (by rfl) _ _ 36 rfl wc.heap.size 3 i0 (.int .i64 0) 1 8 Tryz.underlying36 hi0 hi1 hi2 hi3 rfl (by decide) _ (0) _ (by rfl) HO.out (.slice (some ⟨ga, 0, none⟩) q ca) (q) ((at_.map (Value.int .i64)).take q) (by rfl) (HT1.out.below hS) (by rw [List.length_take, List.length_map]; omega) (by intro u hu; obtain ⟨z, _, rfl⟩ := List.mem_map.1 (List.mem_of_mem_take hu); rfl) (by unfold maxLen; omega) (by omega) hS.size ?_
         intro v' x3 hown hgrow hat
         rw [Nat.zero_add, List.nil_append] at hown
         obtain ⟨Aw, kAw, rfl, _⟩ := mx_slice hown
         have hSN := hS.grown hgrow hS.size (fun g hg => (own_lt HO.out g hg).1)
         have HN1 := Lib.hid (src_grown' HN.out hgrow (by have := HZx1.out; simp [Value.ownBlock]; omega))
         clear HN
         have HN := HN1
         clear HN1
         have HO1 := Lib.hid hown
         clear HO
         have HO := HO1
         clear HO1 hown hgrow hat
         refine hK.out _ _ hSN (fun _ => ?_)
         clear hK hS
         have hS := hSN
         clear hSN
         refine ready1 10 (fun K hK => ?_)
         rw [if_pos (by rfl)]
         refine wp_append_any_at 58 (by rfl) _ _ 36 rfl wc.heap.size 3 i0 (.int .i64 0) 1 8 Tryz.underlying36 hi0 hi1 hi2 hi3 rfl (by decide) _ (q) _ (by rfl) HO.out (.slice (some ⟨x1.heap.size, 0, none⟩) 1 1) (1) [.int .i64 y] (by rfl) HN.out rfl (by simp [Value.oneCell']) (by unfold maxLen; omega) (by omega) hS.size ?_
         intro v' x4 hown hgrow hat
         obtain ⟨Ax, kAx, rfl, _⟩ := mx_slice hown
         have hSN := hS.grown hgrow hS.size (fun g hg => (own_lt HO.out g hg).1)
         have HO1 := Lib.hid hown
         clear HO
         have HO := HO1
         clear HO1 hown hgrow hat
         refine hK.out _ _ hSN (fun _ => ?_)
         clear hK hS
         have hS := hSN
         clear hSN
         refine ready1 14 (fun K hK => ?_)
         rw [if_pos (by rfl)]
         refine wp_append_any_at 62 (by rfl) _ _ 36 rfl wc.heap.size 3 i0 (.int .i64 0) 1 8 Tryz.underlying36 hi0 hi1 hi2 hi3 rfl (by decide) _ (q + 1) _ (by rfl) HO.out (.slice (some Ad) (k - q) (ca - q)) ((k - q)) ((at_.map (Value.int .i64)).drop q) (by rfl) (HT3.out.below hS) (by rw [List.length_drop, List.length_map]; omega) (by intro u hu; obtain ⟨z, _, rfl⟩ := List.mem_map.1 (List.mem_of_mem_drop hu); rfl) (by unfold maxLen; omega) (by omega) hS.size ?_
         intro v' x5 hown hgrow hat
         obtain ⟨Ay, kAy, rfl, _⟩ := mx_slice hown
         have hSN := hS.grown hgrow hS.size (fun g hg => (own_lt HO.out g hg).1)
         have HO1 := Lib.hid hown
         clear HO
         have HO := HO1
         clear HO1 hown hgrow hat
         refine hK.out _ _ hSN (fun _ => ?_)
         clear hK hS
         have hS := hSN
         clear hSN
         refine takeE 15 6 ?_
         refine wpAnyH_done (by kernel_rfl) ?_ _
         have hzz : (at_.map (Value.int .i64)).take q ++ [.int .i64 y] ++ (at_.map (Value.int .i64)).drop q = (at_.take q ++ [y] ++ at_.drop q).map (Value.int .i64) := by simp
         have hnn : q + 1 + (k - q) = (at_.take q ++ [y] ++ at_.drop q).length := by simp; omega
         have hown := own_mono HO.out (show w.heap.size ≤ wc.heap.size from hzwc)
         have HJ := Lib.hid (row_fin hown hzz hnn)
         have H8 := Lib.hid (row_fin (own_below HR8.out hS) rfl HN8.out)
         have HSE := Lib.hid (HWC.out.trans (hS.mono HWC.out.size))
         have hnl : (out.take q ++ [x] ++ out.drop q).length = k + 1 := by simp; omega
         have hnl2 : (at_.take q ++ [y] ++ at_.drop q).length = k + 1 := by simp; omega
         clear hS hown hzz hnn
         go_wp2_with fail
         go_roundw
         case rel => exact ⟨k + 1, _, _, by omega, hnl, hnl2, by go_num, HNQ, H8, HJ, HSE, fun h => absurd h (by omega)⟩
         case measure => simp [intOf]; omega
       ·
        go_simp
        obtain ⟨x1, hwn⟩ : ∃ z, x0.alloc (.cells #[.int .i64 y] 3) = z := ⟨_, rfl⟩
        have hbn : Below x0.heap.size x0 x1 := by rw [← hwn]; exact mx_al _ _
        have hnn := mx_src x0 3 [.int .i64 y]
        rw [show ([.int .i64 y] : List Value).toArray = #[.int .i64 y] from rfl, hwn] at hnn
        have hsz : x1.heap.size = x0.heap.size + 1 := by rw [← hwn]; simp
        rw [hwn]
        have HZx1 := Lib.hid hsz
        have HN := Lib.hid hnn
        have hSN := hS.trans (hbn.mono hS.size)
        clear hbn hnn hwn hsz
        refine hK.out _ _ hSN (fun _ => ?_)
        clear hK hS
        have hS := hSN
        clear hSN
        refine ready1 0 (fun K hK => ?_)
        go_simp
        obtain ⟨x2, hwn⟩ : ∃ z, x1.alloc (.cells #[] 3) = z := ⟨_, rfl⟩
        have hbn : Below x1.heap.size x1 x2 := by rw [← hwn]; exact mx_al _ _
        have hon := own_none x1 wc.heap.size 3 1 hS.size
        have hsz : x2.heap.size = x1.heap.size + 1 := by rw [← hwn]; simp
        rw [hwn] at hon
        rw [hwn]
        have HZx2 := Lib.hid hsz
        have HO := Lib.hid hon
        have HN1 := Lib.hid (HN.out.below hbn)
        clear HN
        have HN := HN1
        clear HN1
        have hSN := hS.trans (hbn.mono hS.size)
        clear hbn hon hwn hsz
        refine hK.out _ _ hSN (fun _ => ?_)
        clear hK hS
        have hS := hSN
        clear hSN
        refine ready1 4 (fun K hK => ?_)
        rw [if_pos (by rfl)]
        refine wp_append_any_at 52 (by rfl) _ _ 36 rfl wc.heap.size 3 i0 (.int .i64 0) 1 8 Tryz.underlying36 hi0 hi1 hi2 hi3 rfl (by decide) _ (0) _ (by rfl) HO.out (.slice (some ⟨ga, 0, none⟩) q ca) (q) ((at_.map (Value.int .i64)).take q) (by rfl) (HT1.out.below hS) (by rw [List.length_take, List.length_map]; omega) (by intro u hu; obtain ⟨z, _, rfl⟩ := List.mem_map.1 (List.mem_of_mem_take hu); rfl) (by unfold maxLen; omega) (by omega) hS.size ?_
        intro v' x3 hown hgrow hat
        rw [Nat.zero_add, List.nil_append] at hown
        obtain ⟨Aw, kAw, rfl, _⟩ := mx_slice hown
        have hSN := hS.grown hgrow hS.size (fun g hg => (own_lt HO.out g hg).1)
        have HN1 := Lib.hid (src_grown' HN.out hgrow (by have := HZx1.out; simp [Value.ownBlock]; omega))
        clear HN
        have HN := HN1
        clear HN1
        have HO1 := Lib.hid hown
        clear HO
        have HO := HO1
        clear HO1 hown hgrow hat
        refine hK.out _ _ hSN (fun _ => ?_)
        clear hK hS
        have hS := hSN
        clear hSN
        refine ready1 10 (fun K hK => ?_)
        rw [if_pos (by rfl)]
        refine wp_append_any_at 58 (by rfl) _ _ 36 rfl wc.heap.size 3 i0 (.int .i64 0) 1 8 Tryz.underlying36 hi0 hi1 hi2 hi3 rfl (by decide) _ (q) _ (by rfl) HO.out (.slice (some ⟨x0.heap.size, 0, none⟩) 1 1) (1) [.int .i64 y] (by rfl) HN.out rfl (by simp [Value.oneCell']) (by unfold maxLen; omega) (by omega) hS.size ?_
        intro v' x4 hown hgrow hat
        obtain ⟨Ax, kAx, rfl, _⟩ := mx_slice hown
        have hSN := hS.grown hgrow hS.size (fun g hg => (own_lt HO.out g hg).1)
        have HO1 := Lib.hid hown
        clear HO
        have HO := HO1
        clear HO1 hown hgrow hat
        refine hK.out _ _ hSN (fun _ => ?_)
        clear hK hS
        have hS := hSN
        clear hSN
        refine ready1 14 (fun K hK => ?_)
        rw [if_pos (by rfl)]
        refine wp_append_any_at 62 (by rfl) _ _ 36 rfl wc.heap.size 3 i0 (.int .i64 0) 1 8 Tryz.underlying36 hi0 hi1 hi2 hi3 rfl (by decide) _ (q + 1) _ (by rfl) HO.out (.slice (some Ad) (k - q) (ca - q)) ((k - q)) ((at_.map (Value.int .i64)).drop q) (by rfl) (HT3.out.below hS) (by rw [List.length_drop, List.length_map]; omega) (by intro u hu; obtain ⟨z, _, rfl⟩ := List.mem_map.1 (List.mem_of_mem_drop hu); rfl) (by unfold maxLen; omega) (by omega) hS.size ?_
        intro v' x5 hown hgrow hat
        obtain ⟨Ay, kAy, rfl, _⟩ := mx_slice hown
        have hSN := hS.grown hgrow hS.size (fun g hg => (own_lt HO.out g hg).1)
        have HO1 := Lib.hid hown
        clear HO
        have HO := HO1
        clear HO1 hown hgrow hat
        refine hK.out _ _ hSN (fun _ => ?_)
        clear hK hS
        have hS := hSN
        clear hSN
        refine takeE 15 6 ?_
        refine wpAnyH_done (by kernel_rfl) ?_ _
        have hzz : (at_.map (Value.int .i64)).take q ++ [.int .i64 y] ++ (at_.map (Value.int .i64)).drop q = (at_.take q ++ [y] ++ at_.drop q).map (Value.int .i64) := by simp
        have hnn : q + 1 + (k - q) = (at_.take q ++ [y] ++ at_.drop q).length := by simp; omega
        have hown := own_mono HO.out (show w.heap.size ≤ wc.heap.size from hzwc)
        have HJ := Lib.hid (row_fin hown hzz hnn)
        have H8 := Lib.hid (row_fin (own_below HR8.out hS) rfl HN8.out)
        have HSE := Lib.hid (HWC.out.trans (hS.mono HWC.out.size))
        have hnl : (out.take q ++ [x] ++ out.drop q).length = k + 1 := by simp; omega
        have hnl2 : (at_.take q ++ [y] ++ at_.drop q).length = k + 1 := by simp; omega
        clear hS hown hzz hnn
        go_wp2_with fail
        go_roundw
        case rel => exact ⟨k + 1, _, _, by omega, hnl, hnl2, by go_num, HNQ, H8, HJ, HSE, fun h => absurd h (by omega)⟩
        case measure => simp [intOf]; omega
     ·
      obtain ⟨s, hs⟩ : ∃ s, q = s + 1 := ⟨q - 1, by omega⟩
      have hsk : s < k := by omega
      obtain ⟨z, hz⟩ := getElem_of (l := at_) (i := s) (by omega)
      have a0 := (HW2.out.cell (p := ⟨ga, s, none⟩) hga).trans (mx_at HA.out (by rw [List.getElem?_map, hz]; rfl) : wo.cell? ⟨ga, s, none⟩ = some (.int .i64 z))
      have PA := Lib.hid a0
      have hgar := Nat.lt_of_lt_of_le hga HW2.out.size
      have hsc : s < ca := by omega
      have w1 : IntKind.i64.wrap ((q : Int) - 1) = (s : Int) := by rw [show (q : Int) - 1 = (s : Int) by omega]; exact IntWalk.i64_in _ (by omega)
      have q0 : decide ((0 : Int) < (q : Int)) = true := by simp; omega
      have q1 : decide (0 < q) = true := by simp; omega
      have HKS := Lib.hid (show rK at_ y q = if y < z then rK at_ y s else q from by rw [hs, show rK at_ y (s + 1) = if y < at_.getD s 0 then rK at_ y s else s + 1 from rfl, List.getD_eq_getElem?_getD, hz]; rfl)
      have HSQ := Lib.hid hs
      clear hz a0 hs
      by_cases hyz : y < z
      ·
       have q2 : decide (y < z) = true := by simpa using hyz
       have HK2 := Lib.hid (show rK at_ y k = rK at_ y s from by rw [HK.out, HKS.out, if_pos hyz])
       clear hyz
       go_upto_region 6 with fail
       refine wp_region_held_drew (S := fun w' => Below wr.heap.size wr w') (by kernel_rfl) (mx_drew wr) (fun hS => ?_)
       obtain ⟨wD, hwD⟩ : ∃ x, wr.drew = x := ⟨_, rfl⟩
       rw [hwD] at hS ⊢
       refine takeE 0 17 ?_
       refine takeE 1 18 ?_
       refine takeE 2 19 ?_
       refine takeE 3 20 ?_
       refine takeE 4 21 ?_
       refine takeE 5 22 ?_
       refine takeE 6 23 ?_
       refine takeF 7 24 (fun wq hSw => (hSw.cell (p := ⟨ga, s, none⟩) hgar).trans PA.out) ?_
       refine takeE 8 25 ?_
       refine takeE 9 26 ?_
       refine takeE 10 27 ?_
       refine takeD 11 28 (v := ?_) rfl (by rfl) (by kernel_rfl) (by kernel_rfl) (by kernel_rfl) (fun _ _ _ h => h) (Or.inl ⟨by rfl, ?_⟩) (by assumption) ?_
       rotate_left
       ·
        intro wq hSw
        have hSz := HWR.out.trans (hSw.mono HWR.out.size)
        have k0 := (hSz.cell (p := ⟨g4, o4 + k, none⟩) hg4).trans F1.out
        clear hSw
        go_simp
        try with_reducible rfl
       simp only [Act.put, List.setIfInBounds_toArray, List.set_cons_zero, List.set_cons_succ]
       refine takeE 12 29 ?_
       refine takeE 13 30 ?_
       refine wpAnyH_done (by kernel_rfl) ?_ _
       have HW3 := Lib.hid (HW2.out.trans (hS.mono HW2.out.size))
       have HWR3 := Lib.hid (HWR.out.trans (hS.mono HWR.out.size))
       have hS3 := hS
       clear hS
       go_wp2_with fail
       go_roundw
       case rel => exact ⟨s, by omega, rfl, HK2, HW3⟩
       case measure => have := HSQ.out; simp [intOf]; omega
      ·
       have q2 : decide (y < z) = false := by simpa using hyz
       have HQQ := Lib.hid (show rK at_ y q = q from by rw [HKS.out, if_neg hyz])
       clear hyz
       have HNQ := Lib.hid (show rSrt [] [] l ks = rSrt (out.take q ++ [x] ++ out.drop q) (at_.take q ++ [y] ++ at_.drop q) (l.drop (k + 1)) (ks.drop (k + 1)) from by have h := HN.out; rw [HK.out, HQQ.out] at h; exact h)
       go_upto_region 6 with fail
       refine wp_region_held_drew (S := fun w' => Below wr.heap.size wr w') (by kernel_rfl) (mx_drew wr) (fun hS => ?_)
       obtain ⟨wD, hwD⟩ : ∃ x, wr.drew = x := ⟨_, rfl⟩
       rw [hwD] at hS ⊢
       refine takeE 0 17 ?_
       refine takeE 1 18 ?_
       refine takeE 2 19 ?_
       refine takeE 3 20 ?_
       refine takeE 4 21 ?_
       refine takeE 5 22 ?_
       refine takeE 6 23 ?_
       refine takeF 7 24 (fun wq hSw => (hSw.cell (p := ⟨ga, s, none⟩) hgar).trans PA.out) ?_
       refine takeE 8 25 ?_
       refine takeE 9 26 ?_
       refine takeE 10 27 ?_
       refine takeD 11 28 (v := ?_) rfl (by rfl) (by kernel_rfl) (by kernel_rfl) (by kernel_rfl) (fun _ _ _ h => h) (Or.inl ⟨by rfl, ?_⟩) (by assumption) ?_
       rotate_left
       ·
        intro wq hSw
        have hSz := HWR.out.trans (hSw.mono HWR.out.size)
        have k0 := (hSz.cell (p := ⟨g4, o4 + k, none⟩) hg4).trans F1.out
        clear hSw
        go_simp
        try with_reducible rfl
       simp only [Act.put, List.setIfInBounds_toArray, List.set_cons_zero, List.set_cons_succ]
       refine takeE 12 29 ?_
       refine takeE 13 30 ?_
       refine wpAnyH_done (by kernel_rfl) ?_ _
       have HW3 := Lib.hid (HW2.out.trans (hS.mono HW2.out.size))
       have HWR3 := Lib.hid (HWR.out.trans (hS.mono HWR.out.size))
       have hS3 := hS
       clear hS
       clear HW2 HWR hzwr hwD
       obtain ⟨wr, rfl⟩ : ∃ x : World, x = wD := ⟨_, rfl⟩
       have HWR := HWR3
       have hzwr := HWR.out.size
       have HO1 := Lib.hid (own_below HO.out HW3.out)
       have HA1 := Lib.hid (own_below HA.out HW3.out)
       clear HW3 HWR3 hS3
       go_upto_region 8 with fail
       go_cut [5] (fun s wx => ∃ (Az : Option Addr) (kz n : Nat), s = .slice Az n kz ∧ Hid (n = (out.take q ++ [x] ++ out.drop q).length) ∧ Hid (wx.ownsRow w.heap.size 3 1 (.slice Az n kz) n ((out.take q ++ [x] ++ out.drop q).map (Value.int .i64))) ∧ Hid (Below wr.heap.size wr wx))
       case first =>
        have HT1 := Lib.hid (src_take (k := q) HO1.out)
        obtain ⟨Ad, hAd⟩ := ad_any co q go
        have hqo : q ≤ co := by omega
        have HT3 := Lib.hid (src_drop2 (m := k - q) (c' := co - q) HO1.out (by omega) hAd)
        obtain ⟨x0, hx0⟩ : ∃ x, (wr).drew = x := ⟨_, rfl⟩
        have hS0 := mx_drew wr
        rw [hx0] at hS0
        refine wp_region_held_drew (S := fun w' => Below wr.heap.size wr w') (by kernel_rfl) (by rw [hx0]; exact hS0) (fun hS => ?_)
        rw [hx0] at hS ⊢
        clear hS0 hx0
        refine takeE 1 34 ?_
        refine takeE 2 35 ?_
        refine takeE 3 36 ?_
        refine takeE 5 38 ?_
        refine takeE 6 39 ?_
        refine takeE 7 40 ?_
        refine takeD 8 41 (v := ?_) rfl (by rfl) (by kernel_rfl) (by kernel_rfl) (by kernel_rfl) (fun _ _ _ h => h) (Or.inl ⟨by rfl, ?_⟩) (by assumption) ?_
        rotate_left
        ·
         intro wq hSw
         have hSz := HWR.out.trans (hSw.mono HWR.out.size)
         have k0 := (hSz.cell (p := ⟨g3, o3 + k, none⟩) hg3).trans F0.out
         clear hSw
         go_simp
         try with_reducible rfl
        simp only [Act.put, List.setIfInBounds_toArray, List.set_cons_zero, List.set_cons_succ]
        refine takeE 11 44 ?_
        refine takeE 12 45 ?_
        refine takeE 13 46 ?_
        refine wpAnyH_ready (rs := [0, 9]) (by kernel_rfl) (by simp) ?_
        refine AllReadyH.cons rfl (fun K hK => ?_) (AllReadyH.cons rfl (fun K hK => ?_) AllReadyH.nil)
        ·
         go_simp
         obtain ⟨x1, hwn⟩ : ∃ z, x0.alloc (.cells #[] 3) = z := ⟨_, rfl⟩
         have hbn : Below x0.heap.size x0 x1 := by rw [← hwn]; exact mx_al _ _
         have hon := own_none x0 wr.heap.size 3 1 hS.size
         have hsz : x1.heap.size = x0.heap.size + 1 := by rw [← hwn]; simp
         rw [hwn] at hon
         rw [hwn]
         have HZx1 := Lib.hid hsz
         have HO := Lib.hid hon
         have hSN := hS.trans (hbn.mono hS.size)
         clear hbn hon hwn hsz
         refine hK.out _ _ hSN (fun _ => ?_)
         clear hK hS
         have hS := hSN
         clear hSN
         refine wpAnyH_ready (rs := [4, 9]) (by kernel_rfl) (by simp) ?_
         refine AllReadyH.cons rfl (fun K hK => ?_) (AllReadyH.cons rfl (fun K hK => ?_) AllReadyH.nil)
         ·
          rw [if_pos (by rfl)]
          refine wp_append_any_at 37 (by rfl) _ _ 36 rfl wr.heap.size 3 i0 (.int .i64 0) 1 8 Tryz.underlying36 hi0 hi1 hi2 hi3 rfl (by decide) _ (0) _ (by rfl) HO.out (.slice (some ⟨go, 0, none⟩) q co) (q) ((out.map (Value.int .i64)).take q) (by rfl) (HT1.out.below hS) (by rw [List.length_take, List.length_map]; omega) (by intro u hu; obtain ⟨z, _, rfl⟩ := List.mem_map.1 (List.mem_of_mem_take hu); rfl) (by unfold maxLen; omega) (by omega) hS.size ?_
          intro v' x2 hown hgrow hat
          rw [Nat.zero_add, List.nil_append] at hown
          obtain ⟨Aw, kAw, rfl, _⟩ := mx_slice hown
          have hSN := hS.grown hgrow hS.size (fun g hg => (own_lt HO.out g hg).1)
          have HO1 := Lib.hid hown
          clear HO
          have HO := HO1
          clear HO1 hown hgrow hat
          refine hK.out _ _ hSN (fun _ => ?_)
          clear hK hS
          have hS := hSN
          clear hSN
          refine ready1 9 (fun K hK => ?_)
          go_simp
          obtain ⟨x3, hwn⟩ : ∃ z, x2.alloc (.cells #[.int .i64 x] 3) = z := ⟨_, rfl⟩
          have hbn : Below x2.heap.size x2 x3 := by rw [← hwn]; exact mx_al _ _
          have hnn := mx_src x2 3 [.int .i64 x]
          rw [show ([.int .i64 x] : List Value).toArray = #[.int .i64 x] from rfl, hwn] at hnn
          have hsz : x3.heap.size = x2.heap.size + 1 := by rw [← hwn]; simp
          rw [hwn]
          have HZx3 := Lib.hid hsz
          have HN := Lib.hid hnn
          have HO1 := Lib.hid (own_below HO.out hbn)
          clear HO
          have HO := HO1
          clear HO1
          have hSN := hS.trans (hbn.mono hS.size)
          clear hbn hnn hwn hsz
          refine hK.out _ _ hSN (fun _ => ?_)
          clear hK hS
          have hS := hSN
          clear hSN
          refine ready1 10 (fun K hK => ?_)
          rw [if_pos (by rfl)]
          refine wp_append_any_at 43 (by rfl) _ _ 36 rfl wr.heap.size 3 i0 (.int .i64 0) 1 8 Tryz.underlying36 hi0 hi1 hi2 hi3 rfl (by decide) _ (q) _ (by rfl) HO.out (.slice (some ⟨x2.heap.size, 0, none⟩) 1 1) (1) [.int .i64 x] (by rfl) HN.out rfl (by simp [Value.oneCell']) (by unfold maxLen; omega) (by omega) hS.size ?_
          intro v' x4 hown hgrow hat
          obtain ⟨Ax, kAx, rfl, _⟩ := mx_slice hown
          have hSN := hS.grown hgrow hS.size (fun g hg => (own_lt HO.out g hg).1)
          have HO1 := Lib.hid hown
          clear HO
          have HO := HO1
          clear HO1 hown hgrow hat
          refine hK.out _ _ hSN (fun _ => ?_)
          clear hK hS
          have hS := hSN
          clear hSN
          refine ready1 14 (fun K hK => ?_)
          rw [if_pos (by rfl)]
          refine wp_append_any_at 47 (by rfl) _ _ 36 rfl wr.heap.size 3 i0 (.int .i64 0) 1 8 Tryz.underlying36 hi0 hi1 hi2 hi3 rfl (by decide) _ (q + 1) _ (by rfl) HO.out (.slice (some Ad) (k - q) (co - q)) ((k - q)) ((out.map (Value.int .i64)).drop q) (by rfl) (HT3.out.below hS) (by rw [List.length_drop, List.length_map]; omega) (by intro u hu; obtain ⟨z, _, rfl⟩ := List.mem_map.1 (List.mem_of_mem_drop hu); rfl) (by unfold maxLen; omega) (by omega) hS.size ?_
          intro v' x5 hown hgrow hat
          obtain ⟨Ay, kAy, rfl, _⟩ := mx_slice hown
          have hSN := hS.grown hgrow hS.size (fun g hg => (own_lt HO.out g hg).1)
          have HO1 := Lib.hid hown
          clear HO
          have HO := HO1
          clear HO1 hown hgrow hat
          refine hK.out _ _ hSN (fun _ => ?_)
          clear hK hS
          have hS := hSN
          clear hSN
          refine takeE 15 5 ?_
          refine wpAnyH_done (by kernel_rfl) ?_ _
          have hzz : (out.map (Value.int .i64)).take q ++ [.int .i64 x] ++ (out.map (Value.int .i64)).drop q = (out.take q ++ [x] ++ out.drop q).map (Value.int .i64) := by simp
          have hnn : q + 1 + (k - q) = (out.take q ++ [x] ++ out.drop q).length := by simp; omega
          have hown := own_mono HO.out (show w.heap.size ≤ wr.heap.size from hzwr)
          rw [hzz] at hown
          have HJ := Lib.hid hown
          have HNN := Lib.hid hnn
          have HSE := Lib.hid hS
          clear hS hown hzz hnn
          go_wp2_with fail
          go_meet
          exact ⟨Ay, kAy, q + 1 + (k - q), rfl, HNN, HJ, HSE⟩
         ·
          go_simp
          obtain ⟨x2, hwn⟩ : ∃ z, x1.alloc (.cells #[.int .i64 x] 3) = z := ⟨_, rfl⟩
          have hbn : Below x1.heap.size x1 x2 := by rw [← hwn]; exact mx_al _ _
          have hnn := mx_src x1 3 [.int .i64 x]
          rw [show ([.int .i64 x] : List Value).toArray = #[.int .i64 x] from rfl, hwn] at hnn
          have hsz : x2.heap.size = x1.heap.size + 1 := by rw [← hwn]; simp
          rw [hwn]
          have HZx2 := Lib.hid hsz
          have HN := Lib.hid hnn
          have HO1 := Lib.hid (own_below HO.out hbn)
          clear HO
          have HO := HO1
          clear HO1
          have hSN := hS.trans (hbn.mono hS.size)
          clear hbn hnn hwn hsz
          refine hK.out _ _ hSN (fun _ => ?_)
          clear hK hS
          have hS := hSN
          clear hSN
          refine ready1 4 (fun K hK => ?_)
          rw [if_pos (by rfl)]
          refine wp_append_any_at 37 (by rfl) _ _ 36 rfl wr.heap.size 3 i0 (.int .i64 0) 1 8 Tryz.underlying36 hi0 hi1 hi2 hi3 rfl (by decide) _ (0) _ (by rfl) HO.out (.slice (some ⟨go, 0, none⟩) q co) (q) ((out.map (Value.int .i64)).take q) (by rfl) (HT1.out.below hS) (by rw [List.length_take, List.length_map]; omega) (by intro u hu; obtain ⟨z, _, rfl⟩ := List.mem_map.1 (List.mem_of_mem_take hu); rfl) (by unfold maxLen; omega) (by omega) hS.size ?_
          intro v' x3 hown hgrow hat
          rw [Nat.zero_add, List.nil_append] at hown
          obtain ⟨Aw, kAw, rfl, _⟩ := mx_slice hown
          have hSN := hS.grown hgrow hS.size (fun g hg => (own_lt HO.out g hg).1)
          have HN1 := Lib.hid (src_grown' HN.out hgrow (by have := HZx1.out; simp [Value.ownBlock]; omega))
          clear HN
          have HN := HN1
          clear HN1
          have HO1 := Lib.hid hown
          clear HO
          have HO := HO1
          clear HO1 hown hgrow hat
          refine hK.out _ _ hSN (fun _ => ?_)
          clear hK hS
          have hS := hSN
          clear hSN
          refine ready1 10 (fun K hK => ?_)
          rw [if_pos (by rfl)]
          refine wp_append_any_at 43 (by rfl) _ _ 36 rfl wr.heap.size 3 i0 (.int .i64 0) 1 8 Tryz.underlying36 hi0 hi1 hi2 hi3 rfl (by decide) _ (q) _ (by rfl) HO.out (.slice (some ⟨x1.heap.size, 0, none⟩) 1 1) (1) [.int .i64 x] (by rfl) HN.out rfl (by simp [Value.oneCell']) (by unfold maxLen; omega) (by omega) hS.size ?_
          intro v' x4 hown hgrow hat
          obtain ⟨Ax, kAx, rfl, _⟩ := mx_slice hown
          have hSN := hS.grown hgrow hS.size (fun g hg => (own_lt HO.out g hg).1)
          have HO1 := Lib.hid hown
          clear HO
          have HO := HO1
          clear HO1 hown hgrow hat
          refine hK.out _ _ hSN (fun _ => ?_)
          clear hK hS
          have hS := hSN
          clear hSN
          refine ready1 14 (fun K hK => ?_)
          rw [if_pos (by rfl)]
          refine wp_append_any_at 47 (by rfl) _ _ 36 rfl wr.heap.size 3 i0 (.int .i64 0) 1 8 Tryz.underlying36 hi0 hi1 hi2 hi3 rfl (by decide) _ (q + 1) _ (by rfl) HO.out (.slice (some Ad) (k - q) (co - q)) ((k - q)) ((out.map (Value.int .i64)).drop q) (by rfl) (HT3.out.below hS) (by rw [List.length_drop, List.length_map]; omega) (by intro u hu; obtain ⟨z, _, rfl⟩ := List.mem_map.1 (List.mem_of_mem_drop hu); rfl) (by unfold maxLen; omega) (by omega) hS.size ?_
          intro v' x5 hown hgrow hat
          obtain ⟨Ay, kAy, rfl, _⟩ := mx_slice hown
          have hSN := hS.grown hgrow hS.size (fun g hg => (own_lt HO.out g hg).1)
          have HO1 := Lib.hid hown
          clear HO
          have HO := HO1
          clear HO1 hown hgrow hat
          refine hK.out _ _ hSN (fun _ => ?_)
          clear hK hS
          have hS := hSN
          clear hSN
          refine takeE 15 5 ?_
          refine wpAnyH_done (by kernel_rfl) ?_ _
          have hzz : (out.map (Value.int .i64)).take q ++ [.int .i64 x] ++ (out.map (Value.int .i64)).drop q = (out.take q ++ [x] ++ out.drop q).map (Value.int .i64) := by simp
          have hnn : q + 1 + (k - q) = (out.take q ++ [x] ++ out.drop q).length := by simp; omega
          have hown := own_mono HO.out (show w.heap.size ≤ wr.heap.size from hzwr)
          rw [hzz] at hown
          have HJ := Lib.hid hown
          have HNN := Lib.hid hnn
          have HSE := Lib.hid hS
          clear hS hown hzz hnn
          go_wp2_with fail
          go_meet
          exact ⟨Ay, kAy, q + 1 + (k - q), rfl, HNN, HJ, HSE⟩
        ·
         go_simp
         obtain ⟨x1, hwn⟩ : ∃ z, x0.alloc (.cells #[.int .i64 x] 3) = z := ⟨_, rfl⟩
         have hbn : Below x0.heap.size x0 x1 := by rw [← hwn]; exact mx_al _ _
         have hnn := mx_src x0 3 [.int .i64 x]
         rw [show ([.int .i64 x] : List Value).toArray = #[.int .i64 x] from rfl, hwn] at hnn
         have hsz : x1.heap.size = x0.heap.size + 1 := by rw [← hwn]; simp
         rw [hwn]
         have HZx1 := Lib.hid hsz
         have HN := Lib.hid hnn
         have hSN := hS.trans (hbn.mono hS.size)
         clear hbn hnn hwn hsz
         refine hK.out _ _ hSN (fun _ => ?_)
         clear hK hS
         have hS := hSN
         clear hSN
         refine ready1 0 (fun K hK => ?_)
         go_simp
         obtain ⟨x2, hwn⟩ : ∃ z, x1.alloc (.cells #[] 3) = z := ⟨_, rfl⟩
         have hbn : Below x1.heap.size x1 x2 := by rw [← hwn]; exact mx_al _ _
         have hon := own_none x1 wr.heap.size 3 1 hS.size
         have hsz : x2.heap.size = x1.heap.size + 1 := by rw [← hwn]; simp
         rw [hwn] at hon
         rw [hwn]
         have HZx2 := Lib.hid hsz
         have HO := Lib.hid hon
         have HN1 := Lib.hid (HN.out.below hbn)
         clear HN
         have HN := HN1
         clear HN1
         have hSN := hS.trans (hbn.mono hS.size)
         clear hbn hon hwn hsz
         refine hK.out _ _ hSN (fun _ => ?_)
         clear hK hS
         have hS := hSN
         clear hSN
         refine ready1 4 (fun K hK => ?_)
         rw [if_pos (by rfl)]
         refine wp_append_any_at 37 (by rfl) _ _ 36 rfl wr.heap.size 3 i0 (.int .i64 0) 1 8 Tryz.underlying36 hi0 hi1 hi2 hi3 rfl (by decide) _ (0) _ (by rfl) HO.out (.slice (some ⟨go, 0, none⟩) q co) (q) ((out.map (Value.int .i64)).take q) (by rfl) (HT1.out.below hS) (by rw [List.length_take, List.length_map]; omega) (by intro u hu; obtain ⟨z, _, rfl⟩ := List.mem_map.1 (List.mem_of_mem_take hu); rfl) (by unfold maxLen; omega) (by omega) hS.size ?_
         intro v' x3 hown hgrow hat
         rw [Nat.zero_add, List.nil_append] at hown
         obtain ⟨Aw, kAw, rfl, _⟩ := mx_slice hown
         have hSN := hS.grown hgrow hS.size (fun g hg => (own_lt HO.out g hg).1)
         have HN1 := Lib.hid (src_grown' HN.out hgrow (by have := HZx1.out; simp [Value.ownBlock]; omega))
         clear HN
         have HN := HN1
         clear HN1
         have HO1 := Lib.hid hown
         clear HO
         have HO := HO1
         clear HO1 hown hgrow hat
         refine hK.out _ _ hSN (fun _ => ?_)
         clear hK hS
         have hS := hSN
         clear hSN
         refine ready1 10 (fun K hK => ?_)
         rw [if_pos (by rfl)]
         refine wp_append_any_at 43 (by rfl) _ _ 36 rfl wr.heap.size 3 i0 (.int .i64 0) 1 8 Tryz.underlying36 hi0 hi1 hi2 hi3 rfl (by decide) _ (q) _ (by rfl) HO.out (.slice (some ⟨x0.heap.size, 0, none⟩) 1 1) (1) [.int .i64 x] (by rfl) HN.out rfl (by simp [Value.oneCell']) (by unfold maxLen; omega) (by omega) hS.size ?_
         intro v' x4 hown hgrow hat
         obtain ⟨Ax, kAx, rfl, _⟩ := mx_slice hown
         have hSN := hS.grown hgrow hS.size (fun g hg => (own_lt HO.out g hg).1)
         have HO1 := Lib.hid hown
         clear HO
         have HO := HO1
         clear HO1 hown hgrow hat
         refine hK.out _ _ hSN (fun _ => ?_)
         clear hK hS
         have hS := hSN
         clear hSN
         refine ready1 14 (fun K hK => ?_)
         rw [if_pos (by rfl)]
         refine wp_append_any_at 47 (by rfl) _ _ 36 rfl wr.heap.size 3 i0 (.int .i64 0) 1 8 Tryz.underlying36 hi0 hi1 hi2 hi3 rfl (by decide) _ (q + 1) _ (by rfl) HO.out (.slice (some Ad) (k - q) (co - q)) ((k - q)) ((out.map (Value.int .i64)).drop q) (by rfl) (HT3.out.below hS) (by rw [List.length_drop, List.length_map]; omega) (by intro u hu; obtain ⟨z, _, rfl⟩ := List.mem_map.1 (List.mem_of_mem_drop hu); rfl) (by unfold maxLen; omega) (by omega) hS.size ?_
         intro v' x5 hown hgrow hat
         obtain ⟨Ay, kAy, rfl, _⟩ := mx_slice hown
         have hSN := hS.grown hgrow hS.size (fun g hg => (own_lt HO.out g hg).1)
         have HO1 := Lib.hid hown
         clear HO
         have HO := HO1
         clear HO1 hown hgrow hat
         refine hK.out _ _ hSN (fun _ => ?_)
         clear hK hS
         have hS := hSN
         clear hSN
         refine takeE 15 5 ?_
         refine wpAnyH_done (by kernel_rfl) ?_ _
         have hzz : (out.map (Value.int .i64)).take q ++ [.int .i64 x] ++ (out.map (Value.int .i64)).drop q = (out.take q ++ [x] ++ out.drop q).map (Value.int .i64) := by simp
         have hnn : q + 1 + (k - q) = (out.take q ++ [x] ++ out.drop q).length := by simp; omega
         have hown := own_mono HO.out (show w.heap.size ≤ wr.heap.size from hzwr)
         rw [hzz] at hown
         have HJ := Lib.hid hown
         have HNN := Lib.hid hnn
         have HSE := Lib.hid hS
         clear hS hown hzz hnn
         go_wp2_with fail
         go_meet
         exact ⟨Ay, kAy, q + 1 + (k - q), rfl, HNN, HJ, HSE⟩
       case rest =>
        obtain ⟨Az, kz, n8, rfl, HN8, HR8, HB8⟩ := hcut
        have HWC := Lib.hid (HWR.out.trans (HB8.out.mono HWR.out.size))
        have hzwc := HWC.out.size
        have HA8 := Lib.hid (own_below HA1.out HB8.out)
        go_upto_region 9 with fail
        have HT1 := Lib.hid (src_take (k := q) HA8.out)
        obtain ⟨Ad, hAd⟩ := ad_any ca q ga
        have hqo : q ≤ ca := by omega
        have HT3 := Lib.hid (src_drop2 (m := k - q) (c' := ca - q) HA8.out (by omega) hAd)
        obtain ⟨x0, hx0⟩ : ∃ x, (wc).drew = x := ⟨_, rfl⟩
        have hS0 := mx_drew wc
        rw [hx0] at hS0
        refine wp_region_held_drew (S := fun w' => Below wc.heap.size wc w') (by kernel_rfl) (by rw [hx0]; exact hS0) (fun hS => ?_)
        rw [hx0] at hS ⊢
        clear hS0 hx0
        refine takeE 1 49 ?_
        refine takeE 2 50 ?_
        refine takeE 3 51 ?_
        refine takeE 5 53 ?_
        refine takeE 6 54 ?_
        refine takeE 7 55 ?_
        refine takeD 8 56 (v := ?_) rfl (by rfl) (by kernel_rfl) (by kernel_rfl) (by kernel_rfl) (fun _ _ _ h => h) (Or.inl ⟨by rfl, ?_⟩) (by assumption) ?_
        rotate_left
        ·
         intro wq hSw
         have hSz := HWC.out.trans (hSw.mono HWC.out.size)
         have k0 := (hSz.cell (p := ⟨g4, o4 + k, none⟩) hg4).trans F1.out
         clear hSw
         go_simp
         try with_reducible rfl
        simp only [Act.put, List.setIfInBounds_toArray, List.set_cons_zero, List.set_cons_succ]
        refine takeE 11 59 ?_
        refine takeE 12 60 ?_
        refine takeE 13 61 ?_
        refine wpAnyH_ready (rs := [0, 9]) (by kernel_rfl) (by simp) ?_
        refine AllReadyH.cons rfl (fun K hK => ?_) (AllReadyH.cons rfl (fun K hK => ?_) AllReadyH.nil)
        ·
         go_simp
         obtain ⟨x1, hwn⟩ : ∃ z, x0.alloc (.cells #[] 3) = z := ⟨_, rfl⟩
         have hbn : Below x0.heap.size x0 x1 := by rw [← hwn]; exact mx_al _ _
         have hon := own_none x0 wc.heap.size 3 1 hS.size
         have hsz : x1.heap.size = x0.heap.size + 1 := by rw [← hwn]; simp
         rw [hwn] at hon
         rw [hwn]
         have HZx1 := Lib.hid hsz
         have HO := Lib.hid hon
         have hSN := hS.trans (hbn.mono hS.size)
         clear hbn hon hwn hsz
         refine hK.out _ _ hSN (fun _ => ?_)
         clear hK hS
         have hS := hSN
         clear hSN
         refine wpAnyH_ready (rs := [4, 9]) (by kernel_rfl) (by simp) ?_
         refine AllReadyH.cons rfl (fun K hK => ?_) (AllReadyH.cons rfl (fun K hK => ?_) AllReadyH.nil)
         ·
          rw [if_pos (by rfl)]
          refine wp_append_any_at 52 (by rfl) _ _ 36 rfl wc.heap.size 3 i0 (.int .i64 0) 1 8 Tryz.underlying36 hi0 hi1 hi2 hi3 rfl (by decide) _ (0) _ (by rfl) HO.out (.slice (some ⟨ga, 0, none⟩) q ca) (q) ((at_.map (Value.int .i64)).take q) (by rfl) (HT1.out.below hS) (by rw [List.length_take, List.length_map]; omega) (by intro u hu; obtain ⟨z, _, rfl⟩ := List.mem_map.1 (List.mem_of_mem_take hu); rfl) (by unfold maxLen; omega) (by omega) hS.size ?_
          intro v' x2 hown hgrow hat
          rw [Nat.zero_add, List.nil_append] at hown
          obtain ⟨Aw, kAw, rfl, _⟩ := mx_slice hown
          have hSN := hS.grown hgrow hS.size (fun g hg => (own_lt HO.out g hg).1)
          have HO1 := Lib.hid hown
          clear HO
          have HO := HO1
          clear HO1 hown hgrow hat
          refine hK.out _ _ hSN (fun _ => ?_)
          clear hK hS
          have hS := hSN
          clear hSN
          refine ready1 9 (fun K hK => ?_)
          go_simp
          obtain ⟨x3, hwn⟩ : ∃ z, x2.alloc (.cells #[.int .i64 y] 3) = z := ⟨_, rfl⟩
          have hbn : Below x2.heap.size x2 x3 := by rw [← hwn]; exact mx_al _ _
          have hnn := mx_src x2 3 [.int .i64 y]
          rw [show ([.int .i64 y] : List Value).toArray = #[.int .i64 y] from rfl, hwn] at hnn
          have hsz : x3.heap.size = x2.heap.size + 1 := by rw [← hwn]; simp
          rw [hwn]
          have HZx3 := Lib.hid hsz
          have HN := Lib.hid hnn
          have HO1 := Lib.hid (own_below HO.out hbn)
          clear HO
          have HO := HO1
          clear HO1
          have hSN := hS.trans (hbn.mono hS.size)
          clear hbn hnn hwn hsz
          refine hK.out _ _ hSN (fun _ => ?_)
          clear hK hS
          have hS := hSN
          clear hSN
          refine ready1 10 (fun K hK => ?_)
          rw [if_pos (by rfl)]
          refine wp_append_any_at 58 (by rfl) _ _ 36 rfl wc.heap.size 3 i0 (.int .i64 0) 1 8 Tryz.underlying36 hi0 hi1 hi2 hi3 rfl (by decide) _ (q) _ (by rfl) HO.out (.slice (some ⟨x2.heap.size, 0, none⟩) 1 1) (1) [.int .i64 y] (by rfl) HN.out rfl (by simp [Value.oneCell']) (by unfold maxLen; omega) (by omega) hS.size ?_
          intro v' x4 hown hgrow hat
          obtain ⟨Ax, kAx, rfl, _⟩ := mx_slice hown
          have hSN := hS.grown hgrow hS.size (fun g hg => (own_lt HO.out g hg).1)
          have HO1 := Lib.hid hown
          clear HO
          have HO := HO1
          clear HO1 hown hgrow hat
          refine hK.out _ _ hSN (fun _ => ?_)
          clear hK hS
          have hS := hSN
          clear hSN
          refine ready1 14 (fun K hK => ?_)
          rw [if_pos (by rfl)]
          refine wp_append_any_at 62 (by rfl) _ _ 36 rfl wc.heap.size 3 i0 (.int .i64 0) 1 8 Tryz.underlying36 hi0 hi1 hi2 hi3 rfl (by decide) _ (q + 1) _ (by rfl) HO.out (.slice (some Ad) (k - q) (ca - q)) ((k - q)) ((at_.map (Value.int .i64)).drop q) (by rfl) (HT3.out.below hS) (by rw [List.length_drop, List.length_map]; omega) (by intro u hu; obtain ⟨z, _, rfl⟩ := List.mem_map.1 (List.mem_of_mem_drop hu); rfl) (by unfold maxLen; omega) (by omega) hS.size ?_
          intro v' x5 hown hgrow hat
          obtain ⟨Ay, kAy, rfl, _⟩ := mx_slice hown
          have hSN := hS.grown hgrow hS.size (fun g hg => (own_lt HO.out g hg).1)
          have HO1 := Lib.hid hown
          clear HO
          have HO := HO1
          clear HO1 hown hgrow hat
          refine hK.out _ _ hSN (fun _ => ?_)
          clear hK hS
          have hS := hSN
          clear hSN
          refine takeE 15 6 ?_
          refine wpAnyH_done (by kernel_rfl) ?_ _
          have hzz : (at_.map (Value.int .i64)).take q ++ [.int .i64 y] ++ (at_.map (Value.int .i64)).drop q = (at_.take q ++ [y] ++ at_.drop q).map (Value.int .i64) := by simp
          have hnn : q + 1 + (k - q) = (at_.take q ++ [y] ++ at_.drop q).length := by simp; omega
          have hown := own_mono HO.out (show w.heap.size ≤ wc.heap.size from hzwc)
          have HJ := Lib.hid (row_fin hown hzz hnn)
          have H8 := Lib.hid (row_fin (own_below HR8.out hS) rfl HN8.out)
          have HSE := Lib.hid (HWC.out.trans (hS.mono HWC.out.size))
          have hnl : (out.take q ++ [x] ++ out.drop q).length = k + 1 := by simp; omega
          have hnl2 : (at_.take q ++ [y] ++ at_.drop q).length = k + 1 := by simp; omega
          clear hS hown hzz hnn
          go_wp2_with fail
          go_roundw
          case rel => exact ⟨k + 1, _, _, by omega, hnl, hnl2, by go_num, HNQ, H8, HJ, HSE, fun h => absurd h (by omega)⟩
          case measure => simp [intOf]; omega
         ·
          go_simp
          obtain ⟨x2, hwn⟩ : ∃ z, x1.alloc (.cells #[.int .i64 y] 3) = z := ⟨_, rfl⟩
          have hbn : Below x1.heap.size x1 x2 := by rw [← hwn]; exact mx_al _ _
          have hnn := mx_src x1 3 [.int .i64 y]
          rw [show ([.int .i64 y] : List Value).toArray = #[.int .i64 y] from rfl, hwn] at hnn
          have hsz : x2.heap.size = x1.heap.size + 1 := by rw [← hwn]; simp
          rw [hwn]
          have HZx2 := Lib.hid hsz
          have HN := Lib.hid hnn
          have HO1 := Lib.hid (own_below HO.out hbn)
          clear HO
          have HO := HO1
          clear HO1
          have hSN := hS.trans (hbn.mono hS.size)
          clear hbn hnn hwn hsz
          refine hK.out _ _ hSN (fun _ => ?_)
          clear hK hS
          have hS := hSN
          clear hSN
          refine ready1 4 (fun K hK => ?_)
          rw [if_pos (by rfl)]
          refine wp_append_any_at 52 (by rfl) _ _ 36 rfl wc.heap.size 3 i0 (.int .i64 0) 1 8 Tryz.underlying36 hi0 hi1 hi2 hi3 rfl (by decide) _ (0) _ (by rfl) HO.out (.slice (some ⟨ga, 0, none⟩) q ca) (q) ((at_.map (Value.int .i64)).take q) (by rfl) (HT1.out.below hS) (by rw [List.length_take, List.length_map]; omega) (by intro u hu; obtain ⟨z, _, rfl⟩ := List.mem_map.1 (List.mem_of_mem_take hu); rfl) (by unfold maxLen; omega) (by omega) hS.size ?_
          intro v' x3 hown hgrow hat
          rw [Nat.zero_add, List.nil_append] at hown
          obtain ⟨Aw, kAw, rfl, _⟩ := mx_slice hown
          have hSN := hS.grown hgrow hS.size (fun g hg => (own_lt HO.out g hg).1)
          have HN1 := Lib.hid (src_grown' HN.out hgrow (by have := HZx1.out; simp [Value.ownBlock]; omega))
          clear HN
          have HN := HN1
          clear HN1
          have HO1 := Lib.hid hown
          clear HO
          have HO := HO1
          clear HO1 hown hgrow hat
          refine hK.out _ _ hSN (fun _ => ?_)
          clear hK hS
          have hS := hSN
          clear hSN
          refine ready1 10 (fun K hK => ?_)
          rw [if_pos (by rfl)]
          refine wp_append_any_at 58 (by rfl) _ _ 36 rfl wc.heap.size 3 i0 (.int .i64 0) 1 8 Tryz.underlying36 hi0 hi1 hi2 hi3 rfl (by decide) _ (q) _ (by rfl) HO.out (.slice (some ⟨x1.heap.size, 0, none⟩) 1 1) (1) [.int .i64 y] (by rfl) HN.out rfl (by simp [Value.oneCell']) (by unfold maxLen; omega) (by omega) hS.size ?_
          intro v' x4 hown hgrow hat
          obtain ⟨Ax, kAx, rfl, _⟩ := mx_slice hown
          have hSN := hS.grown hgrow hS.size (fun g hg => (own_lt HO.out g hg).1)
          have HO1 := Lib.hid hown
          clear HO
          have HO := HO1
          clear HO1 hown hgrow hat
          refine hK.out _ _ hSN (fun _ => ?_)
          clear hK hS
          have hS := hSN
          clear hSN
          refine ready1 14 (fun K hK => ?_)
          rw [if_pos (by rfl)]
          refine wp_append_any_at 62 (by rfl) _ _ 36 rfl wc.heap.size 3 i0 (.int .i64 0) 1 8 Tryz.underlying36 hi0 hi1 hi2 hi3 rfl (by decide) _ (q + 1) _ (by rfl) HO.out (.slice (some Ad) (k - q) (ca - q)) ((k - q)) ((at_.map (Value.int .i64)).drop q) (by rfl) (HT3.out.below hS) (by rw [List.length_drop, List.length_map]; omega) (by intro u hu; obtain ⟨z, _, rfl⟩ := List.mem_map.1 (List.mem_of_mem_drop hu); rfl) (by unfold maxLen; omega) (by omega) hS.size ?_
          intro v' x5 hown hgrow hat
          obtain ⟨Ay, kAy, rfl, _⟩ := mx_slice hown
          have hSN := hS.grown hgrow hS.size (fun g hg => (own_lt HO.out g hg).1)
          have HO1 := Lib.hid hown
          clear HO
          have HO := HO1
          clear HO1 hown hgrow hat
          refine hK.out _ _ hSN (fun _ => ?_)
          clear hK hS
          have hS := hSN
          clear hSN
          refine takeE 15 6 ?_
          refine wpAnyH_done (by kernel_rfl) ?_ _
          have hzz : (at_.map (Value.int .i64)).take q ++ [.int .i64 y] ++ (at_.map (Value.int .i64)).drop q = (at_.take q ++ [y] ++ at_.drop q).map (Value.int .i64) := by simp
          have hnn : q + 1 + (k - q) = (at_.take q ++ [y] ++ at_.drop q).length := by simp; omega
          have hown := own_mono HO.out (show w.heap.size ≤ wc.heap.size from hzwc)
          have HJ := Lib.hid (row_fin hown hzz hnn)
          have H8 := Lib.hid (row_fin (own_below HR8.out hS) rfl HN8.out)
          have HSE := Lib.hid (HWC.out.trans (hS.mono HWC.out.size))
          have hnl : (out.take q ++ [x] ++ out.drop q).length = k + 1 := by simp; omega
          have hnl2 : (at_.take q ++ [y] ++ at_.drop q).length = k + 1 := by simp; omega
          clear hS hown hzz hnn
          go_wp2_with fail
          go_roundw
          case rel => exact ⟨k + 1, _, _, by omega, hnl, hnl2, by go_num, HNQ, H8, HJ, HSE, fun h => absurd h (by omega)⟩
          case measure => simp [intOf]; omega
        ·
         go_simp
         obtain ⟨x1, hwn⟩ : ∃ z, x0.alloc (.cells #[.int .i64 y] 3) = z := ⟨_, rfl⟩
         have hbn : Below x0.heap.size x0 x1 := by rw [← hwn]; exact mx_al _ _
         have hnn := mx_src x0 3 [.int .i64 y]
         rw [show ([.int .i64 y] : List Value).toArray = #[.int .i64 y] from rfl, hwn] at hnn
         have hsz : x1.heap.size = x0.heap.size + 1 := by rw [← hwn]; simp
         rw [hwn]
         have HZx1 := Lib.hid hsz
         have HN := Lib.hid hnn
         have hSN := hS.trans (hbn.mono hS.size)
         clear hbn hnn hwn hsz
         refine hK.out _ _ hSN (fun _ => ?_)
         clear hK hS
         have hS := hSN
         clear hSN
         refine ready1 0 (fun K hK => ?_)
         go_simp
         obtain ⟨x2, hwn⟩ : ∃ z, x1.alloc (.cells #[] 3) = z := ⟨_, rfl⟩
         have hbn : Below x1.heap.size x1 x2 := by rw [← hwn]; exact mx_al _ _
         have hon := own_none x1 wc.heap.size 3 1 hS.size
         have hsz : x2.heap.size = x1.heap.size + 1 := by rw [← hwn]; simp
         rw [hwn] at hon
         rw [hwn]
         have HZx2 := Lib.hid hsz
         have HO := Lib.hid hon
         have HN1 := Lib.hid (HN.out.below hbn)
         clear HN
         have HN := HN1
         clear HN1
         have hSN := hS.trans (hbn.mono hS.size)
         clear hbn hon hwn hsz
         refine hK.out _ _ hSN (fun _ => ?_)
         clear hK hS
         have hS := hSN
         clear hSN
         refine ready1 4 (fun K hK => ?_)
         rw [if_pos (by rfl)]
         refine wp_append_any_at 52 (by rfl) _ _ 36 rfl wc.heap.size 3 i0 (.int .i64 0) 1 8 Tryz.underlying36 hi0 hi1 hi2 hi3 rfl (by decide) _ (0) _ (by rfl) HO.out (.slice (some ⟨ga, 0, none⟩) q ca) (q) ((at_.map (Value.int .i64)).take q) (by rfl) (HT1.out.below hS) (by rw [List.length_take, List.length_map]; omega) (by intro u hu; obtain ⟨z, _, rfl⟩ := List.mem_map.1 (List.mem_of_mem_take hu); rfl) (by unfold maxLen; omega) (by omega) hS.size ?_
         intro v' x3 hown hgrow hat
         rw [Nat.zero_add, List.nil_append] at hown
         obtain ⟨Aw, kAw, rfl, _⟩ := mx_slice hown
         have hSN := hS.grown hgrow hS.size (fun g hg => (own_lt HO.out g hg).1)
         have HN1 := Lib.hid (src_grown' HN.out hgrow (by have := HZx1.out; simp [Value.ownBlock]; omega))
         clear HN
         have HN := HN1
         clear HN1
         have HO1 := Lib.hid hown
         clear HO
         have HO := HO1
         clear HO1 hown hgrow hat
         refine hK.out _ _ hSN (fun _ => ?_)
         clear hK hS
         have hS := hSN
         clear hSN
         refine ready1 10 (fun K hK => ?_)
         rw [if_pos (by rfl)]
         refine wp_append_any_at 58 (by rfl) _ _ 36 rfl wc.heap.size 3 i0 (.int .i64 0) 1 8 Tryz.underlying36 hi0 hi1 hi2 hi3 rfl (by decide) _ (q) _ (by rfl) HO.out (.slice (some ⟨x0.heap.size, 0, none⟩) 1 1) (1) [.int .i64 y] (by rfl) HN.out rfl (by simp [Value.oneCell']) (by unfold maxLen; omega) (by omega) hS.size ?_
         intro v' x4 hown hgrow hat
         obtain ⟨Ax, kAx, rfl, _⟩ := mx_slice hown
         have hSN := hS.grown hgrow hS.size (fun g hg => (own_lt HO.out g hg).1)
         have HO1 := Lib.hid hown
         clear HO
         have HO := HO1
         clear HO1 hown hgrow hat
         refine hK.out _ _ hSN (fun _ => ?_)
         clear hK hS
         have hS := hSN
         clear hSN
         refine ready1 14 (fun K hK => ?_)
         rw [if_pos (by rfl)]
         refine wp_append_any_at 62 (by rfl) _ _ 36 rfl wc.heap.size 3 i0 (.int .i64 0) 1 8 Tryz.underlying36 hi0 hi1 hi2 hi3 rfl (by decide) _ (q + 1) _ (by rfl) HO.out (.slice (some Ad) (k - q) (ca - q)) ((k - q)) ((at_.map (Value.int .i64)).drop q) (by rfl) (HT3.out.below hS) (by rw [List.length_drop, List.length_map]; omega) (by intro u hu; obtain ⟨z, _, rfl⟩ := List.mem_map.1 (List.mem_of_mem_drop hu); rfl) (by unfold maxLen; omega) (by omega) hS.size ?_
         intro v' x5 hown hgrow hat
         obtain ⟨Ay, kAy, rfl, _⟩ := mx_slice hown
         have hSN := hS.grown hgrow hS.size (fun g hg => (own_lt HO.out g hg).1)
         have HO1 := Lib.hid hown
         clear HO
         have HO := HO1
         clear HO1 hown hgrow hat
         refine hK.out _ _ hSN (fun _ => ?_)
         clear hK hS
         have hS := hSN
         clear hSN
         refine takeE 15 6 ?_
         refine wpAnyH_done (by kernel_rfl) ?_ _
         have hzz : (at_.map (Value.int .i64)).take q ++ [.int .i64 y] ++ (at_.map (Value.int .i64)).drop q = (at_.take q ++ [y] ++ at_.drop q).map (Value.int .i64) := by simp
         have hnn : q + 1 + (k - q) = (at_.take q ++ [y] ++ at_.drop q).length := by simp; omega
         have hown := own_mono HO.out (show w.heap.size ≤ wc.heap.size from hzwc)
         have HJ := Lib.hid (row_fin hown hzz hnn)
         have H8 := Lib.hid (row_fin (own_below HR8.out hS) rfl HN8.out)
         have HSE := Lib.hid (HWC.out.trans (hS.mono HWC.out.size))
         have hnl : (out.take q ++ [x] ++ out.drop q).length = k + 1 := by simp; omega
         have hnl2 : (at_.take q ++ [y] ++ at_.drop q).length = k + 1 := by simp; omega
         clear hS hown hzz hnn
         go_wp2_with fail
         go_roundw
         case rel => exact ⟨k + 1, _, _, by omega, hnl, hnl2, by go_num, HNQ, H8, HJ, HSE, fun h => absurd h (by omega)⟩
         case measure => simp [intOf]; omega
  ·
   obtain rfl : k = l.length := by omega
   have hE := HE.out
   rw [List.drop_length] at hE
   have HN := Lib.hid (show rSorted l ks = out from hE)
   clear hE
   obtain ⟨Ao, co, rfl, _⟩ := mx_slice HO.out
   go_wp2_with fail
   go_ret
   exact ⟨⟨_, rfl, by rw [HN.out]; exact HO.out, by rw [HN.out]; exact hlo⟩, HW.out⟩
end Go.Proofs.YtiodfolcnnkdjaaGreat
