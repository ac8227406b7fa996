/- The reference of layer 14: Conflict, the rounds. -/
import Derived.Test.YtiodfolcnnkdjaaGreatDo
import Derived.Test.YtiodfolcnnkdjaaGreatAm
namespace Go.Proofs.YtiodfolcnnkdjaaGreat
open Go.RowKit

theorem rbox3 (w : World) (ca ct cr : Array Value) (ta tt tr : TypeId) : ∃ wa, (((w.alloc (.cells ca ta)).alloc (.cells ct tt)).alloc (.cells cr tr)) = wa ∧ Below w.heap.size w wa ∧ wa.heap[w.heap.size]? = some (.cells ca ta (0, 0)) ∧ wa.heap[w.heap.size + 1]? = some (.cells ct tt (0, 0)) ∧ wa.heap[w.heap.size + 1 + 1]? = some (.cells cr tr (0, 0)) := by
 refine ⟨_, rfl, ((mx_al _ _).alloc (by simp) _).alloc (by simp; omega) _, ?_, ?_, ?_⟩
 ·
  rw [Below.heap_alloc _ _ _ (by simp; omega), Below.heap_alloc _ _ _ (by simp)]
  exact World.alloc_heap_new _ _
 ·
  rw [Below.heap_alloc _ _ _ (by simp)]
  have := World.alloc_heap_new (w.alloc (.cells ca ta)) (.cells ct tt)
  rwa [World.size_alloc] at this
 ·
  have := World.alloc_heap_new ((w.alloc (.cells ca ta)).alloc (.cells ct tt)) (.cells cr tr)
  rwa [World.size_alloc, World.size_alloc] at this
def slLen : Value → Nat
 | .slice _ n _ => n
 | _ => 0
/-- what is taken over of the literals but one -/
theorem res_rl {fn : Func} (h : fn.results = #[.cell 6 72, .tmp 7]) {w : World} {r : Nat} {c0 c1 c2 c3 c4 v : Value} {t : TypeId} (h6 : w.heap[r]? = some (.cells #[c0, c1, c2, c3, c4] t (0, 0)))
  (tmps : Array Value) (t6 : tmps[6]?.getD undef = .pointer (some ⟨r, 0, none⟩)) (t7 : tmps[7]?.getD undef = v) :
  (results fn tmps).run Tryz.prog w = .ok (.tuple #[.agg #[c0, c1, c2, c3, c4], v]) w := by
 obtain ⟨⟨p0, p1, p2, p3, p4⟩, _⟩ := cells5 h6
 simp [results, h, go_sem, t6, t7, p0, p1, p2, p3, p4]
theorem rP_zero (its : List RIt) : rP its 0 = -1 := by
 have key : ∀ (l : List RIt) (i : Nat), rPl l 0 i = -1 := by
  intro l
  induction l with
  | nil => intro i; rfl
  | cons x l ih =>
   intro i
   unfold rPl
   rw [if_neg (by omega)]
   exact ih _
 exact key its 0
theorem ints_cell {O : Nat → Prop} {w : World} {g o n c j : Nat} {xs : List Int} {x : Int} (h : IntsIn O w (.slice (some ⟨g, o, none⟩) n c) xs) (hx : xs[j]? = some x) : w.cell? ⟨g, o + j, none⟩ = some (.int .i64 x) := by
 obtain ⟨A, c', hv, _, _, hxs⟩ := h
 obtain ⟨g', o', hA, _, _, h1⟩ := hxs j x hx
 rw [hA] at hv
 cases hv
 exact h1
/-- the end of Conflict: what is told, in the block bo, and lists in other blocks -/
structure FinAt (wa W : World) (bo : Nat) (VL VM VH : Value) (li mt hh : List Int) (b v : Int) (m : Value) : Prop where
 below : Below wa.heap.size wa W
 out : W.heap[bo]? = some (.cells #[VL, .int .i64 b, .int .i64 v, VH, m] 72 (0, 0))
 lits : IntsIn (fun g => g ≠ bo ∧ wa.heap.size ≤ g) W VL li
 met : IntsIn (fun g => g ≠ bo ∧ wa.heap.size ≤ g) W VM mt
 hints : IntsIn (fun g => g ≠ bo ∧ wa.heap.size ≤ g) W VH hh
theorem FinAt.more {wa W W' : World} {bo : Nat} {VL VM VH m : Value} {li mt hh : List Int} {b v : Int} (h : FinAt wa W bo VL VM VH li mt hh b v m) (hb : Below W.heap.size W W') : FinAt wa W' bo VL VM VH li mt hh b v m :=
 ⟨h.below.trans (hb.mono h.below.size), (hb.block bo (heap_lt h.out)).trans h.out, h.lits.below hb, h.met.below hb, h.hints.below hb⟩
theorem FinAt.set {wa W : World} {bo : Nat} {VL VM VH m VL' VH' m' : Value} {li mt hh : List Int} {b v b' v' : Int} (h : FinAt wa W bo VL VM VH li mt hh b v m) (hbo : wa.heap.size ≤ bo) (j : Nat) (u : Value) (he : (#[VL, .int .i64 b, .int .i64 v, VH, m] : Array Value).setIfInBounds j u = #[VL', .int .i64 b', .int .i64 v', VH', m']) (hl : VL' = VL) (hh' : VH' = VH) : FinAt wa (W.setCell ⟨bo, j, none⟩ u) bo VL' VM VH' li mt hh b' v' m' := by
 subst hl
 subst hh'
 have hk : Kept (fun g => g = bo) W (W.setCell ⟨bo, j, none⟩ u) := (Kept.refl (fun g => g = bo) W).setCell ⟨bo, j, none⟩ _ rfl
 exact ⟨h.below.setCell hbo _, by rw [← he]; exact mx_set h.out u, h.lits.kept hk (fun g hg e => hg.1 e), h.met.kept hk (fun g hg e => hg.1 e), h.hints.kept hk (fun g hg e => hg.1 e)⟩
theorem er_ne {l : List Int} {k g : Nat} {x : Int} (hx : l[k]? = some x) (h : k ≠ g) : (l.take (k + 1)).eraseIdx g = (l.take k).eraseIdx g ++ [x] := by
 rw [List.take_add_one, hx]
 show (l.take k ++ [x]).eraseIdx g = _
 have hk := (List.getElem?_eq_some_iff.1 hx).1
 by_cases hg : g < k
 ·
  rw [List.eraseIdx_append_of_lt_length (by rw [List.length_take]; omega)]
 ·
  rw [List.eraseIdx_append_of_length_le (by rw [List.length_take]; omega), List.eraseIdx_of_length_le (l := l.take k) (by rw [List.length_take]; omega), List.eraseIdx_of_length_le (by rw [List.length_take]; simp; omega)]
theorem er_eq (l : List Int) (g : Nat) (h : g < l.length) : (l.take (g + 1)).eraseIdx g = (l.take g).eraseIdx g := by
 obtain ⟨x, hx⟩ := getElem_of h
 rw [List.take_add_one, hx]
 show (l.take g ++ [x]).eraseIdx g = _
 rw [List.eraseIdx_append_of_length_le (by rw [List.length_take]; omega), List.eraseIdx_of_length_le (l := l.take g) (by rw [List.length_take]; omega), List.length_take]
 rw [show g - min g l.length = 0 by omega]
 simp
theorem er_len (l : List Int) (k g : Nat) : ((l.take k).eraseIdx g).length ≤ k := by
 have h1 := List.length_eraseIdx_le (l.take k) g
 rw [List.length_take] at h1
 omega
/-- what the reference's Conflict returns -/
def RConf (all : List REn) (its : List RIt) (id : Int) (res : Option RSt) (w : World) (e : Ending) (w' : World) : Prop :=
 Below w.heap.size w w' ∧ ((∃ c, c ≠ 0 ∧ e = .returned (.tuple #[.agg #[.slice none 0 0, .int .i64 0, .int .i64 0, .slice none 0 0, .slice none 0 0], .int .i64 c]) ∧ c = (if (rFailsAt all its id).2 = 0 then 141 else (rFailsAt all its id).2) ∧ ((rFailsAt all its id).2 = 0 → res = none)) ∨
  (rFailsAt all its id).2 = 0 ∧ ∃ s x y z, res = some s ∧ e = .returned (.tuple #[.agg #[x, .int .i64 (rBack its s), .int .i64 (rLevels its (rLits its s)), y, z], .int .i64 0]) ∧ IntsIn (fun _ => True) w' x (rLits its s) ∧ IntsIn (fun _ => True) w' y (rHints id s) ∧ IntsIn (fun _ => True) w' z (rMet its s))
set_option maxRecDepth 100000 in
set_option maxHeartbeats 16000000 in
theorem ref_conflict (N : Nat) (hN : N ≤ 100) (id : Int) (res : Option RSt) (a : RAr) (t : RTr) (av tv : Value) (w : World) (ha : RAAt w av a) (h : RTAt w tv t) (hao : a.Ok) (ho : t.Ok)
  (hit : (rFailsAt a.all t.items id).2 = 0 → rIter a.all t.items (rGr t.items 0 (rFailsAt a.all t.items id).1) N ⟨(rFailsAt a.all t.items id).1, (rFailsAt a.all t.items id).1, [], []⟩ = some res) :
  Calls Tryz.prog 64 #[av, tv, .int .i64 id] w fun e w' => RConf a.all t.items id res w e w' := by
 obtain ⟨ev, rfl, he⟩ := ha
 obtain ⟨iv, sv, rfl, hi, hs⟩ := h
 obtain ⟨wa, hwa, hba, hb0, hb1, hb2⟩ := rbox3 w #[ev, .int .i64 a.last] #[.int .i64 t.vars, .int .i64 t.now, iv, sv] #[.slice none 0 0, .int .i64 0, .int .i64 0, .slice none 0 0, .slice none 0 0] 56 59 72
 have HT := Lib.hid (show RTAt wa (.agg #[.int .i64 t.vars, .int .i64 t.now, iv, sv]) t from ⟨iv, sv, rfl, hi.below hba, hs.below hba⟩)
 have HA := Lib.hid (show RAAt wa (.agg #[ev, .int .i64 a.last]) a from ⟨ev, rfl, he.below hba⟩)
 have HBA := Lib.hid hba
 have HWA := Lib.hid hwa
 have HRES := Lib.hid hb2
 have hz0 := heap_lt hb0
 have hz1 := heap_lt hb1
 have hz2 := heap_lt hb2
 have A0 := Lib.hid (mx_cell (j := 0) hb0)
 have A1 := Lib.hid (mx_cell (j := 1) hb0)
 have B0 := Lib.hid (mx_cell (j := 0) hb1)
 have B1 := Lib.hid (mx_cell (j := 1) hb1)
 have B2 := Lib.hid (mx_cell (j := 2) hb1)
 have B3 := Lib.hid (mx_cell (j := 3) hb1)
 clear hwa hba hb0 hb1 hb2 hs hi he
 obtain ⟨i0, hi0, hi1, hi2, hi3⟩ := info_parts tinfo_int
 have hlen := ho.len
 have HOK := Lib.hid ho
 have HAO := Lib.hid hao
 have HF := Lib.hid (fun (w : World) av tv (ha : RAAt w av a) (h : RTAt w tv t) => ref_fails14 id a t av tv w ha h hao ho)
 have HFN := Lib.hid (rFailsAt_neg a.all t.items id)
 obtain ⟨fr, hfr⟩ : ∃ r, rFailsAt a.all t.items id = r := ⟨_, rfl⟩
 rw [hfr] at HF HFN hit
 have HFR := Lib.hid hfr
 obtain ⟨l0, err⟩ := fr
 have HIT := Lib.hid hit
 clear hfr hit hao ho
 go_enter Tryz.func64, Tryz.ntmps64
 go_upto_region 1 with fail
 rw [HWA.out]
 have a0 := ((Below.refl wa.heap.size wa).cell (p := ⟨w.heap.size, 0, none⟩) hz0).trans A0.out
 have a1 := ((Below.refl wa.heap.size wa).cell (p := ⟨w.heap.size, 1, none⟩) hz0).trans A1.out
 have b0 := ((Below.refl wa.heap.size wa).cell (p := ⟨w.heap.size + 1, 0, none⟩) hz1).trans B0.out
 have b1 := ((Below.refl wa.heap.size wa).cell (p := ⟨w.heap.size + 1, 1, none⟩) hz1).trans B1.out
 have b2 := ((Below.refl wa.heap.size wa).cell (p := ⟨w.heap.size + 1, 2, none⟩) hz1).trans B2.out
 have b3 := ((Below.refl wa.heap.size wa).cell (p := ⟨w.heap.size + 1, 3, none⟩) hz1).trans B3.out
 go_wp2_with fail
 refine (HF.out _ _ _ HA.out HT.out).mono ?_
 rintro e w2 ⟨⟨v, rfl, hown, hl⟩, hb⟩
 have HOWN := Lib.hid hown
 have HB2 := Lib.hid hb
 have HL := Lib.hid hl
 obtain ⟨Al, cl, rfl, _⟩ := mx_slice hown
 clear hb a0 a1 b0 b1 b2 b3 hown hl HF
 by_cases he : err = 0
 ·
  subst he
  have hl0 : l0.length ≤ 4096 := HL.out
  have HI0 := Lib.hid (show rIter a.all t.items (rGr t.items 0 l0) N ⟨l0, l0, [], []⟩ = some res from HIT.out rfl)
  obtain ⟨top, htop⟩ : ∃ z, rGr t.items 0 l0 = z := ⟨_, rfl⟩
  rw [htop] at HI0
  have HTOP := Lib.hid htop
  clear htop HIT
  have b0 := (HB2.out.cell (p := ⟨w.heap.size + 1, 0, none⟩) hz1).trans B0.out
  have b1 := (HB2.out.cell (p := ⟨w.heap.size + 1, 1, none⟩) hz1).trans B1.out
  have b2 := (HB2.out.cell (p := ⟨w.heap.size + 1, 2, none⟩) hz1).trans B2.out
  have b3 := (HB2.out.cell (p := ⟨w.heap.size + 1, 3, none⟩) hz1).trans B3.out
  go_wp2_with fail
  refine (ref_greatest (.slice Al l0.length cl) l0 t _ w2 (HT.out.below HB2.out) HOK.out (IntsIn.of_own HOWN.out) (by omega) (fun x hx => rVl_place (by have := HFN.out x hx; omega))).mono ?_
  rintro e w3 ⟨rfl, hb⟩
  rw [HTOP.out]
  have HB3 := Lib.hid (HB2.out.trans (hb.mono HB2.out.size))
  have HOW3 := Lib.hid (own_below HOWN.out hb)
  clear hb b0 b1 b2 b3 HOWN
  have hz3 := HB3.out.size
  have hE := own_none w3 wa.heap.size 3 1 hz3
  have HE := Lib.hid hE
  have HOWE := Lib.hid (own_below HOW3.out (mx_al w3 (.cells #[] 3)))
  clear hE
  go_wp2_with (at_builtin; refine wpList_append_any rfl _ _ 36 rfl wa.heap.size 3 i0 (.int .i64 0) 1 8 Tryz.underlying36 hi0 hi1 hi2 hi3 rfl (by decide) _ 0 _ rfl HE.out (.slice Al l0.length cl) l0.length (l0.map (Value.int .i64)) rfl (IntsIn.src (IntsIn.of_own HOWE.out)) (by simp) (by intro u hu; obtain ⟨z, _, rfl⟩ := List.mem_map.1 hu; rfl) (by unfold maxLen; omega) (by omega) (by simp; omega) ?_; intro v' w4 hown hgrow hat)
  rw [Nat.zero_add, List.nil_append] at hown
  obtain ⟨Am, cm, rfl, _⟩ := mx_slice hown
  have hB4 := (HB3.out.trans ((mx_al w3 (.cells #[] 3)).mono hz3)).grown hgrow (by simp; omega) (fun g hg => by
   have : w3.heap.size = g := Option.some.inj hg
   omega)
  have hol := own_kept HOWE.out (Kept.grown hgrow) (fun g hg e => by
   have h1 := (own_lt HOW3.out g hg).2
   have h2 : w3.heap.size = g := Option.some.inj e.symm
   omega)
  have hR : Rws w4 wa.heap.size 6 (s6 (.slice Al l0.length cl) (.slice Am l0.length cm) (.slice none 0 0) (.slice none 0 0) (.slice none 0 0) (.slice none 0 0)) (s6 l0 l0 [] [] [] []) := by
   have hnone : Rws w4 wa.heap.size 6 (fun _ => .slice none 0 0) (fun _ => []) := ⟨fun i _ => World.ownsRow_nil _ _ _ _, fun i j _ _ _ g hg => by cases hg⟩
   have h0 := hnone.put 0 hol (fun j _ _ g _ hg => by cases hg)
   have h1 := h0.put 1 hown (fun j hj hne g hg hj2 => by
    match j, hne with
    | 0, _ =>
     have e1 := (own_lt HOW3.out g hj2).2
     have e2 := (own_lt hown g hg).1
     rcases hat with e | e
     ·
      rw [e] at hg
      have : w3.heap.size = g := Option.some.inj hg
      omega
     ·
      rw [e] at hg
      have : (w3.alloc (.cells #[] 3)).heap.size = g := Option.some.inj hg
      rw [World.size_alloc] at this
      omega
    | 1, hne => exact absurd rfl hne
    | n + 2, _ => cases hj2)
   exact h1.congr (fun j hj => match j, hj with | 0, _ => rfl | 1, _ => rfl | 2, _ => rfl | 3, _ => rfl | 4, _ => rfl | 5, _ => rfl | n + 6, h => absurd h (by omega)) (fun j hj => match j, hj with | 0, _ => rfl | 1, _ => rfl | 2, _ => rfl | 3, _ => rfl | 4, _ => rfl | 5, _ => rfl | n + 6, h => absurd h (by omega))
  have HR := Lib.hid hR
  have HB4 := Lib.hid hB4
  clear hown hgrow hat hB4 hol hR HE HOWE HOW3
  go_wp2_with fail
  go_loopw [8, 11, 12, 13] (fun lv mv hv kv wr => ∃ (n m : Nat) (s : RSt), m + n = N ∧ Hid (s.hints.length = m ∧ s.keys.length = m) ∧ s.hints.length ≤ 100 ∧ s.keys.length ≤ 100 ∧ s.l.length ≤ 4096 * (m + 1) ∧ s.met.length ≤ 4096 * (m + 1) ∧ Hid (∀ x ∈ s.l, rVl t.items x < 0) ∧ Hid (∀ x ∈ s.met, rVl t.items x < 0) ∧ Hid (rIter a.all t.items top n s = some res) ∧ Hid (Rws wr wa.heap.size 6 (s6 lv mv hv kv (.slice none 0 0) (.slice none 0 0)) (s6 s.l s.met s.hints s.keys [] [])) ∧ Hid (Below wa.heap.size wa wr)) (fun _ _ hv _ _ => N - slLen hv)
  case atStart => exact ⟨N, 0, ⟨l0, l0, [], []⟩, by omega, Lib.hid ⟨rfl, rfl⟩, Nat.zero_le _, Nat.zero_le _, by simp only; omega, by simp only; omega, HFN, HFN, HI0, HR, HB4⟩
  case round =>
   obtain ⟨n, m, s, hmn, HLHK, hlh, hlk, hll, hlm, HSN, HMN, HI, HRR, HW⟩ := hrel
   obtain ⟨E0, c0, rfl, hc0⟩ := mx_slice HRR.out.r0
   obtain ⟨E1, c1, rfl, _⟩ := mx_slice HRR.out.r1
   obtain ⟨E2, c2, rfl, _⟩ := mx_slice HRR.out.r2
   obtain ⟨E3, c3, rfl, _⟩ := mx_slice HRR.out.r3
   have hzw := HW.out.size
   have b0 := (HW.out.cell (p := ⟨w.heap.size + 1, 0, none⟩) hz1).trans B0.out
   have b1 := (HW.out.cell (p := ⟨w.heap.size + 1, 1, none⟩) hz1).trans B1.out
   have b2 := (HW.out.cell (p := ⟨w.heap.size + 1, 2, none⟩) hz1).trans B2.out
   have b3 := (HW.out.cell (p := ⟨w.heap.size + 1, 3, none⟩) hz1).trans B3.out
   have HG := Lib.hid (show Calls Tryz.prog 96 #[.agg #[.int .i64 t.vars, .int .i64 t.now, iv, sv], .slice E0 s.l.length c0, .int .i64 top] wr fun e w' => e = .returned (.int .i64 (rGoes t.items s.l top)) ∧ Below wr.heap.size wr w' from ref_goes top (.slice E0 s.l.length c0) s.l t _ wr (HT.out.below HW.out) HOK.out (IntsIn.of_own HRR.out.r0) (by omega) (fun x hx => rVl_place (by have := HSN.out x hx; omega)))
   obtain ⟨g, hg⟩ : ∃ g, rGoes t.items s.l top = g := ⟨_, rfl⟩
   rw [hg] at HG
   have hgl := rGoes_lt t.items s.l top
   rw [hg] at hgl
   have HGG := Lib.hid hg
   clear hg
   by_cases hg0 : 0 ≤ g
   ·
    have q0 : decide (0 ≤ g) = true := by simpa using hg0
    obtain ⟨gi, rfl⟩ : ∃ q : Nat, g = q := ⟨_, (Int.toNat_of_nonneg hg0).symm⟩
    have hgil : gi < s.l.length := by omega
    obtain ⟨y, hy⟩ := getElem_of hgil
    have hneg : rVl t.items y < 0 := HSN.out y (List.mem_of_getElem? hy)
    have HYD := Lib.hid (show s.l.getD gi 0 = y from by rw [List.getD_eq_getElem?_getD, hy]; rfl)
    obtain ⟨n, rfl⟩ : ∃ n', n = n' + 1 := by
     cases n with
     | zero =>
      have h := HI.out
      unfold rIter at h
      rw [HGG.out, if_neg (by omega)] at h
      cases h
     | succ n => exact ⟨n, rfl⟩
    have HI2 := Lib.hid (show (match rReason a.all t.items y with
     | none => some none
     | some (r, b) => rIter a.all t.items top n (rNext t.items s gi r b)) = some res from by
      have h := HI.out
      unfold rIter at h
      rw [HGG.out, if_neg (by omega), Int.toNat_natCast, HYD.out] at h
      exact h)
    have hlity := litV_lit (l := y) (by
     have h1 := rVl_place (its := t.items) (x := y) (by omega)
     rcases Nat.eq_zero_or_pos (litV y) with h2 | h2
     ·
      rw [h2] at h1
      have h3 : rP t.items 0 = -1 := rP_zero t.items
      rw [show ((0 : Nat) : Int) = 0 from rfl, h3] at h1
      omega
     ·
      exact h2)
    have HPY := Lib.hid (rVl_place (its := t.items) (x := y) (by omega))
    have HRE := Lib.hid (fun (w : World) av tv (ha : RAAt w av a) (h : RTAt w tv t) => ref_reason y a t av tv w ha h HAO.out HOK.out (by omega) (by omega) HPY.out)
    have HPL := Lib.hid (fun (w : World) tv (h : RTAt w tv t) => ref_place14 y t tv w h HOK.out)
    obtain ⟨gl, cl2, csl, hA0, _, hgl1, hgl2, _, _⟩ := mx_some HRR.out.r0 (show 0 < s.l.length by omega)
    simp only [Value.slice.injEq, true_and] at hA0
    obtain ⟨rfl, rfl⟩ := hA0
    have HLC := Lib.hid (fun (W : World) (hR : W.ownsRow wa.heap.size 3 1 (.slice (some ⟨gl, 0, none⟩) s.l.length c0) s.l.length (s.l.map (Value.int .i64))) => (mx_at hR (by rw [List.getElem?_map, hy]; rfl) : W.cell? ⟨gl, gi, none⟩ = some (.int .i64 y)))
    have hgc : gi < c0 := by omega
    clear hy hneg HI hlity hgl hg0
    go_wp2_with fail
    refine HG.out.mono ?_
    rintro e w5 ⟨rfl, hb⟩
    have HB5 := Lib.hid (HW.out.trans (hb.mono hzw))
    have HR5 := Lib.hid (HRR.out.below hb)
    clear hb b0 b1 b2 b3 HG
    have b0 := (HB5.out.cell (p := ⟨w.heap.size + 1, 0, none⟩) hz1).trans B0.out
    have b1 := (HB5.out.cell (p := ⟨w.heap.size + 1, 1, none⟩) hz1).trans B1.out
    have b2 := (HB5.out.cell (p := ⟨w.heap.size + 1, 2, none⟩) hz1).trans B2.out
    have b3 := (HB5.out.cell (p := ⟨w.heap.size + 1, 3, none⟩) hz1).trans B3.out
    have HG2 := Lib.hid (ref_goes top (.slice (some ⟨gl, 0, none⟩) s.l.length c0) s.l t _ w5 (HT.out.below HB5.out) HOK.out (IntsIn.of_own HR5.out.r0) (by omega) (fun x hx => rVl_place (by have := HSN.out x hx; omega)))
    go_wp2_with fail
    refine HG2.out.mono ?_
    rintro e w6 ⟨rfl, hb⟩
    rw [HGG.out]
    have HB6 := Lib.hid (HB5.out.trans (hb.mono HB5.out.size))
    have HR6 := Lib.hid (HR5.out.below hb)
    clear hb b0 b1 b2 b3 HG2 HRR HR5
    go_upto_region 9 with fail
    refine wp_region_held_drew (S := fun w' => Below wa.heap.size wa w') (by kernel_rfl) (HB6.out.trans ((mx_drew w6).mono HB6.out.size)) (fun hS => ?_)
    have HRD := Lib.hid (HR6.out.below (mx_drew w6))
    obtain ⟨wD, hwD⟩ : ∃ x, (w6).drew = x := ⟨_, rfl⟩
    rw [hwD] at hS HRD ⊢
    clear hwD
    refine takeF 0 53 (fun wq hSw => And.intro ((hSw.cell (p := ⟨w.heap.size, 0, none⟩) hz0).trans A0.out) ((hSw.cell (p := ⟨w.heap.size, 1, none⟩) hz0).trans A1.out)) ?_
    refine takeF 1 54 (fun wq hSw => And.intro ((hSw.cell (p := ⟨w.heap.size + 1, 0, none⟩) hz1).trans B0.out) (And.intro ((hSw.cell (p := ⟨w.heap.size + 1, 1, none⟩) hz1).trans B1.out) (And.intro ((hSw.cell (p := ⟨w.heap.size + 1, 2, none⟩) hz1).trans B2.out) ((hSw.cell (p := ⟨w.heap.size + 1, 3, none⟩) hz1).trans B3.out)))) ?_
    refine takeE 2 55 ?_
    refine takeE 3 56 ?_
    refine takeE 4 57 ?_
    have k0 := HLC.out wD HRD.out.r0
    refine ready1 5 (fun K hK => ?_)
    go_simp
    refine hK.out _ _ hS (fun _ => ?_)
    clear hK k0
    refine ready1 6 (fun K hK => ?_)
    go_simp
    refine (HRE.out wD _ _ (HA.out.below hS) (HT.out.below hS)).mono ?_
    rintro e w7 ⟨hor, hbN⟩
    have hSN := hS.trans (hbN.mono hS.size)
    rcases hor with ⟨v7, r, by_, hrr, rfl, hown, hrl⟩ | ⟨hrr, rfl⟩
    ·
     have HR7 := Lib.hid ((HRD.out.fresh hS.size hbN 5 hown).congr (up6_5 _ _ _ _ _ _ _) (up6_5 _ _ _ _ _ _ _))
     have HI3 := Lib.hid (show rIter a.all t.items top n (rNext t.items s gi r by_) = some res from by have h := HI2.out; rw [hrr] at h; exact h)
     have HRN := Lib.hid (rReason_neg hrr)
     obtain ⟨A5, c5, rfl, _⟩ := mx_slice hown
     refine hK.out _ _ hSN (fun _ => ?_)
     have HB7 := Lib.hid hSN
     clear hK hS hSN hbN hown hrr HI2 HRE HRD HR6
     refine takeE 7 52 ?_
     refine takeE 8 60 ?_
     refine takeE 9 61 ?_
     refine takeE 10 62 ?_
     refine takeE 11 15 ?_
     refine takeE 12 16 ?_
     refine takeE 13 17 ?_
     refine wpAnyH_done (by kernel_rfl) ?_ _
     go_wp2_with (at_builtin; refine wpList_append_own_at _ rfl _ _ 36 rfl wa.heap.size 3 i0 (.int .i64 0) 1 8 Tryz.underlying36 hi0 hi1 hi2 hi3 rfl (by decide) _ s.hints.length _ rfl (HR7.out.below (mx_al w7 (.cells #[.int .i64 by_] 3))).r2 ⟨w7.heap.size, 0, none⟩ 1 1 [.int .i64 by_] rfl rfl (cell_one _ _ _) (by simp [Value.oneCell']) (by unfold maxLen; omega) (by omega) (by have := HB7.out.size; simp; omega) ?_; intro v' w8 hown hgrow hnl hat; have hRG := ((HR7.out.below (mx_al w7 (.cells #[.int .i64 by_] 3))).grow 2 (u := v') (ys := (s.hints ++ [by_])) hgrow (by rw [List.length_append, List.map_append]; exact hown) hat (by decide)).congr (up6_2 _ _ _ _ _ _ _) (up6_2 _ _ _ _ _ _ _); have hBG := (HB7.out.trans ((mx_al w7 (.cells #[.int .i64 by_] 3)).mono HB7.out.size)).grown hgrow (by have := HB7.out.size; simp; omega) (fun g hg => (own_lt HR7.out.r2 g hg).1); obtain ⟨Aw8, kw8, hv2, _⟩ := mx_slice hown; subst hv2; have HRw8 := Lib.hid hRG; have HBw8 := Lib.hid hBG; clear hown hgrow hnl hat hRG hBG)
     have HPL8 := Lib.hid (fun (w : World) tv (h : RTAt w tv t) => HPL.out w tv h)
     go_upto_region 13 with fail
     refine wp_region_held_drew (S := fun w' => Below wa.heap.size wa w') (by kernel_rfl) (HBw8.out.trans ((mx_drew w8).mono HBw8.out.size)) (fun hS => ?_)
     have HRD := Lib.hid (HRw8.out.below (mx_drew w8))
     obtain ⟨wD, hwD⟩ : ∃ x, (w8).drew = x := ⟨_, rfl⟩
     rw [hwD] at hS HRD ⊢
     clear hwD
     refine takeE 0 70 ?_
     refine takeF 1 71 (fun wq hSw => And.intro ((hSw.cell (p := ⟨w.heap.size + 1, 0, none⟩) hz1).trans B0.out) (And.intro ((hSw.cell (p := ⟨w.heap.size + 1, 1, none⟩) hz1).trans B1.out) (And.intro ((hSw.cell (p := ⟨w.heap.size + 1, 2, none⟩) hz1).trans B2.out) ((hSw.cell (p := ⟨w.heap.size + 1, 3, none⟩) hz1).trans B3.out)))) ?_
     refine takeE 2 72 ?_
     refine takeE 3 73 ?_
     refine takeE 4 74 ?_
     have k0 := HLC.out wD HRD.out.r0
     refine ready1 5 (fun K hK => ?_)
     go_simp
     refine hK.out _ _ hS (fun _ => ?_)
     clear hK k0
     refine ready1 6 (fun K hK => ?_)
     go_simp
     refine (HPL.out wD _ (HT.out.below hS)).mono ?_
     rintro e y1 ⟨rfl, hbN⟩
     have hSN := hS.trans (hbN.mono hS.size)
     have HRN := Lib.hid (HRD.out.below hbN)
     clear HRD
     have HRD := HRN
     clear HRN
     refine hK.out _ _ hSN (fun _ => ?_)
     clear hK hbN hS
     have hS := hSN
     clear hSN
     refine ready1 7 (fun K hK => ?_)
     go_simp
     obtain ⟨pk, hpk⟩ : ∃ z, rP t.items (litV y : Nat) = z := ⟨_, rfl⟩
     rw [hpk]
     have HPK := Lib.hid hpk
     obtain ⟨y2, hwn⟩ : ∃ z, y1.alloc (.cells #[.int .i64 pk] 3) = z := ⟨_, rfl⟩
     have hbn : Below y1.heap.size y1 y2 := by rw [← hwn]; exact mx_al _ _
     have hnn := mx_src y1 3 [.int .i64 pk]
     rw [show ([.int .i64 pk] : List Value).toArray = #[.int .i64 pk] from rfl, hwn] at hnn
     rw [hwn]
     have HNW := Lib.hid hnn
     have HRY := Lib.hid (HRD.out.below hbn)
     have hSN := hS.trans (hbn.mono hS.size)
     refine hK.out _ _ hSN (fun _ => ?_)
     clear hK hbn hS hnn hwn HRD hpk
     have hS := hSN
     clear hSN
     refine ready1 8 (fun K hK => ?_)
     rw [if_pos (by rfl)]
     refine wp_append_any_at 78 (by rfl) _ _ 36 rfl wa.heap.size 3 i0 (.int .i64 0) 1 8 Tryz.underlying36 hi0 hi1 hi2 hi3 rfl (by decide) _ s.keys.length _ (by rfl) HRY.out.r3 (.slice (some ⟨y1.heap.size, 0, none⟩) 1 1) 1 [.int .i64 pk] (by rfl) HNW.out rfl (by simp [Value.oneCell']) (by unfold maxLen; omega) (by omega) hS.size ?_
     intro v' y3 hown hgrow hat
     have hRG := (HRY.out.grow 3 (u := v') (ys := s.keys ++ [pk]) hgrow (by rw [List.length_append, List.map_append]; exact hown) hat (by decide)).congr (up6_3 _ _ _ _ _ _ _) (up6_3 _ _ _ _ _ _ _)
     have hSN := hS.grown hgrow hS.size (fun g hg => (own_lt HRY.out.r3 g hg).1)
     obtain ⟨Ak, kk, rfl, _⟩ := mx_slice hown
     have HRy3 := Lib.hid hRG
     have HBy3 := Lib.hid hSN
     refine hK.out _ _ hSN (fun _ => ?_)
     clear hK hown hgrow hat hS hSN hRG HNW HRY
     refine takeE 9 13 ?_
     refine wpAnyH_done (by kernel_rfl) ?_ _
     have hnk : (s.l.eraseIdx gi).length ≤ 4096 * (m + 1) := Nat.le_trans (List.length_eraseIdx_le _ _) hll
     go_wp2_with fail
     go_loopw [18, 19] (fun nv kv wr => ∃ (k : Nat), k ≤ s.l.length ∧ kv = .int .i64 k ∧ Hid (Rws wr wa.heap.size 6 (s6 (.slice (some ⟨gl, 0, none⟩) s.l.length c0) (.slice E1 s.met.length c1) (.slice Aw8 (s.hints.length + 1) kw8) (.slice Ak (s.keys.length + 1) kk) nv (.slice A5 r.length c5)) (s6 s.l s.met (s.hints ++ [by_]) (s.keys ++ [pk]) ((s.l.take k).eraseIdx gi) r)) ∧ Hid (Below wa.heap.size wa wr)) (fun _ kv _ => s.l.length - (intOf kv).toNat)
     case atStart => exact ⟨0, Nat.zero_le _, rfl, HRy3, HBy3⟩
     case round =>
      obtain ⟨k, hk, rfl, HRW, HW2⟩ := hrel
      obtain ⟨En, cn, rfl, _⟩ := mx_slice HRW.out.r4
      by_cases hlt : k < s.l.length
      ·
       obtain ⟨x, hx⟩ := getElem_of hlt
       have f0 : wr.cell? ⟨gl, k, none⟩ = some (.int .i64 x) := mx_at HRW.out.r0 (by rw [List.getElem?_map, hx]; rfl)
       have hkc : k < c0 := by omega
       have hel := er_len s.l k gi
       by_cases hkg : k = gi
       ·
        have q0 : ((k : Int) == (gi : Int)) = true := by rw [hkg]; simp
        have q1 : ((k : Int) != (gi : Int)) = false := by rw [hkg]; simp
        have HE2 := Lib.hid (show ((s.l.take k).eraseIdx gi) = ((s.l.take (k + 1)).eraseIdx gi) from by rw [hkg]; exact (er_eq s.l gi hgil).symm)
        clear hkg hx f0
        go_wp2_with fail
        go_roundw
        case rel => exact ⟨k + 1, by omega, by go_num, Lib.hid (by rw [← HE2.out]; exact HRW.out), HW2⟩
        case measure => simp [intOf]; omega
       ·
        have q0 : ((k : Int) == (gi : Int)) = false := by simp; omega
        have q1 : ((k : Int) != (gi : Int)) = true := by simp; omega
        have HE2 := Lib.hid (show ((s.l.take (k + 1)).eraseIdx gi) = ((s.l.take k).eraseIdx gi) ++ [x] from er_ne hx hkg)
        obtain ⟨nx, hnx⟩ : ∃ z, ((s.l.take k).eraseIdx gi) = z := ⟨_, rfl⟩
        rw [hnx] at HRW HE2 hel ⊢
        clear hkg hx hnx
        go_wp2_with (at_builtin; refine wpList_append_own_at _ rfl _ _ 36 rfl wa.heap.size 3 i0 (.int .i64 0) 1 8 Tryz.underlying36 hi0 hi1 hi2 hi3 rfl (by decide) _ nx.length _ rfl (HRW.out.below (mx_al wr (.cells #[.int .i64 x] 3))).r4 ⟨wr.heap.size, 0, none⟩ 1 1 [.int .i64 x] rfl rfl (cell_one _ _ _) (by simp [Value.oneCell']) (by unfold maxLen; omega) (by omega) (by have := HW2.out.size; simp; omega) ?_; intro v' w9 hown hgrow hnl hat; have hRG := ((HRW.out.below (mx_al wr (.cells #[.int .i64 x] 3))).grow 4 (u := v') (ys := (nx ++ [x])) hgrow (by rw [List.length_append, List.map_append]; exact hown) hat (by decide)).congr (up6_4 _ _ _ _ _ _ _) (up6_4 _ _ _ _ _ _ _); have hBG := (HW2.out.trans ((mx_al wr (.cells #[.int .i64 x] 3)).mono HW2.out.size)).grown hgrow (by have := HW2.out.size; simp; omega) (fun g hg => (own_lt HRW.out.r4 g hg).1); obtain ⟨Aw9, kw9, hv2, _⟩ := mx_slice hown; subst hv2; have HRw9 := Lib.hid hRG; have HBw9 := Lib.hid hBG; clear hown hgrow hnl hat hRG hBG)
        go_roundw
        case rel => exact ⟨k + 1, by omega, by go_num, Lib.hid (by rw [HE2.out]; exact HRw9.out), HBw9⟩
        case measure => simp [intOf]; omega
      ·
       obtain rfl : k = s.l.length := by omega
       have hR2 := HRW.out
       rw [List.take_length] at hR2
       have HR2 := Lib.hid hR2
       rw [List.take_length]
       obtain ⟨er, her⟩ : ∃ z, s.l.eraseIdx gi = z := ⟨_, rfl⟩
       rw [her] at HR2 hnk ⊢
       have HER := Lib.hid her
       clear hR2 HRW her
       go_wp2_with fail
       go_loopw [18, 11, 20] (fun nv mv jv wr => ∃ (j : Nat) (nx mt : List Int), j ≤ r.length ∧ jv = .int .i64 j ∧ nx.length ≤ 4096 * (m + 1) + j ∧ mt.length ≤ 4096 * (m + 1) + j ∧ Hid (rAdd er r = rAdd nx (r.drop j)) ∧ Hid (rAdd s.met r = rAdd mt (r.drop j)) ∧ Hid (Rws wr wa.heap.size 6 (s6 (.slice (some ⟨gl, 0, none⟩) s.l.length c0) mv (.slice Aw8 (s.hints.length + 1) kw8) (.slice Ak (s.keys.length + 1) kk) nv (.slice A5 r.length c5)) (s6 s.l mt (s.hints ++ [by_]) (s.keys ++ [pk]) nx r)) ∧ Hid (Below wa.heap.size wa wr)) (fun _ _ jv _ => r.length - (intOf jv).toNat)
       case atStart => exact ⟨0, er, s.met, Nat.zero_le _, rfl, hnk, hlm, Lib.hid rfl, Lib.hid rfl, HR2, HW2⟩
       case round =>
        obtain ⟨j, nx, mt, hj, rfl, hnxl, hmtl, HX, HM, HR3, HW3⟩ := hrel
        obtain ⟨En, cn2, rfl, _⟩ := mx_slice HR3.out.r4
        obtain ⟨Em, cm2, rfl, _⟩ := mx_slice HR3.out.r1
        by_cases hlt : j < r.length
        ·
         obtain ⟨x, hx⟩ := getElem_of hlt
         have HXJ := Lib.hid hx
         have HDR := Lib.hid (drop_at hx)
         obtain ⟨A7, c7, hA7, hlc7, _, hxs7⟩ := IntsIn.of_own HR3.out.r5
         simp only [Value.slice.injEq, true_and] at hA7
         obtain ⟨rfl, rfl⟩ := hA7
         obtain ⟨g7, o7, hA7, hg7, _, f7⟩ := hxs7 j x hx
         have HA7 := Lib.hid hA7
         subst hA7
         have hjc : j < c5 := by omega
         clear hx hxs7
         have HH1 := ref_has14 x (.slice En nx.length cn2) nx wr (IntsIn.of_own HR3.out.r4) (by omega)
         obtain ⟨b1, hb1⟩ : ∃ b, nx.contains x = b := ⟨_, rfl⟩
         rw [hb1] at HH1
         have HH1 := Lib.hid HH1
         go_wp2_with fail
         refine HH1.out.mono ?_
         rintro e w' ⟨rfl, rfl⟩
         cases b1 with
         | true =>
          have HX2 := Lib.hid (show rAdd er r = rAdd nx (r.drop (j + 1)) from by rw [HX.out, HDR.out]; show rAdd (if nx.contains x = true then nx else nx ++ [x]) _ = _; rw [if_pos hb1])
          clear HH1 hb1 f7
          have HH2 := ref_has14 x (.slice Em mt.length cm2) mt wr (IntsIn.of_own HR3.out.r1) (by omega)
          obtain ⟨b2, hb2⟩ : ∃ b, mt.contains x = b := ⟨_, rfl⟩
          rw [hb2] at HH2
          have HH2 := Lib.hid HH2
          obtain ⟨A8, c8, hA8, _, _, hxs8⟩ := IntsIn.of_own HR3.out.r5
          simp only [Value.slice.injEq, true_and] at hA8
          obtain ⟨rfl, rfl⟩ := hA8
          obtain ⟨g8, o8, e8, hg8, _, f8⟩ := hxs8 j x HXJ.out
          simp only [Option.some.injEq, Addr.mk.injEq, and_true] at e8
          obtain ⟨rfl, rfl⟩ := e8
          clear hxs8
          go_wp2_with fail
          refine HH2.out.mono ?_
          rintro e w' ⟨rfl, rfl⟩
          cases b2 with
          | true =>
           have HM2 := Lib.hid (show rAdd s.met r = rAdd mt (r.drop (j + 1)) from by rw [HM.out, HDR.out]; show rAdd (if mt.contains x = true then mt else mt ++ [x]) _ = _; rw [if_pos hb2])
           clear HH2 hb2
           go_wp2_with fail
           go_roundw
           case rel => exact ⟨j + 1, nx, mt, by omega, by go_num, by omega, by omega, HX2, HM2, HR3, HW3⟩
           case measure => simp [intOf]; omega
          | false =>
           have HM2 := Lib.hid (show rAdd s.met r = rAdd (mt ++ [x]) (r.drop (j + 1)) from by rw [HM.out, HDR.out]; show rAdd (if mt.contains x = true then mt else mt ++ [x]) _ = _; rw [if_neg (by rw [hb2]; decide)])
           clear HH2 hb2
           go_wp2_with (at_builtin; refine wpList_append_own_at _ rfl _ _ 36 rfl wa.heap.size 3 i0 (.int .i64 0) 1 8 Tryz.underlying36 hi0 hi1 hi2 hi3 rfl (by decide) _ mt.length _ rfl (HR3.out.below (mx_al wr (.cells #[.int .i64 x] 3))).r1 ⟨wr.heap.size, 0, none⟩ 1 1 [.int .i64 x] rfl rfl (cell_one _ _ _) (by simp [Value.oneCell']) (by unfold maxLen; omega) (by omega) (by have := HW3.out.size; simp; omega) ?_; intro v' z1 hown hgrow hnl hat; have hRG := ((HR3.out.below (mx_al wr (.cells #[.int .i64 x] 3))).grow 1 (u := v') (ys := (mt ++ [x])) hgrow (by rw [List.length_append, List.map_append]; exact hown) hat (by decide)).congr (up6_1 _ _ _ _ _ _ _) (up6_1 _ _ _ _ _ _ _); have hBG := (HW3.out.trans ((mx_al wr (.cells #[.int .i64 x] 3)).mono HW3.out.size)).grown hgrow (by have := HW3.out.size; simp; omega) (fun g hg => (own_lt HR3.out.r1 g hg).1); obtain ⟨Az1, kz1, hv2, _⟩ := mx_slice hown; subst hv2; have HRz1 := Lib.hid hRG; have HBz1 := Lib.hid hBG; clear hown hgrow hnl hat hRG hBG)
           go_roundw
           case rel => exact ⟨j + 1, nx, mt ++ [x], by omega, by go_num, by omega, by simp; omega, HX2, HM2, HRz1, HBz1⟩
           case measure => simp [intOf]; omega
         | false =>
          have HX2 := Lib.hid (show rAdd er r = rAdd (nx ++ [x]) (r.drop (j + 1)) from by rw [HX.out, HDR.out]; show rAdd (if nx.contains x = true then nx else nx ++ [x]) _ = _; rw [if_neg (by rw [hb1]; decide)])
          clear HH1 hb1
          go_wp2_with (at_builtin; refine wpList_append_own_at _ rfl _ _ 36 rfl wa.heap.size 3 i0 (.int .i64 0) 1 8 Tryz.underlying36 hi0 hi1 hi2 hi3 rfl (by decide) _ nx.length _ rfl (HR3.out.below (mx_al wr (.cells #[.int .i64 x] 3))).r4 ⟨wr.heap.size, 0, none⟩ 1 1 [.int .i64 x] rfl rfl (cell_one _ _ _) (by simp [Value.oneCell']) (by unfold maxLen; omega) (by omega) (by have := HW3.out.size; simp; omega) ?_; intro v' z0 hown hgrow hnl hat; have hRG := ((HR3.out.below (mx_al wr (.cells #[.int .i64 x] 3))).grow 4 (u := v') (ys := (nx ++ [x])) hgrow (by rw [List.length_append, List.map_append]; exact hown) hat (by decide)).congr (up6_4 _ _ _ _ _ _ _) (up6_4 _ _ _ _ _ _ _); have hBG := (HW3.out.trans ((mx_al wr (.cells #[.int .i64 x] 3)).mono HW3.out.size)).grown hgrow (by have := HW3.out.size; simp; omega) (fun g hg => (own_lt HR3.out.r4 g hg).1); obtain ⟨Az0, kz0, hv2, _⟩ := mx_slice hown; subst hv2; have HRz0 := Lib.hid hRG; have HBz0 := Lib.hid hBG; clear hown hgrow hnl hat hRG hBG; have f8 := ints_cell (IntsIn.of_own HRz0.out.r5) HXJ.out)
          clear f7
          have HH2 := ref_has14 x (.slice Em mt.length cm2) mt z0 (IntsIn.of_own HRz0.out.r1) (by omega)
          obtain ⟨b2, hb2⟩ : ∃ b, mt.contains x = b := ⟨_, rfl⟩
          rw [hb2] at HH2
          have HH2 := Lib.hid HH2
          go_wp2_with fail
          refine HH2.out.mono ?_
          rintro e w' ⟨rfl, rfl⟩
          cases b2 with
          | true =>
           have HM2 := Lib.hid (show rAdd s.met r = rAdd mt (r.drop (j + 1)) from by rw [HM.out, HDR.out]; show rAdd (if mt.contains x = true then mt else mt ++ [x]) _ = _; rw [if_pos hb2])
           clear HH2 hb2
           go_wp2_with fail
           go_roundw
           case rel => exact ⟨j + 1, (nx ++ [x]), mt, by omega, by go_num, by simp; omega, by omega, HX2, HM2, HRz0, HBz0⟩
           case measure => simp [intOf]; omega
          | false =>
           have HM2 := Lib.hid (show rAdd s.met r = rAdd (mt ++ [x]) (r.drop (j + 1)) from by rw [HM.out, HDR.out]; show rAdd (if mt.contains x = true then mt else mt ++ [x]) _ = _; rw [if_neg (by rw [hb2]; decide)])
           clear HH2 hb2
           go_wp2_with (at_builtin; refine wpList_append_own_at _ rfl _ _ 36 rfl wa.heap.size 3 i0 (.int .i64 0) 1 8 Tryz.underlying36 hi0 hi1 hi2 hi3 rfl (by decide) _ mt.length _ rfl (HRz0.out.below (mx_al z0 (.cells #[.int .i64 x] 3))).r1 ⟨z0.heap.size, 0, none⟩ 1 1 [.int .i64 x] rfl rfl (cell_one _ _ _) (by simp [Value.oneCell']) (by unfold maxLen; omega) (by omega) (by have := HBz0.out.size; simp; omega) ?_; intro v' z1 hown hgrow hnl hat; have hRG := ((HRz0.out.below (mx_al z0 (.cells #[.int .i64 x] 3))).grow 1 (u := v') (ys := (mt ++ [x])) hgrow (by rw [List.length_append, List.map_append]; exact hown) hat (by decide)).congr (up6_1 _ _ _ _ _ _ _) (up6_1 _ _ _ _ _ _ _); have hBG := (HBz0.out.trans ((mx_al z0 (.cells #[.int .i64 x] 3)).mono HBz0.out.size)).grown hgrow (by have := HBz0.out.size; simp; omega) (fun g hg => (own_lt HRz0.out.r1 g hg).1); obtain ⟨Az1, kz1, hv2, _⟩ := mx_slice hown; subst hv2; have HRz1 := Lib.hid hRG; have HBz1 := Lib.hid hBG; clear hown hgrow hnl hat hRG hBG)
           go_roundw
           case rel => exact ⟨j + 1, (nx ++ [x]), mt ++ [x], by omega, by go_num, by simp; omega, by simp; omega, HX2, HM2, HRz1, HBz1⟩
           case measure => simp [intOf]; omega
        ·
         obtain rfl : j = r.length := by omega
         have HXE := Lib.hid (show rNext t.items s gi r by_ = ⟨nx, mt, (s.hints ++ [by_]), (s.keys ++ [pk])⟩ from by
          have h1 := HX.out
          have h2 := HM.out
          rw [List.drop_length] at h1 h2
          unfold rNext
          rw [HYD.out, HPK.out, HER.out, h1, h2]
          rfl)
         have HMV := Lib.hid HR3.out.move
         have HSN2 := Lib.hid (show ∀ x ∈ nx, rVl t.items x < 0 from fun x hx => by
          have h1 := HX.out
          rw [List.drop_length] at h1
          have h2 : x ∈ rAdd er r := by rw [h1]; exact hx
          rcases rAdd_mem h2 with h | h
          ·
           exact HSN.out x (List.mem_of_mem_eraseIdx (HER.out ▸ h))
          ·
           exact HRN.out x h)
         have HMN2 := Lib.hid (show ∀ x ∈ mt, rVl t.items x < 0 from fun x hx => by
          have h1 := HM.out
          rw [List.drop_length] at h1
          have h2 : x ∈ rAdd s.met r := by rw [h1]; exact hx
          rcases rAdd_mem h2 with h | h
          ·
           exact HMN.out x h
          ·
           exact HRN.out x h)
         have HI4 := Lib.hid (show rIter a.all t.items top n ⟨nx, mt, (s.hints ++ [by_]), (s.keys ++ [pk])⟩ = some res from by rw [← HXE.out]; exact HI3.out)
         have hlk2 := HLHK.out
         go_wp2_with fail
         go_roundw
         case rel => exact ⟨n, m + 1, ⟨nx, mt, (s.hints ++ [by_]), (s.keys ++ [pk])⟩, by omega, Lib.hid ⟨by simp only [List.length_append, List.length_cons, List.length_nil]; omega, by simp only [List.length_append, List.length_cons, List.length_nil]; omega⟩, by simp only [List.length_append, List.length_cons, List.length_nil]; omega, by simp only [List.length_append, List.length_cons, List.length_nil]; omega, by simp only; omega, by simp only; omega, HSN2, HMN2, HI4, HMV, HW3⟩
         case measure => simp [slLen]; omega
    ·
     have HNO := Lib.hid (show res = none from by have h := HI2.out; rw [hrr] at h; exact (Option.some.inj h).symm)
     refine hK.out _ _ hSN (fun _ => ?_)
     have HB7 := Lib.hid hSN
     clear hK hS hSN hbN hrr HI2 HRE HRD HR6
     refine takeE 7 52 ?_
     refine takeE 8 60 ?_
     refine takeE 9 61 ?_
     refine takeE 10 62 ?_
     refine takeE 11 15 ?_
     refine takeE 12 16 ?_
     refine takeE 13 17 ?_
     refine wpAnyH_done (by kernel_rfl) ?_ _
     have hbk := (HB7.out.block (w.heap.size + 1 + 1) hz2).trans HRES.out
     obtain ⟨⟨p0, p1, p2, p3, p4⟩, f0, f1, f2, f3, f4⟩ := cells5 hbk
     have HBK := Lib.hid hbk
     clear hbk
     go_wp2_with fail
     obtain ⟨Wf, hWf⟩ : ∃ x, (((((w7.setCell ⟨w.heap.size + 1 + 1, 0, none⟩ (.slice none 0 0)).setCell ⟨w.heap.size + 1 + 1, 1, none⟩ (.int .i64 0)).setCell ⟨w.heap.size + 1 + 1, 2, none⟩ (.int .i64 0)).setCell ⟨w.heap.size + 1 + 1, 3, none⟩ (.slice none 0 0)).setCell ⟨w.heap.size + 1 + 1, 4, none⟩ (.slice none 0 0)) = x := ⟨_, rfl⟩
     rw [hWf]
     have r6 : Wf.heap[w.heap.size + 1 + 1]? = some (.cells #[.slice none 0 0, .int .i64 0, .int .i64 0, .slice none 0 0, .slice none 0 0] 72 (0, 0)) := by
      rw [← hWf]
      exact (mx_set (j := 4) (mx_set (j := 3) (mx_set (j := 2) (mx_set (j := 1) (mx_set (j := 0) HBK.out _) _) _) _) _)
     have hbf : Below w.heap.size w Wf := by
      rw [← hWf]
      exact (((((HBA.out.trans (HB7.out.mono HBA.out.size)).setCell (by simp; omega) _).setCell (by simp; omega) _).setCell (by simp; omega) _).setCell (by simp; omega) _).setCell (by simp; omega) _
     clear hWf p0 p1 p2 p3 p4 f0 f1 f2 f3 f4
     exact bodyPost_ret (res_rl rfl r6 _ rfl rfl) rfl ⟨hbf, .inl ⟨_, (by decide : (141 : Int) ≠ 0), rfl, by rw [HFR.out, if_pos rfl], fun _ => HNO.out⟩⟩
   ·
    have q0 : decide (0 ≤ g) = false := by simpa using hg0
    have HDONE := Lib.hid (show res = some s from by
     have h := HI.out
     cases n with
     | zero =>
      unfold rIter at h
      rw [HGG.out, if_pos (by omega)] at h
      exact (Option.some.inj h).symm
     | succ n =>
      unfold rIter at h
      rw [HGG.out, if_pos (by omega)] at h
      exact (Option.some.inj h).symm)
    clear hg0 hgl
    go_wp2_with fail
    refine HG.out.mono ?_
    rintro e w5 ⟨rfl, hb⟩
    have HB5 := Lib.hid (HW.out.trans (hb.mono hzw))
    have HR5 := Lib.hid (HRR.out.below hb)
    clear hb b0 b1 b2 b3 HG HRR HI
    have HKL := Lib.hid (show s.keys.length = s.hints.length from by have := HLHK.out; omega)
    clear HLHK
    have IL := Lib.hid ((IntsIn.of_own HR5.out.r0).mono (O' := fun g => wa.heap.size ≤ g ∧ g < w5.heap.size) (fun g hg => own_lt HR5.out.r0 g hg.2))
    have IM := Lib.hid ((IntsIn.of_own HR5.out.r1).mono (O' := fun g => wa.heap.size ≤ g ∧ g < w5.heap.size) (fun g hg => own_lt HR5.out.r1 g hg.2))
    have IH := Lib.hid ((IntsIn.of_own HR5.out.r2).mono (O' := fun g => wa.heap.size ≤ g ∧ g < w5.heap.size) (fun g hg => own_lt HR5.out.r2 g hg.2))
    have IK := Lib.hid ((IntsIn.of_own HR5.out.r3).mono (O' := fun g => wa.heap.size ≤ g ∧ g < w5.heap.size) (fun g hg => own_lt HR5.out.r3 g hg.2))
    have hz5 := HB5.out.size
    have HSO := Lib.hid (ref_sorted (.slice E2 s.hints.length c2) (.slice E3 s.keys.length c3) s.hints s.keys w5 IH.out IK.out (by omega) HKL.out)
    go_wp2_with fail
    refine HSO.out.mono ?_
    rintro e w6 ⟨⟨v6, rfl, hown, hln⟩, hb⟩
    obtain ⟨sh, hsh⟩ : ∃ z, rSorted s.hints s.keys = z := ⟨_, rfl⟩
    rw [hsh] at hown hln
    obtain ⟨A6, c6, rfl, _⟩ := mx_slice hown
    have HO6 := Lib.hid hown
    have HB6 := Lib.hid hb
    have hsl : sh.length ≤ 100 := by omega
    have HSH := Lib.hid hsh
    clear hown hb hln hsh HSO HR5 IH IK
    go_wp2_with (at_builtin; refine wpList_append_own_at _ rfl _ _ 36 rfl w5.heap.size 3 i0 (.int .i64 0) 1 8 Tryz.underlying36 hi0 hi1 hi2 hi3 rfl (by decide) _ sh.length _ rfl (own_below HO6.out (mx_al w6 (.cells #[.int .i64 id] 3))) ⟨w6.heap.size, 0, none⟩ 1 1 [.int .i64 id] rfl rfl (cell_one _ _ _) (by simp [Value.oneCell']) (by unfold maxLen; omega) (by omega) (by have := HB6.out.size; simp; omega) ?_; intro v' w7 hown hgrow hnl hat; have hBG := (HB6.out.trans ((mx_al w6 (.cells #[.int .i64 id] 3)).mono HB6.out.size)).grown hgrow (by have := HB6.out.size; simp; omega) (fun g hg => (own_lt HO6.out g hg).1); obtain ⟨A7, k7, hv2, _⟩ := mx_slice hown; subst hv2; have HO7 := Lib.hid hown; have HB7 := Lib.hid hBG; clear hown hgrow hnl hat hBG)
    obtain ⟨VH, hVH⟩ : ∃ z, Value.slice A7 (sh.length + 1) k7 = z := ⟨_, rfl⟩
    have IHH := Lib.hid (show IntsIn (fun g => wa.heap.size ≤ g ∧ g < w7.heap.size) w7 VH (sh ++ [id]) from by
     have h := HO7.out
     rw [show List.map (Value.int .i64) sh ++ [.int .i64 id] = (sh ++ [id]).map (Value.int .i64) from by simp, show sh.length + 1 = (sh ++ [id]).length from by simp] at h
     rw [← hVH, show sh.length + 1 = (sh ++ [id]).length from by simp]
     exact (IntsIn.of_own h).mono (fun g hg => ⟨Nat.le_trans hz5 (own_lt h g hg.2).1, (own_lt h g hg.2).2⟩))
    obtain ⟨w8, hw8⟩ : ∃ z, w7.alloc (.cells #[.slice none 0 0, .int .i64 0, .int .i64 0, .slice A7 (sh.length + 1) k7, .slice none 0 0] 72) = z := ⟨_, rfl⟩
    have hb78 : Below w7.heap.size w7 w8 := by rw [← hw8]; exact mx_al _ _
    have hbo : w8.heap[w7.heap.size]? = some (.cells #[.slice none 0 0, .int .i64 0, .int .i64 0, VH, .slice none 0 0] 72 (0, 0)) := by rw [← hw8, hVH]; exact World.alloc_heap_new _ _
    rw [hw8]
    obtain ⟨bo, hbo0⟩ : ∃ b, w7.heap.size = b := ⟨_, rfl⟩
    rw [hbo0] at hbo ⊢
    have HB8 := Lib.hid (HB5.out.trans ((HB7.out.trans (hb78.mono HB7.out.size)).mono HB5.out.size))
    have HBO := Lib.hid hbo
    have IL8 := Lib.hid ((IL.out.below (HB7.out.trans (hb78.mono HB7.out.size))))
    have IM8 := Lib.hid ((IM.out.below (HB7.out.trans (hb78.mono HB7.out.size))))
    have IHH8 := Lib.hid ((IHH.out.below hb78).mono (O' := fun g => wa.heap.size ≤ g ∧ g < bo) (fun g hg => ⟨hg.1, by have := hg.2; omega⟩))
    have hz7 : w5.heap.size ≤ bo := by have := HB7.out.size; omega
    have hz8 := heap_lt hbo
    have hz18 := Nat.lt_of_lt_of_le hz1 HB8.out.size
    have HVH := Lib.hid hVH
    have D0 := Lib.hid ((HB8.out.cell (p := ⟨w.heap.size + 1, 0, none⟩) hz1).trans B0.out)
    have D1 := Lib.hid ((HB8.out.cell (p := ⟨w.heap.size + 1, 1, none⟩) hz1).trans B1.out)
    have D2 := Lib.hid ((HB8.out.cell (p := ⟨w.heap.size + 1, 2, none⟩) hz1).trans B2.out)
    have D3 := Lib.hid ((HB8.out.cell (p := ⟨w.heap.size + 1, 3, none⟩) hz1).trans B3.out)
    clear hw8 hb78 hbo hbo0 hVH HO6 HO7 HB6 HB7 IL IM IHH
    go_loopw [22, 23] (fun pv iv wr => ∃ (k : Nat), k ≤ s.l.length ∧ iv = .int .i64 k ∧ Hid (wr.ownsRow w8.heap.size 3 1 pv k (((s.l.take k).map fun x => -(rP t.items (litV x))).map (Value.int .i64))) ∧ Hid (Below w8.heap.size w8 wr)) (fun _ iv _ => s.l.length - (intOf iv).toNat)
    case atStart => exact ⟨0, Nat.zero_le _, rfl, Lib.hid (World.ownsRow_nil _ _ _ _), Lib.hid (Below.refl _ _)⟩
    case round =>
     obtain ⟨k, hk, rfl, HV, HW8⟩ := hrel
     obtain ⟨Ap, cp, rfl, _⟩ := mx_slice HV.out
     by_cases hlt : k < s.l.length
     ·
      obtain ⟨x, hx⟩ := getElem_of hlt
      obtain ⟨A9, c9, hA9, hlc9, _, hxs⟩ := IL8.out
      simp only [Value.slice.injEq, true_and] at hA9
      obtain ⟨rfl, rfl⟩ := hA9
      obtain ⟨g9, o9, rfl, hg9, _, f0⟩ := hxs k x hx
      have F0 := Lib.hid f0
      have hkc : k < c0 := by omega
      have HPX := Lib.hid (fun (w : World) tv (h : RTAt w tv t) => ref_place14 x t tv w h HOK.out)
      have HTK := Lib.hid (show (s.l.take (k + 1)).map (fun x => -(rP t.items (litV x))) = (s.l.take k).map (fun x => -(rP t.items (litV x))) ++ [-(rP t.items (litV x))] from by rw [List.take_add_one, hx]; simp)
      obtain ⟨pk, hpk⟩ : ∃ z, rP t.items (litV x : Nat) = z := ⟨_, rfl⟩
      have hpr := rP_lt t.items (litV x : Nat)
      rw [hpk] at HPX hpr
      have w1 : IntKind.i64.wrap (-pk) = -pk := IntWalk.i64_in _ (by omega)
      have HPK := Lib.hid hpk
      clear hx hxs f0 hpk
      go_upto_region 33 with fail
      refine wp_region_held_drew (S := fun w' => Below w8.heap.size w8 w') (by kernel_rfl) (HW8.out.trans ((mx_drew wr).mono HW8.out.size)) (fun hS => ?_)
      have HVD := Lib.hid (own_below HV.out (mx_drew wr))
      obtain ⟨wD, hwD⟩ : ∃ x, (wr).drew = x := ⟨_, rfl⟩
      rw [hwD] at hS HVD ⊢
      clear hwD
      refine takeE 0 143 ?_
      refine takeF 1 144 (fun wq hSw => And.intro ((hSw.cell (p := ⟨w.heap.size + 1, 0, none⟩) hz18).trans D0.out) (And.intro ((hSw.cell (p := ⟨w.heap.size + 1, 1, none⟩) hz18).trans D1.out) (And.intro ((hSw.cell (p := ⟨w.heap.size + 1, 2, none⟩) hz18).trans D2.out) ((hSw.cell (p := ⟨w.heap.size + 1, 3, none⟩) hz18).trans D3.out)))) ?_
      refine takeE 2 145 ?_
      refine takeE 3 146 ?_
      refine takeE 4 147 ?_
      refine takeF 5 148 (fun wq hSw => (hSw.cell (p := ⟨g9, o9 + k, none⟩) hg9).trans F0.out) ?_
      refine ready1 6 (fun K hK => ?_)
      go_simp
      refine (HPX.out _ _ (HT.out.below (HB8.out.trans (hS.mono HB8.out.size)))).mono ?_
      rintro e y1 ⟨rfl, hbN⟩
      have hSN := hS.trans (hbN.mono hS.size)
      have HVN := Lib.hid (own_below HVD.out hbN)
      clear HVD
      have HVD := HVN
      clear HVN
      refine hK.out _ _ hSN (fun _ => ?_)
      clear hK hbN hS
      have hS := hSN
      clear hSN
      refine takeE 7 150 ?_
      refine ready1 8 (fun K hK => ?_)
      go_simp
      obtain ⟨y2, hwn⟩ : ∃ z, y1.alloc (.cells #[.int .i64 (-pk)] 3) = z := ⟨_, rfl⟩
      have hbn : Below y1.heap.size y1 y2 := by rw [← hwn]; exact mx_al _ _
      have hnn := mx_src y1 3 [.int .i64 (-pk)]
      rw [show ([.int .i64 (-pk)] : List Value).toArray = #[.int .i64 (-pk)] from rfl, hwn] at hnn
      rw [hwn]
      have HN := Lib.hid hnn
      have HVN := Lib.hid (own_below HVD.out hbn)
      clear HVD
      have HVD := HVN
      have hSN := hS.trans (hbn.mono hS.size)
      refine hK.out _ _ hSN (fun _ => ?_)
      clear hK hbn hS hnn hwn HVN
      have hS := hSN
      clear hSN
      refine ready1 9 (fun K hK => ?_)
      rw [if_pos (by rfl)]
      refine wp_append_any_at 152 (by rfl) _ _ 36 rfl w8.heap.size 3 i0 (.int .i64 0) 1 8 Tryz.underlying36 hi0 hi1 hi2 hi3 rfl (by decide) _ k _ (by rfl) HVD.out (.slice (some ⟨y1.heap.size, 0, none⟩) 1 1) 1 [.int .i64 (-pk)] (by rfl) HN.out rfl (by simp [Value.oneCell']) (by unfold maxLen; omega) (by omega) hS.size ?_
      intro v' y3 hown hgrow hat
      obtain ⟨Ax, kx, rfl, _⟩ := mx_slice hown
      have hSN := hS.grown hgrow hS.size (fun g hg => (own_lt HVD.out g hg).1)
      have HOX := Lib.hid hown
      refine hK.out _ _ hSN (fun _ => ?_)
      clear hK hown hgrow hat hS
      have hS := hSN
      clear hSN
      refine takeE 10 22 ?_
      refine wpAnyH_done (by kernel_rfl) ?_ _
      have HW9 := Lib.hid hS
      clear hS
      go_wp2_with fail
      go_roundw
      case rel => exact ⟨k + 1, by omega, by go_num, Lib.hid (by rw [HTK.out, HPK.out, List.map_append]; exact HOX.out), HW9⟩
      case measure => simp [intOf]; omega
     ·
      obtain rfl : k = s.l.length := by omega
      have hV := HV.out
      rw [List.take_length] at hV
      obtain ⟨pl, hpl⟩ : ∃ z, (s.l.map fun x => -(rP t.items (litV x))) = z := ⟨_, rfl⟩
      rw [hpl] at hV
      have hplen : s.l.length = pl.length := by rw [← hpl, List.length_map]
      have hIP : IntsIn (fun g => g < wr.heap.size) wr (.slice Ap s.l.length cp) pl := by
       rw [hplen] at hV ⊢
       exact (IntsIn.of_own hV).mono (fun g hg => (own_lt hV g hg.2).2)
      have HSO := Lib.hid (ref_sorted (.slice E0 s.l.length c0) (.slice Ap s.l.length cp) s.l pl wr (IL8.out.below HW8.out) hIP (by omega) hplen.symm)
      have HPLL := Lib.hid (show rLits t.items s = rSorted s.l pl from by unfold rLits; rw [hpl])
      clear hV hpl hplen hIP
      go_wp2_with fail
      refine HSO.out.mono ?_
      rintro e x1 ⟨⟨v9, rfl, hown, hln⟩, hb⟩
      rw [← HPLL.out] at hown hln
      obtain ⟨li, hli⟩ : ∃ z, rLits t.items s = z := ⟨_, rfl⟩
      rw [hli] at hown hln
      obtain ⟨AL, cL, rfl, hcL⟩ := mx_slice hown
      have IL9 := Lib.hid (show IntsIn (fun g => wr.heap.size ≤ g ∧ g < x1.heap.size) x1 (.slice AL li.length cL) li from (IntsIn.of_own hown).mono (fun g hg => own_lt hown g hg.2))
      have HB1 := Lib.hid (HW8.out.trans (hb.mono HW8.out.size))
      have HLI := Lib.hid hli
      have HLN := Lib.hid hln
      have hlil : li.length ≤ 1000000 := by omega
      have hzr8 := HW8.out.size
      have hb1 := (HB1.out.block bo hz8).trans HBO.out
      obtain ⟨⟨p0, p1, p2, p3, p4⟩, f0, f1, f2, f3, f4⟩ := cells5 hb1
      have HBO1 := Lib.hid hb1
      have hzw5 := hz5
      have hbow : wa.heap.size ≤ bo := Nat.le_trans hz5 hz7
      obtain ⟨VL, hVL⟩ : ∃ z, Value.slice AL li.length cL = z := ⟨_, rfl⟩
      obtain ⟨x2, hx2⟩ : ∃ z, x1.setCell ⟨bo, 0, none⟩ (.slice AL li.length cL) = z := ⟨_, rfl⟩
      have HFIN := Lib.hid (show FinAt wa x2 bo VL (.slice E1 s.met.length c1) VH li s.met (sh ++ [id]) 0 0 (.slice none 0 0) from by
       have hk : Kept (fun g => g = bo) x1 x2 := by rw [← hx2]; exact (Kept.refl (fun g => g = bo) x1).setCell ⟨bo, 0, none⟩ _ rfl
       refine ⟨?_, ?_, ?_, ?_, ?_⟩
       ·
        rw [← hx2]
        exact (HB8.out.trans (HB1.out.mono HB8.out.size)).setCell hbow _
       ·
        rw [← hx2, ← hVL]
        exact mx_set (j := 0) hb1 _
       ·
        rw [← hVL]
        exact (IL9.out.kept hk (fun g hg e => by have := hg.1; omega)).mono (fun g hg => by have := hg.1; have := HB8.out.size; omega)
       ·
        exact ((IM8.out.below HB1.out).kept hk (fun g hg e => by have := hg.2; omega)).mono (fun g hg => by have := hg.2; have := hg.1; omega)
       ·
        exact ((IHH8.out.below HB1.out).kept hk (fun g hg e => by have := hg.2; omega)).mono (fun g hg => by have := hg.2; have := hg.1; omega))
      have HVL := Lib.hid hVL
      have HX2 := Lib.hid hx2
      have hz8w := HB8.out.size
      clear hown hb hln hli hb1 HSO HV hVL hx2 HW8 IL8 IM8 IHH8 HBO IL9
      clear D0 D1 D2 D3
      go_upto_if 159 with fail
      rw [HX2.out]
      clear p0 p1 p2 p3 p4 f0 f1 f2 f3 f4 HBO1 HB1
      go_cut [21] (fun p wx => p = .pointer (some ⟨bo, 0, none⟩) ∧ Hid (FinAt wa wx bo VL (.slice E1 s.met.length c1) VH li s.met (sh ++ [id]) (rBack t.items s) 0 (.slice none 0 0)))
      case first =>
       have hll1 := HLN.out
       by_cases h1 : 1 < s.l.length
       ·
        have q1 : decide (1 < s.l.length) = true := by simpa using h1
        have q2 : decide ((1 : Int) < (s.l.length : Int)) = true := by simp; omega
        have hli1 : 1 < li.length := by omega
        have hli2 : (1 : Int) < (li.length : Int) := by omega
        obtain ⟨z, hz⟩ := getElem_of hli1
        have HBK := Lib.hid (show rBack t.items s = rL t.items z from by unfold rBack; rw [if_pos h1, HLI.out, List.getD_eq_getElem?_getD, hz]; rfl)
        have HLZ := Lib.hid (fun (w : World) tv (h : RTAt w tv t) => ref_level14 z t tv w h HOK.out (rVl_place (by
         have h2 : z ∈ rLits t.items s := by rw [HLI.out]; exact List.mem_of_getElem? hz
         have h3 := HSN.out z (rSorted_mem h2)
         omega)))
        have hlits := HFIN.out.lits
        rw [← HVL.out] at hlits
        obtain ⟨A', c', hA', hlc', _, hxs⟩ := hlits
        simp only [Value.slice.injEq, true_and] at hA'
        obtain ⟨rfl, rfl⟩ := hA'
        obtain ⟨gL, oL, rfl, hgL, _, f0⟩ := hxs 1 z hz
        have F0 := Lib.hid f0
        have P0 := Lib.hid ((mx_cell (j := 0) HFIN.out.out).trans (by rw [← HVL.out]; rfl : _ = some (Value.slice (some ⟨gL, oL, none⟩) li.length cL)))
        have hbox2 := heap_lt HFIN.out.out
        have hzx2 := Nat.lt_of_lt_of_le hz1 HFIN.out.below.size
        have hlic : 1 < cL := by omega
        have D0 := Lib.hid (((HFIN.out.below).cell (p := ⟨w.heap.size + 1, 0, none⟩) hz1).trans B0.out)
        have D1 := Lib.hid (((HFIN.out.below).cell (p := ⟨w.heap.size + 1, 1, none⟩) hz1).trans B1.out)
        have D2 := Lib.hid (((HFIN.out.below).cell (p := ⟨w.heap.size + 1, 2, none⟩) hz1).trans B2.out)
        have D3 := Lib.hid (((HFIN.out.below).cell (p := ⟨w.heap.size + 1, 3, none⟩) hz1).trans B3.out)
        clear hz hxs f0 hll1
        go_upto_region 36 with fail
        refine wp_region_sink_at (S := fun w' => Below x2.heap.size x2 w') (by kernel_rfl) rfl (by kernel_rfl) (mx_drew x2) (fun hS => ?_)
        obtain ⟨wD, hwD⟩ : ∃ x, (x2).drew = x := ⟨_, rfl⟩
        rw [hwD] at hS ⊢
        clear hwD
        refine takeF 0 160 (fun wq hSw => And.intro ((hSw.cell (p := ⟨w.heap.size + 1, 0, none⟩) hzx2).trans D0.out) (And.intro ((hSw.cell (p := ⟨w.heap.size + 1, 1, none⟩) hzx2).trans D1.out) (And.intro ((hSw.cell (p := ⟨w.heap.size + 1, 2, none⟩) hzx2).trans D2.out) ((hSw.cell (p := ⟨w.heap.size + 1, 3, none⟩) hzx2).trans D3.out)))) ?_
        refine takeE 1 161 ?_
        refine takeF 2 162 (fun wq hSw => (hSw.cell (p := ⟨bo, 0, none⟩) hbox2).trans P0.out) ?_
        refine takeE 3 163 ?_
        refine takeF 4 164 (fun wq hSw => (hSw.cell (p := ⟨gL, oL + 1, none⟩) hgL).trans F0.out) ?_
        refine ready1 5 (fun K hK => ?_)
        go_simp
        refine (HLZ.out _ _ (HT.out.below (HFIN.out.below.trans (hS.mono HFIN.out.below.size)))).mono ?_
        rintro e y1 ⟨rfl, hbN⟩
        have hSN := hS.trans (hbN.mono hS.size)
        refine hK.out _ _ hSN (fun _ => ?_)
        clear hK hbN hS
        have hS := hSN
        clear hSN
        refine takeE 6 166 ?_
        refine wpAnyH_done (by kernel_rfl) ?_ _
        refine lastPost_normal ?_
        have HF1 := Lib.hid (HFIN.out.more hS)
        have p1 := mx_cell (j := 1) HF1.out.out
        have f1 := mx_free (j := 1) HF1.out.out
        refine wpOp_step rfl (fun K hK => ?_)
        go_simp
        refine hK _ _ ?_
        clear hK p1 f1
        have HF2 := Lib.hid (HF1.out.set (b' := rBack t.items s) (v' := 0) hbow 1 (.int .i64 (rL t.items z)) (by rw [HBK.out]; rfl) rfl rfl)
        go_wp2_with fail
        go_meet
        exact ⟨rfl, HF2⟩
       ·
        have q1 : decide (1 < s.l.length) = false := by simpa using h1
        have q2 : decide ((1 : Int) < (s.l.length : Int)) = false := by simp; omega
        have HF2 := Lib.hid (show FinAt wa x2 bo VL (.slice E1 s.met.length c1) VH li s.met (sh ++ [id]) (rBack t.items s) 0 (.slice none 0 0) from by
         have e : rBack t.items s = 0 := by unfold rBack; rw [if_neg h1]
         rw [e]
         exact HFIN.out)
        clear hll1
        go_wp2_with fail
        go_meet
        exact ⟨rfl, HF2⟩
      case rest =>
       obtain ⟨rfl, HFC⟩ := hcut
       have hzc := HFC.out.below.size
       have G0 := Lib.hid (((HFC.out.below).cell (p := ⟨w.heap.size + 1, 0, none⟩) hz1).trans B0.out)
       have G1 := Lib.hid (((HFC.out.below).cell (p := ⟨w.heap.size + 1, 1, none⟩) hz1).trans B1.out)
       have G2 := Lib.hid (((HFC.out.below).cell (p := ⟨w.heap.size + 1, 2, none⟩) hz1).trans B2.out)
       have G3 := Lib.hid (((HFC.out.below).cell (p := ⟨w.heap.size + 1, 3, none⟩) hz1).trans B3.out)
       have e0 := G0.out
       have e1 := G1.out
       have e2 := G2.out
       have e3 := G3.out
       have p0 := (mx_cell (j := 0) HFC.out.out).trans (by rw [← HVL.out]; rfl : _ = some (Value.slice AL li.length cL))
       have HLS := Lib.hid (ref_levels (.slice AL li.length cL) li t _ wc (HT.out.below HFC.out.below) HOK.out (by rw [HVL.out]; exact HFC.out.lits) hlil)
       go_wp2_with fail
       refine HLS.out.mono ?_
       rintro e u1 ⟨rfl, hb⟩
       have HF3 := Lib.hid (HFC.out.more hb)
       have p2 := mx_cell (j := 2) HF3.out.out
       have f2 := mx_free (j := 2) HF3.out.out
       obtain ⟨lvs, hlvs⟩ : ∃ z : Int, ((if clauseB li = true then (rLvs t.items [] li).length else 0 : Nat) : Int) = z := ⟨_, rfl⟩
       have HLV := Lib.hid (show rLevels t.items li = lvs from by
        rw [← hlvs]
        unfold rLevels
        split <;> rfl)
       obtain ⟨le9, hle9⟩ : ∃ z : Int, (if clauseB li = true then (0 : Int) else 20) = z := ⟨_, rfl⟩
       rw [hlvs, hle9]
       clear hle9
       clear hb hlvs e0 e1 e2 e3 p0 HLS G0 G1 G2 G3
       go_wp2_with fail
       obtain ⟨u2, hu2⟩ : ∃ z, u1.setCell ⟨bo, 2, none⟩ (.int .i64 lvs) = z := ⟨_, rfl⟩
       have HF4 := Lib.hid (show FinAt wa u2 bo VL (.slice E1 s.met.length c1) VH li s.met (sh ++ [id]) (rBack t.items s) (rLevels t.items li) (.slice none 0 0) from by
        rw [← hu2]
        exact HF3.out.set hbow 2 _ (by rw [HLV.out]; rfl) rfl rfl)
       rw [hu2]
       clear p2 f2 hu2 HF3 HFC
       have hzu2 := HF4.out.below.size
       have hzu18 := Nat.lt_of_lt_of_le hz1 HF4.out.below.size
       have D0 := Lib.hid (((HF4.out.below).cell (p := ⟨w.heap.size + 1, 0, none⟩) hz1).trans B0.out)
       have D1 := Lib.hid (((HF4.out.below).cell (p := ⟨w.heap.size + 1, 1, none⟩) hz1).trans B1.out)
       have D2 := Lib.hid (((HF4.out.below).cell (p := ⟨w.heap.size + 1, 2, none⟩) hz1).trans B2.out)
       have D3 := Lib.hid (((HF4.out.below).cell (p := ⟨w.heap.size + 1, 3, none⟩) hz1).trans B3.out)
       go_loopw [24, 25] (fun vv iv wr => ∃ (k : Nat), k ≤ s.met.length ∧ iv = .int .i64 k ∧ Hid (wr.ownsRow u2.heap.size 3 1 vv (rVars t.items (s.met.take k)).length ((rVars t.items (s.met.take k)).map (Value.int .i64))) ∧ Hid (Below u2.heap.size u2 wr)) (fun _ iv _ => s.met.length - (intOf iv).toNat)
       case atStart => exact ⟨0, Nat.zero_le _, rfl, Lib.hid (World.ownsRow_nil _ _ _ _), Lib.hid (Below.refl _ _)⟩
       case round =>
        obtain ⟨k, hk, rfl, HV, HWV⟩ := hrel
        obtain ⟨vs, hvs⟩ : ∃ z, rVars t.items (s.met.take k) = z := ⟨_, rfl⟩
        have hvl : vs.length ≤ k := by
         rw [← hvs]
         unfold rVars
         rw [List.length_map]
         exact Nat.le_trans (List.length_filter_le _ _) (by rw [List.length_take]; omega)
        rw [hvs] at HV
        obtain ⟨Ap, cp, rfl, _⟩ := mx_slice HV.out
        by_cases hlt : k < s.met.length
        ·
         obtain ⟨x, hx⟩ := getElem_of hlt
         obtain ⟨A9, c9, hA9, hlc9, _, hxs⟩ := HF4.out.met
         simp only [Value.slice.injEq, true_and] at hA9
         obtain ⟨rfl, rfl⟩ := hA9
         obtain ⟨g9, o9, rfl, hg9, _, f0⟩ := hxs k x hx
         have F0 := Lib.hid f0
         have hkc : k < c1 := by omega
         have HPX := Lib.hid (fun (w : World) tv (h : RTAt w tv t) => ref_level14 x t tv w h HOK.out (rVl_place (by have := HMN.out x (List.mem_of_getElem? hx); omega)))
         have HTK := Lib.hid (show rVars t.items (s.met.take (k + 1)) = vs ++ (if 0 < rL t.items x then [(litV x : Int)] else []) from by
          rw [List.take_add_one, hx, ← hvs]
          unfold rVars
          rw [List.filter_append, List.map_append]
          congr 1
          by_cases h : 0 < rL t.items x
          ·
           rw [if_pos h]
           simp [h]
          ·
           rw [if_neg h]
           simp [h])
         clear hx hxs f0 hvs
         by_cases hp : 0 < rL t.items x
         ·
          have q1 : decide (0 < rL t.items x) = true := by simpa using hp
          have HT2 := Lib.hid (show rVars t.items (s.met.take (k + 1)) = vs ++ [(litV x : Int)] from by rw [HTK.out, if_pos hp])
          clear hp HTK
          go_upto_region 42 with fail
          refine wp_region_held_drew (S := fun w' => Below u2.heap.size u2 w') (by kernel_rfl) (HWV.out.trans ((mx_drew wr).mono HWV.out.size)) (fun hS => ?_)
          have HVD := Lib.hid (own_below HV.out (mx_drew wr))
          obtain ⟨wD, hwD⟩ : ∃ x, (wr).drew = x := ⟨_, rfl⟩
          rw [hwD] at hS HVD ⊢
          clear hwD
          refine takeF 0 181 (fun wq hSw => And.intro ((hSw.cell (p := ⟨w.heap.size + 1, 0, none⟩) hzu18).trans D0.out) (And.intro ((hSw.cell (p := ⟨w.heap.size + 1, 1, none⟩) hzu18).trans D1.out) (And.intro ((hSw.cell (p := ⟨w.heap.size + 1, 2, none⟩) hzu18).trans D2.out) ((hSw.cell (p := ⟨w.heap.size + 1, 3, none⟩) hzu18).trans D3.out)))) ?_
          refine takeE 1 182 ?_
          refine takeE 2 183 ?_
          refine takeE 3 184 ?_
          refine takeF 4 185 (fun wq hSw => (hSw.cell (p := ⟨g9, o9 + k, none⟩) hg9).trans F0.out) ?_
          refine ready1 5 (fun K hK => ?_)
          go_simp
          refine (HPX.out _ _ (HT.out.below (HF4.out.below.trans (hS.mono HF4.out.below.size)))).mono ?_
          rintro e y1 ⟨rfl, hbN⟩
          have hSN := hS.trans (hbN.mono hS.size)
          have HVN := Lib.hid (own_below HVD.out hbN)
          clear HVD
          have HVD := HVN
          clear HVN
          refine hK.out _ _ hSN (fun _ => ?_)
          clear hK hbN hS
          have hS := hSN
          clear hSN
          refine takeE 6 187 ?_
          refine wpAnyH_done (by kernel_rfl) ?_ _
          have k0 := (hS.cell (p := ⟨g9, o9 + k, none⟩) hg9).trans F0.out
          have HS1 := Lib.hid hS
          have hzs := hS.size
          clear hS
          go_wp2_with fail
          refine (ref_var x y1).mono ?_
          rintro e w' ⟨rfl, rfl⟩
          obtain ⟨vx, hvx⟩ : ∃ z : Int, ((litV x : Nat) : Int) = z := ⟨_, rfl⟩
          rw [hvx] at HT2 ⊢
          clear hvx k0
          go_wp2_with (at_builtin; refine wpList_append_own_at _ rfl _ _ 36 rfl u2.heap.size 3 i0 (.int .i64 0) 1 8 Tryz.underlying36 hi0 hi1 hi2 hi3 rfl (by decide) _ vs.length _ rfl (own_below HVD.out (mx_al y1 (.cells #[.int .i64 vx] 3))) ⟨y1.heap.size, 0, none⟩ 1 1 [.int .i64 vx] rfl rfl (cell_one _ _ _) (by simp [Value.oneCell']) (by unfold maxLen; omega) (by omega) (by simp; omega) ?_; intro v' w9 hown hgrow hnl hat; have hBG := (HS1.out.trans ((mx_al y1 (.cells #[.int .i64 vx] 3)).mono hzs)).grown hgrow (by simp; omega) (fun g hg => (own_lt HVD.out g hg).1); obtain ⟨A7', k7', hv2, _⟩ := mx_slice hown; subst hv2; have HO9 := Lib.hid hown; have HB9 := Lib.hid hBG; clear hown hgrow hnl hat hBG)
          go_roundw
          case rel => exact ⟨k + 1, by omega, by go_num, Lib.hid (by rw [HT2.out, List.length_append, List.map_append]; exact HO9.out), HB9⟩
          case measure => simp [intOf]; omega
         ·
          have q1 : decide (0 < rL t.items x) = false := by simpa using hp
          have HT2 := Lib.hid (show rVars t.items (s.met.take (k + 1)) = vs from by rw [HTK.out, if_neg hp, List.append_nil])
          clear hp HTK
          go_upto_region 42 with fail
          refine wp_region_held_drew (S := fun w' => Below u2.heap.size u2 w') (by kernel_rfl) (HWV.out.trans ((mx_drew wr).mono HWV.out.size)) (fun hS => ?_)
          have HVD := Lib.hid (own_below HV.out (mx_drew wr))
          obtain ⟨wD, hwD⟩ : ∃ x, (wr).drew = x := ⟨_, rfl⟩
          rw [hwD] at hS HVD ⊢
          clear hwD
          refine takeF 0 181 (fun wq hSw => And.intro ((hSw.cell (p := ⟨w.heap.size + 1, 0, none⟩) hzu18).trans D0.out) (And.intro ((hSw.cell (p := ⟨w.heap.size + 1, 1, none⟩) hzu18).trans D1.out) (And.intro ((hSw.cell (p := ⟨w.heap.size + 1, 2, none⟩) hzu18).trans D2.out) ((hSw.cell (p := ⟨w.heap.size + 1, 3, none⟩) hzu18).trans D3.out)))) ?_
          refine takeE 1 182 ?_
          refine takeE 2 183 ?_
          refine takeE 3 184 ?_
          refine takeF 4 185 (fun wq hSw => (hSw.cell (p := ⟨g9, o9 + k, none⟩) hg9).trans F0.out) ?_
          refine ready1 5 (fun K hK => ?_)
          go_simp
          refine (HPX.out _ _ (HT.out.below (HF4.out.below.trans (hS.mono HF4.out.below.size)))).mono ?_
          rintro e y1 ⟨rfl, hbN⟩
          have hSN := hS.trans (hbN.mono hS.size)
          have HVN := Lib.hid (own_below HVD.out hbN)
          clear HVD
          have HVD := HVN
          clear HVN
          refine hK.out _ _ hSN (fun _ => ?_)
          clear hK hbN hS
          have hS := hSN
          clear hSN
          refine takeE 6 187 ?_
          refine wpAnyH_done (by kernel_rfl) ?_ _
          have HS1 := Lib.hid hS
          clear hS
          go_wp2_with fail
          go_roundw
          case rel => exact ⟨k + 1, by omega, by go_num, Lib.hid (by rw [HT2.out]; exact HVD.out), HS1⟩
          case measure => simp [intOf]; omega
        ·
         obtain rfl : k = s.met.length := by omega
         rw [List.take_length] at hvs
         have HVS := Lib.hid hvs
         clear hvs
         have HSO := Lib.hid (ref_sorted (.slice Ap vs.length cp) (.slice Ap vs.length cp) vs vs wr (IntsIn.of_own HV.out) (IntsIn.of_own HV.out) (by omega) rfl)
         go_wp2_with fail
         refine HSO.out.mono ?_
         rintro e z1 ⟨⟨v9, rfl, hown, hln⟩, hb⟩
         obtain ⟨ml, hml⟩ : ∃ z, rSorted vs vs = z := ⟨_, rfl⟩
         rw [hml] at hown
         obtain ⟨AM, cM, rfl, _⟩ := mx_slice hown
         have HMM := Lib.hid (show rMet t.items s = ml from by unfold rMet; rw [HVS.out, hml])
         have HBZ := Lib.hid (HWV.out.trans (hb.mono HWV.out.size))
         have HF5 := Lib.hid (HF4.out.more HBZ.out)
         have hzz := HWV.out.size
         have IME := Lib.hid (show IntsIn (fun g => u2.heap.size ≤ g) z1 (.slice AM ml.length cM) ml from (IntsIn.of_own hown).mono (fun g hg => by have := hg.1; omega))
         have hbu2 := heap_lt HF4.out.out
         have p4 := mx_cell (j := 4) HF5.out.out
         have f4 := mx_free (j := 4) HF5.out.out
         clear hown hb hln hml HSO HV
         go_upto_region 45 with fail
         obtain ⟨z2, hz2e⟩ : ∃ z, z1.setCell ⟨bo, 4, none⟩ (.slice AM ml.length cM) = z := ⟨_, rfl⟩
         have HF6 := Lib.hid (show FinAt wa z2 bo VL (.slice E1 s.met.length c1) VH li s.met (sh ++ [id]) (rBack t.items s) (rLevels t.items li) (.slice AM ml.length cM) from by
          rw [← hz2e]
          exact HF5.out.set hbow 4 _ rfl rfl rfl)
         have IMF := Lib.hid (show IntsIn (fun g => wa.heap.size ≤ g) z2 (.slice AM ml.length cM) ml from by
          have hk : Kept (fun g => g = bo) z1 z2 := by rw [← hz2e]; exact (Kept.refl (fun g => g = bo) z1).setCell ⟨bo, 4, none⟩ _ rfl
          exact (IME.out.kept hk (fun g hg e => by omega)).mono (fun g hg => by omega))
         rw [hz2e]
         clear p4 f4 hz2e HF5 IME
         have eL := HVL.out
         have eH := HVH.out
         clear HVL HVH
         subst eL
         subst eH
         obtain ⟨⟨p0, p1, p2, p3, p4⟩, _⟩ := cells5 HF6.out.out
         have hbk := (HF6.out.below.block (w.heap.size + 1 + 1) hz2).trans HRES.out
         obtain ⟨⟨r0, r1, r2, r3, r4⟩, f0, f1, f2, f3, f4⟩ := cells5 hbk
         have HBK := Lib.hid hbk
         clear hbk
         go_wp2_with fail
         obtain ⟨Wf, hWf⟩ : ∃ x, (((((z2.setCell ⟨w.heap.size + 1 + 1, 0, none⟩ (.slice AL li.length cL)).setCell ⟨w.heap.size + 1 + 1, 1, none⟩ (.int .i64 (rBack t.items s))).setCell ⟨w.heap.size + 1 + 1, 2, none⟩ (.int .i64 (rLevels t.items li))).setCell ⟨w.heap.size + 1 + 1, 3, none⟩ (.slice A7 (sh.length + 1) k7)).setCell ⟨w.heap.size + 1 + 1, 4, none⟩ (.slice AM ml.length cM)) = x := ⟨_, rfl⟩
         rw [hWf]
         have r6 : Wf.heap[w.heap.size + 1 + 1]? = some (.cells #[.slice AL li.length cL, .int .i64 (rBack t.items s), .int .i64 (rLevels t.items li), .slice A7 (sh.length + 1) k7, .slice AM ml.length cM] 72 (0, 0)) := by
          rw [← hWf]
          exact (mx_set (j := 4) (mx_set (j := 3) (mx_set (j := 2) (mx_set (j := 1) (mx_set (j := 0) HBK.out _) _) _) _) _)
         have hkf : Kept (fun g => g = w.heap.size + 1 + 1) z2 Wf := by
          rw [← hWf]
          exact ((((((Kept.refl (fun g => g = w.heap.size + 1 + 1) z2).setCell ⟨w.heap.size + 1 + 1, 0, none⟩ _ rfl).setCell ⟨w.heap.size + 1 + 1, 1, none⟩ _ rfl).setCell ⟨w.heap.size + 1 + 1, 2, none⟩ _ rfl).setCell ⟨w.heap.size + 1 + 1, 3, none⟩ _ rfl).setCell ⟨w.heap.size + 1 + 1, 4, none⟩ _ rfl)
         have hbf : Below w.heap.size w Wf := by
          rw [← hWf]
          exact (((((HBA.out.trans (HF6.out.below.mono HBA.out.size)).setCell (by simp; omega) _).setCell (by simp; omega) _).setCell (by simp; omega) _).setCell (by simp; omega) _).setCell (by simp; omega) _
         have hO := fun (g : Nat) (hg : wa.heap.size ≤ g) (e : g = w.heap.size + 1 + 1) => (by omega : False)
         have il := (HF6.out.lits.kept hkf (fun g hg e => hO g hg.2 e)).mono (O' := fun _ => True) (fun _ _ => trivial)
         have ih := (HF6.out.hints.kept hkf (fun g hg e => hO g hg.2 e)).mono (O' := fun _ => True) (fun _ _ => trivial)
         have im := (IMF.out.kept hkf (fun g hg e => hO g hg e)).mono (O' := fun _ => True) (fun _ _ => trivial)
         clear hWf p0 p1 p2 p3 p4 f0 f1 f2 f3 f4 r0 r1 r2 r3 r4
         exact bodyPost_ret (res_rl rfl r6 _ rfl rfl) rfl ⟨hbf, .inr ⟨by rw [HFR.out], s, _, _, _, HDONE.out, by rw [HLI.out]; rfl, by rw [HLI.out]; exact il, by unfold rHints; rw [HSH.out]; exact ih, by rw [HMM.out]; exact im⟩⟩
 ·
  have q0 : (err == 0) = false := by simpa using he
  have q1 : (err != 0) = true := by simpa using he
  have HE := Lib.hid he
  clear he
  have hbk := (HB2.out.block (w.heap.size + 1 + 1) hz2).trans HRES.out
  obtain ⟨⟨p0, p1, p2, p3, p4⟩, f0, f1, f2, f3, f4⟩ := cells5 hbk
  have HBK := Lib.hid hbk
  clear hbk
  go_wp2_with fail
  obtain ⟨Wf, hWf⟩ : ∃ x, (((((w2.setCell ⟨w.heap.size + 1 + 1, 0, none⟩ (.slice none 0 0)).setCell ⟨w.heap.size + 1 + 1, 1, none⟩ (.int .i64 0)).setCell ⟨w.heap.size + 1 + 1, 2, none⟩ (.int .i64 0)).setCell ⟨w.heap.size + 1 + 1, 3, none⟩ (.slice none 0 0)).setCell ⟨w.heap.size + 1 + 1, 4, none⟩ (.slice none 0 0)) = x := ⟨_, rfl⟩
  rw [hWf]
  have r6 : Wf.heap[w.heap.size + 1 + 1]? = some (.cells #[.slice none 0 0, .int .i64 0, .int .i64 0, .slice none 0 0, .slice none 0 0] 72 (0, 0)) := by
   rw [← hWf]
   exact (mx_set (j := 4) (mx_set (j := 3) (mx_set (j := 2) (mx_set (j := 1) (mx_set (j := 0) HBK.out _) _) _) _) _)
  have hbf : Below w.heap.size w Wf := by
   rw [← hWf]
   exact (((((HBA.out.trans (HB2.out.mono HBA.out.size)).setCell (by simp; omega) _).setCell (by simp; omega) _).setCell (by simp; omega) _).setCell (by simp; omega) _).setCell (by simp; omega) _
  clear hWf p0 p1 p2 p3 p4 f0 f1 f2 f3 f4
  exact bodyPost_ret (res_rl rfl r6 _ rfl rfl) rfl ⟨hbf, .inl ⟨_, HE.out, rfl, by rw [HFR.out, if_neg HE.out], fun h => absurd (by rw [HFR.out] at h; exact h) HE.out⟩⟩
end Go.Proofs.YtiodfolcnnkdjaaGreat
