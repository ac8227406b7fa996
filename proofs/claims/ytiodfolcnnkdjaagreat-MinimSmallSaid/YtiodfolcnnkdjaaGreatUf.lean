/- The plain law of chapter 15: the reference and the code answer alike. -/
import Derived.Test.YtiodfolcnnkdjaaGreatUd
import Derived.Test.YtiodfolcnnkdjaaGreatDi
import Derived.Test.YtiodfolcnnkdjaaGreatQe
import Derived.Test.YtiodfolcnnkdjaaGreatLw
import Derived.Test.YtiodfolcnnkdjaaGreatQk
namespace Go.Proofs.YtiodfolcnnkdjaaGreat
open Go.RowKit

/-- what is learned, in a box; what came before it is as it was -/
structure CX (wa : World) (xb : Nat) (W : World) (c0 c1 c2 c3 c4 : Value) : Prop where
 below : Below wa.heap.size wa W
 ge : wa.heap.size ≤ xb
 box : W.heap[xb]? = some (.cells #[c0, c1, c2, c3, c4] 72 (0, 0))
theorem CX.call {wa W W' : World} {xb : Nat} {c0 c1 c2 c3 c4 : Value} (h : CX wa xb W c0 c1 c2 c3 c4) (hb : Below W.heap.size W W') : CX wa xb W' c0 c1 c2 c3 c4 :=
 ⟨h.below.trans (hb.mono h.below.size), h.ge, (hb.block _ (heap_lt h.box)).trans h.box⟩
theorem CX.set {wa W : World} {xb : Nat} {c0 c1 c2 c3 c4 : Value} (h : CX wa xb W c0 c1 c2 c3 c4) (j : Nat) (v : Value) {d0 d1 d2 d3 d4 : Value} (he : (#[c0, c1, c2, c3, c4] : Array Value).setIfInBounds j v = #[d0, d1, d2, d3, d4]) : CX wa xb (W.setCell ⟨xb, j, none⟩ v) d0 d1 d2 d3 d4 ∧ Kept (fun g => g = xb) W (W.setCell ⟨xb, j, none⟩ v) :=
 ⟨⟨h.below.setCell h.ge _, h.ge, by rw [← he]; exact mx_set (j := j) h.box v⟩, (Kept.refl _ _).setCell _ _ rfl⟩
theorem IntsIn.ne {O : Nat → Prop} {w : World} {v : Value} {xs : List Int} {B xb rb : Nat} (h : IntsIn O w v xs) (hO : ∀ g, O g → B ≤ g) (hx : xb < B) (hr : rb ≤ xb) : IntsIn (fun g => g ≠ xb ∧ g ≠ rb) w v xs := h.mono (fun g hg => by have := hO g hg; omega)
/-- numbers that are not zero do not lie in a box of zeros -/
theorem IntsIn.avoid {O : Nat → Prop} {w : World} {v : Value} {xs : List Int} {rb : Nat} (h : IntsIn O w v xs) (hx : ∀ x ∈ xs, 1 ≤ x) (hb : w.heap[rb]? = some (.cells #[.slice none 0 0, .int .i64 0, .int .i64 0, .slice none 0 0, .slice none 0 0] 72 (0, 0))) : IntsIn (fun g => O g ∧ g ≠ rb) w v xs := by
 obtain ⟨A, c, hv, hc, hn, hxs⟩ := h
 refine ⟨A, c, hv, hc, hn, fun i x hi => ?_⟩
 obtain ⟨g, o, h1, h2, h3, h4⟩ := hxs i x hi
 refine ⟨g, o, h1, h2, ⟨h3, fun e => ?_⟩, h4⟩
 subst e
 rw [mx_cell hb] at h4
 have h0 := hx x (List.mem_of_getElem? hi)
 match ho : o + i, h4 with
 | 0, h4 => cases h4
 | 1, h4 => simp at h4; omega
 | 2, h4 => simp at h4; omega
 | 3, h4 => cases h4
 | 4, h4 => cases h4
 | n + 5, h4 => simp at h4
def rBk15 (its : List RIt) (c : List Int) : Int := if 1 < c.length then rL its (c.getD 1 0) else 0
/-- what the reference's Conflict returns, of what is learned -/
def RC15 (all : List REn) (its : List RIt) (id : Int) (lits met : List Int) (w' : World) (e : Ending) : Prop :=
 ∃ x y z, e = .returned (.tuple #[.agg #[x, .int .i64 (rBk15 its (rShort15 all its lits)), .int .i64 (if clauseB (rShort15 all its lits) = true then (rLvs its [] (rShort15 all its lits)).length else 0 : Nat), y, z], .int .i64 0]) ∧ IntsIn (fun _ => True) w' x (rShort15 all its lits) ∧ IntsIn (fun _ => True) w' y (rHints15 all its id (rShort15 all its lits)).1 ∧ IntsIn (fun _ => True) w' z met
theorem rShr15_mem (red : Int → Bool) (h0 : Int) (r out : List Int) : (∀ y ∈ rShr15 red h0 out r, y ∈ out ∨ y ∈ r) ∧ (rShr15 red h0 out r).length ≤ out.length + r.length := by
 induction r generalizing out with
 | nil => exact ⟨fun y h => .inl h, Nat.le_refl _⟩
 | cons x r ih =>
  unfold rShr15
  obtain ⟨h1, h2⟩ := ih (if out.contains x = false ∧ (x = h0 ∨ red x = false) then out ++ [x] else out)
  refine ⟨fun y hy => ?_, ?_⟩
  ·
   rcases h1 y hy with h | h
   ·
    split at h
    ·
     rcases List.mem_append.1 h with h | h
     ·
      exact .inl h
     ·
      exact .inr (by rw [List.mem_singleton.1 h]; exact List.mem_cons_self ..)
    ·
     exact .inl h
   ·
    exact .inr (List.mem_cons_of_mem _ h)
  ·
   refine Nat.le_trans h2 ?_
   split
   ·
    simp only [List.length_append, List.length_cons, List.length_nil]; omega
   ·
    simp only [List.length_cons]; omega
set_option maxRecDepth 100000 in
set_option maxHeartbeats 8000000 in
theorem ref_conflict15 (id : Int) (r : Lrn) (code : Nat) (a : RAr) (t : RTr) (av tv : Value) (w : World) (ha : RAAt w av a) (h : RTAt w tv t) (hao : a.Ok) (ho : t.Ok) (hP : PlOk t.items) (hl : r.lits.length ≤ 100000) (hf : ∀ y ∈ r.lits, rVl t.items y < 0) (hm : ∀ v ∈ r.met, 1 ≤ v)
  (hc : ∀ W av tv, RAAt W av a → RTAt W tv t → Calls Tryz.prog 64 #[av, tv, .int .i64 id] W fun e w' => (∃ Ax cx Ay cy Az cz, e = .returned (.tuple #[.agg #[.slice Ax r.lits.length cx, .int .i64 r.back, .int .i64 r.levels, .slice Ay r.hints.length cy, .slice Az r.met.length cz], .int .i64 (code : Int)]) ∧ IntsIn (fun _ => True) w' (.slice Ax r.lits.length cx) r.lits ∧ IntsIn (fun _ => True) w' (.slice Az r.met.length cz) r.met) ∧ Below W.heap.size W w') :
  Calls Tryz.prog 30 #[av, tv, .int .i64 id] w fun e w' => ((code ≠ 0 ∧ e = .returned (.tuple #[.agg #[.slice none 0 0, .int .i64 0, .int .i64 0, .slice none 0 0, .slice none 0 0], .int .i64 (code : Int)])) ∨ (code = 0 ∧ RC15 a.all t.items id r.lits r.met w' e)) ∧ Below w.heap.size w w' := by
 have HOK := Lib.hid ho
 have HC := Lib.hid hc
 have hlent := ho.len
 obtain ⟨lits, back, levels, hints, met⟩ := r
 simp only at hl hf hm HC ⊢
 have HSH := Lib.hid (fun (O : Nat → Prop) u av tv w ha h (hu : IntsIn O w u lits) => ref_shorten15 u lits a t av tv w ha h hao ho hu (by omega) hP hf)
 have HHI := Lib.hid (fun (O : Nat → Prop) (c : List Int) (hcl : c.length ≤ 100000) u av tv w ha h (hu : IntsIn O w u c) => ref_hints15 u c id a t av tv w ha h hao ho hu (by omega) hP)
 have HLV := Lib.hid (fun (O : Nat → Prop) (c : List Int) (hcl : c.length ≤ 100000) u tv w h (hu : IntsIn O w u c) => ref_levels u c t tv w h ho hu (by omega))
 obtain ⟨hs1, hs2⟩ := rShr15_mem (fun x => rRed15 a.all t.items lits x) (lits.getD 0 0) lits []
 have hsl : (rShort15 a.all t.items lits).length ≤ lits.length := by
  have e : ([] : List Int).length + lits.length = lits.length := Nat.zero_add _
  rw [← e]
  exact hs2
 have hsf : ∀ y ∈ rShort15 a.all t.items lits, rVl t.items y < 0 := fun y hy => by
  rcases hs1 y hy with h | h
  ·
   cases h
  ·
   exact hf y h
 obtain ⟨sh, hsh⟩ : ∃ z, rShort15 a.all t.items lits = z := ⟨_, rfl⟩
 have HPOST := Lib.hid (show RC15 a.all t.items id lits met = fun w' e => ∃ x y z, e = .returned (.tuple #[.agg #[x, .int .i64 (rBk15 t.items sh), .int .i64 (if clauseB sh = true then (rLvs t.items [] sh).length else 0 : Nat), y, z], .int .i64 0]) ∧ IntsIn (fun _ => True) w' x sh ∧ IntsIn (fun _ => True) w' y (rHints15 a.all t.items id sh).1 ∧ IntsIn (fun _ => True) w' z met from by unfold RC15; rw [hsh])
 rw [hsh] at HSH hsl hsf
 have hshl : sh.length ≤ 100000 := by omega
 have HSF := Lib.hid hsf
 clear hao ho hP hc hs1 hs2 hsf hf hsh
 obtain ⟨ev, rfl, he⟩ := ha
 obtain ⟨iv, sv, rfl, hi, hs⟩ := h
 obtain ⟨wa, hwa, hba, hb0, hb1, hb2⟩ := rbox3 w #[ev, .int .i64 a.last] #[.int .i64 t.vars, .int .i64 t.now, iv, sv] #[.slice none 0 0, .int .i64 0, .int .i64 0, .slice none 0 0, .slice none 0 0] 56 59 72
 have HI := Lib.hid (hi.below hba)
 have HT := Lib.hid (show RTAt wa (.agg #[.int .i64 t.vars, .int .i64 t.now, iv, sv]) t from ⟨iv, sv, rfl, hi.below hba, hs.below hba⟩)
 have HA := Lib.hid (show RAAt wa (.agg #[ev, .int .i64 a.last]) a from ⟨ev, rfl, he.below hba⟩)
 have HX := Lib.hid hb0
 have HY := Lib.hid hb1
 have HZ := Lib.hid hb2
 have HBA := Lib.hid hba
 have HWA := Lib.hid hwa
 clear hwa hba hb0 hb1 hb2 hs hi he
 go_enter Tryz.func30, Tryz.ntmps30
 go_upto_region 1 with fail
 rw [HWA.out]
 obtain ⟨a0, a1⟩ := bx2 (Below.refl _ _) HX.out
 obtain ⟨b0, b1, b2, b3⟩ := bx4 (Below.refl _ _) HY.out
 go_wp2_with fail
 refine (HC.out _ _ _ HA.out HT.out).mono ?_
 rintro e w2 ⟨⟨Ax, cx, Ay, cy, Az, cz, rfl, hx, hz⟩, hb⟩
 obtain ⟨w3, hw3⟩ : ∃ q, w2.alloc (.cells #[.slice Ax lits.length cx, .int .i64 back, .int .i64 levels, .slice Ay hints.length cy, .slice Az met.length cz] 72) = q := ⟨_, rfl⟩
 have hb3 : Below w2.heap.size w2 w3 := by rw [← hw3]; exact mx_al _ _
 have hz3 : w3.heap.size = w2.heap.size + 1 := by rw [← hw3]; simp
 have HCX := Lib.hid (show CX wa w2.heap.size w3 (.slice Ax lits.length cx) (.int .i64 back) (.int .i64 levels) (.slice Ay hints.length cy) (.slice Az met.length cz) from ⟨hb.trans (hb3.mono hb.size), hb.size, by rw [← hw3]; exact World.alloc_heap_new _ _⟩)
 have HLX := Lib.hid (hx.below hb3)
 have HMX := Lib.hid (((hz.avoid hm ((hb.block _ (heap_lt HZ.out)).trans HZ.out)).lt.mono (fun g hg => show g ≠ w2.heap.size ∧ g ≠ w.heap.size + 1 + 1 from by have := hg.2; have := hg.1.2; omega)).below hb3)
 have HW3 := Lib.hid hw3
 obtain ⟨xb, hxb⟩ : ∃ n, w2.heap.size = n := ⟨_, rfl⟩
 rw [hxb] at hz3 HCX HMX
 have hbs := hb.size
 have hwx : wa.heap.size ≤ xb := by omega
 have hrx : w.heap.size + 1 + 1 ≤ xb := by have := heap_lt HZ.out; omega
 clear hb hb3 hw3 hx hz a0 a1 b0 b1 b2 b3 HC
 by_cases hcd : code = 0
 case neg =>
  have q0 : (((code : Nat) : Int) != 0) = true := by simp; exact hcd
  have HCD := Lib.hid hcd
  clear hcd
  go_upto_region 2 with fail
  rw [HW3.out]
  have HZ3 := Lib.hid ((HCX.out.below.block _ (heap_lt HZ.out)).trans HZ.out)
  obtain ⟨⟨p0, p1, p2, p3, p4⟩, f0, f1, f2, f3, f4⟩ := cells5 HZ3.out
  clear hxb
  go_wp2_with fail
  obtain ⟨Wf, hWf⟩ : ∃ q, ((((w3.setCell ⟨w.heap.size + 1 + 1, 0, none⟩ (.slice none 0 0)).setCell ⟨w.heap.size + 1 + 1, 1, none⟩ (.int .i64 0)).setCell ⟨w.heap.size + 1 + 1, 2, none⟩ (.int .i64 0)).setCell ⟨w.heap.size + 1 + 1, 3, none⟩ (.slice none 0 0)).setCell ⟨w.heap.size + 1 + 1, 4, none⟩ (.slice none 0 0) = q := ⟨_, rfl⟩
  have hr : Wf.heap[w.heap.size + 1 + 1]? = some (.cells #[.slice none 0 0, .int .i64 0, .int .i64 0, .slice none 0 0, .slice none 0 0] 72 (0, 0)) := by rw [← hWf]; exact mx_set (j := 4) (mx_set (j := 3) (mx_set (j := 2) (mx_set (j := 1) (mx_set (j := 0) HZ3.out _) _) _) _) _
  have hbf : Below w.heap.size w Wf := by rw [← hWf]; exact (((((HBA.out.trans (HCX.out.below.mono HBA.out.size)).setCell (by simp; omega) _).setCell (by simp; omega) _).setCell (by simp; omega) _).setCell (by simp; omega) _).setCell (by simp; omega) _
  rw [hWf]
  exact bodyPost_ret (v := .tuple #[.agg #[.slice none 0 0, .int .i64 0, .int .i64 0, .slice none 0 0, .slice none 0 0], .int .i64 ((code : Nat) : Int)]) (res_rl rfl hr _ rfl rfl) rfl ⟨.inl ⟨HCD.out, rfl⟩, hbf⟩
 have q0 : (((code : Nat) : Int) != 0) = false := by simp; exact hcd
 have HCD := Lib.hid hcd
 clear hcd
 obtain ⟨cd, hcd2⟩ : ∃ z : Int, ((code : Nat) : Int) = z := ⟨_, rfl⟩
 rw [hcd2] at q0 ⊢
 clear hcd2
 have HX3 := Lib.hid ((HCX.out.below.block _ (heap_lt HX.out)).trans HX.out)
 have HY3 := Lib.hid ((HCX.out.below.block _ (heap_lt HY.out)).trans HY.out)
 go_upto_region 2 with fail
 rw [HW3.out]
 clear hxb HW3 HX3 HY3
 obtain ⟨a0, a1⟩ := bx2 HCX.out.below HX.out
 obtain ⟨b0, b1, b2, b3⟩ := bx4 HCX.out.below HY.out
 obtain ⟨⟨p0, p1, p2, p3, p4⟩, _⟩ := cells5 HCX.out.box
 go_wp2_with fail
 refine (HSH.out _ _ _ _ _ (HA.out.below HCX.out.below) (HT.out.below HCX.out.below) HLX.out).mono ?_
 rintro e w4 ⟨⟨v, rfl, hown⟩, hb⟩
 obtain ⟨As, cs, rfl, _⟩ := mx_slice hown
 have HC4 := Lib.hid (HCX.out.call hb)
 obtain ⟨hc5, hk5⟩ := HC4.out.set 0 (.slice As sh.length cs) rfl
 have HM4 := Lib.hid (HMX.out.below hb)
 have HS4 := Lib.hid ((IntsIn.of_own hown).ne (xb := xb) (fun g hg => hg.1) (by omega) hrx)
 have f0 := mx_free (j := 0) HC4.out.box
 clear hown hb a0 a1 b0 b1 b2 b3 p0 p1 p2 p3 p4 HSH HLX hz3 hbs
 obtain ⟨⟨p0, p1, p2, p3, p4⟩, _⟩ := cells5 HC4.out.box
 go_upto_region 5 with fail
 obtain ⟨w5, hw5⟩ : ∃ q, w4.setCell ⟨xb, 0, none⟩ (.slice As sh.length cs) = q := ⟨_, rfl⟩
 rw [hw5] at hc5 hk5 ⊢
 have HC5 := Lib.hid hc5
 have HM5 := Lib.hid (HM4.out.kept hk5 (fun g hg e => hg.1 e))
 have HS5 := Lib.hid (HS4.out.kept hk5 (fun g hg e => hg.1 e))
 clear hc5 hk5 hw5 f0 p0 p1 p2 p3 p4 HC4 HM4 HS4
 obtain ⟨a0, a1⟩ := bx2 HC5.out.below HX.out
 obtain ⟨b0, b1, b2, b3⟩ := bx4 HC5.out.below HY.out
 obtain ⟨⟨p0, p1, p2, p3, p4⟩, _⟩ := cells5 HC5.out.box
 go_wp2_with fail
 refine (HHI.out _ sh hshl _ _ _ _ (HA.out.below HC5.out.below) (HT.out.below HC5.out.below) HS5.out).mono ?_
 rintro e w6 ⟨⟨v, rfl, hown⟩, hb⟩
 have HC6 := Lib.hid (HC5.out.call hb)
 have hx5 := heap_lt HC5.out.box
 have HM6 := Lib.hid (HM5.out.below hb)
 have HS6 := Lib.hid (HS5.out.below hb)
 have HH6 := Lib.hid ((IntsIn.of_own hown).ne (xb := xb) (fun g hg => hg.1) hx5 hrx)
 obtain ⟨hh, hhh⟩ : ∃ z, rHints15 a.all t.items id sh = z := ⟨_, rfl⟩
 have HHH := Lib.hid hhh
 rw [hhh] at hown HH6 ⊢
 obtain ⟨Ah, ch, rfl, _⟩ := mx_slice hown
 obtain ⟨hc7, hk7⟩ := HC6.out.set 3 (.slice Ah hh.1.length ch) rfl
 have f3 := mx_free (j := 3) HC6.out.box
 clear hown hb hhh a0 a1 b0 b1 b2 b3 p0 p1 p2 p3 p4 HC5 HM5 HS5 HHI
 obtain ⟨⟨p0, p1, p2, p3, p4⟩, _⟩ := cells5 HC6.out.box
 go_upto_region 6 with fail
 obtain ⟨w7, hw7⟩ : ∃ q, w6.setCell ⟨xb, 3, none⟩ (.slice Ah hh.1.length ch) = q := ⟨_, rfl⟩
 rw [hw7] at hc7 hk7 ⊢
 have HM7 := Lib.hid (HM6.out.kept hk7 (fun g hg e => hg.1 e))
 have HS7 := Lib.hid (HS6.out.kept hk7 (fun g hg e => hg.1 e))
 have HH7 := Lib.hid (HH6.out.kept hk7 (fun g hg e => hg.1 e))
 obtain ⟨hc8, hk8⟩ := hc7.set 1 (.int .i64 0) rfl
 have f1 := mx_free (j := 1) hc7.box
 clear p0 p1 p2 p3 p4 f3
 obtain ⟨⟨p0, p1, p2, p3, p4⟩, _⟩ := cells5 hc7.box
 clear hc7 hk7 hw7 HC6 HM6 HS6 HH6
 go_upto_region 7 with fail
 obtain ⟨w8, hw8⟩ : ∃ q, w7.setCell ⟨xb, 1, none⟩ (.int .i64 0) = q := ⟨_, rfl⟩
 rw [hw8] at hc8 hk8 ⊢
 have HC8 := Lib.hid hc8
 have HM8 := Lib.hid (HM7.out.kept hk8 (fun g hg e => hg.1 e))
 have HS8 := Lib.hid (HS7.out.kept hk8 (fun g hg e => hg.1 e))
 have HH8 := Lib.hid (HH7.out.kept hk8 (fun g hg e => hg.1 e))
 clear hc8 hk8 hw8 f1 p0 p1 p2 p3 p4 HM7 HS7 HH7
 obtain ⟨⟨p0, p1, p2, p3, p4⟩, _⟩ := cells5 HC8.out.box
 go_upto_if 41 with fail
 go_cut [] (fun wx => ∃ bk, Hid (bk = rBk15 t.items sh) ∧ Hid (CX wa xb wx (.slice As sh.length cs) (.int .i64 bk) (.int .i64 levels) (.slice Ah hh.1.length ch) (.slice Az met.length cz)) ∧ Hid (IntsIn (fun g => g ≠ xb ∧ g ≠ w.heap.size + 1 + 1) wx (.slice Az met.length cz) met) ∧ Hid (IntsIn (fun g => g ≠ xb ∧ g ≠ w.heap.size + 1 + 1) wx (.slice As sh.length cs) sh) ∧ Hid (IntsIn (fun g => g ≠ xb ∧ g ≠ w.heap.size + 1 + 1) wx (.slice Ah hh.1.length ch) hh.1))
 case first =>
  by_cases h1 : 1 < sh.length
  ·
   have q1 : decide ((1 : Int) < (sh.length : Int)) = true := by simp; omega
   obtain ⟨y, hy⟩ := getElem_of h1
   have hny := HSF.out y (List.mem_of_getElem? hy)
   obtain ⟨q, hq, hql⟩ := neg_place hny
   obtain ⟨x, hx⟩ := getElem_of hql
   have HBK := Lib.hid (show x.level = rBk15 t.items sh from by
    unfold rBk15 rL
    rw [if_pos h1, List.getD_eq_getElem?_getD, hy, Option.getD_some, hq, Int.toNat_natCast, hx])
   obtain ⟨A', c', hA, hc', _, hxs⟩ := HS8.out
   simp only [Value.slice.injEq, true_and] at hA
   obtain ⟨rfl, rfl⟩ := hA
   obtain ⟨gs, os, rfl, hgs, hne, d0⟩ := hxs 1 y hy
   have D0 := Lib.hid d0
   obtain ⟨gi, oi, ci, rfl, hlc, hgi, _, _, d2⟩ := HI.out.item hx
   have D2 := Lib.hid ((HC8.out.below.cell (p := ⟨gi, oi + q * 3 + 2, none⟩) hgi).trans d2)
   have hgi8 := Nat.lt_of_lt_of_le hgi HC8.out.below.size
   have HY8 := Lib.hid ((HC8.out.below.block _ (heap_lt HY.out)).trans HY.out)
   have HT8 := Lib.hid (HT.out.below HC8.out.below)
   have HPL := ref_place (litV y : Nat) t (.agg #[.int .i64 t.vars, .int .i64 t.now, .slice (some ⟨gi, oi, none⟩) t.items.length ci, sv])
   rw [hq] at HPL
   have HPL := Lib.hid HPL
   have hqc : q < ci := by omega
   have h1c : 1 < cs := by omega
   have hqa : (0 : Int) ≤ (q : Int) := by omega
   have hqb : (q : Int) < (t.items.length : Int) := by omega
   have h1s : (1 : Int) < (sh.length : Int) := by omega
   have P0 := Lib.hid p0
   obtain ⟨lv, hlv⟩ : ∃ z, x.level = z := ⟨_, rfl⟩
   rw [hlv] at D2 HBK
   clear hy hny hq hx hxs d0 d2 hlv p0 p1 p2 p3 p4 q0
   go_upto_region 8 with fail
   refine wp_region_sink_at (S := fun w' => Below w8.heap.size w8 w') (by kernel_rfl) rfl (by kernel_rfl) (mx_drew w8) (fun hS => ?_)
   simp only [List.dropLast]
   refine takeE 0 42 ?_
   refine takeF 1 43 (fun wq hSw => bx4 hSw HY8.out) ?_
   refine takeF 2 44 (fun wq hSw => bx4 hSw HY8.out) ?_
   refine takeE 3 45 ?_
   refine takeF 4 46 (fun wq hSw => (cells5 ((hSw.block _ (heap_lt HC8.out.box)).trans HC8.out.box)).1) ?_
   refine takeE 5 47 ?_
   refine takeF 6 48 (fun wq hSw => (hSw.cell (p := ⟨gs, os + 1, none⟩) hgs).trans D0.out) ?_
   refine ready1 7 (fun K hK => ?_)
   go_simp
   refine (ref_var y _).mono ?_
   rintro e w' ⟨rfl, rfl⟩
   refine hK.out _ _ hS (fun _ => ?_)
   clear hK
   refine ready1 8 (fun K hK => ?_)
   go_simp
   refine (HPL.out _ (HT8.out.below hS) HOK.out).mono ?_
   rintro e w9 ⟨rfl, hbN⟩
   have hSN := hS.trans (hbN.mono hS.size)
   refine hK.out _ _ hSN (fun _ => ?_)
   clear hK hbN hS
   have hS := hSN
   clear hSN
   refine takeE 9 51 ?_
   refine takeE 10 52 ?_
   refine takeF 11 53 (fun wq hSw => (hSw.cell (p := ⟨gi, oi + q * 3 + 2, none⟩) hgi8).trans D2.out) ?_
   refine takeE 12 54 ?_
   refine wpAnyH_done (by kernel_rfl) ?_ _
   refine lastPost_normal ?_
   have hc9 := HC8.out.call hS
   have e1 := mx_free (j := 1) hc9.box
   have x1 := mx_cell (j := 1) hc9.box
   have HM9 := Lib.hid (HM8.out.below hS)
   have HS9 := Lib.hid (HS8.out.below hS)
   have HH9 := Lib.hid (HH8.out.below hS)
   have HC9 := Lib.hid hc9
   clear hc9 hS
   refine wpOp_step rfl (fun K hK => ?_)
   go_simp
   refine hK _ _ ?_
   clear hK
   obtain ⟨hc10, hk10⟩ := HC9.out.set 1 (.int .i64 lv) rfl
   have HC10 := Lib.hid hc10
   have HK10 := Lib.hid hk10
   clear hc10 hk10
   go_wp2_with fail
   go_meet
   exact ⟨lv, HBK, HC10, Lib.hid (HM9.out.kept HK10.out (fun g hg e => hg.1 e)), Lib.hid (HS9.out.kept HK10.out (fun g hg e => hg.1 e)), Lib.hid (HH9.out.kept HK10.out (fun g hg e => hg.1 e))⟩
  ·
   have q1 : decide ((1 : Int) < (sh.length : Int)) = false := by simp; omega
   have HBK := Lib.hid (show (0 : Int) = rBk15 t.items sh from by unfold rBk15; rw [if_neg h1])
   have q2 : decide (1 < sh.length) = false := by simp; omega
   clear p0 p1 p2 p3 p4 q0
   go_wp2_with fail
   go_meet
   exact ⟨0, HBK, HC8, HM8, HS8, HH8⟩
 case rest =>
  obtain ⟨bk, HBK, HCC, HMC, HSC, HHC⟩ := hcut
  clear HC8 HM8 HS8 HH8 p0 p1 p2 p3 p4
  obtain ⟨b0, b1, b2, b3⟩ := bx4 HCC.out.below HY.out
  obtain ⟨⟨p0, p1, p2, p3, p4⟩, _⟩ := cells5 HCC.out.box
  have HLL := HLV.out _ sh hshl (.slice As sh.length cs) (.agg #[.int .i64 t.vars, .int .i64 t.now, iv, sv]) wc (HT.out.below HCC.out.below) HSC.out
  obtain ⟨lv, hlv⟩ : ∃ z : Int, ((if clauseB sh = true then (rLvs t.items [] sh).length else 0 : Nat) : Int) = z := ⟨_, rfl⟩
  obtain ⟨l2, hl2⟩ : ∃ z : Int, (if clauseB sh = true then (0 : Int) else 20) = z := ⟨_, rfl⟩
  rw [hlv, hl2] at HLL
  have HLV2 := Lib.hid hlv
  have HLL := Lib.hid HLL
  clear hlv hl2
  go_wp2_with fail
  refine HLL.out.mono ?_
  rintro e w9 ⟨rfl, hb⟩
  have HC9 := Lib.hid (HCC.out.call hb)
  have HM9 := Lib.hid (HMC.out.below hb)
  have HS9 := Lib.hid (HSC.out.below hb)
  have HH9 := Lib.hid (HHC.out.below hb)
  clear hb b0 b1 b2 b3 p0 p1 p2 p3 p4 HLL HCC HMC HSC HHC
  obtain ⟨⟨p0, p1, p2, p3, p4⟩, f0, f1, f2, f3, f4⟩ := cells5 HC9.out.box
  go_upto_region 10 with fail
  obtain ⟨hc10, hk10⟩ := HC9.out.set 2 (.int .i64 lv) rfl
  obtain ⟨w10, hw10⟩ : ∃ q, w9.setCell ⟨xb, 2, none⟩ (.int .i64 lv) = q := ⟨_, rfl⟩
  rw [hw10] at hc10 hk10 ⊢
  have HC10 := Lib.hid hc10
  have HM10 := Lib.hid (HM9.out.kept hk10 (fun g hg e => hg.1 e))
  have HS10 := Lib.hid (HS9.out.kept hk10 (fun g hg e => hg.1 e))
  have HH10 := Lib.hid (HH9.out.kept hk10 (fun g hg e => hg.1 e))
  clear hc10 hk10 hw10 p0 p1 p2 p3 p4 f0 f1 f2 f3 f4 HC9 HM9 HS9 HH9
  have HZ10 := Lib.hid ((HC10.out.below.block _ (heap_lt HZ.out)).trans HZ.out)
  obtain ⟨⟨p0, p1, p2, p3, p4⟩, _⟩ := cells5 HC10.out.box
  obtain ⟨⟨r0, r1, r2, r3, r4⟩, f0, f1, f2, f3, f4⟩ := cells5 HZ10.out
  have hxr : w.heap.size + 1 + 1 ≠ xb := fun e => by have := heap_lt HZ.out; have := HC10.out.ge; omega
  go_wp2_with fail
  obtain ⟨Wf, hWf⟩ : ∃ q, ((((w10.setCell ⟨w.heap.size + 1 + 1, 0, none⟩ (.slice As sh.length cs)).setCell ⟨w.heap.size + 1 + 1, 1, none⟩ (.int .i64 bk)).setCell ⟨w.heap.size + 1 + 1, 2, none⟩ (.int .i64 lv)).setCell ⟨w.heap.size + 1 + 1, 3, none⟩ (.slice Ah hh.1.length ch)).setCell ⟨w.heap.size + 1 + 1, 4, none⟩ (.slice Az met.length cz) = q := ⟨_, rfl⟩
  have hr : Wf.heap[w.heap.size + 1 + 1]? = some (.cells #[.slice As sh.length cs, .int .i64 bk, .int .i64 lv, .slice Ah hh.1.length ch, .slice Az met.length cz] 72 (0, 0)) := by rw [← hWf]; exact mx_set (j := 4) (mx_set (j := 3) (mx_set (j := 2) (mx_set (j := 1) (mx_set (j := 0) HZ10.out _) _) _) _) _
  have hkf : Kept (fun g => g = w.heap.size + 1 + 1) w10 Wf := by rw [← hWf]; exact (((((Kept.refl (fun g => g = w.heap.size + 1 + 1) w10).setCell _ _ rfl).setCell _ _ rfl).setCell _ _ rfl).setCell _ _ rfl).setCell _ _ rfl
  have hbf : Below w.heap.size w Wf := by rw [← hWf]; exact (((((HBA.out.trans (HC10.out.below.mono HBA.out.size)).setCell (by simp; omega) _).setCell (by simp; omega) _).setCell (by simp; omega) _).setCell (by simp; omega) _).setCell (by simp; omega) _
  rw [hWf]
  refine bodyPost_ret (v := .tuple #[.agg #[.slice As sh.length cs, .int .i64 bk, .int .i64 lv, .slice Ah hh.1.length ch, .slice Az met.length cz], .int .i64 0]) (res_rl rfl hr _ rfl rfl) rfl ⟨.inr ⟨HCD.out, ?_⟩, hbf⟩
  rw [HPOST.out, HHH.out, HLV2.out, ← HBK.out]
  exact ⟨_, _, _, rfl, (HS10.out.kept hkf (fun g hg e => hg.2 e)).mono (fun _ _ => trivial), (HH10.out.kept hkf (fun g hg e => hg.2 e)).mono (fun _ _ => trivial), (HM10.out.kept hkf (fun g hg e => hg.2 e)).mono (fun _ _ => trivial)⟩
end Go.Proofs.YtiodfolcnnkdjaaGreat
namespace Go.Proofs.YtiodfolcnnkdjaaGreat
open Go.RowKit

variable {T : Trl} {its : List RIt}
theorem Sim.pl (h : Sim T its) : PlOk its := fun _ _ hp => h.rp hp
theorem Sim.reas (h : Sim T its) {p : Nat} {x : RIt} (hp : its[p]? = some x) : T.reason (litV x.lit : Nat) = x.reason := by
 unfold Trl.reason
 rw [h.why hp]
/-- the reasons are alike -/
theorem w15_eq (h : Sim T its) {A : Arn} {all : List REn} (ha : ASim A all) {p : Nat} {x : RIt} (hp : its[p]? = some x) :
  (why15 A T (litV x.lit : Nat) = none ∧ rW15 all its p = none) ∨ ∃ r, why15 A T (litV x.lit : Nat) = some (x.reason, r) ∧ rW15 all its p = some r := by
 have hb := rightB_at h A hp
 have hr := right_eq h ha (litV x.lit : Nat)
 have hre := h.reas hp
 rcases reason_eq h ha hp with ⟨g1, _⟩ | ⟨id, c, g1, _, hm, hz⟩
 ·
  rw [g1] at hb
  have hb : rightB A T (litV x.lit : Nat) = false := hb
  rw [hb] at hr
  left
  constructor
  ·
   unfold why15
   rw [hb]
   rfl
  ·
   unfold rW15
   rw [hp]
   simp only [← hr]
   rfl
 ·
  rw [g1] at hb
  have hb : rightB A T (litV x.lit : Nat) = true := hb
  rw [hb] at hr
  have hgc : A.get x.reason = some c := by
   unfold rightP at g1
   rw [hre] at g1
   cases hg : A.get x.reason with
   | none => rw [hg] at g1; cases g1
   | some c' =>
    rw [hg] at g1
    simp only at g1
    split at g1
    ·
     simp only [Option.some.injEq, Prod.mk.injEq] at g1
     rw [g1.2]
    ·
     cases g1
  have hgr := hgc
  rw [ha.get] at hgr
  obtain ⟨_, e, he, hel⟩ := rGet_some hgr
  have hf : rest15 (litV x.lit : Nat) c = c.filter fun z => decide (z ≠ x.lit) := by
   unfold rest15
   refine List.filter_congr (fun z hzc => ?_)
   by_cases e : z = x.lit
   ·
    rw [e]; simp
   ·
    have h1 := (hz z hzc e).2
    have h2 : litV z ≠ litV x.lit := fun e2 => by
     rw [e2, h.rp hp] at h1
     omega
    simp only [ne_eq, Int.natCast_inj, h2, not_false_eq_true, decide_true, e]
  refine .inr ⟨rest15 (litV x.lit : Nat) c, ?_, ?_⟩
  ·
   unfold why15
   rw [hb, if_pos rfl, hre, hgc]
  ·
   unfold rW15
   rw [hp]
   simp only [← hr, if_true, he, hel, hf]
theorem itLit_eq {p : Nat} {x : RIt} (hp : its[p]? = some x) : itLit its p = x.lit := by
 unfold itLit
 rw [hp]
theorem itRea_eq {p : Nat} {x : RIt} (hp : its[p]? = some x) : itRea its p = x.reason := by
 unfold itRea
 rw [hp]
theorem getD_of {l : List Bool} {p : Nat} {b : Bool} (h : l[p]? = some b) : l.getD p false = b := by rw [List.getD_eq_getElem?_getD, h]; rfl
/-- the table tells what is implied, and covered -/
theorem tab15_eq (h : Sim T its) {A : Arn} {all : List REn} (ha : ASim A all) (c : List Int) (n : Nat) (hn : n ≤ its.length) : ∀ (p : Nat) (x : RIt), p < n → its[p]? = some x → (rTab15 all its c n).1[p]? = some (impl15 A T c (litV x.lit : Nat)) ∧ (rTab15 all its c n).2[p]? = some (cov15 A T c (-x.lit)) := by
 induction n with
 | zero => intro p x hp; omega
 | succ n ih =>
  have ih := ih (by omega)
  obtain ⟨l1, l2⟩ := rTab15_len all its c n
  intro p x hp hx
  unfold rTab15
  simp only
  by_cases hpn : p < n
  ·
   rw [List.getElem?_append_left (by omega), List.getElem?_append_left (by omega)]
   exact ih p x hpn hx
  ·
   obtain rfl : p = n := by omega
   rw [List.getElem?_append_right (by omega), List.getElem?_append_right (by omega), l1, l2, Nat.sub_self, List.getElem?_cons_zero, List.getElem?_cons_zero, itLit_eq hx]
   have hrow : rRow15 all its (rTab15 all its c p).2 p = impl15 A T c (litV x.lit : Nat) := by
    rw [impl15_at h c hx]
    unfold rRow15
    rcases w15_eq h ha hx with ⟨h1, h2⟩ | ⟨r, h1, h2⟩
    ·
     rw [h1, h2]
    ·
     rw [h1, h2]
     simp only
     refine Bool.eq_iff_iff.2 ?_
     rw [List.all_eq_true, List.all_eq_true]
     refine forall_congr' (fun z => forall_congr' (fun hz => ?_))
     obtain ⟨g1, g2⟩ := why15_rest h hx h1 z hz
     obtain ⟨q, y, hq, hzy, e⟩ := h.fal g1
     have hqp : rP its (litV z : Nat) = q := by rw [← e]; exact h.rp hq
     rw [hqp] at g2 ⊢
     rw [Int.toNat_natCast, getD_of (ih q y (by omega) hq).2, hzy]
   rw [hrow]
   refine ⟨rfl, ?_⟩
   unfold cov15
   rw [litV_negate, Bool.or_comm]
theorem cov15_ref (h : Sim T its) {A : Arn} {all : List REn} (ha : ASim A all) (c : List Int) (l : Int) : rCov15 all its c l = (decide (T.val l < 0) && cov15 A T c l) := by
 unfold rCov15
 rw [h.val l]
 by_cases hv : rVl its l < 0
 ·
  obtain ⟨q, y, hq, hzy, e⟩ := h.fal hv
  have hqp : rP its (litV l : Nat) = q := by rw [← e]; exact h.rp hq
  rw [hqp, Int.toNat_natCast, getD_of ((tab15_eq h ha c _ (Nat.le_refl _)) q y (List.getElem?_eq_some_iff.1 hq).1 hq).2, hzy]
 ·
  simp only [hv, decide_false, Bool.false_and]
theorem red15_ref (h : Sim T its) {A : Arn} {all : List REn} (ha : ASim A all) (c : List Int) (hf : ∀ y ∈ c, rVl its y < 0) (l : Int) : rRed15 all its c l = (c.contains l && impl15 A T c (litV l : Nat)) := by
 unfold rRed15
 cases hc : c.contains l with
 | false => rfl
 | true =>
  obtain ⟨q, y, hq, hzy, e⟩ := h.fal (hf l (by simpa using hc))
  have hqp : rP its (litV l : Nat) = q := by rw [← e]; exact h.rp hq
  rw [hqp, Int.toNat_natCast, getD_of ((tab15_eq h ha c _ (Nat.le_refl _)) q y (List.getElem?_eq_some_iff.1 hq).1 hq).1, e]
theorem short15_ref (h : Sim T its) {A : Arn} {all : List REn} (ha : ASim A all) (c : List Int) (hf : ∀ y ∈ c, rVl its y < 0) : rShort15 all its c = short15 A T c := by
 unfold rShort15 short15
 have key : ∀ (r out : List Int), (∀ y ∈ r, y ∈ c) → rShr15 (fun x => rRed15 all its c x) (c.getD 0 0) out r = shor15 A T c out r := by
  intro r
  induction r with
  | nil => intro out _; rfl
  | cons x r ih =>
   intro out hr
   have hx := hr x (List.mem_cons_self ..)
   unfold rShr15 shor15
   rw [ih _ (fun y hy => hr y (List.mem_cons_of_mem _ hy))]
   have e1 : (x = c.getD 0 0) ↔ c.head? = some x := by
    cases c with
    | nil => cases hx
    | cons a c => simp [eq_comm]
   have e2 : rRed15 all its c x = impl15 A T c (litV x : Nat) := by
    rw [red15_ref h ha c hf, List.contains_iff_mem.2 hx, Bool.true_and]
   rw [e2]
   simp only [e1]
 exact key c [] (fun y hy => hy)
theorem failE_ref (h : Sim T its) (c : List Int) : ((failE T c : Nat) : Int) = rF15 its c := by
 have e : (c.any fun l => decide (0 ≤ T.val l)) = c.any fun y => decide (0 ≤ rVl its y) := by
  congr 1
  funext l
  rw [h.val l]
 unfold failE rF15
 rw [e]
 cases clauseB c
 ·
  rfl
 ·
  rw [if_neg (by decide), if_pos rfl]
  split <;> rfl
theorem inC_eq (c : List Int) (v : Nat) : (rV15 c).contains (v : Int) = inC c v := by
 unfold rV15 inC
 refine Bool.eq_iff_iff.2 ?_
 rw [List.contains_iff_mem, List.mem_map, List.any_eq_true]
 constructor
 ·
  rintro ⟨z, hz, e⟩
  exact ⟨z, hz, by simpa using e⟩
 ·
  rintro ⟨z, hz, e⟩
  exact ⟨z, hz, by simpa using e⟩
theorem mRun_fst (ρ : Int → List Int) (ls : List Int) : ∀ (ys ms : List Int), (mRun ρ (ys, ms) ls).1 = ys ++ (mRun ρ ([], ms) ls).1 := by
 induction ls with
 | nil => intro ys ms; simp [mRun]
 | cons l ls ih =>
  intro ys ms
  show (mRun ρ (mStep ρ (ys, ms) l) ls).1 = ys ++ (mRun ρ (mStep ρ ([], ms) l) ls).1
  unfold mStep
  simp only
  split
  ·
   rw [ih, ih ([] ++ _)]
   simp
  ·
   exact ih _ _
/-- the hints are alike -/
theorem h15_eq (h : Sim T its) {A : Arn} {all : List REn} (ha : ASim A all) (c : List Int) (n : Nat) (hn : n ≤ its.length) : ∀ (ms out : List Int), rH15 all its c n ms out = if (mRun (rho A T c) ([], ms) (T.order.take n).reverse).1.any (badV A T c) = true then none else some (((mRun (rho A T c) ([], ms) (T.order.take n).reverse).1.filterMap (hintV A T c)).reverse ++ out) := by
 induction n with
 | zero => intro ms out; rfl
 | succ n ih =>
  have ih := ih (by omega)
  intro ms out
  obtain ⟨x, hx⟩ := getElem_of (show n < its.length by omega)
  have ho : T.order[n]? = some x.lit := by rw [h.order, List.getElem?_map, hx]; rfl
  have hrev : (T.order.take (n + 1)).reverse = x.lit :: (T.order.take n).reverse := by
   rw [List.take_add_one, ho]
   simp
  rw [hrev]
  have hrun : ∀ s, mRun (rho A T c) s (x.lit :: (T.order.take n).reverse) = mRun (rho A T c) (mStep (rho A T c) s x.lit) (T.order.take n).reverse := fun s => rfl
  rw [hrun]
  unfold rH15
  rw [itLit_eq hx, itRea_eq hx, inC_eq]
  unfold mStep
  simp only
  cases hm : ms.contains ((litV x.lit : Nat) : Int) with
  | false =>
   rw [if_pos (.inl rfl)]
   simp only [Bool.false_eq_true, if_false]
   exact ih ms out
  | true =>
   rw [if_pos rfl, mRun_fst]
   cases hc : inC c (litV x.lit : Nat) with
   | true =>
    have e1 : rho A T c (litV x.lit : Nat) = [] := by unfold rho; rw [hc]; rfl
    have e2 : badV A T c (litV x.lit : Nat) = false := by unfold badV; rw [hc]; rfl
    have e3 : hintV A T c (litV x.lit : Nat) = none := by unfold hintV; rw [hc]; rfl
    rw [if_pos (.inr rfl), e1]
    simp only [List.nil_append, List.cons_append, List.any_cons, e2, Bool.false_or, List.filterMap_cons, e3]
    rw [show ms ++ varsI [] = ms from List.append_nil _]
    exact ih ms out
   | false =>
    rw [if_neg (fun h => h.elim (fun h => by cases h) (fun h => by cases h))]
    rcases w15_eq h ha hx with ⟨h1, h2⟩ | ⟨r, h1, h2⟩
    ·
     have e2 : badV A T c (litV x.lit : Nat) = true := by unfold badV; rw [hc, h1]; rfl
     rw [h2]
     simp only [List.nil_append, List.cons_append, List.any_cons, e2, Bool.true_or, if_true]
    ·
     have e1 : rho A T c (litV x.lit : Nat) = r := by unfold rho; rw [hc, h1]; rfl
     have e2 : badV A T c (litV x.lit : Nat) = false := by unfold badV; rw [hc, h1]; rfl
     have e3 : hintV A T c (litV x.lit : Nat) = some x.reason := by unfold hintV; rw [hc, h1]; rfl
     rw [h2, e1]
     simp only [List.nil_append, List.cons_append, List.any_cons, e2, Bool.false_or, List.filterMap_cons, e3]
     rw [ih, show ms ++ varsI r = ms ++ rV15 r from rfl]
     split
     ·
      rfl
     ·
      simp
theorem hints15_ref (h : Sim T its) {A : Arn} {all : List REn} (ha : ASim A all) (c : List Int) (id : Int) : rHints15 all its id c = ((hintP A T c id).1, ((hintP A T c id).2 : Int)) := by
 unfold rHints15 hintP
 have hg := ha.get id
 cases hA : A.get id with
 | none =>
  rw [hA] at hg
  rw [if_pos (rGet_none hg.symm)]
  rfl
 | some f =>
  rw [hA] at hg
  obtain ⟨h1, e, he, hel⟩ := rGet_some hg.symm
  rw [if_neg h1, he]
  simp only
  rw [hel, ← failE_ref h f]
  by_cases hf : failE T f = 0
  ·
   rw [if_neg (by simpa using hf), if_neg (by simpa using hf), h15_eq h ha c _ (Nat.le_refl _)]
   have hl : T.order.take its.length = T.order := List.take_of_length_le (by rw [h.order, List.length_map]; exact Nat.le_refl _)
   rw [hl]
   unfold mAll
   rw [show varsI f = rV15 f from rfl]
   by_cases hb : (mRun (rho A T c) ([], rV15 f) T.order.reverse).1.any (badV A T c) = true
   ·
    rw [if_pos hb, if_pos hb]
    rfl
   ·
    rw [if_neg hb, if_neg hb]
    rfl
  ·
   rw [if_pos (by simpa using hf), if_pos (by simpa using hf)]
/-! ### what is learned has hints -/
theorem shor15_keep (A : Arn) (T : Trl) (c : List Int) : ∀ (r out : List Int), (∀ y ∈ out, y ∈ shor15 A T c out r) ∧ ∀ y ∈ r, y ∈ shor15 A T c out r ∨ impl15 A T c (litV y : Nat) = true := by
 intro r
 induction r with
 | nil => exact fun out => ⟨fun y h => h, fun y h => by cases h⟩
 | cons x r ih =>
  intro out
  unfold shor15
  obtain ⟨h1, h2⟩ := ih (if out.contains x = false ∧ (c.head? = some x ∨ impl15 A T c (litV x) = false) then out ++ [x] else out)
  refine ⟨fun y hy => h1 y ?_, fun y hy => ?_⟩
  ·
   split
   ·
    exact List.mem_append_left _ hy
   ·
    exact hy
  ·
   rcases List.mem_cons.1 hy with rfl | hy
   ·
    by_cases hi : impl15 A T c (litV y : Nat) = true
    ·
     exact .inr hi
    ·
     left
     refine h1 y ?_
     split
     ·
      exact List.mem_append_right _ (List.mem_singleton.2 rfl)
     ·
      rename_i hn
      cases ho : out.contains y with
      | true => simpa using ho
      | false => exact absurd ⟨ho, .inr (by simpa using hi)⟩ hn
   ·
    exact h2 y hy
/-- what is covered by a clause is covered by what is left of it -/
theorem cov15_short (h : Sim T its) (A : Arn) (c : List Int) (n : Nat) : ∀ (x : RIt), its[n]? = some x → cov15 A T c (-x.lit) = true → cov15 A T (short15 A T c) (-x.lit) = true := by
 induction n using Nat.strongRecOn with
 | ind n ih =>
  intro x hx hc
  have himp : impl15 A T c (litV x.lit : Nat) = true → cov15 A T (short15 A T c) (-x.lit) = true := fun hi => by
   rw [impl15_at h c hx] at hi
   have e := impl15_at h (A := A) (short15 A T c) hx
   unfold cov15
   rw [litV_negate, e]
   cases hw : why15 A T (litV x.lit : Nat) with
   | none => rw [hw] at hi; cases hi
   | some r =>
    rw [hw] at hi
    simp only at hi ⊢
    rw [Bool.or_eq_true]
    right
    rw [List.all_eq_true] at hi ⊢
    intro z hz
    obtain ⟨g1, g2⟩ := why15_rest h hx hw z hz
    obtain ⟨q, y, hq, hzy, e⟩ := h.fal g1
    have hqp : rP its (litV z : Nat) = q := by rw [← e]; exact h.rp hq
    rw [hqp] at g2
    rw [hzy]
    exact ih q (by omega) y hq (by rw [← hzy]; exact hi z hz)
  have hc' := hc
  unfold cov15 at hc
  rw [Bool.or_eq_true, litV_negate] at hc
  rcases hc with hc | hc
  ·
   have hm : -x.lit ∈ c := by simpa using hc
   rcases (shor15_keep A T c c []).2 _ hm with hk | hk
   ·
    unfold cov15
    rw [Bool.or_eq_true]
    left
    exact List.contains_iff_mem.2 hk
   ·
    rw [litV_negate] at hk
    exact himp hk
  ·
   exact himp hc
/-- from what is covered, nothing is met that has no right reason -/
theorem met_good (h : Sim T its) (A : Arn) (c : List Int) (n : Nat) (hn : n ≤ its.length) : ∀ (ms : List Int), (∀ v ∈ ms, ∃ y, rVl its y < 0 ∧ v = (litV y : Int) ∧ cov15 A T c y = true) → (mRun (rho A T c) ([], ms) (T.order.take n).reverse).1.any (badV A T c) = false := by
 induction n with
 | zero => intro ms _; rfl
 | succ n ih =>
  have ih := ih (by omega)
  intro ms hms
  obtain ⟨x, hx⟩ := getElem_of (show n < its.length by omega)
  have ho : T.order[n]? = some x.lit := by rw [h.order, List.getElem?_map, hx]; rfl
  have hrev : (T.order.take (n + 1)).reverse = x.lit :: (T.order.take n).reverse := by
   rw [List.take_add_one, ho]
   simp
  rw [hrev]
  have hrun : ∀ s, mRun (rho A T c) s (x.lit :: (T.order.take n).reverse) = mRun (rho A T c) (mStep (rho A T c) s x.lit) (T.order.take n).reverse := fun s => rfl
  rw [hrun]
  unfold mStep
  simp only
  cases hm : ms.contains ((litV x.lit : Nat) : Int) with
  | false => simp only [Bool.false_eq_true, if_false]; exact ih ms hms
  | true =>
   rw [if_pos rfl, mRun_fst]
   simp only [List.nil_append, List.cons_append, List.any_cons]
   obtain ⟨y, hy, hv, hcy⟩ := hms _ (List.contains_iff_mem.1 hm)
   obtain ⟨q, x', hq, hyx, e⟩ := h.fal hy
   have hqn : q = n := h.inj hq hx (by omega)
   subst hqn
   obtain rfl := Option.some.inj (hx.symm.trans hq)
   cases hc : inC c (litV x.lit : Nat) with
   | true =>
    have e1 : rho A T c (litV x.lit : Nat) = [] := by unfold rho; rw [hc]; rfl
    have e2 : badV A T c (litV x.lit : Nat) = false := by unfold badV; rw [hc]; rfl
    rw [e1, e2, Bool.false_or, show ms ++ varsI [] = ms from List.append_nil _]
    exact ih ms hms
   | false =>
    have hni : c.contains y = false := by
     cases hcc : c.contains y with
     | false => rfl
     | true =>
      have : inC c (litV x.lit : Nat) = true := by
       unfold inC
       rw [List.any_eq_true]
       exact ⟨y, by simpa using hcc, by simp; omega⟩
      rw [hc] at this
      cases this
    unfold cov15 at hcy
    rw [hni, Bool.false_or, ← e, impl15_at h c hx] at hcy
    cases hw : why15 A T (litV x.lit : Nat) with
    | none => rw [hw] at hcy; cases hcy
    | some r =>
     rw [hw] at hcy
     simp only at hcy
     rw [List.all_eq_true] at hcy
     have e1 : rho A T c (litV x.lit : Nat) = r.2 := by unfold rho; rw [hc, hw]; rfl
     have e2 : badV A T c (litV x.lit : Nat) = false := by unfold badV; rw [hc, hw]; rfl
     rw [e1, e2, Bool.false_or]
     refine ih _ (fun v hv' => ?_)
     rcases List.mem_append.1 hv' with hv' | hv'
     ·
      exact hms v hv'
     ·
      obtain ⟨z, hz, rfl⟩ := List.mem_map.1 hv'
      exact ⟨z, (why15_rest h hx hw z hz).1, rfl, hcy z hz⟩
theorem why15_right (h : Sim T its) {A : Arn} {p : Nat} {x : RIt} (hx : its[p]? = some x) {id : Int} {c : List Int} (hrp : rightP A T x.lit = some (id, c)) : why15 A T (litV x.lit : Nat) = some (T.reason (litV x.lit : Nat), rest15 (litV x.lit : Nat) c) := by
 have hgc : A.get (T.reason (litV x.lit : Nat)) = some c := by
  unfold rightP at hrp
  cases hg : A.get (T.reason (litV x.lit : Nat)) with
  | none => rw [hg] at hrp; cases hrp
  | some c' =>
   rw [hg] at hrp
   simp only at hrp
   split at hrp
   ·
    simp only [Option.some.injEq, Prod.mk.injEq] at hrp
    rw [hrp.2]
   ·
    cases hrp
 unfold why15
 rw [rightB_at h A hx, hrp, if_pos (by rfl), hgc]
/-- all that was met is kept, or has a right reason, whose variables were met -/
def CKept (A : Arn) (T : Trl) (its : List RIt) (p : Nat) (s : CSt) : Prop := ∀ (q : Nat) (x : RIt), p ≤ q → its[q]? = some x → (litV x.lit : Int) ∈ s.ms → -x.lit ∈ s.lits ∨ ∃ r, why15 A T (litV x.lit : Nat) = some r ∧ ∀ z ∈ r.2, (litV z : Int) ∈ s.ms
theorem cfRun_kept (h : Sim T its) (A : Arn) (lv : Int) (p : Nat) (hp : p ≤ its.length) : ∀ (s s' : CSt), cfRun A T lv s (T.order.take p).reverse = some s' → CKept A T its p s → CKept A T its 0 s' ∧ (∀ v ∈ s.ms, v ∈ s'.ms) := by
 induction p with
 | zero =>
  intro s s' hr hk
  obtain rfl := Option.some.inj hr
  exact ⟨hk, fun v h => h⟩
 | succ p ih =>
  have ih := ih (by omega)
  intro s s' hr hk
  obtain ⟨x, hx⟩ := getElem_of (show p < its.length by omega)
  have ho : T.order[p]? = some x.lit := by rw [h.order, List.getElem?_map, hx]; rfl
  have hrev : (T.order.take (p + 1)).reverse = x.lit :: (T.order.take p).reverse := by
   rw [List.take_add_one, ho]
   simp
  rw [hrev] at hr
  unfold cfRun at hr
  cases hs : cfStep A T lv s x.lit with
  | none => rw [hs] at hr; cases hr
  | some s1 =>
   rw [hs] at hr
   have key : CKept A T its p s1 ∧ ∀ v ∈ s.ms, v ∈ s1.ms := by
    unfold cfStep at hs
    cases hm : s.ms.contains (litV x.lit : Int) with
    | false =>
     rw [hm, if_pos rfl] at hs
     obtain rfl := Option.some.inj hs
     refine ⟨fun q y hq hy hym => ?_, fun v h => h⟩
     by_cases e : q = p
     ·
      subst e
      obtain rfl := Option.some.inj (hx.symm.trans hy)
      rw [List.contains_iff_mem.2 hym] at hm
      cases hm
     ·
      exact hk q y (by omega) hy hym
    | true =>
     rw [hm, if_neg (by decide)] at hs
     by_cases hg : T.goes lv s.op (litV x.lit : Int) = false
     ·
      rw [if_pos hg] at hs
      obtain rfl := Option.some.inj hs
      refine ⟨fun q y hq hy hym => ?_, fun v h => h⟩
      by_cases e : q = p
      ·
       subst e
       obtain rfl := Option.some.inj (hx.symm.trans hy)
       left
       refine List.mem_append_right _ (List.mem_singleton.2 ?_)
       unfold litN
       rw [if_pos (h.at_ q x hx).1]
      ·
       rcases hk q y (by omega) hy hym with g | g
       ·
        exact .inl (List.mem_append_left _ g)
       ·
        exact .inr g
     ·
      rw [if_neg hg] at hs
      cases hrp : rightP A T x.lit with
      | none => rw [hrp] at hs; cases hs
      | some ic =>
       obtain ⟨id, c⟩ := ic
       rw [hrp] at hs
       obtain rfl := Option.some.inj hs
       have hsub : ∀ v ∈ s.ms, v ∈ (T.meetGo (litV x.lit : Int) lv c s.ms 0).1 := fun v hv => (meetGo_mem ..).2 (.inl hv)
       refine ⟨fun q y hq hy hym => ?_, hsub⟩
       by_cases e : q = p
       ·
        subst e
        obtain rfl := Option.some.inj (hx.symm.trans hy)
        right
        refine ⟨(T.reason (litV x.lit : Nat), rest15 (litV x.lit : Nat) c), why15_right h hx hrp, fun z hz => ?_⟩
        ·
         obtain ⟨g1, g2⟩ := List.mem_filter.1 hz
         exact (meetGo_mem ..).2 (.inr ⟨by simpa using g2, z, g1, rfl⟩)
       ·
        by_cases hym2 : (litV y.lit : Int) ∈ s.ms
        ·
         rcases hk q y (by omega) hy hym2 with g | ⟨r, g1, g2⟩
         ·
          exact .inl g
         ·
          exact .inr ⟨r, g1, fun z hz => hsub _ (g2 z hz)⟩
        ·
         exfalso
         rcases (meetGo_mem ..).1 hym with g | ⟨_, z, hz, hzy⟩
         ·
          exact hym2 g
         ·
          -- a literal of a right reason stands before it
          have hbf : ∀ w ∈ c, w ≠ x.lit → rVl its w < 0 ∧ rP its (litV w : Nat) < p := by
           have hw := why15_right h hx hrp
           intro w hwc hne
           by_cases hv : (litV w : Int) = (litV x.lit : Int)
           ·
            have := hym2
            unfold rightP at hrp
            split at hrp
            ·
             cases hrp
            ·
             rename_i c' hg
             split at hrp
             ·
              rename_i hh
              simp only [Option.some.injEq, Prod.mk.injEq] at hrp
              obtain ⟨_, rfl⟩ := hrp
              have hb := (before_eq T x.lit _ c').1 hh.2.2 w hwc hne
              have hpl : T.place (litV x.lit : Nat) = p := by
               unfold Trl.place
               rw [h.why hx]
              rw [hpl, show litV w = litV x.lit by omega, hpl] at hb
              omega
             ·
              cases hrp
           ·
            exact why15_rest h hx hw w (List.mem_filter.2 ⟨hwc, by simpa using hv⟩)
          by_cases hzx : z = x.lit
          ·
           subst hzx
           have := h.inj hy hx (by omega)
           omega
          ·
           have h2 := (hbf z hz hzx).2
           have h3 := h.rp hy
           have h4 : litV z = litV y.lit := by omega
           rw [h4] at h2
           omega
   obtain ⟨k1, k2⟩ := ih s1 s' hr key.1
   exact ⟨k1, fun v hv => k2 v (key.2 v hv)⟩
/-- what was met is covered by what is learned -/
theorem kept_cov (h : Sim T its) (A : Arn) (s : CSt) (hk : CKept A T its 0 s) (n : Nat) : ∀ (x : RIt), its[n]? = some x → (litV x.lit : Int) ∈ s.ms → cov15 A T s.lits (-x.lit) = true := by
 induction n using Nat.strongRecOn with
 | ind n ih =>
  intro x hx hm
  unfold cov15
  rw [Bool.or_eq_true, litV_negate]
  rcases hk n x (Nat.zero_le _) hx hm with hk | ⟨r, hw, hr⟩
  ·
   left
   simpa using hk
  ·
   right
   rw [impl15_at h _ hx, hw]
   simp only
   rw [List.all_eq_true]
   intro z hz
   obtain ⟨g1, g2⟩ := why15_rest h hx hw z hz
   obtain ⟨q, y, hq, hzy, e⟩ := h.fal g1
   have hqp : rP its (litV z : Nat) = q := by rw [← e]; exact h.rp hq
   rw [hqp] at g2
   rw [hzy]
   exact ih q (by omega) y hq (by rw [e]; exact hr z hz)
/-- what is learned, shortened, has hints -/
theorem conf_hints (h : Sim T its) (A : Arn) (id : Int) (hcb : ∀ id c, A.get id = some c → clauseB c = true) (hc : (confP A T id).2 = 0) : (hintP A T (short15 A T (confP A T id).1.lits) id).2 = 0 := by
 unfold confP at hc ⊢
 cases hg : A.get id with
 | none => rw [hg] at hc; cases hc
 | some f =>
  rw [hg] at hc
  simp only at hc ⊢
  cases hf : T.failMax f 0 with
  | none => rw [hf] at hc; cases hc
  | some lv =>
   rw [hf] at hc
   simp only at hc ⊢
   cases he : cfEnd A T lv f with
   | none => rw [he] at hc; cases hc
   | some s =>
    simp only
    have hfl : ∀ y ∈ f, rVl its y < 0 := by
     rw [failMax_eq h] at hf
     split at hf
     ·
      assumption
     ·
      cases hf
    have hfe : failE T f = 0 := by
     have e := failE_ref h f
     unfold rF15 at e
     rw [if_pos (hcb id f hg), if_neg] at e
     ·
      omega
     ·
      rw [List.any_eq_true]
      rintro ⟨y, hy, hy2⟩
      have := hfl y hy
      simp at hy2
      omega
    unfold cfEnd at he
    have hlen : its.length ≤ T.order.length := by rw [h.order, List.length_map]; exact Nat.le_refl _
    have hl : T.order.take its.length = T.order := List.take_of_length_le (by rw [h.order, List.length_map]; exact Nat.le_refl _)
    rw [← hl] at he
    obtain ⟨k1, k2⟩ := cfRun_kept h A lv its.length (Nat.le_refl _) _ s he (fun q x hq hx => by have := (List.getElem?_eq_some_iff.1 hx).1; omega)
    unfold hintP
    rw [hg]
    simp only
    rw [if_neg (by omega), if_neg]
    unfold mAll
    rw [← hl, met_good h A _ _ (Nat.le_refl _)]
    ·
     decide
    ·
     intro v hv
     obtain ⟨y, hy, rfl⟩ := List.mem_map.1 hv
     refine ⟨y, hfl y hy, rfl, ?_⟩
     obtain ⟨q, x, hq, hyx, e⟩ := h.fal (hfl y hy)
     rw [hyx]
     refine cov15_short h A _ q x hq (kept_cov h A s k1 q x hq (k2 _ ((meetGo_mem ..).2 (.inr ⟨?_, y, hy, by rw [e]⟩))))
     have := (litV_pos (h.at_ q x hq).1).1
     omega
end Go.Proofs.YtiodfolcnnkdjaaGreat
