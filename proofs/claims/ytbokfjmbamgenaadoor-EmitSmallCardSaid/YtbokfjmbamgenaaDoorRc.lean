/- The reference's Learn. -/
import Derived.Test.YtbokfjmbamgenaaDoorRb
import Derived.Test.YtbokfjmbamgenaaDoorEd
import Derived.Deep.DeepCutAuto
import Derived.Deep.CutBlock
namespace Go.Proofs.YtbokfjmbamgenaaDoor
open Go.RowKit

def refErr (R : RLog) (c h : List Int) : Nat :=
  if R.done then 171 else if clauseB c = false then 20 else if 65536 < h.length then 5 else if (h.any fun x => !R.there.contains x) = true then 170 else if 1073741824 ≤ R.last ∨ 262144 ≤ R.steps.length then 4 else 0
def RLog.learn (R : RLog) (c h : List Int) : RLog := ⟨R.there ++ [R.last + 1], R.last + 1, R.steps ++ [⟨false, R.last + 1, c, h⟩], c.isEmpty⟩
def refNum (R : RLog) (c h : List Int) : Int := if refErr R c h = 0 then R.last + 1 else 0
def refLog (R : RLog) (c h : List Int) : RLog := if refErr R c h = 0 then R.learn c h else R
theorem ref_stay {R : RLog} {c h : List Int} {n : Nat} (h0 : refErr R c h = n) (hn : n ≠ 0) : refNum R c h = 0 ∧ refLog R c h = R := by
  unfold refNum refLog
  rw [h0, if_neg hn, if_neg hn]
  exact ⟨rfl, rfl⟩
theorem RLogAt.wide {O O' : Nat → Prop} {w w' : World} {tv stv : Value} {R : RLog} (h : RLogAt O w tv stv R) (k : Below w.heap.size w w') (hO : ∀ g, O g → O' g) : RLogAt O' w' tv stv R := (h.below k).mono hO
/-- what Learn leaves -/
def LearnPost (O Oc Oh : Nat → Prop) (w : World) (R : RLog) (c h : List Int) (e : Ending) (w' : World) : Prop :=
  ∃ tv' stv', e = .returned (.tuple #[rVal tv' stv' (refLog R c h), .int .i64 (refNum R c h), .int .i64 (refErr R c h : Nat)]) ∧ RLogAt (fun g => O g ∨ Oc g ∨ Oh g ∨ w.heap.size ≤ g) w' tv' stv' (refLog R c h) ∧ Below w.heap.size w w'
theorem learn_post_bad {O Oc Oh : Nat → Prop} {w w' : World} {tv stv : Value} {R : RLog} {c h : List Int} (n : Nat) (hR : RLogAt O w tv stv R) (h0 : refErr R c h = n) (hn : n ≠ 0) (hb : Below w.heap.size w w') :
    LearnPost O Oc Oh w R c h (.returned (.tuple #[rVal tv stv R, .int .i64 0, .int .i64 (n : Int)])) w' := by
  obtain ⟨h1, h2⟩ := ref_stay h0 hn
  refine ⟨tv, stv, ?_, ?_, hb⟩
  · rw [h1, h2, h0]
  · rw [h2]
    exact hR.wide hb (fun g hg => .inl hg)
theorem rsteps_learned {O Oc Oh : Nat → Prop} {w w' : World} {v cv hv : Value} {steps : List EStep} {ms : List MStep} {c h : List Int} {id : Int} {B : Nat} {Ax : Option Addr} {kx : Nat} (hb : Below w.heap.size w w') (HS : RStepsAt O w v steps ms) (hc : IntsIn Oc w cv c) (hh : IntsIn Oh w hv h)
    (hrow : w'.ownsRow B 98 4 (.slice Ax (ms.length + 1) kx) (ms.length + 1) (ms.flatMap MStep.cells ++ [.bool false, .int .i64 id, cv, hv])) (hB : w.heap.size ≤ B) :
    RStepsAt (fun g => O g ∨ Oc g ∨ Oh g ∨ w.heap.size ≤ g) w' (.slice Ax (ms.length + 1) kx) (steps ++ [⟨false, id, c, h⟩]) (ms ++ [⟨cv, hv, ⟨false, id, c, h⟩⟩]) where
  form := by
    refine ⟨Ax, kx, by simp, ?_, fun hn => ?_⟩
    · obtain ⟨A, k, he, hle⟩ := own_slice hrow
      cases he
      simpa using hle
    · rcases hrow.2 with ⟨h0, h1⟩ | ⟨g, cap, cur, h1, _⟩
      · omega
      · rw [hn] at h1
        cases h1
  steps := by rw [List.map_append, HS.steps]; rfl
  cells := fun j u hj => by
    have hj' : (ms.flatMap MStep.cells ++ [.bool false, .int .i64 id, cv, hv])[j]? = some u := by
      rw [List.flatMap_append] at hj
      simpa [MStep.cells] using hj
    rcases hrow.2 with ⟨h0, h1⟩ | ⟨g, cap, cur, h1, h2, h3, h4, h5, h6, h7⟩
    · omega
    · refine ⟨g, kx, by rw [List.length_append]; cases h1; rfl, (Array.getElem?_eq_some_iff.1 h3).1, .inr (.inr (.inr (by omega))), ?_⟩
      have hlt := (List.getElem?_eq_some_iff.1 hj').1
      rw [← h7] at hj'
      rw [List.getElem?_take] at hj'
      split at hj'
      · rw [World.cell?, h3]
        simpa using hj'
      · cases hj'
  each := fun m hm => by
    rcases List.mem_append.1 hm with h1 | h1
    · have := HS.each m h1
      exact ⟨(this.1.below hb).mono (fun g hg => .inl hg), (this.2.below hb).mono (fun g hg => .inl hg)⟩
    · obtain rfl : m = _ := by simpa using h1
      exact ⟨(hc.below hb).mono (fun g hg => .inr (.inl hg)), (hh.below hb).mono (fun g hg => .inr (.inr (.inl hg)))⟩
theorem rsteps_src {O : Nat → Prop} {w : World} {v : Value} {l : List EStep} {ms : List MStep} (h : RStepsAt O w v l ms) : SrcAt w v ms.length (ms.flatMap MStep.cells) := by
  obtain ⟨A, c, rfl, hc, hn⟩ := h.form
  cases A with
  | none =>
    have h0 := hn rfl
    obtain rfl : ms = [] := List.eq_nil_of_length_eq_zero (by omega)
    subst h0
    exact .inl ⟨rfl, rfl, rfl⟩
  | some ad =>
    refine .inr ⟨ad, c, rfl, fun j u hj => ?_⟩
    obtain ⟨g, c', hv, _, _, hcell⟩ := h.cells j u hj
    have had : ad = ⟨g, 0, none⟩ := by cases hv; rfl
    rw [had, addr_add]
    exact hcell
theorem rsteps_one {O : Nat → Prop} {w : World} {v : Value} {l : List EStep} {ms : List MStep} (h : RStepsAt O w v l ms) : ∀ u ∈ ms.flatMap MStep.cells, u.oneCell' = true := by
  intro u hu
  obtain ⟨m, hm, hu⟩ := List.mem_flatMap.1 hu
  obtain ⟨⟨A1, c1, h1, _⟩, ⟨A2, c2, h2, _⟩⟩ := h.each m hm
  simp only [MStep.cells, List.mem_cons, List.not_mem_nil, or_false] at hu
  rcases hu with rfl | rfl | rfl | rfl
  · rfl
  · rfl
  · rw [h1]; rfl
  · rw [h2]; rfl
theorem info_rstep : (Tryd.prog.info? 98).map (fun i => (i.zero, i.size, i.bytes)) = some (some (.agg #[.bool false, .int .i64 0, .slice none 0 0, .slice none 0 0]), 4, 64) := by kernel_rfl
theorem own_empty (W : World) (base : Nat) (e : TypeId) (size : Nat) (hb : base ≤ W.heap.size) : (W.alloc (.cells #[] e)).ownsRow base e size (.slice (some ⟨W.heap.size, 0, none⟩) 0 0) 0 [] :=
  ⟨by simp, .inr ⟨_, 0, #[], rfl, hb, World.alloc_heap_new _ _, Nat.le_refl _, Nat.zero_le _, by simp, by simp⟩⟩
theorem src_new (W : World) (e : TypeId) (xs : List Value) : SrcAt (W.alloc (.cells xs.toArray e)) (.slice (some ⟨W.heap.size, 0, none⟩) 1 1) 1 xs :=
  .inr ⟨_, _, rfl, fun j u hj => cells_list_new W xs e j u hj⟩
theorem src_grown {w w' : World} {p m c : Nat} {xs : List Value} {row : Option Nat} (h : SrcAt w (.slice (some ⟨p, 0, none⟩) m c) m xs) (hg : w.grownBy w' row) (hp : row ≠ some p) : SrcAt w' (.slice (some ⟨p, 0, none⟩) m c) m xs := by
  rcases h with ⟨h, _⟩ | ⟨ad, c', hx, hn⟩
  · cases h
  · refine .inr ⟨ad, c', hx, fun j u hj => ?_⟩
    have h0 := hn j u hj
    have hlt := World.block_lt_of_cell? w _ h0
    have had : ad = ⟨p, 0, none⟩ := by cases hx; rfl
    rw [had] at h0 hlt ⊢
    have hb : ((⟨p, 0, none⟩ : Addr).add j).block = p := by rw [addr_add]
    exact ((Kept.grown hg).cell (p := (⟨p, 0, none⟩ : Addr).add j) hlt (fun e => hp (by rw [← e, hb]))).trans h0
theorem below_drew' (w : World) : Below w.heap.size w w.drew := (Below.refl _ _).drew
theorem set4_below {b : Nat} {w W : World} (h : Below b w W) {g : Nat} (hg : b ≤ g) (v0 v1 v2 v3 : Value) : Below b w ((((W.setCell ⟨g, 0, none⟩ v0).setCell ⟨g, 1, none⟩ v1).setCell ⟨g, 2, none⟩ v2).setCell ⟨g, 3, none⟩ v3) :=
  (((h.setCell (p := ⟨g, 0, none⟩) hg v0).setCell (p := ⟨g, 1, none⟩) hg v1).setCell (p := ⟨g, 2, none⟩) hg v2).setCell (p := ⟨g, 3, none⟩) hg v3
set_option maxRecDepth 100000 in
set_option maxHeartbeats 2000000 in
theorem ref_learn {O Oc Oh : Nat → Prop} (tv stv cv hv : Value) (R : RLog) (c h : List Int) (w : World) (hR : RLogAt O w tv stv R) (hc : IntsIn Oc w cv c) (hh : IntsIn Oh w hv h) (hcl : c.length ≤ 140737488355328) (hhl : h.length ≤ 140737488355328)
    (hl0 : 0 ≤ R.last) (hl1 : R.last ≤ 1073741824) (hth : R.there.length ≤ 1073741824) (hst : R.steps.length ≤ 262144) :
    Calls Tryd.prog 29 #[rVal tv stv R, cv, hv] w (LearnPost O Oc Oh w R c h) := by
  obtain ⟨there, last, steps, done⟩ := R
  simp only [] at hl0 hl1 hth hst
  have HR := Lib.hid hR
  have HC := Lib.hid hc
  have HH := Lib.hid hh
  obtain ⟨hT, ms, hS⟩ := hR
  obtain ⟨A, k, rfl, hk, _, _⟩ := hT
  obtain ⟨As, cs, rfl, hcs, _⟩ := hS.form
  have hms : ms.length = steps.length := by have := hS.steps; simp only [] at this; rw [← this, List.length_map]
  have HS := Lib.hid hS
  have HMS := Lib.hid hms
  obtain ⟨Ac, kc, rfl, hkc, _⟩ := hc
  obtain ⟨Ah, kh, rfl, hkh, _, hhx⟩ := hh
  have HHX := Lib.hid hhx
  clear hhx
  clear hS hms
  rcases hdd : done with _ | _
  case true =>
    subst hdd
    have h0 : refErr ⟨there, last, steps, true⟩ c h = 171 := rfl
    have H0 := Lib.hid h0
    clear h0
    unfold rVal
    go_enter Tryd.func29, Tryd.ntmps29
    go_wp2
    refine bodyPost_ret (v := .tuple #[rVal (.slice A there.length k) (.slice As ms.length cs) ⟨there, last, steps, true⟩, .int .i64 0, .int .i64 171]) (by simp [rVal, results, Tryd.results29, go_sem]) rfl ?_
    exact learn_post_bad 171 HR.out H0.out (by decide) (((Below.refl _ _).alloc (Nat.le_refl _) _).alloc (by simp) _)
  case false =>
    subst hdd
    have hW : ∃ wb, (w.alloc (.cells #[.slice A there.length k, .int .i64 last, .slice As ms.length cs, .bool false] 62)).alloc (.cells #[.slice none 0 0, .int .i64 0, .slice none 0 0, .bool false] 62) = wb := ⟨_, rfl⟩
    obtain ⟨wb, hwb⟩ := hW
    have HWB := Lib.hid hwb
    have hB : Below w.heap.size w wb := by rw [← hwb]; exact ((Below.refl _ _).alloc (Nat.le_refl _) _).alloc (by simp) _
    have hzb : wb.heap.size = w.heap.size + 2 := by rw [← hwb]; simp
    have hb3 : wb.heap[w.heap.size + 1]? = some (.cells #[.slice none 0 0, .int .i64 0, .slice none 0 0, .bool false] 62 (0, 0)) := by
      rw [← hwb]
      have := World.alloc_heap_new (w.alloc (.cells #[.slice A there.length k, .int .i64 last, .slice As ms.length cs, .bool false] 62)) (.cells #[.slice none 0 0, .int .i64 0, .slice none 0 0, .bool false] 62)
      rwa [World.size_alloc] at this
    have hb2 : wb.heap[w.heap.size]? = some (.cells #[.slice A there.length k, .int .i64 last, .slice As ms.length cs, .bool false] 62 (0, 0)) := by
      rw [← hwb, Below.heap_alloc _ _ _ (by simp)]
      exact World.alloc_heap_new _ _
    have HCR := Lib.hid (ref_right_clause _ c wb (HC.out.below hB) hcl)
    have HB := Lib.hid hB
    have HB3 := Lib.hid hb3
    have HB2 := Lib.hid hb2
    have HZB := Lib.hid hzb
    clear hwb hB hb3 hb2 hzb
    obtain ⟨bb, hbb⟩ : ∃ bb, clauseB c = bb := ⟨_, rfl⟩
    have HBB := Lib.hid hbb
    rw [hbb] at HCR
    clear hbb
    unfold rVal
    go_enter Tryd.func29, Tryd.ntmps29
    go_wp2_with fail
    rw [HWB.out]
    refine HCR.out.mono ?_
    rintro e w' ⟨rfl, rfl⟩
    have b0 : wb.cell? ⟨w.heap.size, 0, none⟩ = some (.slice A there.length k) := cell_of_block (j := 0) HB2.out
    have b1 : wb.cell? ⟨w.heap.size, 1, none⟩ = some (.int .i64 last) := cell_of_block (j := 1) HB2.out
    have b2 : wb.cell? ⟨w.heap.size, 2, none⟩ = some (.slice As ms.length cs) := cell_of_block (j := 2) HB2.out
    have b3 : wb.cell? ⟨w.heap.size, 3, none⟩ = some (.bool false) := cell_of_block (j := 3) HB2.out
    have e0 : wb.cell? ⟨w.heap.size + 1, 0, none⟩ = some (.slice none 0 0) := cell_of_block (j := 0) HB3.out
    have e1 : wb.cell? ⟨w.heap.size + 1, 1, none⟩ = some (.int .i64 0) := cell_of_block (j := 1) HB3.out
    have e2 : wb.cell? ⟨w.heap.size + 1, 2, none⟩ = some (.slice none 0 0) := cell_of_block (j := 2) HB3.out
    have e3 : wb.cell? ⟨w.heap.size + 1, 3, none⟩ = some (.bool false) := cell_of_block (j := 3) HB3.out
    have fb0 := free_of_block (j := 0) HB2.out
    have fe0 := free_of_block (j := 0) HB3.out
    have fb1 := free_of_block (j := 1) HB2.out
    have fe1 := free_of_block (j := 1) HB3.out
    have fb2 := free_of_block (j := 2) HB2.out
    have fe2 := free_of_block (j := 2) HB3.out
    have fb3 := free_of_block (j := 3) HB2.out
    have fe3 := free_of_block (j := 3) HB3.out
    rcases bb with _ | _
    · have h0 : refErr ⟨there, last, steps, false⟩ c h = 20 := by unfold refErr; simp [HBB.out]
      have H0 := Lib.hid h0
      clear h0
      go_wp2
      refine bodyPost_ret (v := .tuple #[rVal (.slice A there.length k) (.slice As ms.length cs) ⟨there, last, steps, false⟩, .int .i64 0, .int .i64 20]) (by simp [rVal, results, Tryd.results29, go_sem, e0, e1, e2, e3]) rfl ?_
      exact learn_post_bad 20 HR.out H0.out (by decide) (set4_below HB.out (Nat.le_succ _) _ _ _ _)
    · by_cases hlong : 65536 < h.length
      · have h0 : refErr ⟨there, last, steps, false⟩ c h = 5 := by unfold refErr; simp [HBB.out, hlong]
        have H0 := Lib.hid h0
        clear h0
        go_wp2
        refine bodyPost_ret (v := .tuple #[rVal (.slice A there.length k) (.slice As ms.length cs) ⟨there, last, steps, false⟩, .int .i64 0, .int .i64 5]) (by simp [rVal, results, Tryd.results29, go_sem, e0, e1, e2, e3]) rfl ?_
        exact learn_post_bad 5 HR.out H0.out (by decide) (set4_below HB.out (Nat.le_succ _) _ _ _ _)
      · go_wp2_with fail
        clear b0 b1 b2 b3 e0 e1 e2 e3 fb0 fb1 fb2 fb3 fe0 fe1 fe2 fe3
        go_loopw [9] (fun i wr => ∃ q : Nat, q ≤ h.length ∧ i = .int .i64 q ∧ Hid (Below wb.heap.size wb wr) ∧ Hid (∀ j y, j < q → h[j]? = some y → there.contains y = true)) (fun i _ => h.length - (intOf i).toNat)
        case atStart => exact ⟨0, Nat.zero_le _, rfl, Lib.hid (Below.refl _ _), Lib.hid (fun j y hj => by omega)⟩
        case round =>
          obtain ⟨q, hq, rfl, HW, HP⟩ := hrel
          have hr2 : wr.heap[w.heap.size]? = some (.cells #[.slice A there.length k, .int .i64 last, .slice As ms.length cs, .bool false] 62 (0, 0)) := (HW.out.block _ (by have := HZB.out; omega)).trans HB2.out
          have hr3 : wr.heap[w.heap.size + 1]? = some (.cells #[.slice none 0 0, .int .i64 0, .slice none 0 0, .bool false] 62 (0, 0)) := (HW.out.block _ (by have := HZB.out; omega)).trans HB3.out
          have hzr : w.heap.size + 2 ≤ wr.heap.size := by have := HZB.out; have := HW.out.size; omega
          have HR2 := Lib.hid hr2
          have HR3 := Lib.hid hr3
          have HBR := Lib.hid (HB.out.trans (HW.out.mono HB.out.size))
          clear hr2 hr3
          have b0 : wr.cell? ⟨w.heap.size, 0, none⟩ = some (.slice A there.length k) := cell_of_block (j := 0) HR2.out
          have b1 : wr.cell? ⟨w.heap.size, 1, none⟩ = some (.int .i64 last) := cell_of_block (j := 1) HR2.out
          have b2 : wr.cell? ⟨w.heap.size, 2, none⟩ = some (.slice As ms.length cs) := cell_of_block (j := 2) HR2.out
          have b3 : wr.cell? ⟨w.heap.size, 3, none⟩ = some (.bool false) := cell_of_block (j := 3) HR2.out
          have e0 : wr.cell? ⟨w.heap.size + 1, 0, none⟩ = some (.slice none 0 0) := cell_of_block (j := 0) HR3.out
          have e1 : wr.cell? ⟨w.heap.size + 1, 1, none⟩ = some (.int .i64 0) := cell_of_block (j := 1) HR3.out
          have e2 : wr.cell? ⟨w.heap.size + 1, 2, none⟩ = some (.slice none 0 0) := cell_of_block (j := 2) HR3.out
          have e3 : wr.cell? ⟨w.heap.size + 1, 3, none⟩ = some (.bool false) := cell_of_block (j := 3) HR3.out
          have fb0 := free_of_block (j := 0) HR2.out
          have fe0 := free_of_block (j := 0) HR3.out
          have fb1 := free_of_block (j := 1) HR2.out
          have fe1 := free_of_block (j := 1) HR3.out
          have fb2 := free_of_block (j := 2) HR2.out
          have fe2 := free_of_block (j := 2) HR3.out
          have fb3 := free_of_block (j := 3) HR2.out
          have fe3 := free_of_block (j := 3) HR3.out

          by_cases hlt : q < h.length
          · obtain ⟨y, hy⟩ := getElem_of hlt
            obtain ⟨g, o, rfl, hg, _, d0⟩ := HHX.out q y hy
            have d1 := (HBR.out.cell (p := ⟨g, o + q, none⟩) hg).trans d0
            have HY := Lib.hid hy
            have HG := Lib.hid (Nat.lt_of_lt_of_le hg HBR.out.size)
            obtain ⟨bx, hbx⟩ : ∃ bx, there.contains y = bx := ⟨_, rfl⟩
            have HBX := Lib.hid hbx
            have hhas := ref_has (.slice A there.length k) (.slice As ms.length cs) ⟨there, last, steps, false⟩ y wr.drew ((HR.out.1.below HBR.out).below (below_drew' wr)) (by simp only []; omega)
            simp only [] at hhas
            rw [hbx] at hhas
            have HHAS := Lib.hid hhas
            clear hhas hbx hy d0 hg
            go_wp2_with fail
            refine wp_region_held_drew (S := fun w' => w'.cell? ⟨w.heap.size, 0, none⟩ = some (.slice A there.length k) ∧ w'.cell? ⟨w.heap.size, 1, none⟩ = some (.int .i64 last) ∧ w'.cell? ⟨w.heap.size, 2, none⟩ = some (.slice As ms.length cs) ∧ w'.cell? ⟨w.heap.size, 3, none⟩ = some (.bool false) ∧ w'.cell? ⟨g, o + q, none⟩ = some (.int .i64 y)) (by kernel_rfl) ⟨b0, b1, b2, b3, d1⟩ (fun hHeld => ?_)
            refine takeD 0 27 (v := ?_) rfl (by rfl) (by kernel_rfl) (by kernel_rfl) (by kernel_rfl) (fun _ _ _ h => h) (Or.inl ⟨by rfl, ?_⟩) (by assumption) ?_
            rotate_left
            · intro w hSw
              obtain ⟨_, _, _, _, _⟩ := hSw
              go_simp
              try with_reducible rfl
            simp only [Act.put, List.setIfInBounds_toArray, List.set_cons_zero, List.set_cons_succ]
            refine takeD 1 28 (v := ?_) rfl (by rfl) (by kernel_rfl) (by kernel_rfl) (by kernel_rfl) (fun _ _ _ h => h) (Or.inl ⟨by rfl, ?_⟩) (by assumption) ?_
            rotate_left
            · intro w hSw
              obtain ⟨_, _, _, _, _⟩ := hSw
              go_simp
              try with_reducible rfl
            simp only [Act.put, List.setIfInBounds_toArray, List.set_cons_zero, List.set_cons_succ]
            refine takeD 2 29 (v := ?_) rfl (by rfl) (by kernel_rfl) (by kernel_rfl) (by kernel_rfl) (fun _ _ _ h => h) (Or.inl ⟨by rfl, ?_⟩) (by assumption) ?_
            rotate_left
            · intro w hSw
              obtain ⟨_, _, _, _, _⟩ := hSw
              go_simp
              try with_reducible rfl
            simp only [Act.put, List.setIfInBounds_toArray, List.set_cons_zero, List.set_cons_succ]
            refine takeD 3 30 (v := ?_) rfl (by rfl) (by kernel_rfl) (by kernel_rfl) (by kernel_rfl) (fun _ _ _ h => h) (Or.inl ⟨by rfl, ?_⟩) (by assumption) ?_
            rotate_left
            · intro w hSw
              obtain ⟨_, _, _, _, _⟩ := hSw
              go_simp
              try with_reducible rfl
            simp only [Act.put, List.setIfInBounds_toArray, List.set_cons_zero, List.set_cons_succ]
            refine takeD 4 31 (v := ?_) rfl (by rfl) (by kernel_rfl) (by kernel_rfl) (by kernel_rfl) (fun _ _ _ h => h) (Or.inl ⟨by rfl, ?_⟩) (by assumption) ?_
            rotate_left
            · intro w hSw
              obtain ⟨_, _, _, _, _⟩ := hSw
              go_simp
              try with_reducible rfl
            simp only [Act.put, List.setIfInBounds_toArray, List.set_cons_zero, List.set_cons_succ]
            refine wpAnyH_ready (rs := [5]) (by kernel_rfl) (by simp) ?_
            refine AllReadyH.cons rfl (fun K hK => ?_) AllReadyH.nil
            go_simp
            refine HHAS.out.mono ?_
            rintro e w1 ⟨rfl, hb1⟩
            have hx0 : w.heap.size < wr.drew.heap.size := Nat.lt_of_lt_of_le (by omega) hzr
            refine hK.out _ _ ⟨(hb1.cell (p := ⟨w.heap.size, 0, none⟩) hx0).trans hHeld.1, (hb1.cell (p := ⟨w.heap.size, 1, none⟩) hx0).trans hHeld.2.1, (hb1.cell (p := ⟨w.heap.size, 2, none⟩) hx0).trans hHeld.2.2.1, (hb1.cell (p := ⟨w.heap.size, 3, none⟩) hx0).trans hHeld.2.2.2.1, (hb1.cell (p := ⟨g, o + q, none⟩) HG.out).trans hHeld.2.2.2.2⟩ (fun hHeld1 => ?_)
            clear hK hHeld
            refine takeD 6 33 (v := ?_) rfl (by rfl) (by kernel_rfl) (by kernel_rfl) (by kernel_rfl) (fun _ _ _ h => h) (Or.inl ⟨by rfl, ?_⟩) (by assumption) ?_
            rotate_left
            · intro w hSw
              obtain ⟨_, _, _, _, _⟩ := hSw
              go_simp
              try with_reducible rfl
            simp only [Act.put, List.setIfInBounds_toArray, List.set_cons_zero, List.set_cons_succ]
            refine wpAnyH_done (by kernel_rfl) ?_ _
            have hw1 : Below wr.heap.size wr w1 := (below_drew' wr).trans hb1
            have h21 := (hw1.block _ (by omega)).trans HR2.out
            have h31 := (hw1.block _ (by omega)).trans HR3.out
            have HW1 := Lib.hid hw1
            clear b0 b1 b2 b3 e0 e1 e2 e3 fb0 fb1 fb2 fb3 fe0 fe1 fe2 fe3
            clear d1 hHeld1 hb1 hx0 hw1
            have H21 := Lib.hid h21
            have H31 := Lib.hid h31
            clear h21 h31
            rcases bx with _ | _
            · have h0 : refErr ⟨there, last, steps, false⟩ c h = 170 := by
                have hany : (h.any fun x => !there.contains x) = true := List.any_eq_true.2 ⟨y, List.mem_of_getElem? HY.out, by rw [HBX.out]; rfl⟩
                simp only [refErr]
                rw [if_neg (by decide), if_neg (by simp [HBB.out]), if_neg hlong, if_pos hany]
              have H0 := Lib.hid h0
              clear h0
              have b0 : w1.cell? ⟨w.heap.size, 0, none⟩ = some (.slice A there.length k) := cell_of_block (j := 0) H21.out
              have b1 : w1.cell? ⟨w.heap.size, 1, none⟩ = some (.int .i64 last) := cell_of_block (j := 1) H21.out
              have b2 : w1.cell? ⟨w.heap.size, 2, none⟩ = some (.slice As ms.length cs) := cell_of_block (j := 2) H21.out
              have b3 : w1.cell? ⟨w.heap.size, 3, none⟩ = some (.bool false) := cell_of_block (j := 3) H21.out
              have e0 : w1.cell? ⟨w.heap.size + 1, 0, none⟩ = some (.slice none 0 0) := cell_of_block (j := 0) H31.out
              have e1 : w1.cell? ⟨w.heap.size + 1, 1, none⟩ = some (.int .i64 0) := cell_of_block (j := 1) H31.out
              have e2 : w1.cell? ⟨w.heap.size + 1, 2, none⟩ = some (.slice none 0 0) := cell_of_block (j := 2) H31.out
              have e3 : w1.cell? ⟨w.heap.size + 1, 3, none⟩ = some (.bool false) := cell_of_block (j := 3) H31.out
              have fb0 := free_of_block (j := 0) H21.out
              have fe0 := free_of_block (j := 0) H31.out
              have fb1 := free_of_block (j := 1) H21.out
              have fe1 := free_of_block (j := 1) H31.out
              have fb2 := free_of_block (j := 2) H21.out
              have fe2 := free_of_block (j := 2) H31.out
              have fb3 := free_of_block (j := 3) H21.out
              have fe3 := free_of_block (j := 3) H31.out
              go_wp2
              refine bodyPost_ret (v := .tuple #[rVal (.slice A there.length k) (.slice As ms.length cs) ⟨there, last, steps, false⟩, .int .i64 0, .int .i64 170]) (by simp [rVal, results, Tryd.results29, go_sem, e0, e1, e2, e3]) rfl ?_
              exact learn_post_bad 170 HR.out H0.out (by decide) (set4_below (HBR.out.trans (HW1.out.mono HBR.out.size)) (Nat.le_succ _) _ _ _ _)
            · go_wp2
              go_roundw
              case rel => exact ⟨q + 1, by omega, by go_num, Lib.hid (HW.out.trans (HW1.out.mono HW.out.size)), Lib.hid (fun j z hj hz => by
                rcases Nat.lt_or_ge j q with h' | h'
                · exact HP.out j z h' hz
                · obtain rfl : j = q := by omega
                  rw [HY.out] at hz
                  obtain rfl := Option.some.inj hz
                  exact HBX.out)⟩
              case measure => simp [intOf]; omega
          · obtain rfl : q = h.length := by omega
            have hany : ¬ (h.any fun x => !there.contains x) = true := fun ha => by
              obtain ⟨y, hy, hn⟩ := List.any_eq_true.1 ha
              obtain ⟨j, hj⟩ := List.getElem?_of_mem hy
              rw [HP.out j y (List.getElem?_eq_some_iff.1 hj).1 hj] at hn
              cases hn
            have h0 : refErr ⟨there, last, steps, false⟩ c h = if 1073741824 ≤ last ∨ 262144 ≤ steps.length then 4 else 0 := by
              simp only [refErr]
              rw [if_neg (by decide), if_neg (by simp [HBB.out]), if_neg hlong, if_neg hany]
            have H0 := Lib.hid h0
            clear h0 hany
            by_cases ha : 1073741824 ≤ last
            · have h0 := H0.out
              rw [if_pos (.inl ha)] at h0
              have H0 := Lib.hid h0
              have qa : decide ((1073741824 : Int) ≤ last) = true := by simpa using ha
              clear h0 ha hl0 hl1 hst
              go_wp2
              refine bodyPost_ret (v := .tuple #[rVal (.slice A there.length k) (.slice As ms.length cs) ⟨there, last, steps, false⟩, .int .i64 0, .int .i64 4]) (by simp [rVal, results, Tryd.results29, go_sem, e0, e1, e2, e3]) rfl ?_
              exact learn_post_bad 4 HR.out H0.out (by decide) (set4_below HBR.out (Nat.le_succ _) _ _ _ _)
            · by_cases hb : 262144 ≤ steps.length
              · have h0 := H0.out
                rw [if_pos (.inr hb)] at h0
                have H0 := Lib.hid h0
                have qa : decide ((1073741824 : Int) ≤ last) = false := by simpa using ha
                have qb : decide ((262144 : Int) ≤ (ms.length : Int)) = true := by rw [HMS.out]; simp; omega
                clear h0 ha hb hl0 hl1 hst
                go_wp2
                refine bodyPost_ret (v := .tuple #[rVal (.slice A there.length k) (.slice As ms.length cs) ⟨there, last, steps, false⟩, .int .i64 0, .int .i64 4]) (by simp [rVal, results, Tryd.results29, go_sem, e0, e1, e2, e3]) rfl ?_
                exact learn_post_bad 4 HR.out H0.out (by decide) (set4_below HBR.out (Nat.le_succ _) _ _ _ _)
              · have h0 := H0.out
                rw [if_neg (by omega)] at h0
                have H0 := Lib.hid h0
                have qa : decide ((1073741824 : Int) ≤ last) = false := by simpa using ha
                have qb : decide ((262144 : Int) ≤ (ms.length : Int)) = false := by rw [HMS.out]; simp; omega
                have hwr : IntKind.i64.wrap (last + 1) = last + 1 := IntWalk.i64_in _ (by omega)
                have HA := Lib.hid ha
                have HB' := Lib.hid hb
                have HL0 := Lib.hid hl0
                clear h0 ha hb hl0 hl1 hst
                go_wp2_with fail
                obtain ⟨wl, hwl⟩ : ∃ x, wr.setCell ⟨w.heap.size, 1, none⟩ (.int .i64 (last + 1)) = x := ⟨_, rfl⟩
                have hl2 : wl.heap[w.heap.size]? = some (.cells #[.slice A there.length k, .int .i64 (last + 1), .slice As ms.length cs, .bool false] 62 (0, 0)) := by rw [← hwl]; exact block_set HR2.out _ (j := 1)
                have hl3 : wl.heap[w.heap.size + 1]? = some (.cells #[.slice none 0 0, .int .i64 0, .slice none 0 0, .bool false] 62 (0, 0)) := by rw [← hwl]; exact (Below.heap_setCell _ _ _ _ (by simp)).trans HR3.out
                have hbl : Below w.heap.size w wl := by rw [← hwl]; exact HBR.out.setCell (p := ⟨w.heap.size, 1, none⟩) (Nat.le_refl _) _
                have hzl : w.heap.size + 2 ≤ wl.heap.size := by rw [← hwl]; simpa [World.setCell] using hzr
                rw [hwl]
                have HL2 := Lib.hid hl2
                have HL3 := Lib.hid hl3
                have HBL := Lib.hid hbl
                clear hwl hl2 hl3 hbl
                clear b0 b1 b2 b3 e0 e1 e2 e3 fb0 fb1 fb2 fb3 fe0 fe1 fe2 fe3
                obtain ⟨i0, hi, hz0, hz1, hz2⟩ := info_parts info_int
                go_cut [49] (fun _ wx => ∃ (At : Option Addr) (kt : Nat), Hid (wx.heap[w.heap.size]? = some (.cells #[.slice At (there.length + 1) kt, .int .i64 (last + 1), .slice As ms.length cs, .bool false] 62 (0, 0))) ∧ Hid (wx.heap[w.heap.size + 1]? = some (.cells #[.slice none 0 0, .int .i64 0, .slice none 0 0, .bool false] 62 (0, 0))) ∧ Hid (wx.ownsRow (w.heap.size + 2) 3 1 (.slice At (there.length + 1) kt) (there.length + 1) ((there ++ [last + 1]).map (Value.int .i64))) ∧ Hid (Below w.heap.size w wx) ∧ w.heap.size + 2 ≤ wx.heap.size)
                case first =>
                  have c0 : wl.cell? ⟨w.heap.size, 0, none⟩ = some (.slice A there.length k) := cell_of_block (j := 0) HL2.out
                  have c1 : wl.cell? ⟨w.heap.size, 1, none⟩ = some (.int .i64 (last + 1)) := cell_of_block (j := 1) HL2.out
                  refine wp_region_sink_at (S := fun w' => w'.cell? ⟨w.heap.size, 0, none⟩ = some (.slice A there.length k) ∧ w'.cell? ⟨w.heap.size, 1, none⟩ = some (.int .i64 (last + 1))) (by kernel_rfl) rfl (by kernel_rfl) ⟨c0, c1⟩ (fun hHeld => ?_)
                  obtain ⟨wD, hwD⟩ : ∃ x, wl.drew = x := ⟨_, rfl⟩
                  have hbD : Below wl.heap.size wl wD := by rw [← hwD]; exact below_drew' wl
                  rw [hwD] at hHeld ⊢
                  have hzD : wD.heap.size = wl.heap.size := by rw [← hwD]; rfl
                  refine takeD 1 50 (v := ?_) rfl (by rfl) (by kernel_rfl) (by kernel_rfl) (by kernel_rfl) (fun _ _ _ h => h) (Or.inl ⟨by rfl, ?_⟩) (by assumption) ?_
                  rotate_left
                  · intro w hSw
                    obtain ⟨_, _⟩ := hSw
                    go_simp
                    try with_reducible rfl
                  simp only [Act.put, List.setIfInBounds_toArray, List.set_cons_zero, List.set_cons_succ]
                  refine takeD 2 51 (v := ?_) rfl (by rfl) (by kernel_rfl) (by kernel_rfl) (by kernel_rfl) (fun _ _ _ h => h) (Or.inl ⟨by rfl, ?_⟩) (by assumption) ?_
                  rotate_left
                  · intro w hSw
                    obtain ⟨_, _⟩ := hSw
                    go_simp
                    try with_reducible rfl
                  simp only [Act.put, List.setIfInBounds_toArray, List.set_cons_zero, List.set_cons_succ]
                  refine takeD 4 53 (v := ?_) rfl (by rfl) (by kernel_rfl) (by kernel_rfl) (by kernel_rfl) (fun _ _ _ h => h) (Or.inl ⟨by rfl, ?_⟩) (by assumption) ?_
                  rotate_left
                  · intro w hSw
                    obtain ⟨_, _⟩ := hSw
                    go_simp
                    try with_reducible rfl
                  simp only [Act.put, List.setIfInBounds_toArray, List.set_cons_zero, List.set_cons_succ]
                  refine takeD 5 54 (v := ?_) rfl (by rfl) (by kernel_rfl) (by kernel_rfl) (by kernel_rfl) (fun _ _ _ h => h) (Or.inl ⟨by rfl, ?_⟩) (by assumption) ?_
                  rotate_left
                  · intro w hSw
                    obtain ⟨_, _⟩ := hSw
                    go_simp
                    try with_reducible rfl
                  simp only [Act.put, List.setIfInBounds_toArray, List.set_cons_zero, List.set_cons_succ]
                  have HT := Lib.hid ((HR.out.1.below (HBL.out.trans (hbD.mono HBL.out.size))).src)
                  have hss : ∀ x, Below wD.heap.size wD x → x.cell? ⟨w.heap.size, 0, none⟩ = some (.slice A there.length k) ∧ x.cell? ⟨w.heap.size, 1, none⟩ = some (.int .i64 (last + 1)) := fun x hx => ⟨(hx.cell (p := ⟨w.heap.size, 0, none⟩) (by show w.heap.size < wD.heap.size; omega)).trans hHeld.1, (hx.cell (p := ⟨w.heap.size, 1, none⟩) (by show w.heap.size < wD.heap.size; omega)).trans hHeld.2⟩
                  have HSS := Lib.hid hss
                  have HBwD := Lib.hid (Below.refl wD.heap.size wD)
                  have HZD := Lib.hid hzD
                  have HBD := Lib.hid hbD
                  clear hss hHeld hbD hzD c0 c1 hwD
                  refine wpAnyH_ready (rs := [0, 6]) (by kernel_rfl) (by simp) ?_
                  refine AllReadyH.cons rfl (fun K hK => ?_) (AllReadyH.cons rfl (fun K hK => ?_) AllReadyH.nil)
                  · -- the empty one first
                    go_simp
                    obtain ⟨x1, hwx1⟩ : ∃ x, wD.alloc (.cells #[] 3) = x := ⟨_, rfl⟩
                    have hbn : Below wD.heap.size wD x1 := by rw [← hwx1]; exact below_al _ _
                    have hon := own_empty wD wD.heap.size 3 1 HBwD.out.size
                    have hszx1 : x1.heap.size = wD.heap.size + 1 := by rw [← hwx1]; simp
                    rw [hwx1] at hon
                    rw [hwx1]
                    have HBx1 := Lib.hid (HBwD.out.trans (hbn.mono HBwD.out.size))
                    have HO := Lib.hid hon
                    have HT := Lib.hid (HT.out.below hbn)
                    have HZx1 := Lib.hid hszx1
                    clear hbn hon hwx1 hszx1
                    refine hK.out _ _ (HSS.out _ HBx1.out) (fun hHeldx1 => ?_)
                    clear hK
                    refine wpAnyH_ready (rs := [3, 6]) (by kernel_rfl) (by simp) ?_
                    refine AllReadyH.cons rfl (fun K hK => ?_) (AllReadyH.cons rfl (fun K hK => ?_) AllReadyH.nil)
                    · -- then the append
                      rw [if_pos (by rfl)]
                      refine wp_append_any_at 52 (by rfl) _ _ 26 rfl wD.heap.size 3 i0 (.int .i64 0) 1 8 Tryd.underlying26 hi hz0 hz1 hz2 rfl (by decide) _ 0 _ (by rfl) HO.out (.slice A there.length k) there.length (there.map (Value.int .i64)) (by rfl) HT.out (by simp) (by simp [Value.oneCell']) (by unfold maxLen; omega) (by omega) HBx1.out.size ?_
                      intro v' x2 hown hgrow hat
                      rw [Nat.zero_add, List.nil_append] at hown
                      obtain ⟨Av, kv, rfl, _⟩ := own_slice hown
                      have HBx2 := Lib.hid (HBx1.out.grown hgrow HBx1.out.size (fun g hg => (own_lt HO.out g hg).1))
                      have HO := Lib.hid hown
                      clear hown hgrow hat
                      refine hK.out _ _ (HSS.out _ HBx2.out) (fun hHeldx2 => ?_)
                      clear hK
                      refine wpAnyH_ready (rs := [6]) (by kernel_rfl) (by simp) ?_
                      refine AllReadyH.cons rfl (fun K hK => ?_) AllReadyH.nil
                      go_simp
                      obtain ⟨x3, hwx3⟩ : ∃ x, x2.alloc (.cells #[.int .i64 (last + 1)] 3) = x := ⟨_, rfl⟩
                      have hbn : Below x2.heap.size x2 x3 := by rw [← hwx3]; exact below_al _ _
                      have hnn := src_new x2 3 [.int .i64 (last + 1)]
                      have hszx3 : x3.heap.size = x2.heap.size + 1 := by rw [← hwx3]; simp
                      rw [hwx3] at hnn
                      rw [hwx3]
                      have HBx3 := Lib.hid (HBx2.out.trans (hbn.mono HBx2.out.size))
                      have HN := Lib.hid hnn
                      have HO := Lib.hid (own_below HO.out hbn)
                      have HZx3 := Lib.hid hszx3
                      clear hbn hnn hwx3 hszx3
                      refine hK.out _ _ (HSS.out _ HBx3.out) (fun hHeldx3 => ?_)
                      clear hK
                      refine wpAnyH_ready (rs := [7]) (by kernel_rfl) (by simp) ?_
                      refine AllReadyH.cons rfl (fun K hK => ?_) AllReadyH.nil
                      rw [if_pos (by rfl)]
                      refine wp_append_any_at 56 (by rfl) _ _ 26 rfl wD.heap.size 3 i0 (.int .i64 0) 1 8 Tryd.underlying26 hi hz0 hz1 hz2 rfl (by decide) _ there.length _ (by rfl) HO.out (.slice (some ⟨x2.heap.size, 0, none⟩) 1 1) 1 [.int .i64 (last + 1)] (by rfl) HN.out rfl (by simp [Value.oneCell']) (by unfold maxLen; omega) (by omega) HBx3.out.size ?_
                      intro v' x4 hown hgrow hat
                      obtain ⟨Ax, kx, rfl, _⟩ := own_slice hown
                      have HBx4 := Lib.hid (HBx3.out.grown hgrow HBx3.out.size (fun g hg => (own_lt HO.out g hg).1))
                      have HOX := Lib.hid hown
                      clear hown hgrow hat
                      refine hK.out _ _ (HSS.out _ HBx4.out) (fun hHeldx4 => ?_)
                      clear hK
                      refine takeD 8 57 (v := ?_) rfl (by rfl) (by kernel_rfl) (by kernel_rfl) (by kernel_rfl) (fun _ _ _ h => h) (Or.inl ⟨by rfl, ?_⟩) (by assumption) ?_
                      rotate_left
                      · intro w hSw
                        obtain ⟨_, _⟩ := hSw
                        go_simp
                        try with_reducible rfl
                      simp only [Act.put, List.setIfInBounds_toArray, List.set_cons_zero, List.set_cons_succ]
                      refine wpAnyH_done (by kernel_rfl) ?_ _
                      refine lastPost_normal ?_
                      have hblk := (HBx4.out.block w.heap.size (by have := HZD.out; omega)).trans ((HBD.out.block w.heap.size (by omega)).trans HL2.out)
                      have hblk1 := (HBx4.out.block (w.heap.size + 1) (by have := HZD.out; omega)).trans ((HBD.out.block (w.heap.size + 1) (by omega)).trans HL3.out)
                      have fr0 := free_of_block (j := 0) hblk
                      obtain ⟨z0, z1⟩ := hHeldx4
                      have HBLK := Lib.hid hblk
                      have HBLK1 := Lib.hid hblk1
                      clear hblk hblk1
                      refine wpOp_step rfl (fun K hK => ?_)
                      go_simp
                      refine hK _ _ ?_
                      clear hK
                      have hzw := HBx4.out.size
                      have hzd := HZD.out
                      have h1 := block_set HBLK.out (.slice Ax (there.length + 1) kx) (j := 0)
                      have h2 : (x4.setCell ⟨w.heap.size, 0, none⟩ (.slice Ax (there.length + 1) kx)).heap[w.heap.size + 1]? = _ := (Below.heap_setCell _ _ _ _ (by simp)).trans HBLK1.out
                      have h3 : (x4.setCell ⟨w.heap.size, 0, none⟩ (.slice Ax (there.length + 1) kx)).ownsRow (w.heap.size + 2) 3 1 (.slice Ax (there.length + 1) kx) (there.length + 1) ((there ++ [last + 1]).map (Value.int .i64)) := by
                        rw [List.map_append]
                        exact own_mono (own_kept (O := fun g => g = w.heap.size) HOX.out ((Kept.refl (fun g => g = w.heap.size) x4).setCell ⟨w.heap.size, 0, none⟩ _ rfl) (fun g hg e => by have := (own_lt HOX.out g hg).1; omega)) (by omega)
                      have h4 := ((HBL.out.trans (HBD.out.mono HBL.out.size)).trans (HBx4.out.mono (by omega))).setCell (p := ⟨w.heap.size, 0, none⟩) (Nat.le_refl _) (.slice Ax (there.length + 1) kx)
                      go_wp2_with fail
                      go_meet
                      exact ⟨Ax, kx, Lib.hid h1, Lib.hid h2, Lib.hid h3, Lib.hid h4, by simp [World.setCell]; omega⟩
                    · -- then the new one
                      go_simp
                      obtain ⟨x2, hwx2⟩ : ∃ x, x1.alloc (.cells #[.int .i64 (last + 1)] 3) = x := ⟨_, rfl⟩
                      have hbn : Below x1.heap.size x1 x2 := by rw [← hwx2]; exact below_al _ _
                      have hnn := src_new x1 3 [.int .i64 (last + 1)]
                      have hszx2 : x2.heap.size = x1.heap.size + 1 := by rw [← hwx2]; simp
                      rw [hwx2] at hnn
                      rw [hwx2]
                      have HBx2 := Lib.hid (HBx1.out.trans (hbn.mono HBx1.out.size))
                      have HN := Lib.hid hnn
                      have HO := Lib.hid (own_below HO.out hbn)
                      have HT := Lib.hid (HT.out.below hbn)
                      have HZx2 := Lib.hid hszx2
                      clear hbn hnn hwx2 hszx2
                      refine hK.out _ _ (HSS.out _ HBx2.out) (fun hHeldx2 => ?_)
                      clear hK
                      refine wpAnyH_ready (rs := [3]) (by kernel_rfl) (by simp) ?_
                      refine AllReadyH.cons rfl (fun K hK => ?_) AllReadyH.nil
                      rw [if_pos (by rfl)]
                      refine wp_append_any_at 52 (by rfl) _ _ 26 rfl wD.heap.size 3 i0 (.int .i64 0) 1 8 Tryd.underlying26 hi hz0 hz1 hz2 rfl (by decide) _ 0 _ (by rfl) HO.out (.slice A there.length k) there.length (there.map (Value.int .i64)) (by rfl) HT.out (by simp) (by simp [Value.oneCell']) (by unfold maxLen; omega) (by omega) HBx2.out.size ?_
                      intro v' x3 hown hgrow hat
                      rw [Nat.zero_add, List.nil_append] at hown
                      obtain ⟨Av, kv, rfl, _⟩ := own_slice hown
                      have HBx3 := Lib.hid (HBx2.out.grown hgrow HBx2.out.size (fun g hg => (own_lt HO.out g hg).1))
                      have HN := Lib.hid (src_grown HN.out hgrow (by have := HZx1.out; simp [Value.ownBlock]; omega))
                      have HO := Lib.hid hown
                      clear hown hgrow hat
                      refine hK.out _ _ (HSS.out _ HBx3.out) (fun hHeldx3 => ?_)
                      clear hK
                      refine wpAnyH_ready (rs := [7]) (by kernel_rfl) (by simp) ?_
                      refine AllReadyH.cons rfl (fun K hK => ?_) AllReadyH.nil
                      rw [if_pos (by rfl)]
                      refine wp_append_any_at 56 (by rfl) _ _ 26 rfl wD.heap.size 3 i0 (.int .i64 0) 1 8 Tryd.underlying26 hi hz0 hz1 hz2 rfl (by decide) _ there.length _ (by rfl) HO.out (.slice (some ⟨x1.heap.size, 0, none⟩) 1 1) 1 [.int .i64 (last + 1)] (by rfl) HN.out rfl (by simp [Value.oneCell']) (by unfold maxLen; omega) (by omega) HBx3.out.size ?_
                      intro v' x4 hown hgrow hat
                      obtain ⟨Ax, kx, rfl, _⟩ := own_slice hown
                      have HBx4 := Lib.hid (HBx3.out.grown hgrow HBx3.out.size (fun g hg => (own_lt HO.out g hg).1))
                      have HOX := Lib.hid hown
                      clear hown hgrow hat
                      refine hK.out _ _ (HSS.out _ HBx4.out) (fun hHeldx4 => ?_)
                      clear hK
                      refine takeD 8 57 (v := ?_) rfl (by rfl) (by kernel_rfl) (by kernel_rfl) (by kernel_rfl) (fun _ _ _ h => h) (Or.inl ⟨by rfl, ?_⟩) (by assumption) ?_
                      rotate_left
                      · intro w hSw
                        obtain ⟨_, _⟩ := hSw
                        go_simp
                        try with_reducible rfl
                      simp only [Act.put, List.setIfInBounds_toArray, List.set_cons_zero, List.set_cons_succ]
                      refine wpAnyH_done (by kernel_rfl) ?_ _
                      refine lastPost_normal ?_
                      have hblk := (HBx4.out.block w.heap.size (by have := HZD.out; omega)).trans ((HBD.out.block w.heap.size (by omega)).trans HL2.out)
                      have hblk1 := (HBx4.out.block (w.heap.size + 1) (by have := HZD.out; omega)).trans ((HBD.out.block (w.heap.size + 1) (by omega)).trans HL3.out)
                      have fr0 := free_of_block (j := 0) hblk
                      obtain ⟨z0, z1⟩ := hHeldx4
                      have HBLK := Lib.hid hblk
                      have HBLK1 := Lib.hid hblk1
                      clear hblk hblk1
                      refine wpOp_step rfl (fun K hK => ?_)
                      go_simp
                      refine hK _ _ ?_
                      clear hK
                      have hzw := HBx4.out.size
                      have hzd := HZD.out
                      have h1 := block_set HBLK.out (.slice Ax (there.length + 1) kx) (j := 0)
                      have h2 : (x4.setCell ⟨w.heap.size, 0, none⟩ (.slice Ax (there.length + 1) kx)).heap[w.heap.size + 1]? = _ := (Below.heap_setCell _ _ _ _ (by simp)).trans HBLK1.out
                      have h3 : (x4.setCell ⟨w.heap.size, 0, none⟩ (.slice Ax (there.length + 1) kx)).ownsRow (w.heap.size + 2) 3 1 (.slice Ax (there.length + 1) kx) (there.length + 1) ((there ++ [last + 1]).map (Value.int .i64)) := by
                        rw [List.map_append]
                        exact own_mono (own_kept (O := fun g => g = w.heap.size) HOX.out ((Kept.refl (fun g => g = w.heap.size) x4).setCell ⟨w.heap.size, 0, none⟩ _ rfl) (fun g hg e => by have := (own_lt HOX.out g hg).1; omega)) (by omega)
                      have h4 := ((HBL.out.trans (HBD.out.mono HBL.out.size)).trans (HBx4.out.mono (by omega))).setCell (p := ⟨w.heap.size, 0, none⟩) (Nat.le_refl _) (.slice Ax (there.length + 1) kx)
                      go_wp2_with fail
                      go_meet
                      exact ⟨Ax, kx, Lib.hid h1, Lib.hid h2, Lib.hid h3, Lib.hid h4, by simp [World.setCell]; omega⟩
                  · -- the new one first
                    go_simp
                    obtain ⟨x1, hwx1⟩ : ∃ x, wD.alloc (.cells #[.int .i64 (last + 1)] 3) = x := ⟨_, rfl⟩
                    have hbn : Below wD.heap.size wD x1 := by rw [← hwx1]; exact below_al _ _
                    have hnn := src_new wD 3 [.int .i64 (last + 1)]
                    have hszx1 : x1.heap.size = wD.heap.size + 1 := by rw [← hwx1]; simp
                    rw [hwx1] at hnn
                    rw [hwx1]
                    have HBx1 := Lib.hid (HBwD.out.trans (hbn.mono HBwD.out.size))
                    have HN := Lib.hid hnn
                    have HT := Lib.hid (HT.out.below hbn)
                    have HZx1 := Lib.hid hszx1
                    clear hbn hnn hwx1 hszx1
                    refine hK.out _ _ (HSS.out _ HBx1.out) (fun hHeldx1 => ?_)
                    clear hK
                    refine wpAnyH_ready (rs := [0]) (by kernel_rfl) (by simp) ?_
                    refine AllReadyH.cons rfl (fun K hK => ?_) AllReadyH.nil
                    go_simp
                    obtain ⟨x2, hwx2⟩ : ∃ x, x1.alloc (.cells #[] 3) = x := ⟨_, rfl⟩
                    have hbn : Below x1.heap.size x1 x2 := by rw [← hwx2]; exact below_al _ _
                    have hon := own_empty x1 wD.heap.size 3 1 HBx1.out.size
                    have hszx2 : x2.heap.size = x1.heap.size + 1 := by rw [← hwx2]; simp
                    rw [hwx2] at hon
                    rw [hwx2]
                    have HBx2 := Lib.hid (HBx1.out.trans (hbn.mono HBx1.out.size))
                    have HO := Lib.hid hon
                    have HT := Lib.hid (HT.out.below hbn)
                    have HN := Lib.hid (HN.out.below hbn)
                    have HZx2 := Lib.hid hszx2
                    clear hbn hon hwx2 hszx2
                    refine hK.out _ _ (HSS.out _ HBx2.out) (fun hHeldx2 => ?_)
                    clear hK
                    refine wpAnyH_ready (rs := [3]) (by kernel_rfl) (by simp) ?_
                    refine AllReadyH.cons rfl (fun K hK => ?_) AllReadyH.nil
                    rw [if_pos (by rfl)]
                    refine wp_append_any_at 52 (by rfl) _ _ 26 rfl wD.heap.size 3 i0 (.int .i64 0) 1 8 Tryd.underlying26 hi hz0 hz1 hz2 rfl (by decide) _ 0 _ (by rfl) HO.out (.slice A there.length k) there.length (there.map (Value.int .i64)) (by rfl) HT.out (by simp) (by simp [Value.oneCell']) (by unfold maxLen; omega) (by omega) HBx2.out.size ?_
                    intro v' x3 hown hgrow hat
                    rw [Nat.zero_add, List.nil_append] at hown
                    obtain ⟨Av, kv, rfl, _⟩ := own_slice hown
                    have HBx3 := Lib.hid (HBx2.out.grown hgrow HBx2.out.size (fun g hg => (own_lt HO.out g hg).1))
                    have HN := Lib.hid (src_grown HN.out hgrow (by have := HZx1.out; simp [Value.ownBlock]; omega))
                    have HO := Lib.hid hown
                    clear hown hgrow hat
                    refine hK.out _ _ (HSS.out _ HBx3.out) (fun hHeldx3 => ?_)
                    clear hK
                    refine wpAnyH_ready (rs := [7]) (by kernel_rfl) (by simp) ?_
                    refine AllReadyH.cons rfl (fun K hK => ?_) AllReadyH.nil
                    rw [if_pos (by rfl)]
                    refine wp_append_any_at 56 (by rfl) _ _ 26 rfl wD.heap.size 3 i0 (.int .i64 0) 1 8 Tryd.underlying26 hi hz0 hz1 hz2 rfl (by decide) _ there.length _ (by rfl) HO.out (.slice (some ⟨wD.heap.size, 0, none⟩) 1 1) 1 [.int .i64 (last + 1)] (by rfl) HN.out rfl (by simp [Value.oneCell']) (by unfold maxLen; omega) (by omega) HBx3.out.size ?_
                    intro v' x4 hown hgrow hat
                    obtain ⟨Ax, kx, rfl, _⟩ := own_slice hown
                    have HBx4 := Lib.hid (HBx3.out.grown hgrow HBx3.out.size (fun g hg => (own_lt HO.out g hg).1))
                    have HOX := Lib.hid hown
                    clear hown hgrow hat
                    refine hK.out _ _ (HSS.out _ HBx4.out) (fun hHeldx4 => ?_)
                    clear hK
                    refine takeD 8 57 (v := ?_) rfl (by rfl) (by kernel_rfl) (by kernel_rfl) (by kernel_rfl) (fun _ _ _ h => h) (Or.inl ⟨by rfl, ?_⟩) (by assumption) ?_
                    rotate_left
                    · intro w hSw
                      obtain ⟨_, _⟩ := hSw
                      go_simp
                      try with_reducible rfl
                    simp only [Act.put, List.setIfInBounds_toArray, List.set_cons_zero, List.set_cons_succ]
                    refine wpAnyH_done (by kernel_rfl) ?_ _
                    refine lastPost_normal ?_
                    have hblk := (HBx4.out.block w.heap.size (by have := HZD.out; omega)).trans ((HBD.out.block w.heap.size (by omega)).trans HL2.out)
                    have hblk1 := (HBx4.out.block (w.heap.size + 1) (by have := HZD.out; omega)).trans ((HBD.out.block (w.heap.size + 1) (by omega)).trans HL3.out)
                    have fr0 := free_of_block (j := 0) hblk
                    obtain ⟨z0, z1⟩ := hHeldx4
                    have HBLK := Lib.hid hblk
                    have HBLK1 := Lib.hid hblk1
                    clear hblk hblk1
                    refine wpOp_step rfl (fun K hK => ?_)
                    go_simp
                    refine hK _ _ ?_
                    clear hK
                    have hzw := HBx4.out.size
                    have hzd := HZD.out
                    have h1 := block_set HBLK.out (.slice Ax (there.length + 1) kx) (j := 0)
                    have h2 : (x4.setCell ⟨w.heap.size, 0, none⟩ (.slice Ax (there.length + 1) kx)).heap[w.heap.size + 1]? = _ := (Below.heap_setCell _ _ _ _ (by simp)).trans HBLK1.out
                    have h3 : (x4.setCell ⟨w.heap.size, 0, none⟩ (.slice Ax (there.length + 1) kx)).ownsRow (w.heap.size + 2) 3 1 (.slice Ax (there.length + 1) kx) (there.length + 1) ((there ++ [last + 1]).map (Value.int .i64)) := by
                      rw [List.map_append]
                      exact own_mono (own_kept (O := fun g => g = w.heap.size) HOX.out ((Kept.refl (fun g => g = w.heap.size) x4).setCell ⟨w.heap.size, 0, none⟩ _ rfl) (fun g hg e => by have := (own_lt HOX.out g hg).1; omega)) (by omega)
                    have h4 := ((HBL.out.trans (HBD.out.mono HBL.out.size)).trans (HBx4.out.mono (by omega))).setCell (p := ⟨w.heap.size, 0, none⟩) (Nat.le_refl _) (.slice Ax (there.length + 1) kx)
                    go_wp2_with fail
                    go_meet
                    exact ⟨Ax, kx, Lib.hid h1, Lib.hid h2, Lib.hid h3, Lib.hid h4, by simp [World.setCell]; omega⟩
                case rest =>
                  obtain ⟨At, kt, HC2, HC3, HCO, HCB, hzc⟩ := hcut
                  clear hi hz0 hz1 hz2
                  clear i0
                  clear HL2 HL3 HBL HR2 HR3 HBR
                  go_wp2_with fail
                  obtain ⟨i0, hi, hz0, hz1, hz2⟩ := info_parts info_rstep
                  go_cut [58] (fun _ wx => ∃ (Ax : Option Addr) (kx : Nat), Hid (wx.heap[w.heap.size]? = some (.cells #[.slice At (there.length + 1) kt, .int .i64 (last + 1), .slice Ax (ms.length + 1) kx, .bool false] 62 (0, 0))) ∧ Hid (wx.heap[w.heap.size + 1]? = some (.cells #[.slice none 0 0, .int .i64 0, .slice none 0 0, .bool false] 62 (0, 0))) ∧ Hid (wx.ownsRow (w.heap.size + 2) 3 1 (.slice At (there.length + 1) kt) (there.length + 1) ((there ++ [last + 1]).map (Value.int .i64))) ∧ Hid (wx.ownsRow (w.heap.size + 2) 98 4 (.slice Ax (ms.length + 1) kx) (ms.length + 1) (ms.flatMap MStep.cells ++ [.bool false, .int .i64 (last + 1), .slice Ac c.length kc, .slice Ah h.length kh])) ∧ Hid (Below w.heap.size w wx) ∧ w.heap.size + 2 ≤ wx.heap.size)
                  case first =>
                    have c1 : wc.cell? ⟨w.heap.size, 1, none⟩ = some (.int .i64 (last + 1)) := cell_of_block (j := 1) HC2.out
                    have c2 : wc.cell? ⟨w.heap.size, 2, none⟩ = some (.slice As ms.length cs) := cell_of_block (j := 2) HC2.out
                    have hmn : ms.length ≤ 262144 := by rw [HMS.out]; have := HB'.out; omega
                    refine wp_region_sink_at (S := fun w' => w'.cell? ⟨w.heap.size, 1, none⟩ = some (.int .i64 (last + 1)) ∧ w'.cell? ⟨w.heap.size, 2, none⟩ = some (.slice As ms.length cs)) (by kernel_rfl) rfl (by kernel_rfl) ⟨c1, c2⟩ (fun hHeld => ?_)
                    obtain ⟨wD, hwD⟩ : ∃ x, wc.drew = x := ⟨_, rfl⟩
                    have hbD : Below wc.heap.size wc wD := by rw [← hwD]; exact below_drew' wc
                    rw [hwD] at hHeld ⊢
                    have hzD : wD.heap.size = wc.heap.size := by rw [← hwD]; rfl
                    refine takeD 1 59 (v := ?_) rfl (by rfl) (by kernel_rfl) (by kernel_rfl) (by kernel_rfl) (fun _ _ _ h => h) (Or.inl ⟨by rfl, ?_⟩) (by assumption) ?_
                    rotate_left
                    · intro w hSw
                      obtain ⟨_, _⟩ := hSw
                      go_simp
                      try with_reducible rfl
                    simp only [Act.put, List.setIfInBounds_toArray, List.set_cons_zero, List.set_cons_succ]
                    refine takeD 2 60 (v := ?_) rfl (by rfl) (by kernel_rfl) (by kernel_rfl) (by kernel_rfl) (fun _ _ _ h => h) (Or.inl ⟨by rfl, ?_⟩) (by assumption) ?_
                    rotate_left
                    · intro w hSw
                      obtain ⟨_, _⟩ := hSw
                      go_simp
                      try with_reducible rfl
                    simp only [Act.put, List.setIfInBounds_toArray, List.set_cons_zero, List.set_cons_succ]
                    refine takeD 4 62 (v := ?_) rfl (by rfl) (by kernel_rfl) (by kernel_rfl) (by kernel_rfl) (fun _ _ _ h => h) (Or.inl ⟨by rfl, ?_⟩) (by assumption) ?_
                    rotate_left
                    · intro w hSw
                      obtain ⟨_, _⟩ := hSw
                      go_simp
                      try with_reducible rfl
                    simp only [Act.put, List.setIfInBounds_toArray, List.set_cons_zero, List.set_cons_succ]
                    refine takeD 5 63 (v := ?_) rfl (by rfl) (by kernel_rfl) (by kernel_rfl) (by kernel_rfl) (fun _ _ _ h => h) (Or.inl ⟨by rfl, ?_⟩) (by assumption) ?_
                    rotate_left
                    · intro w hSw
                      obtain ⟨_, _⟩ := hSw
                      go_simp
                      try with_reducible rfl
                    simp only [Act.put, List.setIfInBounds_toArray, List.set_cons_zero, List.set_cons_succ]
                    refine takeD 6 64 (v := ?_) rfl (by rfl) (by kernel_rfl) (by kernel_rfl) (by kernel_rfl) (fun _ _ _ h => h) (Or.inl ⟨by rfl, ?_⟩) (by assumption) ?_
                    rotate_left
                    · intro w hSw
                      obtain ⟨_, _⟩ := hSw
                      go_simp
                      try with_reducible rfl
                    simp only [Act.put, List.setIfInBounds_toArray, List.set_cons_zero, List.set_cons_succ]
                    refine takeD 7 65 (v := ?_) rfl (by rfl) (by kernel_rfl) (by kernel_rfl) (by kernel_rfl) (fun _ _ _ h => h) (Or.inl ⟨by rfl, ?_⟩) (by assumption) ?_
                    rotate_left
                    · intro w hSw
                      obtain ⟨_, _⟩ := hSw
                      go_simp
                      try with_reducible rfl
                    simp only [Act.put, List.setIfInBounds_toArray, List.set_cons_zero, List.set_cons_succ]
                    refine takeD 8 66 (v := ?_) rfl (by rfl) (by kernel_rfl) (by kernel_rfl) (by kernel_rfl) (fun _ _ _ h => h) (Or.inl ⟨by rfl, ?_⟩) (by assumption) ?_
                    rotate_left
                    · intro w hSw
                      obtain ⟨_, _⟩ := hSw
                      go_simp
                      try with_reducible rfl
                    simp only [Act.put, List.setIfInBounds_toArray, List.set_cons_zero, List.set_cons_succ]
                    have HT := Lib.hid (rsteps_src (HS.out.kept (O' := fun _ => False) (Kept.of_below (HCB.out.trans (hbD.mono HCB.out.size))) (fun _ _ h => h)))
                    have hss : ∀ x, Below wD.heap.size wD x → x.cell? ⟨w.heap.size, 1, none⟩ = some (.int .i64 (last + 1)) ∧ x.cell? ⟨w.heap.size, 2, none⟩ = some (.slice As ms.length cs) := fun x hx => ⟨(hx.cell (p := ⟨w.heap.size, 1, none⟩) (by show w.heap.size < wD.heap.size; omega)).trans hHeld.1, (hx.cell (p := ⟨w.heap.size, 2, none⟩) (by show w.heap.size < wD.heap.size; omega)).trans hHeld.2⟩
                    have HSS := Lib.hid hss
                    have HBwD := Lib.hid (Below.refl wD.heap.size wD)
                    have HZD := Lib.hid hzD
                    have HBD := Lib.hid hbD
                    clear hss hHeld hbD hzD c1 c2 hwD
                    refine wpAnyH_ready (rs := [0, 9]) (by kernel_rfl) (by simp) ?_
                    refine AllReadyH.cons rfl (fun K hK => ?_) (AllReadyH.cons rfl (fun K hK => ?_) AllReadyH.nil)
                    · -- the empty one first
                      go_simp
                      obtain ⟨x1, hwx1⟩ : ∃ x, wD.alloc (.cells #[] 98) = x := ⟨_, rfl⟩
                      have hbn : Below wD.heap.size wD x1 := by rw [← hwx1]; exact below_al _ _
                      have hon := own_empty wD wD.heap.size 98 4 HBwD.out.size
                      have hszx1 : x1.heap.size = wD.heap.size + 1 := by rw [← hwx1]; simp
                      rw [hwx1] at hon
                      rw [hwx1]
                      have HBx1 := Lib.hid (HBwD.out.trans (hbn.mono HBwD.out.size))
                      have HO := Lib.hid hon
                      have HT := Lib.hid (HT.out.below hbn)
                      have HZx1 := Lib.hid hszx1
                      clear hbn hon hwx1 hszx1
                      refine hK.out _ _ (HSS.out _ HBx1.out) (fun hHeldx1 => ?_)
                      clear hK
                      refine wpAnyH_ready (rs := [3, 9]) (by kernel_rfl) (by simp) ?_
                      refine AllReadyH.cons rfl (fun K hK => ?_) (AllReadyH.cons rfl (fun K hK => ?_) AllReadyH.nil)
                      · -- then the append
                        rw [if_pos (by rfl)]
                        refine wp_append_any_at 61 (by rfl) _ _ 60 rfl wD.heap.size 98 i0 (.agg #[.bool false, .int .i64 0, .slice none 0 0, .slice none 0 0]) 4 64 Tryd.underlying60 hi hz0 hz1 hz2 rfl (by decide) _ 0 _ (by rfl) HO.out (.slice As ms.length cs) ms.length (ms.flatMap MStep.cells) (by rfl) HT.out (cells_len ms) (rsteps_one HS.out) (by unfold maxLen; omega) (by omega) HBx1.out.size ?_
                        intro v' x2 hown hgrow hat
                        rw [Nat.zero_add, List.nil_append] at hown
                        obtain ⟨Av, kv, rfl, _⟩ := own_slice hown
                        have HBx2 := Lib.hid (HBx1.out.grown hgrow HBx1.out.size (fun g hg => (own_lt HO.out g hg).1))
                        have HO := Lib.hid hown
                        clear hown hgrow hat
                        refine hK.out _ _ (HSS.out _ HBx2.out) (fun hHeldx2 => ?_)
                        clear hK
                        refine wpAnyH_ready (rs := [9]) (by kernel_rfl) (by simp) ?_
                        refine AllReadyH.cons rfl (fun K hK => ?_) AllReadyH.nil
                        go_simp
                        obtain ⟨x3, hwx3⟩ : ∃ x, x2.alloc (.cells #[.bool false, .int .i64 (last + 1), .slice Ac c.length kc, .slice Ah h.length kh] 98) = x := ⟨_, rfl⟩
                        have hbn : Below x2.heap.size x2 x3 := by rw [← hwx3]; exact below_al _ _
                        have hnn := src_new x2 98 [.bool false, .int .i64 (last + 1), .slice Ac c.length kc, .slice Ah h.length kh]
                        have hszx3 : x3.heap.size = x2.heap.size + 1 := by rw [← hwx3]; simp
                        rw [hwx3] at hnn
                        rw [hwx3]
                        have HBx3 := Lib.hid (HBx2.out.trans (hbn.mono HBx2.out.size))
                        have HN := Lib.hid hnn
                        have HO := Lib.hid (own_below HO.out hbn)
                        have HZx3 := Lib.hid hszx3
                        clear hbn hnn hwx3 hszx3
                        refine hK.out _ _ (HSS.out _ HBx3.out) (fun hHeldx3 => ?_)
                        clear hK
                        refine wpAnyH_ready (rs := [10]) (by kernel_rfl) (by simp) ?_
                        refine AllReadyH.cons rfl (fun K hK => ?_) AllReadyH.nil
                        rw [if_pos (by rfl)]
                        refine wp_append_any_at 68 (by rfl) _ _ 60 rfl wD.heap.size 98 i0 (.agg #[.bool false, .int .i64 0, .slice none 0 0, .slice none 0 0]) 4 64 Tryd.underlying60 hi hz0 hz1 hz2 rfl (by decide) _ ms.length _ (by rfl) HO.out (.slice (some ⟨x2.heap.size, 0, none⟩) 1 1) 1 [.bool false, .int .i64 (last + 1), .slice Ac c.length kc, .slice Ah h.length kh] (by rfl) HN.out rfl (by simp [Value.oneCell']) (by unfold maxLen; omega) (by omega) HBx3.out.size ?_
                        intro v' x4 hown hgrow hat
                        obtain ⟨Ax, kx, rfl, _⟩ := own_slice hown
                        have HBx4 := Lib.hid (HBx3.out.grown hgrow HBx3.out.size (fun g hg => (own_lt HO.out g hg).1))
                        have HOX := Lib.hid hown
                        clear hown hgrow hat
                        refine hK.out _ _ (HSS.out _ HBx4.out) (fun hHeldx4 => ?_)
                        clear hK
                        refine takeD 11 69 (v := ?_) rfl (by rfl) (by kernel_rfl) (by kernel_rfl) (by kernel_rfl) (fun _ _ _ h => h) (Or.inl ⟨by rfl, ?_⟩) (by assumption) ?_
                        rotate_left
                        · intro w hSw
                          obtain ⟨_, _⟩ := hSw
                          go_simp
                          try with_reducible rfl
                        simp only [Act.put, List.setIfInBounds_toArray, List.set_cons_zero, List.set_cons_succ]
                        refine wpAnyH_done (by kernel_rfl) ?_ _
                        refine lastPost_normal ?_
                        have hblk := (HBx4.out.block w.heap.size (by have := HZD.out; omega)).trans ((HBD.out.block w.heap.size (by omega)).trans HC2.out)
                        have hblk1 := (HBx4.out.block (w.heap.size + 1) (by have := HZD.out; omega)).trans ((HBD.out.block (w.heap.size + 1) (by omega)).trans HC3.out)
                        have fr2 := free_of_block (j := 2) hblk
                        obtain ⟨z0, z1⟩ := hHeldx4
                        have HBLK := Lib.hid hblk
                        have HBLK1 := Lib.hid hblk1
                        clear hblk hblk1
                        refine wpOp_step rfl (fun K hK => ?_)
                        go_simp
                        refine hK _ _ ?_
                        clear hK
                        have hzw := HBx4.out.size
                        have hzd := HZD.out
                        have h1 := block_set HBLK.out (.slice Ax (ms.length + 1) kx) (j := 2)
                        have h2 : (x4.setCell ⟨w.heap.size, 2, none⟩ (.slice Ax (ms.length + 1) kx)).heap[w.heap.size + 1]? = _ := (Below.heap_setCell _ _ _ _ (by simp)).trans HBLK1.out
                        have hks : Kept (fun g => g = w.heap.size) x4 (x4.setCell ⟨w.heap.size, 2, none⟩ (.slice Ax (ms.length + 1) kx)) := (Kept.refl (fun g => g = w.heap.size) x4).setCell ⟨w.heap.size, 2, none⟩ _ rfl
                        have h3 := own_kept (O := fun g => g = w.heap.size) (own_below HCO.out (HBD.out.trans (HBx4.out.mono HBD.out.size))) hks (fun g hg e => by have := (own_lt HCO.out g hg).1; omega)
                        have h5 := own_mono (base' := w.heap.size + 2) (own_kept (O := fun g => g = w.heap.size) HOX.out hks (fun g hg e => by have := (own_lt HOX.out g hg).1; omega)) (by omega)
                        have h4 := ((HCB.out.trans (HBD.out.mono HCB.out.size)).trans (HBx4.out.mono (by omega))).setCell (p := ⟨w.heap.size, 2, none⟩) (Nat.le_refl _) (.slice Ax (ms.length + 1) kx)
                        go_wp2_with fail
                        go_meet
                        exact ⟨Ax, kx, Lib.hid h1, Lib.hid h2, Lib.hid h3, Lib.hid h5, Lib.hid h4, by simp [World.setCell]; omega⟩
                      · -- then the new one
                        go_simp
                        obtain ⟨x2, hwx2⟩ : ∃ x, x1.alloc (.cells #[.bool false, .int .i64 (last + 1), .slice Ac c.length kc, .slice Ah h.length kh] 98) = x := ⟨_, rfl⟩
                        have hbn : Below x1.heap.size x1 x2 := by rw [← hwx2]; exact below_al _ _
                        have hnn := src_new x1 98 [.bool false, .int .i64 (last + 1), .slice Ac c.length kc, .slice Ah h.length kh]
                        have hszx2 : x2.heap.size = x1.heap.size + 1 := by rw [← hwx2]; simp
                        rw [hwx2] at hnn
                        rw [hwx2]
                        have HBx2 := Lib.hid (HBx1.out.trans (hbn.mono HBx1.out.size))
                        have HN := Lib.hid hnn
                        have HO := Lib.hid (own_below HO.out hbn)
                        have HT := Lib.hid (HT.out.below hbn)
                        have HZx2 := Lib.hid hszx2
                        clear hbn hnn hwx2 hszx2
                        refine hK.out _ _ (HSS.out _ HBx2.out) (fun hHeldx2 => ?_)
                        clear hK
                        refine wpAnyH_ready (rs := [3]) (by kernel_rfl) (by simp) ?_
                        refine AllReadyH.cons rfl (fun K hK => ?_) AllReadyH.nil
                        rw [if_pos (by rfl)]
                        refine wp_append_any_at 61 (by rfl) _ _ 60 rfl wD.heap.size 98 i0 (.agg #[.bool false, .int .i64 0, .slice none 0 0, .slice none 0 0]) 4 64 Tryd.underlying60 hi hz0 hz1 hz2 rfl (by decide) _ 0 _ (by rfl) HO.out (.slice As ms.length cs) ms.length (ms.flatMap MStep.cells) (by rfl) HT.out (cells_len ms) (rsteps_one HS.out) (by unfold maxLen; omega) (by omega) HBx2.out.size ?_
                        intro v' x3 hown hgrow hat
                        rw [Nat.zero_add, List.nil_append] at hown
                        obtain ⟨Av, kv, rfl, _⟩ := own_slice hown
                        have HBx3 := Lib.hid (HBx2.out.grown hgrow HBx2.out.size (fun g hg => (own_lt HO.out g hg).1))
                        have HN := Lib.hid (src_grown HN.out hgrow (by have := HZx1.out; simp [Value.ownBlock]; omega))
                        have HO := Lib.hid hown
                        clear hown hgrow hat
                        refine hK.out _ _ (HSS.out _ HBx3.out) (fun hHeldx3 => ?_)
                        clear hK
                        refine wpAnyH_ready (rs := [10]) (by kernel_rfl) (by simp) ?_
                        refine AllReadyH.cons rfl (fun K hK => ?_) AllReadyH.nil
                        rw [if_pos (by rfl)]
                        refine wp_append_any_at 68 (by rfl) _ _ 60 rfl wD.heap.size 98 i0 (.agg #[.bool false, .int .i64 0, .slice none 0 0, .slice none 0 0]) 4 64 Tryd.underlying60 hi hz0 hz1 hz2 rfl (by decide) _ ms.length _ (by rfl) HO.out (.slice (some ⟨x1.heap.size, 0, none⟩) 1 1) 1 [.bool false, .int .i64 (last + 1), .slice Ac c.length kc, .slice Ah h.length kh] (by rfl) HN.out rfl (by simp [Value.oneCell']) (by unfold maxLen; omega) (by omega) HBx3.out.size ?_
                        intro v' x4 hown hgrow hat
                        obtain ⟨Ax, kx, rfl, _⟩ := own_slice hown
                        have HBx4 := Lib.hid (HBx3.out.grown hgrow HBx3.out.size (fun g hg => (own_lt HO.out g hg).1))
                        have HOX := Lib.hid hown
                        clear hown hgrow hat
                        refine hK.out _ _ (HSS.out _ HBx4.out) (fun hHeldx4 => ?_)
                        clear hK
                        refine takeD 11 69 (v := ?_) rfl (by rfl) (by kernel_rfl) (by kernel_rfl) (by kernel_rfl) (fun _ _ _ h => h) (Or.inl ⟨by rfl, ?_⟩) (by assumption) ?_
                        rotate_left
                        · intro w hSw
                          obtain ⟨_, _⟩ := hSw
                          go_simp
                          try with_reducible rfl
                        simp only [Act.put, List.setIfInBounds_toArray, List.set_cons_zero, List.set_cons_succ]
                        refine wpAnyH_done (by kernel_rfl) ?_ _
                        refine lastPost_normal ?_
                        have hblk := (HBx4.out.block w.heap.size (by have := HZD.out; omega)).trans ((HBD.out.block w.heap.size (by omega)).trans HC2.out)
                        have hblk1 := (HBx4.out.block (w.heap.size + 1) (by have := HZD.out; omega)).trans ((HBD.out.block (w.heap.size + 1) (by omega)).trans HC3.out)
                        have fr2 := free_of_block (j := 2) hblk
                        obtain ⟨z0, z1⟩ := hHeldx4
                        have HBLK := Lib.hid hblk
                        have HBLK1 := Lib.hid hblk1
                        clear hblk hblk1
                        refine wpOp_step rfl (fun K hK => ?_)
                        go_simp
                        refine hK _ _ ?_
                        clear hK
                        have hzw := HBx4.out.size
                        have hzd := HZD.out
                        have h1 := block_set HBLK.out (.slice Ax (ms.length + 1) kx) (j := 2)
                        have h2 : (x4.setCell ⟨w.heap.size, 2, none⟩ (.slice Ax (ms.length + 1) kx)).heap[w.heap.size + 1]? = _ := (Below.heap_setCell _ _ _ _ (by simp)).trans HBLK1.out
                        have hks : Kept (fun g => g = w.heap.size) x4 (x4.setCell ⟨w.heap.size, 2, none⟩ (.slice Ax (ms.length + 1) kx)) := (Kept.refl (fun g => g = w.heap.size) x4).setCell ⟨w.heap.size, 2, none⟩ _ rfl
                        have h3 := own_kept (O := fun g => g = w.heap.size) (own_below HCO.out (HBD.out.trans (HBx4.out.mono HBD.out.size))) hks (fun g hg e => by have := (own_lt HCO.out g hg).1; omega)
                        have h5 := own_mono (base' := w.heap.size + 2) (own_kept (O := fun g => g = w.heap.size) HOX.out hks (fun g hg e => by have := (own_lt HOX.out g hg).1; omega)) (by omega)
                        have h4 := ((HCB.out.trans (HBD.out.mono HCB.out.size)).trans (HBx4.out.mono (by omega))).setCell (p := ⟨w.heap.size, 2, none⟩) (Nat.le_refl _) (.slice Ax (ms.length + 1) kx)
                        go_wp2_with fail
                        go_meet
                        exact ⟨Ax, kx, Lib.hid h1, Lib.hid h2, Lib.hid h3, Lib.hid h5, Lib.hid h4, by simp [World.setCell]; omega⟩
                    · -- the new one first
                      go_simp
                      obtain ⟨x1, hwx1⟩ : ∃ x, wD.alloc (.cells #[.bool false, .int .i64 (last + 1), .slice Ac c.length kc, .slice Ah h.length kh] 98) = x := ⟨_, rfl⟩
                      have hbn : Below wD.heap.size wD x1 := by rw [← hwx1]; exact below_al _ _
                      have hnn := src_new wD 98 [.bool false, .int .i64 (last + 1), .slice Ac c.length kc, .slice Ah h.length kh]
                      have hszx1 : x1.heap.size = wD.heap.size + 1 := by rw [← hwx1]; simp
                      rw [hwx1] at hnn
                      rw [hwx1]
                      have HBx1 := Lib.hid (HBwD.out.trans (hbn.mono HBwD.out.size))
                      have HN := Lib.hid hnn
                      have HT := Lib.hid (HT.out.below hbn)
                      have HZx1 := Lib.hid hszx1
                      clear hbn hnn hwx1 hszx1
                      refine hK.out _ _ (HSS.out _ HBx1.out) (fun hHeldx1 => ?_)
                      clear hK
                      refine wpAnyH_ready (rs := [0]) (by kernel_rfl) (by simp) ?_
                      refine AllReadyH.cons rfl (fun K hK => ?_) AllReadyH.nil
                      go_simp
                      obtain ⟨x2, hwx2⟩ : ∃ x, x1.alloc (.cells #[] 98) = x := ⟨_, rfl⟩
                      have hbn : Below x1.heap.size x1 x2 := by rw [← hwx2]; exact below_al _ _
                      have hon := own_empty x1 wD.heap.size 98 4 HBx1.out.size
                      have hszx2 : x2.heap.size = x1.heap.size + 1 := by rw [← hwx2]; simp
                      rw [hwx2] at hon
                      rw [hwx2]
                      have HBx2 := Lib.hid (HBx1.out.trans (hbn.mono HBx1.out.size))
                      have HO := Lib.hid hon
                      have HT := Lib.hid (HT.out.below hbn)
                      have HN := Lib.hid (HN.out.below hbn)
                      have HZx2 := Lib.hid hszx2
                      clear hbn hon hwx2 hszx2
                      refine hK.out _ _ (HSS.out _ HBx2.out) (fun hHeldx2 => ?_)
                      clear hK
                      refine wpAnyH_ready (rs := [3]) (by kernel_rfl) (by simp) ?_
                      refine AllReadyH.cons rfl (fun K hK => ?_) AllReadyH.nil
                      rw [if_pos (by rfl)]
                      refine wp_append_any_at 61 (by rfl) _ _ 60 rfl wD.heap.size 98 i0 (.agg #[.bool false, .int .i64 0, .slice none 0 0, .slice none 0 0]) 4 64 Tryd.underlying60 hi hz0 hz1 hz2 rfl (by decide) _ 0 _ (by rfl) HO.out (.slice As ms.length cs) ms.length (ms.flatMap MStep.cells) (by rfl) HT.out (cells_len ms) (rsteps_one HS.out) (by unfold maxLen; omega) (by omega) HBx2.out.size ?_
                      intro v' x3 hown hgrow hat
                      rw [Nat.zero_add, List.nil_append] at hown
                      obtain ⟨Av, kv, rfl, _⟩ := own_slice hown
                      have HBx3 := Lib.hid (HBx2.out.grown hgrow HBx2.out.size (fun g hg => (own_lt HO.out g hg).1))
                      have HN := Lib.hid (src_grown HN.out hgrow (by have := HZx1.out; simp [Value.ownBlock]; omega))
                      have HO := Lib.hid hown
                      clear hown hgrow hat
                      refine hK.out _ _ (HSS.out _ HBx3.out) (fun hHeldx3 => ?_)
                      clear hK
                      refine wpAnyH_ready (rs := [10]) (by kernel_rfl) (by simp) ?_
                      refine AllReadyH.cons rfl (fun K hK => ?_) AllReadyH.nil
                      rw [if_pos (by rfl)]
                      refine wp_append_any_at 68 (by rfl) _ _ 60 rfl wD.heap.size 98 i0 (.agg #[.bool false, .int .i64 0, .slice none 0 0, .slice none 0 0]) 4 64 Tryd.underlying60 hi hz0 hz1 hz2 rfl (by decide) _ ms.length _ (by rfl) HO.out (.slice (some ⟨wD.heap.size, 0, none⟩) 1 1) 1 [.bool false, .int .i64 (last + 1), .slice Ac c.length kc, .slice Ah h.length kh] (by rfl) HN.out rfl (by simp [Value.oneCell']) (by unfold maxLen; omega) (by omega) HBx3.out.size ?_
                      intro v' x4 hown hgrow hat
                      obtain ⟨Ax, kx, rfl, _⟩ := own_slice hown
                      have HBx4 := Lib.hid (HBx3.out.grown hgrow HBx3.out.size (fun g hg => (own_lt HO.out g hg).1))
                      have HOX := Lib.hid hown
                      clear hown hgrow hat
                      refine hK.out _ _ (HSS.out _ HBx4.out) (fun hHeldx4 => ?_)
                      clear hK
                      refine takeD 11 69 (v := ?_) rfl (by rfl) (by kernel_rfl) (by kernel_rfl) (by kernel_rfl) (fun _ _ _ h => h) (Or.inl ⟨by rfl, ?_⟩) (by assumption) ?_
                      rotate_left
                      · intro w hSw
                        obtain ⟨_, _⟩ := hSw
                        go_simp
                        try with_reducible rfl
                      simp only [Act.put, List.setIfInBounds_toArray, List.set_cons_zero, List.set_cons_succ]
                      refine wpAnyH_done (by kernel_rfl) ?_ _
                      refine lastPost_normal ?_
                      have hblk := (HBx4.out.block w.heap.size (by have := HZD.out; omega)).trans ((HBD.out.block w.heap.size (by omega)).trans HC2.out)
                      have hblk1 := (HBx4.out.block (w.heap.size + 1) (by have := HZD.out; omega)).trans ((HBD.out.block (w.heap.size + 1) (by omega)).trans HC3.out)
                      have fr2 := free_of_block (j := 2) hblk
                      obtain ⟨z0, z1⟩ := hHeldx4
                      have HBLK := Lib.hid hblk
                      have HBLK1 := Lib.hid hblk1
                      clear hblk hblk1
                      refine wpOp_step rfl (fun K hK => ?_)
                      go_simp
                      refine hK _ _ ?_
                      clear hK
                      have hzw := HBx4.out.size
                      have hzd := HZD.out
                      have h1 := block_set HBLK.out (.slice Ax (ms.length + 1) kx) (j := 2)
                      have h2 : (x4.setCell ⟨w.heap.size, 2, none⟩ (.slice Ax (ms.length + 1) kx)).heap[w.heap.size + 1]? = _ := (Below.heap_setCell _ _ _ _ (by simp)).trans HBLK1.out
                      have hks : Kept (fun g => g = w.heap.size) x4 (x4.setCell ⟨w.heap.size, 2, none⟩ (.slice Ax (ms.length + 1) kx)) := (Kept.refl (fun g => g = w.heap.size) x4).setCell ⟨w.heap.size, 2, none⟩ _ rfl
                      have h3 := own_kept (O := fun g => g = w.heap.size) (own_below HCO.out (HBD.out.trans (HBx4.out.mono HBD.out.size))) hks (fun g hg e => by have := (own_lt HCO.out g hg).1; omega)
                      have h5 := own_mono (base' := w.heap.size + 2) (own_kept (O := fun g => g = w.heap.size) HOX.out hks (fun g hg e => by have := (own_lt HOX.out g hg).1; omega)) (by omega)
                      have h4 := ((HCB.out.trans (HBD.out.mono HCB.out.size)).trans (HBx4.out.mono (by omega))).setCell (p := ⟨w.heap.size, 2, none⟩) (Nat.le_refl _) (.slice Ax (ms.length + 1) kx)
                      go_wp2_with fail
                      go_meet
                      exact ⟨Ax, kx, Lib.hid h1, Lib.hid h2, Lib.hid h3, Lib.hid h5, Lib.hid h4, by simp [World.setCell]; omega⟩
                  case rest =>
                    obtain ⟨Ax, kx, HD2, HD3, HDO, HDS, HDB, hzd⟩ := hcut
                    clear hi hz0 hz1 hz2
                    clear i0
                    clear HC2 HC3 HCO HCB
                    have fd3 := free_of_block (j := 3) HD2.out
                    have cd3 : wc.cell? ⟨w.heap.size, 3, none⟩ = some (.bool false) := cell_of_block (j := 3) HD2.out
                    go_wp2_with fail
                    clear cd3 fd3
                    obtain ⟨bd, hbd⟩ : ∃ bd, ((c.length : Int) == 0) = bd := ⟨_, rfl⟩
                    rw [hbd]
                    have hbe : bd = c.isEmpty := by
                      rw [← hbd]
                      cases c with
                      | nil => rfl
                      | cons a b => simp; omega
                    have HBE := Lib.hid hbe
                    clear hbd hbe
                    obtain ⟨wf, hwf⟩ : ∃ x, wc.setCell ⟨w.heap.size, 3, none⟩ (.bool bd) = x := ⟨_, rfl⟩
                    have hks : Kept (fun g => g = w.heap.size) wc wf := by rw [← hwf]; exact (Kept.refl (fun g => g = w.heap.size) wc).setCell ⟨w.heap.size, 3, none⟩ _ rfl
                    have hf2 : wf.heap[w.heap.size]? = some (.cells #[.slice At (there.length + 1) kt, .int .i64 (last + 1), .slice Ax (ms.length + 1) kx, .bool bd] 62 (0, 0)) := by rw [← hwf]; exact block_set HD2.out _ (j := 3)
                    have hf3 : wf.heap[w.heap.size + 1]? = some (.cells #[.slice none 0 0, .int .i64 0, .slice none 0 0, .bool false] 62 (0, 0)) := by rw [← hwf]; exact (Below.heap_setCell _ _ _ _ (by simp)).trans HD3.out
                    have hfb : Below w.heap.size w wf := by rw [← hwf]; exact HDB.out.setCell (p := ⟨w.heap.size, 3, none⟩) (Nat.le_refl _) _
                    have hfo := own_kept HDO.out hks (fun g hg e => by have := (own_lt HDO.out g hg).1; omega)
                    have hfs := own_kept HDS.out hks (fun g hg e => by have := (own_lt HDS.out g hg).1; omega)
                    have hzf : w.heap.size + 2 ≤ wf.heap.size := Nat.le_trans hzd hks.size
                    rw [hwf]
                    have HFO := Lib.hid hfo
                    have HFS := Lib.hid hfs
                    have HFB := Lib.hid hfb
                    have g0 : wf.cell? ⟨w.heap.size, 0, none⟩ = some (.slice At (there.length + 1) kt) := cell_of_block (j := 0) hf2
                    have g1 : wf.cell? ⟨w.heap.size, 1, none⟩ = some (.int .i64 (last + 1)) := cell_of_block (j := 1) hf2
                    have g2 : wf.cell? ⟨w.heap.size, 2, none⟩ = some (.slice Ax (ms.length + 1) kx) := cell_of_block (j := 2) hf2
                    have g3 : wf.cell? ⟨w.heap.size, 3, none⟩ = some (.bool bd) := cell_of_block (j := 3) hf2
                    have HF3 := Lib.hid hf3
                    clear hwf hks hf2 hf3 hfb hfo hfs HD2 HD3 HDO HDS HDB
                    refine wp_region_held_drew (S := fun w' => w'.cell? ⟨w.heap.size, 0, none⟩ = some (.slice At (there.length + 1) kt) ∧ w'.cell? ⟨w.heap.size, 1, none⟩ = some (.int .i64 (last + 1)) ∧ w'.cell? ⟨w.heap.size, 2, none⟩ = some (.slice Ax (ms.length + 1) kx) ∧ w'.cell? ⟨w.heap.size, 3, none⟩ = some (.bool bd)) (by kernel_rfl) ⟨g0, g1, g2, g3⟩ (fun hHeld => ?_)
                    obtain ⟨wD, hwD⟩ : ∃ x, wf.drew = x := ⟨_, rfl⟩
                    have hbD : Below wf.heap.size wf wD := by rw [← hwD]; exact below_drew' wf
                    rw [hwD] at hHeld ⊢
                    have hzD : wD.heap.size = wf.heap.size := by rw [← hwD]; rfl
                    clear g0 g1 g2 g3 hwD
                    refine takeD 0 74 (v := ?_) rfl (by rfl) (by kernel_rfl) (by kernel_rfl) (by kernel_rfl) (fun _ _ _ h => h) (Or.inl ⟨by rfl, ?_⟩) (by assumption) ?_
                    rotate_left
                    · intro w hSw
                      obtain ⟨_, _, _, _⟩ := hSw
                      go_simp
                      try with_reducible rfl
                    simp only [Act.put, List.setIfInBounds_toArray, List.set_cons_zero, List.set_cons_succ]
                    refine takeD 1 75 (v := ?_) rfl (by rfl) (by kernel_rfl) (by kernel_rfl) (by kernel_rfl) (fun _ _ _ h => h) (Or.inl ⟨by rfl, ?_⟩) (by assumption) ?_
                    rotate_left
                    · intro w hSw
                      obtain ⟨_, _, _, _⟩ := hSw
                      go_simp
                      try with_reducible rfl
                    simp only [Act.put, List.setIfInBounds_toArray, List.set_cons_zero, List.set_cons_succ]
                    refine takeD 2 76 (v := ?_) rfl (by rfl) (by kernel_rfl) (by kernel_rfl) (by kernel_rfl) (fun _ _ _ h => h) (Or.inl ⟨by rfl, ?_⟩) (by assumption) ?_
                    rotate_left
                    · intro w hSw
                      obtain ⟨_, _, _, _⟩ := hSw
                      go_simp
                      try with_reducible rfl
                    simp only [Act.put, List.setIfInBounds_toArray, List.set_cons_zero, List.set_cons_succ]
                    have hd3 := (hbD.block (w.heap.size + 1) (by omega)).trans HF3.out
                    have e0 : wD.cell? ⟨w.heap.size + 1, 0, none⟩ = some (.slice none 0 0) := cell_of_block (j := 0) hd3
                    have e1 : wD.cell? ⟨w.heap.size + 1, 1, none⟩ = some (.int .i64 0) := cell_of_block (j := 1) hd3
                    have e2 : wD.cell? ⟨w.heap.size + 1, 2, none⟩ = some (.slice none 0 0) := cell_of_block (j := 2) hd3
                    have e3 : wD.cell? ⟨w.heap.size + 1, 3, none⟩ = some (.bool false) := cell_of_block (j := 3) hd3
                    have fe0 := free_of_block (j := 0) hd3
                    have fe1 := free_of_block (j := 1) hd3
                    have fe2 := free_of_block (j := 2) hd3
                    have fe3 := free_of_block (j := 3) hd3
                    have HBD := Lib.hid hbD
                    clear hd3 hbD
                    refine wpAnyH_ready (rs := [3]) (by kernel_rfl) (by simp) ?_
                    refine AllReadyH.cons rfl (fun K hK => ?_) AllReadyH.nil
                    go_simp
                    obtain ⟨ws, hws⟩ : ∃ x, ((((wD.setCell ⟨w.heap.size + 1, 0, none⟩ (.slice At (there.length + 1) kt)).setCell ⟨w.heap.size + 1, 1, none⟩ (.int .i64 (last + 1))).setCell ⟨w.heap.size + 1, 2, none⟩ (.slice Ax (ms.length + 1) kx)).setCell ⟨w.heap.size + 1, 3, none⟩ (.bool bd)) = x := ⟨_, rfl⟩
                    have hks : Kept (fun g => g = w.heap.size + 1) wD ws := by rw [← hws]; exact ((((Kept.refl (fun g => g = w.heap.size + 1) wD).setCell ⟨w.heap.size + 1, 0, none⟩ _ rfl).setCell ⟨w.heap.size + 1, 1, none⟩ _ rfl).setCell ⟨w.heap.size + 1, 2, none⟩ _ rfl).setCell ⟨w.heap.size + 1, 3, none⟩ _ rfl
                    have hbs : Below w.heap.size w ws := by rw [← hws]; exact set4_below (HFB.out.trans (HBD.out.mono HFB.out.size)) (Nat.le_succ _) _ _ _ _
                    have hs3 : ws.heap[w.heap.size + 1]? = some (.cells #[.slice At (there.length + 1) kt, .int .i64 (last + 1), .slice Ax (ms.length + 1) kx, .bool bd] 62 (0, 0)) := by rw [← hws]; exact block_set (j := 3) (block_set (j := 2) (block_set (j := 1) (block_set (j := 0) ((HBD.out.block (w.heap.size + 1) (by omega)).trans HF3.out) _) _) _) _
                    rw [hws]
                    have hos := own_kept (own_below HFO.out HBD.out) hks (fun g hg e => by have := (own_lt HFO.out g hg).1; omega)
                    have hss := own_kept (own_below HFS.out HBD.out) hks (fun g hg e => by have := (own_lt HFS.out g hg).1; omega)
                    refine hK.out _ _ ⟨(hks.cell (p := ⟨w.heap.size, 0, none⟩) (by show w.heap.size < wD.heap.size; omega) (by show ¬ w.heap.size = w.heap.size + 1; omega)).trans hHeld.1, (hks.cell (p := ⟨w.heap.size, 1, none⟩) (by show w.heap.size < wD.heap.size; omega) (by show ¬ w.heap.size = w.heap.size + 1; omega)).trans hHeld.2.1, (hks.cell (p := ⟨w.heap.size, 2, none⟩) (by show w.heap.size < wD.heap.size; omega) (by show ¬ w.heap.size = w.heap.size + 1; omega)).trans hHeld.2.2.1, (hks.cell (p := ⟨w.heap.size, 3, none⟩) (by show w.heap.size < wD.heap.size; omega) (by show ¬ w.heap.size = w.heap.size + 1; omega)).trans hHeld.2.2.2⟩ (fun hHeld1 => ?_)
                    clear hK hHeld e0 e1 e2 e3 fe0 fe1 fe2 fe3 hws hks HF3 HFO HFS HFB
                    have HOS := Lib.hid hos
                    have HSS := Lib.hid hss
                    have HBS := Lib.hid hbs
                    have s0 : ws.cell? ⟨w.heap.size + 1, 0, none⟩ = some (.slice At (there.length + 1) kt) := cell_of_block (j := 0) hs3
                    have s1 : ws.cell? ⟨w.heap.size + 1, 1, none⟩ = some (.int .i64 (last + 1)) := cell_of_block (j := 1) hs3
                    have s2 : ws.cell? ⟨w.heap.size + 1, 2, none⟩ = some (.slice Ax (ms.length + 1) kx) := cell_of_block (j := 2) hs3
                    have s3 : ws.cell? ⟨w.heap.size + 1, 3, none⟩ = some (.bool bd) := cell_of_block (j := 3) hs3
                    clear hos hss hbs hs3
                    refine takeD 4 7 (v := ?_) rfl (by rfl) (by kernel_rfl) (by kernel_rfl) (by kernel_rfl) (fun _ _ _ h => h) (Or.inl ⟨by rfl, ?_⟩) (by assumption) ?_
                    rotate_left
                    · intro w hSw
                      obtain ⟨_, _, _, _⟩ := hSw
                      go_simp
                      try with_reducible rfl
                    simp only [Act.put, List.setIfInBounds_toArray, List.set_cons_zero, List.set_cons_succ]
                    refine takeD 5 8 (v := ?_) rfl (by rfl) (by kernel_rfl) (by kernel_rfl) (by kernel_rfl) (fun _ _ _ h => h) (Or.inl ⟨by rfl, ?_⟩) (by assumption) ?_
                    rotate_left
                    · intro w hSw
                      obtain ⟨_, _, _, _⟩ := hSw
                      go_simp
                      try with_reducible rfl
                    simp only [Act.put, List.setIfInBounds_toArray, List.set_cons_zero, List.set_cons_succ]
                    refine wpAnyH_done (by kernel_rfl) ?_ _
                    clear hHeld1
                    go_wp2_with fail
                    refine bodyPost_ret (v := .tuple #[rVal (.slice At (there.length + 1) kt) (.slice Ax (ms.length + 1) kx) ⟨there ++ [last + 1], last + 1, steps ++ [⟨false, last + 1, c, h⟩], bd⟩, .int .i64 (last + 1), .int .i64 0]) (by simp [rVal, results, Tryd.results29, go_sem, s0, s1, s2, s3]) rfl ?_
                    have hlog : refLog ⟨there, last, steps, false⟩ c h = ⟨there ++ [last + 1], last + 1, steps ++ [⟨false, last + 1, c, h⟩], bd⟩ := by
                      unfold refLog
                      rw [if_pos H0.out, HBE.out]
                      rfl
                    have hnum : refNum ⟨there, last, steps, false⟩ c h = last + 1 := by
                      unfold refNum
                      rw [if_pos H0.out]
                    have hI : IntsIn (fun g => w.heap.size + 2 ≤ g ∧ (Value.slice At (there ++ [last + 1]).length kt).ownBlock = some g) ws (.slice At (there ++ [last + 1]).length kt) (there ++ [last + 1]) := IntsIn.of_own (base := w.heap.size + 2) (e := 3) (by
                      rw [show (there ++ [last + 1]).length = there.length + 1 by simp]
                      exact HOS.out)
                    have hI2 := hI.mono (O' := fun g => O g ∨ Oc g ∨ Oh g ∨ w.heap.size ≤ g) (fun g hg => .inr (.inr (.inr (by have := hg.1; omega))))
                    rw [show (there ++ [last + 1]).length = there.length + 1 by simp] at hI2
                    refine ⟨_, _, by rw [hlog, hnum, H0.out]; rfl, ?_, HBS.out⟩
                    rw [hlog]
                    exact ⟨hI2, _, rsteps_learned HBS.out HS.out HC.out HH.out HSS.out (by omega)⟩
end Go.Proofs.YtbokfjmbamgenaaDoor
