/- The arena: the binary search, find. -/
import Derived.Test.YtiodfolcnnkdjaaAa
import Derived.Deep.DeepCutAuto
import Derived.Deep.CutBlock
namespace Go.Proofs.Ytiodfolcnnkdjaa
open Go.RowKit

set_option maxRecDepth 100000 in
set_option maxHeartbeats 2000000 in
theorem ar_bsf (v : Value) (l : List Ent) (id : Int) (w : World) (h : w.ownsRow 0 87 4 v l.length (l.flatMap Ent.cells)) (hs : l.Pairwise fun x y => x.id < y.id) (he : ∀ e ∈ l, 1 ≤ e.id ∧ e.id ≤ 1073741824) (hl : l.length ≤ 1073741824) (h0 : 0 ≤ id) (h1 : id ≤ 1073741825) :
    Calls Try.prog 92 #[v, .int .i64 id, .func (.func 93) #[] #[]] w fun r w' => ∃ bf, r = .returned (.tuple #[.int .i64 (posOf l id : Nat), .bool bf]) ∧ Below w.heap.size w w' := by
  have HR := Lib.hid h
  have HS := Lib.hid hs
  have HE := Lib.hid he
  obtain ⟨Av, cv, rfl, hcv⟩ := mx_slice h
  clear h hs he
  go_enter Try.func92, Try.ntmps92
  go_wp2_with fail
  go_loopw [9, 10] (fun a b wr => ∃ i j : Nat, i ≤ j ∧ j ≤ l.length ∧ a = .int .i64 i ∧ b = .int .i64 j ∧ Hid (Below w.heap.size w wr) ∧ Hid (∀ k e, k < i → l[k]? = some e → e.id < id) ∧ Hid (∀ k e, j ≤ k → l[k]? = some e → id ≤ e.id)) (fun a b _ => (intOf b).toNat - (intOf a).toNat)
  case atStart => exact ⟨0, l.length, Nat.zero_le _, Nat.le_refl _, rfl, rfl, Lib.hid (Below.refl _ _), Lib.hid (fun k e hk => by omega), Lib.hid (fun k e hk he => by have := (List.getElem?_eq_some_iff.1 he).1; omega)⟩
  case round =>
    obtain ⟨i, j, hij, hjl, rfl, rfl, HW, H1, H2⟩ := hrel
    by_cases hlt : i < j
    · have hw1 : IntKind.i64.wrap ((i : Int) + (j : Int)) = (i : Int) + (j : Int) := IntWalk.i64_in _ (by omega)
      obtain ⟨m, hm⟩ : ∃ m, (i + j) / 2 = m := ⟨_, rfl⟩
      have hm2 : ((i : Int) + (j : Int)) / 2 = (m : Int) := by omega
      have him : i ≤ m := by omega
      have hmj : m < j := by omega
      clear hm
      obtain ⟨x, hx⟩ : ∃ x, l[m]? = some x := ⟨_, List.getElem?_eq_getElem (by omega)⟩
      obtain ⟨gv, cv', cs0, hvv, _, _, hgl, _⟩ := mx_some HR.out (by omega)
      simp only [Value.slice.injEq] at hvv
      obtain ⟨rfl, _, rfl⟩ := hvv
      obtain ⟨c0, c1, c2, c3⟩ := ent_row HR.out hx
      have d0 := (HW.out.cell (p := ⟨gv, m * 4, none⟩) hgl).trans c0
      have d1 := (HW.out.cell (p := ⟨gv, m * 4 + 1, none⟩) hgl).trans c1
      have d2 := (HW.out.cell (p := ⟨gv, m * 4 + 2, none⟩) hgl).trans c2
      have d3 := (HW.out.cell (p := ⟨gv, m * 4 + 3, none⟩) hgl).trans c3
      have hxe := HE.out x (List.mem_of_getElem? hx)
      have HCM := Lib.hid (ar_cmp x id wr (by omega) hxe.2 h0 h1)
      have HX := Lib.hid hx
      clear c0 c1 c2 c3 hx
      by_cases hc : x.id < id
      · have hd : decide (x.id - id < 0) = true := by simp; omega
        have HC := Lib.hid hc
        clear hc
        go_wp2_with fail
        refine HCM.out.mono ?_
        rintro e w1 ⟨rfl, hb1⟩
        have HB1 := Lib.hid (HW.out.trans (hb1.mono HW.out.size))
        clear d0 d1 d2 d3 hb1
        go_wp2_with fail
        go_roundw
        case rel => exact ⟨m + 1, j, by omega, hjl, by go_num, rfl, HB1, Lib.hid (fun k y hk hy => by
          rcases Nat.lt_or_ge k m with h | h
          · have := sorted_lt HS.out hy HX.out h
            have := HC.out
            omega
          · obtain rfl : k = m := by omega
            rw [HX.out] at hy
            obtain rfl := Option.some.inj hy
            exact HC.out), H2⟩
        case measure => simp [intOf]; omega
      · have hd : decide (x.id - id < 0) = false := by simp; omega
        have HC := Lib.hid hc
        clear hc
        go_wp2_with fail
        refine HCM.out.mono ?_
        rintro e w1 ⟨rfl, hb1⟩
        have HB1 := Lib.hid (HW.out.trans (hb1.mono HW.out.size))
        clear d0 d1 d2 d3 hb1
        go_wp2_with fail
        go_roundw
        case rel => exact ⟨i, m, him, by omega, rfl, by go_num, HB1, H1, Lib.hid (fun k y hk hy => by
          have hcc := HC.out
          rcases Nat.lt_or_ge m k with h | h
          · have := sorted_lt HS.out HX.out hy h
            omega
          · obtain rfl : k = m := by omega
            rw [HX.out] at hy
            obtain rfl := Option.some.inj hy
            omega)⟩
        case measure => simp [intOf]; omega
    · obtain rfl : i = j := by omega
      have hp : posOf l id = i := posOf_eq l id i hjl H1.out (fun e he => H2.out i e (Nat.le_refl _) he)
      have HPO := Lib.hid hp
      clear hp
      by_cases hil : i < l.length
      · obtain ⟨x, hx⟩ : ∃ x, l[i]? = some x := ⟨_, List.getElem?_eq_getElem hil⟩
        obtain ⟨gv, cv', cs0, hvv, _, _, hgl, _⟩ := mx_some HR.out (by omega)
        simp only [Value.slice.injEq] at hvv
        obtain ⟨rfl, _, rfl⟩ := hvv
        obtain ⟨c0, c1, c2, c3⟩ := ent_row HR.out hx
        have d0 := (HW.out.cell (p := ⟨gv, i * 4, none⟩) hgl).trans c0
        have d1 := (HW.out.cell (p := ⟨gv, i * 4 + 1, none⟩) hgl).trans c1
        have d2 := (HW.out.cell (p := ⟨gv, i * 4 + 2, none⟩) hgl).trans c2
        have d3 := (HW.out.cell (p := ⟨gv, i * 4 + 3, none⟩) hgl).trans c3
        have hxe := HE.out x (List.mem_of_getElem? hx)
        have HCM := Lib.hid (ar_cmp x id wr (by omega) hxe.2 h0 h1)
        have HX := Lib.hid hx
        clear c0 c1 c2 c3 hx
        go_wp2_with fail
        refine HCM.out.mono ?_
        rintro e w1 ⟨rfl, hb1⟩
        have HB1 := Lib.hid (HW.out.trans (hb1.mono HW.out.size))
        clear d0 d1 d2 d3 hb1
        go_wp2_with fail
        go_ret2
        exact ⟨(x.id - id == 0), by rw [HPO.out]; rfl, HB1.out⟩
      · have hd : decide ((i : Int) < (l.length : Int)) = false := by simp; omega
        go_wp2_with fail
        go_ret2
        exact ⟨false, by rw [HPO.out]; rfl, HW.out⟩
theorem ar_pos {O : Nat → Prop} (b : Nat) (A : Arn) (id : Int) (w : World) (h : ArAt O w b A) (h0 : 0 ≤ id) (h1 : id ≤ 1073741825) :
    Calls Try.prog 85 #[.pointer (some ⟨b, 0, none⟩), .int .i64 id] w fun r w' => r = .returned (.int .i64 (posOf A.all id : Nat)) ∧ Below w.heap.size w w' := by
  obtain ⟨hk, stv, alv, h⟩ := h
  have HB := Lib.hid (ar_bsf alv A.all id w h.all hk.sorted (fun e he => ⟨(hk.each e he).1, (hk.each e he).2.1⟩) hk.lens.1 h0 h1)
  obtain ⟨Al, cl, rfl, _⟩ := mx_slice h.all
  have c1 : w.cell? ⟨b, 1, none⟩ = some (.slice Al A.all.length cl) := mx_cell (j := 1) h.block
  clear h hk
  go_enter Try.func85, Try.ntmps85
  go_wp2_with fail
  refine HB.out.mono ?_
  rintro e w1 ⟨bf, rfl, hb1⟩
  have HB1 := Lib.hid hb1
  clear hb1 c1
  go_wp2_with fail
  go_ret
  exact ⟨rfl, HB1.out⟩
/-- the entry of a clause that is there -/
def Arn.find (A : Arn) (id : Int) : Option Nat := if 1 ≤ id ∧ id ≤ 1073741824 then match A.all[posOf A.all id]? with
  | some e => if e.id = id ∧ e.gone = false then some (posOf A.all id) else none
  | none => none
  else none
def findInt : Option Nat → Int
  | some i => i
  | none => -1
set_option maxHeartbeats 1000000 in
theorem ar_find {O : Nat → Prop} (b : Nat) (A : Arn) (id : Int) (w : World) (h : ArAt O w b A) :
    Calls Try.prog 73 #[.pointer (some ⟨b, 0, none⟩), .int .i64 id] w fun r w' => r = .returned (.int .i64 (findInt (A.find id))) ∧ Below w.heap.size w w' := by
  by_cases hlo : id < 1
  · have q0 : decide (id < 1) = true := by simpa using hlo
    have HF := Lib.hid (show A.find id = none from if_neg (by omega))
    go_enter Try.func73, Try.ntmps73
    go_wp2_with fail
    go_ret
    exact ⟨by rw [HF.out]; rfl, Below.refl _ _⟩
  · by_cases hhi : 1073741824 < id
    · have q0 : decide (id < 1) = false := by simpa using hlo
      have q1 : decide ((1073741824 : Int) < id) = true := by simpa using hhi
      have HF := Lib.hid (show A.find id = none from if_neg (by omega))
      clear hlo hhi
      go_enter Try.func73, Try.ntmps73
      go_wp2_with fail
      go_ret
      exact ⟨by rw [HF.out]; rfl, Below.refl _ _⟩
    · have q0 : decide (id < 1) = false := by simpa using hlo
      have q1 : decide ((1073741824 : Int) < id) = false := by simpa using hhi
      have HP := Lib.hid (ar_pos b A id w h (by omega) (by omega))
      obtain ⟨hk, stv, alv, h⟩ := h
      have HM := Lib.hid h
      obtain ⟨Al, cl, rfl, hcl⟩ := mx_slice h.all
      have hff : A.find id = match A.all[posOf A.all id]? with
        | some e => if e.id = id ∧ e.gone = false then some (posOf A.all id) else none
        | none => none := if_pos (by omega)
      have hpl : posOf A.all id ≤ A.all.length := by
        generalize A.all = l
        induction l with
        | nil => exact Nat.le_refl _
        | cons e l ih =>
          unfold posOf
          split
          · simpa using ih
          · exact Nat.zero_le _
      have hbw := heap_lt h.block
      have hln := hk.lens.1
      obtain ⟨p, hp⟩ : ∃ p, posOf A.all id = p := ⟨_, rfl⟩
      rw [hp] at hff hpl HP
      clear h hk hlo hhi hp
      rcases hx : A.all[p]? with _ | x
      · rw [hx] at hff
        have hpe : p = A.all.length := by have := List.getElem?_eq_none_iff.1 hx; omega
        have qe : ((p : Int) == (A.all.length : Int)) = true := by simp; omega
        have HF := Lib.hid (show A.find id = none from hff)
        clear hff hx hpe
        go_enter Try.func73, Try.ntmps73
        go_wp2_with fail
        refine HP.out.mono ?_
        rintro e w1 ⟨rfl, hb1⟩
        have c1 : w1.cell? ⟨b, 1, none⟩ = some (.slice Al A.all.length cl) := (hb1.cell (p := ⟨b, 1, none⟩) hbw).trans (mx_cell (j := 1) HM.out.block)
        have HB1 := Lib.hid hb1
        clear hb1
        go_wp2_with fail
        go_ret
        exact ⟨by rw [HF.out]; rfl, HB1.out⟩
      · rw [hx] at hff
        have hpl2 := (List.getElem?_eq_some_iff.1 hx).1
        have qe : ((p : Int) == (A.all.length : Int)) = false := by simp; omega
        have hplt : (p : Int) < (A.all.length : Int) := by omega
        have HFF := Lib.hid hff
        have HX := Lib.hid hx
        obtain ⟨ga, ca, cs0, hva, _, _, hga, _⟩ := mx_some HM.out.all (by omega)
        simp only [Value.slice.injEq] at hva
        obtain ⟨rfl, _, rfl⟩ := hva
        clear hff hx
        have hgo : ∀ w1 : World, Below w.heap.size w w1 → w1.cell? ⟨b, 1, none⟩ = some (.slice (some ⟨ga, 0, none⟩) A.all.length cl) ∧ w1.cell? ⟨ga, p * 4 + 2, none⟩ = some (.int .i64 x.id) ∧ w1.cell? ⟨ga, p * 4 + 3, none⟩ = some (.bool x.gone) := fun w1 hb1 => by
          obtain ⟨_, _, c2, c3⟩ := ent_row HM.out.all HX.out
          exact ⟨(hb1.cell (p := ⟨b, 1, none⟩) hbw).trans (mx_cell (j := 1) HM.out.block), (hb1.cell (p := ⟨ga, p * 4 + 2, none⟩) hga).trans c2, (hb1.cell (p := ⟨ga, p * 4 + 3, none⟩) hga).trans c3⟩
        have HGO := Lib.hid hgo
        clear hgo
        by_cases hid : x.id = id
        · have q2 : (x.id != id) = false := by simpa using hid
          rcases hgn : x.gone with _ | _
          · have HF := Lib.hid (show A.find id = some p from by rw [HFF.out]; exact if_pos ⟨hid, hgn⟩)
            have HGN := Lib.hid hgn
            clear hid hgn HFF
            go_enter Try.func73, Try.ntmps73
            go_wp2_with fail
            refine HP.out.mono ?_
            rintro e w1 ⟨rfl, hb1⟩
            obtain ⟨c1, c2, c3⟩ := HGO.out w1 hb1
            rw [HGN.out] at c3
            have HB1 := Lib.hid hb1
            clear hb1
            go_wp2_with fail
            go_ret
            exact ⟨by rw [HF.out]; rfl, HB1.out⟩
          · have HF := Lib.hid (show A.find id = none from by rw [HFF.out]; exact if_neg (fun h => by rw [hgn] at h; cases h.2))
            have HGN := Lib.hid hgn
            clear hid hgn HFF
            go_enter Try.func73, Try.ntmps73
            go_wp2_with fail
            refine HP.out.mono ?_
            rintro e w1 ⟨rfl, hb1⟩
            obtain ⟨c1, c2, c3⟩ := HGO.out w1 hb1
            rw [HGN.out] at c3
            have HB1 := Lib.hid hb1
            clear hb1
            go_wp2_with fail
            go_ret
            exact ⟨by rw [HF.out]; rfl, HB1.out⟩
        · have q2 : (x.id != id) = true := by simpa using hid
          have HF := Lib.hid (show A.find id = none from by rw [HFF.out]; exact if_neg (fun h => hid h.1))
          clear hid HFF
          go_enter Try.func73, Try.ntmps73
          go_wp2_with fail
          refine HP.out.mono ?_
          rintro e w1 ⟨rfl, hb1⟩
          obtain ⟨c1, c2, c3⟩ := HGO.out w1 hb1
          have HB1 := Lib.hid hb1
          clear hb1
          go_wp2_with fail
          go_ret
          exact ⟨by rw [HF.out]; rfl, HB1.out⟩
end Go.Proofs.Ytiodfolcnnkdjaa
