/- package rup: Assume. package salvorlaw14: a search in memory; Assigned, Begin. package salvorlaw14: Decide. -/
import Derived.Test.YtoojmhjagipmdaaGreatQ17
import Derived.Test.YtoojmhjagipmdaaGreatQ23
import Derived.Test.YtoojmhjagipmdaaGreatQ26
import Derived.Test.YtoojmhjagipmdaaGreatQ25
import Derived.Test.YtoojmhjagipmdaaGreatQ16
namespace Go.Proofs.YtoojmhjagipmdaaGreat
open Go.RowKit Go.Maps Go.Shelf

theorem rup_many (A : Option Addr) (n c : Nat) (w : World) : Calls Tryz.prog 171 #[.slice A n c] w fun e w' => e = .returned (.int .i64 (if 65536 < n then 5 else 0)) ∧ w = w' := by
  by_cases h : 65536 < n
  · have hd : decide ((65536 : Int) < (n : Int)) = true := by simp; omega
    rw [if_pos h]
    clear h
    go_enter Tryz.func171, Tryz.ntmps171
    go_wp2_with fail
    go_ret
    exact ⟨rfl, rfl⟩
  · have hd : decide ((65536 : Int) < (n : Int)) = false := by simp; omega
    rw [if_neg h]
    clear h
    go_enter Tryz.func171, Tryz.ntmps171
    go_wp2_with fail
    go_ret
    exact ⟨rfl, rfl⟩
/-- the first error -/
def firstE : List Int → Int
  | [] => 0
  | e :: r => if e = 0 then firstE r else e
set_option maxRecDepth 100000 in
set_option maxHeartbeats 1000000 in
theorem rup_first {O : Nat → Prop} (u : Value) (es : List Int) (w : World) (hu : IntsIn O w u es) (hlen : es.length ≤ 1000) :
    Calls Tryz.prog 169 #[u] w fun e w' => e = .returned (.int .i64 (firstE es)) ∧ w = w' := by
  have HX := Lib.hid hu
  obtain ⟨A, c, rfl, hc, _, _⟩ := hu
  obtain ⟨R, hR⟩ : ∃ z, firstE es = z := ⟨_, rfl⟩
  have HR := Lib.hid hR
  rw [hR]
  clear hR
  go_enter Tryz.func169, Tryz.ntmps169
  go_wp2_with fail
  go_loopw [7] (fun iv wr => ∃ j : Nat, j ≤ es.length ∧ iv = .int .i64 j ∧ Hid (firstE (es.drop j) = R) ∧ wr = w) (fun iv _ => es.length - (intOf iv).toNat)
  case atStart => exact ⟨0, Nat.zero_le _, rfl, HR, rfl⟩
  case round =>
    obtain ⟨j, hj, rfl, HG, rfl⟩ := hrel
    by_cases hlt : j < es.length
    · obtain ⟨x, hxk⟩ := getElem_of hlt
      obtain ⟨A', c', hAc, _, _, hxs⟩ := HX.out
      simp only [Value.slice.injEq, true_and] at hAc
      obtain ⟨rfl, rfl⟩ := hAc
      obtain ⟨g, o, rfl, hg, _, d0⟩ := hxs j x hxk
      have hgo := HG.out
      rw [List.drop_eq_getElem_cons hlt] at hgo
      rw [List.getElem?_eq_getElem hlt] at hxk
      rw [Option.some.inj hxk] at hgo
      simp only [firstE] at hgo
      clear hxk hxs
      by_cases h0 : x = 0
      · rw [if_pos h0] at hgo
        have d1 : (x != 0) = false := by simpa using h0
        have HG := Lib.hid hgo
        clear hgo h0
        go_wp2_with fail
        go_roundw
        case rel => exact ⟨j + 1, by omega, by go_num, HG, trivial⟩
        case measure => simp [intOf]; omega
      · rw [if_neg h0] at hgo
        have d1 : (x != 0) = true := by simpa using h0
        have HG := Lib.hid hgo
        clear hgo h0
        go_wp2_with fail
        go_ret
        rw [← HG.out]
        exact ⟨rfl, rfl⟩
    · obtain rfl : j = es.length := by omega
      have hgo := HG.out
      rw [List.drop_length] at hgo
      have HG := Lib.hid (show 0 = R from hgo)
      clear hgo
      go_wp2_with fail
      go_ret
      rw [← HG.out]
      exact ⟨rfl, rfl⟩
/-- what wrong returns -/
def wrongE (cs : List (List Int)) : Int := if cs.all clauseB = true then 0 else 20
set_option maxRecDepth 100000 in
set_option maxHeartbeats 2000000 in
theorem rup_wrong {O : Nat → Prop} (lv cv : Value) (mb : Nat) (cs : List (List Int)) (c : List Int) (w : World) (hl : ClsIn O w lv cs) (hm : w.cell? ⟨mb, 0, none⟩ = some cv) (hc : IntsIn O w cv c) (hn : cs.length ≤ 1000000) (hx : ∀ xs ∈ cs ++ [c], xs.length ≤ 100000000000) :
    Calls Tryz.prog 170 #[lv, .slice (some ⟨mb, 0, none⟩) 1 1] w fun e w' => e = .returned (.int .i64 (wrongE (cs ++ [c]))) ∧ Below w.heap.size w w' := by
  obtain ⟨i0, hi, hz0, hz1, hz2⟩ := info_parts info_cls
  obtain ⟨us, hul, hus, hu1, hue⟩ := hl.src
  obtain ⟨A, cc, rfl, _, hA, _⟩ := hl
  obtain ⟨k, hk⟩ : ∃ k, cs.length = k := ⟨_, rfl⟩
  rw [hk] at hus hul hn ⊢
  have hAk : A = none → k = 0 ∧ cc = 0 := fun h => by
    have h1 := hA h
    omega
  have HCL := Lib.hid (clone_row A k cc us w hus hAk hul hu1 (by omega))
  have HM := Lib.hid hm
  have hmb := World.block_lt_of_cell? w _ hm
  have HK := Lib.hid hk
  have HX := Lib.hid hx
  have hlt : ∀ (j : Nat) (xs : List Int), (cs ++ [c])[j]? = some xs → ∃ u, (us ++ [cv])[j]? = some u ∧ IntsIn (fun g => g < w.heap.size) w u xs := fun j xs hj => by
    by_cases hjl : j < cs.length
    · rw [List.getElem?_append_left hjl] at hj
      obtain ⟨u, h1, h2⟩ := hue j xs hj
      exact ⟨u, by rw [List.getElem?_append_left (by omega)]; exact h1, h2.lt.mono (fun _ h => h.2)⟩
    · have hj2 := (List.getElem?_eq_some_iff.1 hj).1
      rw [List.length_append, List.length_singleton] at hj2
      obtain rfl : j = cs.length := by omega
      rw [List.getElem?_append_right (Nat.le_refl _), Nat.sub_self, List.getElem?_cons_zero] at hj
      obtain rfl := Option.some.inj hj
      exact ⟨cv, by rw [List.getElem?_append_right (by omega), show cs.length - us.length = 0 by omega, List.getElem?_cons_zero], hc.lt.mono (fun _ h => h.2)⟩
  have HE := Lib.hid hlt
  have hcv : cv.oneCell' = true := by
    obtain ⟨_, _, h, _⟩ := hc
    rw [h]
    rfl
  have HCV := Lib.hid hcv
  have HUL := Lib.hid hul
  clear hus hul hu1 hue hA hAk hm hk hx hc hlt hcv
  obtain ⟨R, hR⟩ : ∃ z, wrongE (cs ++ [c]) = z := ⟨_, rfl⟩
  have HR := Lib.hid hR
  rw [hR]
  clear hR
  go_enter Tryz.func170, Tryz.ntmps170
  go_wp2_with fail
  refine HCL.out.mono ?_
  rintro e w1 ⟨v, rfl, hr, hb⟩
  have HR1 := Lib.hid hr
  have HB1 := Lib.hid hb
  obtain ⟨Av, c1, rfl, _⟩ := mx_slice hr
  have hm1 := (hb.cell (p := ⟨mb, 0, none⟩) hmb).trans HM.out
  have HM1 := Lib.hid hm1
  have hz := hb.size
  clear hr hb hm1
  go_wp2_with (at_builtin; refine wpList_append_own_at _ rfl _ _ 28 rfl w.heap.size 34 i0 (.slice none 0 0) 1 24 Tryz.underlying28 hi hz0 hz1 hz2 rfl (by decide) _ _ _ rfl HR1.out ⟨mb, 0, none⟩ 1 1 [cv] rfl rfl (fun j u hj => by
    match j, hj with
    | 0, hj => simp at hj; subst hj; simpa [Addr.add] using HM1.out) (fun u hu => by rw [List.mem_singleton.1 hu]; exact HCV.out) (by unfold maxLen; omega) (by omega) hz ?_; intro v' w2 hown hgrow hnl hat; obtain ⟨g2, c2, rfl⟩ := ownsRow_succ hown)
  have HB2 := Lib.hid (HB1.out.grown hgrow hz (fun g hg => (own_lt HR1.out g hg).1))
  have HR2 := Lib.hid hown
  have hcl : ∀ (j : Nat), j < k + 1 → ∃ u xs, (cs ++ [c])[j]? = some xs ∧ w2.cell? ⟨g2, j, none⟩ = some u ∧ IntsIn (fun g => g < w.heap.size) w2 u xs := fun j hj => by
    obtain ⟨xs, hxs⟩ := getElem_of (l := cs ++ [c]) (i := j) (by rw [List.length_append, List.length_singleton, HK.out]; exact hj)
    obtain ⟨u, h1, h2⟩ := HE.out j xs hxs
    exact ⟨u, xs, hxs, mx_at HR2.out h1, h2.kept (O' := fun g => w.heap.size ≤ g) ⟨HB2.out.os, HB2.out.tape, HB2.out.output, HB2.out.size, fun g _ hn => HB2.out.block g (by omega)⟩ (fun g hg h => by omega)⟩
  have HCL2 := Lib.hid hcl
  clear hown hgrow hnl hat hcl
  have HAL := Lib.hid (show (∀ j xs, j < 0 → (cs ++ [c])[j]? = some xs → clauseB xs = true) from fun j xs h => by omega)
  go_wp2_with fail
  go_loopw [12] (fun iv wr => ∃ j : Nat, j ≤ k + 1 ∧ iv = .int .i64 j ∧ Hid (∀ i xs, i < j → (cs ++ [c])[i]? = some xs → clauseB xs = true) ∧ wr = w2) (fun iv _ => k + 1 - (intOf iv).toNat)
  case atStart => exact ⟨0, Nat.zero_le _, rfl, HAL, rfl⟩
  case round =>
    obtain ⟨j, hj, rfl, HG, rfl⟩ := hrel
    by_cases hlt : j < k + 1
    · obtain ⟨u, xs, hxs, e0, hin⟩ := HCL2.out j hlt
      have HRC := right_clause u xs wr hin (by have := HX.out xs (List.mem_of_getElem? hxs); omega)
      obtain ⟨A', c', rfl, _⟩ := hin
      have HXS := Lib.hid hxs
      have hd : decide ((j : Int) < (k : Int) + 1) = true := by simp; omega
      clear hxs
      cases hcb : clauseB xs with
      | false =>
        rw [hcb] at HRC
        have HRC := Lib.hid HRC
        have HF := Lib.hid hcb
        clear hcb
        go_wp2_with fail
        refine HRC.out.mono ?_
        rintro e w' ⟨rfl, rfl⟩
        go_wp2_with fail
        go_ret
        refine ⟨?_, HB2.out⟩
        rw [← HR.out]
        unfold wrongE
        rw [if_neg (fun h => by
          have := List.all_eq_true.1 h xs (List.mem_of_getElem? HXS.out)
          rw [HF.out] at this
          cases this)]
        rfl
      | true =>
        rw [hcb] at HRC
        have HRC := Lib.hid HRC
        have HF := Lib.hid hcb
        clear hcb
        go_wp2_with fail
        refine HRC.out.mono ?_
        rintro e w' ⟨rfl, rfl⟩
        go_wp2_with fail
        go_roundw
        case rel => exact ⟨j + 1, by omega, by go_num, Lib.hid (fun i ys hi hy => by
          rcases Nat.lt_or_ge i j with h | h
          · exact HG.out i ys h hy
          · obtain rfl : i = j := by omega
            rw [HXS.out] at hy
            obtain rfl := Option.some.inj hy
            exact HF.out), trivial⟩
        case measure => simp [intOf]; omega
    · obtain rfl : j = k + 1 := by omega
      have hd : decide (((k + 1 : Nat) : Int) < (k : Int) + 1) = false := by simp
      go_wp2_with fail
      go_ret
      refine ⟨?_, HB2.out⟩
      rw [← HR.out]
      unfold wrongE
      rw [if_pos (List.all_eq_true.2 (fun ys hy => by
        obtain ⟨i, hi⟩ := List.getElem?_of_mem hy
        refine HG.out i ys ?_ hi
        have := (List.getElem?_eq_some_iff.1 hi).1
        rw [List.length_append, List.length_singleton, HK.out] at this
        exact this))]
      rfl
end Go.Proofs.YtoojmhjagipmdaaGreat
namespace Go.Proofs.YtoojmhjagipmdaaGreat
open Go.RowKit Go.Maps Go.Shelf

/-- what is assumed where a clause fails -/
def asmL (c : List Int) : List Int := sortL ((normL c).map litN)
def AsmOut (w w' : World) (c : List Int) (e : Ending) : Prop :=
  if clauseB c = true then (if alwL c = true then e = .returned (.tuple #[.slice none 0 0, .bool true, .int .i64 0]) else ∃ v, e = .returned (.tuple #[v, .bool false, .int .i64 0]) ∧ w'.ownsRow w.heap.size 32 1 v (asmL c).length ((asmL c).map (Value.int .i64)))
  else e = .returned (.tuple #[.slice none 0 0, .bool false, .int .i64 20])
set_option maxRecDepth 100000 in
set_option maxHeartbeats 2000000 in
theorem rup_assume {O : Nat → Prop} (u : Value) (c : List Int) (w : World) (hu : IntsIn O w u c) (hlen : c.length ≤ 100000000000) :
    Calls Tryz.prog 172 #[u] w fun e w' => AsmOut w w' c e ∧ Below w.heap.size w w' := by
  obtain ⟨i0, hi, hz0, hz1, hz2⟩ := info_parts cinfo_lit
  have HN := norm_any u c w hu (by omega)
  obtain ⟨A, cc, rfl, _⟩ := hu
  unfold AsmOut
  unfold NormOut at HN
  have HNL := Lib.hid (normL_len c)
  obtain ⟨q, hq⟩ : ∃ q, clauseB c = q := ⟨_, rfl⟩
  obtain ⟨al, hal⟩ : ∃ q, alwL c = q := ⟨_, rfl⟩
  rw [hq, hal] at HN
  rw [hq, hal]
  clear hq hal
  cases q with
  | false =>
    simp only [Bool.false_eq_true, if_false] at HN ⊢
    have HN := Lib.hid HN
    go_enter Tryz.func172, Tryz.ntmps172
    go_wp2_with fail
    refine HN.out.mono ?_
    rintro e w1 ⟨rfl, hb⟩
    have HB := Lib.hid hb
    clear hb
    go_wp2_with fail
    refine bodyPost_ret (res_norm rfl _ _) rfl ?_
    exact ⟨rfl, HB.out⟩
  | true =>
    simp only [if_true] at HN ⊢
    have HN := Lib.hid HN
    cases al with
    | true =>
      simp only [if_true] at HN ⊢
      go_enter Tryz.func172, Tryz.ntmps172
      go_wp2_with fail
      refine HN.out.mono ?_
      rintro e w1 ⟨⟨v, rfl, _⟩, hb⟩
      have HB := Lib.hid hb
      clear hb
      go_wp2_with fail
      refine bodyPost_ret (res_norm rfl _ _) rfl ?_
      exact ⟨rfl, HB.out⟩
    | false =>
      simp only [Bool.false_eq_true, if_false]
      obtain ⟨ys, hys⟩ : ∃ y, normL c = y := ⟨_, rfl⟩
      unfold asmL
      rw [hys] at HN HNL ⊢
      clear hys
      go_enter Tryz.func172, Tryz.ntmps172
      go_wp2_with fail
      refine HN.out.mono ?_
      rintro e w1 ⟨⟨v, rfl, hr⟩, hb⟩
      obtain ⟨Av, cv, rfl, _⟩ := mx_slice hr
      have HB := Lib.hid hb
      have HR := Lib.hid hr
      have hnl := HNL.out
      have hz := hb.size
      clear hb hr
      go_wp2_with fail
      go_loopw [8, 26] (fun ov iv wr => ∃ j : Nat, j ≤ ys.length ∧ iv = .int .i64 j ∧ Hid (wr.ownsRow w1.heap.size 32 1 ov j (((ys.take j).map litN).map (Value.int .i64))) ∧ Hid (Below w1.heap.size w1 wr)) (fun _ iv _ => ys.length - (intOf iv).toNat)
      case atStart => exact ⟨0, Nat.zero_le _, rfl, Lib.hid (World.ownsRow_nil _ _ _ _), Lib.hid (Below.refl _ _)⟩
      case round =>
        obtain ⟨j, hj, rfl, HO, HB1⟩ := hrel
        obtain ⟨Ao, co, rfl, _⟩ := mx_slice HO.out
        by_cases hlt : j < ys.length
        · obtain ⟨x, hxk⟩ := getElem_of hlt
          obtain ⟨g, c', hv, hg0, hg, e0⟩ := own_cell HR.out hxk
          simp only [Value.slice.injEq, true_and] at hv
          obtain ⟨rfl, rfl⟩ := hv
          have d1 : wr.cell? ⟨g, j, none⟩ = some (.int .i64 x) := (HB1.out.cell (p := ⟨g, j, none⟩) hg).trans e0
          have HTK := Lib.hid (show (((ys.take (j + 1)).map litN).map (Value.int .i64)) = (((ys.take j).map litN).map (Value.int .i64)) ++ [.int .i64 (litN x)] from by rw [List.take_add_one, hxk]; simp)
          have HG := Lib.hid (fun W => lit_neg x W)
          have hz1' := HB1.out.size
          clear hxk e0
          go_wp2_with fail
          refine (HG.out _).mono ?_
          rintro e w' ⟨rfl, rfl⟩
          go_wp2_with (at_builtin; refine wpList_append_own_at _ rfl _ _ 33 rfl w1.heap.size 32 i0 (.int .i64 0) 1 8 Tryz.underlying33 hi hz0 hz1 hz2 rfl (by decide) _ j _ rfl (own_below HO.out (mx_al wr _)) ⟨wr.heap.size, 0, none⟩ 1 1 [.int .i64 (litN x)] rfl rfl (fun i u hi => by
            match i, hi with
            | 0, hi => simp at hi; subst hi; simp [Addr.add]) (fun u hu => by rw [List.mem_singleton.1 hu]; rfl) (by unfold maxLen; omega) (by omega) (by simp; omega) ?_; intro v' w2 hown hgrow hnl2 hat)
          have HO2 := Lib.hid hown
          have HB2 := Lib.hid (HB1.out.trans (((mx_al wr (.cells #[.int .i64 (litN x)] 32)).mono hz1').grown hgrow (by simp; omega) (fun g hg => (own_lt HO.out g hg).1)))
          clear hown hgrow hnl2 hat
          go_wp2
          go_roundw
          case rel => exact ⟨j + 1, by omega, by go_num, Lib.hid (by rw [HTK.out]; exact HO2.out), HB2⟩
          case measure => simp [intOf]; omega
        · obtain rfl : j = ys.length := by omega
          have ho := HO.out
          rw [List.take_length] at ho
          have e : ys.length = (ys.map litN).length := (List.length_map _).symm
          rw [e] at ho
          have HS := own_sortL _ _ wr ho (by rw [← e]; omega)
          rw [← e] at HS ho
          have HO2 := Lib.hid ho
          have HS := Lib.hid HS
          clear ho e
          go_wp2_with fail
          refine HS.out.mono ?_
          rintro e w2 ⟨rfl, hr2, hk2⟩
          have HR2 := Lib.hid hr2
          have HB2 := Lib.hid (HB.out.trans ((HB1.out.trans (hk2.below (fun g hg => (own_lt HO2.out g hg).1) HB1.out.size)).mono hz))
          clear hr2 hk2
          go_wp2_with fail
          refine bodyPost_ret (res_norm rfl _ _) rfl ?_
          exact ⟨⟨_, rfl, own_mono (by simpa [sortL_length] using HR2.out) hz⟩, HB2.out⟩
end Go.Proofs.YtoojmhjagipmdaaGreat
namespace Go.Proofs.YtoojmhjagipmdaaGreat
open Go.RowKit

/-- a search, plainly: id is the ID of a clause that fails, or 0 -/
structure Sr (cs : List (List Int)) (T : Trl) (its : List RIt) (S : Wst) (id : Int) : Prop where
  st : St (clsC cs) T its S
  dcs : Dcs its
  ok : id = 0 → Run cs T its S
  bad : id ≠ 0 → ∃ c, clsC cs id = some c ∧ ∀ y ∈ c, Has its (-y)
  full : id ≠ 0 → T.now = 0 ∨ (∀ j, (S.kn j).isSome = (clsC cs j).isSome) ∧ One (clsC cs) (fun _ => True) its
/-- a search in memory -/
structure SrAt (w0 w : World) (lab : Nat → Nat) (sb b ab tb : Nat) (A : Arn) (T : Trl) (S : Wst) (cs : List (List Int)) (av : Value) (us : List Value) : Prop where
  lw : Lw w0 w lab b ab tb A T S
  lab0 : lab sb = 0
  sbw : w0.heap.size ≤ sb
  box : w.heap[sb]? = some (.cells #[.pointer (some ⟨ab, 0, none⟩), .pointer (some ⟨tb, 0, none⟩), .pointer (some ⟨b, 0, none⟩), av] 41 (0, 0))
  row : w.ownsRow w0.heap.size 34 1 av cs.length us
  rlab : ∀ g, av.ownBlock = some g → lab g = 0 ∧ g ≠ sb
  inn : ∀ (i : Nat) (xs : List Int), cs[i]? = some xs → ∃ u, us[i]? = some u ∧ IntsIn (fun g => lab g = 0 ∧ g ≠ sb ∧ av.ownBlock ≠ some g) w u xs
def SrNext (w0 w' : World) (sb b ab tb : Nat) (A : Arn) (T : Trl) (S : Wst) (cs : List (List Int)) : Prop := ∃ lab' av us, SrAt w0 w' lab' sb b ab tb A T S cs av us
section
variable {w0 w w' : World} {lab : Nat → Nat} {sb b ab tb : Nat} {A A' : Arn} {T T' : Trl} {S S' : Wst} {cs : List (List Int)} {av : Value} {us : List Value}
theorem SrAt.sblt (h : SrAt w0 w lab sb b ab tb A T S cs av us) : sb < w.heap.size := heap_lt h.box
theorem SrAt.below (h : SrAt w0 w lab sb b ab tb A T S cs av us) (k : Below w.heap.size w w') : SrAt w0 w' lab sb b ab tb A T S cs av us where
  lw := h.lw.below k
  lab0 := h.lab0
  sbw := h.sbw
  box := (k.block _ h.sblt).trans h.box
  row := own_below h.row k
  rlab := h.rlab
  inn := fun i xs hi => by
    obtain ⟨u, h1, h2⟩ := h.inn i xs hi
    exact ⟨u, h1, h2.below k⟩
theorem SrAt.next (h : SrAt w0 w lab sb b ab tb A T S cs av us) (k : LwNext w0 w w' lab b ab tb A' T' S') : ∃ lab', SrAt w0 w' lab' sb b ab tb A' T' S' cs av us := by
  obtain ⟨lab', h1, h2⟩ := k
  refine ⟨lab', ⟨h1, (h2.same _ h.sblt).trans h.lab0, h.sbw, (h2.kept.block _ h.sblt (by simp [h.lab0])).trans h.box, own_kept h.row h2.kept (fun g hg hn => hn (h.rlab g hg).1), fun g hg => ⟨(h2.same g (own_lt h.row g hg).2).trans (h.rlab g hg).1, (h.rlab g hg).2⟩, fun i xs hi => ?_⟩⟩
  obtain ⟨u, a1, a2⟩ := h.inn i xs hi
  refine ⟨u, a1, (a2.lt.kept h2.kept (fun g hg hn => hn hg.1.1)).mono (fun g hg => ⟨(h2.same g hg.2).trans hg.1.1, hg.1.2⟩)⟩
theorem SrAt.cells (h : SrAt w0 w lab sb b ab tb A T S cs av us) : w.cell? ⟨sb, 0, none⟩ = some (.pointer (some ⟨ab, 0, none⟩)) ∧ w.cell? ⟨sb, 1, none⟩ = some (.pointer (some ⟨tb, 0, none⟩)) ∧ w.cell? ⟨sb, 2, none⟩ = some (.pointer (some ⟨b, 0, none⟩)) ∧ w.cell? ⟨sb, 3, none⟩ = some av := (cells4 h.box).1
/-- all clauses of a search -/
theorem SrAt.cls (h : SrAt w0 w lab sb b ab tb A T S cs av us) : ClsIn (fun g => lab g = 0) w av cs := by
  have hrow := h.row
  have hinn := h.inn
  have hrl := h.rlab
  rcases hrow.2 with ⟨rfl, h0⟩ | ⟨g, cap, cur, rfl, _, hg, hle, _⟩
  · exact ⟨none, 0, by rw [h0], by omega, fun _ => rfl, fun i xs hi => by
      have := (List.getElem?_eq_some_iff.1 hi).1
      omega⟩
  · refine ⟨_, cap, rfl, hle, (fun h => by cases h), fun i xs hi => ?_⟩
    obtain ⟨u, hu, ho⟩ := hinn i xs hi
    exact ⟨g, 0, u, rfl, heap_lt hg, (hrl g rfl).1, by rw [Nat.zero_add]; exact mx_at hrow hu, ho.mono (fun g hg => hg.1)⟩
end
set_option maxRecDepth 100000 in
set_option maxHeartbeats 2000000 in
theorem law_assigned14 {O : Nat → Prop} (tb : Nat) (T : Trl) (w : World) (h : TrAt O w tb T) (hlen : T.order.length ≤ 40) :
    Calls Tryz.prog 15 #[.pointer (some ⟨tb, 0, none⟩)] w fun e w' => ∃ v, e = .returned v ∧ w'.ownsRow w.heap.size 32 1 v T.order.length (T.order.map (Value.int .i64)) ∧ Below w.heap.size w w' := by
  obtain ⟨i0, hi, hz0, hz1, hz2⟩ := info_parts info_lit
  have HL := Lib.hid (tr_len tb T w h)
  have HT := Lib.hid h
  have hN : min (T.order.length : Int) (40 : Int) = (T.order.length : Int) := by omega
  clear h
  go_enter Tryz.func15, Tryz.ntmps15
  go_wp2_with fail
  refine HL.out.mono ?_
  rintro e w' ⟨rfl, rfl⟩
  go_wp2_with fail
  go_loopw [3, 10] (fun v i wr => ∃ k : Nat, k ≤ T.order.length ∧ i = .int .i64 k ∧ Hid (Below w.heap.size w wr) ∧ Hid (wr.ownsRow w.heap.size 32 1 v k ((T.order.take k).map (Value.int .i64)))) (fun _ i _ => T.order.length - (intOf i).toNat)
  case atStart => exact ⟨0, Nat.zero_le _, rfl, Lib.hid (Below.refl _ _), Lib.hid (World.ownsRow_nil _ _ _ _)⟩
  case round =>
    obtain ⟨k, hk, rfl, HB, HR⟩ := hrel
    by_cases hlt : k < T.order.length
    · obtain ⟨x, hxk⟩ := getElem_of hlt
      have HAT := Lib.hid (tr_at tb T k x wr (HT.out.below HB.out) hxk)
      have HXK := Lib.hid hxk
      clear hxk
      go_wp2_with fail
      refine HAT.out.mono ?_
      rintro e w' ⟨rfl, rfl⟩
      go_wp2_with (at_builtin; refine wpList_append_own_at _ rfl _ _ 33 rfl w.heap.size 32 i0 (.int .i64 0) 1 8 Tryz.underlying33 hi hz0 hz1 hz2 rfl (by decide) _ k _ rfl (own_below HR.out (below_alloc1 wr _)) ⟨wr.heap.size, 0, none⟩ 1 1 [.int .i64 x] rfl rfl (cell_one_new' _ _ _) (by simp [Value.oneCell']) (by unfold maxLen; omega) (by omega) (by have := HB.out.size; simp; omega) ?_; intro v' w1 hown hgrow hnl hat)
      obtain ⟨Av, kv, rfl, _⟩ := mx_slice hown
      have hb1 : Below w.heap.size w w1 := (HB.out.trans ((below_alloc1 wr (.cells #[.int .i64 x] 32)).mono HB.out.size)).grown hgrow (by have := HB.out.size; simp; omega) (fun g hg => (own_lt HR.out g hg).1)
      have htk : (T.order.take (k + 1)).map (Value.int .i64) = (T.order.take k).map (Value.int .i64) ++ [.int .i64 x] := by
        rw [List.take_add_one, HXK.out]
        simp
      have HO := Lib.hid hown
      have HB1 := Lib.hid hb1
      have HTK := Lib.hid htk
      clear hown hgrow hnl hat hb1 htk
      go_wp2
      go_roundw
      case rel => exact ⟨k + 1, by omega, by go_num, HB1, Lib.hid (by rw [HTK.out]; exact HO.out)⟩
      case measure => simp [intOf]; omega
    · obtain rfl : k = T.order.length := by omega
      have hro := HR.out
      rw [List.take_length] at hro
      have HRO := Lib.hid hro
      clear hro
      go_wp2_with fail
      go_ret
      exact ⟨_, rfl, HRO.out, HB.out⟩
/-- how Begin goes on -/
inductive AddO (c : List Int) (K : Nat) (its' : List RIt) : Prop
  | on (hk : K = 1 ∨ K = 2 ∨ K = 4)
  | fails (hk : K = 3) (hf : ∀ y ∈ c, Has its' (-y))
theorem StartO.add {c : List Int} {K I : Nat} {U : Int} {T' : Trl} {its' : List RIt} (h : StartO c K I U T' its') : AddO c K its' := by
  rcases h with ⟨_, a⟩ | ⟨_, a, _, f⟩ | ⟨_, a, _⟩ | ⟨_, a, _⟩
  · exact .on (.inr (.inr a))
  · exact .fails a f
  · exact .on (.inr (.inl a))
  · exact .on (.inl a)
theorem PZ.dcs {T : Trl} {its : List RIt} (h : PZ (fun _ => False) T) (hs : Sim T its) : Dcs its := fun p x hx h0 => by
  obtain ⟨i2, h1, h2⟩ := h
  rw [hs.uniq h1] at hx
  exact (h2 x (List.mem_of_getElem? hx) h0).elim
set_option maxRecDepth 100000 in
set_option maxHeartbeats 8000000 in
theorem law_begin {O : Nat → Prop} (Ac : Option Addr) (cc : Nat) (cs : List (List Int)) (w : World) (hc : ClsAt w (.slice Ac cs.length cc) cs) (hi : ClsIn O w (.slice Ac cs.length cc) cs) (h6 : Six cs) :
    Calls Tryz.prog 11 #[.slice Ac cs.length cc] w fun e w' => ∃ sb b a t lab T its S id av us, e = .returned (.tuple #[.pointer (some ⟨sb, 0, none⟩), .int .i64 id, .bool true]) ∧ SrAt w w' lab sb b a t (addAll arn0 0 cs) T S cs av us ∧ Sr cs T its S id ∧ T.now = 0 := by
  have hcl := h6.1
  have HC := Lib.hid hc
  have HI := Lib.hid hi.lt
  have HPU := Lib.hid (put_any 6 _ (.slice none 0 0) cs [] w (by decide) hc ⟨none, 0, rfl, fun i a hi => by simp at hi⟩ (by omega) (fun c hm => by have := (h6.right hm).2; omega) (by simp))
  clear hc hi
  go_enter Tryz.func11, Tryz.ntmps11
  go_wp2_with fail
  refine HPU.out.mono ?_
  rintro e w1 ⟨a, t, rfl, hp, hb1⟩
  obtain ⟨A, hA⟩ : ∃ A, addAll arn0 0 cs = A := ⟨_, rfl⟩
  rw [hA] at hp
  have hp : PutAt w.heap.size w1 a t A (trl0 6) := hp
  have HA := Lib.hid hA
  have HNW := Lib.hid (wa_new_at hp)
  have HB1 := Lib.hid hb1
  clear hp hb1 HPU hA
  go_wp2_with fail
  refine HNW.out.mono ?_
  rintro e w2 ⟨b, lab, rfl, hs2, hge, hb2⟩
  have hlw : Lw w w2 lab b a t A (trl0 6) ⟨[], [], 0⟩ := ⟨hs2, hge, HB1.out.trans (hb2.mono HB1.out.size)⟩
  have HLW := Lib.hid hlw
  obtain ⟨us, hul, hus, hu1, hue⟩ := (HI.out.below hlw.hb).src
  have hAn : Ac = none → cs.length = 0 ∧ cc = 0 := fun e => by
    obtain ⟨A2, c2, hv, h1, h2, _⟩ := HI.out
    simp only [Value.slice.injEq] at hv
    have := h2 (hv.1 ▸ e)
    have := hv.2.2
    omega
  have HCR := Lib.hid (clone_row Ac cs.length cc us w2 hus hAn hul hu1 (by omega))
  have HUE := Lib.hid hue
  clear hs2 hge hb2 HNW HB1 hlw hul hus hu1 hue hAn
  go_wp2_with fail
  refine HCR.out.mono ?_
  rintro e w3 ⟨av, rfl, hrow, hb3⟩
  obtain ⟨Av, cv, rfl, _⟩ := mx_slice hrow
  have hlw3 := HLW.out.below hb3
  obtain ⟨w4, hw4⟩ : ∃ z, w3.alloc (.cells #[.pointer (some ⟨a, 0, none⟩), .pointer (some ⟨t, 0, none⟩), .pointer (some ⟨b, 0, none⟩), .slice Av cs.length cv] 41) = z := ⟨_, rfl⟩
  have hb4 : Below w3.heap.size w3 w4 := by rw [← hw4]; exact mx_al _ _
  have hlt3 : ∀ g, lab g ≠ 0 → g < w2.heap.size := HLW.out.sys.lt
  have hsr : SrAt w w4 lab w3.heap.size b a t A (trl0 6) ⟨[], [], 0⟩ cs (.slice Av cs.length cv) us := {
    lw := hlw3.below hb4
    lab0 := Classical.byContradiction fun h => by have := hlt3 _ h; have := hb3.size; omega
    sbw := hlw3.hb.size
    box := by rw [← hw4]; exact World.alloc_heap_new _ _
    row := own_mono (own_below hrow hb4) HLW.out.hb.size
    rlab := fun g hg => by
      have h1 := own_lt hrow g hg
      exact ⟨Classical.byContradiction fun h => by have := hlt3 _ h; omega, by omega⟩
    inn := fun i xs hxi => by
      obtain ⟨u, h1, h2⟩ := HUE.out i xs hxi
      refine ⟨u, h1, ((h2.below hb3).below hb4).mono (fun g hg => ?_)⟩
      have hgw := hg.2
      have := HLW.out.hb.size
      have := hb3.size
      refine ⟨Classical.byContradiction fun h => by have := HLW.out.ge g h; omega, by omega, fun e => ?_⟩
      have := (own_lt hrow g e).1
      omega }
  have HSR := Lib.hid hsr
  have HBG := Lib.hid (beg0 cs)
  obtain ⟨sb, hsb⟩ : ∃ z, w3.heap.size = z := ⟨_, rfl⟩
  rw [hsb] at HSR
  have HW4 := Lib.hid hw4
  have HSB := Lib.hid hsb
  clear hrow hb3 hlw3 hb4 hlt3 hsr HCR HUE HLW hw4 hsb
  go_wp2_with fail
  rw [HW4.out, HSB.out]
  go_wp2_with fail
  go_loopw [45] (fun i wr => ∃ (k : Nat) (labr : Nat → Nat) (T : Trl) (its : List RIt) (S : Wst), k ≤ cs.length ∧ i = .int .i64 k ∧ Hid (SrAt w wr labr sb b a t A T S cs (.slice Av cs.length cv) us) ∧ Hid (Beg cs k T its S false)) (fun i _ => cs.length - (intOf i).toNat)
  case atStart => exact ⟨0, lab, _, [], _, Nat.zero_le _, rfl, HSR, HBG⟩
  case round =>
    obtain ⟨k, labr, T, its, S, hk, rfl, HL, HG⟩ := hrel
    by_cases hlt : k < cs.length
    · obtain ⟨c, hck⟩ := getElem_of hlt
      have hmem := List.mem_of_getElem? hck
      have hrt := h6.right hmem
      have hv7 := HG.out.st.vars
      have hsim := HG.out.st.sim
      have hfew := hsim.few hv7
      obtain ⟨f, hf, hff⟩ := k_its (fun x hx => hsim.litb hx) hsim.nodup
      have HNX := Lib.hid (HG.out.next h6 hck hff)
      have HAG := Lib.hid (show A.get ((k : Int) + 1) = some c from by
        rw [← HA.out, get_cls h6]
        unfold clsC
        rw [if_pos (by omega), show ((k : Int) + 1 - 1).toNat = k by omega]
        exact hck)
      have HCC := Lib.hid (show clsC cs ((k : Int) + 1) = some c from by
        unfold clsC
        rw [if_pos (by omega), show ((k : Int) + 1 - 1).toNat = k by omega]
        exact hck)
      have HC7 := Lib.hid (h6.2 c hmem)
      have hwk : IntKind.i64.wrap ((k : Int) + 1) = (k : Int) + 1 := IntWalk.i64_in _ (by omega)
      have hadd := lw_add HL.out.lw ((k : Int) + 1) (wf64 (by omega) (by omega)) (fun d hd => by
        rw [HAG.out] at hd
        rw [← Option.some.inj hd]
        exact ⟨by have := hrt.2; omega, hrt.1, by omega, by omega⟩) (by omega) HG.out.st.inv.link
      have hkn : S.kn ((k : Int) + 1) = none := by
        have := HG.out.kn ((k : Int) + 1)
        rw [decide_eq_false (by omega)] at this
        exact Option.isSome_eq_false_iff.1 this |> Option.isNone_iff_eq_none.1
      have hw : addW A T S ((k : Int) + 1) = addOk T S ((k : Int) + 1) c := by
        unfold addW
        rw [hkn]
        simp only []
        rw [HAG.out]
        simp only []
        rw [if_neg (by
          rw [Bool.not_eq_true, List.any_eq_false]
          intro y hy
          have := (HC7.out.2 y hy).2
          rw [decide_eq_true_eq]
          omega)]
      rw [hw, addOk_err] at hadd
      obtain ⟨R, hR⟩ : ∃ R, addOk T S ((k : Int) + 1) c = R := ⟨_, rfl⟩
      rw [hR] at hadd
      have hnx := HNX.out
      rw [hR] at hnx
      obtain ⟨K, T', S', hRK⟩ : ∃ K T' S', R.res = K ∧ R.T = T' ∧ R.S = S' := ⟨_, _, _, rfl, rfl, rfl⟩
      rw [hRK.1, hRK.2.1, hRK.2.2] at hadd hnx
      obtain ⟨its', hbeg, hso⟩ := hnx
      have HADD := Lib.hid hadd
      have HBG' := Lib.hid hbeg
      have HSO := Lib.hid hso.add
      clear hck hf hff hrt hsim hadd hkn hw hR hRK hbeg hso HNX
      go_wp2_with fail
      refine HADD.out.mono ?_
      rintro e w5 ⟨rfl, hl5⟩
      obtain ⟨lab5, hl5⟩ := HL.out.next hl5
      have HL5 := Lib.hid hl5
      clear hl5 HADD
      rcases HSO.out with ⟨hk3⟩ | ⟨rfl, hf⟩
      · have q3 : ((K : Int) == 3) = false := by simp; omega
        have HBG2 := Lib.hid (show Beg cs (k + 1) T' its' S' false from by
          have := HBG'.out
          rwa [decide_eq_false (by omega)] at this)
        clear hk3 HSO
        go_wp2_with fail
        go_roundw
        case rel => exact ⟨k + 1, lab5, T', its', S', by omega, by go_num, HL5, HBG2⟩
        case measure => simp [intOf]; omega
      · have HFIN := Lib.hid (show Sr cs T' its' S' ((k : Int) + 1) from ⟨HBG'.out.st, HBG'.out.pz.dcs HBG'.out.st.sim, fun h => by omega, fun _ => ⟨c, HCC.out, hf⟩, fun _ => .inl HBG'.out.now⟩)
        clear hf HSO
        go_wp2_with fail
        refine bodyPost_ret (v := .tuple #[.pointer (some ⟨sb, 0, none⟩), .int .i64 ((k : Int) + 1), .bool true]) (by simp [results, Tryz.results11, go_sem]) rfl ?_
        exact ⟨sb, b, a, t, lab5, T', its', S', (k : Int) + 1, _, us, rfl, by rw [HA.out]; exact HL5.out, HFIN.out, HBG'.out.now⟩
    · obtain rfl : k = cs.length := by omega
      obtain ⟨its', hst', hpre, hnow, hkn, hres⟩ := HG.out.st.prop (A := A) h6.fit (by rw [← HA.out]; exact HG.out.st.find h6)
      have hpr := lw_prop HL.out.lw HG.out.st.inv.link ⟨_, HG.out.st.sim⟩ (by rw [HG.out.st.vars]; decide)
      have hpz := PZ.propGo (A := A) (T.vars.length + 1) HG.out.st.inv.bnd HG.out.st.inv.link ⟨_, HG.out.st.sim⟩ HG.out.pz
      obtain ⟨r, hr⟩ : ∃ r, (propW A T S).2.2 = r := ⟨_, rfl⟩
      rw [hr] at hpr hres
      have hfr : (r.isSome == (r.getD 0 != 0)) = true := by
        cases r with
        | none => rfl
        | some x =>
          rcases hres with ⟨h, _⟩ | ⟨id, c, h1, h2, _⟩
          · cases h
          · obtain rfl := Option.some.inj h1
            have := (h6.fit x c h2).1.1
            have e : (x != 0) = true := by simp; omega
            show (true == (x != 0)) = true
            rw [e]
            rfl
      obtain ⟨rs, hrs⟩ : ∃ rs, r.isSome = rs := ⟨_, rfl⟩
      obtain ⟨rg, hrg⟩ : ∃ rg, r.getD 0 = rg := ⟨_, rfl⟩
      obtain ⟨T', hT'⟩ : ∃ T', (propW A T S).1 = T' := ⟨_, rfl⟩
      obtain ⟨S', hS'⟩ : ∃ S', (propW A T S).2.1 = S' := ⟨_, rfl⟩
      rw [hT', hS'] at hpr hst'
      rw [hT'] at hnow
      rw [hS'] at hkn hres
      have hdcs : Dcs its' := (show PZ (fun _ => False) T' from by rw [← hT']; exact hpz).dcs hst'.sim
      have hFIN : Sr cs T' its' S' rg := by
        refine ⟨hst', hdcs, fun h => ?_, fun h => ?_, fun _ => .inl (hnow.trans HG.out.now)⟩
        · rcases hres with ⟨h1, h2⟩ | ⟨id, c, h1, h2, _⟩
          · exact ⟨hst', fun j => (hkn j).trans (HG.out.all j), HG.out.ones.pre hpre, h2⟩
          · have := (h6.fit id c h2).1.1
            rw [← hrg, h1] at h
            have h : id = 0 := h
            omega
        · rcases hres with ⟨h1, _⟩ | ⟨id, c, h1, h2, h3⟩
          · rw [← hrg, h1] at h
            exact absurd rfl h
          · rw [← hrg, h1]
            exact ⟨c, h2, h3⟩
      rw [hrs, hrg] at hpr hfr
      have HFIN := Lib.hid hFIN
      have HNN := Lib.hid (hnow.trans HG.out.now)
      have HPR := Lib.hid hpr
      clear hst' hpre hnow hkn hres hpr hr hrs hrg hT' hS' HG hlt hpz hdcs hFIN
      go_wp2_with fail
      refine HPR.out.mono ?_
      rintro e w5 ⟨rfl, hl5⟩
      obtain ⟨lab5, hl5⟩ := HL.out.next hl5
      have HL5 := Lib.hid hl5
      clear hl5 HPR HL
      go_wp2_with fail
      refine bodyPost_ret (v := .tuple #[.pointer (some ⟨sb, 0, none⟩), .int .i64 rg, .bool true]) (by simp [results, Tryz.results11, go_sem]) rfl ?_
      exact ⟨sb, b, a, t, lab5, T', its', S', rg, _, us, rfl, by rw [HA.out]; exact HL5.out, HFIN.out, HNN.out⟩
end Go.Proofs.YtoojmhjagipmdaaGreat
namespace Go.Proofs.YtoojmhjagipmdaaGreat
open Go.RowKit

section
variable {w0 w w' : World} {lab : Nat → Nat} {sb b ab tb : Nat} {A A' : Arn} {T T' : Trl} {its : List RIt} {S S' : Wst} {cs : List (List Int)} {av : Value} {us : List Value}
/-- a decision -/
theorem sr_dec (hr : Sr cs T its S 0) (h6 : Six cs) {l : Int} (hl : litB l = true ∧ litV l < 7) : ∃ its', Sr cs (propW (addAll arn0 0 cs) (decT T l) S).1 its' (propW (addAll arn0 0 cs) (decT T l) S).2.1 ((propW (addAll arn0 0 cs) (decT T l) S).2.2.getD 0) ∧ (propW (addAll arn0 0 cs) (decT T l) S).1.now = T.now + 1 ∧ its <+: its' ∧ (Has its' l ∨ Has its (-l)) ∧ ∀ id, (propW (addAll arn0 0 cs) (decT T l) S).2.2 = some id → 1 ≤ id := by
  have hrun := hr.ok rfl
  obtain ⟨its', hd⟩ := dec_step hrun h6 hl
  have hid : ∀ id, (propW (addAll arn0 0 cs) (decT T l) S).2.2 = some id → 1 ≤ id := fun id h => by
    obtain ⟨c, hc, _⟩ := hd.bad id h
    exact (h6.fit id c hc).1.1
  have hp := hr.st.push hrun.lk
  have hz : DZ (decT T l) := by
    unfold decT decA
    split
    · rename_i hz
      have herr := free_err (T := T.push) hr.st.vars hl.1 hl.2 hz (r := 0) ⟨by omega, by omega⟩
      refine ⟨_, hp.sim.snoc herr, hr.dcs.snoc fun _ => ?_⟩
      have hn := push_now (T := T)
      have h0 := hr.st.sim.now
      show 1 ≤ T.push.now ∧ ∀ y ∈ its, y.level < T.push.now
      exact ⟨by omega, fun y hy => by have := (hr.st.sim.pos y hy).2; omega⟩
    · exact ⟨its, hp.sim, hr.dcs⟩
  have hsd : ∃ i2, Sim (decT T l) i2 := hz.imp fun _ h => h.1
  have hz2 := DZ.propGo (A := addAll arn0 0 cs) ((decT T l).vars.length + 1) (S := S) hrun.st.inv.bnd hrun.st.inv.link hsd hz
  refine ⟨its', ⟨hd.st, hz2.dcs hd.st.sim, fun h => hd.ok ?_, fun h => ?_, fun _ => .inr ⟨hd.kn, hd.one⟩⟩, hd.now, hd.pre, hd.has, hid⟩
  · cases hq : (propW (addAll arn0 0 cs) (decT T l) S).2.2 with
    | none => rfl
    | some x =>
      rw [hq] at h
      have := hid x hq
      have h : x = 0 := h
      omega
  · cases hq : (propW (addAll arn0 0 cs) (decT T l) S).2.2 with
    | none => rw [hq] at h; exact absurd rfl h
    | some x => exact hd.bad x hq
set_option maxRecDepth 100000 in
set_option maxHeartbeats 4000000 in
theorem law_decide14 (l : Int) (h : SrAt w0 w lab sb b ab tb (addAll arn0 0 cs) T S cs av us) (hr : Sr cs T its S 0) (h6 : Six cs) (hl : litB l = true ∧ litV l < 7) (hn : T.now ≤ 1000) :
    Calls Tryz.prog 13 #[.pointer (some ⟨sb, 0, none⟩), .int .i64 l] w fun e w' => ∃ lab' T' its' S' id, e = .returned (.tuple #[.int .i64 id, .bool true]) ∧ SrAt w0 w' lab' sb b ab tb (addAll arn0 0 cs) T' S' cs av us ∧ Sr cs T' its' S' id ∧ T'.now = T.now + 1 ∧ its <+: its' ∧ (Has its' l ∨ Has its (-l)) := by
  obtain ⟨its', hd, hnow, hpre, hhas, hid⟩ := sr_dec hr h6 hl
  have hv := hr.st.vars
  have hL := hr.st.inv.link
  have HPU := Lib.hid (lw_push h.lw (by have := now_eq (T := T); omega))
  have hs1 := hr.st.sim.pushT
  obtain ⟨A, hA⟩ : ∃ A, addAll arn0 0 cs = A := ⟨_, rfl⟩
  rw [hA] at h hd hid hnow HPU ⊢
  obtain ⟨R, hR⟩ : ∃ R, propW A (decT T l) S = R := ⟨_, rfl⟩
  rw [hR] at hid hd hnow
  obtain ⟨R1, R2, r, rfl⟩ : ∃ R1 R2 r, R = (R1, R2, r) := ⟨R.1, R.2.1, R.2.2, rfl⟩
  have hfr : (r.isSome == (r.getD 0 != 0)) = true := by
    cases r with
    | none => rfl
    | some x =>
      have := hid x rfl
      have e : (x != 0) = true := by simp; omega
      show (true == (x != 0)) = true
      rw [e]
      rfl
  have HR := Lib.hid hR
  have HS1 := Lib.hid hs1
  obtain ⟨rs, hrs⟩ : ∃ rs, r.isSome = rs := ⟨_, rfl⟩
  obtain ⟨rg, hrg⟩ : ∃ rg, r.getD 0 = rg := ⟨_, rfl⟩
  rw [hrs, hrg] at hfr
  have HD := Lib.hid (show Sr cs R1 its' R2 rg from by rw [← hrg]; exact hd)
  have HNP := Lib.hid (show R1.now = T.now + 1 ∧ its <+: its' ∧ (Has its' l ∨ Has its (-l)) from ⟨hnow, hpre, hhas⟩)
  have HRS := Lib.hid hrs
  have HRG := Lib.hid hrg
  have HH := Lib.hid h
  obtain ⟨-, d1, -, -⟩ := h.cells
  obtain ⟨z, hz⟩ : ∃ z, T.push.val l = z := ⟨_, rfl⟩
  have HZ := Lib.hid hz
  clear hrs hrg h hs1 hid hz hR hd hnow hpre hhas hA
  go_enter Tryz.func13, Tryz.ntmps13
  go_wp2_with fail
  refine HPU.out.mono ?_
  rintro e w1 ⟨rfl, hn1⟩
  obtain ⟨lab1, h1⟩ := HH.out.next hn1
  have H1 := Lib.hid h1
  obtain ⟨-, d2, -, -⟩ := h1.cells
  have hva := tr_value tb T.push l w1 h1.lw.sys.tr
  rw [HZ.out] at hva
  have HVA := Lib.hid hva
  clear h1 hn1 hva HPU d1
  go_wp2_with fail
  refine HVA.out.mono ?_
  rintro e w2 ⟨rfl, hb2⟩
  have H2 := Lib.hid (H1.out.below hb2)
  obtain ⟨-, d3, d4, -⟩ := H2.out.cells
  clear hb2 HVA H1 d2
  cases hzz : (z == 0) with
  | true =>
    have hz0 : T.push.val l = 0 := by rw [HZ.out]; simpa using hzz
    have herr := free_err (T := T.push) hv hl.1 hl.2 hz0 (r := 0) ⟨by omega, by omega⟩
    have has := lw_assign H2.out.lw l 0 (by have := HS1.out.few hv; omega)
    rw [herr] at has
    have hdd : decT T l = T.push.assigned l 0 := by unfold decT decA; rw [if_pos hz0]
    have HSD := Lib.hid (HS1.out.snoc herr)
    have HDD := Lib.hid hdd
    have HAS := Lib.hid has
    clear has hdd herr hz0 d4
    go_wp2_with fail
    refine HAS.out.mono ?_
    rintro e w3 ⟨rfl, hn3⟩
    obtain ⟨lab3, h3⟩ := H2.out.next hn3
    obtain ⟨-, -, d5, -⟩ := h3.cells
    have hpr := lw_prop h3.lw hL ⟨_, HSD.out⟩ (by rw [assigned_vars]; show T.vars.length ≤ _; omega)
    rw [← HDD.out, HR.out] at hpr
    simp only at hpr
    rw [HRS.out, HRG.out] at hpr
    have HPR := Lib.hid hpr
    have H3 := Lib.hid h3
    clear h3 hn3 hpr HAS d3
    go_wp2_with fail
    refine HPR.out.mono ?_
    rintro e w4 ⟨rfl, hn4⟩
    obtain ⟨lab4, h4⟩ := H3.out.next hn4
    have H4 := Lib.hid h4
    clear h4 hn4 HPR H3 d5
    go_wp2_with fail
    go_ret2
    exact ⟨lab4, R1, its', R2, rg, rfl, H4.out, HD.out, HNP.out⟩
  | false =>
    have hz0 : T.push.val l ≠ 0 := by rw [HZ.out]; simpa using hzz
    have hdd : decT T l = T.push := by unfold decT decA; rw [if_neg hz0]
    have hpr := lw_prop H2.out.lw hL ⟨_, HS1.out⟩ (by show T.vars.length ≤ _; omega)
    rw [← hdd, HR.out] at hpr
    simp only at hpr
    rw [HRS.out, HRG.out] at hpr
    have HPR := Lib.hid hpr
    clear hpr hdd hz0 d3
    go_wp2_with fail
    refine HPR.out.mono ?_
    rintro e w4 ⟨rfl, hn4⟩
    obtain ⟨lab4, h4⟩ := H2.out.next hn4
    have H4 := Lib.hid h4
    clear h4 hn4 HPR d4
    go_wp2_with fail
    go_ret2
    exact ⟨lab4, R1, its', R2, rg, rfl, H4.out, HD.out, HNP.out⟩
end
end Go.Proofs.YtoojmhjagipmdaaGreat
