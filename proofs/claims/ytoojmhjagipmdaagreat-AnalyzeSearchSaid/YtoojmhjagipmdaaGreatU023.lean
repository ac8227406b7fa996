/- Made (package salvorlaw08): a clause of small numbers. salvorlaw08.All: clauses that Made makes. Clauses in blocks of which something is known. What a watch leaves alone; a watch begun; store (package salvorlaw13); going back where nothing changes. -/
import Derived.Test.YtoojmhjagipmdaaGreatU000
import Derived.Test.YtoojmhjagipmdaaGreatU001
import Derived.Test.YtoojmhjagipmdaaGreatU016
import Derived.Test.YtoojmhjagipmdaaGreatU002
import Derived.Test.YtoojmhjagipmdaaGreatU022
import Derived.Test.YtoojmhjagipmdaaGreatU018
namespace Go.Proofs.YtoojmhjagipmdaaGreat
open Go.RowKit

theorem info_lit : (Tryz.prog.info? 32).map (fun i => (i.zero, i.size, i.bytes)) = some (some (.int .i64 0), 1, 8) := by kernel_rfl
/-- the literal of a number -/
def madeLit (x : Int) : Int := if x % 2 = 1 then -(1 + (x % 256 / 2) % 6) else 1 + (x % 256 / 2) % 6
def madeL (xs : List Int) : List Int := (xs.take 6).map madeLit
theorem madeLit_rng (x : Int) : (-6 ≤ madeLit x ∧ madeLit x ≤ 6) ∧ madeLit x ≠ 0 := by
  unfold madeLit
  split <;> omega
theorem i8_rng {x : Int} (h : (Lit.int .i8 x).wf = true) : -128 ≤ x ∧ x ≤ 127 := by
  simp only [Lit.wf, Bool.and_eq_true, decide_eq_true_eq] at h
  exact ⟨h.1, h.2⟩
theorem and_one_fin : ∀ i : Fin 256, bits BinOp.and IntKind.i8 ((i : Nat) - 128 : Int) 1 = (((i : Nat) - 128 : Int)) % 2 := by decide +kernel
theorem and_one {x : Int} (h1 : -128 ≤ x) (h2 : x ≤ 127) : bits BinOp.and IntKind.i8 x 1 = x % 2 := by
  have h := and_one_fin ⟨(x + 128).toNat, by omega⟩
  have e : (((x + 128).toNat : Nat) : Int) - 128 = x := by omega
  simp only [e] at h
  exact h
theorem below_alloc1 (w : World) (o : Obj) : Below w.heap.size w (w.alloc o) := (Below.refl _ _).alloc (Nat.le_refl _) _
set_option maxRecDepth 100000 in
set_option maxHeartbeats 2000000 in
theorem made_long (u : Value) (xs : List Int) (w : World) (h : RowAt .i8 w u xs) (h6 : (6 : Int) < (xs.length : Int)) :
    Calls Tryz.prog 14 #[u] w fun e w' => ∃ v, e = .returned v ∧ w'.ownsRow w.heap.size 32 1 v 6 (((xs.take 6).map madeLit).map (Value.int .i64)) ∧ Below w.heap.size w w' := by
  obtain ⟨i0, hi, hz0, hz1, hz2⟩ := info_parts info_lit
  obtain ⟨A, c, rfl, hc, hmx, hn, hw, hx⟩ := h
  unfold maxLen at hmx
  have HX := Lib.hid hx
  have HW := Lib.hid hw
  clear hx hw hn
  go_enter Tryz.func14, Tryz.ntmps14
  go_wp2_with fail

  go_loopw [3, 13] (fun v i wr => ∃ k : Nat, k ≤ 6 ∧ i = .int .i64 k ∧ Hid (Below w.heap.size w wr) ∧ Hid (wr.ownsRow w.heap.size 32 1 v k (((xs.take k).map madeLit).map (Value.int .i64)))) (fun _ i _ => 6 - (intOf i).toNat)
  case atStart => exact ⟨0, Nat.zero_le _, rfl, Lib.hid (Below.refl _ _), Lib.hid (World.ownsRow_nil _ _ _ _)⟩
  case round =>
    obtain ⟨k, hk, rfl, HB, HR⟩ := hrel
    by_cases hlt : k < 6
    · obtain ⟨x, hxk⟩ := getElem_of (show k < xs.length by omega)
      obtain ⟨g, o, rfl, hg, d0⟩ := HX.out k x hxk
      have d1 := (HB.out.cell (p := ⟨g, o + k, none⟩) hg).trans d0
      have hwx := i8_rng (HW.out x (List.mem_of_getElem? hxk))
      obtain ⟨hx1, hx2⟩ := hwx
      have HXK := Lib.hid hxk
      clear hxk d0
      have hbx := and_one hx1 hx2
      cases hodd : decide (x % 2 = 1) with
      | true =>
        have hq : (bits BinOp.and IntKind.i8 x 1 == 1) = true := by rw [hbx]; simpa using hodd
        have HLX : Hid (madeLit x = -(1 + x % 256 / 2 % 6)) := Lib.hid (by unfold madeLit; rw [if_pos (of_decide_eq_true hodd)])
        clear hbx hodd
        go_wp2_with (at_builtin; refine wpList_append_own_at _ rfl _ _ 34 rfl w.heap.size 32 i0 (.int .i64 0) 1 8 Tryz.underlying34 hi hz0 hz1 hz2 rfl (by decide) _ k _ rfl (own_below HR.out (below_alloc1 wr _)) ⟨wr.heap.size, 0, none⟩ 1 1 [.int .i64 (-(1 + x % 256 / 2 % 6))] rfl rfl (cell_one_new' _ _ _) (by simp [Value.oneCell']) (by unfold maxLen; omega) (by omega) (by have := HB.out.size; simp; omega) ?_; intro v' w1 hown hgrow hnl hat)
        obtain ⟨Av, kv, rfl, _⟩ := mx_slice hown
        have hb1 : Below w.heap.size w w1 := (HB.out.trans ((below_alloc1 wr (.cells #[.int .i64 (-(1 + x % 256 / 2 % 6))] 32)).mono HB.out.size)).grown hgrow (by have := HB.out.size; simp; omega) (fun g hg => (own_lt HR.out g hg).1)
        have htk : ((xs.take (k + 1)).map madeLit).map (Value.int .i64) = ((xs.take k).map madeLit).map (Value.int .i64) ++ [.int .i64 (-(1 + x % 256 / 2 % 6))] := by
          rw [List.take_add_one, HXK.out, ← HLX.out]
          simp
        have HO := Lib.hid hown
        have HB1 := Lib.hid hb1
        have HTK := Lib.hid htk
        clear hown hgrow hnl hat hb1 htk
        go_wp2
        go_roundw
        case rel => exact ⟨k + 1, by omega, by go_num, HB1, Lib.hid (by rw [HTK.out]; exact HO.out)⟩
        case measure => simp [intOf]; omega
      | false =>
        have hq : (bits BinOp.and IntKind.i8 x 1 == 1) = false := by rw [hbx]; simpa using hodd
        have HLX : Hid (madeLit x = 1 + x % 256 / 2 % 6) := Lib.hid (by unfold madeLit; rw [if_neg (of_decide_eq_false hodd)])
        clear hbx hodd
        go_wp2_with (at_builtin; refine wpList_append_own_at _ rfl _ _ 34 rfl w.heap.size 32 i0 (.int .i64 0) 1 8 Tryz.underlying34 hi hz0 hz1 hz2 rfl (by decide) _ k _ rfl (own_below HR.out (below_alloc1 wr _)) ⟨wr.heap.size, 0, none⟩ 1 1 [.int .i64 (1 + x % 256 / 2 % 6)] rfl rfl (cell_one_new' _ _ _) (by simp [Value.oneCell']) (by unfold maxLen; omega) (by omega) (by have := HB.out.size; simp; omega) ?_; intro v' w1 hown hgrow hnl hat)
        obtain ⟨Av, kv, rfl, _⟩ := mx_slice hown
        have hb1 : Below w.heap.size w w1 := (HB.out.trans ((below_alloc1 wr (.cells #[.int .i64 (1 + x % 256 / 2 % 6)] 32)).mono HB.out.size)).grown hgrow (by have := HB.out.size; simp; omega) (fun g hg => (own_lt HR.out g hg).1)
        have htk : ((xs.take (k + 1)).map madeLit).map (Value.int .i64) = ((xs.take k).map madeLit).map (Value.int .i64) ++ [.int .i64 (1 + x % 256 / 2 % 6)] := by
          rw [List.take_add_one, HXK.out, ← HLX.out]
          simp
        have HO := Lib.hid hown
        have HB1 := Lib.hid hb1
        have HTK := Lib.hid htk
        clear hown hgrow hnl hat hb1 htk
        go_wp2
        go_roundw
        case rel => exact ⟨k + 1, by omega, by go_num, HB1, Lib.hid (by rw [HTK.out]; exact HO.out)⟩
        case measure => simp [intOf]; omega
    · obtain rfl : k = 6 := by omega
      go_wp2_with fail
      go_ret
      exact ⟨_, rfl, HR.out, HB.out⟩
set_option maxRecDepth 100000 in
set_option maxHeartbeats 2000000 in
theorem made_short (u : Value) (xs : List Int) (w : World) (h : RowAt .i8 w u xs) (h6 : (xs.length : Int) ≤ 6) :
    Calls Tryz.prog 14 #[u] w fun e w' => ∃ v, e = .returned v ∧ w'.ownsRow w.heap.size 32 1 v xs.length (((xs.take xs.length).map madeLit).map (Value.int .i64)) ∧ Below w.heap.size w w' := by
  obtain ⟨i0, hi, hz0, hz1, hz2⟩ := info_parts info_lit
  obtain ⟨A, c, rfl, hc, hmx, hn, hw, hx⟩ := h
  unfold maxLen at hmx
  have HX := Lib.hid hx
  have HW := Lib.hid hw
  clear hx hw hn
  go_enter Tryz.func14, Tryz.ntmps14
  go_wp2_with fail

  go_loopw [3, 13] (fun v i wr => ∃ k : Nat, k ≤ xs.length ∧ i = .int .i64 k ∧ Hid (Below w.heap.size w wr) ∧ Hid (wr.ownsRow w.heap.size 32 1 v k (((xs.take k).map madeLit).map (Value.int .i64)))) (fun _ i _ => xs.length - (intOf i).toNat)
  case atStart => exact ⟨0, Nat.zero_le _, rfl, Lib.hid (Below.refl _ _), Lib.hid (World.ownsRow_nil _ _ _ _)⟩
  case round =>
    obtain ⟨k, hk, rfl, HB, HR⟩ := hrel
    by_cases hlt : k < xs.length
    · obtain ⟨x, hxk⟩ := getElem_of (show k < xs.length by omega)
      obtain ⟨g, o, rfl, hg, d0⟩ := HX.out k x hxk
      have d1 := (HB.out.cell (p := ⟨g, o + k, none⟩) hg).trans d0
      have hwx := i8_rng (HW.out x (List.mem_of_getElem? hxk))
      obtain ⟨hx1, hx2⟩ := hwx
      have HXK := Lib.hid hxk
      clear hxk d0
      have hbx := and_one hx1 hx2
      cases hodd : decide (x % 2 = 1) with
      | true =>
        have hq : (bits BinOp.and IntKind.i8 x 1 == 1) = true := by rw [hbx]; simpa using hodd
        have HLX : Hid (madeLit x = -(1 + x % 256 / 2 % 6)) := Lib.hid (by unfold madeLit; rw [if_pos (of_decide_eq_true hodd)])
        clear hbx hodd
        go_wp2_with (at_builtin; refine wpList_append_own_at _ rfl _ _ 34 rfl w.heap.size 32 i0 (.int .i64 0) 1 8 Tryz.underlying34 hi hz0 hz1 hz2 rfl (by decide) _ k _ rfl (own_below HR.out (below_alloc1 wr _)) ⟨wr.heap.size, 0, none⟩ 1 1 [.int .i64 (-(1 + x % 256 / 2 % 6))] rfl rfl (cell_one_new' _ _ _) (by simp [Value.oneCell']) (by unfold maxLen; omega) (by omega) (by have := HB.out.size; simp; omega) ?_; intro v' w1 hown hgrow hnl hat)
        obtain ⟨Av, kv, rfl, _⟩ := mx_slice hown
        have hb1 : Below w.heap.size w w1 := (HB.out.trans ((below_alloc1 wr (.cells #[.int .i64 (-(1 + x % 256 / 2 % 6))] 32)).mono HB.out.size)).grown hgrow (by have := HB.out.size; simp; omega) (fun g hg => (own_lt HR.out g hg).1)
        have htk : ((xs.take (k + 1)).map madeLit).map (Value.int .i64) = ((xs.take k).map madeLit).map (Value.int .i64) ++ [.int .i64 (-(1 + x % 256 / 2 % 6))] := by
          rw [List.take_add_one, HXK.out, ← HLX.out]
          simp
        have HO := Lib.hid hown
        have HB1 := Lib.hid hb1
        have HTK := Lib.hid htk
        clear hown hgrow hnl hat hb1 htk
        go_wp2
        go_roundw
        case rel => exact ⟨k + 1, by omega, by go_num, HB1, Lib.hid (by rw [HTK.out]; exact HO.out)⟩
        case measure => simp [intOf]; omega
      | false =>
        have hq : (bits BinOp.and IntKind.i8 x 1 == 1) = false := by rw [hbx]; simpa using hodd
        have HLX : Hid (madeLit x = 1 + x % 256 / 2 % 6) := Lib.hid (by unfold madeLit; rw [if_neg (of_decide_eq_false hodd)])
        clear hbx hodd
        go_wp2_with (at_builtin; refine wpList_append_own_at _ rfl _ _ 34 rfl w.heap.size 32 i0 (.int .i64 0) 1 8 Tryz.underlying34 hi hz0 hz1 hz2 rfl (by decide) _ k _ rfl (own_below HR.out (below_alloc1 wr _)) ⟨wr.heap.size, 0, none⟩ 1 1 [.int .i64 (1 + x % 256 / 2 % 6)] rfl rfl (cell_one_new' _ _ _) (by simp [Value.oneCell']) (by unfold maxLen; omega) (by omega) (by have := HB.out.size; simp; omega) ?_; intro v' w1 hown hgrow hnl hat)
        obtain ⟨Av, kv, rfl, _⟩ := mx_slice hown
        have hb1 : Below w.heap.size w w1 := (HB.out.trans ((below_alloc1 wr (.cells #[.int .i64 (1 + x % 256 / 2 % 6)] 32)).mono HB.out.size)).grown hgrow (by have := HB.out.size; simp; omega) (fun g hg => (own_lt HR.out g hg).1)
        have htk : ((xs.take (k + 1)).map madeLit).map (Value.int .i64) = ((xs.take k).map madeLit).map (Value.int .i64) ++ [.int .i64 (1 + x % 256 / 2 % 6)] := by
          rw [List.take_add_one, HXK.out, ← HLX.out]
          simp
        have HO := Lib.hid hown
        have HB1 := Lib.hid hb1
        have HTK := Lib.hid htk
        clear hown hgrow hnl hat hb1 htk
        go_wp2
        go_roundw
        case rel => exact ⟨k + 1, by omega, by go_num, HB1, Lib.hid (by rw [HTK.out]; exact HO.out)⟩
        case measure => simp [intOf]; omega
    · obtain rfl : k = xs.length := by omega
      go_wp2_with fail
      go_ret
      exact ⟨_, rfl, HR.out, HB.out⟩
theorem made_any (u : Value) (xs : List Int) (w : World) (h : RowAt .i8 w u xs) :
    Calls Tryz.prog 14 #[u] w fun e w' => ∃ v, e = .returned v ∧ w'.ownsRow w.heap.size 32 1 v (madeL xs).length ((madeL xs).map (Value.int .i64)) ∧ Below w.heap.size w w' := by
  by_cases h6 : 6 < xs.length
  · have e : (madeL xs).length = 6 := by simp [madeL]; omega
    rw [e]
    exact made_long u xs w h (by omega)
  · have e : madeL xs = (xs.take xs.length).map madeLit := by unfold madeL; rw [List.take_of_length_le (by omega), List.take_length]
    rw [e]
    have := made_short u xs w h (by omega)
    rwa [show ((xs.take xs.length).map madeLit).length = xs.length by simp]
end Go.Proofs.YtoojmhjagipmdaaGreat
namespace Go.Proofs.YtoojmhjagipmdaaGreat
open Go.RowKit

/-- clauses in rows of their own -/
def ClsOwn (n : Nat) (w : World) (v : Value) (cs : List (List Int)) : Prop :=
  ∃ us : List Value, w.ownsRow n 34 1 v cs.length us ∧ ∀ (i : Nat) (xs : List Int), cs[i]? = some xs → ∃ u, us[i]? = some u ∧ w.ownsRow n 32 1 u xs.length (xs.map (Value.int .i64))
theorem ClsOwn.below {n : Nat} {w w' : World} {v : Value} {cs : List (List Int)} (h : ClsOwn n w v cs) (hb : Below w.heap.size w w') : ClsOwn n w' v cs := by
  obtain ⟨us, h1, h2⟩ := h
  refine ⟨us, own_below h1 hb, fun i xs hi => ?_⟩
  obtain ⟨u, hu, ho⟩ := h2 i xs hi
  exact ⟨u, hu, own_below ho hb⟩
theorem ClsOwn.mono {n m : Nat} {w : World} {v : Value} {cs : List (List Int)} (h : ClsOwn n w v cs) (hm : m ≤ n) : ClsOwn m w v cs := by
  obtain ⟨us, h1, h2⟩ := h
  refine ⟨us, own_mono h1 hm, fun i xs hi => ?_⟩
  obtain ⟨u, hu, ho⟩ := h2 i xs hi
  exact ⟨u, hu, own_mono ho hm⟩
theorem ClsOwn.cls {n : Nat} {w : World} {v : Value} {cs : List (List Int)} (h : ClsOwn n w v cs) : ClsAt w v cs := by
  obtain ⟨us, h1, h2⟩ := h
  obtain ⟨A, c, rfl, _⟩ := mx_slice h1
  refine ⟨A, c, rfl, fun i xs hi => ?_⟩
  obtain ⟨u, hu, ho⟩ := h2 i xs hi
  have hil := (List.getElem?_eq_some_iff.1 hi).1
  obtain ⟨g, c', cs', hv, _, _, hg, _⟩ := mx_some h1 (by omega)
  simp only [Value.slice.injEq] at hv
  obtain ⟨rfl, _, rfl⟩ := hv
  exact ⟨g, 0, u, rfl, hg, by rw [Nat.zero_add]; exact mx_at h1 hu, (IntsIn.of_own ho).mono (fun g hg => (own_lt ho g hg.2).2)⟩
theorem info_cls : (Tryz.prog.info? 34).map (fun i => (i.zero, i.size, i.bytes)) = some (some (.slice none 0 0), 1, 24) := by kernel_rfl
/-- one more clause -/
theorem ClsOwn.push {n : Nat} {w w1 w2 : World} {v v' u : Value} {cs : List (List Int)} {xs : List Int} {us : List Value} (h1 : w.ownsRow n 34 1 v cs.length us) (h2 : ∀ (i : Nat) (xs : List Int), cs[i]? = some xs → ∃ u, us[i]? = some u ∧ w.ownsRow n 32 1 u xs.length (xs.map (Value.int .i64)))
    (hb : Below w.heap.size w w1) (hu : w1.ownsRow n 32 1 u xs.length (xs.map (Value.int .i64))) (hg : w1.grownBy w2 v.ownBlock) (ho : w2.ownsRow n 34 1 v' (cs.length + 1) (us ++ [u])) : ClsOwn n w2 v' (cs ++ [xs]) := by
  have hlu : us.length = cs.length := by
    have := h1.1
    omega
  have hk : ∀ {u : Value} {ys : List Int}, w1.ownsRow n 32 1 u ys.length (ys.map (Value.int .i64)) → w2.ownsRow n 32 1 u ys.length (ys.map (Value.int .i64)) := fun hu => own_kept hu (Kept.grown hg) (fun g hg e => mx_apart hu (own_below h1 hb) (by decide) hg e.symm)
  refine ⟨us ++ [u], by rw [List.length_append]; exact ho, fun i ys hi => ?_⟩
  by_cases hil : i < cs.length
  · rw [List.getElem?_append_left hil] at hi
    obtain ⟨z, hz, hzo⟩ := h2 i ys hi
    exact ⟨z, by rw [List.getElem?_append_left (by omega)]; exact hz, hk (own_below hzo hb)⟩
  · have hi2 := (List.getElem?_eq_some_iff.1 hi).1
    rw [List.length_append, List.length_singleton] at hi2
    obtain rfl : i = cs.length := by omega
    rw [List.getElem?_append_right (Nat.le_refl _), Nat.sub_self, List.getElem?_cons_zero] at hi
    obtain rfl := Option.some.inj hi
    refine ⟨u, ?_, hk hu⟩
    rw [List.getElem?_append_right (by omega), hlu, Nat.sub_self, List.getElem?_cons_zero]
set_option maxRecDepth 100000 in
set_option maxHeartbeats 4000000 in
theorem all_min_a (u : Value) (xss : List (List Int)) (m : Nat) (w : World) (h : RowsAt .i8 w u xss) (hlt0 : m < xss.length) (hm : m ≤ 1000) :
    Calls Tryz.prog 12 #[u, .int .i64 (m : Int)] w fun e w' => ∃ v, e = .returned v ∧ ClsOwn w.heap.size w' v ((xss.take m).map madeL) ∧ Below w.heap.size w w' := by
  have hN : min (xss.length : Int) (m : Int) = (m : Int) := by omega
  have hNl : m ≤ xss.length := by omega
  have hNm : m ≤ m := Nat.le_refl _
  have hltd : decide ((m : Int) < (xss.length : Int)) = true := by simpa using hlt0
  obtain ⟨i0, hi, hz0, hz1, hz2⟩ := info_parts info_cls
  have HR0 := Lib.hid h
  obtain ⟨A, c, rfl, hc, hmx, hn, hx⟩ := h
  unfold maxLen at hmx
  have hNc : m ≤ c := by omega
  have hNc2 : (m : Int) ≤ (c : Int) := by omega
  clear hx hn
  go_enter Tryz.func12, Tryz.ntmps12
  go_wp2_with fail
  go_loopw [5, 15] (fun v i wr => ∃ k : Nat, k ≤ m ∧ i = .int .i64 k ∧ Hid (Below w.heap.size w wr) ∧ Hid (ClsOwn w.heap.size wr v ((xss.take k).map madeL))) (fun _ i _ => m - (intOf i).toNat)
  case atStart => exact ⟨0, Nat.zero_le _, rfl, Lib.hid (Below.refl _ _), Lib.hid ⟨[], World.ownsRow_nil _ _ _ _, fun i xs h => by simp at h⟩⟩
  case round =>
    obtain ⟨k, hk, rfl, HB, HR⟩ := hrel
    by_cases hlt : k < m
    · have hq : decide ((k : Int) < (m : Int)) = true := by simpa using hlt
      have hq2 : decide (k < m) = true := by simpa using hlt
      obtain ⟨x, hxk⟩ := getElem_of (show k < xss.length by omega)
      have hrow : ∃ g o u, A = some ⟨g, o, none⟩ ∧ g < w.heap.size ∧ w.cell? ⟨g, o + k, none⟩ = some u ∧ RowAt .i8 w u x := by
        obtain ⟨A', c', hv, _, _, _, hx⟩ := HR0.out
        simp only [Value.slice.injEq] at hv
        obtain ⟨rfl, _, rfl⟩ := hv
        exact hx k x hxk
      obtain ⟨g, o, u, rfl, hg, d0, hu⟩ := hrow
      have d1 := (HB.out.cell (p := ⟨g, o + k, none⟩) hg).trans d0
      have HM := Lib.hid (made_any u x wr (hu.below (HB.out)))
      obtain ⟨us, h1, h2⟩ := HR.out
      have hlk : ((xss.take k).map madeL).length = k := by rw [List.length_map, List.length_take]; omega
      have HUS := Lib.hid h1
      have HU2 := Lib.hid h2
      have HLK := Lib.hid hlk
      rw [hlk] at h1
      obtain ⟨Ao, co, rfl, _⟩ := mx_slice h1
      have HO1 := Lib.hid h1
      have HTK := Lib.hid (show (xss.take (k + 1)).map madeL = (xss.take k).map madeL ++ [madeL x] from by
        rw [List.take_add_one, hxk]
        simp)
      clear h1 h2 hlk hxk d0 hu
      go_wp2_with fail
      refine HM.out.mono ?_
      rintro e w1 ⟨vx, rfl, hox, hb1⟩
      obtain ⟨Ax, cx, rfl, _⟩ := mx_slice hox
      have HOX := Lib.hid hox
      have HB1 := Lib.hid hb1
      have hwz := HB.out.size
      have hwz1 := hb1.size
      clear hox hb1 d1
      go_wp2_with (at_builtin; refine wpList_append_own_at _ rfl _ _ 28 rfl w.heap.size 34 i0 (.slice none 0 0) 1 24 Tryz.underlying28 hi hz0 hz1 hz2 rfl (by decide) _ k _ rfl (own_below (own_below HO1.out HB1.out) (below_alloc1 w1 _)) ⟨w1.heap.size, 0, none⟩ 1 1 [.slice Ax (madeL x).length cx] rfl rfl (cell_one_new' _ _ _) (by simp [Value.oneCell']) (by unfold maxLen; omega) (by omega) (by simp; omega) ?_; intro v' w2 hown hgrow hnl hat)
      have hb2 : Below wr.heap.size wr (w1.alloc (.cells #[.slice Ax (madeL x).length cx] 34)) := HB1.out.trans ((below_alloc1 w1 _).mono hwz1)
      have hpush := ClsOwn.push HUS.out HU2.out hb2 (own_below (own_mono HOX.out hwz) (below_alloc1 w1 _)) hgrow (by rw [HLK.out]; exact hown)
      rw [← HTK.out] at hpush
      have HP := Lib.hid hpush
      have HB2 := Lib.hid ((HB.out.trans (hb2.mono hwz)).grown hgrow (by simp; omega) (fun g hg => (own_lt HO1.out g hg).1))
      clear hown hgrow hnl hat hb2 hpush
      go_wp2
      go_roundw
      case rel => exact ⟨k + 1, by omega, by go_num, HB2, HP⟩
      case measure => simp [intOf]; omega
    · have hq : decide ((k : Int) < (m : Int)) = false := by simpa using hlt
      have hq2 : decide (k < m) = false := by simpa using hlt
      obtain rfl : k = m := by omega
      go_wp2_with fail
      go_ret
      exact ⟨_, rfl, HR.out, HB.out⟩
set_option maxRecDepth 100000 in
set_option maxHeartbeats 4000000 in
theorem all_min_b (u : Value) (xss : List (List Int)) (m : Nat) (w : World) (h : RowsAt .i8 w u xss) (hlt0 : ¬ m < xss.length) (hm : m ≤ 1000) :
    Calls Tryz.prog 12 #[u, .int .i64 (m : Int)] w fun e w' => ∃ v, e = .returned v ∧ ClsOwn w.heap.size w' v ((xss.take xss.length).map madeL) ∧ Below w.heap.size w w' := by
  have hN : min (xss.length : Int) (m : Int) = (xss.length : Int) := by omega
  have hNl : xss.length ≤ xss.length := Nat.le_refl _
  have hNm : xss.length ≤ m := by omega
  have hltd : decide ((m : Int) < (xss.length : Int)) = false := by simpa using hlt0
  obtain ⟨i0, hi, hz0, hz1, hz2⟩ := info_parts info_cls
  have HR0 := Lib.hid h
  obtain ⟨A, c, rfl, hc, hmx, hn, hx⟩ := h
  unfold maxLen at hmx
  have hNc : xss.length ≤ c := by omega
  have hNc2 : (xss.length : Int) ≤ (c : Int) := by omega
  clear hx hn
  go_enter Tryz.func12, Tryz.ntmps12
  go_wp2_with fail
  go_loopw [5, 15] (fun v i wr => ∃ k : Nat, k ≤ xss.length ∧ i = .int .i64 k ∧ Hid (Below w.heap.size w wr) ∧ Hid (ClsOwn w.heap.size wr v ((xss.take k).map madeL))) (fun _ i _ => xss.length - (intOf i).toNat)
  case atStart => exact ⟨0, Nat.zero_le _, rfl, Lib.hid (Below.refl _ _), Lib.hid ⟨[], World.ownsRow_nil _ _ _ _, fun i xs h => by simp at h⟩⟩
  case round =>
    obtain ⟨k, hk, rfl, HB, HR⟩ := hrel
    by_cases hlt : k < xss.length
    · have hq : decide ((k : Int) < (xss.length : Int)) = true := by simpa using hlt
      have hq2 : decide (k < xss.length) = true := by simpa using hlt
      obtain ⟨x, hxk⟩ := getElem_of (show k < xss.length by omega)
      have hrow : ∃ g o u, A = some ⟨g, o, none⟩ ∧ g < w.heap.size ∧ w.cell? ⟨g, o + k, none⟩ = some u ∧ RowAt .i8 w u x := by
        obtain ⟨A', c', hv, _, _, _, hx⟩ := HR0.out
        simp only [Value.slice.injEq] at hv
        obtain ⟨rfl, _, rfl⟩ := hv
        exact hx k x hxk
      obtain ⟨g, o, u, rfl, hg, d0, hu⟩ := hrow
      have d1 := (HB.out.cell (p := ⟨g, o + k, none⟩) hg).trans d0
      have HM := Lib.hid (made_any u x wr (hu.below (HB.out)))
      obtain ⟨us, h1, h2⟩ := HR.out
      have hlk : ((xss.take k).map madeL).length = k := by rw [List.length_map, List.length_take]; omega
      have HUS := Lib.hid h1
      have HU2 := Lib.hid h2
      have HLK := Lib.hid hlk
      rw [hlk] at h1
      obtain ⟨Ao, co, rfl, _⟩ := mx_slice h1
      have HO1 := Lib.hid h1
      have HTK := Lib.hid (show (xss.take (k + 1)).map madeL = (xss.take k).map madeL ++ [madeL x] from by
        rw [List.take_add_one, hxk]
        simp)
      clear h1 h2 hlk hxk d0 hu
      go_wp2_with fail
      refine HM.out.mono ?_
      rintro e w1 ⟨vx, rfl, hox, hb1⟩
      obtain ⟨Ax, cx, rfl, _⟩ := mx_slice hox
      have HOX := Lib.hid hox
      have HB1 := Lib.hid hb1
      have hwz := HB.out.size
      have hwz1 := hb1.size
      clear hox hb1 d1
      go_wp2_with (at_builtin; refine wpList_append_own_at _ rfl _ _ 28 rfl w.heap.size 34 i0 (.slice none 0 0) 1 24 Tryz.underlying28 hi hz0 hz1 hz2 rfl (by decide) _ k _ rfl (own_below (own_below HO1.out HB1.out) (below_alloc1 w1 _)) ⟨w1.heap.size, 0, none⟩ 1 1 [.slice Ax (madeL x).length cx] rfl rfl (cell_one_new' _ _ _) (by simp [Value.oneCell']) (by unfold maxLen; omega) (by omega) (by simp; omega) ?_; intro v' w2 hown hgrow hnl hat)
      have hb2 : Below wr.heap.size wr (w1.alloc (.cells #[.slice Ax (madeL x).length cx] 34)) := HB1.out.trans ((below_alloc1 w1 _).mono hwz1)
      have hpush := ClsOwn.push HUS.out HU2.out hb2 (own_below (own_mono HOX.out hwz) (below_alloc1 w1 _)) hgrow (by rw [HLK.out]; exact hown)
      rw [← HTK.out] at hpush
      have HP := Lib.hid hpush
      have HB2 := Lib.hid ((HB.out.trans (hb2.mono hwz)).grown hgrow (by simp; omega) (fun g hg => (own_lt HO1.out g hg).1))
      clear hown hgrow hnl hat hb2 hpush
      go_wp2
      go_roundw
      case rel => exact ⟨k + 1, by omega, by go_num, HB2, HP⟩
      case measure => simp [intOf]; omega
    · have hq : decide ((k : Int) < (xss.length : Int)) = false := by simpa using hlt
      have hq2 : decide (k < xss.length) = false := by simpa using hlt
      obtain rfl : k = xss.length := by omega
      go_wp2_with fail
      go_ret
      exact ⟨_, rfl, HR.out, HB.out⟩
theorem all_any (u : Value) (xss : List (List Int)) (m : Nat) (w : World) (h : RowsAt .i8 w u xss) (hm : m ≤ 1000) :
    Calls Tryz.prog 12 #[u, .int .i64 (m : Int)] w fun e w' => ∃ v, e = .returned v ∧ ClsOwn w.heap.size w' v ((xss.take m).map madeL) ∧ Below w.heap.size w w' := by
  by_cases hlt : m < xss.length
  · exact all_min_a u xss m w h hlt hm
  · have := all_min_b u xss m w h hlt hm
    rwa [List.take_length, show xss.map madeL = (xss.take m).map madeL from by rw [List.take_of_length_le (by omega)]] at this
end Go.Proofs.YtoojmhjagipmdaaGreat
namespace Go.Proofs.YtoojmhjagipmdaaGreat
open Go.RowKit

/-- clauses in blocks of which something is known -/
def ClsIn (O : Nat → Prop) (w : World) (v : Value) (cs : List (List Int)) : Prop :=
  ∃ A c, v = .slice A cs.length c ∧ cs.length ≤ c ∧ (A = none → c = 0) ∧ ∀ i xs, cs[i]? = some xs → ∃ g o u, A = some ⟨g, o, none⟩ ∧ g < w.heap.size ∧ O g ∧ w.cell? ⟨g, o + i, none⟩ = some u ∧ IntsIn O w u xs
theorem ClsIn.kept {O O' : Nat → Prop} {w w' : World} {v : Value} {cs : List (List Int)} (h : ClsIn O w v cs) (k : Kept O' w w') (hO : ∀ g, O g → ¬ O' g) : ClsIn O w' v cs := by
  obtain ⟨A, c, hv, hc, hn, hx⟩ := h
  refine ⟨A, c, hv, hc, hn, fun i xs hi => ?_⟩
  obtain ⟨g, o, u, h1, h2, h3, h4, h5⟩ := hx i xs hi
  exact ⟨g, o, u, h1, Nat.lt_of_lt_of_le h2 k.size, h3, (k.cell (p := ⟨g, o + i, none⟩) h2 (hO g h3)).trans h4, h5.kept k hO⟩
theorem ClsIn.below {O : Nat → Prop} {w w' : World} {v : Value} {cs : List (List Int)} (h : ClsIn O w v cs) (k : Below w.heap.size w w') : ClsIn O w' v cs :=
  h.kept (O' := fun _ => False) (Kept.of_below k) (fun _ _ h => h)
theorem ClsIn.mono {O O' : Nat → Prop} {w : World} {v : Value} {cs : List (List Int)} (h : ClsIn O w v cs) (hO : ∀ g, O g → O' g) : ClsIn O' w v cs := by
  obtain ⟨A, c, hv, hc, hn, hx⟩ := h
  refine ⟨A, c, hv, hc, hn, fun i xs hi => ?_⟩
  obtain ⟨g, o, u, h1, h2, h3, h4, h5⟩ := hx i xs hi
  exact ⟨g, o, u, h1, h2, hO g h3, h4, h5.mono hO⟩
theorem ClsIn.lt {O : Nat → Prop} {w : World} {v : Value} {cs : List (List Int)} (h : ClsIn O w v cs) : ClsIn (fun g => O g ∧ g < w.heap.size) w v cs := by
  obtain ⟨A, c, hv, hc, hn, hx⟩ := h
  refine ⟨A, c, hv, hc, hn, fun i xs hi => ?_⟩
  obtain ⟨g, o, u, h1, h2, h3, h4, h5⟩ := hx i xs hi
  exact ⟨g, o, u, h1, h2, ⟨h3, h2⟩, h4, h5.lt⟩
theorem ClsOwn.clsIn {n : Nat} {w : World} {v : Value} {cs : List (List Int)} (h : ClsOwn n w v cs) : ClsIn (fun g => n ≤ g) w v cs := by
  obtain ⟨us, h1, h2⟩ := h
  rcases h1.2 with ⟨rfl, h0⟩ | ⟨g, cap, cur, rfl, hb, hg, hle, _⟩
  · exact ⟨none, 0, by rw [h0], by omega, fun _ => rfl, fun i xs hi => by
      have := (List.getElem?_eq_some_iff.1 hi).1
      omega⟩
  · refine ⟨_, cap, rfl, hle, (fun h => by cases h), fun i xs hi => ?_⟩
    obtain ⟨u, hu, ho⟩ := h2 i xs hi
    exact ⟨g, 0, u, rfl, heap_lt hg, hb, by rw [Nat.zero_add]; exact mx_at h1 hu, (IntsIn.of_own ho).mono (fun g hg => (own_lt ho g hg.2).1)⟩
/-- the values of the clauses of a slice -/
theorem ClsIn.src {O : Nat → Prop} {w : World} {v : Value} {cs : List (List Int)} (h : ClsIn O w v cs) : ∃ us : List Value, us.length = cs.length ∧ SrcAt w v cs.length us ∧ (∀ z ∈ us, z.oneCell' = true) ∧ ∀ (i : Nat) (xs : List Int), cs[i]? = some xs → ∃ u, us[i]? = some u ∧ IntsIn O w u xs := by
  obtain ⟨A, c, rfl, hc, hn, hx⟩ := h
  cases A with
  | none =>
    have h0 := hn rfl
    have h1 : cs = [] := List.eq_nil_of_length_eq_zero (by omega)
    subst h1
    subst h0
    exact ⟨[], rfl, .inl ⟨rfl, rfl, rfl⟩, (fun z hz => by cases hz), fun i xs hi => by simp at hi⟩
  | some a =>
    obtain ⟨ga, oa, fa⟩ := a
    have key : ∀ i, i < cs.length → ∃ u xs, cs[i]? = some xs ∧ fa = none ∧ w.cell? ⟨ga, oa + i, none⟩ = some u ∧ IntsIn O w u xs := fun i hi => by
      obtain ⟨xs, hxs⟩ := getElem_of hi
      obtain ⟨g, o, u, h1, _, _, h4, h5⟩ := hx i xs hxs
      cases h1
      exact ⟨u, xs, hxs, rfl, h4, h5⟩
    refine ⟨(List.range cs.length).map (fun i => (w.cell? ⟨ga, oa + i, none⟩).getD undef), by simp, .inr ⟨_, c, rfl, fun j u hj => ?_⟩, fun z hz => ?_, fun i xs hi => ?_⟩
    · have hjl : j < cs.length := by
        have := (List.getElem?_eq_some_iff.1 hj).1
        simpa using this
      rw [List.getElem?_map, List.getElem?_range hjl] at hj
      obtain ⟨u', xs, _, rfl, h4, _⟩ := key j hjl
      rw [addr_add2]
      simp only [Option.map_some, h4, Option.getD_some, Option.some.injEq] at hj
      rw [h4, hj]
    · obtain ⟨i, hi, rfl⟩ := List.mem_map.1 hz
      obtain ⟨u', xs, _, rfl, h4, h5⟩ := key i (List.mem_range.1 hi)
      rw [h4]
      obtain ⟨A', c', h, _⟩ := h5
      rw [h]
      rfl
    · have hil := (List.getElem?_eq_some_iff.1 hi).1
      obtain ⟨u', xs', h1, rfl, h4, h5⟩ := key i hil
      rw [hi] at h1
      obtain rfl := Option.some.inj h1
      refine ⟨u', ?_, h5⟩
      rw [List.getElem?_map, List.getElem?_range hil]
      simp [h4]
end Go.Proofs.YtoojmhjagipmdaaGreat
namespace Go.Proofs.YtoojmhjagipmdaaGreat
open Go.RowKit Go.Maps Go.Shelf

/-- blocks that no label is laid on -/
def Fr (w : World) (lab : Nat → Nat) (g : Nat) : Prop := g < w.heap.size ∧ lab g = 0
section
variable {w w' : World} {lab lab' : Nat → Nat} {b ab tb N : Nat} {A : Arn} {T : Trl} {S : Wst} {v : Value} {xs : List Int} {cs : List (List Int)}
theorem Fr.next {g : Nat} (h : Fr w lab g) (k : Labs lab lab' w w') : Fr w' lab' g := ⟨Nat.lt_of_lt_of_le h.1 k.kept.size, (k.same g h.1).trans h.2⟩
theorem IntsIn.next (h : IntsIn (Fr w lab) w v xs) (k : Labs lab lab' w w') : IntsIn (Fr w' lab') w' v xs :=
  (h.kept k.kept (fun _ hg e => e hg.2)).mono (fun _ hg => hg.next k)
theorem ClsIn.next (h : ClsIn (Fr w lab) w v cs) (k : Labs lab lab' w w') : ClsIn (Fr w' lab') w' v cs :=
  (h.kept k.kept (fun _ hg e => e hg.2)).mono (fun _ hg => hg.next k)
theorem ClsIn.at {O : Nat → Prop} (h : ClsIn O w v cs) : ClsAt w v cs := by
  obtain ⟨A, c, hv, _, _, hx⟩ := h
  refine ⟨A, c, hv, fun i xs hi => ?_⟩
  obtain ⟨g, o, u, h1, h2, _, h4, h5⟩ := hx i xs hi
  exact ⟨g, o, u, h1, h2, h4, h5.lt.mono (fun _ hg => hg.2)⟩
/-- labels stay above -/
theorem Labs.ge (k : Labs lab lab' w w') (h : ∀ g, lab g ≠ 0 → N ≤ g) (hN : N ≤ w.heap.size) : ∀ g, lab' g ≠ 0 → N ≤ g := fun g hg => Classical.byContradiction fun e => by
  have h1 := k.same g (by omega)
  rw [h1] at hg
  exact e (h g hg)
theorem Labs.below (k : Labs lab lab' w w') (h : ∀ g, lab g ≠ 0 → N ≤ g) (hN : N ≤ w.heap.size) : Below N w w' := k.kept.below h hN
theorem sys_new {x : Nat} (h : PutAt N w ab tb A T) (hx : x = w.heap.size) : ∃ lab, SysAt (((w.alloc (.map #[] 0)).alloc (.map #[] 0)).alloc (.cells #[.pointer (some ⟨ab, 0, none⟩), .pointer (some ⟨tb, 0, none⟩), .map (some x), .map (some (x + 1)), .int .i64 0] 157)) lab (x + 2) ab tb A T ⟨[], [], 0⟩ ∧ (∀ g, lab g ≠ 0 → N ≤ g) := by
  subst hx
  obtain ⟨h0, OA, OT, h1, h2, h3, h4, h5⟩ := h
  have hoA := h1.own
  have hoT := h2.own
  obtain ⟨W1, hW1⟩ : ∃ y, w.alloc (.map #[] 0) = y := ⟨_, rfl⟩
  have hb1 : Below w.heap.size w W1 := by rw [← hW1]; exact mx_al _ _
  have hz1 : W1.heap.size = w.heap.size + 1 := by rw [← hW1]; simp
  have hm1 : MapK W1 w.heap.size [] := by rw [← hW1]; exact MapS.made w
  obtain ⟨W2, hW2⟩ : ∃ y, W1.alloc (.map #[] 0) = y := ⟨_, rfl⟩
  have hb2 : Below W1.heap.size W1 W2 := by rw [← hW2]; exact mx_al _ _
  have hz2 : W2.heap.size = w.heap.size + 2 := by rw [← hW2]; simp; omega
  have hm2 : MapO W2 W1.heap.size [] := by rw [← hW2]; exact MapS.made W1
  rw [hz1] at hm2
  obtain ⟨W3, hW3⟩ : ∃ y, W2.alloc (.cells #[.pointer (some ⟨ab, 0, none⟩), .pointer (some ⟨tb, 0, none⟩), .map (some w.heap.size), .map (some (w.heap.size + 1)), .int .i64 0] 157) = y := ⟨_, rfl⟩
  have hb3 : Below W2.heap.size W2 W3 := by rw [← hW3]; exact mx_al _ _
  have hz3 : W3.heap.size = w.heap.size + 3 := by rw [← hW3]; simp; omega
  have hB : W3.heap[w.heap.size + 2]? = some (.cells #[.pointer (some ⟨ab, 0, none⟩), .pointer (some ⟨tb, 0, none⟩), .map (some w.heap.size), .map (some (w.heap.size + 1)), .int .i64 0] 157 (0, 0)) := by
    rw [← hW3, ← hz2]
    exact World.alloc_heap_new _ _
  rw [hW1, hW2, hW3]
  have hbw : Below w.heap.size w W3 := hb1.trans ((hb2.trans (hb3.mono (by omega))).mono (by omega))
  classical
  refine ⟨fun g => if OA g then 1 else if OT g then 2 else if w.heap.size ≤ g ∧ g < w.heap.size + 3 then 3 else 0, ⟨?_, ?_, ?_, fun g hg => ?_⟩, fun g hg => ?_⟩
  · refine (h1.below hbw).congr (fun g => ?_)
    by_cases ha : OA g
    · simp [ha]
    · by_cases ht : OT g
      · simp [ha, ht]
      · simp only [ha, ht, if_false]
        split <;> simp
  · refine (h2.below hbw).congr (fun g => ?_)
    by_cases ha : OA g
    · simp [ha, h5 g ha]
    · by_cases ht : OT g
      · simp [ha, ht]
      · simp only [ha, ht, if_false]
        split <;> simp
  · have key : ∀ g, w.heap.size ≤ g → g < w.heap.size + 3 → (if OA g then 1 else if OT g then 2 else if w.heap.size ≤ g ∧ g < w.heap.size + 3 then 3 else 0) = 3 := fun g g1 g2 => by
      rw [if_neg (fun e => by have := hoA g e; omega), if_neg (fun e => by have := hoT g e; omega), if_pos ⟨g1, g2⟩]
    refine ⟨⟨List.Pairwise.nil, (fun p hp => by cases hp), (fun p hp => by cases hp), List.Pairwise.nil, (fun p hp => by cases hp)⟩, w.heap.size, w.heap.size + 1, [], [], fun _ => none, ?_⟩
    refine ⟨fun g hg => ?_, key _ (by omega) (by omega), key _ (by omega) (by omega), key _ (by omega) (by omega), by omega, (fun g t ht => by cases ht), hB, ?_, ?_, rfl, rfl, (fun p hp => by cases hp), fun p hp => by cases hp⟩
    · split at hg
      · cases hg
      · split at hg
        · cases hg
        · split at hg
          · omega
          · cases hg
    · exact (hm1.below hb2).below hb3
    · exact hm2.below hb3
  · split at hg
    · rename_i e
      have := hoA g e
      omega
    · split at hg
      · rename_i e
        have := hoT g e
        omega
      · split at hg
        · omega
        · exact absurd rfl hg
  · dsimp only at hg
    split at hg
    · rename_i e
      exact h3 g e
    · split at hg
      · rename_i e
        exact h4 g e
      · split at hg
        · omega
        · exact absurd rfl hg
theorem wa_new_at (h : PutAt N w ab tb A T) :
    Calls Tryz.prog 50 #[.pointer (some ⟨ab, 0, none⟩), .pointer (some ⟨tb, 0, none⟩)] w fun e w' => ∃ b lab, e = .returned (.tuple #[.pointer (some ⟨b, 0, none⟩), .int .i64 0]) ∧ SysAt w' lab b ab tb A T ⟨[], [], 0⟩ ∧ (∀ g, lab g ≠ 0 → N ≤ g) ∧ Below w.heap.size w w' := by
  refine (wa_new ab tb w).mono ?_
  rintro e w' ⟨rfl, rfl⟩
  obtain ⟨lab, h1, h2⟩ := sys_new h rfl
  exact ⟨_, lab, rfl, h1, h2, ((mx_al _ _).alloc (by simp) _).alloc (by simp; omega) _⟩
end
set_option maxRecDepth 100000 in
set_option maxHeartbeats 2000000 in
theorem tr_back_low {O : Nat → Prop} (b : Nat) (T : Trl) (j : Int) (w : World) (h : TrAt O w b T) (hj : j < 0) :
    Calls Tryz.prog 131 #[.pointer (some ⟨b, 0, none⟩), .int .i64 j] w fun r w' => r = .returned (.int .i64 42) ∧ Below w.heap.size w w' := by
  obtain ⟨WA, hWA⟩ : ∃ x, w.alloc (.cells #[.pointer (some ⟨b, 0, none⟩)] 38) = x := ⟨_, rfl⟩
  have hbA : Below w.heap.size w WA := by rw [← hWA]; exact mx_al _ _
  have hcA : WA.heap[w.heap.size]? = some (.cells #[.pointer (some ⟨b, 0, none⟩)] 38 (0, 0)) := by rw [← hWA]; exact World.alloc_heap_new _ _
  have c0 := mx_cell (j := 0) hcA
  have HIS := Lib.hid (tr_is b T WA (h.below hbA))
  have HWA := Lib.hid hWA
  have HBA := Lib.hid hbA
  have q0 : decide (j < 0) = true := by simpa using hj
  clear h hbA hcA hWA hj
  refine (callsIn_wide (n := 9)).1 ?_
  refine callsIn_of_wp_marks Tryz.func131 rfl trivial ?_ rfl
  simp only [Tryz.ntmps131, List.size_toArray, List.length_cons, List.length_nil, Nat.reduceAdd, Nat.reduceSub, Array.replicate_succ, Array.replicate_zero, List.push_toArray, List.append_toArray, List.nil_append, List.cons_append]
  gi_wp2_with fail
  rw [HWA.out]
  refine ⟨trivial, (callsIn_wide.2 HIS.out).mono ?_⟩
  rintro e' w' ⟨rfl, rfl⟩
  gi_wp2_with fail
  refine ⟨_, by simp [results, Tryz.results131, go_sem], rfl, ?_⟩
  exact HBA.out
set_option maxRecDepth 100000 in
set_option maxHeartbeats 2000000 in
theorem tr_back_high {O : Nat → Prop} (b : Nat) (T : Trl) (j : Int) (w : World) (h : TrAt O w b T) (hj : (T.starts.length : Int) ≤ j) :
    Calls Tryz.prog 131 #[.pointer (some ⟨b, 0, none⟩), .int .i64 j] w fun r w' => r = .returned (.int .i64 42) ∧ Below w.heap.size w w' := by
  obtain ⟨WA, hWA⟩ : ∃ x, w.alloc (.cells #[.pointer (some ⟨b, 0, none⟩)] 38) = x := ⟨_, rfl⟩
  have hbA : Below w.heap.size w WA := by rw [← hWA]; exact mx_al _ _
  have hcA : WA.heap[w.heap.size]? = some (.cells #[.pointer (some ⟨b, 0, none⟩)] 38 (0, 0)) := by rw [← hWA]; exact World.alloc_heap_new _ _
  have c0 := mx_cell (j := 0) hcA
  have hTA := h.below hbA
  have HIS := Lib.hid (tr_is b T WA hTA)
  obtain ⟨hok, gv, cv, ov, sv, hm⟩ := hTA
  have hlen := hok.starts
  obtain ⟨gs, cs, cur, hsv, _, _, hgs, _⟩ := mx_some hm.starts (by omega)
  obtain ⟨cs', rfl⟩ : ∃ cs, sv = .slice (some ⟨gs, 0, none⟩) T.starts.length cs := ⟨_, hsv⟩
  have c2 : WA.cell? ⟨b, 2, none⟩ = some (.slice (some ⟨gs, 0, none⟩) T.starts.length cs') := mx_cell (j := 2) hm.block
  have HWA := Lib.hid hWA
  have HBA := Lib.hid hbA
  have q0 : decide (j < 0) = false := by simp; omega
  have q1 : decide ((T.starts.length : Int) ≤ j) = true := by simpa using hj
  clear h hbA hcA hWA hj hsv hm hok hgs
  refine (callsIn_wide (n := 9)).1 ?_
  refine callsIn_of_wp_marks Tryz.func131 rfl trivial ?_ rfl
  simp only [Tryz.ntmps131, List.size_toArray, List.length_cons, List.length_nil, Nat.reduceAdd, Nat.reduceSub, Array.replicate_succ, Array.replicate_zero, List.push_toArray, List.append_toArray, List.nil_append, List.cons_append]
  gi_wp2_with fail
  rw [HWA.out]
  refine ⟨trivial, (callsIn_wide.2 HIS.out).mono ?_⟩
  rintro e' w' ⟨rfl, rfl⟩
  gi_wp2_with fail
  refine ⟨_, by simp [results, Tryz.results131, go_sem], rfl, ?_⟩
  exact HBA.out
set_option maxRecDepth 100000 in
set_option maxHeartbeats 2000000 in
theorem tr_back_same {O : Nat → Prop} (b : Nat) (T : Trl) (j : Int) (w : World) (h : TrAt O w b T) (hj : j = (T.starts.length : Int) - 1) :
    Calls Tryz.prog 131 #[.pointer (some ⟨b, 0, none⟩), .int .i64 j] w fun r w' => r = .returned (.int .i64 0) ∧ Below w.heap.size w w' := by
  obtain ⟨WA, hWA⟩ : ∃ x, w.alloc (.cells #[.pointer (some ⟨b, 0, none⟩)] 38) = x := ⟨_, rfl⟩
  have hbA : Below w.heap.size w WA := by rw [← hWA]; exact mx_al _ _
  have hcA : WA.heap[w.heap.size]? = some (.cells #[.pointer (some ⟨b, 0, none⟩)] 38 (0, 0)) := by rw [← hWA]; exact World.alloc_heap_new _ _
  have c0 := mx_cell (j := 0) hcA
  have hTA := h.below hbA
  have HIS := Lib.hid (tr_is b T WA hTA)
  have HNOW := Lib.hid (tr_now b T WA hTA)
  obtain ⟨hok, gv, cv, ov, sv, hm⟩ := hTA
  have hlen := hok.starts
  obtain ⟨gs, cs, cur, hsv, _, _, hgs, _⟩ := mx_some hm.starts (by omega)
  obtain ⟨cs', rfl⟩ : ∃ cs, sv = .slice (some ⟨gs, 0, none⟩) T.starts.length cs := ⟨_, hsv⟩
  have c2 : WA.cell? ⟨b, 2, none⟩ = some (.slice (some ⟨gs, 0, none⟩) T.starts.length cs') := mx_cell (j := 2) hm.block
  have HWA := Lib.hid hWA
  have HBA := Lib.hid hbA
  have q0 : decide (j < 0) = false := by simp; omega
  have q1 : decide ((T.starts.length : Int) ≤ j) = false := by simp; omega
  have q2 : (j == (T.starts.length : Int) - 1) = true := by simpa using hj
  clear h hbA hcA hWA hj hsv hm hok hgs
  refine (callsIn_wide (n := 9)).1 ?_
  refine callsIn_of_wp_marks Tryz.func131 rfl trivial ?_ rfl
  simp only [Tryz.ntmps131, List.size_toArray, List.length_cons, List.length_nil, Nat.reduceAdd, Nat.reduceSub, Array.replicate_succ, Array.replicate_zero, List.push_toArray, List.append_toArray, List.nil_append, List.cons_append]
  gi_wp2_with fail
  rw [HWA.out]
  refine ⟨trivial, (callsIn_wide.2 HIS.out).mono ?_⟩
  rintro e' w' ⟨rfl, rfl⟩
  gi_wp2_with fail
  refine ⟨trivial, (callsIn_wide.2 HNOW.out).mono ?_⟩
  rintro e' w' ⟨rfl, rfl⟩
  gi_wp2_with fail
  refine ⟨_, by simp [results, Tryz.results131, go_sem], rfl, ?_⟩
  exact HBA.out
/-- Back, whatever the level is -/
def Trl.backErr (T : Trl) (j : Int) : Nat := if j < 0 ∨ (T.starts.length : Int) ≤ j then 42 else 0
def Trl.backed (T : Trl) (j : Int) : Trl := if 0 ≤ j ∧ j + 1 < (T.starts.length : Int) then T.back j.toNat ((T.starts.getD (j.toNat + 1) 0).toNat) else T
theorem tr_back_any {O : Nat → Prop} (b : Nat) (T : Trl) (j : Int) (w : World) (h : TrAt O w b T) (hst : ∀ s ∈ T.starts, 0 ≤ s ∧ s ≤ (T.order.length : Int)) (hfit : ∀ l ∈ T.order, litV l < T.vars.length) :
    Calls Tryz.prog 131 #[.pointer (some ⟨b, 0, none⟩), .int .i64 j] w fun r w' => r = .returned (.int .i64 (T.backErr j : Nat)) ∧ TrNext O w w' b (T.backed j) := by
  unfold Trl.backErr Trl.backed
  by_cases h1 : j < 0
  · rw [if_pos (.inl h1), if_neg (by omega)]
    refine (tr_back_low b T j w h h1).mono ?_
    rintro e w' ⟨rfl, hb⟩
    exact ⟨rfl, .of_below h hb⟩
  · by_cases h2 : (T.starts.length : Int) ≤ j
    · rw [if_pos (.inr h2), if_neg (by omega)]
      refine (tr_back_high b T j w h h2).mono ?_
      rintro e w' ⟨rfl, hb⟩
      exact ⟨rfl, .of_below h hb⟩
    · rw [if_neg (by omega)]
      by_cases h3 : j = (T.starts.length : Int) - 1
      · rw [if_neg (by omega)]
        refine (tr_back_same b T j w h h3).mono ?_
        rintro e w' ⟨rfl, hb⟩
        exact ⟨rfl, .of_below h hb⟩
      · rw [if_pos (by omega)]
        obtain ⟨k, rfl⟩ : ∃ k : Nat, j = k := ⟨j.toNat, by omega⟩
        have hlt : k + 1 < T.starts.length := by omega
        obtain ⟨s, hs⟩ := getElem_of hlt
        have hs2 := hst s (List.mem_of_getElem? hs)
        have e1 : T.starts.getD (k + 1) 0 = s := by rw [List.getD_eq_getElem?_getD, hs]; rfl
        rw [Int.toNat_natCast, e1]
        exact tr_back b k s.toNat T w h hlt (by rw [hs, Int.toNat_of_nonneg hs2.1]) (by omega) hfit
end Go.Proofs.YtoojmhjagipmdaaGreat
