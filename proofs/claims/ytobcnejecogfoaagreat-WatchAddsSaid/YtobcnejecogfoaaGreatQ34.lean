/- Plain: the example of chapter 13. package salvorlaw13: assigned; package rup: Look. Sort at rows that are owned (some laws turned from a worked proof of the kit). Small laws of sorted numbers, fresh rows and lists of clauses. -/
import Derived.Test.YtobcnejecogfoaaGreatQ22
import Derived.Test.YtobcnejecogfoaaGreatQ32
import Derived.Test.YtobcnejecogfoaaGreatQ33
import Derived.Test.YtobcnejecogfoaaGreatQ03
import Derived.Test.YtobcnejecogfoaaGreatQ08
import Derived.Test.YtobcnejecogfoaaGreatShelf
import Derived.Test.YtobcnejecogfoaaGreatQ27
namespace Go.Proofs.YtobcnejecogfoaaGreat
open Go.RowKit

theorem alwGo_two {c : List Int} (hc : ∀ y ∈ c, litB y = true) : ∀ {r : List Int} {l : Int}, (l = 0 ∨ l ∈ c) → (∀ x ∈ r, x ∈ c) → alwGo l r = true → ∃ y ∈ c, -y ∈ c := by
  intro r
  induction r with
  | nil => intro l _ _ h; cases h
  | cons x r ih =>
    intro l hl hr h
    unfold alwGo at h
    have hx := hr x List.mem_cons_self
    rw [Bool.or_eq_true] at h
    rcases h with h | h
    · rw [Bool.and_eq_true] at h
      obtain ⟨h1, h2⟩ := h
      rcases hl with rfl | hl
      · cases h1
      · have e : x = litN l := by simpa using h2
        unfold litN at e
        rw [if_pos (hc l hl)] at e
        exact ⟨l, hl, e ▸ hx⟩
    · exact ih (.inr hx) (fun y hy => hr y (List.mem_cons_of_mem _ hy)) h
/-- a clause that holds always has a literal and its negation -/
theorem alwL_two {c : List Int} (h : alwL c = true) : ∃ y ∈ c, -y ∈ c := by
  unfold alwL at h
  rw [Bool.and_eq_true] at h
  obtain ⟨h1, h2⟩ := h
  unfold clauseB at h1
  rw [Bool.and_eq_true, List.all_eq_true] at h1
  exact alwGo_two h1.2 (.inl rfl) (fun x hx => normL_mem hx) h2
theorem alwL_no {c : List Int} (h : ∀ y ∈ c, -y ∉ c) : alwL c = false := by
  cases ha : alwL c with
  | false => rfl
  | true =>
    obtain ⟨y, hy, hn⟩ := alwL_two ha
    exact absurd hn (h y hy)
theorem addOk_no {T : Trl} {S : Wst} {id : Int} {c : List Int} (h : alwL c = false) : addOk T S id c = ⟨addKind T (addTwo T c), 0, if addKind T (addTwo T c) = 2 then T.assigned ((addTwo T c).headD 0) id else T, S.addBy id (eachL c) (addTwo T c)⟩ := by
  unfold addOk
  rw [if_neg (by rw [h]; decide)]
def x13L : List (List Int) := [[1, 2, 3], [-1, 4], [-4, -2, -2], [5]]
def x13A : Arn := addAll arn0 0 x13L
def x13S0 : Wst := ⟨[], [], 0⟩
def x13S1 : Wst := x13S0.addBy 1 [1, 2, 3] [1, 2]
def x13S2 : Wst := x13S1.addBy 2 [-1, 4] [-1, 4]
def x13S3 : Wst := x13S2.addBy 3 [-4, -2] [-4, -2]
def x13S4 : Wst := x13S3.addBy 4 [5] [5]
def x13T0 : Trl := trl0 5
def x13T4 : Trl := x13T0.assigned 5 4
theorem x13_add {T T' : Trl} {S S' : Wst} {id : Int} {c : List Int} {r : Nat} (h0 : S.kn id = none) (hg : x13A.get id = some c) (hb : (c.any fun l => decide ((T.vars.length : Int) - 1 < (litV l : Nat))) = false) (ha : ∀ y ∈ c, -y ∉ c) (hk : addKind T (addTwo T c) = r) (hT : (if r = 2 then T.assigned ((addTwo T c).headD 0) id else T) = T') (hS : S.addBy id (eachL c) (addTwo T c) = S') : addW x13A T S id = ⟨r, 0, T', S'⟩ := by
  unfold addW
  rw [h0]
  simp only []
  rw [hg]
  simp only []
  rw [if_neg (by rw [hb]; decide), addOk_no (alwL_no ha), hk, hT, hS]
theorem x13_r1 : addW x13A x13T0 x13S0 1 = ⟨1, 0, x13T0, x13S1⟩ := x13_add (c := [1, 2, 3]) rfl (by kernel_rfl) (by kernel_rfl) (by decide) (by kernel_rfl) rfl (by kernel_rfl)
theorem x13_r2 : addW x13A x13T0 x13S1 2 = ⟨1, 0, x13T0, x13S2⟩ := x13_add (c := [-1, 4]) (by kernel_rfl) (by kernel_rfl) (by kernel_rfl) (by decide) (by kernel_rfl) rfl (by kernel_rfl)
theorem x13_r3 : addW x13A x13T0 x13S2 3 = ⟨1, 0, x13T0, x13S3⟩ := x13_add (c := [-4, -2, -2]) (by kernel_rfl) (by kernel_rfl) (by kernel_rfl) (by decide) (by kernel_rfl) rfl (by kernel_rfl)
theorem x13_r4 : addW x13A x13T0 x13S3 4 = ⟨2, 0, x13T4, x13S4⟩ := x13_add (c := [5]) (by kernel_rfl) (by kernel_rfl) (by kernel_rfl) (by decide) (by kernel_rfl) (by kernel_rfl) (by kernel_rfl)
def x13T5 : Trl := x13T4.push.assigned (-2) 0
def x13T6 : Trl := (propW x13A x13T5 x13S4).1
def x13S6 : Wst := (propW x13A x13T5 x13S4).2.1
def x13T7 : Trl := x13T6.push.assigned (-3) 0
def x13T8 : Trl := (propW x13A x13T7 x13S6).1
def x13S8 : Wst := (propW x13A x13T7 x13S6).2.1
def x13T9 : Trl := x13T8.backed 0
def x13S9 : Wst := ⟨x13S8.known, x13S8.of, min x13S8.looked x13T9.order.length⟩
def x13T10 : Trl := x13T9.push.assigned 2 0
def x13T11 : Trl := x13T10.assigned 4 0
def x13T12 : Trl := (propW x13A x13T11 x13S9).1
def x13S12 : Wst := (propW x13A x13T11 x13S9).2.1
theorem x13_k1 : x13S4.kn 1 = some ⟨[1, 2], [1, 2, 3]⟩ := by kernel_rfl
theorem x13_k3 : x13S4.kn 3 = some ⟨[-4, -2], [-4, -2]⟩ := by kernel_rfl
theorem x13_e5 : x13T4.push.assignErr (-2) 0 = 0 := by kernel_rfl
theorem x13_p6 : (propW x13A x13T5 x13S4).2.2 = none := by kernel_rfl
theorem x13_k6 : x13S6.kn 1 = some ⟨[1, 3], [1, 2, 3]⟩ := by kernel_rfl
theorem x13_e7 : x13T6.push.assignErr (-3) 0 = 0 := by kernel_rfl
theorem x13_p8 : (propW x13A x13T7 x13S6).2.2 = none := by kernel_rfl
theorem x13_w8 : x13T8.reason 4 = 2 ∧ (x13T8.why 4).isSome = true ∧ x13T8.val 1 = 1 := ⟨by kernel_rfl, by kernel_rfl, by kernel_rfl⟩
theorem x13_b9 : x13T8.backErr 0 = 0 := by kernel_rfl
theorem x13_l9 : x13S9.looked = 1 := by kernel_rfl
theorem x13_e10 : x13T9.push.assignErr 2 0 = 0 := by kernel_rfl
theorem x13_e11 : x13T10.assignErr 4 0 = 0 := by kernel_rfl
theorem x13_p12 : (propW x13A x13T11 x13S9).2.2 = some 3 := by kernel_rfl
theorem x13_k12 : x13S12.kn 1 = some ⟨[1, 3], [1, 2, 3]⟩ := by kernel_rfl
/-- the clauses that are known, one after the other -/
def x13R : Nat → Trl × Wst
  | 0 => (x13T0, x13S0)
  | 1 => (x13T0, x13S1)
  | 2 => (x13T0, x13S2)
  | 3 => (x13T0, x13S3)
  | _ => (x13T4, x13S4)
def x13K (k : Nat) : Nat := if k = 3 then 2 else 1
theorem x13_r (k : Nat) (h : k < 4) : addW x13A (x13R k).1 (x13R k).2 ((k : Int) + 1) = ⟨x13K k, 0, (x13R (k + 1)).1, (x13R (k + 1)).2⟩ := by
  match k, h with
  | 0, _ => exact x13_r1
  | 1, _ => exact x13_r2
  | 2, _ => exact x13_r3
  | 3, _ => exact x13_r4
  | n + 4, h => exact absurd h (by omega)
theorem x13_l1 {S : Wst} (h : S.Bnd ∧ S.Link) {id : Int} {c xs : List Int} {T : Trl} {ys : List Int} (hn : S.kn id = none) (hid : 1 ≤ id ∧ id ≤ 1073741824) (hc : c.length ≤ 4096 ∧ ∀ l ∈ c, litB l = true) (hx : eachL c = xs) (hy : addTwo T c = ys) : (S.addBy id xs ys).Bnd ∧ (S.addBy id xs ys).Link := by
  obtain ⟨bs, h1, h2, _⟩ := addBy_ok h.1 h.2 hn hid hc T
  rw [hx, hy] at h1 h2
  exact ⟨h1, h2⟩
theorem x13_s0 : x13S0.Bnd ∧ x13S0.Link := ⟨(st0 (fun _ => none)).inv.bnd, (st0 (fun _ => none)).inv.link⟩
theorem x13_s1 : x13S1.Bnd ∧ x13S1.Link := x13_l1 x13_s0 (c := [1, 2, 3]) (T := x13T0) rfl (by decide) (by decide) (by kernel_rfl) (by kernel_rfl)
theorem x13_s2 : x13S2.Bnd ∧ x13S2.Link := x13_l1 x13_s1 (c := [-1, 4]) (T := x13T0) (by kernel_rfl) (by decide) (by decide) (by kernel_rfl) (by kernel_rfl)
theorem x13_s3 : x13S3.Bnd ∧ x13S3.Link := x13_l1 x13_s2 (c := [-4, -2, -2]) (T := x13T0) (by kernel_rfl) (by decide) (by decide) (by kernel_rfl) (by kernel_rfl)
theorem x13_s4 : x13S4.Bnd ∧ x13S4.Link := x13_l1 x13_s3 (c := [5]) (T := x13T0) (by kernel_rfl) (by decide) (by decide) (by kernel_rfl) (by kernel_rfl)
theorem x13_sr (k : Nat) (h : k ≤ 4) : (x13R k).2.Link := by
  match k, h with
  | 0, _ => exact x13_s0.2
  | 1, _ => exact x13_s1.2
  | 2, _ => exact x13_s2.2
  | 3, _ => exact x13_s3.2
  | 4, _ => exact x13_s4.2
  | n + 5, h => exact absurd h (by omega)
theorem x13_or (k : Nat) (h : k ≤ 4) : (x13R k).1.order.length < 1048576 := by
  match k, h with
  | 0, _ => exact of_decide_eq_true (by kernel_rfl)
  | 1, _ => exact of_decide_eq_true (by kernel_rfl)
  | 2, _ => exact of_decide_eq_true (by kernel_rfl)
  | 3, _ => exact of_decide_eq_true (by kernel_rfl)
  | 4, _ => exact of_decide_eq_true (by kernel_rfl)
  | n + 5, h => exact absurd h (by omega)
theorem x13_get (k : Nat) (h : k < 4) : ∀ c, x13A.get ((k : Int) + 1) = some c → c.length < 20 ∧ clauseB c = true := by
  have key : ∀ c ∈ x13L, c.length < 20 ∧ clauseB c = true := by decide
  match k, h with
  | 0, _ => exact fun c hc => key c (by rw [show x13A.get ((0 : Nat) + 1 : Int) = some [1, 2, 3] from by kernel_rfl] at hc; rw [← Option.some.inj hc]; decide)
  | 1, _ => exact fun c hc => key c (by rw [show x13A.get ((1 : Nat) + 1 : Int) = some [-1, 4] from by kernel_rfl] at hc; rw [← Option.some.inj hc]; decide)
  | 2, _ => exact fun c hc => key c (by rw [show x13A.get ((2 : Nat) + 1 : Int) = some [-4, -2, -2] from by kernel_rfl] at hc; rw [← Option.some.inj hc]; decide)
  | 3, _ => exact fun c hc => key c (by rw [show x13A.get ((3 : Nat) + 1 : Int) = some [5] from by kernel_rfl] at hc; rw [← Option.some.inj hc]; decide)
  | n + 4, h => exact absurd h (by omega)
theorem x13_pt0 : PT x13T0 := ⟨[], ⟨rfl, by decide, (fun p x h => by simp at h), (fun v s h _ => by
    have := List.mem_of_getElem? h
    rw [(List.mem_replicate.1 this).2]), (fun p q x y _ h => by simp at h), (fun x h => by cases h), by decide⟩, fun k s hs => by
    have hk := (List.getElem?_eq_some_iff.1 hs).1
    have hk0 : k = 0 := by
      have : x13T0.starts.length = 1 := rfl
      omega
    subst hk0
    have e : x13T0.starts[0]? = some 0 := rfl
    rw [e] at hs
    rw [← Option.some.inj hs]
    exact ⟨⟨Int.le_refl _, by simp⟩, fun p x hp => by simp at hp⟩⟩
theorem x13_pt5 : PT x13T5 := ((x13_pt0.assigned 5 4).push).assigned (-2) 0
theorem x13_pt6 : PT x13T6 := PT.propGo _ x13_pt5
theorem x13_pt7 : PT x13T7 := x13_pt6.push.assigned (-3) 0
theorem x13_pt8 : PT x13T8 := PT.propGo _ x13_pt7
theorem x13_pt9 : PT x13T9 := x13_pt8.backed 0
theorem x13_pt11 : PT x13T11 := (x13_pt9.push.assigned 2 0).assigned 4 0
theorem PT.sim {T : Trl} (h : PT T) : ∃ its, Sim T its := by
  obtain ⟨its, h1, _⟩ := h
  exact ⟨its, h1⟩
theorem x13_s6 : x13S6.Bnd ∧ x13S6.Link := ⟨(propGo_all x13A _ x13_s4.1 x13_s4.2 x13_pt5.sim).1, (propGo_all x13A _ x13_s4.1 x13_s4.2 x13_pt5.sim).2.1⟩
theorem x13_s8 : x13S8.Bnd ∧ x13S8.Link := ⟨(propGo_all x13A _ x13_s6.1 x13_s6.2 x13_pt7.sim).1, (propGo_all x13A _ x13_s6.1 x13_s6.2 x13_pt7.sim).2.1⟩
theorem x13_s9 : x13S9.Link := x13_s8.2
theorem x13_s12 : x13S12.Link := (propGo_all x13A _ (S := x13S9) ⟨x13_s8.1.kr, x13_s8.1.kb, x13_s8.1.kl, x13_s8.1.orr, x13_s8.1.ob⟩ x13_s9 x13_pt11.sim).2.1
theorem PT.sta {T : Trl} (h : PT T) : ∀ s ∈ T.starts, 0 ≤ s ∧ s ≤ (T.order.length : Int) := fun s hs => by
  obtain ⟨its, h1, h2⟩ := h
  obtain ⟨k, hk, e⟩ := List.getElem_of_mem hs
  have := (h2 k s (by rw [List.getElem?_eq_getElem hk, e])).1
  rw [h1.order, List.length_map]
  exact this
theorem PT.fit {T : Trl} (h : PT T) : ∀ l ∈ T.order, litV l < T.vars.length := by
  obtain ⟨its, h1, _⟩ := h
  exact h1.fit
theorem x13_v5 : x13T5.vars.length ≤ 1000000 := of_decide_eq_true (by kernel_rfl)
theorem x13_v7 : x13T7.vars.length ≤ 1000000 := of_decide_eq_true (by kernel_rfl)
theorem x13_v11 : x13T11.vars.length ≤ 1000000 := of_decide_eq_true (by kernel_rfl)
theorem x13_o4 : x13T4.starts.length < 1048576 ∧ x13T4.push.order.length < 1048576 := ⟨of_decide_eq_true (by kernel_rfl), of_decide_eq_true (by kernel_rfl)⟩
theorem x13_o6 : x13T6.starts.length < 1048576 ∧ x13T6.push.order.length < 1048576 := ⟨of_decide_eq_true (by kernel_rfl), of_decide_eq_true (by kernel_rfl)⟩
theorem x13_o9 : x13T9.starts.length < 1048576 ∧ x13T9.push.order.length < 1048576 ∧ x13T10.order.length < 1048576 := ⟨of_decide_eq_true (by kernel_rfl), of_decide_eq_true (by kernel_rfl), of_decide_eq_true (by kernel_rfl)⟩
theorem x13_o12 : x13T12.order.length < 1048576 := of_decide_eq_true (by kernel_rfl)
theorem x13_last : addW x13A x13T12 x13S12 1 = ⟨0, 130, x13T12, x13S12⟩ := by
  unfold addW
  rw [x13_k12]
end Go.Proofs.YtobcnejecogfoaaGreat
namespace Go.Proofs.YtobcnejecogfoaaGreat
open Go.RowKit Go.Maps Go.Shelf

theorem IntsIn.take {O : Nat → Prop} {w : World} {A : Option Addr} {n c : Nat} {xs : List Int} (h : IntsIn O w (.slice A n c) xs) {k : Nat} (hk : k ≤ xs.length) : IntsIn O w (.slice A k c) (xs.take k) := by
  obtain ⟨A', c', e, hc, hn, hx⟩ := h
  cases e
  have hl : (xs.take k).length = k := by rw [List.length_take]; omega
  refine ⟨A, c, by rw [hl], by omega, hn, fun i x hi => ?_⟩
  have hik := (List.getElem?_eq_some_iff.1 hi).1
  rw [List.getElem?_take, if_pos (by omega)] at hi
  exact hx i x hi
set_option maxRecDepth 100000 in
set_option maxHeartbeats 2000000 in
theorem rup_Look {O Oc : Nat → Prop} (cv u : Value) (c xs : List Int) (w : World) (hc : IntsIn Oc w cv c) (hu : IntsIn O w u xs) (hcb : clauseB c = true) (f : Int → Int) (hf : asgF xs = some f) (hcl : c.length ≤ 4096) (hlen : xs.length ≤ 100000000000) :
    Calls Tryz.prog 21 #[cv, u] w fun e w' => e = .returned (.tuple #[.int .u8 ((lookF f c).1 : Nat), .int .i64 (lookF f c).2, .int .i64 0]) ∧ Below w.heap.size w w' := by
  have HA := Lib.hid (rup_assigned u xs w hu hlen)
  have HC := Lib.hid hc
  have HF := Lib.hid hf
  obtain ⟨A, k, rfl, _⟩ := hu
  obtain ⟨Ac, kc, rfl, _⟩ := hc
  clear hf
  go_enter Tryz.func21, Tryz.ntmps21
  go_wp2_with fail
  refine HA.out.mono ?_
  rintro e w1 ⟨ho, hb1⟩
  rw [HF.out] at ho
  obtain ⟨b, n, rfl, _, _, hm, hok⟩ := ho
  have hr := right_clause _ c w1 (HC.out.below hb1) (by omega)
  rw [hcb] at hr
  have HR := Lib.hid hr
  have HL := Lib.hid (rup_look b n f _ c w1 hm hok (HC.out.below hb1) (by omega))
  have HB := Lib.hid hb1
  clear hr hm hok hb1 HA
  go_wp2_with fail
  refine HR.out.mono ?_
  rintro e w' ⟨rfl, rfl⟩
  go_wp2_with fail
  refine HL.out.mono ?_
  rintro e w' ⟨rfl, rfl⟩
  go_wp2_with fail
  go_ret3
  exact ⟨rfl, HB.out⟩
set_option maxRecDepth 100000 in
set_option maxHeartbeats 2000000 in
theorem law_assigned {O : Nat → Prop} (tb : Nat) (T : Trl) (w : World) (h : TrAt O w tb T) (hlen : T.order.length ≤ 40) :
    Calls Tryz.prog 22 #[.pointer (some ⟨tb, 0, none⟩)] w fun e w' => ∃ v, e = .returned v ∧ w'.ownsRow w.heap.size 39 1 v T.order.length (T.order.map (Value.int .i64)) ∧ Below w.heap.size w w' := by
  obtain ⟨i0, hi, hz0, hz1, hz2⟩ := info_parts info_lit
  have HL := Lib.hid (tr_len tb T w h)
  have HT := Lib.hid h
  have hN : min (T.order.length : Int) (40 : Int) = (T.order.length : Int) := by omega
  clear h
  go_enter Tryz.func22, Tryz.ntmps22
  go_wp2_with fail
  refine HL.out.mono ?_
  rintro e w' ⟨rfl, rfl⟩
  go_wp2_with fail
  go_loopw [3, 10] (fun v i wr => ∃ k : Nat, k ≤ T.order.length ∧ i = .int .i64 k ∧ Hid (Below w.heap.size w wr) ∧ Hid (wr.ownsRow w.heap.size 39 1 v k ((T.order.take k).map (Value.int .i64)))) (fun _ i _ => T.order.length - (intOf i).toNat)
  case atStart => exact ⟨0, Nat.zero_le _, rfl, Lib.hid (Below.refl _ _), Lib.hid (World.ownsRow_nil _ _ _ _)⟩
  case round =>
    obtain ⟨k, hk, rfl, HB, HR⟩ := hrel
    by_cases hlt : k < T.order.length
    · obtain ⟨x, hxk⟩ := getElem_of hlt
      have HAT := Lib.hid (tr_at tb T k x wr (HT.out.below HB.out) hxk)
      have HXK := Lib.hid hxk
      clear hxk
      go_wp2_with fail
      refine HAT.out.mono ?_
      rintro e w' ⟨rfl, rfl⟩
      go_wp2_with (at_builtin; refine wpList_append_own_at _ rfl _ _ 40 rfl w.heap.size 39 i0 (.int .i64 0) 1 8 Tryz.underlying40 hi hz0 hz1 hz2 rfl (by decide) _ k _ rfl (own_below HR.out (below_alloc1 wr _)) ⟨wr.heap.size, 0, none⟩ 1 1 [.int .i64 x] rfl rfl (cell_one_new' _ _ _) (by simp [Value.oneCell']) (by unfold maxLen; omega) (by omega) (by have := HB.out.size; simp; omega) ?_; intro v' w1 hown hgrow hnl hat)
      obtain ⟨Av, kv, rfl, _⟩ := mx_slice hown
      have hb1 : Below w.heap.size w w1 := (HB.out.trans ((below_alloc1 wr (.cells #[.int .i64 x] 39)).mono HB.out.size)).grown hgrow (by have := HB.out.size; simp; omega) (fun g hg => (own_lt HR.out g hg).1)
      have htk : (T.order.take (k + 1)).map (Value.int .i64) = (T.order.take k).map (Value.int .i64) ++ [.int .i64 x] := by
        rw [List.take_add_one, HXK.out]
        simp
      have HO := Lib.hid hown
      have HB1 := Lib.hid hb1
      have HTK := Lib.hid htk
      clear hown hgrow hnl hat hb1 htk
      go_wp2
      go_roundw
      case rel => exact ⟨k + 1, by omega, by go_num, HB1, Lib.hid (by rw [HTK.out]; exact HO.out)⟩
      case measure => simp [intOf]; omega
    · obtain rfl : k = T.order.length := by omega
      have hro := HR.out
      rw [List.take_length] at hro
      have HRO := Lib.hid hro
      clear hro
      go_wp2_with fail
      go_ret
      exact ⟨_, rfl, HRO.out, HB.out⟩
end Go.Proofs.YtobcnejecogfoaaGreat
namespace Go.Proofs.YtobcnejecogfoaaGreat
open Go.RowKit Go.Sort

/-- numbers in order -/
def sortI (xs : List Int) : List Int := xs.mergeSort fun x y => decide (x ≤ y)
theorem sortI_length (xs : List Int) : (sortI xs).length = xs.length := by simp [sortI]
theorem own_sort {base : Nat} (v : Value) (xs : List Int) (w : World) (h : w.ownsRow base 3 1 v xs.length (xs.map (Value.int .i64))) (hl : xs.length < 4611686018427387904) :
    Calls Tryz.prog 119 #[v] w fun e w' => e = .returned (.tuple #[]) ∧ w'.ownsRow base 3 1 v (sortI xs).length ((sortI xs).map (Value.int .i64)) ∧ Kept (fun g => v.ownBlock = some g) w w' := by
  rcases h.2 with ⟨rfl, h0⟩ | ⟨g, cap, cur, rfl, hb, hg, h1, h2, h3, h4⟩
  · obtain rfl : xs = [] := List.eq_nil_of_length_eq_zero h0
    refine (Tryz.slices_Sort_int_none none 0 w).mono ?_
    rintro e w' ⟨rfl, rfl⟩
    have hs : sortI [] = [] := by simp [sortI]
    rw [hs]
    exact ⟨rfl, h, Kept.refl _ _⟩
  · refine (Tryz.slices_Sort_int g 0 cap xs w (st_holds hg (by simpa using h4)) (heap_lt hg) hl).mono ?_
    rintro e w' ⟨rfl, n, os, rfl⟩
    refine ⟨rfl, ?_, st_kept _⟩
    rw [sortI_length]
    refine ⟨by simp [sortI], .inr ⟨g, cap, _, rfl, hb, st_heap _ hg, h1, h2, by simp [putCells, h3], ?_⟩⟩
    have e : xs.length * 1 = (sortI xs).length := by rw [sortI_length, Nat.mul_one]
    rw [e]
    exact st_take cur (sortI xs) (by rw [sortI_length]; omega)
end Go.Proofs.YtobcnejecogfoaaGreat
namespace Go.Proofs.YtobcnejecogfoaaGreat
open Go.RowKit

theorem sortI_eq {xs ys : List Int} (hp : xs.Perm ys) (hs : ys.Pairwise (· ≤ ·)) : sortI xs = ys := by
  refine List.Perm.eq_of_pairwise (le := fun a b => a ≤ b) (fun a b _ _ h1 h2 => by omega) ?_ hs ((List.mergeSort_perm _ _).trans hp)
  have := List.pairwise_mergeSort (le := fun x y : Int => decide (x ≤ y)) (fun a b c h1 h2 => by simp at *; omega) (fun a b => by simp; omega) xs
  exact this.imp (fun h => by simpa using h)
theorem mx_ints (W : World) (xs : List Int) (t : TypeId) : IntsIn (fun g => g = W.heap.size) (W.alloc (.cells (xs.map (Value.int .i64)).toArray t)) (.slice (some ⟨W.heap.size, 0, none⟩) xs.length xs.length) xs :=
  ⟨some ⟨W.heap.size, 0, none⟩, xs.length, rfl, Nat.le_refl _, (fun h => by cases h), fun i x hi => ⟨W.heap.size, 0, rfl, by simp, rfl, by
    rw [cell_new, Nat.zero_add]
    simp [hi]⟩⟩
theorem cls_new (W : World) (us : List Value) (cs : List (List Int)) (t : TypeId) (h : ∀ (i : Nat) (xs : List Int), cs[i]? = some xs → ∃ u, us[i]? = some u ∧ IntsIn (fun g => g < W.heap.size) W u xs) : ClsAt (W.alloc (.cells us.toArray t)) (.slice (some ⟨W.heap.size, 0, none⟩) cs.length cs.length) cs := by
  refine ⟨_, cs.length, rfl, fun i xs hi => ?_⟩
  obtain ⟨u, hu, hx⟩ := h i xs hi
  have hb := mx_al W (.cells us.toArray t)
  refine ⟨W.heap.size, 0, u, rfl, by simp, ?_, (hx.below hb).mono (fun g hg => by simp; omega)⟩
  rw [cell_new, Nat.zero_add]
  simpa using hu
theorem sortI_sorted (xs : List Int) : (sortI xs).Pairwise (· ≤ ·) := by
  have := List.pairwise_mergeSort (le := fun x y : Int => decide (x ≤ y)) (fun a b c h1 h2 => by simp at *; omega) (fun a b => by simp; omega) xs
  exact this.imp (fun h => by simpa using h)
theorem sortI_mem (xs : List Int) (x : Int) : x ∈ sortI xs ↔ x ∈ xs := (List.mergeSort_perm xs _).mem_iff
end Go.Proofs.YtobcnejecogfoaaGreat
