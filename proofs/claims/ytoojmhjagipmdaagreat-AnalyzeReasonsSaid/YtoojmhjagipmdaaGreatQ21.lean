/- package salvorlaw13: assigned; package rup: Look. Calls at a watch, its arena and its trail: what a law's function keeps. package salvorlaw13: reasons, complete, decide. Plain: a clause that holds always has a literal and its negation. Plain: the example of chapter 13. Plain: a watch that begins with clauses. package salvorlaw13: complete, failing, decide. Plain: decisions, and ways back. -/
import Derived.Test.YtoojmhjagipmdaaGreatQ20
import Derived.Test.YtoojmhjagipmdaaGreatQ12
import Derived.Test.YtoojmhjagipmdaaGreatQ02
import Derived.Test.YtoojmhjagipmdaaGreatQ18
import Derived.Test.YtoojmhjagipmdaaGreatQ09
namespace Go.Proofs.YtoojmhjagipmdaaGreat
open Go.RowKit Go.Maps Go.Shelf

theorem IntsIn.take {O : Nat → Prop} {w : World} {A : Option Addr} {n c : Nat} {xs : List Int} (h : IntsIn O w (.slice A n c) xs) {k : Nat} (hk : k ≤ xs.length) : IntsIn O w (.slice A k c) (xs.take k) := by
  obtain ⟨A', c', e, hc, hn, hx⟩ := h
  cases e
  have hl : (xs.take k).length = k := by rw [List.length_take]; omega
  refine ⟨A, c, by rw [hl], by omega, hn, fun i x hi => ?_⟩
  have hik := (List.getElem?_eq_some_iff.1 hi).1
  rw [List.getElem?_take, if_pos (by omega)] at hi
  exact hx i x hi
set_option maxRecDepth 100000 in
set_option maxHeartbeats 2000000 in
theorem rup_Look {O Oc : Nat → Prop} (cv u : Value) (c xs : List Int) (w : World) (hc : IntsIn Oc w cv c) (hu : IntsIn O w u xs) (hcb : clauseB c = true) (f : Int → Int) (hf : asgF xs = some f) (hcl : c.length ≤ 4096) (hlen : xs.length ≤ 100000000000) :
    Calls Tryz.prog 21 #[cv, u] w fun e w' => e = .returned (.tuple #[.int .u8 ((lookF f c).1 : Nat), .int .i64 (lookF f c).2, .int .i64 0]) ∧ Below w.heap.size w w' := by
  have HA := Lib.hid (rup_assigned u xs w hu hlen)
  have HC := Lib.hid hc
  have HF := Lib.hid hf
  obtain ⟨A, k, rfl, _⟩ := hu
  obtain ⟨Ac, kc, rfl, _⟩ := hc
  clear hf
  go_enter Tryz.func21, Tryz.ntmps21
  go_wp2_with fail
  refine HA.out.mono ?_
  rintro e w1 ⟨ho, hb1⟩
  rw [HF.out] at ho
  obtain ⟨b, n, rfl, _, _, hm, hok⟩ := ho
  have hr := right_clause _ c w1 (HC.out.below hb1) (by omega)
  rw [hcb] at hr
  have HR := Lib.hid hr
  have HL := Lib.hid (rup_look b n f _ c w1 hm hok (HC.out.below hb1) (by omega))
  have HB := Lib.hid hb1
  clear hr hm hok hb1 HA
  go_wp2_with fail
  refine HR.out.mono ?_
  rintro e w' ⟨rfl, rfl⟩
  go_wp2_with fail
  refine HL.out.mono ?_
  rintro e w' ⟨rfl, rfl⟩
  go_wp2_with fail
  go_ret3
  exact ⟨rfl, HB.out⟩
end Go.Proofs.YtoojmhjagipmdaaGreat
namespace Go.Proofs.YtoojmhjagipmdaaGreat
open Go.RowKit

structure Lw (w0 w : World) (lab : Nat → Nat) (b ab tb : Nat) (A : Arn) (T : Trl) (S : Wst) : Prop where
  sys : SysAt w lab b ab tb A T S
  ge : ∀ g, lab g ≠ 0 → w0.heap.size ≤ g
  hb : Below w0.heap.size w0 w
def LwNext (w0 w w' : World) (lab : Nat → Nat) (b ab tb : Nat) (A : Arn) (T : Trl) (S : Wst) : Prop := ∃ lab', Lw w0 w' lab' b ab tb A T S ∧ Labs lab lab' w w'
section
variable {w0 w w' : World} {lab : Nat → Nat} {b ab tb : Nat} {A A' : Arn} {T T' : Trl} {S S' : Wst}
theorem Lw.below (h : Lw w0 w lab b ab tb A T S) (k : Below w.heap.size w w') : Lw w0 w' lab b ab tb A T S := ⟨h.sys.below k, h.ge, h.hb.trans (k.mono h.hb.size)⟩
theorem Lw.next (h : Lw w0 w lab b ab tb A T S) (k : SysNext w w' lab b ab tb A' T' S') : LwNext w0 w w' lab b ab tb A' T' S' := by
  obtain ⟨lab', h1, h2⟩ := k
  exact ⟨lab', ⟨h1, h2.ge h.ge h.hb.size, h.hb.trans (h2.below h.ge h.hb.size)⟩, h2⟩
theorem LwNext.sys {b2 : Nat} (h : LwNext w0 w w' lab b2 ab tb A T S) : SysNext w w' lab b2 ab tb A T S := by
  obtain ⟨l, h1, h2⟩ := h
  exact ⟨l, h1.sys, h2⟩
theorem lw_push (h : Lw w0 w lab b ab tb A T S) (hn : T.starts.length < 1048576) :
    Calls Tryz.prog 53 #[.pointer (some ⟨tb, 0, none⟩)] w fun e w' => e = .returned (.int .i64 0) ∧ LwNext w0 w w' lab b ab tb A T.push S := by
  refine (tr_push tb T w h.sys.tr hn).mono ?_
  rintro e w' ⟨rfl, hb⟩
  exact ⟨rfl, h.next (h.sys.tr_next hb)⟩
theorem lw_assign (h : Lw w0 w lab b ab tb A T S) (l r : Int) (hno : T.order.length < 1048576) :
    Calls Tryz.prog 54 #[.pointer (some ⟨tb, 0, none⟩), .int .i64 l, .int .i64 r] w fun e w' => e = .returned (.int .i64 (T.assignErr l r : Nat)) ∧ LwNext w0 w w' lab b ab tb A (T.assigned l r) S := by
  refine (tr_assign tb T l r w h.sys.tr hno).mono ?_
  rintro e w' ⟨rfl, hb⟩
  exact ⟨rfl, h.next (h.sys.tr_next hb)⟩
theorem lw_back (h : Lw w0 w lab b ab tb A T S) (j : Int) (hst : ∀ s ∈ T.starts, 0 ≤ s ∧ s ≤ (T.order.length : Int)) (hfit : ∀ l ∈ T.order, litV l < T.vars.length) :
    Calls Tryz.prog 91 #[.pointer (some ⟨b, 0, none⟩), .int .i64 j] w fun r w' => r = .returned (.int .i64 (T.backErr j : Nat)) ∧ LwNext w0 w w' lab b ab tb A (T.backed j) ⟨S.known, S.of, min S.looked (T.backed j).order.length⟩ := by
  refine (wa_back b ab tb A T (T.backed j) S j _ w lab h.sys (tr_back_any tb T j w h.sys.tr hst hfit)).mono ?_
  rintro e w' ⟨rfl, hb⟩
  exact ⟨rfl, h.next hb⟩
theorem lw_add (h : Lw w0 w lab b ab tb A T S) (id : Int) (hwf : (Lit.int .i64 id).wf = true) (hA : ∀ c, A.get id = some c → c.length < 20 ∧ clauseB c = true ∧ 1 ≤ id ∧ id ≤ 1073741824) (hno : T.order.length < 1048576) (hL : S.Link) :
    Calls Tryz.prog 52 #[.pointer (some ⟨b, 0, none⟩), .int .i64 id] w fun e w' => e = .returned (.tuple #[.int .u8 ((addW A T S id).res : Nat), .int .i64 ((addW A T S id).err : Nat)]) ∧ LwNext w0 w w' lab b ab tb A (addW A T S id).T (addW A T S id).S := by
  refine (wa_add b ab tb A T S id w lab h.sys hwf hA hno hL).mono ?_
  rintro e w' ⟨rfl, hb⟩
  exact ⟨rfl, h.next hb⟩
theorem lw_prop (h : Lw w0 w lab b ab tb A T S) (hL : S.Link) (hsim : ∃ its, Sim T its) (hfew : T.vars.length ≤ 1000000) :
    Calls Tryz.prog 38 #[.pointer (some ⟨b, 0, none⟩)] w fun e w' => e = .returned (.tuple #[.int .i64 ((propW A T S).2.2.getD 0), .bool (propW A T S).2.2.isSome, .int .i64 0]) ∧ LwNext w0 w w' lab b ab tb A (propW A T S).1 (propW A T S).2.1 := by
  refine (wa_propagate b ab tb A T S w lab h.sys hL hsim hfew).mono ?_
  rintro e w' ⟨rfl, hb⟩
  exact ⟨rfl, h.next hb⟩
theorem Sim.pushT {its : List RIt} (h : Sim T its) : Sim T.push its := ⟨h.order, h.size, h.at_, h.free, h.mono, fun x hx => by
  have := h.pos x hx
  have e : T.push.now = T.now + 1 := by simp only [Trl.push, Trl.now, List.length_append, List.length_cons, List.length_nil]; omega
  omega, by
  have := h.now
  have e : T.push.now = T.now + 1 := by simp only [Trl.push, Trl.now, List.length_append, List.length_cons, List.length_nil]; omega
  omega⟩
theorem Sim.few {its : List RIt} (h : Sim T its) (hv : T.vars.length = 7) : T.order.length ≤ 6 := by
  have := h.len
  rw [h.order, List.length_map]
  rcases this with h | h
  · omega
  · rw [h]
    exact Nat.zero_le _
theorem Sim.fit {its : List RIt} (h : Sim T its) : ∀ l ∈ T.order, litV l < T.vars.length := fun l hl => by
  rw [h.order] at hl
  obtain ⟨x, hx, rfl⟩ := List.mem_map.1 hl
  obtain ⟨p, hp, e⟩ := List.getElem_of_mem hx
  exact (h.varlt (p := p) (x := x) (by rw [List.getElem?_eq_getElem hp, e])).2
end
end Go.Proofs.YtoojmhjagipmdaaGreat
namespace Go.Proofs.YtoojmhjagipmdaaGreat
open Go.RowKit

/-- the clauses by their numbers -/
def clsC (cs : List (List Int)) (id : Int) : Option (List Int) := if 1 ≤ id then cs[(id - 1).toNat]? else none
theorem clsC_some {cs : List (List Int)} {id : Int} {c : List Int} (h : clsC cs id = some c) : ∃ n : Nat, id = n + 1 ∧ cs[n]? = some c ∧ n < cs.length := by
  unfold clsC at h
  split at h
  · exact ⟨(id - 1).toNat, by omega, h, (List.getElem?_eq_some_iff.1 h).1⟩
  · cases h
/-- what a clause is, where all others of its literals are false -/
theorem rsn_look {its : List RIt} (hl : ∀ x ∈ its, litB x.lit = true) (hn : (its.map fun x => litV x.lit).Nodup) {k : Nat} {x : RIt} (hk : its[k]? = some x) {c : List Int} (hx : x.lit ∈ c) (hc : ∀ y ∈ c, litB y = true) (ho : ∀ y ∈ c, y ≠ x.lit → HasAt its k (-y)) :
    ∃ f, asgF ((its.map RIt.lit).take k) = some f ∧ lookF f c = (3, x.lit) := by
  have hkl := (List.getElem?_eq_some_iff.1 hk).1
  obtain ⟨f, hf, hff⟩ := k_its (its := its.take k) (fun y hy => hl y (List.mem_of_mem_take hy)) (by rw [List.map_take]; exact hn.sublist (List.take_sublist _ _))
  have hxb := (litB_iff x.lit).1 (hc x.lit hx)
  have hno : ∀ z, litV z = litV x.lit → ¬ Has (its.take k) z := fun z hz ⟨p, y, hp, e⟩ => by
    have hpl := (List.getElem?_eq_some_iff.1 hp).1
    rw [List.length_take] at hpl
    rw [List.getElem?_take, if_pos (by omega)] at hp
    have := k_inj hn hp hk (by rw [e, hz])
    omega
  refine ⟨f, by rw [← List.map_take]; exact hf, k_unit hx ?_ (fun y hy hne => ?_) (fun y hy => ?_)⟩
  · have h1 := (hff x.lit (hc _ hx)).1
    have h2 := (hff x.lit (hc _ hx)).2
    have a1 : ¬ 0 < ofF f x.lit := fun h => hno x.lit rfl (h1.1 h)
    have a2 : ¬ ofF f x.lit < 0 := fun h => hno (-x.lit) (litV_negate _) (h2.1 h)
    omega
  · obtain ⟨p, z, hp, hz, e⟩ := ho y hy hne
    exact (hff y (hc y hy)).2.2 ⟨p, z, by rw [List.getElem?_take, if_pos hp]; exact hz, e⟩
  · have := (litB_iff y).1 (hc y hy)
    omega
end Go.Proofs.YtoojmhjagipmdaaGreat
namespace Go.Proofs.YtoojmhjagipmdaaGreat
open Go.RowKit

theorem alwGo_two {c : List Int} (hc : ∀ y ∈ c, litB y = true) : ∀ {r : List Int} {l : Int}, (l = 0 ∨ l ∈ c) → (∀ x ∈ r, x ∈ c) → alwGo l r = true → ∃ y ∈ c, -y ∈ c := by
  intro r
  induction r with
  | nil => intro l _ _ h; cases h
  | cons x r ih =>
    intro l hl hr h
    unfold alwGo at h
    have hx := hr x List.mem_cons_self
    rw [Bool.or_eq_true] at h
    rcases h with h | h
    · rw [Bool.and_eq_true] at h
      obtain ⟨h1, h2⟩ := h
      rcases hl with rfl | hl
      · cases h1
      · have e : x = litN l := by simpa using h2
        unfold litN at e
        rw [if_pos (hc l hl)] at e
        exact ⟨l, hl, e ▸ hx⟩
    · exact ih (.inr hx) (fun y hy => hr y (List.mem_cons_of_mem _ hy)) h
/-- a clause that holds always has a literal and its negation -/
theorem alwL_two {c : List Int} (h : alwL c = true) : ∃ y ∈ c, -y ∈ c := by
  unfold alwL at h
  rw [Bool.and_eq_true] at h
  obtain ⟨h1, h2⟩ := h
  unfold clauseB at h1
  rw [Bool.and_eq_true, List.all_eq_true] at h1
  exact alwGo_two h1.2 (.inl rfl) (fun x hx => normL_mem hx) h2
theorem alwL_no {c : List Int} (h : ∀ y ∈ c, -y ∉ c) : alwL c = false := by
  cases ha : alwL c with
  | false => rfl
  | true =>
    obtain ⟨y, hy, hn⟩ := alwL_two ha
    exact absurd hn (h y hy)
end Go.Proofs.YtoojmhjagipmdaaGreat
namespace Go.Proofs.YtoojmhjagipmdaaGreat
open Go.RowKit

theorem addOk_no {T : Trl} {S : Wst} {id : Int} {c : List Int} (h : alwL c = false) : addOk T S id c = ⟨addKind T (addTwo T c), 0, if addKind T (addTwo T c) = 2 then T.assigned ((addTwo T c).headD 0) id else T, S.addBy id (eachL c) (addTwo T c)⟩ := by
  unfold addOk
  rw [if_neg (by rw [h]; decide)]
def x13L : List (List Int) := [[1, 2, 3], [-1, 4], [-4, -2, -2], [5]]
def x13A : Arn := addAll arn0 0 x13L
def x13S0 : Wst := ⟨[], [], 0⟩
def x13S1 : Wst := x13S0.addBy 1 [1, 2, 3] [1, 2]
def x13S2 : Wst := x13S1.addBy 2 [-1, 4] [-1, 4]
def x13S3 : Wst := x13S2.addBy 3 [-4, -2] [-4, -2]
def x13S4 : Wst := x13S3.addBy 4 [5] [5]
def x13T0 : Trl := trl0 5
def x13T4 : Trl := x13T0.assigned 5 4
theorem x13_add {T T' : Trl} {S S' : Wst} {id : Int} {c : List Int} {r : Nat} (h0 : S.kn id = none) (hg : x13A.get id = some c) (hb : (c.any fun l => decide ((T.vars.length : Int) - 1 < (litV l : Nat))) = false) (ha : ∀ y ∈ c, -y ∉ c) (hk : addKind T (addTwo T c) = r) (hT : (if r = 2 then T.assigned ((addTwo T c).headD 0) id else T) = T') (hS : S.addBy id (eachL c) (addTwo T c) = S') : addW x13A T S id = ⟨r, 0, T', S'⟩ := by
  unfold addW
  rw [h0]
  simp only []
  rw [hg]
  simp only []
  rw [if_neg (by rw [hb]; decide), addOk_no (alwL_no ha), hk, hT, hS]
theorem x13_r1 : addW x13A x13T0 x13S0 1 = ⟨1, 0, x13T0, x13S1⟩ := x13_add (c := [1, 2, 3]) rfl (by kernel_rfl) (by kernel_rfl) (by decide) (by kernel_rfl) rfl (by kernel_rfl)
theorem x13_r2 : addW x13A x13T0 x13S1 2 = ⟨1, 0, x13T0, x13S2⟩ := x13_add (c := [-1, 4]) (by kernel_rfl) (by kernel_rfl) (by kernel_rfl) (by decide) (by kernel_rfl) rfl (by kernel_rfl)
theorem x13_r3 : addW x13A x13T0 x13S2 3 = ⟨1, 0, x13T0, x13S3⟩ := x13_add (c := [-4, -2, -2]) (by kernel_rfl) (by kernel_rfl) (by kernel_rfl) (by decide) (by kernel_rfl) rfl (by kernel_rfl)
theorem x13_r4 : addW x13A x13T0 x13S3 4 = ⟨2, 0, x13T4, x13S4⟩ := x13_add (c := [5]) (by kernel_rfl) (by kernel_rfl) (by kernel_rfl) (by decide) (by kernel_rfl) (by kernel_rfl) (by kernel_rfl)
def x13T5 : Trl := x13T4.push.assigned (-2) 0
def x13T6 : Trl := (propW x13A x13T5 x13S4).1
def x13S6 : Wst := (propW x13A x13T5 x13S4).2.1
def x13T7 : Trl := x13T6.push.assigned (-3) 0
def x13T8 : Trl := (propW x13A x13T7 x13S6).1
def x13S8 : Wst := (propW x13A x13T7 x13S6).2.1
def x13T9 : Trl := x13T8.backed 0
def x13S9 : Wst := ⟨x13S8.known, x13S8.of, min x13S8.looked x13T9.order.length⟩
def x13T10 : Trl := x13T9.push.assigned 2 0
def x13T11 : Trl := x13T10.assigned 4 0
def x13T12 : Trl := (propW x13A x13T11 x13S9).1
def x13S12 : Wst := (propW x13A x13T11 x13S9).2.1
theorem x13_k1 : x13S4.kn 1 = some ⟨[1, 2], [1, 2, 3]⟩ := by kernel_rfl
theorem x13_k3 : x13S4.kn 3 = some ⟨[-4, -2], [-4, -2]⟩ := by kernel_rfl
theorem x13_e5 : x13T4.push.assignErr (-2) 0 = 0 := by kernel_rfl
theorem x13_p6 : (propW x13A x13T5 x13S4).2.2 = none := by kernel_rfl
theorem x13_k6 : x13S6.kn 1 = some ⟨[1, 3], [1, 2, 3]⟩ := by kernel_rfl
theorem x13_e7 : x13T6.push.assignErr (-3) 0 = 0 := by kernel_rfl
theorem x13_p8 : (propW x13A x13T7 x13S6).2.2 = none := by kernel_rfl
theorem x13_w8 : x13T8.reason 4 = 2 ∧ (x13T8.why 4).isSome = true ∧ x13T8.val 1 = 1 := ⟨by kernel_rfl, by kernel_rfl, by kernel_rfl⟩
theorem x13_b9 : x13T8.backErr 0 = 0 := by kernel_rfl
theorem x13_l9 : x13S9.looked = 1 := by kernel_rfl
theorem x13_e10 : x13T9.push.assignErr 2 0 = 0 := by kernel_rfl
theorem x13_e11 : x13T10.assignErr 4 0 = 0 := by kernel_rfl
theorem x13_p12 : (propW x13A x13T11 x13S9).2.2 = some 3 := by kernel_rfl
theorem x13_k12 : x13S12.kn 1 = some ⟨[1, 3], [1, 2, 3]⟩ := by kernel_rfl
/-- the clauses that are known, one after the other -/
def x13R : Nat → Trl × Wst
  | 0 => (x13T0, x13S0)
  | 1 => (x13T0, x13S1)
  | 2 => (x13T0, x13S2)
  | 3 => (x13T0, x13S3)
  | _ => (x13T4, x13S4)
def x13K (k : Nat) : Nat := if k = 3 then 2 else 1
theorem x13_r (k : Nat) (h : k < 4) : addW x13A (x13R k).1 (x13R k).2 ((k : Int) + 1) = ⟨x13K k, 0, (x13R (k + 1)).1, (x13R (k + 1)).2⟩ := by
  match k, h with
  | 0, _ => exact x13_r1
  | 1, _ => exact x13_r2
  | 2, _ => exact x13_r3
  | 3, _ => exact x13_r4
  | n + 4, h => exact absurd h (by omega)
theorem x13_l1 {S : Wst} (h : S.Bnd ∧ S.Link) {id : Int} {c xs : List Int} {T : Trl} {ys : List Int} (hn : S.kn id = none) (hid : 1 ≤ id ∧ id ≤ 1073741824) (hc : c.length ≤ 4096 ∧ ∀ l ∈ c, litB l = true) (hx : eachL c = xs) (hy : addTwo T c = ys) : (S.addBy id xs ys).Bnd ∧ (S.addBy id xs ys).Link := by
  obtain ⟨bs, h1, h2, _⟩ := addBy_ok h.1 h.2 hn hid hc T
  rw [hx, hy] at h1 h2
  exact ⟨h1, h2⟩
theorem x13_s0 : x13S0.Bnd ∧ x13S0.Link := ⟨(st0 (fun _ => none)).inv.bnd, (st0 (fun _ => none)).inv.link⟩
theorem x13_s1 : x13S1.Bnd ∧ x13S1.Link := x13_l1 x13_s0 (c := [1, 2, 3]) (T := x13T0) rfl (by decide) (by decide) (by kernel_rfl) (by kernel_rfl)
theorem x13_s2 : x13S2.Bnd ∧ x13S2.Link := x13_l1 x13_s1 (c := [-1, 4]) (T := x13T0) (by kernel_rfl) (by decide) (by decide) (by kernel_rfl) (by kernel_rfl)
theorem x13_s3 : x13S3.Bnd ∧ x13S3.Link := x13_l1 x13_s2 (c := [-4, -2, -2]) (T := x13T0) (by kernel_rfl) (by decide) (by decide) (by kernel_rfl) (by kernel_rfl)
theorem x13_s4 : x13S4.Bnd ∧ x13S4.Link := x13_l1 x13_s3 (c := [5]) (T := x13T0) (by kernel_rfl) (by decide) (by decide) (by kernel_rfl) (by kernel_rfl)
theorem x13_sr (k : Nat) (h : k ≤ 4) : (x13R k).2.Link := by
  match k, h with
  | 0, _ => exact x13_s0.2
  | 1, _ => exact x13_s1.2
  | 2, _ => exact x13_s2.2
  | 3, _ => exact x13_s3.2
  | 4, _ => exact x13_s4.2
  | n + 5, h => exact absurd h (by omega)
theorem x13_or (k : Nat) (h : k ≤ 4) : (x13R k).1.order.length < 1048576 := by
  match k, h with
  | 0, _ => exact of_decide_eq_true (by kernel_rfl)
  | 1, _ => exact of_decide_eq_true (by kernel_rfl)
  | 2, _ => exact of_decide_eq_true (by kernel_rfl)
  | 3, _ => exact of_decide_eq_true (by kernel_rfl)
  | 4, _ => exact of_decide_eq_true (by kernel_rfl)
  | n + 5, h => exact absurd h (by omega)
theorem x13_get (k : Nat) (h : k < 4) : ∀ c, x13A.get ((k : Int) + 1) = some c → c.length < 20 ∧ clauseB c = true := by
  have key : ∀ c ∈ x13L, c.length < 20 ∧ clauseB c = true := by decide
  match k, h with
  | 0, _ => exact fun c hc => key c (by rw [show x13A.get ((0 : Nat) + 1 : Int) = some [1, 2, 3] from by kernel_rfl] at hc; rw [← Option.some.inj hc]; decide)
  | 1, _ => exact fun c hc => key c (by rw [show x13A.get ((1 : Nat) + 1 : Int) = some [-1, 4] from by kernel_rfl] at hc; rw [← Option.some.inj hc]; decide)
  | 2, _ => exact fun c hc => key c (by rw [show x13A.get ((2 : Nat) + 1 : Int) = some [-4, -2, -2] from by kernel_rfl] at hc; rw [← Option.some.inj hc]; decide)
  | 3, _ => exact fun c hc => key c (by rw [show x13A.get ((3 : Nat) + 1 : Int) = some [5] from by kernel_rfl] at hc; rw [← Option.some.inj hc]; decide)
  | n + 4, h => exact absurd h (by omega)
theorem x13_pt0 : PT x13T0 := ⟨[], ⟨rfl, by decide, (fun p x h => by simp at h), (fun v s h _ => by
    have := List.mem_of_getElem? h
    rw [(List.mem_replicate.1 this).2]), (fun p q x y _ h => by simp at h), (fun x h => by cases h), by decide⟩, fun k s hs => by
    have hk := (List.getElem?_eq_some_iff.1 hs).1
    have hk0 : k = 0 := by
      have : x13T0.starts.length = 1 := rfl
      omega
    subst hk0
    have e : x13T0.starts[0]? = some 0 := rfl
    rw [e] at hs
    rw [← Option.some.inj hs]
    exact ⟨⟨Int.le_refl _, by simp⟩, fun p x hp => by simp at hp⟩⟩
theorem x13_pt5 : PT x13T5 := ((x13_pt0.assigned 5 4).push).assigned (-2) 0
theorem x13_pt6 : PT x13T6 := PT.propGo _ x13_pt5
theorem x13_pt7 : PT x13T7 := x13_pt6.push.assigned (-3) 0
theorem x13_pt8 : PT x13T8 := PT.propGo _ x13_pt7
theorem x13_pt9 : PT x13T9 := x13_pt8.backed 0
theorem x13_pt11 : PT x13T11 := (x13_pt9.push.assigned 2 0).assigned 4 0
theorem PT.sim {T : Trl} (h : PT T) : ∃ its, Sim T its := by
  obtain ⟨its, h1, _⟩ := h
  exact ⟨its, h1⟩
theorem x13_s6 : x13S6.Bnd ∧ x13S6.Link := ⟨(propGo_all x13A _ x13_s4.1 x13_s4.2 x13_pt5.sim).1, (propGo_all x13A _ x13_s4.1 x13_s4.2 x13_pt5.sim).2.1⟩
theorem x13_s8 : x13S8.Bnd ∧ x13S8.Link := ⟨(propGo_all x13A _ x13_s6.1 x13_s6.2 x13_pt7.sim).1, (propGo_all x13A _ x13_s6.1 x13_s6.2 x13_pt7.sim).2.1⟩
theorem x13_s9 : x13S9.Link := x13_s8.2
theorem x13_s12 : x13S12.Link := (propGo_all x13A _ (S := x13S9) ⟨x13_s8.1.kr, x13_s8.1.kb, x13_s8.1.kl, x13_s8.1.orr, x13_s8.1.ob⟩ x13_s9 x13_pt11.sim).2.1
theorem PT.sta {T : Trl} (h : PT T) : ∀ s ∈ T.starts, 0 ≤ s ∧ s ≤ (T.order.length : Int) := fun s hs => by
  obtain ⟨its, h1, h2⟩ := h
  obtain ⟨k, hk, e⟩ := List.getElem_of_mem hs
  have := (h2 k s (by rw [List.getElem?_eq_getElem hk, e])).1
  rw [h1.order, List.length_map]
  exact this
theorem PT.fit {T : Trl} (h : PT T) : ∀ l ∈ T.order, litV l < T.vars.length := by
  obtain ⟨its, h1, _⟩ := h
  exact h1.fit
theorem x13_v5 : x13T5.vars.length ≤ 1000000 := of_decide_eq_true (by kernel_rfl)
theorem x13_v7 : x13T7.vars.length ≤ 1000000 := of_decide_eq_true (by kernel_rfl)
theorem x13_v11 : x13T11.vars.length ≤ 1000000 := of_decide_eq_true (by kernel_rfl)
theorem x13_o4 : x13T4.starts.length < 1048576 ∧ x13T4.push.order.length < 1048576 := ⟨of_decide_eq_true (by kernel_rfl), of_decide_eq_true (by kernel_rfl)⟩
theorem x13_o6 : x13T6.starts.length < 1048576 ∧ x13T6.push.order.length < 1048576 := ⟨of_decide_eq_true (by kernel_rfl), of_decide_eq_true (by kernel_rfl)⟩
theorem x13_o9 : x13T9.starts.length < 1048576 ∧ x13T9.push.order.length < 1048576 ∧ x13T10.order.length < 1048576 := ⟨of_decide_eq_true (by kernel_rfl), of_decide_eq_true (by kernel_rfl), of_decide_eq_true (by kernel_rfl)⟩
theorem x13_o12 : x13T12.order.length < 1048576 := of_decide_eq_true (by kernel_rfl)
theorem x13_last : addW x13A x13T12 x13S12 1 = ⟨0, 130, x13T12, x13S12⟩ := by
  unfold addW
  rw [x13_k12]
end Go.Proofs.YtoojmhjagipmdaaGreat
namespace Go.Proofs.YtoojmhjagipmdaaGreat
open Go.RowKit

/-- clauses of at most six literals of the variables 1 to 6 -/
def Six (cs : List (List Int)) : Prop := cs.length ≤ 900 ∧ ∀ c ∈ cs, c.length ≤ 6 ∧ ∀ y ∈ c, litB y = true ∧ litV y < 7
theorem Six.right {cs : List (List Int)} (h : Six cs) {c : List Int} (hc : c ∈ cs) : clauseB c = true ∧ c.length ≤ 6 := by
  obtain ⟨h2, h3⟩ := h.2 c hc
  refine ⟨?_, h2⟩
  unfold clauseB
  rw [Bool.and_eq_true, decide_eq_true_eq, List.all_eq_true]
  exact ⟨by omega, fun y hy => (h3 y hy).1⟩
theorem Six.fit {cs : List (List Int)} (h : Six cs) : Fit6 (clsC cs) := fun id c hc => by
  obtain ⟨n, rfl, hn, hl⟩ := clsC_some hc
  obtain ⟨h2, h3⟩ := h.2 c (List.mem_of_getElem? hn)
  have := h.1
  exact ⟨by omega, h2, h3⟩
theorem get_cls {cs : List (List Int)} (h : Six cs) (j : Int) : (addAll arn0 0 cs).get j = clsC cs j := by
  have hl := h.1
  rw [(addAll_get cs arn0 0 inv0 (by decide) (by omega) j).1]
  unfold clsC
  by_cases hj : 1 ≤ j
  · rw [if_pos (by omega), if_pos hj, show (j - ((0 : Nat) : Int) - 1).toNat = (j - 1).toNat by omega]
    cases hc : cs[(j - 1).toNat]? with
    | none => rfl
    | some c =>
      show (if clauseB c = true then some c else none) = some c
      rw [if_pos (h.right (List.mem_of_getElem? hc)).1]
  · rw [if_neg (by omega), if_neg hj]
    exact Arn.get_low _ (by omega)
theorem get_find {A : Arn} {id : Int} {c : List Int} (h : A.get id = some c) : (A.find id).isSome = true := by
  cases hf : A.find id with
  | some p => rfl
  | none =>
    unfold Arn.get Arn.ent at h
    rw [hf] at h
    cases h
section
variable {C : Int → Option (List Int)} {T : Trl} {its : List RIt} {S : Wst}
theorem St.find {cs : List (List Int)} (h6 : Six cs) (h : St (clsC cs) T its S) : ∀ id k, S.kn id = some k → ((addAll arn0 0 cs).find id).isSome = true := fun id k hk => by
  obtain ⟨c, hc, _⟩ := h.inv.kn id k hk
  exact get_find ((get_cls h6 id).trans hc)
theorem addTwo_one {c : List Int} (hl : (eachL c).length ≤ 1) (T : Trl) : addTwo T c = eachL c := by
  rcases addTwo_cases T c with ⟨a, b, e, hab, ha, hb⟩ | ⟨_, e⟩
  · have ha' := eachL_mem.2 ha
    have hb' := eachL_mem.2 hb
    cases he : eachL c with
    | nil => rw [he] at ha'; cases ha'
    | cons x r =>
      rw [he] at hl ha' hb'
      have hr : r = [] := List.eq_nil_of_length_eq_zero (by simpa using hl)
      subst hr
      exact absurd ((List.mem_singleton.1 ha').trans (List.mem_singleton.1 hb').symm) hab
  · exact e
/-- what a clause is that is added, and what is told -/
inductive StartO (c : List Int) (K I : Nat) (U : Int) (T' : Trl) (its' : List RIt) : Prop
  | alw (ha : alwL c = true) (hk : K = 4)
  | fails (ha : alwL c = false) (hk : K = 3) (hi : I = 2) (hf : ∀ y ∈ c, Has its' (-y))
  | unit (ha : alwL c = false) (hk : K = 2) (hi : I = 3) (hv : T'.val U = 1) (ho : ∃ y ∈ c, Has its' y)
  | rests (ha : alwL c = false) (hk : K = 1) (hi : I ≠ 2 ∧ I ≠ 3) (ho : (eachL c).length ≤ 1 → ∃ y ∈ c, Has its' y)
theorem start_step (h : St C T its S) (hF : Fit6 C) (hlk : S.looked = 0) {id : Int} {c : List Int} (hc : C id = some c) (hk : S.kn id = none) {f : Int → Int} (hff : ∀ y, litB y = true → ((0 < ofF f y ↔ Has its y) ∧ (ofF f y < 0 ↔ Has its (-y)))) :
    ∃ its', St C (addOk T S id c).T its' (addOk T S id c).S ∧ its <+: its' ∧ (addOk T S id c).T.now = T.now ∧ (addOk T S id c).S.looked = 0 ∧ (∀ j, ((addOk T S id c).S.kn j).isSome = (decide (j = id) || (S.kn j).isSome)) ∧
      StartO c (addOk T S id c).res (lookF f c).1 (lookF f c).2 (addOk T S id c).T its' := by
  obtain ⟨its', h1, h2, h3, h4, h5, h6⟩ := h.add hF hlk hc hk
  refine ⟨its', h1, h2, h3, h4, h5, ?_⟩
  have hcb := (hF id c hc).2.2
  rcases h6 with ⟨ha, hr, _, _⟩ | ⟨ha, hr, h6⟩
  · exact .alw ha hr
  · rcases add_kind h.sim (fun y hy => (hcb y hy).1) hff with ⟨a6, a7, a8⟩ | ⟨a, a6, a7, ha1, ha2, ha3, ha4, ha5⟩ | ⟨a6, a7, y, hy, ht⟩ | ⟨a6, a7, a8⟩
    · rw [a7]
      exact .fails ha (hr.trans a6) rfl (fun y hy => ((h.sim.fal_iff (hcb y hy).1).1 (a8 y hy)).imp fun p ⟨x, hx, e⟩ => ⟨x, pre_get h2 hx, e⟩)
    · rw [a7]
      rcases h6 with ⟨_, hT, hi⟩ | ⟨hne, _⟩
      · have hh : Has its' a := by
          rw [hi, ha4]
          exact ⟨its.length, ⟨a, id, T.now⟩, by simp, rfl⟩
        exact .unit ha (hr.trans a6) rfl (sim_tru h1.sim hh) ⟨a, ha1, hh⟩
      · exact absurd a6 hne
    · rw [a7]
      refine .rests ha (hr.trans a6) (by simp) (fun _ => ⟨y, hy, ?_⟩)
      exact Has.pre h2 ((h.sim.tru_iff (hcb y hy).1).1 ht)
    · rw [a7]
      refine .rests ha (hr.trans a6) (by simp) (fun hl => ?_)
      rw [addTwo_one hl T] at a6
      cases he : eachL c with
      | nil => rw [he] at a6; cases a6
      | cons x r =>
        rw [he] at hl a6
        have hr2 : r = [] := List.eq_nil_of_length_eq_zero (by simpa using hl)
        subst hr2
        have hx : x ∈ c := eachL_mem.1 (by rw [he]; exact List.mem_cons_self)
        have e : addKind T [x] = if T.fal x = true then 3 else if T.tru x = true then 1 else 2 := rfl
        rw [e, a8 x hx] at a6
        split at a6
        · cases a6
        · cases a6
/-- where the level is 0, all is at the level 0 -/
theorem has0_now (h : Sim T its) (h0 : T.now = 0) {y : Int} (hy : Has its y) : Has0 its y := by
  obtain ⟨p, x, hp, e⟩ := hy
  have := h.pos x (List.mem_of_getElem? hp)
  exact ⟨p, x, hp, e, by omega⟩
/-- what has no reason -/
def PZ (B : Int → Prop) (T : Trl) : Prop := ∃ its, Sim T its ∧ ∀ x ∈ its, x.reason = 0 → B x.lit
theorem PZ.assigned {B : Int → Prop} (h : PZ B T) (l r : Int) (hr : r = 0 → B l) : PZ B (T.assigned l r) := by
  obtain ⟨its, h1, h2⟩ := h
  by_cases he : T.assignErr l r = 0
  · refine ⟨_, h1.snoc he, fun x hx h0 => ?_⟩
    rcases List.mem_append.1 hx with hx | hx
    · exact h2 x hx h0
    · rw [List.mem_singleton.1 hx] at h0 ⊢
      exact hr h0
  · have e : T.assigned l r = T := by unfold Trl.assigned; rw [if_neg he]
    rw [e]
    exact ⟨its, h1, h2⟩
theorem PZ.lookOne {B : Int → Prop} {A : Arn} (h : PZ B T) (l id : Int) (hid : id ≠ 0) : PZ B (lookOne A T S l id).1 := by
  unfold Proofs.YtoojmhjagipmdaaGreat.lookOne
  split
  · exact h
  · split
    · exact h
    · split
      · exact h
      · split
        · exact h
        · split
          · exact h
          · exact h.assigned _ _ (fun e => absurd e hid)
theorem PZ.lookGo {B : Int → Prop} {A : Arn} (l : Int) (ids : List Int) : ∀ {T : Trl} {S : Wst}, (∀ id ∈ ids, id ≠ 0) → PZ B T → PZ B (lookGo A T S l ids).1 := by
  induction ids with
  | nil => exact fun _ h => h
  | cons id r ih =>
    intro T S hid h
    have h1 := h.lookOne (A := A) (S := S) l id (hid id List.mem_cons_self)
    rw [lookGo_cons]
    split
    · exact h1
    · exact ih (fun j hj => hid j (List.mem_cons_of_mem _ hj)) h1
theorem PZ.propGo {B : Int → Prop} {A : Arn} (n : Nat) : ∀ {T : Trl} {S : Wst}, S.Bnd → S.Link → (∃ its, Sim T its) → PZ B T → PZ B (propGo A n T S).1 := by
  induction n with
  | zero => exact fun _ _ _ h => h
  | succ n ih =>
    intro T S hb hL hs h
    unfold Proofs.YtoojmhjagipmdaaGreat.propGo
    split
    · exact h
    · rename_i y hy
      have hr := hb.row (litN y)
      have hg := PZ.lookGo (A := A) (S := S) (litN y) (S.row (litN y)) (fun id hid => by have := (hr.2 id hid).1; omega) h
      have ha := lookGo_all A (T := T) (S.row (litN y)) hb hL hs (fun id hid => hid) (up_nodup hr.1)
      split
      · rename_i he
        rw [he] at hg
        exact hg
      · rename_i T' S' he
        rw [he] at hg ha
        obtain ⟨h1, h2, h3, _, _⟩ := ha
        exact ih (S := S'.step) ⟨h1.kr, h1.kb, h1.kl, h1.orr, h1.ob⟩ h2 h3 hg
theorem addOk_pz {B : Int → Prop} (h : PZ B T) {id : Int} {c : List Int} (hid : id ≠ 0) : PZ B (addOk T S id c).T := by
  unfold addOk
  split
  · exact h
  · show PZ B (if addKind T (addTwo T c) = 2 then T.assigned ((addTwo T c).headD 0) id else T)
    split
    · exact h.assigned _ _ (fun e => absurd e hid)
    · exact h
/-- what is known -/
structure Beg (cs : List (List Int)) (k : Nat) (T : Trl) (its : List RIt) (S : Wst) (fl : Bool) : Prop where
  st : St (clsC cs) T its S
  now : T.now = 0
  lk : S.looked = 0
  kn : ∀ j, (S.kn j).isSome = decide (1 ≤ j ∧ j ≤ (k : Int))
  one : fl = false → One (clsC cs) (fun j => 1 ≤ j ∧ j ≤ (k : Int)) its
  bad : fl = true → ∃ c ∈ cs, ∀ y ∈ c, Has its (-y)
  pz : PZ (fun _ => False) T
theorem beg0 (cs : List (List Int)) : Beg cs 0 (trl0 6) [] ⟨[], [], 0⟩ false where
  st := st0 _
  now := rfl
  lk := rfl
  kn := fun j => by
    rw [decide_eq_false (by omega)]
    rfl
  one := fun _ id c hk _ _ _ => by omega
  bad := fun h => by cases h
  pz := ⟨[], (st0 (fun _ => none)).sim, fun x hx => by cases hx⟩
theorem Beg.next {cs : List (List Int)} {k : Nat} {fl : Bool} (h : Beg cs k T its S fl) (h6 : Six cs) {c : List Int} (hc : cs[k]? = some c) {f : Int → Int} (hff : ∀ y, litB y = true → ((0 < ofF f y ↔ Has its y) ∧ (ofF f y < 0 ↔ Has its (-y)))) :
    ∃ its', Beg cs (k + 1) (addOk T S ((k : Int) + 1) c).T its' (addOk T S ((k : Int) + 1) c).S (fl || decide ((addOk T S ((k : Int) + 1) c).res = 3)) ∧ StartO c (addOk T S ((k : Int) + 1) c).res (lookF f c).1 (lookF f c).2 (addOk T S ((k : Int) + 1) c).T its' := by
  have hcc : clsC cs ((k : Int) + 1) = some c := by
    unfold clsC
    rw [if_pos (by omega), show ((k : Int) + 1 - 1).toNat = k by omega]
    exact hc
  have hn : S.kn ((k : Int) + 1) = none := by
    have := h.kn ((k : Int) + 1)
    rw [decide_eq_false (by omega)] at this
    exact Option.isSome_eq_false_iff.1 this |> Option.isNone_iff_eq_none.1
  obtain ⟨its', h1, h2, h3, h4, h5, ho⟩ := start_step h.st h6.fit h.lk hcc hn hff
  refine ⟨its', ⟨h1, h3.trans h.now, h4, fun j => ?_, fun hf => ?_, fun hf => ?_, addOk_pz h.pz (by omega)⟩, ho⟩
  · rw [h5, h.kn]
    by_cases e : j = (k : Int) + 1
    · subst e
      simp
      omega
    · rw [decide_eq_false e, Bool.false_or]
      congr 1
      apply propext
      omega
  · rw [Bool.or_eq_false_iff] at hf
    intro j d hj hd ha hl
    by_cases e : j = (k : Int) + 1
    · subst e
      rw [hcc] at hd
      obtain rfl := Option.some.inj hd
      have key : ∃ y ∈ c, Has its' y := by
        rcases ho with ⟨a1, _⟩ | ⟨_, a2, _⟩ | ⟨_, _, _, _, a5⟩ | ⟨_, _, _, a4⟩
        · rw [a1] at ha; cases ha
        · rw [a2] at hf; cases hf.2
        · exact a5
        · exact a4 hl
      obtain ⟨y, hy, hh⟩ := key
      exact ⟨y, hy, has0_now h1.sim (h3.trans h.now) hh⟩
    · obtain ⟨y, hy, hh⟩ := h.one hf.1 j d (by omega) hd ha hl
      exact ⟨y, hy, hh.pre h2⟩
  · rw [Bool.or_eq_true] at hf
    rcases hf with hf | hf
    · obtain ⟨d, hd, hh⟩ := h.bad hf
      exact ⟨d, hd, fun y hy => (hh y hy).pre h2⟩
    · have hf := of_decide_eq_true hf
      rcases ho with ⟨_, a2⟩ | ⟨_, _, _, a4⟩ | ⟨_, a2, _⟩ | ⟨_, a2, _⟩
      · rw [a2] at hf; cases hf
      · exact ⟨c, List.mem_of_getElem? hc, a4⟩
      · rw [a2] at hf; cases hf
      · rw [a2] at hf; cases hf
/-- a watch that knows all of some clauses, from the level 0 on -/
structure Run (cs : List (List Int)) (T : Trl) (its : List RIt) (S : Wst) : Prop where
  st : St (clsC cs) T its S
  kn : ∀ j, (S.kn j).isSome = (clsC cs j).isSome
  one : One (clsC cs) (fun _ => True) its
  lk : S.looked = its.length
theorem Beg.all {cs : List (List Int)} {fl : Bool} (h : Beg cs cs.length T its S fl) (j : Int) : (S.kn j).isSome = (clsC cs j).isSome := by
  rw [h.kn]
  unfold clsC
  by_cases h1 : 1 ≤ j
  · rw [if_pos h1]
    cases hc : cs[(j - 1).toNat]? with
    | none =>
      rw [List.getElem?_eq_none_iff] at hc
      exact decide_eq_false (by omega)
    | some c =>
      have := (List.getElem?_eq_some_iff.1 hc).1
      exact decide_eq_true (by omega)
  · rw [if_neg h1]
    exact decide_eq_false (by omega)
theorem Beg.ones {cs : List (List Int)} (h : Beg cs cs.length T its S false) : One (clsC cs) (fun _ => True) its := fun id c _ hc ha hl => by
  obtain ⟨n, hn, _, hl2⟩ := clsC_some hc
  exact h.one rfl id c (by omega) hc ha hl
end
end Go.Proofs.YtoojmhjagipmdaaGreat
namespace Go.Proofs.YtoojmhjagipmdaaGreat
open Go.RowKit

/-- a decision -/
def decA (T : Trl) (y : Int) : Trl := if T.val y = 0 then T.assigned y 0 else T
def decT (T : Trl) (l : Int) : Trl := decA T.push l
end Go.Proofs.YtoojmhjagipmdaaGreat
namespace Go.Proofs.YtoojmhjagipmdaaGreat
open Go.RowKit

section
variable {cs : List (List Int)} {T : Trl} {its : List RIt} {S : Wst}
theorem Has.two (h : Sim T its) {y : Int} (hy : litB y = true) (h1 : Has its y) (h2 : Has its (-y)) : False := by
  obtain ⟨p, x, hp, e⟩ := h1
  obtain ⟨q, z, hq, e2⟩ := h2
  have := h.inj hp hq (by rw [e, e2, litV_negate])
  subst this
  rw [hp] at hq
  obtain rfl := Option.some.inj hq
  have := (litB_iff y).1 hy
  omega
/-- a watched literal that is false: the other is true -/
theorem St.other (h : St (clsC cs) T its S) (hl : S.looked = its.length) {id : Int} {k : Kn} (hk : S.kn id = some k) {a : Int} (ha : a ∈ k.by_) (hf : Has its (-a)) : Has its (k.other a) := by
  obtain ⟨p, x, hp, e⟩ := hf
  have hpl := (List.getElem?_eq_some_iff.1 hp).1
  obtain ⟨q, y, hq, h1, _⟩ := h.inv.w id k a hk ha p x (by omega) hp e
  exact ⟨q, y, hq, h1⟩
theorem lits_one {c : List Int} (hl : (eachL c).length ≤ 1) {a b : Int} (ha : a ∈ c) (hb : b ∈ c) : a = b := by
  have ha' := eachL_mem.2 ha
  have hb' := eachL_mem.2 hb
  cases he : eachL c with
  | nil => rw [he] at ha'; cases ha'
  | cons x r =>
    rw [he] at hl ha' hb'
    have hr : r = [] := List.eq_nil_of_length_eq_zero (by simpa using hl)
    subst hr
    exact (List.mem_singleton.1 ha').trans (List.mem_singleton.1 hb').symm
theorem Run.known (h : Run cs T its S) {id : Int} {c : List Int} (hc : clsC cs id = some c) : ∃ k, S.kn id = some k ∧ k.lits = eachL c := by
  have hk := h.kn id
  rw [hc] at hk
  obtain ⟨k, hk⟩ := Option.isSome_iff_exists.1 hk
  obtain ⟨d, hd, hl⟩ := h.st.inv.kn id k hk
  rw [hc] at hd
  obtain rfl := Option.some.inj hd
  exact ⟨k, hk, hl⟩
/-- a clause all but one of whose literals are false has that one -/
theorem Run.closed (h : Run cs T its S) (h6 : Six cs) {id : Int} {c : List Int} (hc : clsC cs id = some c) {a : Int} (ha : a ∈ c) (ho : ∀ y ∈ c, y ≠ a → Has its (-y)) : Has its a := by
  have hcb := (h6.fit id c hc).2.2
  obtain ⟨k, hk, hkl⟩ := h.known hc
  obtain ⟨_, hby, _, hlb⟩ := h.st.inv.bnd.kn hk
  rcases hby with h0 | ⟨p, q, hpq, hb, hp, hq⟩
  · cases hal : alwL c with
    | true =>
      obtain ⟨y, hy, hny⟩ := alwL_two hal
      by_cases e1 : y = a
      · subst e1
        have hne : -y ≠ y := fun e => by
          have := (litB_iff y).1 (hcb y hy).1
          omega
        have := ho (-y) hny hne
        rwa [Int.neg_neg] at this
      · by_cases e2 : -y = a
        · have := ho y hy e1
          rwa [e2] at this
        · have h1 := ho y hy e1
          have h2 := ho (-y) hny e2
          rw [Int.neg_neg] at h2
          exact (Has.two h.st.sim (hcb y hy).1 h2 h1).elim
    | false =>
      rcases h.st.inv.two id k c hk hc h0 with h2 | h2
      · rw [hal] at h2; cases h2
      · rw [hkl] at h2
        obtain ⟨y, hy, hh⟩ := h.one id c trivial hc hal h2
        rw [lits_one h2 ha hy]
        exact hh.has
  · rw [hkl] at hp hq
    have hp' := eachL_mem.1 hp
    have hq' := eachL_mem.1 hq
    have hpm : p ∈ k.by_ := by rw [hb]; simp
    have hqm : q ∈ k.by_ := by rw [hb]; simp
    have op : k.other p = q := by unfold Kn.other; rw [hb]; simp
    have oq : k.other q = p := by unfold Kn.other; rw [hb]; simp [hpq]
    by_cases e1 : q = a
    · have hne : p ≠ a := fun e => hpq (e.trans e1.symm)
      have := h.st.other h.lk hk hpm (ho p hp' hne)
      rwa [op, e1] at this
    · have h1 := h.st.other h.lk hk hqm (ho q hq' e1)
      rw [oq] at h1
      by_cases e2 : p = a
      · rwa [e2] at h1
      · exact (Has.two h.st.sim (hcb p hp').1 h1 (ho p hp' e2)).elim
/-- no clause is unit, or fails -/
theorem Run.done (h : Run cs T its S) (h6 : Six cs) {f : Int → Int} (hff : ∀ y, litB y = true → ((0 < ofF f y ↔ Has its y) ∧ (ofF f y < 0 ↔ Has its (-y)))) : ∀ c ∈ cs, alwL c = true ∨ (lookF f c).1 = 1 ∨ (lookF f c).1 = 4 := fun c hm => by
  obtain ⟨n, hn⟩ := List.getElem?_of_mem hm
  have hc : clsC cs ((n : Int) + 1) = some c := by
    unfold clsC
    rw [if_pos (by omega), show ((n : Int) + 1 - 1).toNat = n by omega]
    exact hn
  have hcb := (h6.fit _ c hc).2.2
  cases hal : alwL c with
  | true => exact .inl rfl
  | false =>
    right
    by_cases hex : ∃ y ∈ c, 0 < ofF f y
    · left
      rw [show lookF f c = (1, 0) from k_hold hex _ _]
    · right
      have hno : ∀ y ∈ c, ¬ 0 < ofF f y := fun y hy h => hex ⟨y, hy, h⟩
      have hnh : ∀ y ∈ c, ¬ Has its y := fun y hy hh => hno y hy ((hff y (hcb y hy).1).1.2 hh)
      obtain ⟨k, hk, hkl⟩ := h.known hc
      obtain ⟨_, hby, _, _⟩ := h.st.inv.bnd.kn hk
      rcases hby with h0 | ⟨p, q, hpq, hb, hp, hq⟩
      · rcases h.st.inv.two _ k c hk hc h0 with h2 | h2
        · rw [hal] at h2; cases h2
        · rw [hkl] at h2
          obtain ⟨y, hy, hh⟩ := h.one _ c trivial hc hal h2
          exact absurd hh.has (hnh y hy)
      · rw [hkl] at hp hq
        have hp' := eachL_mem.1 hp
        have hq' := eachL_mem.1 hq
        have hpm : p ∈ k.by_ := by rw [hb]; simp
        have hqm : q ∈ k.by_ := by rw [hb]; simp
        have op : k.other p = q := by unfold Kn.other; rw [hb]; simp
        have oq : k.other q = p := by unfold Kn.other; rw [hb]; simp [hpq]
        have zp : ofF f p = 0 := by
          have : ¬ ofF f p < 0 := fun h2 => by
            have := h.st.other h.lk hk hpm ((hff p (hcb p hp').1).2.1 h2)
            rw [op] at this
            exact hnh q hq' this
          have := hno p hp'
          omega
        have zq : ofF f q = 0 := by
          have : ¬ ofF f q < 0 := fun h2 => by
            have := h.st.other h.lk hk hqm ((hff q (hcb q hq').1).2.1 h2)
            rw [oq] at this
            exact hnh p hp' this
          have := hno q hq'
          omega
        rw [k_open hpq hp' hq' zp zq hno (fun y hy => by
          have := (litB_iff y).1 (hcb y hy).1
          omega)]
/-- a decision -/
structure DecO (cs : List (List Int)) (T : Trl) (its : List RIt) (S : Wst) (l : Int) (R : Trl × Wst × Option Int) (its' : List RIt) : Prop where
  st : St (clsC cs) R.1 its' R.2.1
  pre : its <+: its'
  now : R.1.now = T.now + 1
  kn : ∀ j, (R.2.1.kn j).isSome = (clsC cs j).isSome
  one : One (clsC cs) (fun _ => True) its'
  has : Has its' l ∨ Has its (-l)
  src : ∀ (p : Nat) (x : RIt), its'[p]? = some x → x.reason = 0 → Has its x.lit ∨ x.lit = l
  ok : R.2.2 = none → Run cs R.1 its' R.2.1
  bad : ∀ id, R.2.2 = some id → ∃ c, clsC cs id = some c ∧ ∀ y ∈ c, Has its' (-y)
theorem dec_step (h : Run cs T its S) (h6 : Six cs) {l : Int} (hl : litB l = true ∧ litV l < 7) : ∃ its', DecO cs T its S l (propW (addAll arn0 0 cs) (decT T l) S) its' := by
  have hp := h.st.push h.lk
  have key : ∃ i1, St (clsC cs) (decT T l) i1 S ∧ its <+: i1 ∧ (decT T l).now = T.now + 1 ∧ (Has i1 l ∨ Has its (-l)) ∧ ∀ x ∈ i1, x.reason = 0 → Has its x.lit ∨ x.lit = l := by
    have hold : ∀ x ∈ its, Has its x.lit := fun x hx => by
      obtain ⟨p, hp, e⟩ := List.getElem_of_mem hx
      exact ⟨p, x, by rw [List.getElem?_eq_getElem hp, e], rfl⟩
    unfold decT decA
    by_cases hz : T.push.val l = 0
    · rw [if_pos hz]
      have herr := free_err (T := T.push) h.st.vars hl.1 hl.2 hz (r := 0) ⟨by omega, by omega⟩
      refine ⟨_, hp.assign herr (fun h => absurd rfl h), ⟨_, rfl⟩, (assigned_now _ _ _).trans push_now, .inl ⟨its.length, ⟨l, 0, T.push.now⟩, by simp, rfl⟩, fun x hx _ => ?_⟩
      rcases List.mem_append.1 hx with hx | hx
      · exact .inl (hold x hx)
      · rw [List.mem_singleton.1 hx]
        exact .inr rfl
    · rw [if_neg hz]
      refine ⟨its, hp, List.prefix_refl _, push_now, ?_, fun x hx _ => .inl (hold x hx)⟩
      by_cases h1 : T.push.fal l = true
      · exact .inr ((hp.sim.fal_iff hl.1).1 h1)
      · by_cases h2 : T.push.tru l = true
        · exact .inl ((hp.sim.tru_iff hl.1).1 h2)
        · exact absurd (sim_val (Bool.not_eq_true _ ▸ h1) (Bool.not_eq_true _ ▸ h2)) hz
  obtain ⟨i1, hs1, hp1, hn1, hh1, hz1⟩ := key
  obtain ⟨its', h1, h2, h3, h4, h5⟩ := hs1.prop (A := addAll arn0 0 cs) h6.fit (h.st.find h6)
  have hpz := PZ.propGo (B := fun y => Has its y ∨ y = l) (A := addAll arn0 0 cs) ((decT T l).vars.length + 1) hs1.inv.bnd hs1.inv.link ⟨i1, hs1.sim⟩ ⟨i1, hs1.sim, hz1⟩
  have hkn : ∀ j, ((propW (addAll arn0 0 cs) (decT T l) S).2.1.kn j).isSome = (clsC cs j).isSome := fun j => (h4 j).trans (h.kn j)
  have hone := (h.one.pre hp1).pre h2
  refine ⟨its', h1, hp1.trans h2, h3.trans hn1, hkn, hone, hh1.imp_left (Has.pre h2), fun p x hx h0 => ?_, fun hr => ?_, fun id hr => ?_⟩
  · obtain ⟨i2, a1, a2⟩ := hpz
    have : its' = i2 := h1.sim.uniq a1
    subst this
    exact a2 x (List.mem_of_getElem? hx) h0
  · rcases h5 with ⟨_, h5⟩ | ⟨id, c, h5, _⟩
    · exact ⟨h1, hkn, hone, h5⟩
    · rw [hr] at h5; cases h5
  · rcases h5 with ⟨h5, _⟩ | ⟨id', c, h5, hc, hf⟩
    · rw [hr] at h5; cases h5
    · rw [hr] at h5
      obtain rfl := Option.some.inj h5
      exact ⟨c, hc, hf⟩
/-- the watch behind Back -/
def backS (T : Trl) (S : Wst) (j : Int) : Wst := ⟨S.known, S.of, min S.looked (T.backed j).order.length⟩
/-- going back -/
theorem back_step (h : St (clsC cs) T its S) (hkn : ∀ j, (S.kn j).isSome = (clsC cs j).isSome) (hone : One (clsC cs) (fun _ => True) its) {j : Int} (h0 : 0 ≤ j) (hj : j < T.now ∨ j = T.now ∧ S.looked = its.length) :
    ∃ its', Run cs (T.backed j) its' (backS T S j) ∧ (T.backed j).now = j ∧ T.backErr j = 0 ∧ its' <+: its ∧ ∀ y, Has0 its y → Has0 its' y := by
  have hn := now_eq (T := T)
  have herr : T.backErr j = 0 := by
    unfold Trl.backErr
    rw [if_neg (by omega)]
  rcases hj with hj | ⟨hj, hl⟩
  · obtain ⟨k, rfl⟩ : ∃ k : Nat, j = k := ⟨j.toNat, by omega⟩
    have hlt : k + 1 < T.starts.length := by omega
    obtain ⟨s, hs⟩ := getElem_of hlt
    have e1 : T.starts.getD (k + 1) 0 = s := by rw [List.getD_eq_getElem?_getD, hs]; rfl
    have eb : T.backed (k : Int) = T.back k s.toNat := by
      unfold Trl.backed
      rw [if_pos (by omega), Int.toNat_natCast, e1]
    unfold backS
    rw [eb]
    obtain ⟨h1, h2, h3, h4⟩ := h.back hlt hs
    refine ⟨_, ⟨h1, hkn, fun id c _ hc ha hl => ?_, h2⟩, h4, herr, List.take_prefix _ _, h3⟩
    obtain ⟨y, hy, hh⟩ := hone id c trivial hc ha hl
    exact ⟨y, hy, h3 y hh⟩
  · have eb : T.backed j = T := by
      unfold Trl.backed
      rw [if_neg (by omega)]
    have hol : T.order.length = its.length := by rw [h.sim.order, List.length_map]
    have e2 : (⟨S.known, S.of, min S.looked T.order.length⟩ : Wst) = S := by
      rw [show min S.looked T.order.length = S.looked by omega]
    unfold backS
    rw [eb, e2]
    exact ⟨its, ⟨h, hkn, hone, hl⟩, hj.symm, herr, List.prefix_refl _, fun _ h => h⟩
/-- what follows of some literals follows again -/
theorem closed_sub {C2 : Int → Option (List Int)} {i2 : List RIt} (hr : Rsn C2 i2) {H : Int → Prop} (hcl : ∀ id c, C2 id = some c → ∀ a ∈ c, (∀ y ∈ c, y ≠ a → H (-y)) → H a) (h0 : ∀ (p : Nat) (x : RIt), i2[p]? = some x → x.reason = 0 → H x.lit) : ∀ y, Has i2 y → H y := by
  have key : ∀ n : Nat, ∀ (p : Nat) (x : RIt), p < n → i2[p]? = some x → H x.lit := by
    intro n
    induction n with
    | zero => exact fun p x h => by omega
    | succ n ih =>
      intro p x hp hx
      by_cases hz : x.reason = 0
      · exact h0 p x hx hz
      · obtain ⟨c, hc, hxc, ho⟩ := hr p x hx hz
        refine hcl _ c hc x.lit hxc (fun y hy hne => ?_)
        obtain ⟨q, z, hq, hz2, e⟩ := ho y hy hne
        rw [← e]
        exact ih q z (by omega) hz2
  rintro y ⟨p, x, hp, rfl⟩
  exact key (p + 1) p x (Nat.lt_succ_self p) hp
end
end Go.Proofs.YtoojmhjagipmdaaGreat
