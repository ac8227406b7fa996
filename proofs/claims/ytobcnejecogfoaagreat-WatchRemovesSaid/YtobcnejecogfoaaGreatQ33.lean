/- package salvorlaw13: assigned; package rup: Look. Calls at a watch, its arena and its trail: what a law's function keeps. package salvorlaw13: reasons, complete, decide. Plain: the example of chapter 13. -/
import Derived.Test.YtobcnejecogfoaaGreatQ31
import Derived.Test.YtobcnejecogfoaaGreatQ21
import Derived.Test.YtobcnejecogfoaaGreatQ03
import Derived.Test.YtobcnejecogfoaaGreatQ28
import Derived.Test.YtobcnejecogfoaaGreatQ29
import Derived.Test.YtobcnejecogfoaaGreatQ32
import Derived.Test.YtobcnejecogfoaaGreatQ15
namespace Go.Proofs.YtobcnejecogfoaaGreat
open Go.RowKit Go.Maps Go.Shelf

theorem IntsIn.take {O : Nat → Prop} {w : World} {A : Option Addr} {n c : Nat} {xs : List Int} (h : IntsIn O w (.slice A n c) xs) {k : Nat} (hk : k ≤ xs.length) : IntsIn O w (.slice A k c) (xs.take k) := by
  obtain ⟨A', c', e, hc, hn, hx⟩ := h
  cases e
  have hl : (xs.take k).length = k := by rw [List.length_take]; omega
  refine ⟨A, c, by rw [hl], by omega, hn, fun i x hi => ?_⟩
  have hik := (List.getElem?_eq_some_iff.1 hi).1
  rw [List.getElem?_take, if_pos (by omega)] at hi
  exact hx i x hi
set_option maxRecDepth 100000 in
set_option maxHeartbeats 2000000 in
theorem rup_Look {O Oc : Nat → Prop} (cv u : Value) (c xs : List Int) (w : World) (hc : IntsIn Oc w cv c) (hu : IntsIn O w u xs) (hcb : clauseB c = true) (f : Int → Int) (hf : asgF xs = some f) (hcl : c.length ≤ 4096) (hlen : xs.length ≤ 100000000000) :
    Calls Tryz.prog 21 #[cv, u] w fun e w' => e = .returned (.tuple #[.int .u8 ((lookF f c).1 : Nat), .int .i64 (lookF f c).2, .int .i64 0]) ∧ Below w.heap.size w w' := by
  have HA := Lib.hid (rup_assigned u xs w hu hlen)
  have HC := Lib.hid hc
  have HF := Lib.hid hf
  obtain ⟨A, k, rfl, _⟩ := hu
  obtain ⟨Ac, kc, rfl, _⟩ := hc
  clear hf
  go_enter Tryz.func21, Tryz.ntmps21
  go_wp2_with fail
  refine HA.out.mono ?_
  rintro e w1 ⟨ho, hb1⟩
  rw [HF.out] at ho
  obtain ⟨b, n, rfl, _, _, hm, hok⟩ := ho
  have hr := right_clause _ c w1 (HC.out.below hb1) (by omega)
  rw [hcb] at hr
  have HR := Lib.hid hr
  have HL := Lib.hid (rup_look b n f _ c w1 hm hok (HC.out.below hb1) (by omega))
  have HB := Lib.hid hb1
  clear hr hm hok hb1 HA
  go_wp2_with fail
  refine HR.out.mono ?_
  rintro e w' ⟨rfl, rfl⟩
  go_wp2_with fail
  refine HL.out.mono ?_
  rintro e w' ⟨rfl, rfl⟩
  go_wp2_with fail
  go_ret3
  exact ⟨rfl, HB.out⟩
set_option maxRecDepth 100000 in
set_option maxHeartbeats 2000000 in
theorem law_assigned {O : Nat → Prop} (tb : Nat) (T : Trl) (w : World) (h : TrAt O w tb T) (hlen : T.order.length ≤ 40) :
    Calls Tryz.prog 22 #[.pointer (some ⟨tb, 0, none⟩)] w fun e w' => ∃ v, e = .returned v ∧ w'.ownsRow w.heap.size 39 1 v T.order.length (T.order.map (Value.int .i64)) ∧ Below w.heap.size w w' := by
  obtain ⟨i0, hi, hz0, hz1, hz2⟩ := info_parts info_lit
  have HL := Lib.hid (tr_len tb T w h)
  have HT := Lib.hid h
  have hN : min (T.order.length : Int) (40 : Int) = (T.order.length : Int) := by omega
  clear h
  go_enter Tryz.func22, Tryz.ntmps22
  go_wp2_with fail
  refine HL.out.mono ?_
  rintro e w' ⟨rfl, rfl⟩
  go_wp2_with fail
  go_loopw [3, 10] (fun v i wr => ∃ k : Nat, k ≤ T.order.length ∧ i = .int .i64 k ∧ Hid (Below w.heap.size w wr) ∧ Hid (wr.ownsRow w.heap.size 39 1 v k ((T.order.take k).map (Value.int .i64)))) (fun _ i _ => T.order.length - (intOf i).toNat)
  case atStart => exact ⟨0, Nat.zero_le _, rfl, Lib.hid (Below.refl _ _), Lib.hid (World.ownsRow_nil _ _ _ _)⟩
  case round =>
    obtain ⟨k, hk, rfl, HB, HR⟩ := hrel
    by_cases hlt : k < T.order.length
    · obtain ⟨x, hxk⟩ := getElem_of hlt
      have HAT := Lib.hid (tr_at tb T k x wr (HT.out.below HB.out) hxk)
      have HXK := Lib.hid hxk
      clear hxk
      go_wp2_with fail
      refine HAT.out.mono ?_
      rintro e w' ⟨rfl, rfl⟩
      go_wp2_with (at_builtin; refine wpList_append_own_at _ rfl _ _ 40 rfl w.heap.size 39 i0 (.int .i64 0) 1 8 Tryz.underlying40 hi hz0 hz1 hz2 rfl (by decide) _ k _ rfl (own_below HR.out (below_alloc1 wr _)) ⟨wr.heap.size, 0, none⟩ 1 1 [.int .i64 x] rfl rfl (cell_one_new' _ _ _) (by simp [Value.oneCell']) (by unfold maxLen; omega) (by omega) (by have := HB.out.size; simp; omega) ?_; intro v' w1 hown hgrow hnl hat)
      obtain ⟨Av, kv, rfl, _⟩ := mx_slice hown
      have hb1 : Below w.heap.size w w1 := (HB.out.trans ((below_alloc1 wr (.cells #[.int .i64 x] 39)).mono HB.out.size)).grown hgrow (by have := HB.out.size; simp; omega) (fun g hg => (own_lt HR.out g hg).1)
      have htk : (T.order.take (k + 1)).map (Value.int .i64) = (T.order.take k).map (Value.int .i64) ++ [.int .i64 x] := by
        rw [List.take_add_one, HXK.out]
        simp
      have HO := Lib.hid hown
      have HB1 := Lib.hid hb1
      have HTK := Lib.hid htk
      clear hown hgrow hnl hat hb1 htk
      go_wp2
      go_roundw
      case rel => exact ⟨k + 1, by omega, by go_num, HB1, Lib.hid (by rw [HTK.out]; exact HO.out)⟩
      case measure => simp [intOf]; omega
    · obtain rfl : k = T.order.length := by omega
      have hro := HR.out
      rw [List.take_length] at hro
      have HRO := Lib.hid hro
      clear hro
      go_wp2_with fail
      go_ret
      exact ⟨_, rfl, HRO.out, HB.out⟩
end Go.Proofs.YtobcnejecogfoaaGreat
namespace Go.Proofs.YtobcnejecogfoaaGreat
open Go.RowKit

structure Lw (w0 w : World) (lab : Nat → Nat) (b ab tb : Nat) (A : Arn) (T : Trl) (S : Wst) : Prop where
  sys : SysAt w lab b ab tb A T S
  ge : ∀ g, lab g ≠ 0 → w0.heap.size ≤ g
  hb : Below w0.heap.size w0 w
def LwNext (w0 w w' : World) (lab : Nat → Nat) (b ab tb : Nat) (A : Arn) (T : Trl) (S : Wst) : Prop := ∃ lab', Lw w0 w' lab' b ab tb A T S ∧ Labs lab lab' w w'
section
variable {w0 w w' : World} {lab : Nat → Nat} {b ab tb : Nat} {A A' : Arn} {T T' : Trl} {S S' : Wst}
theorem Lw.below (h : Lw w0 w lab b ab tb A T S) (k : Below w.heap.size w w') : Lw w0 w' lab b ab tb A T S := ⟨h.sys.below k, h.ge, h.hb.trans (k.mono h.hb.size)⟩
theorem Lw.next (h : Lw w0 w lab b ab tb A T S) (k : SysNext w w' lab b ab tb A' T' S') : LwNext w0 w w' lab b ab tb A' T' S' := by
  obtain ⟨lab', h1, h2⟩ := k
  exact ⟨lab', ⟨h1, h2.ge h.ge h.hb.size, h.hb.trans (h2.below h.ge h.hb.size)⟩, h2⟩
theorem LwNext.sys {b2 : Nat} (h : LwNext w0 w w' lab b2 ab tb A T S) : SysNext w w' lab b2 ab tb A T S := by
  obtain ⟨l, h1, h2⟩ := h
  exact ⟨l, h1.sys, h2⟩
theorem lw_push (h : Lw w0 w lab b ab tb A T S) (hn : T.starts.length < 1048576) :
    Calls Tryz.prog 25 #[.pointer (some ⟨tb, 0, none⟩)] w fun e w' => e = .returned (.int .i64 0) ∧ LwNext w0 w w' lab b ab tb A T.push S := by
  refine (tr_push tb T w h.sys.tr hn).mono ?_
  rintro e w' ⟨rfl, hb⟩
  exact ⟨rfl, h.next (h.sys.tr_next hb)⟩
theorem lw_assign (h : Lw w0 w lab b ab tb A T S) (l r : Int) (hno : T.order.length < 1048576) :
    Calls Tryz.prog 27 #[.pointer (some ⟨tb, 0, none⟩), .int .i64 l, .int .i64 r] w fun e w' => e = .returned (.int .i64 (T.assignErr l r : Nat)) ∧ LwNext w0 w w' lab b ab tb A (T.assigned l r) S := by
  refine (tr_assign tb T l r w h.sys.tr hno).mono ?_
  rintro e w' ⟨rfl, hb⟩
  exact ⟨rfl, h.next (h.sys.tr_next hb)⟩
theorem lw_back (h : Lw w0 w lab b ab tb A T S) (j : Int) (hst : ∀ s ∈ T.starts, 0 ≤ s ∧ s ≤ (T.order.length : Int)) (hfit : ∀ l ∈ T.order, litV l < T.vars.length) :
    Calls Tryz.prog 17 #[.pointer (some ⟨b, 0, none⟩), .int .i64 j] w fun r w' => r = .returned (.int .i64 (T.backErr j : Nat)) ∧ LwNext w0 w w' lab b ab tb A (T.backed j) ⟨S.known, S.of, min S.looked (T.backed j).order.length⟩ := by
  refine (wa_back b ab tb A T (T.backed j) S j _ w lab h.sys (tr_back_any tb T j w h.sys.tr hst hfit)).mono ?_
  rintro e w' ⟨rfl, hb⟩
  exact ⟨rfl, h.next hb⟩
theorem lw_add (h : Lw w0 w lab b ab tb A T S) (id : Int) (hwf : (Lit.int .i64 id).wf = true) (hA : ∀ c, A.get id = some c → c.length < 20 ∧ clauseB c = true ∧ 1 ≤ id ∧ id ≤ 1073741824) (hno : T.order.length < 1048576) (hL : S.Link) :
    Calls Tryz.prog 28 #[.pointer (some ⟨b, 0, none⟩), .int .i64 id] w fun e w' => e = .returned (.tuple #[.int .u8 ((addW A T S id).res : Nat), .int .i64 ((addW A T S id).err : Nat)]) ∧ LwNext w0 w w' lab b ab tb A (addW A T S id).T (addW A T S id).S := by
  refine (wa_add b ab tb A T S id w lab h.sys hwf hA hno hL).mono ?_
  rintro e w' ⟨rfl, hb⟩
  exact ⟨rfl, h.next hb⟩
theorem lw_prop (h : Lw w0 w lab b ab tb A T S) (hL : S.Link) (hsim : ∃ its, Sim T its) (hfew : T.vars.length ≤ 1000000) :
    Calls Tryz.prog 45 #[.pointer (some ⟨b, 0, none⟩)] w fun e w' => e = .returned (.tuple #[.int .i64 ((propW A T S).2.2.getD 0), .bool (propW A T S).2.2.isSome, .int .i64 0]) ∧ LwNext w0 w w' lab b ab tb A (propW A T S).1 (propW A T S).2.1 := by
  refine (wa_propagate b ab tb A T S w lab h.sys hL hsim hfew).mono ?_
  rintro e w' ⟨rfl, hb⟩
  exact ⟨rfl, h.next hb⟩
theorem Sim.pushT {its : List RIt} (h : Sim T its) : Sim T.push its := ⟨h.order, h.size, h.at_, h.free, h.mono, fun x hx => by
  have := h.pos x hx
  have e : T.push.now = T.now + 1 := by simp only [Trl.push, Trl.now, List.length_append, List.length_cons, List.length_nil]; omega
  omega, by
  have := h.now
  have e : T.push.now = T.now + 1 := by simp only [Trl.push, Trl.now, List.length_append, List.length_cons, List.length_nil]; omega
  omega⟩
theorem Sim.few {its : List RIt} (h : Sim T its) (hv : T.vars.length = 7) : T.order.length ≤ 6 := by
  have := h.len
  rw [h.order, List.length_map]
  rcases this with h | h
  · omega
  · rw [h]
    exact Nat.zero_le _
theorem Sim.fit {its : List RIt} (h : Sim T its) : ∀ l ∈ T.order, litV l < T.vars.length := fun l hl => by
  rw [h.order] at hl
  obtain ⟨x, hx, rfl⟩ := List.mem_map.1 hl
  obtain ⟨p, hp, e⟩ := List.getElem_of_mem hx
  exact (h.varlt (p := p) (x := x) (by rw [List.getElem?_eq_getElem hp, e])).2
end
end Go.Proofs.YtobcnejecogfoaaGreat
namespace Go.Proofs.YtobcnejecogfoaaGreat
open Go.RowKit

/-- the clauses by their numbers -/
def clsC (cs : List (List Int)) (id : Int) : Option (List Int) := if 1 ≤ id then cs[(id - 1).toNat]? else none
theorem clsC_some {cs : List (List Int)} {id : Int} {c : List Int} (h : clsC cs id = some c) : ∃ n : Nat, id = n + 1 ∧ cs[n]? = some c ∧ n < cs.length := by
  unfold clsC at h
  split at h
  · exact ⟨(id - 1).toNat, by omega, h, (List.getElem?_eq_some_iff.1 h).1⟩
  · cases h
/-- what a clause is, where all others of its literals are false -/
theorem rsn_look {its : List RIt} (hl : ∀ x ∈ its, litB x.lit = true) (hn : (its.map fun x => litV x.lit).Nodup) {k : Nat} {x : RIt} (hk : its[k]? = some x) {c : List Int} (hx : x.lit ∈ c) (hc : ∀ y ∈ c, litB y = true) (ho : ∀ y ∈ c, y ≠ x.lit → HasAt its k (-y)) :
    ∃ f, asgF ((its.map RIt.lit).take k) = some f ∧ lookF f c = (3, x.lit) := by
  have hkl := (List.getElem?_eq_some_iff.1 hk).1
  obtain ⟨f, hf, hff⟩ := k_its (its := its.take k) (fun y hy => hl y (List.mem_of_mem_take hy)) (by rw [List.map_take]; exact hn.sublist (List.take_sublist _ _))
  have hxb := (litB_iff x.lit).1 (hc x.lit hx)
  have hno : ∀ z, litV z = litV x.lit → ¬ Has (its.take k) z := fun z hz ⟨p, y, hp, e⟩ => by
    have hpl := (List.getElem?_eq_some_iff.1 hp).1
    rw [List.length_take] at hpl
    rw [List.getElem?_take, if_pos (by omega)] at hp
    have := k_inj hn hp hk (by rw [e, hz])
    omega
  refine ⟨f, by rw [← List.map_take]; exact hf, k_unit hx ?_ (fun y hy hne => ?_) (fun y hy => ?_)⟩
  · have h1 := (hff x.lit (hc _ hx)).1
    have h2 := (hff x.lit (hc _ hx)).2
    have a1 : ¬ 0 < ofF f x.lit := fun h => hno x.lit rfl (h1.1 h)
    have a2 : ¬ ofF f x.lit < 0 := fun h => hno (-x.lit) (litV_negate _) (h2.1 h)
    omega
  · obtain ⟨p, z, hp, hz, e⟩ := ho y hy hne
    exact (hff y (hc y hy)).2.2 ⟨p, z, by rw [List.getElem?_take, if_pos hp]; exact hz, e⟩
  · have := (litB_iff y).1 (hc y hy)
    omega
set_option maxRecDepth 100000 in
set_option maxHeartbeats 4000000 in
theorem law_reasons {O : Nat → Prop} (tb : Nat) (T : Trl) (its : List RIt) (Ac : Option Addr) (cc : Nat) (cs : List (List Int)) (w : World) (h : TrAt O w tb T) (hc : ClsAt w (.slice Ac cs.length cc) cs) (hs : Sim T its) (hv : T.vars.length = 7) (hr : Rsn (clsC cs) its) (hcs : ∀ c ∈ cs, clauseB c = true ∧ c.length ≤ 6) (hcl : cs.length ≤ 1000) :
    Calls Tryz.prog 14 #[.pointer (some ⟨tb, 0, none⟩), .slice Ac cs.length cc] w fun e w' => e = .returned (.bool true) ∧ Below w.heap.size w w' := by
  have hfew := hs.few hv
  have HAS := Lib.hid (law_assigned tb T w h (by omega))
  have HT := Lib.hid h
  have HC := Lib.hid hc
  have HCS := Lib.hid hcs
  have HS := Lib.hid hs
  have HR := Lib.hid hr
  clear h hc hcs hr
  go_enter Tryz.func14, Tryz.ntmps14
  go_wp2_with fail
  refine HAS.out.mono ?_
  rintro e w1 ⟨vn, rfl, hrn, hb1⟩
  have HN := Lib.hid ((IntsIn.of_own hrn).lt.mono (O' := fun g => g < w1.heap.size) (fun g hg => hg.2))
  obtain ⟨An, cn, rfl, hnc⟩ := mx_slice hrn
  have HB1 := Lib.hid hb1
  obtain ⟨n, hn⟩ : ∃ n, T.order.length = n := ⟨_, rfl⟩
  have HLN := Lib.hid hn
  rw [hn] at HN hnc hfew
  clear hrn hb1 HAS
  go_wp2_with fail
  clear hn
  go_loopw [17] (fun i wr => ∃ k : Nat, k ≤ n ∧ i = .int .i64 k ∧ Hid (Below w1.heap.size w1 wr)) (fun i _ => n - (intOf i).toNat)
  case atStart => exact ⟨0, Nat.zero_le _, rfl, Lib.hid (Below.refl _ _)⟩
  case round =>
    obtain ⟨k, hk, rfl, HB⟩ := hrel
    by_cases hlt : k < n
    · have hol : its.length = n := by rw [← HLN.out, HS.out.order, List.length_map]
      obtain ⟨x, hx⟩ := getElem_of (show k < its.length by omega)
      have hox : T.order[k]? = some x.lit := by rw [HS.out.order, List.getElem?_map, hx]; rfl
      obtain ⟨A', c', hAc, _, _, hxs⟩ := HN.out
      simp only [Value.slice.injEq] at hAc
      obtain ⟨rfl, -, rfl⟩ := hAc
      obtain ⟨g, o, rfl, hg, _, d0⟩ := hxs k x.lit hox
      have d1 := (HB.out.cell (p := ⟨g, o + k, none⟩) hg).trans d0
      have HBW := Lib.hid (HB1.out.trans (HB.out.mono HB1.out.size))
      have hre := tr_reason tb T (litV x.lit : Nat) wr (HT.out.below HBW.out)
      have hwhy := HS.out.why hx
      have hrs : T.reason (litV x.lit : Nat) = x.reason := by unfold Trl.reason; rw [hwhy]
      rw [hrs, hwhy] at hre
      rw [show (some (⟨x.level, x.reason, (k : Int), litS x.lit⟩ : TV)).isSome = true from rfl] at hre
      have HRX := Lib.hid (HR.out k x hx)
      obtain ⟨xl, hxl⟩ : ∃ z, x.lit = z := ⟨_, rfl⟩
      obtain ⟨xr, hxr⟩ : ∃ z, x.reason = z := ⟨_, rfl⟩
      have HXK := Lib.hid hx
      have HXL := Lib.hid hxl
      have HXR := Lib.hid hxr
      rw [hxl, hxr] at hre
      rw [hxl] at d1
      obtain ⟨V, hV⟩ : ∃ V : Int, ((litV xl : Nat) : Int) = V := ⟨_, rfl⟩
      have HVU := Lib.hid (show ∀ W, Calls Tryz.prog 32 #[.int .i64 xl] W fun e w' => e = .returned (.int .i64 V) ∧ W = w' from fun W => by rw [← hV]; exact lit_var xl W)
      rw [hV] at hre
      have HRE := Lib.hid hre
      clear hol hx hox hxs d0 hwhy hrs hre hxl hxr hV
      by_cases hz : xr = 0
      · subst hz
        go_wp2_with fail
        refine (HVU.out _).mono ?_
        rintro e w' ⟨rfl, rfl⟩
        go_wp2_with fail
        refine HRE.out.mono ?_
        rintro e w2 ⟨rfl, hb2⟩
        have HB2 := Lib.hid (HB.out.trans (hb2.mono HB.out.size))
        clear hb2
        have q1 : decide ((cs.length : Int) < 0) = false := by simp
        go_wp2_with fail
        go_roundw
        case rel => exact ⟨k + 1, by omega, by go_num, HB2⟩
        case measure => simp [intOf]; omega
      · obtain ⟨c, hcc, hxc, hoth⟩ := HRX.out (by rw [HXR.out]; exact hz)
        rw [HXR.out] at hcc
        obtain ⟨m, rfl, hm, hml⟩ := clsC_some hcc
        have hcb := HCS.out c (List.mem_of_getElem? hm)
        have hrb : ∀ y ∈ c, litB y = true := by
          have := hcb.1
          unfold clauseB at this
          rw [Bool.and_eq_true, List.all_eq_true] at this
          exact this.2
        obtain ⟨f, hf, hlk⟩ := rsn_look (fun y hy => HS.out.litb hy) HS.out.nodup HXK.out hxc hrb hoth
        rw [← HS.out.order] at hf
        rw [HXL.out] at hlk
        obtain ⟨A2, c2, hA2, hys⟩ := HC.out
        simp only [Value.slice.injEq, true_and] at hA2
        obtain ⟨rfl, rfl⟩ := hA2
        obtain ⟨g2, o2, u, rfl, hg2, f0, hu⟩ := hys m c hm
        obtain ⟨Au, cu, rfl, huc, _, _⟩ := id hu
        have HU := Lib.hid hu
        have HF := Lib.hid hf
        have HLK := Lib.hid hlk
        have HCB := Lib.hid hcb
        have HG2 := Lib.hid hg2
        have HF0 := Lib.hid f0
        have q1 : decide ((m : Int) + 1 < 0) = false := by simp; omega
        have q2 : decide ((cs.length : Int) < (m : Int) + 1) = false := by simp; omega
        have q3 : ((m : Int) + 1 == 0) = false := by simp; omega
        have q5 : IntKind.i64.wrap (m : Int) = (m : Int) := IntWalk.i64_in _ (by omega)
        have q6 : (m : Int) < (cs.length : Int) := by omega
        have q4 : IntKind.i64.wrap ((m : Int) + 1 - 1) = (m : Int) := (IntWalk.i64_in _ (by omega)).trans (by omega)
        clear hcc hxc hoth hm hcb hrb hf hlk hys hu f0 hz hg2
        go_wp2_with fail
        refine (HVU.out _).mono ?_
        rintro e w' ⟨rfl, rfl⟩
        go_wp2_with fail
        refine HRE.out.mono ?_
        rintro e w2 ⟨rfl, hb2⟩
        have HB2 := Lib.hid (HB.out.trans (hb2.mono HB.out.size))
        clear hb2 d1
        have hkc : k ≤ cn := by omega
        go_upto_region 9 with fail
        have HBZ := Lib.hid (HB1.out.trans (HB2.out.mono HB1.out.size))
        refine wp_region_held_drew (S := fun w' => Below w2.heap.size w2 w') (by kernel_rfl) (mx_drew w2) (fun hS => ?_)
        refine takeE 0 44 ?_
        refine takeE 1 45 ?_
        refine takeE 2 46 ?_
        refine takeE 3 47 ?_
        refine takeF 4 48 (fun wq hSw => ((HBZ.out.trans (hSw.mono HBZ.out.size)).cell (p := ⟨g2, o2 + m, none⟩) HG2.out).trans HF0.out) ?_
        refine takeE 5 49 ?_
        refine takeE 6 50 ?_
        refine takeE 7 51 ?_
        refine ready1 8 (fun K hK => ?_)
        go_simp
        have hbz := HBZ.out.trans (hS.mono HBZ.out.size)
        have hnt := (HN.out.below (HB2.out.trans (hS.mono HB2.out.size))).take (k := k) (by rw [HLN.out]; omega)
        refine (rup_Look _ _ c (T.order.take k) _ (HU.out.below hbz) hnt HCB.out.1 f HF.out (by have := HCB.out.2; omega) (by rw [List.length_take]; omega)).mono ?_
        rintro e w4 ⟨rfl, hbN⟩
        have hSN := hS.trans (hbN.mono hS.size)
        refine hK.out _ _ hSN (fun _ => ?_)
        clear hK hbN hS hbz hnt
        have hS := hSN
        clear hSN
        rw [HLK.out]
        refine takeE 9 43 ?_
        refine takeE 10 53 ?_
        refine takeE 11 54 ?_
        refine takeE 12 55 ?_
        refine takeE 13 10 ?_
        refine takeE 14 11 ?_
        refine takeE 15 12 ?_
        refine wpAnyH_done (by kernel_rfl) ?_ _
        have HB4 := Lib.hid (HB2.out.trans (hS.mono HB2.out.size))
        clear hS
        go_wp2_with fail
        go_roundw
        case rel => exact ⟨k + 1, by omega, by go_num, HB4⟩
        case measure => simp [intOf]; omega
    · obtain rfl : k = n := by omega
      go_wp2_with fail
      go_ret
      exact ⟨rfl, HB1.out.trans (HB.out.mono HB1.out.size)⟩
end Go.Proofs.YtobcnejecogfoaaGreat
namespace Go.Proofs.YtobcnejecogfoaaGreat
open Go.RowKit

theorem alwGo_two {c : List Int} (hc : ∀ y ∈ c, litB y = true) : ∀ {r : List Int} {l : Int}, (l = 0 ∨ l ∈ c) → (∀ x ∈ r, x ∈ c) → alwGo l r = true → ∃ y ∈ c, -y ∈ c := by
  intro r
  induction r with
  | nil => intro l _ _ h; cases h
  | cons x r ih =>
    intro l hl hr h
    unfold alwGo at h
    have hx := hr x List.mem_cons_self
    rw [Bool.or_eq_true] at h
    rcases h with h | h
    · rw [Bool.and_eq_true] at h
      obtain ⟨h1, h2⟩ := h
      rcases hl with rfl | hl
      · cases h1
      · have e : x = litN l := by simpa using h2
        unfold litN at e
        rw [if_pos (hc l hl)] at e
        exact ⟨l, hl, e ▸ hx⟩
    · exact ih (.inr hx) (fun y hy => hr y (List.mem_cons_of_mem _ hy)) h
/-- a clause that holds always has a literal and its negation -/
theorem alwL_two {c : List Int} (h : alwL c = true) : ∃ y ∈ c, -y ∈ c := by
  unfold alwL at h
  rw [Bool.and_eq_true] at h
  obtain ⟨h1, h2⟩ := h
  unfold clauseB at h1
  rw [Bool.and_eq_true, List.all_eq_true] at h1
  exact alwGo_two h1.2 (.inl rfl) (fun x hx => normL_mem hx) h2
theorem alwL_no {c : List Int} (h : ∀ y ∈ c, -y ∉ c) : alwL c = false := by
  cases ha : alwL c with
  | false => rfl
  | true =>
    obtain ⟨y, hy, hn⟩ := alwL_two ha
    exact absurd hn (h y hy)
theorem addOk_no {T : Trl} {S : Wst} {id : Int} {c : List Int} (h : alwL c = false) : addOk T S id c = ⟨addKind T (addTwo T c), 0, if addKind T (addTwo T c) = 2 then T.assigned ((addTwo T c).headD 0) id else T, S.addBy id (eachL c) (addTwo T c)⟩ := by
  unfold addOk
  rw [if_neg (by rw [h]; decide)]
def x13L : List (List Int) := [[1, 2, 3], [-1, 4], [-4, -2, -2], [5]]
def x13A : Arn := addAll arn0 0 x13L
def x13S0 : Wst := ⟨[], [], 0⟩
def x13S1 : Wst := x13S0.addBy 1 [1, 2, 3] [1, 2]
def x13S2 : Wst := x13S1.addBy 2 [-1, 4] [-1, 4]
def x13S3 : Wst := x13S2.addBy 3 [-4, -2] [-4, -2]
def x13S4 : Wst := x13S3.addBy 4 [5] [5]
def x13T0 : Trl := trl0 5
def x13T4 : Trl := x13T0.assigned 5 4
theorem x13_add {T T' : Trl} {S S' : Wst} {id : Int} {c : List Int} {r : Nat} (h0 : S.kn id = none) (hg : x13A.get id = some c) (hb : (c.any fun l => decide ((T.vars.length : Int) - 1 < (litV l : Nat))) = false) (ha : ∀ y ∈ c, -y ∉ c) (hk : addKind T (addTwo T c) = r) (hT : (if r = 2 then T.assigned ((addTwo T c).headD 0) id else T) = T') (hS : S.addBy id (eachL c) (addTwo T c) = S') : addW x13A T S id = ⟨r, 0, T', S'⟩ := by
  unfold addW
  rw [h0]
  simp only []
  rw [hg]
  simp only []
  rw [if_neg (by rw [hb]; decide), addOk_no (alwL_no ha), hk, hT, hS]
theorem x13_r1 : addW x13A x13T0 x13S0 1 = ⟨1, 0, x13T0, x13S1⟩ := x13_add (c := [1, 2, 3]) rfl (by kernel_rfl) (by kernel_rfl) (by decide) (by kernel_rfl) rfl (by kernel_rfl)
theorem x13_r2 : addW x13A x13T0 x13S1 2 = ⟨1, 0, x13T0, x13S2⟩ := x13_add (c := [-1, 4]) (by kernel_rfl) (by kernel_rfl) (by kernel_rfl) (by decide) (by kernel_rfl) rfl (by kernel_rfl)
theorem x13_r3 : addW x13A x13T0 x13S2 3 = ⟨1, 0, x13T0, x13S3⟩ := x13_add (c := [-4, -2, -2]) (by kernel_rfl) (by kernel_rfl) (by kernel_rfl) (by decide) (by kernel_rfl) rfl (by kernel_rfl)
theorem x13_r4 : addW x13A x13T0 x13S3 4 = ⟨2, 0, x13T4, x13S4⟩ := x13_add (c := [5]) (by kernel_rfl) (by kernel_rfl) (by kernel_rfl) (by decide) (by kernel_rfl) (by kernel_rfl) (by kernel_rfl)
def x13T5 : Trl := x13T4.push.assigned (-2) 0
def x13T6 : Trl := (propW x13A x13T5 x13S4).1
def x13S6 : Wst := (propW x13A x13T5 x13S4).2.1
def x13T7 : Trl := x13T6.push.assigned (-3) 0
def x13T8 : Trl := (propW x13A x13T7 x13S6).1
def x13S8 : Wst := (propW x13A x13T7 x13S6).2.1
def x13T9 : Trl := x13T8.backed 0
def x13S9 : Wst := ⟨x13S8.known, x13S8.of, min x13S8.looked x13T9.order.length⟩
def x13T10 : Trl := x13T9.push.assigned 2 0
def x13T11 : Trl := x13T10.assigned 4 0
def x13T12 : Trl := (propW x13A x13T11 x13S9).1
def x13S12 : Wst := (propW x13A x13T11 x13S9).2.1
theorem x13_k1 : x13S4.kn 1 = some ⟨[1, 2], [1, 2, 3]⟩ := by kernel_rfl
theorem x13_k3 : x13S4.kn 3 = some ⟨[-4, -2], [-4, -2]⟩ := by kernel_rfl
theorem x13_e5 : x13T4.push.assignErr (-2) 0 = 0 := by kernel_rfl
theorem x13_p6 : (propW x13A x13T5 x13S4).2.2 = none := by kernel_rfl
theorem x13_k6 : x13S6.kn 1 = some ⟨[1, 3], [1, 2, 3]⟩ := by kernel_rfl
theorem x13_e7 : x13T6.push.assignErr (-3) 0 = 0 := by kernel_rfl
theorem x13_p8 : (propW x13A x13T7 x13S6).2.2 = none := by kernel_rfl
theorem x13_w8 : x13T8.reason 4 = 2 ∧ (x13T8.why 4).isSome = true ∧ x13T8.val 1 = 1 := ⟨by kernel_rfl, by kernel_rfl, by kernel_rfl⟩
theorem x13_b9 : x13T8.backErr 0 = 0 := by kernel_rfl
theorem x13_l9 : x13S9.looked = 1 := by kernel_rfl
theorem x13_e10 : x13T9.push.assignErr 2 0 = 0 := by kernel_rfl
theorem x13_e11 : x13T10.assignErr 4 0 = 0 := by kernel_rfl
theorem x13_p12 : (propW x13A x13T11 x13S9).2.2 = some 3 := by kernel_rfl
theorem x13_k12 : x13S12.kn 1 = some ⟨[1, 3], [1, 2, 3]⟩ := by kernel_rfl
/-- the clauses that are known, one after the other -/
def x13R : Nat → Trl × Wst
  | 0 => (x13T0, x13S0)
  | 1 => (x13T0, x13S1)
  | 2 => (x13T0, x13S2)
  | 3 => (x13T0, x13S3)
  | _ => (x13T4, x13S4)
def x13K (k : Nat) : Nat := if k = 3 then 2 else 1
theorem x13_r (k : Nat) (h : k < 4) : addW x13A (x13R k).1 (x13R k).2 ((k : Int) + 1) = ⟨x13K k, 0, (x13R (k + 1)).1, (x13R (k + 1)).2⟩ := by
  match k, h with
  | 0, _ => exact x13_r1
  | 1, _ => exact x13_r2
  | 2, _ => exact x13_r3
  | 3, _ => exact x13_r4
  | n + 4, h => exact absurd h (by omega)
theorem x13_l1 {S : Wst} (h : S.Bnd ∧ S.Link) {id : Int} {c xs : List Int} {T : Trl} {ys : List Int} (hn : S.kn id = none) (hid : 1 ≤ id ∧ id ≤ 1073741824) (hc : c.length ≤ 4096 ∧ ∀ l ∈ c, litB l = true) (hx : eachL c = xs) (hy : addTwo T c = ys) : (S.addBy id xs ys).Bnd ∧ (S.addBy id xs ys).Link := by
  obtain ⟨bs, h1, h2, _⟩ := addBy_ok h.1 h.2 hn hid hc T
  rw [hx, hy] at h1 h2
  exact ⟨h1, h2⟩
theorem x13_s0 : x13S0.Bnd ∧ x13S0.Link := ⟨(st0 (fun _ => none)).inv.bnd, (st0 (fun _ => none)).inv.link⟩
theorem x13_s1 : x13S1.Bnd ∧ x13S1.Link := x13_l1 x13_s0 (c := [1, 2, 3]) (T := x13T0) rfl (by decide) (by decide) (by kernel_rfl) (by kernel_rfl)
theorem x13_s2 : x13S2.Bnd ∧ x13S2.Link := x13_l1 x13_s1 (c := [-1, 4]) (T := x13T0) (by kernel_rfl) (by decide) (by decide) (by kernel_rfl) (by kernel_rfl)
theorem x13_s3 : x13S3.Bnd ∧ x13S3.Link := x13_l1 x13_s2 (c := [-4, -2, -2]) (T := x13T0) (by kernel_rfl) (by decide) (by decide) (by kernel_rfl) (by kernel_rfl)
theorem x13_s4 : x13S4.Bnd ∧ x13S4.Link := x13_l1 x13_s3 (c := [5]) (T := x13T0) (by kernel_rfl) (by decide) (by decide) (by kernel_rfl) (by kernel_rfl)
theorem x13_sr (k : Nat) (h : k ≤ 4) : (x13R k).2.Link := by
  match k, h with
  | 0, _ => exact x13_s0.2
  | 1, _ => exact x13_s1.2
  | 2, _ => exact x13_s2.2
  | 3, _ => exact x13_s3.2
  | 4, _ => exact x13_s4.2
  | n + 5, h => exact absurd h (by omega)
theorem x13_or (k : Nat) (h : k ≤ 4) : (x13R k).1.order.length < 1048576 := by
  match k, h with
  | 0, _ => exact of_decide_eq_true (by kernel_rfl)
  | 1, _ => exact of_decide_eq_true (by kernel_rfl)
  | 2, _ => exact of_decide_eq_true (by kernel_rfl)
  | 3, _ => exact of_decide_eq_true (by kernel_rfl)
  | 4, _ => exact of_decide_eq_true (by kernel_rfl)
  | n + 5, h => exact absurd h (by omega)
theorem x13_get (k : Nat) (h : k < 4) : ∀ c, x13A.get ((k : Int) + 1) = some c → c.length < 20 ∧ clauseB c = true := by
  have key : ∀ c ∈ x13L, c.length < 20 ∧ clauseB c = true := by decide
  match k, h with
  | 0, _ => exact fun c hc => key c (by rw [show x13A.get ((0 : Nat) + 1 : Int) = some [1, 2, 3] from by kernel_rfl] at hc; rw [← Option.some.inj hc]; decide)
  | 1, _ => exact fun c hc => key c (by rw [show x13A.get ((1 : Nat) + 1 : Int) = some [-1, 4] from by kernel_rfl] at hc; rw [← Option.some.inj hc]; decide)
  | 2, _ => exact fun c hc => key c (by rw [show x13A.get ((2 : Nat) + 1 : Int) = some [-4, -2, -2] from by kernel_rfl] at hc; rw [← Option.some.inj hc]; decide)
  | 3, _ => exact fun c hc => key c (by rw [show x13A.get ((3 : Nat) + 1 : Int) = some [5] from by kernel_rfl] at hc; rw [← Option.some.inj hc]; decide)
  | n + 4, h => exact absurd h (by omega)
theorem x13_pt0 : PT x13T0 := ⟨[], ⟨rfl, by decide, (fun p x h => by simp at h), (fun v s h _ => by
    have := List.mem_of_getElem? h
    rw [(List.mem_replicate.1 this).2]), (fun p q x y _ h => by simp at h), (fun x h => by cases h), by decide⟩, fun k s hs => by
    have hk := (List.getElem?_eq_some_iff.1 hs).1
    have hk0 : k = 0 := by
      have : x13T0.starts.length = 1 := rfl
      omega
    subst hk0
    have e : x13T0.starts[0]? = some 0 := rfl
    rw [e] at hs
    rw [← Option.some.inj hs]
    exact ⟨⟨Int.le_refl _, by simp⟩, fun p x hp => by simp at hp⟩⟩
theorem x13_pt5 : PT x13T5 := ((x13_pt0.assigned 5 4).push).assigned (-2) 0
theorem x13_pt6 : PT x13T6 := PT.propGo _ x13_pt5
theorem x13_pt7 : PT x13T7 := x13_pt6.push.assigned (-3) 0
theorem x13_pt8 : PT x13T8 := PT.propGo _ x13_pt7
theorem x13_pt9 : PT x13T9 := x13_pt8.backed 0
theorem x13_pt11 : PT x13T11 := (x13_pt9.push.assigned 2 0).assigned 4 0
theorem PT.sim {T : Trl} (h : PT T) : ∃ its, Sim T its := by
  obtain ⟨its, h1, _⟩ := h
  exact ⟨its, h1⟩
theorem x13_s6 : x13S6.Bnd ∧ x13S6.Link := ⟨(propGo_all x13A _ x13_s4.1 x13_s4.2 x13_pt5.sim).1, (propGo_all x13A _ x13_s4.1 x13_s4.2 x13_pt5.sim).2.1⟩
theorem x13_s8 : x13S8.Bnd ∧ x13S8.Link := ⟨(propGo_all x13A _ x13_s6.1 x13_s6.2 x13_pt7.sim).1, (propGo_all x13A _ x13_s6.1 x13_s6.2 x13_pt7.sim).2.1⟩
theorem x13_s9 : x13S9.Link := x13_s8.2
theorem x13_s12 : x13S12.Link := (propGo_all x13A _ (S := x13S9) ⟨x13_s8.1.kr, x13_s8.1.kb, x13_s8.1.kl, x13_s8.1.orr, x13_s8.1.ob⟩ x13_s9 x13_pt11.sim).2.1
theorem PT.sta {T : Trl} (h : PT T) : ∀ s ∈ T.starts, 0 ≤ s ∧ s ≤ (T.order.length : Int) := fun s hs => by
  obtain ⟨its, h1, h2⟩ := h
  obtain ⟨k, hk, e⟩ := List.getElem_of_mem hs
  have := (h2 k s (by rw [List.getElem?_eq_getElem hk, e])).1
  rw [h1.order, List.length_map]
  exact this
theorem PT.fit {T : Trl} (h : PT T) : ∀ l ∈ T.order, litV l < T.vars.length := by
  obtain ⟨its, h1, _⟩ := h
  exact h1.fit
theorem x13_v5 : x13T5.vars.length ≤ 1000000 := of_decide_eq_true (by kernel_rfl)
theorem x13_v7 : x13T7.vars.length ≤ 1000000 := of_decide_eq_true (by kernel_rfl)
theorem x13_v11 : x13T11.vars.length ≤ 1000000 := of_decide_eq_true (by kernel_rfl)
theorem x13_o4 : x13T4.starts.length < 1048576 ∧ x13T4.push.order.length < 1048576 := ⟨of_decide_eq_true (by kernel_rfl), of_decide_eq_true (by kernel_rfl)⟩
theorem x13_o6 : x13T6.starts.length < 1048576 ∧ x13T6.push.order.length < 1048576 := ⟨of_decide_eq_true (by kernel_rfl), of_decide_eq_true (by kernel_rfl)⟩
theorem x13_o9 : x13T9.starts.length < 1048576 ∧ x13T9.push.order.length < 1048576 ∧ x13T10.order.length < 1048576 := ⟨of_decide_eq_true (by kernel_rfl), of_decide_eq_true (by kernel_rfl), of_decide_eq_true (by kernel_rfl)⟩
theorem x13_o12 : x13T12.order.length < 1048576 := of_decide_eq_true (by kernel_rfl)
theorem x13_last : addW x13A x13T12 x13S12 1 = ⟨0, 130, x13T12, x13S12⟩ := by
  unfold addW
  rw [x13_k12]
end Go.Proofs.YtobcnejecogfoaaGreat
