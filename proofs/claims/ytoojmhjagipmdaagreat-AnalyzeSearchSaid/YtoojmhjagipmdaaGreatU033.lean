/- package salvorlaw14: Possible, Free. Plain: a search ends: what is learned is told apart by codes, levels are never empty; with all variables assigned the clauses hold. Plain: what a search keeps from turn to turn. -/
import Derived.Test.YtoojmhjagipmdaaGreatU030
import Derived.Test.YtoojmhjagipmdaaGreatU027
import Derived.Test.YtoojmhjagipmdaaGreatU028
import Derived.Test.YtoojmhjagipmdaaGreatU032
namespace Go.Proofs.YtoojmhjagipmdaaGreat
open Go.RowKit

set_option maxRecDepth 100000 in
set_option maxHeartbeats 2000000 in
theorem law_possible {O : Nat → Prop} (u : Value) (cs : List (List Int)) (w : World) (h1 : ClsIn O w u cs) (h6 : Lits6 cs) (hcl : cs.length ≤ 1000000) (hno : ∀ n, n < 128 → allT n cs = false) :
    Calls Tryz.prog 37 #[u] w fun e w' => e = .returned (.bool false) ∧ Below w.heap.size w w' := by
  have HA := Lib.hid (fun (n : Nat) (hn : n < 128) (W : World) (hb : Below w.heap.size w W) => law_alltrue u cs n W (h1.below hb) hn h6 hcl)
  have HNO := Lib.hid hno
  obtain ⟨A, k, rfl, _⟩ := h1
  clear h6 hno
  go_enter Tryz.func37, Tryz.ntmps37
  go_wp2_with fail
  go_loopw [3] (fun iv wr => ∃ m : Nat, m ≤ 130 ∧ iv = .int .i64 m ∧ Hid (Below w.heap.size w wr)) (fun iv _ => 200 - (intOf iv).toNat)
  case atStart => exact ⟨0, by decide, rfl, Lib.hid (Below.refl _ _)⟩
  case round =>
    obtain ⟨m, hm, rfl, HB⟩ := hrel
    by_cases hm2 : m < 128
    · have q1 : decide ((m : Int) < 128) = true := by simp; omega
      have hm0 : (m : Int) < 128 := by omega
      have hwm : IntKind.i64.wrap ((m : Int) + 2) = ((m + 2 : Nat) : Int) := by rw [IntWalk.i64_in _ (by omega)]; omega
      have hall := HA.out m hm2 wr HB.out
      rw [HNO.out m hm2] at hall
      have HALL := Lib.hid hall
      clear hall
      go_wp2_with fail
      refine HALL.out.mono ?_
      rintro e w9 ⟨rfl, hb9⟩
      have HB9 := Lib.hid (HB.out.trans (hb9.mono HB.out.size))
      clear hb9 HALL
      go_wp2_with fail
      go_roundw
      case rel => exact ⟨m + 2, by omega, by go_num, HB9⟩
      case measure => simp [intOf]; omega
    · have q1 : decide ((m : Int) < 128) = false := by simp; omega
      go_wp2_with fail
      go_ret
      exact ⟨rfl, HB.out⟩
/-- the literal that is decided next: one without a value; 0 if there is none -/
def FreeO (T : Trl) (l : Int) : Prop := (l = 0 ∧ ∀ v : Int, 1 ≤ v → v < 7 → T.val v ≠ 0) ∨ (litB l = true ∧ litV l < 7 ∧ T.val l = 0)
set_option maxRecDepth 100000 in
set_option maxHeartbeats 4000000 in
theorem law_free {w0 w : World} {lab : Nat → Nat} {sb b ab tb : Nat} {A : Arn} {T : Trl} {S : Wst} {cs : List (List Int)} {av : Value} {us : List Value} (u : Value) (l : List Int) (h : SrAt w0 w lab sb b ab tb A T S cs av us) (hl : RowAt .i8 w u l) :
    Calls Tryz.prog 39 #[.pointer (some ⟨sb, 0, none⟩), u] w fun e w' => (∃ v, e = .returned (.int .i64 v) ∧ FreeO T v) ∧ Below w.heap.size w w' := by
  have HM := Lib.hid (made_any u l w hl)
  have HH := Lib.hid h
  obtain ⟨A1, c1, rfl, _⟩ := hl
  have hmr : ∀ x ∈ madeL l, litB x = true ∧ litV x < 7 := fun x hx => by
    obtain ⟨n, _, rfl⟩ := List.mem_map.1 hx
    exact madeLit_six n
  have HMR := Lib.hid hmr
  clear h hmr
  go_enter Tryz.func39, Tryz.ntmps39
  go_wp2_with fail
  refine HM.out.mono ?_
  rintro e w1 ⟨v, rfl, hr, hb⟩
  obtain ⟨ys, hys⟩ : ∃ ys, madeL l = ys := ⟨_, rfl⟩
  have hyl : ys.length ≤ 6 := by rw [← hys]; simp [madeL]; omega
  rw [hys] at hr HMR
  obtain ⟨Av, cv, rfl, _⟩ := mx_slice hr
  have HR := Lib.hid hr
  have H1 := Lib.hid (HH.out.below hb)
  have HB1 := Lib.hid hb
  clear hr hb HM hys
  go_wp2_with fail
  go_loopw [11] (fun iv wr => ∃ k : Nat, k ≤ ys.length ∧ iv = .int .i64 k ∧ Hid (Below w1.heap.size w1 wr)) (fun iv _ => ys.length - (intOf iv).toNat)
  case atStart => exact ⟨0, Nat.zero_le _, rfl, Lib.hid (Below.refl _ _)⟩
  case round =>
    obtain ⟨k, hk, rfl, HB⟩ := hrel
    have H2 := Lib.hid (H1.out.below HB.out)
    obtain ⟨-, e1, -, -⟩ := H2.out.cells
    by_cases hlt : k < ys.length
    · obtain ⟨y, hyk⟩ := getElem_of hlt
      obtain ⟨g, cc, hv, hg0, hg, e0⟩ := own_cell HR.out hyk
      simp only [Value.slice.injEq, true_and] at hv
      obtain ⟨rfl, rfl⟩ := hv
      have d0 : wr.cell? ⟨g, k, none⟩ = some (.int .i64 y) := (HB.out.cell (p := ⟨g, k, none⟩) hg).trans e0
      have HY := Lib.hid (HMR.out y (List.mem_of_getElem? hyk))
      have hwk : IntKind.i64.wrap ((k : Int) + 1) = ((k + 1 : Nat) : Int) := by rw [IntWalk.i64_in _ (by omega)]; omega
      have HLT := Lib.hid hlt
      have hva := tr_value tb T y wr H2.out.lw.sys.tr
      obtain ⟨z, hz⟩ : ∃ z, T.val y = z := ⟨_, rfl⟩
      rw [hz] at hva
      have HVA := Lib.hid hva
      have HZ := Lib.hid hz
      clear hva hz e0 hyk
      by_cases hz0 : z = 0
      · have q0 : (z == 0) = true := by simpa using hz0
        have HF := Lib.hid (show FreeO T y from .inr ⟨HY.out.1, HY.out.2, HZ.out.trans hz0⟩)
        clear hz0
        go_wp2_with fail
        refine HVA.out.mono ?_
        rintro e w2 ⟨rfl, hb2⟩
        have HBF := Lib.hid (HB1.out.trans ((HB.out.trans (hb2.mono HB.out.size)).mono HB1.out.size))
        clear hb2
        go_wp2_with fail
        go_ret
        exact ⟨⟨y, rfl, HF.out⟩, HBF.out⟩
      · have q0 : (z == 0) = false := by simpa using hz0
        clear hz0
        go_wp2_with fail
        refine HVA.out.mono ?_
        rintro e w2 ⟨rfl, hb2⟩
        have HB2 := Lib.hid (HB.out.trans (hb2.mono HB.out.size))
        clear hb2
        go_wp2_with fail
        go_roundw
        case rel => exact ⟨k + 1, HLT.out, by go_num, HB2⟩
        case measure => have := HLT.out; simp [intOf]; omega
    · have hlt2 : decide ((k : Int) < (ys.length : Int)) = false := by simp; omega
      clear e1
      go_wp2_with fail
      go_loopw [7] (fun iv wr => ∃ n : Nat, n ≤ 7 ∧ iv = .int .i64 n ∧ 1 ≤ n ∧ Hid (∀ v : Int, 1 ≤ v → v < (n : Int) → T.val v ≠ 0) ∧ Hid (Below w1.heap.size w1 wr)) (fun iv _ => 10 - (intOf iv).toNat)
      case atStart => exact ⟨1, by decide, rfl, by decide, Lib.hid (fun v h1 h2 => by omega), HB⟩
      case round =>
        obtain ⟨n, hn, rfl, hn1, HN, HBB⟩ := hrel
        have H3 := Lib.hid (H1.out.below HBB.out)
        obtain ⟨-, e1, -, -⟩ := H3.out.cells
        by_cases hn7 : n < 7
        · have q7 : decide ((n : Int) < 7) = true := by simp; omega
          have hn70 : (n : Int) < 7 := by omega
          have hwk : IntKind.i64.wrap ((n : Int) + 1) = ((n + 1 : Nat) : Int) := by rw [IntWalk.i64_in _ (by omega)]; omega
          have hva := tr_value tb T (n : Int) wr H3.out.lw.sys.tr
          obtain ⟨z, hz⟩ : ∃ z, T.val (n : Int) = z := ⟨_, rfl⟩
          rw [hz] at hva
          have HVA := Lib.hid hva
          have HZ := Lib.hid hz
          clear hva hz
          by_cases hz0 : z = 0
          · have q0 : (z == 0) = true := by simpa using hz0
            have hnb : litB (n : Int) = true := (litB_iff _).2 (by omega)
            have HF := Lib.hid (show FreeO T (n : Int) from .inr ⟨hnb, by have := (litV_pos hnb).2; omega, HZ.out.trans hz0⟩)
            clear hz0 hnb
            go_wp2_with fail
            refine HVA.out.mono ?_
            rintro e w2 ⟨rfl, hb2⟩
            have HBF := Lib.hid (HB1.out.trans ((HBB.out.trans (hb2.mono HBB.out.size)).mono HB1.out.size))
            clear hb2
            go_wp2_with fail
            go_ret
            exact ⟨⟨_, rfl, HF.out⟩, HBF.out⟩
          · have q0 : (z == 0) = false := by simpa using hz0
            have HN2 := Lib.hid (show ∀ v : Int, 1 ≤ v → v < ((n + 1 : Nat) : Int) → T.val v ≠ 0 from fun v h1 h2 => by
              by_cases e : v = (n : Int)
              · rw [e, HZ.out]
                exact hz0
              · exact HN.out v h1 (by omega))
            clear hz0
            go_wp2_with fail
            refine HVA.out.mono ?_
            rintro e w2 ⟨rfl, hb2⟩
            have HB2 := Lib.hid (HBB.out.trans (hb2.mono HBB.out.size))
            clear hb2
            go_wp2_with fail
            go_roundw
            case rel => exact ⟨n + 1, by omega, by go_num, by omega, HN2, HB2⟩
            case measure => simp [intOf]; omega
        · have q7 : decide ((n : Int) < 7) = false := by simp; omega
          have HF := Lib.hid (show FreeO T 0 from .inl ⟨rfl, fun v h1 h2 => HN.out v h1 (by omega)⟩)
          have HBF := Lib.hid (HB1.out.trans (HBB.out.mono HB1.out.size))
          go_wp2_with fail
          go_ret
          exact ⟨⟨0, rfl, HF.out⟩, HBF.out⟩
end Go.Proofs.YtoojmhjagipmdaaGreat
namespace Go.Proofs.YtoojmhjagipmdaaGreat
open Go.RowKit

/-- the digit of a variable in a clause -/
def digL (L : List Int) (v : Int) : Nat := if v ∈ L then 1 else if -v ∈ L then 2 else 0
def codeL (L : List Int) : Nat := digL L 1 + 3 * (digL L 2 + 3 * (digL L 3 + 3 * (digL L 4 + 3 * (digL L 5 + 3 * digL L 6))))
theorem digL_le (L : List Int) (v : Int) : digL L v ≤ 2 := by
  unfold digL
  split
  · omega
  · split <;> omega
theorem codeL_lt (L : List Int) : codeL L < 729 := by
  have := digL_le L 1
  have := digL_le L 2
  have := digL_le L 3
  have := digL_le L 4
  have := digL_le L 5
  have := digL_le L 6
  unfold codeL
  omega
theorem codeL_dig {L M : List Int} (h : codeL L = codeL M) (v : Int) (h1 : 1 ≤ v) (h2 : v ≤ 6) : digL L v = digL M v := by
  have a1 := digL_le L 1
  have a2 := digL_le L 2
  have a3 := digL_le L 3
  have a4 := digL_le L 4
  have a5 := digL_le L 5
  have a6 := digL_le L 6
  have b1 := digL_le M 1
  have b2 := digL_le M 2
  have b3 := digL_le M 3
  have b4 := digL_le M 4
  have b5 := digL_le M 5
  have b6 := digL_le M 6
  unfold codeL at h
  have e1 : digL L 1 = digL M 1 := by omega
  have e2 : digL L 2 = digL M 2 := by omega
  have e3 : digL L 3 = digL M 3 := by omega
  have e4 : digL L 4 = digL M 4 := by omega
  have e5 : digL L 5 = digL M 5 := by omega
  have e6 : digL L 6 = digL M 6 := by omega
  have hv : v = 1 ∨ v = 2 ∨ v = 3 ∨ v = 4 ∨ v = 5 ∨ v = 6 := by omega
  rcases hv with rfl | rfl | rfl | rfl | rfl | rfl <;> assumption
/-- clauses of the variables 1 to 6 without clashes are told by their codes -/
theorem codeL_sub {L M : List Int} (hr : ∀ y ∈ L, litB y = true ∧ litV y < 7) (hn : ∀ y ∈ L, -y ∉ L) (h : codeL L = codeL M) : ∀ y ∈ L, y ∈ M := fun y hy => by
  obtain ⟨a1, a2⟩ := hr y hy
  have h3 := litV_pos a1
  by_cases hp : 0 < y
  · have hd := codeL_dig h y (by omega) (by omega)
    have e : digL L y = 1 := by unfold digL; rw [if_pos hy]
    rw [e] at hd
    unfold digL at hd
    split at hd
    · assumption
    · split at hd <;> omega
  · have hd := codeL_dig h (-y) (by omega) (by omega)
    have e : digL L (-y) = 2 := by
      unfold digL
      rw [if_neg (hn y hy), if_pos (by rw [Int.neg_neg]; exact hy)]
    rw [e] at hd
    unfold digL at hd
    split at hd
    · omega
    · split at hd
      · rename_i h5
        rwa [Int.neg_neg] at h5
      · omega
/-- each level has an item -/
def Lvs (T : Trl) (its : List RIt) : Prop := ∀ i : Int, 1 ≤ i → i ≤ T.now → ∃ x ∈ its, x.level = i
theorem Lvs.now_le {T : Trl} {its : List RIt} (h : Lvs T its) (h0 : 0 ≤ T.now) : T.now ≤ (its.length : Int) := by
  obtain ⟨n, hn⟩ : ∃ n : Nat, T.now = n := ⟨T.now.toNat, by omega⟩
  have hs : (List.range n).map (fun i : Nat => (i : Int) + 1) ⊆ its.map RIt.level := fun i hi => by
    obtain ⟨k, hk, rfl⟩ := List.mem_map.1 hi
    have := List.mem_range.1 hk
    obtain ⟨x, hx, e⟩ := h ((k : Int) + 1) (by omega) (by omega)
    exact List.mem_map.2 ⟨x, hx, e⟩
  have hnd : ((List.range n).map (fun i : Nat => (i : Int) + 1)).Nodup := by
    unfold List.Nodup
    rw [List.pairwise_map]
    exact List.pairwise_lt_range.imp (fun h => by omega)
  have := List.Nodup.length_le_of_subset hnd hs
  rw [List.length_map, List.length_map, List.length_range] at this
  omega
theorem Lvs.pre {T T' : Trl} {its its' : List RIt} (h : Lvs T its) (hp : its <+: its') (hn : T'.now = T.now) : Lvs T' its' := fun i h1 h2 => by
  obtain ⟨x, hx, e⟩ := h i h1 (by omega)
  exact ⟨x, hp.subset hx, e⟩
section
variable {cs : List (List Int)} {T : Trl} {its : List RIt} {S : Wst} {id lv : Int} {c : List Int} {x : Lrn} {R K : List Nat}
/-- a decision of a variable without a value gives its level an item -/
theorem dec_lvs (hr : Sr cs T its S 0) (h6 : Six cs) {l : Int} (hl : litB l = true ∧ litV l < 7) (hz : T.val l = 0) (hlv : Lvs T its) {its' : List RIt} (hs' : Sim (propW (addAll arn0 0 cs) (decT T l) S).1 its') (hn : (propW (addAll arn0 0 cs) (decT T l) S).1.now = T.now + 1) : Lvs (propW (addAll arn0 0 cs) (decT T l) S).1 its' := by
  have hrun := hr.ok rfl
  have hp := hr.st.push hrun.lk
  have hz' : T.push.val l = 0 := hz
  have herr := free_err (T := T.push) hr.st.vars hl.1 hl.2 hz' (r := 0) ⟨by omega, by omega⟩
  have hd : decT T l = T.push.assigned l 0 := by unfold decT decA; rw [if_pos hz']
  have hst1 := hp.assign herr (fun h => absurd rfl h)
  obtain ⟨its2, h1, h2, _⟩ := hst1.prop (A := addAll arn0 0 cs) h6.fit (hr.st.find h6)
  rw [hd] at hs' hn ⊢
  have e := hs'.uniq h1.sim
  subst e
  intro i hi1 hi2
  rw [hn] at hi2
  by_cases hi : i ≤ T.now
  · obtain ⟨y, hy, e⟩ := hlv i hi1 hi
    exact ⟨y, h2.subset (List.mem_append_left _ hy), e⟩
  · refine ⟨⟨l, 0, T.push.now⟩, h2.subset (List.mem_append_right _ (List.mem_singleton.2 rfl)), ?_⟩
    show T.push.now = i
    rw [push_now]
    omega
theorem learn_lvs {l0 : Int} {its1 : List RIt} {W : WRes} (h : LearnO cs x T its S l0 its1 W) (hlv : Lvs T its) (hb : x.back ≤ T.now) : Lvs W.T (its1 ++ [⟨l0, (cs.length : Int) + 1, x.back⟩]) := fun i h1 h2 => by
  rw [h.now] at h2
  obtain ⟨y, hy, e⟩ := hlv i h1 (by omega)
  obtain ⟨p, hp⟩ := List.getElem?_of_mem hy
  exact ⟨y, List.mem_append_left _ (List.mem_of_getElem? (h.lvl p y hp (by omega))), e⟩
/-- with all variables assigned each clause has a literal that holds -/
theorem run_holds (h : Run cs T its S) (h6 : Six cs) (hall : ∀ v : Int, 1 ≤ v → v < 7 → T.val v ≠ 0) : ∀ c ∈ cs, ∃ y ∈ c, Has its y := fun c hc => by
  refine Classical.byContradiction fun hno => ?_
  have hno : ∀ y ∈ c, ¬ Has its y := fun y hy hh => hno ⟨y, hy, hh⟩
  obtain ⟨n, hn⟩ := List.getElem?_of_mem hc
  have hcd : clsC cs ((n : Int) + 1) = some c := by
    unfold clsC
    rw [if_pos (by omega), show ((n : Int) + 1 - 1).toNat = n by omega]
    exact hn
  have hfal : ∀ y ∈ c, Has its (-y) := fun y hy => by
    obtain ⟨a1, a2⟩ := (h6.2 c hc).2 y hy
    have h3 := litV_pos a1
    by_cases hf : T.fal y = true
    · exact (h.st.sim.fal_iff a1).1 hf
    · by_cases ht : T.tru y = true
      · exact absurd ((h.st.sim.tru_iff a1).1 ht) (hno y hy)
      · exfalso
        have hz := sim_val (Bool.not_eq_true _ ▸ hf) (Bool.not_eq_true _ ▸ ht)
        have hv := hall ((litV y : Nat) : Int) (by omega) (by omega)
        by_cases hp : 0 < y
        · rw [show ((litV y : Nat) : Int) = y by omega] at hv
          exact hv hz
        · rw [show ((litV y : Nat) : Int) = -y by omega] at hv
          refine hv (sim_val ?_ ?_)
          · cases hq : T.fal (-y) with
            | false => rfl
            | true =>
              have := (h.st.sim.fal_iff (by rw [litB_minus]; exact a1)).1 hq
              rw [Int.neg_neg] at this
              exact absurd this (hno y hy)
          · cases hq : T.tru (-y) with
            | false => rfl
            | true =>
              have := (h.st.sim.tru_iff (by rw [litB_minus]; exact a1)).1 hq
              exact absurd ((h.st.sim.fal_iff a1).2 this) hf
  cases hcc : c with
  | nil =>
    subst hcc
    obtain ⟨k, hk, hkl⟩ := h.known hcd
    obtain ⟨_, hby, _, _⟩ := h.st.inv.bnd.kn hk
    rcases hby with h0 | ⟨p, q, _, _, hp, _⟩
    · rcases h.st.inv.two _ k [] hk hcd h0 with h2 | h2
      · obtain ⟨y, hy, _⟩ := alwL_two h2
        cases hy
      · rw [hkl] at h2
        obtain ⟨y, hy, _⟩ := h.one _ [] trivial hcd (alwL_no (c := []) (fun y hy => by cases hy)) h2
        cases hy
    · rw [hkl] at hp
      cases hp
  | cons a r =>
    have ha : a ∈ c := by rw [hcc]; exact List.mem_cons_self
    exact hno a ha (h.closed h6 hcd ha fun y hy _ => hfal y hy)
end
end Go.Proofs.YtoojmhjagipmdaaGreat
namespace Go.Proofs.YtoojmhjagipmdaaGreat
open Go.RowKit

structure SrI (cs0 ls : List (List Int)) (T : Trl) (its : List RIt) (S : Wst) (id : Int) (n : Nat) : Prop where
  sr : Sr (cs0 ++ ls) T its S id
  six : Six (cs0 ++ ls)
  lvs : Lvs T its
  codes : (ls.map codeL).Nodup
  good : ∀ L ∈ ls, (∀ y ∈ L, litB y = true ∧ litV y < 7) ∧ ∀ y ∈ L, -y ∉ L
  sat : ∀ m, m < 128 → allT m cs0 = true → allT m (cs0 ++ ls) = true
  cnt : (n : Int) ≤ 7 * ls.length + T.now
section
variable {cs0 ls : List (List Int)} {T : Trl} {its : List RIt} {S : Wst} {id lv : Int} {n : Nat} {c : List Int} {x : Lrn} {R K : List Nat}
theorem SrI.few (h : SrI cs0 ls T its S id n) : ls.length ≤ 729 := by
  have := List.Nodup.length_le_of_subset h.codes (l₂ := List.range 729) (fun k hk => by
    obtain ⟨L, _, rfl⟩ := List.mem_map.1 hk
    exact List.mem_range.2 (codeL_lt L))
  rwa [List.length_map, List.length_range] at this
theorem SrI.now6 (h : SrI cs0 ls T its S id n) : 0 ≤ T.now ∧ T.now ≤ 6 := by
  have h1 := h.lvs.now_le h.sr.st.sim.now
  have h2 := h.sr.st.sim.few h.sr.st.vars
  rw [h.sr.st.sim.order, List.length_map] at h2
  exact ⟨h.sr.st.sim.now, by omega⟩
theorem SrI.n6000 (h : SrI cs0 ls T its S id n) : n ≤ 6000 := by
  have := h.few
  have := h.now6
  have := h.cnt
  omega
theorem sri_begin {cs : List (List Int)} (h : Sr cs T its S id) (h6 : Six cs) (h0 : T.now = 0) : SrI cs [] T its S id 0 where
  sr := by rw [List.append_nil]; exact h
  six := by rw [List.append_nil]; exact h6
  lvs := fun i h1 h2 => by omega
  codes := List.nodup_nil
  good := fun L hL => by cases hL
  sat := fun m _ h => by rw [List.append_nil]; exact h
  cnt := by
    rw [h0]
    simp
theorem sri_dec (h : SrI cs0 ls T its S 0 n) {l : Int} (hl : litB l = true ∧ litV l < 7) (hz : T.val l = 0) {T' : Trl} {its' : List RIt} {S' : Wst} {id' : Int} (hs : Sr (cs0 ++ ls) T' its' S' id') (hT : T' = (propW (addAll arn0 0 (cs0 ++ ls)) (decT T l) S).1) (hn : T'.now = T.now + 1) : SrI cs0 ls T' its' S' id' (n + 1) where
  sr := hs
  six := h.six
  lvs := by
    subst hT
    exact dec_lvs h.sr h.six hl hz h.lvs hs.st.sim hn
  codes := h.codes
  good := h.good
  sat := h.sat
  cnt := by
    have := h.cnt
    omega
/-- behind Learn, propagated -/
theorem sri_learn (h : SrI cs0 ls T its S id n) (hid : id ≠ 0) (hlv : lv ≠ 0) (hcc : clsC (cs0 ++ ls) id = some c) (hco : ConfO (clsC (cs0 ++ ls)) T its id c lv x R K) {l0 : Int} {its1 : List RIt} {W : WRes} (ho : LearnO (cs0 ++ ls) x T its S l0 its1 W) :
    ∃ its2, SrI cs0 (ls ++ [x.lits]) (propW (addAll arn0 0 (cs0 ++ (ls ++ [x.lits]))) W.T W.S).1 its2 (propW (addAll arn0 0 (cs0 ++ (ls ++ [x.lits]))) W.T W.S).2.1 ((propW (addAll arn0 0 (cs0 ++ (ls ++ [x.lits]))) W.T W.S).2.2.getD 0) (n + 1) ∧ ∀ id, (propW (addAll arn0 0 (cs0 ++ (ls ++ [x.lits]))) W.T W.S).2.2 = some id → 1 ≤ id := by
  have e : cs0 ++ (ls ++ [x.lits]) = (cs0 ++ ls) ++ [x.lits] := (List.append_assoc _ _ _).symm
  have hs := h.sr.st.sim
  obtain ⟨f, g⟩ := good_facts hs h.sr.st.vars h.six hcc hco
  have hno := hco.chain.no hs
  have h6' : Six (cs0 ++ (ls ++ [x.lits])) := by rw [e]; exact ho.six
  have hst : St (clsC (cs0 ++ (ls ++ [x.lits]))) W.T (its1 ++ [⟨l0, ((cs0 ++ ls).length : Int) + 1, x.back⟩]) W.S := by rw [e]; exact ho.st
  obtain ⟨its2, p1, p2, p3, p4, p5⟩ := hst.prop (A := addAll arn0 0 (cs0 ++ (ls ++ [x.lits]))) h6'.fit (hst.find h6')
  have hz2 := DZ.propGo (A := addAll arn0 0 (cs0 ++ (ls ++ [x.lits]))) (W.T.vars.length + 1) (S := W.S) hst.inv.bnd hst.inv.link ⟨_, hst.sim⟩ ⟨_, hst.sim, ho.dcs⟩
  have hkn : ∀ j, ((propW (addAll arn0 0 (cs0 ++ (ls ++ [x.lits]))) W.T W.S).2.1.kn j).isSome = (clsC (cs0 ++ (ls ++ [x.lits])) j).isSome := fun j => by
    rw [p4, ho.kn, e]
  have hone : One (clsC (cs0 ++ (ls ++ [x.lits]))) (fun _ => True) its2 := by
    have := ho.one
    rw [← e] at this
    exact this.pre p2
  obtain ⟨_, _, _, _, _, _, _, _, hbk0, hbkl, _⟩ := hco.parts hs hlv
  have hnow := h.now6
  refine ⟨its2, ⟨⟨p1, hz2.dcs p1.sim, fun h0 => ?_, fun h0 => ?_, fun _ => .inr ⟨hkn, hone⟩⟩, h6', ?_, ?_, ?_, fun m hm hall => ?_, ?_⟩, fun id' hid' => ?_⟩
  · rcases p5 with ⟨a1, a2⟩ | ⟨id', d, a1, a2, _⟩
    · exact ⟨p1, hkn, hone, a2⟩
    · rw [a1] at h0
      have := (h6'.fit id' d a2).1.1
      have h0 : id' = 0 := h0
      omega
  · rcases p5 with ⟨a1, _⟩ | ⟨id', d, a1, a2, a3⟩
    · rw [a1] at h0
      exact absurd rfl h0
    · rw [a1]
      exact ⟨d, a2, a3⟩
  · have hb : x.back ≤ T.now := by
      obtain ⟨k0, K', z0, hK, hz0, hzl, _⟩ := hco.parts hs hlv
      have := (hs.pos z0 (List.mem_of_getElem? hz0)).2
      omega
    exact (learn_lvs ho h.lvs hb).pre p2 p3
  · rw [List.map_append, List.map_cons, List.map_nil, List.nodup_append]
    refine ⟨h.codes, by simp, fun a ha b hb e2 => ?_⟩
    rw [List.mem_singleton] at hb
    obtain ⟨L, hL, hLa⟩ := List.mem_map.1 ha
    have hsub := codeL_sub (h.good L hL).1 (h.good L hL).2 (show codeL L = codeL x.lits by rw [hLa, e2, hb])
    exact conf_new h.sr hid h.six hco hlv L (List.mem_append_right _ hL) hsub
  · intro L hL
    rcases List.mem_append.1 hL with hL | hL
    · exact h.good L hL
    · rw [List.mem_singleton.1 hL]
      exact ⟨g.litr, hno⟩
  · have h1 := h.sat m hm hall
    have h2 := g.sat m hm h1
    rw [e]
    unfold allT at h1 ⊢
    rw [List.all_append, h1]
    simpa using h2
  · rw [p3, ho.now, List.length_append, List.length_singleton]
    have := h.cnt
    omega
  · rcases p5 with ⟨a1, _⟩ | ⟨id2, d, a1, a2, _⟩
    · rw [a1] at hid'
      cases hid'
    · rw [a1] at hid'
      rw [← Option.some.inj hid']
      exact (h6'.fit id2 d a2).1.1
/-- the empty clause is learned: there is no model -/
theorem sri_none (h : SrI cs0 ls T its S id n) (hcc : clsC (cs0 ++ ls) id = some c) (hco : ConfO (clsC (cs0 ++ ls)) T its id c lv x R K) (hx : x.lits = []) : ∀ m, m < 128 → allT m cs0 = false := fun m hm => by
  cases ha : allT m cs0 with
  | false => rfl
  | true =>
    obtain ⟨f, g⟩ := good_facts h.sr.st.sim h.sr.st.vars h.six hcc hco
    have := g.sat m hm (h.sat m hm ha)
    rw [hx] at this
    cases this
/-- the bits of literals that are true -/
def bitsL (ys : List Int) : Nat := ys.foldl (fun b y => if 0 < y then b ||| 2 ^ y.toNat else b) 0
theorem bitsL_snoc (ys : List Int) (y : Int) : bitsL (ys ++ [y]) = if 0 < y then bitsL ys ||| 2 ^ y.toNat else bitsL ys := by
  unfold bitsL
  rw [List.foldl_append]
  rfl
theorem or_lt : ∀ a, a < 128 → ∀ k, k < 7 → a ||| 2 ^ k < 128 := by decide +kernel
theorem bitsL_lt {ys : List Int} (h : ∀ y ∈ ys, -7 < y ∧ y < 7) : bitsL ys < 128 := by
  have key : ∀ (ys : List Int) (b : Nat), b < 128 → (∀ y ∈ ys, -7 < y ∧ y < 7) → ys.foldl (fun b y => if 0 < y then b ||| 2 ^ y.toNat else b) b < 128 := by
    intro ys
    induction ys with
    | nil => exact fun b hb _ => hb
    | cons y r ih =>
      intro b hb hy
      rw [List.foldl_cons]
      refine ih _ ?_ (fun z hz => hy z (List.mem_cons_of_mem _ hz))
      have := hy y List.mem_cons_self
      split
      · exact or_lt b hb y.toNat (by omega)
      · exact hb
  exact key ys 0 (by decide) h
theorem bitsL_test {ys : List Int} {k : Nat} (hk : 0 < k) : (bitsL ys).testBit k = true ↔ (k : Int) ∈ ys := by
  have key : ∀ (ys : List Int) (b : Nat), (ys.foldl (fun b y => if 0 < y then b ||| 2 ^ y.toNat else b) b).testBit k = true ↔ b.testBit k = true ∨ (k : Int) ∈ ys := by
    intro ys
    induction ys with
    | nil => exact fun b => by simp
    | cons y r ih =>
      intro b
      rw [List.foldl_cons, ih, List.mem_cons]
      split
      · rename_i hy
        rw [Nat.testBit_or, Bool.or_eq_true, Nat.testBit_two_pow]
        constructor
        · rintro ((h | h) | h)
          · exact .inl h
          · have := of_decide_eq_true h
            exact .inr (.inl (by omega))
          · exact .inr (.inr h)
        · rintro (h | h | h)
          · exact .inl (.inl h)
          · exact .inl (.inr (decide_eq_true (by omega)))
          · exact .inr h
      · rename_i hy
        constructor
        · rintro (h | h)
          · exact .inl h
          · exact .inr (.inr h)
        · rintro (h | h | h)
          · exact .inl h
          · omega
          · exact .inr h
  have := key ys 0
  simpa [bitsL] using this
/-- the model -/
theorem sri_model (h : SrI cs0 ls T its S 0 n) (hall : ∀ v : Int, 1 ≤ v → v < 7 → T.val v ≠ 0) : allT (bitsL T.order) cs0 = true := by
  have hrun := h.sr.ok rfl
  have hs := hrun.st.sim
  unfold allT
  rw [List.all_eq_true]
  intro c hc
  obtain ⟨y, hy, hh⟩ := run_holds hrun h.six hall c (List.mem_append_left _ hc)
  refine List.any_eq_true.2 ⟨y, hy, ?_⟩
  obtain ⟨a1, a2⟩ := (h.six.2 c (List.mem_append_left _ hc)).2 y hy
  have h3 := litV_pos a1
  have hmem : ∀ z : Int, z ∈ T.order ↔ Has its z := fun z => by
    rw [hs.order]
    constructor
    · intro hz
      obtain ⟨r, hr, rfl⟩ := List.mem_map.1 hz
      obtain ⟨p, hp⟩ := List.getElem?_of_mem hr
      exact ⟨p, r, hp, rfl⟩
    · rintro ⟨p, r, hp, rfl⟩
      exact List.mem_map.2 ⟨r, List.mem_of_getElem? hp, rfl⟩
  unfold bitT
  by_cases hp : 0 < y
  · rw [if_pos hp]
    exact (bitsL_test (by omega)).2 (by rw [show ((y.toNat : Nat) : Int) = y by omega]; exact (hmem y).2 hh)
  · rw [if_neg hp, Bool.not_eq_true']
    cases ht : (bitsL T.order).testBit (-y).toNat with
    | false => rfl
    | true =>
      have := (bitsL_test (by omega)).1 ht
      rw [show (((-y).toNat : Nat) : Int) = -y by omega] at this
      exact (has_two hs a1 hh ((hmem _).1 this)).elim
end
end Go.Proofs.YtoojmhjagipmdaaGreat
