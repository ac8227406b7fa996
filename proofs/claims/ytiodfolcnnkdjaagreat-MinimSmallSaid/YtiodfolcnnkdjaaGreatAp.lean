/- An arena with clauses, a trail with calls (package salvorlaw14: Put). -/
import Derived.Test.YtiodfolcnnkdjaaGreatAo
import Derived.Test.YtiodfolcnnkdjaaGreatTe
import Derived.Test.YtiodfolcnnkdjaaGreatAf
namespace Go.Proofs.YtiodfolcnnkdjaaGreat
open Go.RowKit

/-- clauses in memory -/
def ClsAt (w : World) (v : Value) (cs : List (List Int)) : Prop :=
  ∃ A c, v = .slice A cs.length c ∧ ∀ i xs, cs[i]? = some xs → ∃ g o u, A = some ⟨g, o, none⟩ ∧ g < w.heap.size ∧ w.cell? ⟨g, o + i, none⟩ = some u ∧ IntsIn (fun g => g < w.heap.size) w u xs
theorem ClsAt.below {w w' : World} {v : Value} {cs : List (List Int)} (h : ClsAt w v cs) (hb : Below w.heap.size w w') : ClsAt w' v cs := by
  obtain ⟨A, c, hv, hx⟩ := h
  refine ⟨A, c, hv, fun i xs hi => ?_⟩
  obtain ⟨g, o, u, h1, h2, h3, h4⟩ := hx i xs hi
  exact ⟨g, o, u, h1, Nat.lt_of_lt_of_le h2 hb.size, (hb.cell (p := ⟨g, o + i, none⟩) h2).trans h3, (h4.below hb).mono (fun g hg => Nat.lt_of_lt_of_le hg hb.size)⟩
theorem ClsAt.nil (w : World) : ClsAt w (.slice none 0 0) [] := ⟨none, 0, rfl, fun i xs h => by simp at h⟩
/-- a call of a trail -/
structure ActP where
  push : Bool
  l : Int
  by_ : Int
def ActsIn (w : World) (v : Value) (acs : List ActP) : Prop :=
  ∃ A c, v = .slice A acs.length c ∧ ∀ i a, acs[i]? = some a → ∃ g o, A = some ⟨g, o, none⟩ ∧ g < w.heap.size ∧ w.cell? ⟨g, o + i * 3, none⟩ = some (.bool a.push) ∧ w.cell? ⟨g, o + i * 3 + 1, none⟩ = some (.int .i64 a.l) ∧ w.cell? ⟨g, o + i * 3 + 2, none⟩ = some (.int .i64 a.by_)
theorem ActsIn.below {w w' : World} {v : Value} {acs : List ActP} (h : ActsIn w v acs) (hb : Below w.heap.size w w') : ActsIn w' v acs := by
  obtain ⟨A, c, hv, hx⟩ := h
  refine ⟨A, c, hv, fun i a hi => ?_⟩
  obtain ⟨g, o, h1, h2, h3, h4, h5⟩ := hx i a hi
  exact ⟨g, o, h1, Nat.lt_of_lt_of_le h2 hb.size, (hb.cell (p := ⟨g, o + i * 3, none⟩) h2).trans h3, (hb.cell (p := ⟨g, o + i * 3 + 1, none⟩) h2).trans h4, (hb.cell (p := ⟨g, o + i * 3 + 2, none⟩) h2).trans h5⟩
theorem ActsIn.nil (w : World) : ActsIn w (.slice none 0 0) [] := ⟨none, 0, rfl, fun i xs h => by simp at h⟩
def Arn.put (A : Arn) (id : Int) (c : List Int) : Arn := if clauseB c = true then A.add id c else A
def addAll : Arn → Nat → List (List Int) → Arn
  | A, _, [] => A
  | A, i, c :: cs => addAll (A.put ((i : Int) + 1) c) (i + 1) cs
def Trl.play (T : Trl) (a : ActP) : Trl := if a.push = true then T.push else T.assigned a.l a.by_
def playAll : Trl → List ActP → Trl
  | T, [] => T
  | T, a :: acs => playAll (T.play a) acs
def arn0 : Arn := ⟨[], [], 0, 0, 0⟩
def trl0 (n : Nat) : Trl := ⟨List.replicate (n + 1) ⟨0, 0, 0, 0⟩, [], [0]⟩
structure Arn.Low (A : Arn) (k : Nat) : Prop where
  last : A.last ≤ (k : Int)
  used : A.used ≤ k * 1000
  store : A.store.length ≤ k * 1000
  all : A.all.length ≤ k
  count : A.count ≤ k
theorem Arn.Low.next {A : Arn} {k : Nat} (h : A.Low k) (c : List Int) (hc : c.length ≤ 1000) : (A.put ((k : Int) + 1) c).Low (k + 1) := by
  obtain ⟨h1, h2, h3, h4, h5⟩ := h
  have e : (k + 1) * 1000 = k * 1000 + 1000 := Nat.succ_mul k 1000
  have u1 : A.used + c.length ≤ (k + 1) * 1000 := e ▸ Nat.add_le_add h2 hc
  have u2 : A.store.length + c.length ≤ (k + 1) * 1000 := e ▸ Nat.add_le_add h3 hc
  have v1 : A.used ≤ (k + 1) * 1000 := Nat.le_trans (Nat.le_add_right _ _) u1
  have v2 : A.store.length ≤ (k + 1) * 1000 := Nat.le_trans (Nat.le_add_right _ _) u2
  clear e h2 h3
  unfold Arn.put
  split
  · refine ⟨?_, u1, ?_, ?_, ?_⟩
    · simp [Arn.add]
    · simp only [Arn.add, List.length_append]
      exact u2
    · simp only [Arn.add, List.length_append, List.length_cons, List.length_nil]
      exact Nat.succ_le_succ h4
    · simp only [Arn.add]
      exact Nat.succ_le_succ h5
  · exact ⟨by clear u1 u2 v1 v2; omega, v1, v2, Nat.le_succ_of_le h4, Nat.le_succ_of_le h5⟩
structure Trl.Low (T : Trl) (k : Nat) : Prop where
  order : T.order.length ≤ k
  starts : T.starts.length ≤ k + 1
theorem Trl.Low.next {T : Trl} {k : Nat} (h : T.Low k) (a : ActP) : (T.play a).Low (k + 1) := by
  obtain ⟨h1, h2⟩ := h
  unfold Trl.play
  split
  · exact ⟨by simp only [Trl.push]; omega, by simp only [Trl.push, List.length_append, List.length_cons, List.length_nil]; omega⟩
  · unfold Trl.assigned
    split
    · exact ⟨by simp only [Trl.assign, List.length_append, List.length_cons, List.length_nil]; omega, by simp only [Trl.assign]; omega⟩
    · exact ⟨by omega, by omega⟩
/-- an arena and a trail, apart from each other, in blocks of one's own -/
def PutAt (n : Nat) (w : World) (a b : Nat) (A : Arn) (T : Trl) : Prop :=
  n ≤ w.heap.size ∧ ∃ OA OT : Nat → Prop, ArAt OA w a A ∧ TrAt OT w b T ∧ (∀ g, OA g → n ≤ g) ∧ (∀ g, OT g → n ≤ g) ∧ ∀ g, OA g → ¬ OT g
theorem PutAt.below {n : Nat} {w w' : World} {a b : Nat} {A : Arn} {T : Trl} (h : PutAt n w a b A T) (hb : Below w.heap.size w w') : PutAt n w' a b A T := by
  obtain ⟨h0, OA, OT, h1, h2, h3⟩ := h
  exact ⟨Nat.le_trans h0 hb.size, OA, OT, h1.below hb, h2.below hb, h3⟩
theorem ArAt.own {O : Nat → Prop} {w : World} {a : Nat} {A : Arn} (h : ArAt O w a A) : ∀ g, O g → g < w.heap.size := by
  obtain ⟨_, stv, alv, hm⟩ := h
  exact hm.own
theorem TrAt.own {O : Nat → Prop} {w : World} {b : Nat} {T : Trl} (h : TrAt O w b T) : ∀ g, O g → g < w.heap.size := by
  obtain ⟨_, gv, cv, ov, sv, hm⟩ := h
  exact hm.own
theorem PutAt.arena {n : Nat} {w w' : World} {a b : Nat} {A' : Arn} {T : Trl} {OA OT : Nat → Prop} (h0 : n ≤ w.heap.size) (h2 : TrAt OT w b T) (h3 : ∀ g, OA g → n ≤ g) (h4 : ∀ g, OT g → n ≤ g) (h5 : ∀ g, OA g → ¬ OT g) (k : ArNext OA w w' a A') : PutAt n w' a b A' T ∧ Below n w w' := by
  obtain ⟨hA, hk⟩ := k
  have ho := h2.own
  refine ⟨⟨Nat.le_trans h0 hk.size, _, OT, hA, h2.kept hk (fun g hg ha => h5 g ha hg), fun g hg => ?_, h4, fun g hg ht => ?_⟩, hk.below h3 h0⟩
  · rcases hg with hg | hg
    · exact h3 g hg
    · omega
  · rcases hg with hg | hg
    · exact h5 g hg ht
    · have := ho g ht
      omega
theorem PutAt.trail {n : Nat} {w w' : World} {a b : Nat} {A : Arn} {T' : Trl} {OA OT : Nat → Prop} (h0 : n ≤ w.heap.size) (h2 : ArAt OA w a A) (h3 : ∀ g, OA g → n ≤ g) (h4 : ∀ g, OT g → n ≤ g) (h5 : ∀ g, OA g → ¬ OT g) (k : TrNext OT w w' b T') : PutAt n w' a b A T' ∧ Below n w w' := by
  obtain ⟨hT, hk⟩ := k
  have ho := h2.own
  refine ⟨⟨Nat.le_trans h0 hk.size, OA, _, h2.kept hk h5, hT, h3, fun g hg => ?_, fun g hg ht => ?_⟩, hk.below h4 h0⟩
  · rcases hg with hg | hg
    · exact h4 g hg
    · omega
  · rcases ht with ht | ht
    · exact h5 g hg ht
    · have := ho g hg
      omega
theorem put_add {n : Nat} {w : World} {a b : Nat} {A : Arn} {T : Trl} {k : Nat} (cv : Value) (c : List Int) (h : PutAt n w a b A T) (hl : A.Low k) (hk : k < 1000) (hc : IntsIn (fun g => g < w.heap.size) w cv c) (hcl : c.length ≤ 1000) :
    Calls Tryz.prog 37 #[.pointer (some ⟨a, 0, none⟩), .int .i64 ((k : Int) + 1), cv] w fun e w' => (∃ x : Int, e = .returned (.int .i64 x)) ∧ PutAt n w' a b (A.put ((k : Int) + 1) c) T ∧ Below n w w' := by
  obtain ⟨h0, OA, OT, h1, h2, h3, h4, h5⟩ := h
  obtain ⟨l1, l2, l3, l4, l5⟩ := hl
  cases hr : clauseB c with
  | true =>
    have e : A.put ((k : Int) + 1) c = A.add ((k : Int) + 1) c := by unfold Arn.put; rw [if_pos hr]
    rw [e]
    refine (ar_add a A ((k : Int) + 1) cv c w h1 hc hr (by omega) (by omega) (by omega) (by omega) (by omega) (by omega) (by omega)).mono ?_
    rintro e w' ⟨rfl, hn⟩
    exact ⟨⟨_, rfl⟩, PutAt.arena h0 h2 h3 h4 h5 hn⟩
  | false =>
    have e : A.put ((k : Int) + 1) c = A := by unfold Arn.put; rw [if_neg (by rw [hr]; decide)]
    rw [e]
    refine (ar_add_bad a A ((k : Int) + 1) cv c w h1 hc hr (by omega)).mono ?_
    rintro e w' ⟨rfl, rfl⟩
    exact ⟨⟨_, rfl⟩, ⟨h0, OA, OT, h1, h2, h3, h4, h5⟩, Below.refl _ _⟩
theorem put_push {n : Nat} {w : World} {a b : Nat} {A : Arn} {T : Trl} {k : Nat} (h : PutAt n w a b A T) (hl : T.Low k) (hk : k < 1000) :
    Calls Tryz.prog 38 #[.pointer (some ⟨b, 0, none⟩)] w fun e w' => e = .returned (.int .i64 0) ∧ PutAt n w' a b A T.push ∧ Below n w w' := by
  obtain ⟨h0, OA, OT, h1, h2, h3, h4, h5⟩ := h
  have := hl.starts
  refine (tr_push b T w h2 (by omega)).mono ?_
  rintro e w' ⟨rfl, hn⟩
  exact ⟨rfl, PutAt.trail h0 h1 h3 h4 h5 hn⟩
theorem put_assign {n : Nat} {w : World} {a b : Nat} {A : Arn} {T : Trl} {k : Nat} (l r : Int) (h : PutAt n w a b A T) (hl : T.Low k) (hk : k < 1000) :
    Calls Tryz.prog 39 #[.pointer (some ⟨b, 0, none⟩), .int .i64 l, .int .i64 r] w fun e w' => e = .returned (.int .i64 (T.assignErr l r : Nat)) ∧ PutAt n w' a b A (T.assigned l r) ∧ Below n w w' := by
  obtain ⟨h0, OA, OT, h1, h2, h3, h4, h5⟩ := h
  have := hl.order
  refine (tr_assign b T l r w h2 (by omega)).mono ?_
  rintro e w' ⟨rfl, hn⟩
  exact ⟨rfl, PutAt.trail h0 h1 h3 h4 h5 hn⟩
set_option maxRecDepth 100000 in
set_option maxHeartbeats 2000000 in
theorem put_any (n : Nat) (cv av : Value) (cs : List (List Int)) (acs : List ActP) (w : World) (hn : n ≤ 1048576) (hc : ClsAt w cv cs) (ha : ActsIn w av acs) (hcl : cs.length ≤ 1000) (hce : ∀ c ∈ cs, c.length ≤ 1000) (hal : acs.length ≤ 1000) :
    Calls Tryz.prog 14 #[.int .i64 (n : Int), cv, av] w fun e w' => ∃ a b, e = .returned (.tuple #[.pointer (some ⟨a, 0, none⟩), .pointer (some ⟨b, 0, none⟩), .bool true]) ∧ PutAt w.heap.size w' a b (addAll arn0 0 cs) (playAll (trl0 n) acs) ∧ Below w.heap.size w w' := by
  have HCC := Lib.hid hc
  have HAA := Lib.hid ha
  have HCE := Lib.hid hce
  obtain ⟨Ac, cc, rfl, _⟩ := hc
  obtain ⟨Aa, ca, rfl, _⟩ := ha
  clear hce
  go_enter Tryz.func14, Tryz.ntmps14
  go_wp2_with fail
  refine (ar_new w).mono ?_
  rintro e w1 ⟨rfl, har, hw1⟩
  have hb1 : Below w.heap.size w w1 := by rw [hw1]; exact mx_al _ _
  have HAR := Lib.hid har
  have HB1 := Lib.hid hb1
  have hz1 : w.heap.size < w1.heap.size := by rw [hw1]; simp
  clear har hw1 hb1
  go_wp2_with fail
  refine (tr_new n w1 hn).mono ?_
  rintro e w2 ⟨b, rfl, htr, hb2⟩
  have hP : PutAt w.heap.size w2 w.heap.size b arn0 (trl0 n) := ⟨Nat.le_trans (Nat.le_of_lt hz1) hb2.size, _, _, HAR.out.below hb2, htr, fun g hg => Nat.le_of_eq hg.symm, fun g hg => by have := hg.1; omega, fun g hg ht => by have := ht.1; have e : g = w.heap.size := hg; omega⟩
  have HP := Lib.hid hP
  have HB2 := Lib.hid (HB1.out.trans (hb2.mono HB1.out.size))
  clear hP htr hb2
  go_wp2_with fail
  go_loopw [34] (fun i wr => ∃ (k : Nat) (A : Arn), k ≤ cs.length ∧ i = .int .i64 k ∧ Hid (addAll arn0 0 cs = addAll A k (cs.drop k)) ∧ Hid (A.Low k) ∧ Hid (Below w.heap.size w wr) ∧ Hid (PutAt w.heap.size wr w.heap.size b A (trl0 n))) (fun i _ => cs.length - (intOf i).toNat)
  case atStart => exact ⟨0, arn0, Nat.zero_le _, rfl, Lib.hid rfl, Lib.hid ⟨by decide, by decide, by decide, by decide, by decide⟩, HB2, HP⟩
  case round =>
    obtain ⟨k, A, hk, rfl, HF, HL, HW, HPW⟩ := hrel
    by_cases hlt : k < cs.length
    · obtain ⟨c, hck⟩ := getElem_of hlt
      obtain ⟨A', c', hAc, hxs⟩ := HCC.out.below HW.out
      simp only [Value.slice.injEq, true_and] at hAc
      obtain ⟨rfl, rfl⟩ := hAc
      obtain ⟨g, o, u, rfl, hg, d0, hu⟩ := hxs k c hck
      have hdk : cs.drop k = c :: cs.drop (k + 1) := by
        rw [List.drop_eq_getElem_cons hlt]
        rw [List.getElem?_eq_getElem hlt] at hck
        rw [Option.some.inj hck]
      have hcl' := HCE.out c (List.mem_of_getElem? hck)
      have HN := Lib.hid (show addAll arn0 0 cs = addAll (A.put ((k : Int) + 1) c) (k + 1) (cs.drop (k + 1)) from by rw [HF.out, hdk]; rfl)
      have HL2 := Lib.hid (HL.out.next c hcl')
      have HCA := Lib.hid (put_add u c HPW.out HL.out (by omega) hu hcl')
      clear hck hxs hdk hu
      go_wp2_with fail
      refine HCA.out.mono ?_
      rintro e w3 ⟨⟨x, rfl⟩, hp3, hb3⟩
      have HP3 := Lib.hid hp3
      have HB3 := Lib.hid (HW.out.trans hb3)
      clear hp3 hb3 d0 HCA
      go_wp2_with fail
      go_roundw
      case rel => exact ⟨k + 1, _, by omega, by go_num, HN, HL2, HB3, HP3⟩
      case measure => simp [intOf]; omega
    · obtain rfl : k = cs.length := by omega
      have hF := HF.out
      rw [List.drop_length, show addAll A cs.length [] = A from rfl] at hF
      have HFA := Lib.hid hF
      clear hF
      go_wp2_with fail
      go_loopw [47] (fun i wr => ∃ (m : Nat) (T : Trl), m ≤ acs.length ∧ i = .int .i64 m ∧ Hid (playAll (trl0 n) acs = playAll T (acs.drop m)) ∧ Hid (T.Low m) ∧ Hid (Below w.heap.size w wr) ∧ Hid (PutAt w.heap.size wr w.heap.size b A T)) (fun i _ => acs.length - (intOf i).toNat)
      case atStart => exact ⟨0, trl0 n, Nat.zero_le _, rfl, Lib.hid rfl, Lib.hid ⟨Nat.zero_le _, Nat.le_refl _⟩, HW, HPW⟩
      case round =>
        obtain ⟨m, T, hm, rfl, HG, HLT, HW2, HPT⟩ := hrel
        by_cases hlt2 : m < acs.length
        · obtain ⟨ac, hac⟩ := getElem_of hlt2
          obtain ⟨A', c', hAc, hxs⟩ := HAA.out.below HW2.out
          simp only [Value.slice.injEq, true_and] at hAc
          obtain ⟨rfl, rfl⟩ := hAc
          obtain ⟨g, o, rfl, hg, d0, d1, d2⟩ := hxs m ac hac
          have hdk : acs.drop m = ac :: acs.drop (m + 1) := by
            rw [List.drop_eq_getElem_cons hlt2]
            rw [List.getElem?_eq_getElem hlt2] at hac
            rw [Option.some.inj hac]
          have HN := Lib.hid (show playAll (trl0 n) acs = playAll (T.play ac) (acs.drop (m + 1)) from by rw [HG.out, hdk]; rfl)
          have HL2 := Lib.hid (HLT.out.next ac)
          obtain ⟨W3, hW3⟩ : ∃ x, wr.alloc (.cells #[.bool ac.push, .int .i64 ac.l, .int .i64 ac.by_] 34) = x := ⟨_, rfl⟩
          have hb3 : Below wr.heap.size wr W3 := by rw [← hW3]; exact mx_al _ _
          have HP3 := Lib.hid (HPT.out.below hb3)
          have HB3 := Lib.hid (HW2.out.trans (hb3.mono HW2.out.size))
          have HW3 := Lib.hid hW3
          clear hac hxs hdk hW3 hb3
          cases hpu : ac.push with
          | true =>
            have HPL := Lib.hid (show T.play ac = T.push from by unfold Trl.play; rw [if_pos hpu])
            have HPU := Lib.hid (put_push HP3.out HLT.out (by omega))
            rw [hpu] at d0 HW3
            clear hpu
            go_wp2_with fail
            rw [HW3.out]
            refine HPU.out.mono ?_
            rintro e w4 ⟨rfl, hp4, hb4⟩
            have HP4 := Lib.hid hp4
            have HB4 := Lib.hid (HB3.out.trans hb4)
            clear hp4 hb4 d0 d1 d2 HPU HW3
            go_wp2_with fail
            go_roundw
            case rel => exact ⟨m + 1, _, by omega, by go_num, HN, HL2, HB4, Lib.hid (by rw [HPL.out]; exact HP4.out)⟩
            case measure => simp [intOf]; omega
          | false =>
            have HPL := Lib.hid (show T.play ac = T.assigned ac.l ac.by_ from by unfold Trl.play; rw [if_neg (by rw [hpu]; decide)])
            have HPU := Lib.hid (put_assign ac.l ac.by_ HP3.out HLT.out (by omega))
            rw [hpu] at d0 HW3
            clear hpu
            go_wp2_with fail
            rw [HW3.out]
            refine HPU.out.mono ?_
            rintro e w4 ⟨rfl, hp4, hb4⟩
            have HP4 := Lib.hid hp4
            have HB4 := Lib.hid (HB3.out.trans hb4)
            clear hp4 hb4 d0 d1 d2 HPU HW3
            go_wp2_with fail
            go_roundw
            case rel => exact ⟨m + 1, _, by omega, by go_num, HN, HL2, HB4, Lib.hid (by rw [HPL.out]; exact HP4.out)⟩
            case measure => simp [intOf]; omega
        · obtain rfl : m = acs.length := by omega
          have hG := HG.out
          rw [List.drop_length, show playAll T [] = T from rfl] at hG
          have HGA := Lib.hid hG
          clear hG
          go_wp2_with fail
          go_ret3
          exact ⟨_, _, rfl, by rw [HFA.out, HGA.out]; exact HPT.out, HW2.out⟩
end Go.Proofs.YtiodfolcnnkdjaaGreat
