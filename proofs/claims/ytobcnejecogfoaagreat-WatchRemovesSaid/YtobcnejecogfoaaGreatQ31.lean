/- Clauses in blocks of which something is known. What a watch leaves alone; a watch begun; store (package salvorlaw13); going back where nothing changes. -/
import Derived.Test.YtobcnejecogfoaaGreatQ30
import Derived.Test.YtobcnejecogfoaaGreatQ04
import Derived.Test.YtobcnejecogfoaaGreatQ29
import Derived.Test.YtobcnejecogfoaaGreatQ23
namespace Go.Proofs.YtobcnejecogfoaaGreat
open Go.RowKit

/-- clauses in blocks of which something is known -/
def ClsIn (O : Nat → Prop) (w : World) (v : Value) (cs : List (List Int)) : Prop :=
  ∃ A c, v = .slice A cs.length c ∧ cs.length ≤ c ∧ (A = none → c = 0) ∧ ∀ i xs, cs[i]? = some xs → ∃ g o u, A = some ⟨g, o, none⟩ ∧ g < w.heap.size ∧ O g ∧ w.cell? ⟨g, o + i, none⟩ = some u ∧ IntsIn O w u xs
theorem ClsIn.kept {O O' : Nat → Prop} {w w' : World} {v : Value} {cs : List (List Int)} (h : ClsIn O w v cs) (k : Kept O' w w') (hO : ∀ g, O g → ¬ O' g) : ClsIn O w' v cs := by
  obtain ⟨A, c, hv, hc, hn, hx⟩ := h
  refine ⟨A, c, hv, hc, hn, fun i xs hi => ?_⟩
  obtain ⟨g, o, u, h1, h2, h3, h4, h5⟩ := hx i xs hi
  exact ⟨g, o, u, h1, Nat.lt_of_lt_of_le h2 k.size, h3, (k.cell (p := ⟨g, o + i, none⟩) h2 (hO g h3)).trans h4, h5.kept k hO⟩
theorem ClsIn.below {O : Nat → Prop} {w w' : World} {v : Value} {cs : List (List Int)} (h : ClsIn O w v cs) (k : Below w.heap.size w w') : ClsIn O w' v cs :=
  h.kept (O' := fun _ => False) (Kept.of_below k) (fun _ _ h => h)
theorem ClsIn.mono {O O' : Nat → Prop} {w : World} {v : Value} {cs : List (List Int)} (h : ClsIn O w v cs) (hO : ∀ g, O g → O' g) : ClsIn O' w v cs := by
  obtain ⟨A, c, hv, hc, hn, hx⟩ := h
  refine ⟨A, c, hv, hc, hn, fun i xs hi => ?_⟩
  obtain ⟨g, o, u, h1, h2, h3, h4, h5⟩ := hx i xs hi
  exact ⟨g, o, u, h1, h2, hO g h3, h4, h5.mono hO⟩
theorem ClsIn.lt {O : Nat → Prop} {w : World} {v : Value} {cs : List (List Int)} (h : ClsIn O w v cs) : ClsIn (fun g => O g ∧ g < w.heap.size) w v cs := by
  obtain ⟨A, c, hv, hc, hn, hx⟩ := h
  refine ⟨A, c, hv, hc, hn, fun i xs hi => ?_⟩
  obtain ⟨g, o, u, h1, h2, h3, h4, h5⟩ := hx i xs hi
  exact ⟨g, o, u, h1, h2, ⟨h3, h2⟩, h4, h5.lt⟩
theorem ClsOwn.clsIn {n : Nat} {w : World} {v : Value} {cs : List (List Int)} (h : ClsOwn n w v cs) : ClsIn (fun g => n ≤ g) w v cs := by
  obtain ⟨us, h1, h2⟩ := h
  rcases h1.2 with ⟨rfl, h0⟩ | ⟨g, cap, cur, rfl, hb, hg, hle, _⟩
  · exact ⟨none, 0, by rw [h0], by omega, fun _ => rfl, fun i xs hi => by
      have := (List.getElem?_eq_some_iff.1 hi).1
      omega⟩
  · refine ⟨_, cap, rfl, hle, (fun h => by cases h), fun i xs hi => ?_⟩
    obtain ⟨u, hu, ho⟩ := h2 i xs hi
    exact ⟨g, 0, u, rfl, heap_lt hg, hb, by rw [Nat.zero_add]; exact mx_at h1 hu, (IntsIn.of_own ho).mono (fun g hg => (own_lt ho g hg.2).1)⟩
/-- the values of the clauses of a slice -/
theorem ClsIn.src {O : Nat → Prop} {w : World} {v : Value} {cs : List (List Int)} (h : ClsIn O w v cs) : ∃ us : List Value, us.length = cs.length ∧ SrcAt w v cs.length us ∧ (∀ z ∈ us, z.oneCell' = true) ∧ ∀ (i : Nat) (xs : List Int), cs[i]? = some xs → ∃ u, us[i]? = some u ∧ IntsIn O w u xs := by
  obtain ⟨A, c, rfl, hc, hn, hx⟩ := h
  cases A with
  | none =>
    have h0 := hn rfl
    have h1 : cs = [] := List.eq_nil_of_length_eq_zero (by omega)
    subst h1
    subst h0
    exact ⟨[], rfl, .inl ⟨rfl, rfl, rfl⟩, (fun z hz => by cases hz), fun i xs hi => by simp at hi⟩
  | some a =>
    obtain ⟨ga, oa, fa⟩ := a
    have key : ∀ i, i < cs.length → ∃ u xs, cs[i]? = some xs ∧ fa = none ∧ w.cell? ⟨ga, oa + i, none⟩ = some u ∧ IntsIn O w u xs := fun i hi => by
      obtain ⟨xs, hxs⟩ := getElem_of hi
      obtain ⟨g, o, u, h1, _, _, h4, h5⟩ := hx i xs hxs
      cases h1
      exact ⟨u, xs, hxs, rfl, h4, h5⟩
    refine ⟨(List.range cs.length).map (fun i => (w.cell? ⟨ga, oa + i, none⟩).getD undef), by simp, .inr ⟨_, c, rfl, fun j u hj => ?_⟩, fun z hz => ?_, fun i xs hi => ?_⟩
    · have hjl : j < cs.length := by
        have := (List.getElem?_eq_some_iff.1 hj).1
        simpa using this
      rw [List.getElem?_map, List.getElem?_range hjl] at hj
      obtain ⟨u', xs, _, rfl, h4, _⟩ := key j hjl
      rw [addr_add2]
      simp only [Option.map_some, h4, Option.getD_some, Option.some.injEq] at hj
      rw [h4, hj]
    · obtain ⟨i, hi, rfl⟩ := List.mem_map.1 hz
      obtain ⟨u', xs, _, rfl, h4, h5⟩ := key i (List.mem_range.1 hi)
      rw [h4]
      obtain ⟨A', c', h, _⟩ := h5
      rw [h]
      rfl
    · have hil := (List.getElem?_eq_some_iff.1 hi).1
      obtain ⟨u', xs', h1, rfl, h4, h5⟩ := key i hil
      rw [hi] at h1
      obtain rfl := Option.some.inj h1
      refine ⟨u', ?_, h5⟩
      rw [List.getElem?_map, List.getElem?_range hil]
      simp [h4]
end Go.Proofs.YtobcnejecogfoaaGreat
namespace Go.Proofs.YtobcnejecogfoaaGreat
open Go.RowKit Go.Maps Go.Shelf

/-- blocks that no label is laid on -/
def Fr (w : World) (lab : Nat → Nat) (g : Nat) : Prop := g < w.heap.size ∧ lab g = 0
section
variable {w w' : World} {lab lab' : Nat → Nat} {b ab tb N : Nat} {A : Arn} {T : Trl} {S : Wst} {v : Value} {xs : List Int} {cs : List (List Int)}
theorem Fr.next {g : Nat} (h : Fr w lab g) (k : Labs lab lab' w w') : Fr w' lab' g := ⟨Nat.lt_of_lt_of_le h.1 k.kept.size, (k.same g h.1).trans h.2⟩
theorem IntsIn.next (h : IntsIn (Fr w lab) w v xs) (k : Labs lab lab' w w') : IntsIn (Fr w' lab') w' v xs :=
  (h.kept k.kept (fun _ hg e => e hg.2)).mono (fun _ hg => hg.next k)
theorem IntsIn.frb (h : IntsIn (Fr w lab) w v xs) (k : Below w.heap.size w w') : IntsIn (Fr w' lab) w' v xs := h.next (Labs.of_below k)
theorem ClsIn.next (h : ClsIn (Fr w lab) w v cs) (k : Labs lab lab' w w') : ClsIn (Fr w' lab') w' v cs :=
  (h.kept k.kept (fun _ hg e => e hg.2)).mono (fun _ hg => hg.next k)
theorem ClsIn.frb (h : ClsIn (Fr w lab) w v cs) (k : Below w.heap.size w w') : ClsIn (Fr w' lab) w' v cs := h.next (Labs.of_below k)
theorem ClsIn.at {O : Nat → Prop} (h : ClsIn O w v cs) : ClsAt w v cs := by
  obtain ⟨A, c, hv, _, _, hx⟩ := h
  refine ⟨A, c, hv, fun i xs hi => ?_⟩
  obtain ⟨g, o, u, h1, h2, _, h4, h5⟩ := hx i xs hi
  exact ⟨g, o, u, h1, h2, h4, h5.lt.mono (fun _ hg => hg.2)⟩
theorem own_fr {e : TypeId} (hl : ∀ g, lab g ≠ 0 → g < w.heap.size) (h : w'.ownsRow w.heap.size e 1 v xs.length (xs.map (Value.int .i64))) : IntsIn (Fr w' lab) w' v xs :=
  (IntsIn.of_own h).mono (fun g hg => ⟨(own_lt h g hg.2).2, Classical.byContradiction fun e => by
    have := hl g e
    have := (own_lt h g hg.2).1
    omega⟩)
theorem SysAt.ltb (h : SysAt w lab b ab tb A T S) (k : Below w.heap.size w w') : ∀ g, lab g ≠ 0 → g < w'.heap.size := fun g hg => Nat.lt_of_lt_of_le (h.lt g hg) k.size
/-- labels stay above -/
theorem Labs.ge (k : Labs lab lab' w w') (h : ∀ g, lab g ≠ 0 → N ≤ g) (hN : N ≤ w.heap.size) : ∀ g, lab' g ≠ 0 → N ≤ g := fun g hg => Classical.byContradiction fun e => by
  have h1 := k.same g (by omega)
  rw [h1] at hg
  exact e (h g hg)
theorem Labs.below (k : Labs lab lab' w w') (h : ∀ g, lab g ≠ 0 → N ≤ g) (hN : N ≤ w.heap.size) : Below N w w' := k.kept.below h hN
theorem sys_new {x : Nat} (h : PutAt N w ab tb A T) (hx : x = w.heap.size) : ∃ lab, SysAt (((w.alloc (.map #[] 0)).alloc (.map #[] 0)).alloc (.cells #[.pointer (some ⟨ab, 0, none⟩), .pointer (some ⟨tb, 0, none⟩), .map (some x), .map (some (x + 1)), .int .i64 0] 88)) lab (x + 2) ab tb A T ⟨[], [], 0⟩ ∧ (∀ g, lab g ≠ 0 → N ≤ g) := by
  subst hx
  obtain ⟨h0, OA, OT, h1, h2, h3, h4, h5⟩ := h
  have hoA := h1.own
  have hoT := h2.own
  obtain ⟨W1, hW1⟩ : ∃ y, w.alloc (.map #[] 0) = y := ⟨_, rfl⟩
  have hb1 : Below w.heap.size w W1 := by rw [← hW1]; exact mx_al _ _
  have hz1 : W1.heap.size = w.heap.size + 1 := by rw [← hW1]; simp
  have hm1 : MapK W1 w.heap.size [] := by rw [← hW1]; exact MapS.made w
  obtain ⟨W2, hW2⟩ : ∃ y, W1.alloc (.map #[] 0) = y := ⟨_, rfl⟩
  have hb2 : Below W1.heap.size W1 W2 := by rw [← hW2]; exact mx_al _ _
  have hz2 : W2.heap.size = w.heap.size + 2 := by rw [← hW2]; simp; omega
  have hm2 : MapO W2 W1.heap.size [] := by rw [← hW2]; exact MapS.made W1
  rw [hz1] at hm2
  obtain ⟨W3, hW3⟩ : ∃ y, W2.alloc (.cells #[.pointer (some ⟨ab, 0, none⟩), .pointer (some ⟨tb, 0, none⟩), .map (some w.heap.size), .map (some (w.heap.size + 1)), .int .i64 0] 88) = y := ⟨_, rfl⟩
  have hb3 : Below W2.heap.size W2 W3 := by rw [← hW3]; exact mx_al _ _
  have hz3 : W3.heap.size = w.heap.size + 3 := by rw [← hW3]; simp; omega
  have hB : W3.heap[w.heap.size + 2]? = some (.cells #[.pointer (some ⟨ab, 0, none⟩), .pointer (some ⟨tb, 0, none⟩), .map (some w.heap.size), .map (some (w.heap.size + 1)), .int .i64 0] 88 (0, 0)) := by
    rw [← hW3, ← hz2]
    exact World.alloc_heap_new _ _
  rw [hW1, hW2, hW3]
  have hbw : Below w.heap.size w W3 := hb1.trans ((hb2.trans (hb3.mono (by omega))).mono (by omega))
  classical
  refine ⟨fun g => if OA g then 1 else if OT g then 2 else if w.heap.size ≤ g ∧ g < w.heap.size + 3 then 3 else 0, ⟨?_, ?_, ?_, fun g hg => ?_⟩, fun g hg => ?_⟩
  · refine (h1.below hbw).congr (fun g => ?_)
    by_cases ha : OA g
    · simp [ha]
    · by_cases ht : OT g
      · simp [ha, ht]
      · simp only [ha, ht, if_false]
        split <;> simp
  · refine (h2.below hbw).congr (fun g => ?_)
    by_cases ha : OA g
    · simp [ha, h5 g ha]
    · by_cases ht : OT g
      · simp [ha, ht]
      · simp only [ha, ht, if_false]
        split <;> simp
  · have key : ∀ g, w.heap.size ≤ g → g < w.heap.size + 3 → (if OA g then 1 else if OT g then 2 else if w.heap.size ≤ g ∧ g < w.heap.size + 3 then 3 else 0) = 3 := fun g g1 g2 => by
      rw [if_neg (fun e => by have := hoA g e; omega), if_neg (fun e => by have := hoT g e; omega), if_pos ⟨g1, g2⟩]
    refine ⟨⟨List.Pairwise.nil, (fun p hp => by cases hp), (fun p hp => by cases hp), List.Pairwise.nil, (fun p hp => by cases hp)⟩, w.heap.size, w.heap.size + 1, [], [], fun _ => none, ?_⟩
    refine ⟨fun g hg => ?_, key _ (by omega) (by omega), key _ (by omega) (by omega), key _ (by omega) (by omega), by omega, (fun g t ht => by cases ht), hB, ?_, ?_, rfl, rfl, (fun p hp => by cases hp), fun p hp => by cases hp⟩
    · split at hg
      · cases hg
      · split at hg
        · cases hg
        · split at hg
          · omega
          · cases hg
    · exact (hm1.below hb2).below hb3
    · exact hm2.below hb3
  · split at hg
    · rename_i e
      have := hoA g e
      omega
    · split at hg
      · rename_i e
        have := hoT g e
        omega
      · split at hg
        · omega
        · exact absurd rfl hg
  · dsimp only at hg
    split at hg
    · rename_i e
      exact h3 g e
    · split at hg
      · rename_i e
        exact h4 g e
      · split at hg
        · omega
        · exact absurd rfl hg
theorem wa_new_at (h : PutAt N w ab tb A T) :
    Calls Tryz.prog 24 #[.pointer (some ⟨ab, 0, none⟩), .pointer (some ⟨tb, 0, none⟩)] w fun e w' => ∃ b lab, e = .returned (.tuple #[.pointer (some ⟨b, 0, none⟩), .int .i64 0]) ∧ SysAt w' lab b ab tb A T ⟨[], [], 0⟩ ∧ (∀ g, lab g ≠ 0 → N ≤ g) ∧ Below w.heap.size w w' := by
  refine (wa_new ab tb w).mono ?_
  rintro e w' ⟨rfl, rfl⟩
  obtain ⟨lab, h1, h2⟩ := sys_new h rfl
  exact ⟨_, lab, rfl, h1, h2, ((mx_al _ _).alloc (by simp) _).alloc (by simp; omega) _⟩
end
theorem put_add_ok {n : Nat} {w : World} {a b : Nat} {A : Arn} {T : Trl} {k : Nat} (cv : Value) (c : List Int) (h : PutAt n w a b A T) (hl : A.Low k) (hk : k < 1000) (hc : IntsIn (fun g => g < w.heap.size) w cv c) (hcl : c.length ≤ 1000) (hr : clauseB c = true) :
    Calls Tryz.prog 62 #[.pointer (some ⟨a, 0, none⟩), .int .i64 ((k : Int) + 1), cv] w fun e w' => e = .returned (.int .i64 0) ∧ PutAt n w' a b (A.put ((k : Int) + 1) c) T ∧ Below n w w' := by
  obtain ⟨h0, OA, OT, h1, h2, h3, h4, h5⟩ := h
  obtain ⟨l1, l2, l3, l4, l5⟩ := hl
  have e : A.put ((k : Int) + 1) c = A.add ((k : Int) + 1) c := by unfold Arn.put; rw [if_pos hr]
  rw [e]
  refine (ar_add a A ((k : Int) + 1) cv c w h1 hc hr (by omega) (by omega) (by omega) (by omega) (by omega) (by omega) (by omega)).mono ?_
  rintro e w' ⟨rfl, hn⟩
  exact ⟨rfl, PutAt.arena h0 h2 h3 h4 h5 hn⟩
set_option maxRecDepth 100000 in
set_option maxHeartbeats 2000000 in
theorem store_any (n : Nat) (cv : Value) (cs : List (List Int)) (w : World) (hn : n ≤ 1048576) (hc : ClsAt w cv cs) (hcl : cs.length ≤ 1000) (hce : ∀ c ∈ cs, c.length ≤ 1000 ∧ clauseB c = true) :
    Calls Tryz.prog 23 #[.int .i64 (n : Int), cv] w fun e w' => ∃ a b, e = .returned (.tuple #[.pointer (some ⟨a, 0, none⟩), .pointer (some ⟨b, 0, none⟩), .bool true]) ∧ PutAt w.heap.size w' a b (addAll arn0 0 cs) (trl0 n) ∧ Below w.heap.size w w' := by
  have HCC := Lib.hid hc
  have HCE := Lib.hid hce
  obtain ⟨Ac, cc, rfl, _⟩ := hc
  clear hce
  go_enter Tryz.func23, Tryz.ntmps23
  go_wp2_with fail
  refine (ar_new w).mono ?_
  rintro e w1 ⟨rfl, har, hw1⟩
  have hb1 : Below w.heap.size w w1 := by rw [hw1]; exact mx_al _ _
  have HAR := Lib.hid har
  have HB1 := Lib.hid hb1
  have hz1 : w.heap.size < w1.heap.size := by rw [hw1]; simp
  clear har hw1 hb1
  go_wp2_with fail
  refine (tr_new n w1 hn).mono ?_
  rintro e w2 ⟨b, rfl, htr, hb2⟩
  have hP : PutAt w.heap.size w2 w.heap.size b arn0 (trl0 n) := ⟨Nat.le_trans (Nat.le_of_lt hz1) hb2.size, _, _, HAR.out.below hb2, htr, fun g hg => Nat.le_of_eq hg.symm, fun g hg => by have := hg.1; omega, fun g hg ht => by have := ht.1; have e : g = w.heap.size := hg; omega⟩
  have HP := Lib.hid hP
  have HB2 := Lib.hid (HB1.out.trans (hb2.mono HB1.out.size))
  clear hP htr hb2
  go_wp2_with fail
  go_loopw [30] (fun i wr => ∃ (k : Nat) (A : Arn), k ≤ cs.length ∧ i = .int .i64 k ∧ Hid (addAll arn0 0 cs = addAll A k (cs.drop k)) ∧ Hid (A.Low k) ∧ Hid (Below w.heap.size w wr) ∧ Hid (PutAt w.heap.size wr w.heap.size b A (trl0 n))) (fun i _ => cs.length - (intOf i).toNat)
  case atStart => exact ⟨0, arn0, Nat.zero_le _, rfl, Lib.hid rfl, Lib.hid ⟨by decide, by decide, by decide, by decide, by decide⟩, HB2, HP⟩
  case round =>
    obtain ⟨k, A, hk, rfl, HF, HL, HW, HPW⟩ := hrel
    by_cases hlt : k < cs.length
    · obtain ⟨c, hck⟩ := getElem_of hlt
      obtain ⟨A', c', hAc, hxs⟩ := HCC.out.below HW.out
      simp only [Value.slice.injEq, true_and] at hAc
      obtain ⟨rfl, rfl⟩ := hAc
      obtain ⟨g, o, u, rfl, hg, d0, hu⟩ := hxs k c hck
      have hdk : cs.drop k = c :: cs.drop (k + 1) := by
        rw [List.drop_eq_getElem_cons hlt]
        rw [List.getElem?_eq_getElem hlt] at hck
        rw [Option.some.inj hck]
      have hcl' := HCE.out c (List.mem_of_getElem? hck)
      have HN := Lib.hid (show addAll arn0 0 cs = addAll (A.put ((k : Int) + 1) c) (k + 1) (cs.drop (k + 1)) from by rw [HF.out, hdk]; rfl)
      have HL2 := Lib.hid (HL.out.next c hcl'.1)
      have HCA := Lib.hid (put_add_ok u c HPW.out HL.out (by omega) hu hcl'.1 hcl'.2)
      clear hck hxs hdk hu
      go_wp2_with fail
      refine HCA.out.mono ?_
      rintro e w3 ⟨rfl, hp3, hb3⟩
      have HP3 := Lib.hid hp3
      have HB3 := Lib.hid (HW.out.trans hb3)
      clear hp3 hb3 d0 HCA
      go_wp2_with fail
      go_roundw
      case rel => exact ⟨k + 1, _, by omega, by go_num, HN, HL2, HB3, HP3⟩
      case measure => simp [intOf]; omega
    · obtain rfl : k = cs.length := by omega
      have hF := HF.out
      rw [List.drop_length, show addAll A cs.length [] = A from rfl] at hF
      have HFA := Lib.hid hF
      clear hF
      go_wp2_with fail
      go_ret3
      exact ⟨_, _, rfl, by rw [HFA.out]; exact HPW.out, HW.out⟩
set_option maxRecDepth 100000 in
set_option maxHeartbeats 2000000 in
theorem tr_back_low {O : Nat → Prop} (b : Nat) (T : Trl) (j : Int) (w : World) (h : TrAt O w b T) (hj : j < 0) :
    Calls Tryz.prog 54 #[.pointer (some ⟨b, 0, none⟩), .int .i64 j] w fun r w' => r = .returned (.int .i64 42) ∧ Below w.heap.size w w' := by
  obtain ⟨WA, hWA⟩ : ∃ x, w.alloc (.cells #[.pointer (some ⟨b, 0, none⟩)] 29) = x := ⟨_, rfl⟩
  have hbA : Below w.heap.size w WA := by rw [← hWA]; exact mx_al _ _
  have hcA : WA.heap[w.heap.size]? = some (.cells #[.pointer (some ⟨b, 0, none⟩)] 29 (0, 0)) := by rw [← hWA]; exact World.alloc_heap_new _ _
  have c0 := mx_cell (j := 0) hcA
  have HIS := Lib.hid (tr_is b T WA (h.below hbA))
  have HWA := Lib.hid hWA
  have HBA := Lib.hid hbA
  have q0 : decide (j < 0) = true := by simpa using hj
  clear h hbA hcA hWA hj
  refine (callsIn_wide (n := 9)).1 ?_
  refine callsIn_of_wp_marks Tryz.func54 rfl trivial ?_ rfl
  simp only [Tryz.ntmps54, List.size_toArray, List.length_cons, List.length_nil, Nat.reduceAdd, Nat.reduceSub, Array.replicate_succ, Array.replicate_zero, List.push_toArray, List.append_toArray, List.nil_append, List.cons_append]
  gi_wp2_with fail
  rw [HWA.out]
  refine ⟨trivial, (callsIn_wide.2 HIS.out).mono ?_⟩
  rintro e' w' ⟨rfl, rfl⟩
  gi_wp2_with fail
  refine ⟨_, by simp [results, Tryz.results54, go_sem], rfl, ?_⟩
  exact HBA.out
set_option maxRecDepth 100000 in
set_option maxHeartbeats 2000000 in
theorem tr_back_high {O : Nat → Prop} (b : Nat) (T : Trl) (j : Int) (w : World) (h : TrAt O w b T) (hj : (T.starts.length : Int) ≤ j) :
    Calls Tryz.prog 54 #[.pointer (some ⟨b, 0, none⟩), .int .i64 j] w fun r w' => r = .returned (.int .i64 42) ∧ Below w.heap.size w w' := by
  obtain ⟨WA, hWA⟩ : ∃ x, w.alloc (.cells #[.pointer (some ⟨b, 0, none⟩)] 29) = x := ⟨_, rfl⟩
  have hbA : Below w.heap.size w WA := by rw [← hWA]; exact mx_al _ _
  have hcA : WA.heap[w.heap.size]? = some (.cells #[.pointer (some ⟨b, 0, none⟩)] 29 (0, 0)) := by rw [← hWA]; exact World.alloc_heap_new _ _
  have c0 := mx_cell (j := 0) hcA
  have hTA := h.below hbA
  have HIS := Lib.hid (tr_is b T WA hTA)
  obtain ⟨hok, gv, cv, ov, sv, hm⟩ := hTA
  have hlen := hok.starts
  obtain ⟨gs, cs, cur, hsv, _, _, hgs, _⟩ := mx_some hm.starts (by omega)
  obtain ⟨cs', rfl⟩ : ∃ cs, sv = .slice (some ⟨gs, 0, none⟩) T.starts.length cs := ⟨_, hsv⟩
  have c2 : WA.cell? ⟨b, 2, none⟩ = some (.slice (some ⟨gs, 0, none⟩) T.starts.length cs') := mx_cell (j := 2) hm.block
  have HWA := Lib.hid hWA
  have HBA := Lib.hid hbA
  have q0 : decide (j < 0) = false := by simp; omega
  have q1 : decide ((T.starts.length : Int) ≤ j) = true := by simpa using hj
  clear h hbA hcA hWA hj hsv hm hok hgs
  refine (callsIn_wide (n := 9)).1 ?_
  refine callsIn_of_wp_marks Tryz.func54 rfl trivial ?_ rfl
  simp only [Tryz.ntmps54, List.size_toArray, List.length_cons, List.length_nil, Nat.reduceAdd, Nat.reduceSub, Array.replicate_succ, Array.replicate_zero, List.push_toArray, List.append_toArray, List.nil_append, List.cons_append]
  gi_wp2_with fail
  rw [HWA.out]
  refine ⟨trivial, (callsIn_wide.2 HIS.out).mono ?_⟩
  rintro e' w' ⟨rfl, rfl⟩
  gi_wp2_with fail
  refine ⟨_, by simp [results, Tryz.results54, go_sem], rfl, ?_⟩
  exact HBA.out
set_option maxRecDepth 100000 in
set_option maxHeartbeats 2000000 in
theorem tr_back_same {O : Nat → Prop} (b : Nat) (T : Trl) (j : Int) (w : World) (h : TrAt O w b T) (hj : j = (T.starts.length : Int) - 1) :
    Calls Tryz.prog 54 #[.pointer (some ⟨b, 0, none⟩), .int .i64 j] w fun r w' => r = .returned (.int .i64 0) ∧ Below w.heap.size w w' := by
  obtain ⟨WA, hWA⟩ : ∃ x, w.alloc (.cells #[.pointer (some ⟨b, 0, none⟩)] 29) = x := ⟨_, rfl⟩
  have hbA : Below w.heap.size w WA := by rw [← hWA]; exact mx_al _ _
  have hcA : WA.heap[w.heap.size]? = some (.cells #[.pointer (some ⟨b, 0, none⟩)] 29 (0, 0)) := by rw [← hWA]; exact World.alloc_heap_new _ _
  have c0 := mx_cell (j := 0) hcA
  have hTA := h.below hbA
  have HIS := Lib.hid (tr_is b T WA hTA)
  have HNOW := Lib.hid (tr_now b T WA hTA)
  obtain ⟨hok, gv, cv, ov, sv, hm⟩ := hTA
  have hlen := hok.starts
  obtain ⟨gs, cs, cur, hsv, _, _, hgs, _⟩ := mx_some hm.starts (by omega)
  obtain ⟨cs', rfl⟩ : ∃ cs, sv = .slice (some ⟨gs, 0, none⟩) T.starts.length cs := ⟨_, hsv⟩
  have c2 : WA.cell? ⟨b, 2, none⟩ = some (.slice (some ⟨gs, 0, none⟩) T.starts.length cs') := mx_cell (j := 2) hm.block
  have HWA := Lib.hid hWA
  have HBA := Lib.hid hbA
  have q0 : decide (j < 0) = false := by simp; omega
  have q1 : decide ((T.starts.length : Int) ≤ j) = false := by simp; omega
  have q2 : (j == (T.starts.length : Int) - 1) = true := by simpa using hj
  clear h hbA hcA hWA hj hsv hm hok hgs
  refine (callsIn_wide (n := 9)).1 ?_
  refine callsIn_of_wp_marks Tryz.func54 rfl trivial ?_ rfl
  simp only [Tryz.ntmps54, List.size_toArray, List.length_cons, List.length_nil, Nat.reduceAdd, Nat.reduceSub, Array.replicate_succ, Array.replicate_zero, List.push_toArray, List.append_toArray, List.nil_append, List.cons_append]
  gi_wp2_with fail
  rw [HWA.out]
  refine ⟨trivial, (callsIn_wide.2 HIS.out).mono ?_⟩
  rintro e' w' ⟨rfl, rfl⟩
  gi_wp2_with fail
  refine ⟨trivial, (callsIn_wide.2 HNOW.out).mono ?_⟩
  rintro e' w' ⟨rfl, rfl⟩
  gi_wp2_with fail
  refine ⟨_, by simp [results, Tryz.results54, go_sem], rfl, ?_⟩
  exact HBA.out
/-- Back, whatever the level is -/
def Trl.backErr (T : Trl) (j : Int) : Nat := if j < 0 ∨ (T.starts.length : Int) ≤ j then 42 else 0
def Trl.backed (T : Trl) (j : Int) : Trl := if 0 ≤ j ∧ j + 1 < (T.starts.length : Int) then T.back j.toNat ((T.starts.getD (j.toNat + 1) 0).toNat) else T
theorem tr_back_any {O : Nat → Prop} (b : Nat) (T : Trl) (j : Int) (w : World) (h : TrAt O w b T) (hst : ∀ s ∈ T.starts, 0 ≤ s ∧ s ≤ (T.order.length : Int)) (hfit : ∀ l ∈ T.order, litV l < T.vars.length) :
    Calls Tryz.prog 54 #[.pointer (some ⟨b, 0, none⟩), .int .i64 j] w fun r w' => r = .returned (.int .i64 (T.backErr j : Nat)) ∧ TrNext O w w' b (T.backed j) := by
  unfold Trl.backErr Trl.backed
  by_cases h1 : j < 0
  · rw [if_pos (.inl h1), if_neg (by omega)]
    refine (tr_back_low b T j w h h1).mono ?_
    rintro e w' ⟨rfl, hb⟩
    exact ⟨rfl, .of_below h hb⟩
  · by_cases h2 : (T.starts.length : Int) ≤ j
    · rw [if_pos (.inr h2), if_neg (by omega)]
      refine (tr_back_high b T j w h h2).mono ?_
      rintro e w' ⟨rfl, hb⟩
      exact ⟨rfl, .of_below h hb⟩
    · rw [if_neg (by omega)]
      by_cases h3 : j = (T.starts.length : Int) - 1
      · rw [if_neg (by omega)]
        refine (tr_back_same b T j w h h3).mono ?_
        rintro e w' ⟨rfl, hb⟩
        exact ⟨rfl, .of_below h hb⟩
      · rw [if_pos (by omega)]
        obtain ⟨k, rfl⟩ : ∃ k : Nat, j = k := ⟨j.toNat, by omega⟩
        have hlt : k + 1 < T.starts.length := by omega
        obtain ⟨s, hs⟩ := getElem_of hlt
        have hs2 := hst s (List.mem_of_getElem? hs)
        have e1 : T.starts.getD (k + 1) 0 = s := by rw [List.getD_eq_getElem?_getD, hs]; rfl
        rw [Int.toNat_natCast, e1]
        exact tr_back b k s.toNat T w h hlt (by rw [hs, Int.toNat_of_nonneg hs2.1]) (by omega) hfit
end Go.Proofs.YtobcnejecogfoaaGreat
