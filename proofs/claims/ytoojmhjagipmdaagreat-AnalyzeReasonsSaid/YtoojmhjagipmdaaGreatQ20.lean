/- What a watch leaves alone; a watch begun; store (package salvorlaw13); going back where nothing changes. Plain: a watch whose clauses are known from the level 0 on: what its calls keep. -/
import Derived.Test.YtoojmhjagipmdaaGreatQ18
import Derived.Test.YtoojmhjagipmdaaGreatQ19
import Derived.Test.YtoojmhjagipmdaaGreatQ13
import Derived.Test.YtoojmhjagipmdaaGreatQ12
import Derived.Test.YtoojmhjagipmdaaGreatQ14
namespace Go.Proofs.YtoojmhjagipmdaaGreat
open Go.RowKit Go.Maps Go.Shelf

/-- blocks that no label is laid on -/
def Fr (w : World) (lab : Nat → Nat) (g : Nat) : Prop := g < w.heap.size ∧ lab g = 0
section
variable {w w' : World} {lab lab' : Nat → Nat} {b ab tb N : Nat} {A : Arn} {T : Trl} {S : Wst} {v : Value} {xs : List Int} {cs : List (List Int)}
theorem Fr.next {g : Nat} (h : Fr w lab g) (k : Labs lab lab' w w') : Fr w' lab' g := ⟨Nat.lt_of_lt_of_le h.1 k.kept.size, (k.same g h.1).trans h.2⟩
theorem IntsIn.next (h : IntsIn (Fr w lab) w v xs) (k : Labs lab lab' w w') : IntsIn (Fr w' lab') w' v xs :=
  (h.kept k.kept (fun _ hg e => e hg.2)).mono (fun _ hg => hg.next k)
theorem IntsIn.frb (h : IntsIn (Fr w lab) w v xs) (k : Below w.heap.size w w') : IntsIn (Fr w' lab) w' v xs := h.next (Labs.of_below k)
theorem ClsIn.next (h : ClsIn (Fr w lab) w v cs) (k : Labs lab lab' w w') : ClsIn (Fr w' lab') w' v cs :=
  (h.kept k.kept (fun _ hg e => e hg.2)).mono (fun _ hg => hg.next k)
theorem ClsIn.frb (h : ClsIn (Fr w lab) w v cs) (k : Below w.heap.size w w') : ClsIn (Fr w' lab) w' v cs := h.next (Labs.of_below k)
theorem ClsIn.at {O : Nat → Prop} (h : ClsIn O w v cs) : ClsAt w v cs := by
  obtain ⟨A, c, hv, _, _, hx⟩ := h
  refine ⟨A, c, hv, fun i xs hi => ?_⟩
  obtain ⟨g, o, u, h1, h2, _, h4, h5⟩ := hx i xs hi
  exact ⟨g, o, u, h1, h2, h4, h5.lt.mono (fun _ hg => hg.2)⟩
theorem own_fr {e : TypeId} (hl : ∀ g, lab g ≠ 0 → g < w.heap.size) (h : w'.ownsRow w.heap.size e 1 v xs.length (xs.map (Value.int .i64))) : IntsIn (Fr w' lab) w' v xs :=
  (IntsIn.of_own h).mono (fun g hg => ⟨(own_lt h g hg.2).2, Classical.byContradiction fun e => by
    have := hl g e
    have := (own_lt h g hg.2).1
    omega⟩)
theorem SysAt.ltb (h : SysAt w lab b ab tb A T S) (k : Below w.heap.size w w') : ∀ g, lab g ≠ 0 → g < w'.heap.size := fun g hg => Nat.lt_of_lt_of_le (h.lt g hg) k.size
/-- labels stay above -/
theorem Labs.ge (k : Labs lab lab' w w') (h : ∀ g, lab g ≠ 0 → N ≤ g) (hN : N ≤ w.heap.size) : ∀ g, lab' g ≠ 0 → N ≤ g := fun g hg => Classical.byContradiction fun e => by
  have h1 := k.same g (by omega)
  rw [h1] at hg
  exact e (h g hg)
theorem Labs.below (k : Labs lab lab' w w') (h : ∀ g, lab g ≠ 0 → N ≤ g) (hN : N ≤ w.heap.size) : Below N w w' := k.kept.below h hN
theorem sys_new {x : Nat} (h : PutAt N w ab tb A T) (hx : x = w.heap.size) : ∃ lab, SysAt (((w.alloc (.map #[] 0)).alloc (.map #[] 0)).alloc (.cells #[.pointer (some ⟨ab, 0, none⟩), .pointer (some ⟨tb, 0, none⟩), .map (some x), .map (some (x + 1)), .int .i64 0] 157)) lab (x + 2) ab tb A T ⟨[], [], 0⟩ ∧ (∀ g, lab g ≠ 0 → N ≤ g) := by
  subst hx
  obtain ⟨h0, OA, OT, h1, h2, h3, h4, h5⟩ := h
  have hoA := h1.own
  have hoT := h2.own
  obtain ⟨W1, hW1⟩ : ∃ y, w.alloc (.map #[] 0) = y := ⟨_, rfl⟩
  have hb1 : Below w.heap.size w W1 := by rw [← hW1]; exact mx_al _ _
  have hz1 : W1.heap.size = w.heap.size + 1 := by rw [← hW1]; simp
  have hm1 : MapK W1 w.heap.size [] := by rw [← hW1]; exact MapS.made w
  obtain ⟨W2, hW2⟩ : ∃ y, W1.alloc (.map #[] 0) = y := ⟨_, rfl⟩
  have hb2 : Below W1.heap.size W1 W2 := by rw [← hW2]; exact mx_al _ _
  have hz2 : W2.heap.size = w.heap.size + 2 := by rw [← hW2]; simp; omega
  have hm2 : MapO W2 W1.heap.size [] := by rw [← hW2]; exact MapS.made W1
  rw [hz1] at hm2
  obtain ⟨W3, hW3⟩ : ∃ y, W2.alloc (.cells #[.pointer (some ⟨ab, 0, none⟩), .pointer (some ⟨tb, 0, none⟩), .map (some w.heap.size), .map (some (w.heap.size + 1)), .int .i64 0] 157) = y := ⟨_, rfl⟩
  have hb3 : Below W2.heap.size W2 W3 := by rw [← hW3]; exact mx_al _ _
  have hz3 : W3.heap.size = w.heap.size + 3 := by rw [← hW3]; simp; omega
  have hB : W3.heap[w.heap.size + 2]? = some (.cells #[.pointer (some ⟨ab, 0, none⟩), .pointer (some ⟨tb, 0, none⟩), .map (some w.heap.size), .map (some (w.heap.size + 1)), .int .i64 0] 157 (0, 0)) := by
    rw [← hW3, ← hz2]
    exact World.alloc_heap_new _ _
  rw [hW1, hW2, hW3]
  have hbw : Below w.heap.size w W3 := hb1.trans ((hb2.trans (hb3.mono (by omega))).mono (by omega))
  classical
  refine ⟨fun g => if OA g then 1 else if OT g then 2 else if w.heap.size ≤ g ∧ g < w.heap.size + 3 then 3 else 0, ⟨?_, ?_, ?_, fun g hg => ?_⟩, fun g hg => ?_⟩
  · refine (h1.below hbw).congr (fun g => ?_)
    by_cases ha : OA g
    · simp [ha]
    · by_cases ht : OT g
      · simp [ha, ht]
      · simp only [ha, ht, if_false]
        split <;> simp
  · refine (h2.below hbw).congr (fun g => ?_)
    by_cases ha : OA g
    · simp [ha, h5 g ha]
    · by_cases ht : OT g
      · simp [ha, ht]
      · simp only [ha, ht, if_false]
        split <;> simp
  · have key : ∀ g, w.heap.size ≤ g → g < w.heap.size + 3 → (if OA g then 1 else if OT g then 2 else if w.heap.size ≤ g ∧ g < w.heap.size + 3 then 3 else 0) = 3 := fun g g1 g2 => by
      rw [if_neg (fun e => by have := hoA g e; omega), if_neg (fun e => by have := hoT g e; omega), if_pos ⟨g1, g2⟩]
    refine ⟨⟨List.Pairwise.nil, (fun p hp => by cases hp), (fun p hp => by cases hp), List.Pairwise.nil, (fun p hp => by cases hp)⟩, w.heap.size, w.heap.size + 1, [], [], fun _ => none, ?_⟩
    refine ⟨fun g hg => ?_, key _ (by omega) (by omega), key _ (by omega) (by omega), key _ (by omega) (by omega), by omega, (fun g t ht => by cases ht), hB, ?_, ?_, rfl, rfl, (fun p hp => by cases hp), fun p hp => by cases hp⟩
    · split at hg
      · cases hg
      · split at hg
        · cases hg
        · split at hg
          · omega
          · cases hg
    · exact (hm1.below hb2).below hb3
    · exact hm2.below hb3
  · split at hg
    · rename_i e
      have := hoA g e
      omega
    · split at hg
      · rename_i e
        have := hoT g e
        omega
      · split at hg
        · omega
        · exact absurd rfl hg
  · dsimp only at hg
    split at hg
    · rename_i e
      exact h3 g e
    · split at hg
      · rename_i e
        exact h4 g e
      · split at hg
        · omega
        · exact absurd rfl hg
theorem wa_new_at (h : PutAt N w ab tb A T) :
    Calls Tryz.prog 50 #[.pointer (some ⟨ab, 0, none⟩), .pointer (some ⟨tb, 0, none⟩)] w fun e w' => ∃ b lab, e = .returned (.tuple #[.pointer (some ⟨b, 0, none⟩), .int .i64 0]) ∧ SysAt w' lab b ab tb A T ⟨[], [], 0⟩ ∧ (∀ g, lab g ≠ 0 → N ≤ g) ∧ Below w.heap.size w w' := by
  refine (wa_new ab tb w).mono ?_
  rintro e w' ⟨rfl, rfl⟩
  obtain ⟨lab, h1, h2⟩ := sys_new h rfl
  exact ⟨_, lab, rfl, h1, h2, ((mx_al _ _).alloc (by simp) _).alloc (by simp; omega) _⟩
end
theorem put_add_ok {n : Nat} {w : World} {a b : Nat} {A : Arn} {T : Trl} {k : Nat} (cv : Value) (c : List Int) (h : PutAt n w a b A T) (hl : A.Low k) (hk : k < 1000) (hc : IntsIn (fun g => g < w.heap.size) w cv c) (hcl : c.length ≤ 1000) (hr : clauseB c = true) :
    Calls Tryz.prog 92 #[.pointer (some ⟨a, 0, none⟩), .int .i64 ((k : Int) + 1), cv] w fun e w' => e = .returned (.int .i64 0) ∧ PutAt n w' a b (A.put ((k : Int) + 1) c) T ∧ Below n w w' := by
  obtain ⟨h0, OA, OT, h1, h2, h3, h4, h5⟩ := h
  obtain ⟨l1, l2, l3, l4, l5⟩ := hl
  have e : A.put ((k : Int) + 1) c = A.add ((k : Int) + 1) c := by unfold Arn.put; rw [if_pos hr]
  rw [e]
  refine (ar_add a A ((k : Int) + 1) cv c w h1 hc hr (by omega) (by omega) (by omega) (by omega) (by omega) (by omega) (by omega)).mono ?_
  rintro e w' ⟨rfl, hn⟩
  exact ⟨rfl, PutAt.arena h0 h2 h3 h4 h5 hn⟩
set_option maxRecDepth 100000 in
set_option maxHeartbeats 2000000 in
theorem tr_back_low {O : Nat → Prop} (b : Nat) (T : Trl) (j : Int) (w : World) (h : TrAt O w b T) (hj : j < 0) :
    Calls Tryz.prog 131 #[.pointer (some ⟨b, 0, none⟩), .int .i64 j] w fun r w' => r = .returned (.int .i64 42) ∧ Below w.heap.size w w' := by
  obtain ⟨WA, hWA⟩ : ∃ x, w.alloc (.cells #[.pointer (some ⟨b, 0, none⟩)] 38) = x := ⟨_, rfl⟩
  have hbA : Below w.heap.size w WA := by rw [← hWA]; exact mx_al _ _
  have hcA : WA.heap[w.heap.size]? = some (.cells #[.pointer (some ⟨b, 0, none⟩)] 38 (0, 0)) := by rw [← hWA]; exact World.alloc_heap_new _ _
  have c0 := mx_cell (j := 0) hcA
  have HIS := Lib.hid (tr_is b T WA (h.below hbA))
  have HWA := Lib.hid hWA
  have HBA := Lib.hid hbA
  have q0 : decide (j < 0) = true := by simpa using hj
  clear h hbA hcA hWA hj
  refine (callsIn_wide (n := 9)).1 ?_
  refine callsIn_of_wp_marks Tryz.func131 rfl trivial ?_ rfl
  simp only [Tryz.ntmps131, List.size_toArray, List.length_cons, List.length_nil, Nat.reduceAdd, Nat.reduceSub, Array.replicate_succ, Array.replicate_zero, List.push_toArray, List.append_toArray, List.nil_append, List.cons_append]
  gi_wp2_with fail
  rw [HWA.out]
  refine ⟨trivial, (callsIn_wide.2 HIS.out).mono ?_⟩
  rintro e' w' ⟨rfl, rfl⟩
  gi_wp2_with fail
  refine ⟨_, by simp [results, Tryz.results131, go_sem], rfl, ?_⟩
  exact HBA.out
set_option maxRecDepth 100000 in
set_option maxHeartbeats 2000000 in
theorem tr_back_high {O : Nat → Prop} (b : Nat) (T : Trl) (j : Int) (w : World) (h : TrAt O w b T) (hj : (T.starts.length : Int) ≤ j) :
    Calls Tryz.prog 131 #[.pointer (some ⟨b, 0, none⟩), .int .i64 j] w fun r w' => r = .returned (.int .i64 42) ∧ Below w.heap.size w w' := by
  obtain ⟨WA, hWA⟩ : ∃ x, w.alloc (.cells #[.pointer (some ⟨b, 0, none⟩)] 38) = x := ⟨_, rfl⟩
  have hbA : Below w.heap.size w WA := by rw [← hWA]; exact mx_al _ _
  have hcA : WA.heap[w.heap.size]? = some (.cells #[.pointer (some ⟨b, 0, none⟩)] 38 (0, 0)) := by rw [← hWA]; exact World.alloc_heap_new _ _
  have c0 := mx_cell (j := 0) hcA
  have hTA := h.below hbA
  have HIS := Lib.hid (tr_is b T WA hTA)
  obtain ⟨hok, gv, cv, ov, sv, hm⟩ := hTA
  have hlen := hok.starts
  obtain ⟨gs, cs, cur, hsv, _, _, hgs, _⟩ := mx_some hm.starts (by omega)
  obtain ⟨cs', rfl⟩ : ∃ cs, sv = .slice (some ⟨gs, 0, none⟩) T.starts.length cs := ⟨_, hsv⟩
  have c2 : WA.cell? ⟨b, 2, none⟩ = some (.slice (some ⟨gs, 0, none⟩) T.starts.length cs') := mx_cell (j := 2) hm.block
  have HWA := Lib.hid hWA
  have HBA := Lib.hid hbA
  have q0 : decide (j < 0) = false := by simp; omega
  have q1 : decide ((T.starts.length : Int) ≤ j) = true := by simpa using hj
  clear h hbA hcA hWA hj hsv hm hok hgs
  refine (callsIn_wide (n := 9)).1 ?_
  refine callsIn_of_wp_marks Tryz.func131 rfl trivial ?_ rfl
  simp only [Tryz.ntmps131, List.size_toArray, List.length_cons, List.length_nil, Nat.reduceAdd, Nat.reduceSub, Array.replicate_succ, Array.replicate_zero, List.push_toArray, List.append_toArray, List.nil_append, List.cons_append]
  gi_wp2_with fail
  rw [HWA.out]
  refine ⟨trivial, (callsIn_wide.2 HIS.out).mono ?_⟩
  rintro e' w' ⟨rfl, rfl⟩
  gi_wp2_with fail
  refine ⟨_, by simp [results, Tryz.results131, go_sem], rfl, ?_⟩
  exact HBA.out
set_option maxRecDepth 100000 in
set_option maxHeartbeats 2000000 in
theorem tr_back_same {O : Nat → Prop} (b : Nat) (T : Trl) (j : Int) (w : World) (h : TrAt O w b T) (hj : j = (T.starts.length : Int) - 1) :
    Calls Tryz.prog 131 #[.pointer (some ⟨b, 0, none⟩), .int .i64 j] w fun r w' => r = .returned (.int .i64 0) ∧ Below w.heap.size w w' := by
  obtain ⟨WA, hWA⟩ : ∃ x, w.alloc (.cells #[.pointer (some ⟨b, 0, none⟩)] 38) = x := ⟨_, rfl⟩
  have hbA : Below w.heap.size w WA := by rw [← hWA]; exact mx_al _ _
  have hcA : WA.heap[w.heap.size]? = some (.cells #[.pointer (some ⟨b, 0, none⟩)] 38 (0, 0)) := by rw [← hWA]; exact World.alloc_heap_new _ _
  have c0 := mx_cell (j := 0) hcA
  have hTA := h.below hbA
  have HIS := Lib.hid (tr_is b T WA hTA)
  have HNOW := Lib.hid (tr_now b T WA hTA)
  obtain ⟨hok, gv, cv, ov, sv, hm⟩ := hTA
  have hlen := hok.starts
  obtain ⟨gs, cs, cur, hsv, _, _, hgs, _⟩ := mx_some hm.starts (by omega)
  obtain ⟨cs', rfl⟩ : ∃ cs, sv = .slice (some ⟨gs, 0, none⟩) T.starts.length cs := ⟨_, hsv⟩
  have c2 : WA.cell? ⟨b, 2, none⟩ = some (.slice (some ⟨gs, 0, none⟩) T.starts.length cs') := mx_cell (j := 2) hm.block
  have HWA := Lib.hid hWA
  have HBA := Lib.hid hbA
  have q0 : decide (j < 0) = false := by simp; omega
  have q1 : decide ((T.starts.length : Int) ≤ j) = false := by simp; omega
  have q2 : (j == (T.starts.length : Int) - 1) = true := by simpa using hj
  clear h hbA hcA hWA hj hsv hm hok hgs
  refine (callsIn_wide (n := 9)).1 ?_
  refine callsIn_of_wp_marks Tryz.func131 rfl trivial ?_ rfl
  simp only [Tryz.ntmps131, List.size_toArray, List.length_cons, List.length_nil, Nat.reduceAdd, Nat.reduceSub, Array.replicate_succ, Array.replicate_zero, List.push_toArray, List.append_toArray, List.nil_append, List.cons_append]
  gi_wp2_with fail
  rw [HWA.out]
  refine ⟨trivial, (callsIn_wide.2 HIS.out).mono ?_⟩
  rintro e' w' ⟨rfl, rfl⟩
  gi_wp2_with fail
  refine ⟨trivial, (callsIn_wide.2 HNOW.out).mono ?_⟩
  rintro e' w' ⟨rfl, rfl⟩
  gi_wp2_with fail
  refine ⟨_, by simp [results, Tryz.results131, go_sem], rfl, ?_⟩
  exact HBA.out
/-- Back, whatever the level is -/
def Trl.backErr (T : Trl) (j : Int) : Nat := if j < 0 ∨ (T.starts.length : Int) ≤ j then 42 else 0
def Trl.backed (T : Trl) (j : Int) : Trl := if 0 ≤ j ∧ j + 1 < (T.starts.length : Int) then T.back j.toNat ((T.starts.getD (j.toNat + 1) 0).toNat) else T
theorem tr_back_any {O : Nat → Prop} (b : Nat) (T : Trl) (j : Int) (w : World) (h : TrAt O w b T) (hst : ∀ s ∈ T.starts, 0 ≤ s ∧ s ≤ (T.order.length : Int)) (hfit : ∀ l ∈ T.order, litV l < T.vars.length) :
    Calls Tryz.prog 131 #[.pointer (some ⟨b, 0, none⟩), .int .i64 j] w fun r w' => r = .returned (.int .i64 (T.backErr j : Nat)) ∧ TrNext O w w' b (T.backed j) := by
  unfold Trl.backErr Trl.backed
  by_cases h1 : j < 0
  · rw [if_pos (.inl h1), if_neg (by omega)]
    refine (tr_back_low b T j w h h1).mono ?_
    rintro e w' ⟨rfl, hb⟩
    exact ⟨rfl, .of_below h hb⟩
  · by_cases h2 : (T.starts.length : Int) ≤ j
    · rw [if_pos (.inr h2), if_neg (by omega)]
      refine (tr_back_high b T j w h h2).mono ?_
      rintro e w' ⟨rfl, hb⟩
      exact ⟨rfl, .of_below h hb⟩
    · rw [if_neg (by omega)]
      by_cases h3 : j = (T.starts.length : Int) - 1
      · rw [if_neg (by omega)]
        refine (tr_back_same b T j w h h3).mono ?_
        rintro e w' ⟨rfl, hb⟩
        exact ⟨rfl, .of_below h hb⟩
      · rw [if_pos (by omega)]
        obtain ⟨k, rfl⟩ : ∃ k : Nat, j = k := ⟨j.toNat, by omega⟩
        have hlt : k + 1 < T.starts.length := by omega
        obtain ⟨s, hs⟩ := getElem_of hlt
        have hs2 := hst s (List.mem_of_getElem? hs)
        have e1 : T.starts.getD (k + 1) 0 = s := by rw [List.getD_eq_getElem?_getD, hs]; rfl
        rw [Int.toNat_natCast, e1]
        exact tr_back b k s.toNat T w h hlt (by rw [hs, Int.toNat_of_nonneg hs2.1]) (by omega) hfit
end Go.Proofs.YtoojmhjagipmdaaGreat
namespace Go.Proofs.YtoojmhjagipmdaaGreat
open Go.RowKit

/-- true at the level 0 -/
def Has0 (its : List RIt) (y : Int) : Prop := ∃ (p : Nat) (x : RIt), its[p]? = some x ∧ x.lit = y ∧ x.level = 0
theorem Has0.has {its : List RIt} {y : Int} (h : Has0 its y) : Has its y := by
  obtain ⟨p, x, h1, h2, _⟩ := h
  exact ⟨p, x, h1, h2⟩
theorem Has0.pre {its its' : List RIt} (hp : its <+: its') {y : Int} (h : Has0 its y) : Has0 its' y := by
  obtain ⟨p, x, h1, h2⟩ := h
  exact ⟨p, x, pre_get hp h1, h2⟩
theorem Has.pre {its its' : List RIt} (hp : its <+: its') {y : Int} (h : Has its y) : Has its' y := by
  obtain ⟨p, x, h1, h2⟩ := h
  exact ⟨p, x, pre_get hp h1, h2⟩
/-- where the levels begin -/
def Sta (T : Trl) (its : List RIt) : Prop := ∀ (k : Nat) (s : Int), T.starts[k]? = some s → (0 ≤ s ∧ s ≤ (its.length : Int)) ∧ ∀ (p : Nat) (x : RIt), its[p]? = some x → ((p : Int) < s ↔ x.level < (k : Int))
structure St (C : Int → Option (List Int)) (T : Trl) (its : List RIt) (S : Wst) : Prop where
  sim : Sim T its
  vars : T.vars.length = 7
  sta : Sta T its
  inv : HInv C its T.now S
/-- clauses of few literals of the variables 1 to 6 -/
def Fit6 (C : Int → Option (List Int)) : Prop := ∀ id c, C id = some c → (1 ≤ id ∧ id ≤ 1000) ∧ c.length ≤ 6 ∧ ∀ y ∈ c, litB y = true ∧ litV y < 7
theorem Fit6.right {C : Int → Option (List Int)} (h : Fit6 C) {id : Int} {c : List Int} (hc : C id = some c) : clauseB c = true := by
  obtain ⟨_, h2, h3⟩ := h id c hc
  unfold clauseB
  rw [Bool.and_eq_true, decide_eq_true_eq, List.all_eq_true]
  exact ⟨by omega, fun y hy => (h3 y hy).1⟩
section
variable {C : Int → Option (List Int)} {T : Trl} {its : List RIt} {S : Wst}
theorem Sim.uniq {its' : List RIt} (h : Sim T its) (h' : Sim T its') : its = its' := by
  have hl : its.map RIt.lit = its'.map RIt.lit := h.order.symm.trans h'.order
  have hlen : its.length = its'.length := by
    have := congrArg List.length hl
    rwa [List.length_map, List.length_map] at this
  refine List.ext_getElem? fun p => ?_
  cases hx : its[p]? with
  | none =>
    rw [List.getElem?_eq_none_iff] at hx
    exact (List.getElem?_eq_none_iff.2 (by omega)).symm
  | some x =>
    have hp := (List.getElem?_eq_some_iff.1 hx).1
    obtain ⟨y, hy⟩ := getElem_of (show p < its'.length by omega)
    rw [hy]
    have e1 : (its.map RIt.lit)[p]? = (its'.map RIt.lit)[p]? := by rw [hl]
    rw [List.getElem?_map, List.getElem?_map, hx, hy] at e1
    have e2 : x.lit = y.lit := Option.some.inj e1
    have e3 := (h.at_ p x hx).2
    rw [e2, (h'.at_ p y hy).2] at e3
    have e4 := Option.some.inj e3
    simp only [TV.mk.injEq] at e4
    obtain ⟨a1, a2, _, _⟩ := e4
    congr 1
    cases x
    cases y
    simp only at e2 a1 a2
    subst e2
    subst a1
    subst a2
    rfl
theorem sim_val {y : Int} (h1 : T.fal y = false) (h2 : T.tru y = false) : T.val y = 0 := by
  unfold Trl.fal at h1
  unfold Trl.tru at h2
  rw [decide_eq_false_iff_not] at h1 h2
  omega
theorem sim_tru (h : Sim T its) {y : Int} (hh : Has its y) : T.val y = 1 := by
  obtain ⟨p, x, hp, e⟩ := hh
  have := (h.val_at hp y (by rw [e])).2
  rw [if_pos e] at this
  rw [h.val, this]
theorem free_err (hv : T.vars.length = 7) {l r : Int} (hl : litB l = true) (hlv : litV l < 7) (h0 : T.val l = 0) (hr : 0 ≤ r ∧ r ≤ 1073741824) : T.assignErr l r = 0 := by
  have hp := (litV_pos hl).1
  unfold Trl.assignErr
  obtain ⟨s, hs⟩ := getElem_of (show litV l < T.vars.length by omega)
  have ha : T.at (litV l : Nat) = some s := by
    unfold Trl.at
    rw [if_pos (by omega), Int.toNat_natCast]
    exact hs
  rw [ha]
  unfold Trl.val at h0
  rw [ha] at h0
  simp only at h0 ⊢
  have hsn := litS_ne l
  have hz : s.value = 0 := (Int.mul_eq_zero.1 h0).resolve_right hsn
  rw [if_neg (by omega), if_neg (by omega)]
theorem assigned_starts (l r : Int) : (T.assigned l r).starts = T.starts := by
  unfold Trl.assigned
  split <;> rfl
theorem now_eq : T.now = (T.starts.length : Int) - 1 := rfl
theorem Sta.snoc {T' : Trl} (h : Sta T its) (hst : T'.starts = T.starts) (l r : Int) : Sta T' (its ++ [⟨l, r, T.now⟩]) := by
  intro k s hs
  rw [hst] at hs
  have hk := (List.getElem?_eq_some_iff.1 hs).1
  obtain ⟨h1, h2⟩ := h k s hs
  refine ⟨⟨h1.1, by rw [List.length_append]; simp; omega⟩, fun p x hp => ?_⟩
  rw [List.getElem?_append] at hp
  split at hp
  · exact h2 p x hp
  · rename_i hpl
    have hx := List.mem_singleton.1 (List.mem_of_getElem? hp)
    subst hx
    rw [now_eq]
    simp only
    omega
/-- a trail and the list of what was assigned -/
def PT (T : Trl) : Prop := ∃ its, Sim T its ∧ Sta T its
theorem PT.assigned (h : PT T) (l r : Int) : PT (T.assigned l r) := by
  obtain ⟨its, h1, h2⟩ := h
  by_cases he : T.assignErr l r = 0
  · exact ⟨_, h1.snoc he, h2.snoc (assigned_starts l r) l r⟩
  · have e : T.assigned l r = T := by unfold Trl.assigned; rw [if_neg he]
    rw [e]
    exact ⟨its, h1, h2⟩
theorem PT.lookOne {A : Arn} (h : PT T) (l id : Int) : PT (lookOne A T S l id).1 := by
  unfold Proofs.YtoojmhjagipmdaaGreat.lookOne
  split
  · exact h
  · split
    · exact h
    · split
      · exact h
      · split
        · exact h
        · split
          · exact h
          · exact h.assigned _ _
theorem PT.lookGo {A : Arn} (l : Int) (ids : List Int) : ∀ {T : Trl} {S : Wst}, PT T → PT (lookGo A T S l ids).1 := by
  induction ids with
  | nil => exact fun h => h
  | cons id r ih =>
    intro T S h
    rw [lookGo_cons]
    split
    · exact h.lookOne l id
    · exact ih (h.lookOne l id)
theorem PT.propGo {A : Arn} (n : Nat) : ∀ {T : Trl} {S : Wst}, PT T → PT (propGo A n T S).1 := by
  induction n with
  | zero => exact fun h => h
  | succ n ih =>
    intro T S h
    unfold Proofs.YtoojmhjagipmdaaGreat.propGo
    split
    · exact h
    · rename_i y hy
      have hg := PT.lookGo (A := A) (S := S) (litN y) (S.row (litN y)) h
      split
      · rename_i he
        rw [he] at hg
        exact hg
      · rename_i he
        rw [he] at hg
        exact ih hg
/-- the beginning -/
theorem st0 (C : Int → Option (List Int)) : St C (trl0 6) [] ⟨[], [], 0⟩ where
  sim := ⟨rfl, by decide, (fun p x h => by simp at h), (fun v s h _ => by
    have := List.mem_of_getElem? h
    rw [(List.mem_replicate.1 this).2]), (fun p q x y _ h => by simp at h), (fun x h => by cases h), by decide⟩
  vars := rfl
  sta := fun k s hs => by
    have hk := (List.getElem?_eq_some_iff.1 hs).1
    have hk0 : k = 0 := by
      have : (trl0 6).starts.length = 1 := rfl
      omega
    subst hk0
    have : s = 0 := by
      have e : (trl0 6).starts[0]? = some 0 := rfl
      rw [e] at hs
      exact (Option.some.inj hs).symm
    subst this
    exact ⟨⟨Int.le_refl _, by simp⟩, fun p x hp => by simp at hp⟩
  inv := ⟨⟨List.Pairwise.nil, (fun p hp => by cases hp), (fun p hp => by cases hp), List.Pairwise.nil, (fun p hp => by cases hp)⟩, (fun l id => ⟨fun h => (by cases h), fun ⟨k, hk, _⟩ => by cases hk⟩), (fun id k hk => by cases hk), (fun id k c hk => by cases hk), (fun id k c hk => by cases hk), (fun id k a hk => by cases hk), (fun p x _ hp => by simp at hp), Nat.le_refl _, fun p x hp => by simp at hp⟩
/-- a further literal -/
theorem St.assign (h : St C T its S) {l r : Int} (he : T.assignErr l r = 0) (hr : r ≠ 0 → ∃ c, C r = some c ∧ l ∈ c ∧ ∀ y ∈ c, y ≠ l → Has its (-y)) : St C (T.assigned l r) (its ++ [⟨l, r, T.now⟩]) S where
  sim := h.sim.snoc he
  vars := (assigned_vars T l r).trans h.vars
  sta := h.sta.snoc (assigned_starts l r) l r
  inv := by
    rw [assigned_now]
    have hi := h.inv
    refine ⟨hi.bnd, hi.link, hi.kn, hi.two, hi.alw, fun id k a hk ha p x hp hx hxl => ?_, fun p x hp hx => ?_, by rw [List.length_append]; have := hi.len; omega, hi.rs.snoc hr⟩
    · have hpl : p < its.length := by have := hi.len; omega
      rw [List.getElem?_append_left hpl] at hx
      obtain ⟨q, y, hq, h1, h2⟩ := hi.w id k a hk ha p x hp hx hxl
      exact ⟨q, y, by rw [List.getElem?_append_left (List.getElem?_eq_some_iff.1 hq).1]; exact hq, h1, h2⟩
    · rw [List.getElem?_append] at hx
      split at hx
      · exact hi.cur p x hp hx
      · rw [List.mem_singleton.1 (List.mem_of_getElem? hx)]
theorem addTwo_cases (T : Trl) (c : List Int) : (∃ a b, addTwo T c = [a, b] ∧ a ≠ b ∧ a ∈ c ∧ b ∈ c) ∨ (eachL c).length ≤ 1 ∧ addTwo T c = eachL c := by
  have hp : (T.first (eachL c)).Perm (eachL c) := by
    unfold Trl.first
    exact (List.Perm.append_left _ (stab_perm T _)).trans (by
      have := List.filter_append_perm (fun x => !T.fal x) (eachL c)
      simpa using this)
  have hn := hp.nodup_iff.2 (eachL_nodup c)
  unfold addTwo
  cases hf : T.first (eachL c) with
  | nil =>
    rw [hf] at hp
    right
    rw [List.nil_perm.1 hp]
    exact ⟨Nat.zero_le _, rfl⟩
  | cons a r =>
    rw [hf] at hp hn
    cases r with
    | nil =>
      right
      rw [List.singleton_perm.1 hp |>.symm]
      exact ⟨Nat.le_refl _, rfl⟩
    | cons b r =>
      left
      refine ⟨a, b, rfl, fun e => ?_, ?_, ?_⟩
      · exact (List.nodup_cons.1 hn).1 (e ▸ List.mem_cons_self)
      · exact eachL_mem.1 (hp.mem_iff.1 List.mem_cons_self)
      · exact eachL_mem.1 (hp.mem_iff.1 (List.mem_cons_of_mem _ List.mem_cons_self))
theorem addBy_ok (h : S.Bnd) (hL : S.Link) {id : Int} {c : List Int} (hn : S.kn id = none) (hid : 1 ≤ id ∧ id ≤ 1073741824) (hc : c.length ≤ 4096 ∧ ∀ l ∈ c, litB l = true) (T : Trl) :
    ∃ bs, (S.addBy id (eachL c) (addTwo T c)).Bnd ∧ (S.addBy id (eachL c) (addTwo T c)).Link ∧ (S.addBy id (eachL c) (addTwo T c)).looked = S.looked ∧ (∀ j, (S.addBy id (eachL c) (addTwo T c)).kn j = if j = id then some ⟨bs, eachL c⟩ else S.kn j) ∧ (bs = [] ∧ (eachL c).length ≤ 1 ∨ bs ≠ []) := by
  have hc' : (eachL c).length ≤ 4096 ∧ ∀ l ∈ eachL c, litB l = true := ⟨Nat.le_trans (eachL_len c) hc.1, fun l hl => hc.2 l (eachL_mem.1 hl)⟩
  rcases addTwo_cases T c with ⟨a, b, e, hab, ha, hb⟩ | ⟨hl, e⟩
  · rw [e]
    obtain ⟨h1, h2, h3, h4, h5, h6⟩ := watch_two h hL hn hid hc' hab (eachL_mem.2 ha) (eachL_mem.2 hb)
    exact ⟨[a, b], h5, h6, rfl, fun j => Wst.kn_set h id ⟨[a, b], eachL c⟩ j, .inr (by simp)⟩
  · have e2 : S.addBy id (eachL c) (addTwo T c) = S.set id ⟨[], eachL c⟩ := by
      rw [e]
      unfold Wst.addBy
      split
      · rename_i a b h
        rw [h] at hl
        simp at hl
      · rfl
    rw [e2]
    obtain ⟨h1, h2⟩ := watch_none h hL hn hid hc'
    exact ⟨[], h1, h2, rfl, fun j => Wst.kn_set h id ⟨[], eachL c⟩ j, .inl ⟨rfl, hl⟩⟩
theorem HInv.added {S' : Wst} (h : HInv C its T.now S) (h0 : S.looked = 0) {id : Int} {c bs : List Int} (hc : C id = some c) (hb : S'.Bnd) (hL : S'.Link) (hlk : S'.looked = S.looked) (hkn : ∀ j, S'.kn j = if j = id then some ⟨bs, eachL c⟩ else S.kn j)
    (h2 : bs = [] → alwL c = true ∨ (eachL c).length ≤ 1) (h3 : alwL c = true → bs = []) : HInv C its T.now S' where
  bnd := hb
  link := hL
  kn := fun j k hk => by
    rw [hkn] at hk
    split at hk
    · rename_i e
      subst e
      rw [← Option.some.inj hk]
      exact ⟨c, hc, rfl⟩
    · exact h.kn j k hk
  two := fun j k c' hk hc' hby => by
    rw [hkn] at hk
    split at hk
    · rename_i e
      subst e
      rw [hc] at hc'
      obtain rfl := Option.some.inj hc'
      rw [← Option.some.inj hk] at hby ⊢
      exact h2 hby
    · exact h.two j k c' hk hc' hby
  alw := fun j k c' hk hc' ha => by
    rw [hkn] at hk
    split at hk
    · rename_i e
      subst e
      rw [hc] at hc'
      obtain rfl := Option.some.inj hc'
      rw [← Option.some.inj hk]
      exact h3 ha
    · exact h.alw j k c' hk hc' ha
  w := fun j k a _ _ p x hp => by omega
  cur := fun p x hp hx => h.cur p x (by omega) hx
  len := by omega
  rs := h.rs
/-- Add, before anything was looked at -/
theorem St.add (h : St C T its S) (hF : Fit6 C) (hlk : S.looked = 0) {id : Int} {c : List Int} (hc : C id = some c) (hk : S.kn id = none) :
    ∃ its', St C (addOk T S id c).T its' (addOk T S id c).S ∧ its <+: its' ∧ (addOk T S id c).T.now = T.now ∧ (addOk T S id c).S.looked = 0 ∧ (∀ j, ((addOk T S id c).S.kn j).isSome = (decide (j = id) || (S.kn j).isSome)) ∧
      ((alwL c = true ∧ (addOk T S id c).res = 4 ∧ its' = its ∧ (addOk T S id c).T = T) ∨
       (alwL c = false ∧ (addOk T S id c).res = addKind T (addTwo T c) ∧ ((addKind T (addTwo T c) = 2 ∧ (addOk T S id c).T = T.assigned ((addTwo T c).headD 0) id ∧ its' = its ++ [⟨(addTwo T c).headD 0, id, T.now⟩]) ∨ (addKind T (addTwo T c) ≠ 2 ∧ its' = its ∧ (addOk T S id c).T = T)))) := by
  obtain ⟨hid, hcl, hcb⟩ := hF id c hc
  have hid' : 1 ≤ id ∧ id ≤ 1073741824 := ⟨hid.1, by omega⟩
  have hc4 : c.length ≤ 4096 ∧ ∀ l ∈ c, litB l = true := ⟨by omega, fun y hy => (hcb y hy).1⟩
  have hi := h.inv
  have isS : ∀ {S' : Wst} {bs : List Int}, (∀ j, S'.kn j = if j = id then some ⟨bs, eachL c⟩ else S.kn j) → ∀ j, (S'.kn j).isSome = (decide (j = id) || (S.kn j).isSome) := fun hkn j => by
    rw [hkn]
    by_cases e : j = id
    · rw [if_pos e, decide_eq_true e]
      rfl
    · rw [if_neg e, decide_eq_false e]
      rfl
  cases ha : alwL c with
  | true =>
    have e : addOk T S id c = ⟨4, 0, T, S.set id ⟨[], eachL c⟩⟩ := by unfold addOk; rw [if_pos ha]
    rw [e]
    obtain ⟨h1, h2⟩ := watch_none hi.bnd hi.link hk hid' (c := eachL c) ⟨Nat.le_trans (eachL_len c) hc4.1, fun l hl => hc4.2 l (eachL_mem.1 hl)⟩
    have hkn := fun j => Wst.kn_set hi.bnd id ⟨[], eachL c⟩ j
    exact ⟨its, ⟨h.sim, h.vars, h.sta, hi.added hlk hc h1 h2 rfl hkn (fun _ => .inl ha) (fun _ => rfl)⟩, List.prefix_refl _, rfl, hlk, isS hkn, .inl ⟨rfl, rfl, rfl, rfl⟩⟩
  | false =>
    have e : addOk T S id c = ⟨addKind T (addTwo T c), 0, if addKind T (addTwo T c) = 2 then T.assigned ((addTwo T c).headD 0) id else T, S.addBy id (eachL c) (addTwo T c)⟩ := by unfold addOk; rw [if_neg (by rw [ha]; decide)]
    rw [e]
    obtain ⟨bs, h1, h2, h3, h4, h5⟩ := addBy_ok hi.bnd hi.link hk hid' hc4 T
    have hs' : St C T its (S.addBy id (eachL c) (addTwo T c)) := ⟨h.sim, h.vars, h.sta, hi.added hlk hc h1 h2 h3 h4 (fun hb => by
      rcases h5 with h5 | h5
      · exact .inr h5.2
      · exact absurd hb h5) (fun h => by rw [ha] at h; cases h)⟩
    by_cases hk2 : addKind T (addTwo T c) = 2
    · obtain ⟨f, hf, hff⟩ := k_its (fun x hx => h.sim.litb hx) h.sim.nodup
      rcases add_kind h.sim hc4.2 hff with ⟨h6, _⟩ | ⟨a, h6, h7, ha1, ha2, ha3, ha4, ha5⟩ | ⟨h6, _⟩ | ⟨h6, _⟩
      · rw [h6] at hk2; cases hk2
      · simp only [hk2, if_true]
        rw [ha4]
        have herr := free_err h.vars (hcb a ha1).1 (hcb a ha1).2 (sim_val ha2 ha3) (r := id) ⟨by omega, by omega⟩
        refine ⟨_, hs'.assign herr (fun _ => ⟨c, hc, ha1, fun y hy hne => (h.sim.fal_iff (hcb y hy).1).1 (ha5 y hy hne)⟩), ⟨_, rfl⟩, assigned_now _ _ _, h3.trans hlk, isS h4, .inr ⟨by trivial, by trivial, .inl ⟨by trivial, by trivial, by trivial⟩⟩⟩
      · rw [h6] at hk2; cases hk2
      · rw [h6] at hk2; cases hk2
    · simp only [if_neg hk2]
      exact ⟨its, hs', List.prefix_refl _, by trivial, h3.trans hlk, isS h4, .inr ⟨by trivial, by trivial, .inr ⟨hk2, by trivial, by trivial⟩⟩⟩
/-- clauses of one literal hold at the level 0 -/
def One (C : Int → Option (List Int)) (K : Int → Prop) (its : List RIt) : Prop := ∀ id c, K id → C id = some c → alwL c = false → (eachL c).length ≤ 1 → ∃ y ∈ c, Has0 its y
theorem One.pre {K : Int → Prop} {its' : List RIt} (h : One C K its) (hp : its <+: its') : One C K its' := fun id c hk hc ha hl => by
  obtain ⟨y, hy, h0⟩ := h id c hk hc ha hl
  exact ⟨y, hy, h0.pre hp⟩
theorem propGo_known (A : Arn) (n : Nat) : ∀ {T : Trl} {S : Wst}, S.Bnd → S.Link → (∃ its, Sim T its) → (∀ id k, S.kn id = some k → (A.find id).isSome = true) → ∀ j, ((propGo A n T S).2.1.kn j).isSome = (S.kn j).isSome := by
  induction n with
  | zero => exact fun _ _ _ _ _ => rfl
  | succ n ih =>
    intro T S hb hL hs hA j
    unfold propGo
    split
    · rfl
    · rename_i y hy
      have hr := hb.row (litN y)
      have hg := lookGo_known A (T := T) (S.row (litN y)) hb hL (fun id hid => hid) (up_nodup hr.1) hA
      have ha := lookGo_all A (T := T) (S.row (litN y)) hb hL hs (fun id hid => hid) (up_nodup hr.1)
      split
      · rename_i T' S' id he
        rw [he] at hg
        exact hg j
      · rename_i T' S' he
        rw [he] at hg ha
        obtain ⟨h1, h2, h3, _, _⟩ := ha
        refine (ih (S := S'.step) ⟨h1.kr, h1.kb, h1.kl, h1.orr, h1.ob⟩ h2 h3 (fun id k hk => ?_) j).trans (hg j)
        have h4 := hg id
        rw [show (T', S', (none : Option Int)).2.1.kn id = some k from hk] at h4
        obtain ⟨k2, hk2⟩ := Option.isSome_iff_exists.1 (h4.symm.trans rfl)
        exact hA id k2 hk2
theorem propGo_all (A : Arn) (n : Nat) : ∀ {T : Trl} {S : Wst}, S.Bnd → S.Link → (∃ its, Sim T its) → (propGo A n T S).2.1.Bnd ∧ (propGo A n T S).2.1.Link ∧ (∃ its, Sim (propGo A n T S).1 its) := by
  induction n with
  | zero => exact fun hb hL hs => ⟨hb, hL, hs⟩
  | succ n ih =>
    intro T S hb hL hs
    unfold propGo
    split
    · exact ⟨hb, hL, hs⟩
    · rename_i y hy
      have ha := lookGo_all A (T := T) (S.row (litN y)) hb hL hs (fun id hid => hid) (up_nodup (hb.row (litN y)).1)
      split
      · rename_i T' S' id he
        rw [he] at ha
        exact ⟨ha.1, ha.2.1, ha.2.2.1⟩
      · rename_i T' S' he
        rw [he] at ha
        obtain ⟨h1, h2, h3, _, _⟩ := ha
        exact ih (S := S'.step) ⟨h1.kr, h1.kb, h1.kl, h1.orr, h1.ob⟩ h2 h3
theorem propW_known (A : Arn) {T : Trl} {S : Wst} (hb : S.Bnd) (hL : S.Link) (hA : ∀ id k, S.kn id = some k → (A.find id).isSome = true) (hs : ∃ its, Sim T its) (j : Int) : ((propW A T S).2.1.kn j).isSome = (S.kn j).isSome :=
  propGo_known A _ hb hL hs hA j
/-- Propagate -/
theorem St.prop {A : Arn} (h : St C T its S) (hF : Fit6 C) (hA : ∀ id k, S.kn id = some k → (A.find id).isSome = true) :
    ∃ its', St C (propW A T S).1 its' (propW A T S).2.1 ∧ its <+: its' ∧ (propW A T S).1.now = T.now ∧ (∀ j, ((propW A T S).2.1.kn j).isSome = (S.kn j).isSome) ∧
      ((propW A T S).2.2 = none ∧ (propW A T S).2.1.looked = its'.length ∨ ∃ id c, (propW A T S).2.2 = some id ∧ C id = some c ∧ ∀ y ∈ c, Has its' (-y)) := by
  have hpt := PT.propGo (A := A) (T.vars.length + 1) (S := S) (T := T) ⟨its, h.sim, h.sta⟩
  have hkn := fun j => propW_known A h.inv.bnd h.inv.link hA ⟨its, h.sim⟩ j
  have hsta : ∀ {its'}, Sim (propW A T S).1 its' → Sta (propW A T S).1 its' := fun hs => by
    obtain ⟨i2, h1, h2⟩ := hpt
    rw [hs.uniq h1]
    exact h2
  rcases prop_go 7 (fun id c hc y hy => ((hF id c hc).2.2 y hy).2) (T.vars.length + 1) h.vars h.sim h.inv hA (by rw [h.vars]; omega) with ⟨its', T', S', he, hs, hp, hm, hn, hv, hl⟩ | ⟨its', T', S', id, he, hs, hp, hm, hn, hv, hf⟩
  · have e : propW A T S = (T', S', none) := he
    rw [e] at hsta hkn ⊢
    exact ⟨its', ⟨hs, hv.trans h.vars, hsta hs, by rw [hn]; exact hm⟩, hp, hn, hkn, .inl ⟨rfl, hl⟩⟩
  · have e : propW A T S = (T', S', some id) := he
    rw [e] at hsta hkn ⊢
    obtain ⟨c, hc, hcf⟩ := hf
    exact ⟨its', ⟨hs, hv.trans h.vars, hsta hs, by rw [hn]; exact hm⟩, hp, hn, hkn, .inr ⟨id, c, rfl, hc, hcf⟩⟩
theorem push_now : T.push.now = T.now + 1 := by
  simp only [Trl.push, Trl.now, List.length_append, List.length_cons, List.length_nil]
  omega
/-- a new level -/
theorem St.push (h : St C T its S) (hl : S.looked = its.length) : St C T.push its S where
  sim := ⟨h.sim.order, h.sim.size, h.sim.at_, h.sim.free, h.sim.mono, fun x hx => by
    have := h.sim.pos x hx
    rw [push_now]
    omega, by have := h.sim.now; rw [push_now]; omega⟩
  vars := h.vars
  sta := fun k s hs => by
    have hs' : (T.starts ++ [(T.order.length : Int)])[k]? = some s := hs
    rw [List.getElem?_append] at hs'
    split at hs'
    · exact h.sta k s hs'
    · rename_i hk
      have hol : T.order.length = its.length := by rw [h.sim.order, List.length_map]
      have hkl : k = T.starts.length := by
        have := (List.getElem?_eq_some_iff.1 hs').1
        simp only [List.length_cons, List.length_nil] at this
        omega
      have hse := List.mem_singleton.1 (List.mem_of_getElem? hs')
      subst hse
      refine ⟨⟨by omega, by omega⟩, fun p x hp => ?_⟩
      have hpl := (List.getElem?_eq_some_iff.1 hp).1
      have := h.sim.pos x (List.mem_of_getElem? hp)
      rw [now_eq] at this
      omega
  inv := by
    have hi := h.inv
    refine ⟨hi.bnd, hi.link, hi.kn, hi.two, hi.alw, hi.w, fun p x hp hx => ?_, hi.len, hi.rs⟩
    have := (List.getElem?_eq_some_iff.1 hx).1
    omega
theorem clr_get (ls : List Int) : ∀ (vs : List TV) (v : Nat), (∀ l ∈ ls, litV l ≠ v) → (clr vs ls)[v]? = vs[v]? := by
  induction ls with
  | nil => exact fun _ _ _ => rfl
  | cons l ls ih =>
    intro vs v h
    unfold clr
    rw [ih _ _ (fun x hx => h x (List.mem_cons_of_mem _ hx)), List.getElem?_set_ne (h l List.mem_cons_self)]
theorem clr_hit (ls : List Int) : ∀ (vs : List TV) (v : Nat) (s : TV), (∃ l ∈ ls, litV l = v) → (clr vs ls)[v]? = some s → s.value = 0 := by
  induction ls with
  | nil => exact fun _ _ _ ⟨_, h, _⟩ => by cases h
  | cons l ls ih =>
    intro vs v s h hs
    unfold clr at hs
    by_cases hr : ∃ x ∈ ls, litV x = v
    · exact ih _ v s hr hs
    · obtain ⟨x, hx, e⟩ := h
      rw [clr_get ls _ v (fun y hy e2 => hr ⟨y, hy, e2⟩)] at hs
      rcases List.mem_cons.1 hx with rfl | hx
      · subst e
        have hlt : litV x < vs.length := by
          have := (List.getElem?_eq_some_iff.1 hs).1
          rwa [List.length_set] at this
        rw [List.getElem?_set_self hlt] at hs
        rw [← Option.some.inj hs]
      · exact absurd ⟨x, hx, e⟩ hr
theorem back_sim (h : Sim T its) (hst : Sta T its) {j : Nat} {e : Int} (hj : j + 1 < T.starts.length) (he : T.starts[j + 1]? = some e) :
    (Sim (T.back j e.toNat) (its.take e.toNat) ∧ Sta (T.back j e.toNat) (its.take e.toNat)) ∧ (T.back j e.toNat).now = j := by
  obtain ⟨⟨he0, hel⟩, hlv⟩ := hst (j + 1) e he
  obtain ⟨n, rfl⟩ : ∃ n : Nat, e = n := ⟨e.toNat, by omega⟩
  rw [Int.toNat_natCast]
  have hnl : n ≤ its.length := by omega
  have hol : T.order.length = its.length := by rw [h.order, List.length_map]
  have htl : (its.take n).length = n := by rw [List.length_take]; omega
  have hget : ∀ {p : Nat} {x : RIt}, (its.take n)[p]? = some x → p < n ∧ its[p]? = some x := fun {p x} hp => by
    have hpl := (List.getElem?_eq_some_iff.1 hp).1
    rw [htl] at hpl
    rw [List.getElem?_take, if_pos hpl] at hp
    exact ⟨hpl, hp⟩
  have hput : ∀ {p : Nat} {x : RIt}, p < n → its[p]? = some x → (its.take n)[p]? = some x := fun hp hx => by
    rw [List.getElem?_take, if_pos hp]
    exact hx
  have hnow : (T.back j n).now = j := by
    show ((T.starts.take (j + 1)).length : Int) - 1 = j
    rw [List.length_take]
    omega
  have hnT : (j : Int) < T.now := by rw [now_eq]; omega
  have hlev : ∀ {p : Nat} {x : RIt}, its[p]? = some x → (p < n ↔ x.level < (j : Int) + 1) := fun hx => by
    have := hlv _ _ hx
    omega
  have hdrop : ∀ l ∈ T.order.drop n, ∃ (q : Nat) (y : RIt), n ≤ q ∧ its[q]? = some y ∧ y.lit = l := fun l hl => by
    obtain ⟨i, hi, e2⟩ := List.getElem_of_mem hl
    have e3 : (T.order.drop n)[i]? = some l := by rw [List.getElem?_eq_getElem hi, e2]
    rw [List.getElem?_drop, h.order, List.getElem?_map] at e3
    cases hy : its[n + i]? with
    | none => rw [hy] at e3; cases e3
    | some y =>
      rw [hy] at e3
      exact ⟨n + i, y, by omega, hy, Option.some.inj e3⟩
  refine ⟨⟨?_, ?_⟩, hnow⟩
  · refine ⟨?_, ?_, fun p x hp => ?_, fun v s hv hf => ?_, fun p q x y hpq hp hq => ?_, fun x hx => ?_, ?_⟩
    · show T.order.take n = (its.take n).map RIt.lit
      rw [h.order, List.map_take]
    · show (clr T.vars (T.order.drop n)).length ≤ _
      rw [clr_len]
      exact h.size
    · obtain ⟨hpn, hp⟩ := hget hp
      obtain ⟨h1, h2⟩ := h.at_ p x hp
      refine ⟨h1, ?_⟩
      show (clr T.vars (T.order.drop n))[litV x.lit]? = _
      rw [clr_get]
      · exact h2
      · intro l hl e3
        obtain ⟨q, y, hq, hy, rfl⟩ := hdrop l hl
        have := h.inj hy hp e3
        omega
    · have hv' : (clr T.vars (T.order.drop n))[v]? = some s := hv
      by_cases hh : ∃ l ∈ T.order.drop n, litV l = v
      · exact clr_hit _ _ _ _ hh hv'
      · rw [clr_get _ _ _ (fun l hl e3 => hh ⟨l, hl, e3⟩)] at hv'
        refine h.free v s hv' (fun x hx e3 => ?_)
        obtain ⟨p, hp, e4⟩ := List.getElem_of_mem hx
        have hxp : its[p]? = some x := by rw [List.getElem?_eq_getElem hp, e4]
        by_cases hpn : p < n
        · exact hf x (List.mem_of_getElem? (hput hpn hxp)) e3
        · refine hh ⟨x.lit, ?_, e3⟩
          refine List.mem_of_getElem? (i := p - n) ?_
          rw [List.getElem?_drop, h.order, List.getElem?_map, show n + (p - n) = p by omega, hxp]
          rfl
    · exact h.mono p q x y hpq (hget hp).2 (hget hq).2
    · obtain ⟨p, hp, e4⟩ := List.getElem_of_mem hx
      obtain ⟨hpn, hxp⟩ := hget (show (its.take n)[p]? = some x by rw [List.getElem?_eq_getElem hp, e4])
      have h1 := (hlev hxp).1 hpn
      have h2 := h.pos x (List.mem_of_getElem? hxp)
      rw [hnow]
      omega
    · rw [hnow]
      omega
  · intro k s hs
    have hs' : (T.starts.take (j + 1))[k]? = some s := hs
    have hk := (List.getElem?_eq_some_iff.1 hs').1
    rw [List.length_take] at hk
    rw [List.getElem?_take, if_pos (by omega)] at hs'
    obtain ⟨⟨h1, h2⟩, h3⟩ := hst k s hs'
    refine ⟨⟨h1, ?_⟩, fun p x hp => h3 p x (hget hp).2⟩
    rw [htl]
    refine Int.not_lt.1 fun hlt => ?_
    obtain ⟨x, hx⟩ := getElem_of (show n < its.length by omega)
    have h4 := (h3 n x hx).1 hlt
    have h5 := (hlev hx).2 (by omega)
    omega
theorem PT.push (h : PT T) : PT T.push := by
  obtain ⟨its, h1, h2⟩ := h
  refine ⟨its, ⟨h1.order, h1.size, h1.at_, h1.free, h1.mono, fun x hx => ?_, ?_⟩, fun k s hs => ?_⟩
  · have := h1.pos x hx
    rw [push_now]
    omega
  · have := h1.now
    rw [push_now]
    omega
  · have hs' : (T.starts ++ [(T.order.length : Int)])[k]? = some s := hs
    rw [List.getElem?_append] at hs'
    split at hs'
    · exact h2 k s hs'
    · rename_i hk
      have hol : T.order.length = its.length := by rw [h1.order, List.length_map]
      have hkl : k = T.starts.length := by
        have := (List.getElem?_eq_some_iff.1 hs').1
        simp only [List.length_cons, List.length_nil] at this
        omega
      have hse := List.mem_singleton.1 (List.mem_of_getElem? hs')
      subst hse
      refine ⟨⟨by omega, by omega⟩, fun p x hp => ?_⟩
      have hpl := (List.getElem?_eq_some_iff.1 hp).1
      have := h1.pos x (List.mem_of_getElem? hp)
      rw [now_eq] at this
      omega
theorem PT.backed (h : PT T) (j : Int) : PT (T.backed j) := by
  unfold Trl.backed
  split
  · rename_i hc
    obtain ⟨its, h1, h2⟩ := h
    obtain ⟨k, rfl⟩ : ∃ k : Nat, j = k := ⟨j.toNat, by omega⟩
    rw [Int.toNat_natCast]
    have hlt : k + 1 < T.starts.length := by omega
    obtain ⟨s, hs⟩ := getElem_of hlt
    have e1 : T.starts.getD (k + 1) 0 = s := by rw [List.getD_eq_getElem?_getD, hs]; rfl
    rw [e1]
    exact ⟨_, (back_sim h1 h2 hlt hs).1⟩
  · exact h
/-- going back -/
theorem St.back (h : St C T its S) {j : Nat} {e : Int} (hj : j + 1 < T.starts.length) (he : T.starts[j + 1]? = some e) :
    St C (T.back j e.toNat) (its.take e.toNat) ⟨S.known, S.of, min S.looked (T.back j e.toNat).order.length⟩ ∧ min S.looked (T.back j e.toNat).order.length = (its.take e.toNat).length ∧ (∀ y, Has0 its y → Has0 (its.take e.toNat) y) ∧ (T.back j e.toNat).now = j := by
  have hbs := (back_sim h.sim h.sta hj he).1
  obtain ⟨⟨he0, hel⟩, hlv⟩ := h.sta (j + 1) e he
  obtain ⟨n, rfl⟩ : ∃ n : Nat, e = n := ⟨e.toNat, by omega⟩
  rw [Int.toNat_natCast] at hbs ⊢
  have hnl : n ≤ its.length := by omega
  have hol : T.order.length = its.length := by rw [h.sim.order, List.length_map]
  have htl : (its.take n).length = n := by rw [List.length_take]; omega
  have hto : (T.back j n).order.length = n := by
    show (T.order.take n).length = n
    rw [List.length_take]
    omega
  have hget : ∀ {p : Nat} {x : RIt}, (its.take n)[p]? = some x → p < n ∧ its[p]? = some x := fun {p x} hp => by
    have hpl := (List.getElem?_eq_some_iff.1 hp).1
    rw [htl] at hpl
    rw [List.getElem?_take, if_pos hpl] at hp
    exact ⟨hpl, hp⟩
  have hput : ∀ {p : Nat} {x : RIt}, p < n → its[p]? = some x → (its.take n)[p]? = some x := fun hp hx => by
    rw [List.getElem?_take, if_pos hp]
    exact hx
  have hnow : (T.back j n).now = j := by
    show ((T.starts.take (j + 1)).length : Int) - 1 = j
    rw [List.length_take]
    omega
  have hnT : (j : Int) < T.now := by rw [now_eq]; omega
  have hlev : ∀ {p : Nat} {x : RIt}, its[p]? = some x → (p < n ↔ x.level < (j : Int) + 1) := fun hx => by
    have := hlv _ _ hx
    omega
  have hlook : min S.looked n = n := by
    refine Nat.min_eq_right (Nat.le_of_not_lt fun hlt => ?_)
    obtain ⟨x, hx⟩ := getElem_of (show S.looked < its.length by omega)
    have h1 := h.inv.cur S.looked x (Nat.le_refl _) hx
    have h2 := (hlev hx).1 hlt
    omega
  refine ⟨⟨?_, ?_, ?_, ?_⟩, by rw [hto, htl, hlook], fun y ⟨p, x, hp, e1, e2⟩ => ⟨p, x, hput ((hlev hp).2 (by omega)) hp, e1, e2⟩, hnow⟩
  · exact hbs.1
  · show (clr T.vars (T.order.drop n)).length = 7
    rw [clr_len]
    exact h.vars
  · exact hbs.2
  · rw [hnow, hto, hlook]
    have hi := h.inv
    refine ⟨⟨hi.bnd.kr, hi.bnd.kb, hi.bnd.kl, hi.bnd.orr, hi.bnd.ob⟩, hi.link, hi.kn, hi.two, hi.alw, fun id k a hk ha p x hp hx hxl => ?_, fun p x hp hx => ?_, by rw [htl]; exact Nat.le_refl _, hi.rs.take n⟩
    · obtain ⟨hpn, hx'⟩ := hget hx
      have hpl : p < S.looked := by
        have hp' : p < n := hp
        omega
      obtain ⟨q, y, hq, h1, h2⟩ := hi.w id k a hk ha p x hpl hx' hxl
      have := (hlev hx').1 hpn
      exact ⟨q, y, hput ((hlev hq).2 (by omega)) hq, h1, h2⟩
    · have hp' : n ≤ p := hp
      have := (hget hx).1
      omega
end
end Go.Proofs.YtoojmhjagipmdaaGreat
