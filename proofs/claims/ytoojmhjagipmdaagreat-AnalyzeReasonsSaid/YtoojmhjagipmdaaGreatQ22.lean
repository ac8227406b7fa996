/- Sort at rows that are owned (some laws turned from a worked proof of the kit). Small laws of sorted numbers, fresh rows and lists of clauses. package salvorlaw13: awake. package salvorlaw13: started. package salvorlaw13: WatchAdds. Calls of a law at a watch that knows all of its clauses. Plain: the insertion sort keeps the order of equals: it is the insertion from the right, one after the other. Plain: what comes first among literals, by one look through the list. Plain: the reference's best, and what the watch sorts first. -/
import Derived.Test.YtoojmhjagipmdaaGreatQ05
import Derived.Test.YtoojmhjagipmdaaGreatShelf
import Derived.Test.YtoojmhjagipmdaaGreatQ14
import Derived.Test.YtoojmhjagipmdaaGreatQ21
import Derived.Test.YtoojmhjagipmdaaGreatQ09
import Derived.Test.YtoojmhjagipmdaaGreatQ12
namespace Go.Proofs.YtoojmhjagipmdaaGreat
open Go.RowKit Go.Sort

/-- numbers in order -/
def sortI (xs : List Int) : List Int := xs.mergeSort fun x y => decide (x ≤ y)
theorem sortI_length (xs : List Int) : (sortI xs).length = xs.length := by simp [sortI]
theorem own_sort {base : Nat} (v : Value) (xs : List Int) (w : World) (h : w.ownsRow base 3 1 v xs.length (xs.map (Value.int .i64))) (hl : xs.length < 4611686018427387904) :
    Calls Tryz.prog 85 #[v] w fun e w' => e = .returned (.tuple #[]) ∧ w'.ownsRow base 3 1 v (sortI xs).length ((sortI xs).map (Value.int .i64)) ∧ Kept (fun g => v.ownBlock = some g) w w' := by
  rcases h.2 with ⟨rfl, h0⟩ | ⟨g, cap, cur, rfl, hb, hg, h1, h2, h3, h4⟩
  · obtain rfl : xs = [] := List.eq_nil_of_length_eq_zero h0
    refine (Tryz.slices_Sort_int_none none 0 w).mono ?_
    rintro e w' ⟨rfl, rfl⟩
    have hs : sortI [] = [] := by simp [sortI]
    rw [hs]
    exact ⟨rfl, h, Kept.refl _ _⟩
  · refine (Tryz.slices_Sort_int g 0 cap xs w (st_holds hg (by simpa using h4)) (heap_lt hg) hl).mono ?_
    rintro e w' ⟨rfl, n, os, rfl⟩
    refine ⟨rfl, ?_, st_kept _⟩
    rw [sortI_length]
    refine ⟨by simp [sortI], .inr ⟨g, cap, _, rfl, hb, st_heap _ hg, h1, h2, by simp [putCells, h3], ?_⟩⟩
    have e : xs.length * 1 = (sortI xs).length := by rw [sortI_length, Nat.mul_one]
    rw [e]
    exact st_take cur (sortI xs) (by rw [sortI_length]; omega)
end Go.Proofs.YtoojmhjagipmdaaGreat
namespace Go.Proofs.YtoojmhjagipmdaaGreat
open Go.RowKit

theorem sortI_eq {xs ys : List Int} (hp : xs.Perm ys) (hs : ys.Pairwise (· ≤ ·)) : sortI xs = ys := by
  refine List.Perm.eq_of_pairwise (le := fun a b => a ≤ b) (fun a b _ _ h1 h2 => by omega) ?_ hs ((List.mergeSort_perm _ _).trans hp)
  have := List.pairwise_mergeSort (le := fun x y : Int => decide (x ≤ y)) (fun a b c h1 h2 => by simp at *; omega) (fun a b => by simp; omega) xs
  exact this.imp (fun h => by simpa using h)
theorem mx_ints (W : World) (xs : List Int) (t : TypeId) : IntsIn (fun g => g = W.heap.size) (W.alloc (.cells (xs.map (Value.int .i64)).toArray t)) (.slice (some ⟨W.heap.size, 0, none⟩) xs.length xs.length) xs :=
  ⟨some ⟨W.heap.size, 0, none⟩, xs.length, rfl, Nat.le_refl _, (fun h => by cases h), fun i x hi => ⟨W.heap.size, 0, rfl, by simp, rfl, by
    rw [cell_new, Nat.zero_add]
    simp [hi]⟩⟩
theorem cls_new (W : World) (us : List Value) (cs : List (List Int)) (t : TypeId) (h : ∀ (i : Nat) (xs : List Int), cs[i]? = some xs → ∃ u, us[i]? = some u ∧ IntsIn (fun g => g < W.heap.size) W u xs) : ClsAt (W.alloc (.cells us.toArray t)) (.slice (some ⟨W.heap.size, 0, none⟩) cs.length cs.length) cs := by
  refine ⟨_, cs.length, rfl, fun i xs hi => ?_⟩
  obtain ⟨u, hu, hx⟩ := h i xs hi
  have hb := mx_al W (.cells us.toArray t)
  refine ⟨W.heap.size, 0, u, rfl, by simp, ?_, (hx.below hb).mono (fun g hg => by simp; omega)⟩
  rw [cell_new, Nat.zero_add]
  simpa using hu
theorem sortI_sorted (xs : List Int) : (sortI xs).Pairwise (· ≤ ·) := by
  have := List.pairwise_mergeSort (le := fun x y : Int => decide (x ≤ y)) (fun a b c h1 h2 => by simp at *; omega) (fun a b => by simp; omega) xs
  exact this.imp (fun h => by simpa using h)
theorem sortI_mem (xs : List Int) (x : Int) : x ∈ sortI xs ↔ x ∈ xs := (List.mergeSort_perm xs _).mem_iff
end Go.Proofs.YtoojmhjagipmdaaGreat
namespace Go.Proofs.YtoojmhjagipmdaaGreat
open Go.RowKit

theorem info_u8 : (Tryz.prog.info? 5).map (fun i => (i.zero, i.size, i.bytes)) = some (some (.int .u8 0), 1, 1) := by kernel_rfl
theorem Lw.lt0 {w0 w : World} {lab : Nat → Nat} {b ab tb : Nat} {A : Arn} {T : Trl} {S : Wst} (h : Lw w0 w lab b ab tb A T S) {g : Nat} (hg : w.heap.size ≤ g) : lab g = 0 := Classical.byContradiction fun e => by
  have := h.sys.lt g e
  omega
/-- a fresh row -/
theorem Lw.ints {w0 w w' : World} {lab : Nat → Nat} {b ab tb : Nat} {A : Arn} {T : Trl} {S : Wst} (h : Lw w0 w lab b ab tb A T S) {e : TypeId} {v : Value} {xs : List Int} (hr : w'.ownsRow w.heap.size e 1 v xs.length (xs.map (Value.int .i64))) : IntsIn (Fr w' lab) w' v xs := own_fr h.sys.lt hr
theorem Lw.al {w0 w : World} {lab : Nat → Nat} {b ab tb : Nat} {A : Arn} {T : Trl} {S : Wst} (h : Lw w0 w lab b ab tb A T S) (o : Obj) : Lw w0 (w.alloc o) lab b ab tb A T S := h.below (mx_al _ _)
theorem Lw.dr {w0 w : World} {lab : Nat → Nat} {b ab tb : Nat} {A : Arn} {T : Trl} {S : Wst} (h : Lw w0 w lab b ab tb A T S) (n : Nat) : Lw w0 (w.drewN n) lab b ab tb A T S := h.below (mx_drewN _ _)
theorem k_in {w : World} {n : Nat} {xs : List Int} {t : TypeId} {W : World} (hs : W.heap.size = n) (hb : Below (n + 1) (W.alloc (.cells (xs.map (Value.int .i64)).toArray t)) w) : IntsIn (fun g => g < w.heap.size) w (.slice (some ⟨n, 0, none⟩) xs.length xs.length) xs := by
  subst hs
  have hb' : Below (W.alloc (.cells (xs.map (Value.int .i64)).toArray t)).heap.size (W.alloc (.cells (xs.map (Value.int .i64)).toArray t)) w := by simpa using hb
  refine ((mx_ints W xs t).below hb').mono (fun g hg => ?_)
  have := hb.size
  simp at this
  omega
set_option maxRecDepth 100000 in
theorem x13_cls (w : World) : ∃ W6, ((((w.alloc (.cells #[.int .i64 1, .int .i64 2, .int .i64 3] 32)).alloc (.cells #[.int .i64 (-1), .int .i64 4] 32)).alloc (.cells #[.int .i64 (-4), .int .i64 (-2), .int .i64 (-2)] 32)).alloc (.cells #[.int .i64 5] 32)).alloc (.cells #[.slice (some ⟨w.heap.size, 0, none⟩) 3 3, .slice (some ⟨w.heap.size + 1, 0, none⟩) 2 2, .slice (some ⟨w.heap.size + 1 + 1, 0, none⟩) 3 3, .slice (some ⟨w.heap.size + 1 + 1 + 1, 0, none⟩) 1 1] 34) = W6 ∧ Below w.heap.size w W6 ∧ ClsAt W6 (.slice (some ⟨w.heap.size + 1 + 1 + 1 + 1, 0, none⟩) 4 4) x13L := by
  refine ⟨_, rfl, (((((mx_al _ _).alloc (by simp) _).alloc (by simp; omega) _).alloc (by simp; omega) _).alloc (by simp; omega) _), ?_⟩
  have key := cls_new ((((w.alloc (.cells #[.int .i64 1, .int .i64 2, .int .i64 3] 32)).alloc (.cells #[.int .i64 (-1), .int .i64 4] 32)).alloc (.cells #[.int .i64 (-4), .int .i64 (-2), .int .i64 (-2)] 32)).alloc (.cells #[.int .i64 5] 32)) [.slice (some ⟨w.heap.size, 0, none⟩) 3 3, .slice (some ⟨w.heap.size + 1, 0, none⟩) 2 2, .slice (some ⟨w.heap.size + 1 + 1, 0, none⟩) 3 3, .slice (some ⟨w.heap.size + 1 + 1 + 1, 0, none⟩) 1 1] x13L 34 (fun i xs hi => by
    match i, hi with
    | 0, hi =>
      obtain rfl := Option.some.inj hi
      exact ⟨_, rfl, k_in (xs := [1, 2, 3]) (W := w) rfl ((((mx_al _ _).mono (by simp)).alloc (by simp) _).alloc (by simp) _)⟩
    | 1, hi =>
      obtain rfl := Option.some.inj hi
      exact ⟨_, rfl, k_in (xs := [-1, 4]) (W := (w.alloc (.cells #[.int .i64 1, .int .i64 2, .int .i64 3] 32))) (by simp) (((mx_al _ _).mono (by simp)).alloc (by simp) _)⟩
    | 2, hi =>
      obtain rfl := Option.some.inj hi
      exact ⟨_, rfl, k_in (xs := [-4, -2, -2]) (W := ((w.alloc (.cells #[.int .i64 1, .int .i64 2, .int .i64 3] 32)).alloc (.cells #[.int .i64 (-1), .int .i64 4] 32))) (by simp) ((mx_al _ _).mono (by simp))⟩
    | 3, hi =>
      obtain rfl := Option.some.inj hi
      exact ⟨_, rfl, k_in (xs := [5]) (W := (((w.alloc (.cells #[.int .i64 1, .int .i64 2, .int .i64 3] 32)).alloc (.cells #[.int .i64 (-1), .int .i64 4] 32)).alloc (.cells #[.int .i64 (-4), .int .i64 (-2), .int .i64 (-2)] 32))) (by simp) (Below.refl _ _)⟩
    | n + 4, hi => exact absurd hi (by simp [x13L]))
  simpa [x13L] using key
end Go.Proofs.YtoojmhjagipmdaaGreat
namespace Go.Proofs.YtoojmhjagipmdaaGreat
open Go.RowKit

/-- what started gives -/
structure Started (cs : List (List Int)) (w0 w : World) (lab : Nat → Nat) (b ab tb : Nat) (T : Trl) (its : List RIt) (S : Wst) (fl : Bool) : Prop where
  lw : Lw w0 w lab b ab tb (addAll arn0 0 cs) T S
  st : St (clsC cs) T its S
  kn : ∀ j, (S.kn j).isSome = (clsC cs j).isSome
  now : T.now = 0
  ok : fl = false → Run cs T its S
  bad : fl = true → ∃ c ∈ cs, ∀ y ∈ c, Has its (-y)
  pz : PZ (fun _ => False) T
end Go.Proofs.YtoojmhjagipmdaaGreat
namespace Go.Proofs.YtoojmhjagipmdaaGreat
open Go.RowKit

/-- an operation under a guard that is on -/
theorem wpList_on {P : Program} {ops : Array Oper} {rest : List Oper} {o : Oper} {a : Act} {w : World} {Q : Exit → Act → World → Prop} (hw : Region.wanted o (yielded ops a.tmps) = true) (h : wpList P ops Q (⟨o.dst, o.op, o.type, o.pos, o.after, none⟩ :: rest) a w) : wpList P ops Q (o :: rest) a w := by
  unfold wpList at h ⊢
  rw [if_pos hw]
  rw [if_pos (by simp [Region.wanted])] at h
  exact h
theorem madeLit_six (x : Int) : litB (madeLit x) = true ∧ litV (madeLit x) < 7 := by
  obtain ⟨h1, h2⟩ := madeLit_rng x
  have hb : litB (madeLit x) = true := (litB_iff _).2 (by omega)
  exact ⟨hb, by have := (litV_pos hb).2; omega⟩
/-- one literal that is made -/
theorem made_one (n : Int) (w : World) (hn : (Lit.int .i8 n).wf = true) :
    Calls Tryz.prog 14 #[.slice (some ⟨w.heap.size, 0, none⟩) 1 1] (w.alloc (.cells #[.int .i8 n] 99)) fun e w' => ∃ g c, e = .returned (.slice (some ⟨g, 0, none⟩) 1 c) ∧ 1 ≤ c ∧ w'.cell? ⟨g, 0, none⟩ = some (.int .i64 (madeLit n)) ∧ Below w.heap.size w w' := by
  have hr : RowAt .i8 (w.alloc (.cells #[.int .i8 n] 99)) (.slice (some ⟨w.heap.size, 0, none⟩) 1 1) [n] := ⟨some ⟨w.heap.size, 0, none⟩, 1, rfl, Nat.le_refl _, by decide, (fun h => by cases h), (fun m hm => by rw [List.mem_singleton.1 hm]; exact hn), fun i x hi => ⟨w.heap.size, 0, rfl, by simp, by
    rw [cell_new, Nat.zero_add]
    match i, hi with
    | 0, hi =>
      obtain rfl : n = x := by simpa using hi
      rfl⟩⟩
  refine (made_any _ [n] _ hr).mono ?_
  rintro e w' ⟨v, rfl, ho, hb⟩
  obtain ⟨g, c, cs, rfl, hc, _, _, hg, hx⟩ := mx_some ho (by simp [madeL])
  refine ⟨g, c, rfl, hc, mx_at ho rfl, (mx_al _ _).trans (hb.mono (by simp))⟩
structure FewT (T : Trl) (k : Nat) : Prop where
  sim : ∃ its, Sim T its
  vars : T.vars.length = 7
  starts : T.starts.length ≤ k + 1
theorem FewT.push {T : Trl} {k : Nat} (h : FewT T k) : FewT T.push (k + 1) := by
  obtain ⟨⟨its, h1⟩, h2, h3⟩ := h
  exact ⟨⟨its, h1.pushT⟩, h2, by show (T.starts ++ [(T.order.length : Int)]).length ≤ _; rw [List.length_append]; simp; omega⟩
theorem FewT.assign {T : Trl} {k : Nat} (h : FewT T k) (l : Int) : FewT (T.assigned l 0) k := by
  obtain ⟨⟨its, h1⟩, h2, h3⟩ := h
  refine ⟨?_, (assigned_vars T l 0).trans h2, by rw [assigned_starts]; exact h3⟩
  by_cases he : T.assignErr l 0 = 0
  · exact ⟨_, h1.snoc he⟩
  · have e : T.assigned l 0 = T := by unfold Trl.assigned; rw [if_neg he]
    rw [e]
    exact ⟨its, h1⟩
theorem FewT.few {T : Trl} {k : Nat} (h : FewT T k) : T.order.length ≤ 6 := by
  obtain ⟨⟨its, h1⟩, h2, _⟩ := h
  exact h1.few h2
theorem FewT.mono {T : Trl} {k j : Nat} (h : FewT T k) (hj : k ≤ j) : FewT T j := ⟨h.sim, h.vars, by have := h.starts; omega⟩
theorem val_free {T : Trl} {y : Int} : T.fal y = false → T.tru y = false → T.val y = 0 := fun h1 h2 => by
  unfold Trl.fal at h1
  unfold Trl.tru at h2
  rw [decide_eq_false_iff_not] at h1 h2
  omega
/-- what Add of a clause tells, and what the clause is -/
inductive AddsO (T : Trl) (c : List Int) (K I : Nat) (U : Int) (T' : Trl) : Prop
  | alw (ha : alwL c = true) (hk : K = 4) (ht : T' = T)
  | unit (ha : alwL c = false) (hi : I = 3) (hk : K = 2) (ho : T'.order = T.order ++ [U]) (hs : T'.starts = T.starts) (hl : T'.level (litV U : Nat) = (T.starts.length : Int) - 1) (hr : T'.reason (litV U : Nat) = 1)
  | fails (ha : alwL c = false) (hi : I = 2) (hk : K = 3) (ht : T' = T)
  | rests (ha : alwL c = false) (hi : I ≠ 2 ∧ I ≠ 3) (hk : K = 1) (ht : T' = T)
theorem adds_out {T : Trl} {its : List RIt} {c : List Int} {S : Wst} {f : Int → Int} (hs : Sim T its) (hv : T.vars.length = 7) (hc : ∀ y ∈ c, litB y = true ∧ litV y < 7) (hf : ∀ y, litB y = true → ((0 < ofF f y ↔ Has its y) ∧ (ofF f y < 0 ↔ Has its (-y)))) :
    AddsO T c (addOk T S 1 c).res (lookF f c).1 (lookF f c).2 (addOk T S 1 c).T := by
  cases ha : alwL c with
  | true =>
    have e : addOk T S 1 c = ⟨4, 0, T, S.set 1 ⟨[], eachL c⟩⟩ := by unfold addOk; rw [if_pos ha]
    rw [e]
    exact .alw ha rfl rfl
  | false =>
    rw [addOk_no ha]
    rcases add_kind hs (fun y hy => (hc y hy).1) hf with ⟨h6, h7, _⟩ | ⟨a, h6, h7, ha1, ha2, ha3, ha4, ha5⟩ | ⟨h6, h7, _⟩ | ⟨h6, h7, _⟩
    · rw [h6, h7]
      exact .fails ha rfl rfl (by simp)
    · rw [h6, h7]
      have herr := free_err hv (hc a ha1).1 (hc a ha1).2 (val_free ha2 ha3) (r := 1) ⟨by omega, by omega⟩
      have hsn := hs.snoc herr
      have hp : (its ++ [(⟨a, 1, T.now⟩ : RIt)])[its.length]? = some ⟨a, 1, T.now⟩ := by simp
      refine .unit ha rfl rfl ?_ ?_ ?_ ?_
      · simp only [if_true, ha4]
        unfold Trl.assigned
        rw [if_pos herr]
        rfl
      · simp only [if_true, ha4]
        exact assigned_starts _ _
      · simp only [if_true, ha4]
        exact hsn.level hp
      · simp only [if_true, ha4]
        unfold Trl.reason
        have := hsn.why hp
        simp only at this
        rw [this]
    · rw [h6, h7]
      exact .rests ha (by simp) rfl (by simp)
    · rw [h6, h7]
      exact .rests ha (by simp) rfl (by simp)
end Go.Proofs.YtoojmhjagipmdaaGreat
namespace Go.Proofs.YtoojmhjagipmdaaGreat
open Go.RowKit

section
variable {cs : List (List Int)} {T : Trl} {its : List RIt} {S : Wst} {w0 w : World} {lab : Nat → Nat} {b ab tb : Nat}
theorem St.pt {C : Int → Option (List Int)} (h : St C T its S) : PT T := ⟨its, h.sim, h.sta⟩
theorem six_all {cs : List (List Int)} (h6 : Six cs) : (∀ c ∈ cs, clauseB c = true ∧ c.length ≤ 6) ∧ cs.length ≤ 1000 := ⟨fun _ hc => h6.right hc, by have := h6.1; omega⟩
theorem six_made (xss : List (List Int)) (m : Nat) (hm : m ≤ 900) : Six ((xss.take m).map madeL) := by
  refine ⟨by rw [List.length_map, List.length_take]; omega, fun c hc => ?_⟩
  obtain ⟨xs, _, rfl⟩ := List.mem_map.1 hc
  refine ⟨by simp [madeL]; omega, fun y hy => ?_⟩
  obtain ⟨n, _, rfl⟩ := List.mem_map.1 hy
  exact madeLit_six n
theorem run_back (h : Lw w0 w lab b ab tb (addAll arn0 0 cs) T S) (hs : St (clsC cs) T its S) (hkn : ∀ j, (S.kn j).isSome = (clsC cs j).isSome) (hone : One (clsC cs) (fun _ => True) its) {j : Int} (h0 : 0 ≤ j) (hj : j < T.now ∨ j = T.now ∧ S.looked = its.length) :
    Calls Tryz.prog 91 #[.pointer (some ⟨b, 0, none⟩), .int .i64 j] w fun e w' => e = .returned (.int .i64 0) ∧ ∃ T' its' S', Run cs T' its' S' ∧ T'.now = j ∧ its' <+: its ∧ (∀ y, Has0 its y → Has0 its' y) ∧ LwNext w0 w w' lab b ab tb (addAll arn0 0 cs) T' S' := by
  obtain ⟨its', h1, h2, h3, h4, h5⟩ := back_step hs hkn hone h0 hj
  refine (lw_back h j hs.pt.sta hs.pt.fit).mono ?_
  rintro e w' ⟨rfl, hn⟩
  rw [h3]
  exact ⟨rfl, _, its', _, h1, h2, h4, h5, hn⟩
end
end Go.Proofs.YtoojmhjagipmdaaGreat
namespace Go.Proofs.YtoojmhjagipmdaaGreat
open Go.RowKit Go.Sort

/-- x comes into a list that lies the other way round -/
def insRev (lt : Int → Int → Bool) (x : Int) : List Int → List Int
  | [] => [x]
  | y :: r => if lt x y = true then y :: insRev lt x r else x :: y :: r
theorem get_at {d : Array Int} {a b : List Int} {x : Int} (h : d.toList = a ++ x :: b) : d[a.length]! = x := by
  have h1 : d.toList[a.length]? = some x := by rw [h]; simp
  rw [Array.getElem?_toList] at h1
  rw [getElem!_def, h1]
theorem swp_at {d : Array Int} {a b : List Int} {x y : Int} (h : d.toList = a ++ y :: x :: b) : (swp d (a.length + 1) a.length).toList = a ++ x :: y :: b := by
  have hy : d[a.length]! = y := get_at h
  have hx : d[a.length + 1]! = x := by
    have h2 : d.toList = (a ++ [y]) ++ x :: b := by rw [h]; simp
    have := get_at h2
    rwa [List.length_append, List.length_singleton] at this
  unfold swp
  rw [hx, hy, Array.toList_setIfInBounds, Array.toList_setIfInBounds, h]
  rw [List.set_append, if_neg (by omega), show a.length + 1 - a.length = 1 by omega, List.set_cons_succ, List.set_cons_zero, List.set_append, if_neg (by omega), Nat.sub_self, List.set_cons_zero]
theorem inner_eq (lt : Int → Int → Bool) (x : Int) : ∀ (r post : List Int) (d : Array Int), d.toList = r.reverse ++ x :: post → (insInner lt 0 r.length d).toList = (insRev lt x r).reverse ++ post := by
  intro r
  induction r with
  | nil =>
    intro post d h
    exact h
  | cons y r ih =>
    intro post d h
    have h' : d.toList = r.reverse ++ y :: x :: post := by rw [h]; simp
    have hy : d[r.length]! = y := by
      have := get_at h'
      rwa [List.length_reverse] at this
    have hx : d[r.length + 1]! = x := by
      have := get_at h
      rwa [List.length_reverse, List.length_cons] at this
    have hs := swp_at h'
    rw [List.length_reverse] at hs
    rw [List.length_cons]
    unfold insInner insRev
    rw [hx, hy]
    by_cases hl : lt x y = true
    · rw [if_pos hl, if_pos (by rw [hl]; simp), ih _ _ hs]
      simp
    · rw [if_neg hl, if_neg (by simp [hl]), h]
      simp
theorem outer_eq (lt : Int → Int → Bool) : ∀ (post r : List Int) (d : Array Int), d.toList = r.reverse ++ post → (insOuter lt 0 (r.length + post.length) r.length d).toList = (post.foldl (fun r x => insRev lt x r) r).reverse := by
  intro post
  induction post with
  | nil =>
    intro r d h
    unfold insOuter
    rw [if_neg (by simp), h]
    simp
  | cons x post ih =>
    intro r d h
    have hlen : (insRev lt x r).length = r.length + 1 := by
      clear ih h
      induction r with
      | nil => rfl
      | cons y r ih =>
        unfold insRev
        split
        · rw [List.length_cons, ih, List.length_cons]
        · rfl
    have hi := inner_eq lt x r post d h
    have := ih (insRev lt x r) _ hi
    rw [hlen] at this
    rw [insOuter, if_pos (by rw [List.length_cons]; omega), List.length_cons, show r.length + (post.length + 1) = r.length + 1 + post.length by omega, this]
    rfl
/-- the stable sort, plainly -/
theorem stab_eq (T : Trl) (xs : List Int) : T.stab xs = (xs.foldl (fun r x => insRev (ltOf T.lvOrd) x r) []).reverse := by
  unfold Trl.stab insertionSort
  cases xs with
  | nil =>
    unfold insOuter
    rw [if_neg (by simp)]
    rfl
  | cons x r =>
    have := outer_eq (ltOf T.lvOrd) r [x] (x :: r).toArray (by simp)
    rw [show ([x] : List Int).length + r.length = (x :: r).length by simp; omega] at this
    exact this
end Go.Proofs.YtoojmhjagipmdaaGreat
namespace Go.Proofs.YtoojmhjagipmdaaGreat
open Go.RowKit

section
variable (lv : Int → Int)
/-- x comes in, greater levels to the right -/
def insL (x : Int) (r : List Int) : List Int := insRev (fun x y => decide (lv y < lv x)) x r
theorem insL_cons (x y : Int) (r : List Int) : insL lv x (y :: r) = if lv y < lv x then y :: insL lv x r else x :: y :: r := by
  unfold insL
  rw [insRev]
  by_cases h : lv y < lv x
  · rw [if_pos h, if_pos (decide_eq_true h)]
  · rw [if_neg h, if_neg (by simpa using h)]
def SrtL (r : List Int) : Prop := r.Pairwise fun a b => lv a ≤ lv b
theorem insL_mem (x : Int) (r : List Int) (z : Int) : z ∈ insL lv x r ↔ z = x ∨ z ∈ r := by
  induction r with
  | nil => simp [insL, insRev]
  | cons y r ih =>
    rw [insL_cons]
    split
    · rw [List.mem_cons, ih, List.mem_cons]
      constructor
      · rintro (h | h | h)
        · exact .inr (.inl h)
        · exact .inl h
        · exact .inr (.inr h)
      · rintro (h | h | h)
        · exact .inr (.inl h)
        · exact .inl h
        · exact .inr (.inr h)
    · exact List.mem_cons
theorem insL_srt (x : Int) {r : List Int} (h : SrtL lv r) : SrtL lv (insL lv x r) := by
  unfold SrtL at *
  induction r with
  | nil => simp [insL, insRev]
  | cons y r ih =>
    rw [List.pairwise_cons] at h
    rw [insL_cons]
    split
    · rename_i hl
      rw [List.pairwise_cons]
      refine ⟨fun z hz => ?_, ih h.2⟩
      rcases (insL_mem lv x r z).1 hz with e | hz
      · rw [e]
        omega
      · exact h.1 z hz
    · rename_i hl
      rw [List.pairwise_cons, List.pairwise_cons]
      refine ⟨fun z hz => ?_, h.1, h.2⟩
      rcases List.mem_cons.1 hz with e | hz
      · rw [e]
        omega
      · have := h.1 z hz
        omega
theorem insL_filter (p : Int → Bool) (x : Int) {r : List Int} (h : SrtL lv r) : (insL lv x r).filter p = if p x = true then insL lv x (r.filter p) else r.filter p := by
  unfold SrtL at h
  induction r with
  | nil =>
    by_cases hp : p x = true
    · rw [if_pos hp]
      simp [insL, insRev, hp]
    · rw [if_neg hp]
      simp [insL, insRev, hp]
  | cons y r ih =>
    rw [List.pairwise_cons] at h
    have ih := ih h.2
    rw [insL_cons]
    by_cases hl : lv y < lv x
    · rw [if_pos hl, List.filter_cons, ih, List.filter_cons]
      by_cases hy : p y = true
      · rw [if_pos hy, if_pos hy]
        by_cases hp : p x = true
        · rw [if_pos hp, if_pos hp, insL_cons, if_pos hl]
        · rw [if_neg hp, if_neg hp]
      · rw [if_neg hy, if_neg hy]
    · rw [if_neg hl]
      by_cases hp : p x = true
      · rw [if_pos hp, List.filter_cons, if_pos hp]
        have hall : ∀ z ∈ (y :: r).filter p, ¬ lv z < lv x := fun z hz => by
          rcases List.mem_cons.1 (List.mem_filter.1 hz).1 with e | hz
          · rw [e]
            exact hl
          · have := h.1 z hz
            omega
        cases hf : (y :: r).filter p with
        | nil => rfl
        | cons z s =>
          rw [insL_cons, if_neg (hall z (by rw [hf]; exact List.mem_cons_self))]
      · rw [if_neg hp, List.filter_cons, if_neg hp]
theorem insL_last (x : Int) {r : List Int} (h : SrtL lv r) : (insL lv x r).getLast? = some (match r.getLast? with | none => x | some m => if lv m < lv x then x else m) := by
  unfold SrtL at h
  induction r with
  | nil => rfl
  | cons y r ih =>
    rw [List.pairwise_cons] at h
    have ih := ih h.2
    rw [insL_cons]
    by_cases hl : lv y < lv x
    · rw [if_pos hl, List.getLast?_cons, ih]
      cases hr : r.getLast? with
      | none =>
        rw [List.getLast?_cons, hr]
        simp [hl]
      | some m =>
        rw [List.getLast?_cons, hr]
        rfl
    · rw [if_neg hl, List.getLast?_cons_cons]
      cases hr : (y :: r).getLast? with
      | none => simp at hr
      | some m =>
        have hm : ¬ lv m < lv x := by
          rcases List.mem_cons.1 (List.mem_of_getLast? hr) with e | hz
          · rw [e]
            exact hl
          · have := h.1 m hz
            omega
        simp [hm]
end
end Go.Proofs.YtoojmhjagipmdaaGreat
namespace Go.Proofs.YtoojmhjagipmdaaGreat
open Go.RowKit

section
variable (lv : Int → Int)
def rMx (out : Int) : List Int → Int
  | [] => out
  | x :: r => rMx (if out = 0 ∨ lv out < lv x then x else out) r
/-- the reference's look for the greatest level, without one -/
def rMaxGo (wo out : Int) : List Int → Int
  | [] => out
  | x :: r => rMaxGo wo (if x ≠ wo ∧ (out = 0 ∨ lv out < lv x) then x else out) r
theorem rMaxGo_filter (wo : Int) (xs : List Int) : ∀ out, rMaxGo lv wo out xs = rMx lv out (xs.filter fun x => decide (x ≠ wo)) := by
  induction xs with
  | nil => exact fun _ => rfl
  | cons x r ih =>
    intro out
    unfold rMaxGo
    rw [ih, List.filter_cons]
    by_cases h : x ≠ wo
    · rw [if_pos (decide_eq_true h)]
      show _ = rMx lv (if out = 0 ∨ lv out < lv x then x else out) _
      by_cases h2 : out = 0 ∨ lv out < lv x
      · rw [if_pos ⟨h, h2⟩, if_pos h2]
      · rw [if_neg (fun h3 => h2 h3.2), if_neg h2]
    · rw [if_neg (show ¬ (x ≠ wo ∧ (out = 0 ∨ lv out < lv x)) from fun h3 => h h3.1), if_neg (by simpa using h)]
def foldL (r xs : List Int) : List Int := xs.foldl (fun r x => insL lv x r) r
theorem foldL_srt (xs : List Int) : ∀ {r : List Int}, SrtL lv r → SrtL lv (foldL lv r xs) := by
  induction xs with
  | nil => exact fun h => h
  | cons x xs ih => exact fun h => ih (insL_srt lv x h)
theorem foldL_last (xs : List Int) : ∀ {r : List Int}, SrtL lv r → (∀ z ∈ r, z ≠ 0) → (∀ z ∈ xs, z ≠ 0) → (foldL lv r xs).getLast?.getD 0 = rMx lv (r.getLast?.getD 0) xs := by
  induction xs with
  | nil => exact fun _ _ _ => rfl
  | cons x xs ih =>
    intro r h h0 hx
    have h2 := ih (insL_srt lv x h) (fun z hz => by
      rcases (insL_mem lv x r z).1 hz with e | hz
      · rw [e]
        exact hx x List.mem_cons_self
      · exact h0 z hz) (fun z hz => hx z (List.mem_cons_of_mem _ hz))
    refine h2.trans ?_
    rw [insL_last lv x h]
    show _ = rMx lv (if r.getLast?.getD 0 = 0 ∨ lv (r.getLast?.getD 0) < lv x then x else r.getLast?.getD 0) xs
    congr 1
    cases hr : r.getLast? with
    | none => simp
    | some m =>
      have hm := h0 m (List.mem_of_getLast? hr)
      simp [hm]
theorem foldL_filter (p : Int → Bool) (xs : List Int) : ∀ {r : List Int}, SrtL lv r → (foldL lv r xs).filter p = foldL lv (r.filter p) (xs.filter p) := by
  induction xs with
  | nil => exact fun _ => rfl
  | cons x xs ih =>
    intro r h
    refine (ih (insL_srt lv x h)).trans ?_
    rw [insL_filter lv p x h, List.filter_cons]
    by_cases hp : p x = true
    · rw [if_pos hp, if_pos hp]
      rfl
    · rw [if_neg hp, if_neg hp]
end
theorem stab_fold (T : Trl) (xs : List Int) : T.stab xs = (foldL (fun z => T.level (litV z : Nat)) [] xs).reverse := by
  rw [stab_eq]
  have e : ltOf T.lvOrd = fun x y => decide (T.level (litV y : Nat) < T.level (litV x : Nat)) := by
    funext x y
    unfold ltOf Trl.lvOrd ordI
    by_cases h : T.level (litV y : Nat) < T.level (litV x : Nat)
    · rw [if_pos h, decide_eq_true h]
      rfl
    · rw [if_neg h, decide_eq_false h]
      split <;> rfl
  rw [e]
  rfl
end Go.Proofs.YtoojmhjagipmdaaGreat
