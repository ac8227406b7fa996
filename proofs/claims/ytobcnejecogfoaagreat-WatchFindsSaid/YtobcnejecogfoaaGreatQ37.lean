/- package salvorlaw13: WatchAdds. Calls of a law at a watch that knows all of its clauses. -/
import Derived.Test.YtobcnejecogfoaaGreatQ36
import Derived.Test.YtobcnejecogfoaaGreatQ15
import Derived.Test.YtobcnejecogfoaaGreatQ35
namespace Go.Proofs.YtobcnejecogfoaaGreat
open Go.RowKit

/-- an operation under a guard that is on -/
theorem wpList_on {P : Program} {ops : Array Oper} {rest : List Oper} {o : Oper} {a : Act} {w : World} {Q : Exit → Act → World → Prop} (hw : Region.wanted o (yielded ops a.tmps) = true) (h : wpList P ops Q (⟨o.dst, o.op, o.type, o.pos, o.after, none⟩ :: rest) a w) : wpList P ops Q (o :: rest) a w := by
  unfold wpList at h ⊢
  rw [if_pos hw]
  rw [if_pos (by simp [Region.wanted])] at h
  exact h
theorem madeLit_six (x : Int) : litB (madeLit x) = true ∧ litV (madeLit x) < 7 := by
  obtain ⟨h1, h2⟩ := madeLit_rng x
  have hb : litB (madeLit x) = true := (litB_iff _).2 (by omega)
  exact ⟨hb, by have := (litV_pos hb).2; omega⟩
/-- one literal that is made -/
theorem made_one (n : Int) (w : World) (hn : (Lit.int .i8 n).wf = true) :
    Calls Tryz.prog 20 #[.slice (some ⟨w.heap.size, 0, none⟩) 1 1] (w.alloc (.cells #[.int .i8 n] 33)) fun e w' => ∃ g c, e = .returned (.slice (some ⟨g, 0, none⟩) 1 c) ∧ 1 ≤ c ∧ w'.cell? ⟨g, 0, none⟩ = some (.int .i64 (madeLit n)) ∧ Below w.heap.size w w' := by
  have hr : RowAt .i8 (w.alloc (.cells #[.int .i8 n] 33)) (.slice (some ⟨w.heap.size, 0, none⟩) 1 1) [n] := ⟨some ⟨w.heap.size, 0, none⟩, 1, rfl, Nat.le_refl _, by decide, (fun h => by cases h), (fun m hm => by rw [List.mem_singleton.1 hm]; exact hn), fun i x hi => ⟨w.heap.size, 0, rfl, by simp, by
    rw [cell_new, Nat.zero_add]
    match i, hi with
    | 0, hi =>
      obtain rfl : n = x := by simpa using hi
      rfl⟩⟩
  refine (made_any _ [n] _ hr).mono ?_
  rintro e w' ⟨v, rfl, ho, hb⟩
  obtain ⟨g, c, cs, rfl, hc, _, _, hg, hx⟩ := mx_some ho (by simp [madeL])
  refine ⟨g, c, rfl, hc, mx_at ho rfl, (mx_al _ _).trans (hb.mono (by simp))⟩
structure FewT (T : Trl) (k : Nat) : Prop where
  sim : ∃ its, Sim T its
  vars : T.vars.length = 7
  starts : T.starts.length ≤ k + 1
theorem FewT.push {T : Trl} {k : Nat} (h : FewT T k) : FewT T.push (k + 1) := by
  obtain ⟨⟨its, h1⟩, h2, h3⟩ := h
  exact ⟨⟨its, h1.pushT⟩, h2, by show (T.starts ++ [(T.order.length : Int)]).length ≤ _; rw [List.length_append]; simp; omega⟩
theorem FewT.assign {T : Trl} {k : Nat} (h : FewT T k) (l : Int) : FewT (T.assigned l 0) k := by
  obtain ⟨⟨its, h1⟩, h2, h3⟩ := h
  refine ⟨?_, (assigned_vars T l 0).trans h2, by rw [assigned_starts]; exact h3⟩
  by_cases he : T.assignErr l 0 = 0
  · exact ⟨_, h1.snoc he⟩
  · have e : T.assigned l 0 = T := by unfold Trl.assigned; rw [if_neg he]
    rw [e]
    exact ⟨its, h1⟩
theorem FewT.few {T : Trl} {k : Nat} (h : FewT T k) : T.order.length ≤ 6 := by
  obtain ⟨⟨its, h1⟩, h2, _⟩ := h
  exact h1.few h2
theorem FewT.mono {T : Trl} {k j : Nat} (h : FewT T k) (hj : k ≤ j) : FewT T j := ⟨h.sim, h.vars, by have := h.starts; omega⟩
theorem val_free {T : Trl} {y : Int} : T.fal y = false → T.tru y = false → T.val y = 0 := fun h1 h2 => by
  unfold Trl.fal at h1
  unfold Trl.tru at h2
  rw [decide_eq_false_iff_not] at h1 h2
  omega
/-- what Add of a clause tells, and what the clause is -/
inductive AddsO (T : Trl) (c : List Int) (K I : Nat) (U : Int) (T' : Trl) : Prop
  | alw (ha : alwL c = true) (hk : K = 4) (ht : T' = T)
  | unit (ha : alwL c = false) (hi : I = 3) (hk : K = 2) (ho : T'.order = T.order ++ [U]) (hs : T'.starts = T.starts) (hl : T'.level (litV U : Nat) = (T.starts.length : Int) - 1) (hr : T'.reason (litV U : Nat) = 1)
  | fails (ha : alwL c = false) (hi : I = 2) (hk : K = 3) (ht : T' = T)
  | rests (ha : alwL c = false) (hi : I ≠ 2 ∧ I ≠ 3) (hk : K = 1) (ht : T' = T)
theorem adds_out {T : Trl} {its : List RIt} {c : List Int} {S : Wst} {f : Int → Int} (hs : Sim T its) (hv : T.vars.length = 7) (hc : ∀ y ∈ c, litB y = true ∧ litV y < 7) (hf : ∀ y, litB y = true → ((0 < ofF f y ↔ Has its y) ∧ (ofF f y < 0 ↔ Has its (-y)))) :
    AddsO T c (addOk T S 1 c).res (lookF f c).1 (lookF f c).2 (addOk T S 1 c).T := by
  cases ha : alwL c with
  | true =>
    have e : addOk T S 1 c = ⟨4, 0, T, S.set 1 ⟨[], eachL c⟩⟩ := by unfold addOk; rw [if_pos ha]
    rw [e]
    exact .alw ha rfl rfl
  | false =>
    rw [addOk_no ha]
    rcases add_kind hs (fun y hy => (hc y hy).1) hf with ⟨h6, h7, _⟩ | ⟨a, h6, h7, ha1, ha2, ha3, ha4, ha5⟩ | ⟨h6, h7, _⟩ | ⟨h6, h7, _⟩
    · rw [h6, h7]
      exact .fails ha rfl rfl (by simp)
    · rw [h6, h7]
      have herr := free_err hv (hc a ha1).1 (hc a ha1).2 (val_free ha2 ha3) (r := 1) ⟨by omega, by omega⟩
      have hsn := hs.snoc herr
      have hp : (its ++ [(⟨a, 1, T.now⟩ : RIt)])[its.length]? = some ⟨a, 1, T.now⟩ := by simp
      refine .unit ha rfl rfl ?_ ?_ ?_ ?_
      · simp only [if_true, ha4]
        unfold Trl.assigned
        rw [if_pos herr]
        rfl
      · simp only [if_true, ha4]
        exact assigned_starts _ _
      · simp only [if_true, ha4]
        exact hsn.level hp
      · simp only [if_true, ha4]
        unfold Trl.reason
        have := hsn.why hp
        simp only at this
        rw [this]
    · rw [h6, h7]
      exact .rests ha (by simp) rfl (by simp)
    · rw [h6, h7]
      exact .rests ha (by simp) rfl (by simp)
end Go.Proofs.YtobcnejecogfoaaGreat
namespace Go.Proofs.YtobcnejecogfoaaGreat
open Go.RowKit

section
variable {cs : List (List Int)} {T : Trl} {its : List RIt} {S : Wst} {w0 w : World} {lab : Nat → Nat} {b ab tb : Nat}
theorem St.pt {C : Int → Option (List Int)} (h : St C T its S) : PT T := ⟨its, h.sim, h.sta⟩
theorem six_all {cs : List (List Int)} (h6 : Six cs) : (∀ c ∈ cs, clauseB c = true ∧ c.length ≤ 6) ∧ cs.length ≤ 1000 := ⟨fun _ hc => h6.right hc, by have := h6.1; omega⟩
theorem six_made (xss : List (List Int)) (m : Nat) (hm : m ≤ 900) : Six ((xss.take m).map madeL) := by
  refine ⟨by rw [List.length_map, List.length_take]; omega, fun c hc => ?_⟩
  obtain ⟨xs, _, rfl⟩ := List.mem_map.1 hc
  refine ⟨by simp [madeL]; omega, fun y hy => ?_⟩
  obtain ⟨n, _, rfl⟩ := List.mem_map.1 hy
  exact madeLit_six n
theorem run_complete (h : Lw w0 w lab b ab tb (addAll arn0 0 cs) T S) (hr : Run cs T its S) (h6 : Six cs) {Ac : Option Addr} {cc : Nat} (hc : ClsAt w0 (.slice Ac cs.length cc) cs) :
    Calls Tryz.prog 16 #[.pointer (some ⟨tb, 0, none⟩), .slice Ac cs.length cc] w fun e w' => e = .returned (.bool true) ∧ Below w.heap.size w w' := by
  obtain ⟨f, hf, hff⟩ := k_its (fun x hx => hr.st.sim.litb hx) hr.st.sim.nodup
  rw [← hr.st.sim.order] at hf
  exact law_complete tb T its Ac cc cs w h.sys.tr (hc.below h.hb) hr.st.sim hr.st.vars hr.st.inv.rs (six_all h6).1 (six_all h6).2 f hf (hr.done h6 hff)
theorem st_reasons (h : Lw w0 w lab b ab tb (addAll arn0 0 cs) T S) (hr : St (clsC cs) T its S) (h6 : Six cs) {Ac : Option Addr} {cc : Nat} (hc : ClsAt w0 (.slice Ac cs.length cc) cs) :
    Calls Tryz.prog 14 #[.pointer (some ⟨tb, 0, none⟩), .slice Ac cs.length cc] w fun e w' => e = .returned (.bool true) ∧ Below w.heap.size w w' :=
  law_reasons tb T its Ac cc cs w h.sys.tr (hc.below h.hb) hr.sim hr.vars hr.inv.rs (six_all h6).1 (six_all h6).2
theorem st_failing (h : Lw w0 w lab b ab tb (addAll arn0 0 cs) T S) (hr : St (clsC cs) T its S) (h6 : Six cs) (hb : ∃ c ∈ cs, ∀ y ∈ c, Has its (-y)) {Ac : Option Addr} {cc : Nat} (hc : ClsAt w0 (.slice Ac cs.length cc) cs) :
    Calls Tryz.prog 15 #[.pointer (some ⟨tb, 0, none⟩), .slice Ac cs.length cc] w fun e w' => e = .returned (.bool true) ∧ Below w.heap.size w w' := by
  obtain ⟨f, hf, hff⟩ := k_its (fun x hx => hr.sim.litb hx) hr.sim.nodup
  rw [← hr.sim.order] at hf
  obtain ⟨c, hcm, hh⟩ := hb
  refine law_failing tb T its _ cs w h.sys.tr (hc.below h.hb) hr.sim hr.vars (six_all h6).1 (six_all h6).2 f hf ⟨c, hcm, ?_⟩
  rw [k_fail (fun y hy => (hff y ((h6.2 c hcm).2 y hy).1).2.2 (hh y hy))]
theorem run_back (h : Lw w0 w lab b ab tb (addAll arn0 0 cs) T S) (hs : St (clsC cs) T its S) (hkn : ∀ j, (S.kn j).isSome = (clsC cs j).isSome) (hone : One (clsC cs) (fun _ => True) its) {j : Int} (h0 : 0 ≤ j) (hj : j < T.now ∨ j = T.now ∧ S.looked = its.length) :
    Calls Tryz.prog 17 #[.pointer (some ⟨b, 0, none⟩), .int .i64 j] w fun e w' => e = .returned (.int .i64 0) ∧ ∃ T' its' S', Run cs T' its' S' ∧ T'.now = j ∧ its' <+: its ∧ (∀ y, Has0 its y → Has0 its' y) ∧ LwNext w0 w w' lab b ab tb (addAll arn0 0 cs) T' S' := by
  obtain ⟨its', h1, h2, h3, h4, h5⟩ := back_step hs hkn hone h0 hj
  refine (lw_back h j hs.pt.sta hs.pt.fit).mono ?_
  rintro e w' ⟨rfl, hn⟩
  rw [h3]
  exact ⟨rfl, _, its', _, h1, h2, h4, h5, hn⟩
theorem run_dec (h : Lw w0 w lab b ab tb (addAll arn0 0 cs) T S) (hr : Run cs T its S) (h6 : Six cs) {l : Int} (hl : litB l = true ∧ litV l < 7) (hn : T.now ≤ 1000) :
    Calls Tryz.prog 19 #[.pointer (some ⟨b, 0, none⟩), .pointer (some ⟨tb, 0, none⟩), .int .i64 l] w fun e w' => ∃ R its', e = .returned (.tuple #[.int .i64 (R.2.2.getD 0), .bool true]) ∧ DecO cs T its S l R its' ∧ LwNext w0 w w' lab b ab tb (addAll arn0 0 cs) R.1 R.2.1 := by
  obtain ⟨its', hd⟩ := dec_step hr h6 hl
  refine (law_decide l h hr.st.sim hr.st.vars hr.st.inv.link hl (by have := now_eq (T := T); omega) (fun id he => ?_)).mono ?_
  · obtain ⟨c, hc, _⟩ := hd.bad id he
    exact (h6.fit id c hc).1.1
  · rintro e w' ⟨rfl, hx⟩
    exact ⟨_, its', rfl, hd, hx⟩
end
end Go.Proofs.YtobcnejecogfoaaGreat
