/- Plain: one step of what is met, and the end of it. Small laws of sorted numbers, fresh rows and lists of clauses. Plain: what is learned from a clause that fails: its literals, and the chain of its hints. package salvorlaw13: awake. package salvorlaw13: started. slices.Clone at clauses. package rup: Assume. -/
import Derived.Test.YtoojmhjagipmdaaGreatU016
import Derived.Test.YtoojmhjagipmdaaGreatU014
import Derived.Test.YtoojmhjagipmdaaGreatU025
import Derived.Test.YtoojmhjagipmdaaGreatU024
import Derived.Test.YtoojmhjagipmdaaGreatU023
import Derived.Test.YtoojmhjagipmdaaGreatU002
import Derived.Test.YtoojmhjagipmdaaGreatU017
namespace Go.Proofs.YtoojmhjagipmdaaGreat
open Go.RowKit

section
variable {A : Arn} {C : Int → Option (List Int)} {T : Trl} {its : List RIt}
theorem litN_eq {l : Int} (h : litB l = true) : litN l = -l := by unfold litN; rw [if_pos h]
theorem not_contains {xs : List Int} {x : Int} (h : x ∉ xs) : xs.contains x = false := by
  cases hc : xs.contains x with
  | false => rfl
  | true => exact absurd (List.contains_iff_mem.1 hc) h
theorem desc_snoc {R : List Nat} {p : Nat} (h : R.Pairwise (· > ·)) (hp : ∀ q ∈ R, p + 1 ≤ q) : (R ++ [p]).Pairwise (· > ·) := by
  rw [List.pairwise_append]
  exact ⟨h, List.pairwise_singleton _ _, fun a ha b hb => by rw [List.mem_singleton.1 hb]; exact hp a ha⟩
theorem snoc_mem {R : List Nat} {p q : Nat} : q ∈ R ++ [p] ↔ q ∈ R ∨ q = p := by rw [List.mem_append, List.mem_singleton]
theorem goes_keep {lv op v : Int} (h : T.goes lv op v = false) : T.level v ≠ 0 ∧ (T.level v = lv → op ≤ 1) := by
  unfold Trl.goes at h
  rw [Bool.or_eq_false_iff, Bool.and_eq_false_iff] at h
  refine ⟨fun e => ?_, fun e => ?_⟩
  · have := h.1
    rw [e] at this
    cases this
  · rcases h.2 with h | h
    · rw [e, beq_self_eq_true] at h
      cases h
    · have := of_decide_eq_false h
      omega
theorem goes_go {lv op v : Int} (h : T.goes lv op v = true) : T.level v = 0 ∨ T.level v = lv ∧ 1 < op := by
  unfold Trl.goes at h
  rw [Bool.or_eq_true, Bool.and_eq_true] at h
  rcases h with h | h
  · exact .inl (eq_of_beq h)
  · exact .inr ⟨eq_of_beq h.1, of_decide_eq_true h.2⟩
theorem CfO.step {c : List Int} {lv : Int} {p : Nat} {s : CSt} {R K : List Nat} (o : CfO C T its c lv (p + 1) s R K) (hs : Sim T its) (hr : Rsn C its) (hA : ∀ j, A.get j = C j) (hd : Dcs its) {x : RIt} (hp : its[p]? = some x) :
    ∃ s' R' K', cfStep A T lv s x.lit = some s' ∧ CfO C T its c lv p s' R' K' := by
  have hxb := (hs.at_ p x hp).1
  have hlx := hs.level hp
  have hpl := (List.getElem?_eq_some_iff.1 hp).1
  have hpr : p ∉ R := fun h => by have := o.rge p h; omega
  have hpk : p ∉ K := fun h => by have := (o.kge p h).1; omega
  by_cases hm : ((litV x.lit : Nat) : Int) ∈ s.ms
  · by_cases hg : T.goes lv s.op ((litV x.lit : Nat) : Int) = true
    · -- it has to go
      have hgo := goes_go hg
      rw [hlx] at hgo
      have h0 : x.reason ≠ 0 := fun h0 => by
        obtain ⟨h1, h2⟩ := hd p x hp h0
        rcases hgo with e | ⟨e, hop⟩
        · omega
        · have hlv : lv ≠ 0 := by omega
          obtain ⟨q, y, hq, hym, hyl, hqr, hqv⟩ := o.more hs hlv [((litV x.lit : Nat) : Int)] (by simpa using hop)
          rcases Nat.lt_trichotomy q p with hlt | heq | hgt
          · have := h2 q y hlt hq
            omega
          · subst heq
            rw [hp] at hq
            obtain rfl := Option.some.inj hq
            exact hqv (List.mem_singleton.2 rfl)
          · rcases (o.all q y hgt hq).1 hym with h | h
            · exact hqr h
            · have := o.kop hlv ⟨q, h, (lvAt_eq hq).trans hyl⟩
              omega
      obtain ⟨d, hcd, hrp, hxd, hod⟩ := right_ok hs hr hA hp h0
      obtain ⟨new, m1, m2, m3, m4, m5⟩ := meet_ok (T := T) ((litV x.lit : Nat) : Int) lv d s.ms 0 o.nd
      have hnew : ∀ v ∈ new, ∃ (q : Nat) (y : RIt), q < p ∧ its[q]? = some y ∧ v = (litV y.lit : Nat) ∧ -y.lit ∈ d := fun v hv => by
        obtain ⟨hne, y, hy, e⟩ := m4 v hv
        have hyx : y ≠ x.lit := fun h => hne (by rw [e, h])
        obtain ⟨q, z, hq, hz, ez⟩ := hod y hy hyx
        have hzl := at_fal hs hz ez
        exact ⟨q, z, hq, hz, by rw [e, hzl.2.1], by rw [ez, Int.neg_neg]; exact hy⟩
      have hmono : ∀ (q : Nat) (y : RIt), q < p → its[q]? = some y → y.level ≤ x.level := fun q y hq hy => hs.mono q p y x (Nat.le_of_lt hq) hy hp
      refine ⟨_, R ++ [p], K, by unfold cfStep; rw [if_neg (by rw [List.contains_iff_mem.2 hm]; simp), if_neg (by rw [hg]; simp), hrp], ?_⟩
      have hop : ∀ h : lv ≠ 0, (if T.level (litV x.lit : Nat) = lv then s.op + (((T.meetGo ((litV x.lit : Nat) : Int) lv d s.ms 0).2 : Int) - 1) else s.op) = (((s.ms ++ new).filter fun v => decide (T.level v = lv)).length : Int) - (((R ++ [p]).filter fun q => decide (lvAt its q = lv)).length : Int) ∧ 1 ≤ (if T.level (litV x.lit : Nat) = lv then s.op + (((T.meetGo ((litV x.lit : Nat) : Int) lv d s.ms 0).2 : Int) - 1) else s.op) ∧ ((∃ q ∈ K, lvAt its q = lv) → (if T.level (litV x.lit : Nat) = lv then s.op + (((T.meetGo ((litV x.lit : Nat) : Int) lv d s.ms 0).2 : Int) - 1) else s.op) = 1) := fun h => by
        have a1 := o.op h
        have a2 := o.op1 h
        rw [List.filter_append, List.filter_append, List.length_append, List.length_append, m2, hlx, List.filter_cons, List.filter_nil, lvAt_eq hp]
        by_cases e : x.level = lv
        · have hop1 : 1 < s.op := by
            rcases hgo with e2 | e2
            · omega
            · exact e2.2
          rw [if_pos e, if_pos (decide_eq_true e)]
          simp only [List.length_cons, List.length_nil]
          refine ⟨by omega, by omega, fun hk => ?_⟩
          have := o.kop h hk
          omega
        · have hx0 : x.level = 0 := by
            rcases hgo with e2 | e2
            · exact e2
            · exact absurd e2.1 e
          have hz : (new.filter fun v => decide (T.level v = lv)) = [] := by
            rw [List.filter_eq_nil_iff]
            intro v hv
            obtain ⟨q, y, hq, hy, e3, _⟩ := hnew v hv
            rw [e3, hs.level hy, decide_eq_true_eq]
            have := hmono q y hq hy
            have := hs.pos y (List.mem_of_getElem? hy)
            omega
          rw [if_neg e, if_neg (by simpa using e), hz]
          simp only [List.length_nil]
          exact ⟨by omega, by omega, fun hk => o.kop h hk⟩
      rw [m1]
      exact {
        rdn := desc_snoc o.rdn o.rge
        kdn := o.kdn
        rge := fun q hq => by
          rcases snoc_mem.1 hq with h | h
          · have := o.rge q h
            omega
          · omega
        kge := fun q hq => by
          have := o.kge q hq
          omega
        ms := fun v hv => by
          rcases List.mem_append.1 hv with h | h
          · exact o.ms v h
          · obtain ⟨q, y, _, hy, e, _⟩ := hnew v h
            exact ⟨q, y, hy, e⟩
        nd := m3
        all := fun q y hq hy => by
          rw [snoc_mem]
          rcases Nat.eq_or_lt_of_le hq with e | hlt
          · subst e
            rw [hp] at hy
            obtain rfl := Option.some.inj hy
            exact ⟨fun _ => .inl (.inr rfl), fun _ => List.mem_append_left _ hm⟩
          · have h1 := o.all q y hlt hy
            rw [List.mem_append, h1]
            constructor
            · rintro (h | h)
              · exact h.imp_left .inl
              · obtain ⟨q2, y2, hq2, hy2, e2, _⟩ := hnew _ h
                have := hs.inj hy hy2 (by omega)
                omega
            · rintro ((h | h) | h)
              · exact .inl (.inl h)
              · omega
              · exact .inl (.inr h)
        dis := fun q hq => by
          rcases snoc_mem.1 hq with h | h
          · exact o.dis q h
          · rw [h]
            exact hpk
        src := fun q y hy hv => by
          rcases List.mem_append.1 hv with h | h
          · refine (o.src q y hy h).imp_right ?_
            rintro ⟨r, z, d2, a1, a2, a3⟩
            exact ⟨r, z, d2, a1, snoc_mem.2 (.inl a2), a3⟩
          · obtain ⟨q2, y2, hq2, hy2, e2, hd2⟩ := hnew _ h
            have e3 := hs.inj hy hy2 (by omega)
            subst e3
            rw [hy] at hy2
            obtain rfl := Option.some.inj hy2
            exact .inr ⟨p, x, d, hq2, snoc_mem.2 (.inr rfl), hp, hcd, hd2⟩
        cov := fun y hy => List.mem_append_left _ (o.cov y hy)
        covR := fun r hr2 => by
          rcases snoc_mem.1 hr2 with h | h
          · obtain ⟨z, d2, a1, a2, a3, a4, a5⟩ := o.covR r h
            exact ⟨z, d2, a1, a2, a3, a4, fun y hy hne => ⟨(a5 y hy hne).1, List.mem_append_left _ (a5 y hy hne).2⟩⟩
          · subst h
            refine ⟨x, d, hp, hcd, hxd, h0, fun y hy hne => ⟨hod y hy hne, m5 y hy fun e => hne ?_⟩⟩
            obtain ⟨q, z, hq, hz, ez⟩ := hod y hy hne
            have hzl := at_fal hs hz ez
            have := hs.inj hz hp (by rw [hzl.2.1]; omega)
            omega
        hints := by rw [List.map_append, ← o.hints, List.map_cons, List.map_nil, rsAt_eq hp]
        lits := o.lits
        met := fun q hq => by
          show _ ∈ (if 0 < T.level (litV x.lit : Nat) then s.met ++ [((litV x.lit : Nat) : Int)] else s.met)
          split
          · exact List.mem_append_left _ (o.met q hq)
          · exact o.met q hq
        lvl := fun q y hy hv => by
          rcases List.mem_append.1 hv with h | h
          · exact o.lvl q y hy h
          · obtain ⟨q2, y2, hq2, hy2, e2, _⟩ := hnew _ h
            have e3 := hs.inj hy hy2 (by omega)
            subst e3
            have := hmono q y hq2 hy
            have := o.lvl p x hp hm
            omega
        klv := o.klv
        op := fun h => (hop h).1
        op1 := fun h => (hop h).2.1
        kop := fun h => (hop h).2.2 }
    · -- it stays
      rw [Bool.not_eq_true] at hg
      have hk := goes_keep hg
      rw [hlx] at hk
      have hpos := (hs.pos x (List.mem_of_getElem? hp)).1
      refine ⟨_, R, K ++ [p], by unfold cfStep; rw [if_neg (by rw [List.contains_iff_mem.2 hm]; simp), if_pos hg], ?_⟩
      exact {
        rdn := o.rdn
        kdn := desc_snoc o.kdn fun q hq => (o.kge q hq).1
        rge := fun q hq => by
          have := o.rge q hq
          omega
        kge := fun q hq => by
          rcases snoc_mem.1 hq with h | h
          · have := o.kge q h
            omega
          · omega
        ms := o.ms
        nd := o.nd
        all := fun q y hq hy => by
          rw [snoc_mem]
          rcases Nat.eq_or_lt_of_le hq with e | hlt
          · subst e
            rw [hp] at hy
            obtain rfl := Option.some.inj hy
            exact ⟨fun _ => .inr (.inr rfl), fun _ => hm⟩
          · rw [o.all q y hlt hy]
            constructor
            · exact fun h => h.imp_right .inl
            · rintro (h | h | h)
              · exact .inl h
              · exact .inr h
              · omega
        dis := fun q hq h => by
          rcases snoc_mem.1 h with h | h
          · exact o.dis q hq h
          · exact hpr (h ▸ hq)
        src := o.src
        cov := o.cov
        covR := o.covR
        hints := o.hints
        lits := by rw [List.map_append, ← o.lits, List.map_cons, List.map_nil, litAt_eq hp, litN_eq hxb]
        met := fun q hq => by
          show _ ∈ (if 0 < T.level (litV x.lit : Nat) then s.met ++ [((litV x.lit : Nat) : Int)] else s.met)
          rw [hlx, if_pos (by omega), List.mem_append]
          rcases snoc_mem.1 hq with h | h
          · exact .inl (o.met q h)
          · rw [h, litAt_eq hp]
            exact .inr (List.mem_singleton.2 rfl)
        lvl := o.lvl
        klv := fun q hq => by
          rcases snoc_mem.1 hq with h | h
          · exact o.klv q h
          · rw [h, lvAt_eq hp]
            omega
        op := o.op
        op1 := o.op1
        kop := fun h hq => by
          obtain ⟨q, hq, e⟩ := hq
          rcases snoc_mem.1 hq with h2 | h2
          · exact o.kop h ⟨q, h2, e⟩
          · rw [h2, lvAt_eq hp] at e
            have := hk.2 e
            have := o.op1 h
            show s.op = 1
            omega }
  · refine ⟨s, R, K, by unfold cfStep; rw [if_pos (not_contains hm)], ?_⟩
    exact {
      rdn := o.rdn
      kdn := o.kdn
      rge := fun q hq => by
        have := o.rge q hq
        omega
      kge := fun q hq => by
        have := o.kge q hq
        omega
      ms := o.ms
      nd := o.nd
      all := fun q y hq hy => by
        rcases Nat.eq_or_lt_of_le hq with e | hlt
        · subst e
          rw [hp] at hy
          obtain rfl := Option.some.inj hy
          exact ⟨fun h => absurd h hm, fun h => h.elim (fun h => absurd h hpr) (fun h => absurd h hpk)⟩
        · exact o.all q y hlt hy
      dis := o.dis
      src := o.src
      cov := o.cov
      covR := o.covR
      hints := o.hints
      lits := o.lits
      met := o.met
      lvl := o.lvl
      klv := o.klv
      op := o.op
      op1 := o.op1
      kop := o.kop }
/-- the whole run -/
theorem CfO.run {c : List Int} {lv : Int} (hs : Sim T its) (hr : Rsn C its) (hA : ∀ j, A.get j = C j) (hd : Dcs its) : ∀ (p : Nat) (s : CSt) (R K : List Nat), p ≤ its.length → CfO C T its c lv p s R K → ∃ s' R' K', cfRun A T lv s ((its.take p).reverse.map RIt.lit) = some s' ∧ CfO C T its c lv 0 s' R' K' := by
  intro p
  induction p with
  | zero =>
    intro s R K _ o
    exact ⟨s, R, K, rfl, o⟩
  | succ p ih =>
    intro s R K hp o
    obtain ⟨x, hx⟩ := getElem_of (show p < its.length by omega)
    obtain ⟨s1, R1, K1, h1, o1⟩ := o.step hs hr hA hd hx
    obtain ⟨s', R', K', h2, o2⟩ := ih s1 R1 K1 (by omega) o1
    refine ⟨s', R', K', ?_, o2⟩
    rw [List.take_add_one, hx, Option.toList_some, List.reverse_append, List.reverse_cons, List.reverse_nil, List.nil_append, List.singleton_append, List.map_cons]
    unfold cfRun
    rw [h1]
    exact h2
end
end Go.Proofs.YtoojmhjagipmdaaGreat
namespace Go.Proofs.YtoojmhjagipmdaaGreat
open Go.RowKit

theorem sortI_eq {xs ys : List Int} (hp : xs.Perm ys) (hs : ys.Pairwise (· ≤ ·)) : sortI xs = ys := by
  refine List.Perm.eq_of_pairwise (le := fun a b => a ≤ b) (fun a b _ _ h1 h2 => by omega) ?_ hs ((List.mergeSort_perm _ _).trans hp)
  have := List.pairwise_mergeSort (le := fun x y : Int => decide (x ≤ y)) (fun a b c h1 h2 => by simp at *; omega) (fun a b => by simp; omega) xs
  exact this.imp (fun h => by simpa using h)
theorem mx_ints (W : World) (xs : List Int) (t : TypeId) : IntsIn (fun g => g = W.heap.size) (W.alloc (.cells (xs.map (Value.int .i64)).toArray t)) (.slice (some ⟨W.heap.size, 0, none⟩) xs.length xs.length) xs :=
  ⟨some ⟨W.heap.size, 0, none⟩, xs.length, rfl, Nat.le_refl _, (fun h => by cases h), fun i x hi => ⟨W.heap.size, 0, rfl, by simp, rfl, by
    rw [cell_new, Nat.zero_add]
    simp [hi]⟩⟩
theorem cls_new (W : World) (us : List Value) (cs : List (List Int)) (t : TypeId) (h : ∀ (i : Nat) (xs : List Int), cs[i]? = some xs → ∃ u, us[i]? = some u ∧ IntsIn (fun g => g < W.heap.size) W u xs) : ClsAt (W.alloc (.cells us.toArray t)) (.slice (some ⟨W.heap.size, 0, none⟩) cs.length cs.length) cs := by
  refine ⟨_, cs.length, rfl, fun i xs hi => ?_⟩
  obtain ⟨u, hu, hx⟩ := h i xs hi
  have hb := mx_al W (.cells us.toArray t)
  refine ⟨W.heap.size, 0, u, rfl, by simp, ?_, (hx.below hb).mono (fun g hg => by simp; omega)⟩
  rw [cell_new, Nat.zero_add]
  simpa using hu
theorem sortI_sorted (xs : List Int) : (sortI xs).Pairwise (· ≤ ·) := by
  have := List.pairwise_mergeSort (le := fun x y : Int => decide (x ≤ y)) (fun a b c h1 h2 => by simp at *; omega) (fun a b => by simp; omega) xs
  exact this.imp (fun h => by simpa using h)
theorem sortI_mem (xs : List Int) (x : Int) : x ∈ sortI xs ↔ x ∈ xs := (List.mergeSort_perm xs _).mem_iff
end Go.Proofs.YtoojmhjagipmdaaGreat
namespace Go.Proofs.YtoojmhjagipmdaaGreat
open Go.RowKit

/-- hints that lead from the negations of L to a clause c that fails: the reasons of the places R, in their order -/
structure Chain (C : Int → Option (List Int)) (its : List RIt) (L c : List Int) (R : List Nat) : Prop where
  up : R.Pairwise (· < ·)
  rs : ∀ r ∈ R, ∃ (z : RIt) (d : List Int), its[r]? = some z ∧ C z.reason = some d ∧ z.lit ∈ d ∧ ∀ y ∈ d, y ≠ z.lit → ∃ (q : Nat) (x : RIt), q < r ∧ its[q]? = some x ∧ x.lit = -y ∧ (q ∈ R ∨ y ∈ L)
  cl : ∀ y ∈ c, ∃ (q : Nat) (x : RIt), its[q]? = some x ∧ x.lit = -y ∧ (q ∈ R ∨ y ∈ L)
  dis : ∀ r ∈ R, -(litAt its r) ∉ L
  need : ∀ r ∈ R, -(litAt its r) ∈ c ∨ ∃ (r' : Nat) (z : RIt) (d : List Int), r < r' ∧ r' ∈ R ∧ its[r']? = some z ∧ C z.reason = some d ∧ -(litAt its r) ∈ d
  fal : ∀ y ∈ L, Has its (-y)
/-- what is learned -/
structure ConfO (C : Int → Option (List Int)) (T : Trl) (its : List RIt) (id : Int) (c : List Int) (lv : Int) (x : Lrn) (R K : List Nat) : Prop where
  max : T.failMax c 0 = some lv
  lv0 : 0 ≤ lv
  chain : Chain C its x.lits c R
  hints : x.hints = R.map (rsAt its) ++ [id]
  lits : x.lits = K.map fun q => -(litAt its q)
  kdn : K.Pairwise (· > ·)
  kin : ∀ q ∈ K, q < its.length ∧ 0 < lvAt its q ∧ ((litV (litAt its q) : Nat) : Int) ∈ x.met
  one : lv ≠ 0 → ∃ k K', K = k :: K' ∧ lvAt its k = lv ∧ ∀ q ∈ K', lvAt its q < lv
  none : lv = 0 → K = []
  back : x.back = T.backOf x.lits
  levels : x.levels = T.levelsOf x.lits
section
variable {A : Arn} {C : Int → Option (List Int)} {T : Trl} {its : List RIt}
theorem failMax_has (h : Sim T its) : ∀ {c : List Int} {m : Int}, (∀ y ∈ c, Has its (-y)) → ∃ lv, T.failMax c m = some lv ∧ m ≤ lv ∧ (∀ (q : Nat) (x : RIt), its[q]? = some x → -x.lit ∈ c → x.level ≤ lv) ∧ (lv = m ∨ ∃ (q : Nat) (x : RIt), its[q]? = some x ∧ -x.lit ∈ c ∧ x.level = lv) := by
  intro c
  induction c with
  | nil =>
    intro m _
    refine ⟨m, rfl, Int.le_refl _, ?_, .inl rfl⟩
    intro _ _ _ hc
    cases hc
  | cons l c ih =>
    intro m hc
    obtain ⟨q, x, hq, e⟩ := hc l List.mem_cons_self
    obtain ⟨a1, a2, a3, a4, a5⟩ := at_fal h hq e
    obtain ⟨lv, h1, h2, h3, h4⟩ := ih (m := max m (T.level (litV l : Nat))) fun y hy => hc y (List.mem_cons_of_mem _ hy)
    refine ⟨lv, by unfold Trl.failMax; rw [if_neg (by omega)]; exact h1, by omega, fun p z hp hm => ?_, ?_⟩
    · rcases List.mem_cons.1 hm with hm | hm
      · have := h.inj hp hq (by rw [a2, ← hm, litV_negate])
        subst this
        rw [hp] at hq
        obtain rfl := Option.some.inj hq
        omega
      · exact h3 p z hp hm
    · rcases h4 with h4 | ⟨p, z, b1, b2, b3⟩
      · by_cases hm : m < T.level (litV l : Nat)
        · exact .inr ⟨q, x, hq, by rw [e, Int.neg_neg]; exact List.mem_cons_self, by omega⟩
        · exact .inl (by omega)
      · exact .inr ⟨p, z, b1, List.mem_cons_of_mem _ b2, b3⟩
/-- the beginning of the run -/
theorem cfo_begin (hs : Sim T its) {c : List Int} {lv : Int} (hc : ∀ y ∈ c, Has its (-y)) (hm : T.failMax c 0 = some lv) : CfO C T its c lv its.length ⟨(T.meetGo 0 lv c [] 0).1, ((T.meetGo 0 lv c [] 0).2 : Nat), [], [], []⟩ [] [] := by
  obtain ⟨lv', h1, h2, h3, h4⟩ := failMax_has hs (m := 0) hc
  rw [hm] at h1
  obtain rfl := Option.some.inj h1
  obtain ⟨new, m1, m2, m3, m4, m5⟩ := meet_ok (T := T) 0 lv c [] 0 List.nodup_nil
  rw [List.nil_append] at m1 m3 m5
  have hin : ∀ v ∈ new, ∃ (q : Nat) (x : RIt), its[q]? = some x ∧ v = (litV x.lit : Nat) ∧ -x.lit ∈ c := fun v hv => by
    obtain ⟨_, y, hy, e⟩ := m4 v hv
    obtain ⟨q, x, hq, ex⟩ := hc y hy
    exact ⟨q, x, hq, by rw [e, (at_fal hs hq ex).2.1], by rw [ex, Int.neg_neg]; exact hy⟩
  have hcov : ∀ y ∈ c, ((litV y : Nat) : Int) ∈ new := fun y hy => m5 y hy (by
    obtain ⟨q, x, hq, ex⟩ := hc y hy
    have := (litV_pos (at_fal hs hq ex).1).1
    omega)
  have hsrc : ∀ (q : Nat) (x : RIt), its[q]? = some x → ((litV x.lit : Nat) : Int) ∈ new → -x.lit ∈ c := fun q x hq hv => by
    obtain ⟨q2, x2, hq2, e, hx2⟩ := hin _ hv
    have := hs.inj hq hq2 (by omega)
    subst this
    rw [hq] at hq2
    obtain rfl := Option.some.inj hq2
    exact hx2
  rw [m1, m2]
  exact {
    rdn := List.Pairwise.nil
    kdn := List.Pairwise.nil
    rge := fun q hq => by cases hq
    kge := fun q hq => by cases hq
    ms := fun v hv => by
      obtain ⟨q, x, hq, e, _⟩ := hin v hv
      exact ⟨q, x, hq, e⟩
    nd := m3
    all := fun q x hq hx => by
      have := (List.getElem?_eq_some_iff.1 hx).1
      omega
    dis := fun q hq => by cases hq
    src := fun q x hq hv => .inl (hsrc q x hq hv)
    cov := hcov
    covR := fun r hr => by cases hr
    hints := rfl
    lits := rfl
    met := fun q hq => by cases hq
    lvl := fun q x hq hv => h3 q x hq (hsrc q x hq hv)
    klv := fun q hq => by cases hq
    op := fun _ => by
      simp only [List.filter_nil, List.length_nil]
      omega
    op1 := fun h => by
      rcases h4 with h4 | ⟨q, x, hq, hx, e⟩
      · exact absurd h4 h
      · have hv := hcov _ hx
        rw [litV_negate] at hv
        have : ((litV x.lit : Nat) : Int) ∈ new.filter fun v => decide (T.level v = lv) := List.mem_filter.2 ⟨hv, decide_eq_true ((hs.level hq).trans e)⟩
        have := List.length_pos_of_mem this
        show (1 : Int) ≤ ((0 + (new.filter fun v => decide (T.level v = lv)).length : Nat) : Int)
        omega
    kop := fun _ ⟨q, hq, _⟩ => by cases hq }
/-- the end of the run: the chain -/
theorem CfO.chain {c : List Int} {lv : Int} {s : CSt} {R K : List Nat} (o : CfO C T its c lv 0 s R K) (hs : Sim T its) (hc : ∀ y ∈ c, Has its (-y)) : Chain C its s.lits c R.reverse := by
  have hK : ∀ (q : Nat) (x : RIt) (y : Int), its[q]? = some x → x.lit = -y → ((litV y : Nat) : Int) ∈ s.ms → q ∈ R.reverse ∨ y ∈ s.lits := fun q x y hq e hv => by
    rw [List.mem_reverse]
    refine ((o.all q x (Nat.zero_le _) hq).1 (by rw [(at_fal hs hq e).2.1]; exact hv)).imp_right fun hk => ?_
    rw [o.lits, List.mem_map]
    exact ⟨q, hk, by rw [litAt_eq hq, e, Int.neg_neg]⟩
  exact {
    up := by
      rw [List.pairwise_reverse]
      exact o.rdn
    rs := fun r hr => by
      rw [List.mem_reverse] at hr
      obtain ⟨z, d, a1, a2, a3, _, a5⟩ := o.covR r hr
      refine ⟨z, d, a1, a2, a3, fun y hy hne => ?_⟩
      obtain ⟨⟨q, x, hq, hx, e⟩, hv⟩ := a5 y hy hne
      exact ⟨q, x, hq, hx, e, hK q x y hx e hv⟩
    cl := fun y hy => by
      obtain ⟨q, x, hq, e⟩ := hc y hy
      exact ⟨q, x, hq, e, hK q x y hq e (o.cov y hy)⟩
    dis := fun r hr hm => by
      rw [List.mem_reverse] at hr
      obtain ⟨z, d, a1, _⟩ := o.covR r hr
      rw [o.lits, List.mem_map] at hm
      obtain ⟨q, hq, e⟩ := hm
      obtain ⟨x, hx⟩ := getElem_of (o.kge q hq).2
      rw [litAt_eq hx, litAt_eq a1] at e
      have := hs.inj hx a1 (by rw [show x.lit = z.lit by omega])
      subst this
      exact o.dis q hr hq
    need := fun r hr => by
      rw [List.mem_reverse] at hr
      obtain ⟨z, d, a1, _⟩ := o.covR r hr
      rw [litAt_eq a1]
      refine (o.src r z a1 ((o.all r z (Nat.zero_le _) a1).2 (.inl hr))).imp_right ?_
      rintro ⟨r', z', d', b1, b2, b3⟩
      exact ⟨r', z', d', b1, List.mem_reverse.2 b2, b3⟩
    fal := fun y hy => by
      rw [o.lits, List.mem_map] at hy
      obtain ⟨q, hq, e⟩ := hy
      obtain ⟨x, hx⟩ := getElem_of (o.kge q hq).2
      exact ⟨q, x, hx, by rw [← e, litAt_eq hx, Int.neg_neg]⟩ }
/-- Conflict: what it returns -/
theorem conf_law (hs : Sim T its) (hr : Rsn C its) (hA : ∀ j, A.get j = C j) (hd : Dcs its) {id : Int} {c : List Int} (hcc : C id = some c) (hc : ∀ y ∈ c, Has its (-y)) : ∃ x lv R K, confP A T id = (x, 0) ∧ ConfO C T its id c lv x R K := by
  obtain ⟨lv, hm, h0, hmax, _⟩ := failMax_has hs (m := 0) hc
  obtain ⟨s, R, K, hrun, o⟩ := CfO.run (A := A) (lv := lv) hs hr hA hd its.length _ [] [] (Nat.le_refl _) (cfo_begin (C := C) hs hc hm)
  have hend : cfEnd A T lv c = some s := by
    unfold cfEnd
    rw [hs.order, ← List.map_reverse]
    rw [List.take_length] at hrun
    exact hrun
  refine ⟨⟨s.lits, T.backOf s.lits, T.levelsOf s.lits, s.hints.reverse ++ [id], sortI s.met⟩, lv, R.reverse, K, by unfold confP; rw [(hA id).trans hcc]; simp only [hm, hend], hm, h0, o.chain hs hc, by rw [o.hints, List.map_reverse], o.lits, o.kdn, fun q hq => ⟨(o.kge q hq).2, o.klv q hq, (sortI_mem _ _).2 (o.met q hq)⟩, fun hl => ?_, fun hl => ?_, rfl, rfl⟩
  · obtain ⟨q, x, hq, hv, hxl, hqr, _⟩ := o.more hs hl [] (by have := o.op1 hl; simp only [List.length_nil]; omega)
    have hqk : q ∈ K := ((o.all q x (Nat.zero_le _) hq).1 hv).resolve_left hqr
    have hop := o.kop hl ⟨q, hqk, (lvAt_eq hq).trans hxl⟩
    have huniq : ∀ q' ∈ K, lvAt its q' = lv → q' = q := fun q' hq' e => Classical.byContradiction fun hne => by
      have ho := o.op hl
      obtain ⟨x', hx'⟩ := getElem_of (o.kge q' hq').2
      rw [lvAt_eq hx'] at e
      have hv' := (o.all q' x' (Nat.zero_le _) hx').2 (.inr hq')
      have hsub : (((R.filter fun q => decide (lvAt its q = lv)).map fun q => ((litV (litAt its q) : Nat) : Int)) ++ [((litV x.lit : Nat) : Int), ((litV x'.lit : Nat) : Int)]).length ≤ (s.ms.filter fun v => decide (T.level v = lv)).length := by
        refine List.Nodup.length_le_of_subset ?_ ?_
        · rw [List.nodup_append]
          have hRin : ∀ r ∈ R, ∃ z, its[r]? = some z := fun r hr => by
            obtain ⟨z, d, a1, _⟩ := o.covR r hr
            exact ⟨z, a1⟩
          refine ⟨?_, ?_, ?_⟩
          · have hn : (R.filter fun q => decide (lvAt its q = lv)).Nodup := (o.rdn.imp (fun h e => by omega)).filter _
            unfold List.Nodup
            rw [List.pairwise_map]
            refine hn.imp_of_mem ?_
            intro a b ha hb hne e
            obtain ⟨za, hza⟩ := hRin a (List.mem_filter.1 ha).1
            obtain ⟨zb, hzb⟩ := hRin b (List.mem_filter.1 hb).1
            rw [litAt_eq hza, litAt_eq hzb] at e
            exact hne (hs.inj hza hzb (by omega))
          · rw [List.nodup_cons]
            refine ⟨fun h => hne ?_, by simp⟩
            rw [List.mem_singleton] at h
            exact hs.inj hx' hq (by omega)
          · intro a ha b hb e
            rw [List.mem_map] at ha
            obtain ⟨r, hr, e2⟩ := ha
            have hr := (List.mem_filter.1 hr).1
            obtain ⟨zr, hzr⟩ := hRin r hr
            rw [litAt_eq hzr] at e2
            rcases List.mem_cons.1 hb with e3 | hb
            · have := hs.inj hzr hq (by omega)
              exact hqr (this ▸ hr)
            · have e3 := List.mem_singleton.1 hb
              have := hs.inj hzr hx' (by omega)
              exact o.dis r hr (this ▸ hq')
        · intro v hv2
          rcases List.mem_append.1 hv2 with h | h
          · rw [List.mem_map] at h
            obtain ⟨r, hr, e2⟩ := h
            obtain ⟨hr, hrl⟩ := List.mem_filter.1 hr
            have hrl := of_decide_eq_true hrl
            obtain ⟨z, d, a1, _⟩ := o.covR r hr
            rw [litAt_eq a1] at e2
            rw [lvAt_eq a1] at hrl
            rw [← e2]
            exact List.mem_filter.2 ⟨(o.all r z (Nat.zero_le _) a1).2 (.inl hr), decide_eq_true ((hs.level a1).trans hrl)⟩
          · rcases List.mem_cons.1 h with h | h
            · rw [h]
              exact List.mem_filter.2 ⟨hv, decide_eq_true ((hs.level hq).trans hxl)⟩
            · rw [List.mem_singleton.1 h]
              exact List.mem_filter.2 ⟨hv', decide_eq_true ((hs.level hx').trans e)⟩
      rw [List.length_append, List.length_map] at hsub
      simp only [List.length_cons, List.length_nil] at hsub
      omega
    have hle : ∀ q' ∈ K, lvAt its q' ≤ lv := fun q' hq' => by
      obtain ⟨x', hx'⟩ := getElem_of (o.kge q' hq').2
      rw [lvAt_eq hx']
      exact o.lvl q' x' hx' ((o.all q' x' (Nat.zero_le _) hx').2 (.inr hq'))
    cases hK : K with
    | nil => rw [hK] at hqk; cases hqk
    | cons k K' =>
      rw [hK] at hqk hle huniq
      have hkd := o.kdn
      rw [hK, List.pairwise_cons] at hkd
      have hkq : k = q := by
        rcases List.mem_cons.1 hqk with e | hm2
        · exact e.symm
        · have hgt := hkd.1 q hm2
          obtain ⟨xk, hxk⟩ := getElem_of (o.kge k (by rw [hK]; exact List.mem_cons_self)).2
          have h1 := hs.mono q k x xk (Nat.le_of_lt hgt) hq hxk
          have h2 := hle k List.mem_cons_self
          rw [lvAt_eq hxk] at h2
          exact huniq k List.mem_cons_self (by rw [lvAt_eq hxk]; omega)
      refine ⟨k, K', rfl, by rw [hkq, lvAt_eq hq, hxl], fun q' hq' => ?_⟩
      have h1 := hle q' (List.mem_cons_of_mem _ hq')
      have h2 := huniq q' (List.mem_cons_of_mem _ hq')
      have h3 := hkd.1 q' hq'
      omega
  · cases hK : K with
    | nil => rfl
    | cons k K' =>
      have hk : k ∈ K := by rw [hK]; exact List.mem_cons_self
      obtain ⟨x, hx⟩ := getElem_of (o.kge k hk).2
      have h1 := o.lvl k x hx ((o.all k x (Nat.zero_le _) hx).2 (.inr hk))
      have h2 := o.klv k hk
      rw [lvAt_eq hx] at h2
      omega
end
end Go.Proofs.YtoojmhjagipmdaaGreat
namespace Go.Proofs.YtoojmhjagipmdaaGreat
open Go.RowKit

theorem Lw.al {w0 w : World} {lab : Nat → Nat} {b ab tb : Nat} {A : Arn} {T : Trl} {S : Wst} (h : Lw w0 w lab b ab tb A T S) (o : Obj) : Lw w0 (w.alloc o) lab b ab tb A T S := h.below (mx_al _ _)
end Go.Proofs.YtoojmhjagipmdaaGreat
namespace Go.Proofs.YtoojmhjagipmdaaGreat
open Go.RowKit

/-- what started gives -/
structure Started (cs : List (List Int)) (w0 w : World) (lab : Nat → Nat) (b ab tb : Nat) (T : Trl) (its : List RIt) (S : Wst) (fl : Bool) : Prop where
  lw : Lw w0 w lab b ab tb (addAll arn0 0 cs) T S
  st : St (clsC cs) T its S
  kn : ∀ j, (S.kn j).isSome = (clsC cs j).isSome
  now : T.now = 0
  ok : fl = false → Run cs T its S
  bad : fl = true → ∃ c ∈ cs, ∀ y ∈ c, Has its (-y)
  pz : PZ (fun _ => False) T
end Go.Proofs.YtoojmhjagipmdaaGreat
namespace Go.Proofs.YtoojmhjagipmdaaGreat
open Go.RowKit

set_option maxRecDepth 100000 in
set_option maxHeartbeats 2000000 in
theorem clone_row (A : Option Addr) (k c : Nat) (us : List Value) (w : World) (h : SrcAt w (.slice A k c) k us) (hn : A = none → k = 0 ∧ c = 0) (hl : us.length = k) (h1 : ∀ z ∈ us, z.oneCell' = true) (hk : k ≤ 1000000000) :
    Calls Tryz.prog 51 #[.slice A k c] w fun e w' => ∃ v, e = .returned v ∧ w'.ownsRow w.heap.size 34 1 v k us ∧ Below w.heap.size w w' := by
  obtain ⟨i0, hi, hz0, hz1, hz2⟩ := info_parts info_cls
  cases A with
  | none =>
    obtain ⟨rfl, rfl⟩ := hn rfl
    obtain rfl : us = [] := List.eq_nil_of_length_eq_zero hl
    have hq := fun w => Lib.run_eql_slice_nil (P := Tryz.prog) w 28 34 none 0 0 0 0 Tryz.underlying28
    clear h h1
    go_enter Tryz.func51, Tryz.ntmps51
    go_wp2
    go_ret
    exact ⟨_, rfl, World.ownsRow_nil _ _ _ _, Below.refl _ _⟩
  | some a =>
    have hq := fun w => Lib.run_eql_slice_nil (P := Tryz.prog) w 28 34 (some a) k c 0 0 Tryz.underlying28
    have hnews : ∀ j u, us[j]? = some u → (w.alloc (.cells #[] 34)).cell? (a.add j) = some u := fun j u hj => by
      rcases h with ⟨h, _⟩ | ⟨ad, c', hv, hx⟩
      · cases h
      · cases hv
        have h0 := hx j u hj
        exact ((mx_al w _).cell (World.block_lt_of_cell? w _ h0)).trans h0
    have HN := Lib.hid hnews
    have H1 := Lib.hid h1
    have h0 : (w.alloc (.cells #[] 34)).ownsRow w.heap.size 34 1 (.slice (some ⟨w.heap.size, 0, none⟩) 0 0) 0 [] := ⟨rfl, .inr ⟨w.heap.size, 0, #[], rfl, Nat.le_refl _, World.alloc_heap_new _ _, Nat.le_refl _, Nat.zero_le _, rfl, rfl⟩⟩
    have H0 := Lib.hid h0
    have HLU := Lib.hid hl
    clear hnews h0 h h1 hn hl
    go_enter Tryz.func51, Tryz.ntmps51
    go_wp2_with (at_builtin; refine wpList_append_own_at _ rfl _ _ 28 rfl w.heap.size 34 i0 (.slice none 0 0) 1 24 Tryz.underlying28 hi hz0 hz1 hz2 rfl (by decide) _ _ _ rfl H0.out a k c us rfl (by rw [HLU.out, Nat.mul_one]) HN.out H1.out (by unfold maxLen; omega) (by omega) (by simp) ?_; intro v' w1 hown hgrow hnl hat)
    go_ret
    have hB : Below w.heap.size w w1 := ((Below.refl w.heap.size w).alloc (Nat.le_refl _) (.cells #[] 34)).grown hgrow (by simp) (fun g hg => by cases hg; exact Nat.le_refl _)
    exact ⟨_, rfl, by simpa using hown, hB⟩
end Go.Proofs.YtoojmhjagipmdaaGreat
namespace Go.Proofs.YtoojmhjagipmdaaGreat
open Go.RowKit Go.Maps Go.Shelf

theorem rup_many (A : Option Addr) (n c : Nat) (w : World) : Calls Tryz.prog 171 #[.slice A n c] w fun e w' => e = .returned (.int .i64 (if 65536 < n then 5 else 0)) ∧ w = w' := by
  by_cases h : 65536 < n
  · have hd : decide ((65536 : Int) < (n : Int)) = true := by simp; omega
    rw [if_pos h]
    clear h
    go_enter Tryz.func171, Tryz.ntmps171
    go_wp2_with fail
    go_ret
    exact ⟨rfl, rfl⟩
  · have hd : decide ((65536 : Int) < (n : Int)) = false := by simp; omega
    rw [if_neg h]
    clear h
    go_enter Tryz.func171, Tryz.ntmps171
    go_wp2_with fail
    go_ret
    exact ⟨rfl, rfl⟩
/-- the first error -/
def firstE : List Int → Int
  | [] => 0
  | e :: r => if e = 0 then firstE r else e
set_option maxRecDepth 100000 in
set_option maxHeartbeats 1000000 in
theorem rup_first {O : Nat → Prop} (u : Value) (es : List Int) (w : World) (hu : IntsIn O w u es) (hlen : es.length ≤ 1000) :
    Calls Tryz.prog 169 #[u] w fun e w' => e = .returned (.int .i64 (firstE es)) ∧ w = w' := by
  have HX := Lib.hid hu
  obtain ⟨A, c, rfl, hc, _, _⟩ := hu
  obtain ⟨R, hR⟩ : ∃ z, firstE es = z := ⟨_, rfl⟩
  have HR := Lib.hid hR
  rw [hR]
  clear hR
  go_enter Tryz.func169, Tryz.ntmps169
  go_wp2_with fail
  go_loopw [7] (fun iv wr => ∃ j : Nat, j ≤ es.length ∧ iv = .int .i64 j ∧ Hid (firstE (es.drop j) = R) ∧ wr = w) (fun iv _ => es.length - (intOf iv).toNat)
  case atStart => exact ⟨0, Nat.zero_le _, rfl, HR, rfl⟩
  case round =>
    obtain ⟨j, hj, rfl, HG, rfl⟩ := hrel
    by_cases hlt : j < es.length
    · obtain ⟨x, hxk⟩ := getElem_of hlt
      obtain ⟨A', c', hAc, _, _, hxs⟩ := HX.out
      simp only [Value.slice.injEq, true_and] at hAc
      obtain ⟨rfl, rfl⟩ := hAc
      obtain ⟨g, o, rfl, hg, _, d0⟩ := hxs j x hxk
      have hgo := HG.out
      rw [List.drop_eq_getElem_cons hlt] at hgo
      rw [List.getElem?_eq_getElem hlt] at hxk
      rw [Option.some.inj hxk] at hgo
      simp only [firstE] at hgo
      clear hxk hxs
      by_cases h0 : x = 0
      · rw [if_pos h0] at hgo
        have d1 : (x != 0) = false := by simpa using h0
        have HG := Lib.hid hgo
        clear hgo h0
        go_wp2_with fail
        go_roundw
        case rel => exact ⟨j + 1, by omega, by go_num, HG, trivial⟩
        case measure => simp [intOf]; omega
      · rw [if_neg h0] at hgo
        have d1 : (x != 0) = true := by simpa using h0
        have HG := Lib.hid hgo
        clear hgo h0
        go_wp2_with fail
        go_ret
        rw [← HG.out]
        exact ⟨rfl, rfl⟩
    · obtain rfl : j = es.length := by omega
      have hgo := HG.out
      rw [List.drop_length] at hgo
      have HG := Lib.hid (show 0 = R from hgo)
      clear hgo
      go_wp2_with fail
      go_ret
      rw [← HG.out]
      exact ⟨rfl, rfl⟩
/-- what wrong returns -/
def wrongE (cs : List (List Int)) : Int := if cs.all clauseB = true then 0 else 20
set_option maxRecDepth 100000 in
set_option maxHeartbeats 2000000 in
theorem rup_wrong {O : Nat → Prop} (lv cv : Value) (mb : Nat) (cs : List (List Int)) (c : List Int) (w : World) (hl : ClsIn O w lv cs) (hm : w.cell? ⟨mb, 0, none⟩ = some cv) (hc : IntsIn O w cv c) (hn : cs.length ≤ 1000000) (hx : ∀ xs ∈ cs ++ [c], xs.length ≤ 100000000000) :
    Calls Tryz.prog 170 #[lv, .slice (some ⟨mb, 0, none⟩) 1 1] w fun e w' => e = .returned (.int .i64 (wrongE (cs ++ [c]))) ∧ Below w.heap.size w w' := by
  obtain ⟨i0, hi, hz0, hz1, hz2⟩ := info_parts info_cls
  obtain ⟨us, hul, hus, hu1, hue⟩ := hl.src
  obtain ⟨A, cc, rfl, _, hA, _⟩ := hl
  obtain ⟨k, hk⟩ : ∃ k, cs.length = k := ⟨_, rfl⟩
  rw [hk] at hus hul hn ⊢
  have hAk : A = none → k = 0 ∧ cc = 0 := fun h => by
    have h1 := hA h
    omega
  have HCL := Lib.hid (clone_row A k cc us w hus hAk hul hu1 (by omega))
  have HM := Lib.hid hm
  have hmb := World.block_lt_of_cell? w _ hm
  have HK := Lib.hid hk
  have HX := Lib.hid hx
  have hlt : ∀ (j : Nat) (xs : List Int), (cs ++ [c])[j]? = some xs → ∃ u, (us ++ [cv])[j]? = some u ∧ IntsIn (fun g => g < w.heap.size) w u xs := fun j xs hj => by
    by_cases hjl : j < cs.length
    · rw [List.getElem?_append_left hjl] at hj
      obtain ⟨u, h1, h2⟩ := hue j xs hj
      exact ⟨u, by rw [List.getElem?_append_left (by omega)]; exact h1, h2.lt.mono (fun _ h => h.2)⟩
    · have hj2 := (List.getElem?_eq_some_iff.1 hj).1
      rw [List.length_append, List.length_singleton] at hj2
      obtain rfl : j = cs.length := by omega
      rw [List.getElem?_append_right (Nat.le_refl _), Nat.sub_self, List.getElem?_cons_zero] at hj
      obtain rfl := Option.some.inj hj
      exact ⟨cv, by rw [List.getElem?_append_right (by omega), show cs.length - us.length = 0 by omega, List.getElem?_cons_zero], hc.lt.mono (fun _ h => h.2)⟩
  have HE := Lib.hid hlt
  have hcv : cv.oneCell' = true := by
    obtain ⟨_, _, h, _⟩ := hc
    rw [h]
    rfl
  have HCV := Lib.hid hcv
  have HUL := Lib.hid hul
  clear hus hul hu1 hue hA hAk hm hk hx hc hlt hcv
  obtain ⟨R, hR⟩ : ∃ z, wrongE (cs ++ [c]) = z := ⟨_, rfl⟩
  have HR := Lib.hid hR
  rw [hR]
  clear hR
  go_enter Tryz.func170, Tryz.ntmps170
  go_wp2_with fail
  refine HCL.out.mono ?_
  rintro e w1 ⟨v, rfl, hr, hb⟩
  have HR1 := Lib.hid hr
  have HB1 := Lib.hid hb
  obtain ⟨Av, c1, rfl, _⟩ := mx_slice hr
  have hm1 := (hb.cell (p := ⟨mb, 0, none⟩) hmb).trans HM.out
  have HM1 := Lib.hid hm1
  have hz := hb.size
  clear hr hb hm1
  go_wp2_with (at_builtin; refine wpList_append_own_at _ rfl _ _ 28 rfl w.heap.size 34 i0 (.slice none 0 0) 1 24 Tryz.underlying28 hi hz0 hz1 hz2 rfl (by decide) _ _ _ rfl HR1.out ⟨mb, 0, none⟩ 1 1 [cv] rfl rfl (fun j u hj => by
    match j, hj with
    | 0, hj => simp at hj; subst hj; simpa [Addr.add] using HM1.out) (fun u hu => by rw [List.mem_singleton.1 hu]; exact HCV.out) (by unfold maxLen; omega) (by omega) hz ?_; intro v' w2 hown hgrow hnl hat; obtain ⟨g2, c2, rfl⟩ := ownsRow_succ hown)
  have HB2 := Lib.hid (HB1.out.grown hgrow hz (fun g hg => (own_lt HR1.out g hg).1))
  have HR2 := Lib.hid hown
  have hcl : ∀ (j : Nat), j < k + 1 → ∃ u xs, (cs ++ [c])[j]? = some xs ∧ w2.cell? ⟨g2, j, none⟩ = some u ∧ IntsIn (fun g => g < w.heap.size) w2 u xs := fun j hj => by
    obtain ⟨xs, hxs⟩ := getElem_of (l := cs ++ [c]) (i := j) (by rw [List.length_append, List.length_singleton, HK.out]; exact hj)
    obtain ⟨u, h1, h2⟩ := HE.out j xs hxs
    exact ⟨u, xs, hxs, mx_at HR2.out h1, h2.kept (O' := fun g => w.heap.size ≤ g) ⟨HB2.out.os, HB2.out.tape, HB2.out.output, HB2.out.size, fun g _ hn => HB2.out.block g (by omega)⟩ (fun g hg h => by omega)⟩
  have HCL2 := Lib.hid hcl
  clear hown hgrow hnl hat hcl
  have HAL := Lib.hid (show (∀ j xs, j < 0 → (cs ++ [c])[j]? = some xs → clauseB xs = true) from fun j xs h => by omega)
  go_wp2_with fail
  go_loopw [12] (fun iv wr => ∃ j : Nat, j ≤ k + 1 ∧ iv = .int .i64 j ∧ Hid (∀ i xs, i < j → (cs ++ [c])[i]? = some xs → clauseB xs = true) ∧ wr = w2) (fun iv _ => k + 1 - (intOf iv).toNat)
  case atStart => exact ⟨0, Nat.zero_le _, rfl, HAL, rfl⟩
  case round =>
    obtain ⟨j, hj, rfl, HG, rfl⟩ := hrel
    by_cases hlt : j < k + 1
    · obtain ⟨u, xs, hxs, e0, hin⟩ := HCL2.out j hlt
      have HRC := right_clause u xs wr hin (by have := HX.out xs (List.mem_of_getElem? hxs); omega)
      obtain ⟨A', c', rfl, _⟩ := hin
      have HXS := Lib.hid hxs
      have hd : decide ((j : Int) < (k : Int) + 1) = true := by simp; omega
      clear hxs
      cases hcb : clauseB xs with
      | false =>
        rw [hcb] at HRC
        have HRC := Lib.hid HRC
        have HF := Lib.hid hcb
        clear hcb
        go_wp2_with fail
        refine HRC.out.mono ?_
        rintro e w' ⟨rfl, rfl⟩
        go_wp2_with fail
        go_ret
        refine ⟨?_, HB2.out⟩
        rw [← HR.out]
        unfold wrongE
        rw [if_neg (fun h => by
          have := List.all_eq_true.1 h xs (List.mem_of_getElem? HXS.out)
          rw [HF.out] at this
          cases this)]
        rfl
      | true =>
        rw [hcb] at HRC
        have HRC := Lib.hid HRC
        have HF := Lib.hid hcb
        clear hcb
        go_wp2_with fail
        refine HRC.out.mono ?_
        rintro e w' ⟨rfl, rfl⟩
        go_wp2_with fail
        go_roundw
        case rel => exact ⟨j + 1, by omega, by go_num, Lib.hid (fun i ys hi hy => by
          rcases Nat.lt_or_ge i j with h | h
          · exact HG.out i ys h hy
          · obtain rfl : i = j := by omega
            rw [HXS.out] at hy
            obtain rfl := Option.some.inj hy
            exact HF.out), trivial⟩
        case measure => simp [intOf]; omega
    · obtain rfl : j = k + 1 := by omega
      have hd : decide (((k + 1 : Nat) : Int) < (k : Int) + 1) = false := by simp
      go_wp2_with fail
      go_ret
      refine ⟨?_, HB2.out⟩
      rw [← HR.out]
      unfold wrongE
      rw [if_pos (List.all_eq_true.2 (fun ys hy => by
        obtain ⟨i, hi⟩ := List.getElem?_of_mem hy
        refine HG.out i ys ?_ hi
        have := (List.getElem?_eq_some_iff.1 hi).1
        rw [List.length_append, List.length_singleton, HK.out] at this
        exact this))]
      rfl
end Go.Proofs.YtoojmhjagipmdaaGreat
namespace Go.Proofs.YtoojmhjagipmdaaGreat
open Go.RowKit Go.Maps Go.Shelf

/-- what is assumed where a clause fails -/
def asmL (c : List Int) : List Int := sortL ((normL c).map litN)
def AsmOut (w w' : World) (c : List Int) (e : Ending) : Prop :=
  if clauseB c = true then (if alwL c = true then e = .returned (.tuple #[.slice none 0 0, .bool true, .int .i64 0]) else ∃ v, e = .returned (.tuple #[v, .bool false, .int .i64 0]) ∧ w'.ownsRow w.heap.size 32 1 v (asmL c).length ((asmL c).map (Value.int .i64)))
  else e = .returned (.tuple #[.slice none 0 0, .bool false, .int .i64 20])
set_option maxRecDepth 100000 in
set_option maxHeartbeats 2000000 in
theorem rup_assume {O : Nat → Prop} (u : Value) (c : List Int) (w : World) (hu : IntsIn O w u c) (hlen : c.length ≤ 100000000000) :
    Calls Tryz.prog 172 #[u] w fun e w' => AsmOut w w' c e ∧ Below w.heap.size w w' := by
  obtain ⟨i0, hi, hz0, hz1, hz2⟩ := info_parts cinfo_lit
  have HN := norm_any u c w hu (by omega)
  obtain ⟨A, cc, rfl, _⟩ := hu
  unfold AsmOut
  unfold NormOut at HN
  have HNL := Lib.hid (normL_len c)
  obtain ⟨q, hq⟩ : ∃ q, clauseB c = q := ⟨_, rfl⟩
  obtain ⟨al, hal⟩ : ∃ q, alwL c = q := ⟨_, rfl⟩
  rw [hq, hal] at HN
  rw [hq, hal]
  clear hq hal
  cases q with
  | false =>
    simp only [Bool.false_eq_true, if_false] at HN ⊢
    have HN := Lib.hid HN
    go_enter Tryz.func172, Tryz.ntmps172
    go_wp2_with fail
    refine HN.out.mono ?_
    rintro e w1 ⟨rfl, hb⟩
    have HB := Lib.hid hb
    clear hb
    go_wp2_with fail
    refine bodyPost_ret (res_norm rfl _ _) rfl ?_
    exact ⟨rfl, HB.out⟩
  | true =>
    simp only [if_true] at HN ⊢
    have HN := Lib.hid HN
    cases al with
    | true =>
      simp only [if_true] at HN ⊢
      go_enter Tryz.func172, Tryz.ntmps172
      go_wp2_with fail
      refine HN.out.mono ?_
      rintro e w1 ⟨⟨v, rfl, _⟩, hb⟩
      have HB := Lib.hid hb
      clear hb
      go_wp2_with fail
      refine bodyPost_ret (res_norm rfl _ _) rfl ?_
      exact ⟨rfl, HB.out⟩
    | false =>
      simp only [Bool.false_eq_true, if_false]
      obtain ⟨ys, hys⟩ : ∃ y, normL c = y := ⟨_, rfl⟩
      unfold asmL
      rw [hys] at HN HNL ⊢
      clear hys
      go_enter Tryz.func172, Tryz.ntmps172
      go_wp2_with fail
      refine HN.out.mono ?_
      rintro e w1 ⟨⟨v, rfl, hr⟩, hb⟩
      obtain ⟨Av, cv, rfl, _⟩ := mx_slice hr
      have HB := Lib.hid hb
      have HR := Lib.hid hr
      have hnl := HNL.out
      have hz := hb.size
      clear hb hr
      go_wp2_with fail
      go_loopw [8, 26] (fun ov iv wr => ∃ j : Nat, j ≤ ys.length ∧ iv = .int .i64 j ∧ Hid (wr.ownsRow w1.heap.size 32 1 ov j (((ys.take j).map litN).map (Value.int .i64))) ∧ Hid (Below w1.heap.size w1 wr)) (fun _ iv _ => ys.length - (intOf iv).toNat)
      case atStart => exact ⟨0, Nat.zero_le _, rfl, Lib.hid (World.ownsRow_nil _ _ _ _), Lib.hid (Below.refl _ _)⟩
      case round =>
        obtain ⟨j, hj, rfl, HO, HB1⟩ := hrel
        obtain ⟨Ao, co, rfl, _⟩ := mx_slice HO.out
        by_cases hlt : j < ys.length
        · obtain ⟨x, hxk⟩ := getElem_of hlt
          obtain ⟨g, c', hv, hg0, hg, e0⟩ := own_cell HR.out hxk
          simp only [Value.slice.injEq, true_and] at hv
          obtain ⟨rfl, rfl⟩ := hv
          have d1 : wr.cell? ⟨g, j, none⟩ = some (.int .i64 x) := (HB1.out.cell (p := ⟨g, j, none⟩) hg).trans e0
          have HTK := Lib.hid (show (((ys.take (j + 1)).map litN).map (Value.int .i64)) = (((ys.take j).map litN).map (Value.int .i64)) ++ [.int .i64 (litN x)] from by rw [List.take_add_one, hxk]; simp)
          have HG := Lib.hid (fun W => lit_neg x W)
          have hz1' := HB1.out.size
          clear hxk e0
          go_wp2_with fail
          refine (HG.out _).mono ?_
          rintro e w' ⟨rfl, rfl⟩
          go_wp2_with (at_builtin; refine wpList_append_own_at _ rfl _ _ 33 rfl w1.heap.size 32 i0 (.int .i64 0) 1 8 Tryz.underlying33 hi hz0 hz1 hz2 rfl (by decide) _ j _ rfl (own_below HO.out (mx_al wr _)) ⟨wr.heap.size, 0, none⟩ 1 1 [.int .i64 (litN x)] rfl rfl (fun i u hi => by
            match i, hi with
            | 0, hi => simp at hi; subst hi; simp [Addr.add]) (fun u hu => by rw [List.mem_singleton.1 hu]; rfl) (by unfold maxLen; omega) (by omega) (by simp; omega) ?_; intro v' w2 hown hgrow hnl2 hat)
          have HO2 := Lib.hid hown
          have HB2 := Lib.hid (HB1.out.trans (((mx_al wr (.cells #[.int .i64 (litN x)] 32)).mono hz1').grown hgrow (by simp; omega) (fun g hg => (own_lt HO.out g hg).1)))
          clear hown hgrow hnl2 hat
          go_wp2
          go_roundw
          case rel => exact ⟨j + 1, by omega, by go_num, Lib.hid (by rw [HTK.out]; exact HO2.out), HB2⟩
          case measure => simp [intOf]; omega
        · obtain rfl : j = ys.length := by omega
          have ho := HO.out
          rw [List.take_length] at ho
          have e : ys.length = (ys.map litN).length := (List.length_map _).symm
          rw [e] at ho
          have HS := own_sortL _ _ wr ho (by rw [← e]; omega)
          rw [← e] at HS ho
          have HO2 := Lib.hid ho
          have HS := Lib.hid HS
          clear ho e
          go_wp2_with fail
          refine HS.out.mono ?_
          rintro e w2 ⟨rfl, hr2, hk2⟩
          have HR2 := Lib.hid hr2
          have HB2 := Lib.hid (HB.out.trans ((HB1.out.trans (hk2.below (fun g hg => (own_lt HO2.out g hg).1) HB1.out.size)).mono hz))
          clear hr2 hk2
          go_wp2_with fail
          refine bodyPost_ret (res_norm rfl _ _) rfl ?_
          exact ⟨⟨_, rfl, own_mono (by simpa [sortL_length] using HR2.out) hz⟩, HB2.out⟩
end Go.Proofs.YtoojmhjagipmdaaGreat
