/- Plain: one step of what is met, and the end of it. Small laws of sorted numbers, fresh rows and lists of clauses. Plain: what is learned from a clause that fails: its literals, and the chain of its hints. package salvorlaw13: awake. package salvorlaw13: started. slices.Clone at clauses. -/
import Derived.Test.YtoojmhjagipmdaaGreatQ16
import Derived.Test.YtoojmhjagipmdaaGreatQ14
import Derived.Test.YtoojmhjagipmdaaGreatQ25
import Derived.Test.YtoojmhjagipmdaaGreatQ24
import Derived.Test.YtoojmhjagipmdaaGreatQ23
import Derived.Test.YtoojmhjagipmdaaGreatQ02
namespace Go.Proofs.YtoojmhjagipmdaaGreat
open Go.RowKit

section
variable {A : Arn} {C : Int → Option (List Int)} {T : Trl} {its : List RIt}
theorem litN_eq {l : Int} (h : litB l = true) : litN l = -l := by unfold litN; rw [if_pos h]
theorem not_contains {xs : List Int} {x : Int} (h : x ∉ xs) : xs.contains x = false := by
  cases hc : xs.contains x with
  | false => rfl
  | true => exact absurd (List.contains_iff_mem.1 hc) h
theorem desc_snoc {R : List Nat} {p : Nat} (h : R.Pairwise (· > ·)) (hp : ∀ q ∈ R, p + 1 ≤ q) : (R ++ [p]).Pairwise (· > ·) := by
  rw [List.pairwise_append]
  exact ⟨h, List.pairwise_singleton _ _, fun a ha b hb => by rw [List.mem_singleton.1 hb]; exact hp a ha⟩
theorem snoc_mem {R : List Nat} {p q : Nat} : q ∈ R ++ [p] ↔ q ∈ R ∨ q = p := by rw [List.mem_append, List.mem_singleton]
theorem goes_keep {lv op v : Int} (h : T.goes lv op v = false) : T.level v ≠ 0 ∧ (T.level v = lv → op ≤ 1) := by
  unfold Trl.goes at h
  rw [Bool.or_eq_false_iff, Bool.and_eq_false_iff] at h
  refine ⟨fun e => ?_, fun e => ?_⟩
  · have := h.1
    rw [e] at this
    cases this
  · rcases h.2 with h | h
    · rw [e, beq_self_eq_true] at h
      cases h
    · have := of_decide_eq_false h
      omega
theorem goes_go {lv op v : Int} (h : T.goes lv op v = true) : T.level v = 0 ∨ T.level v = lv ∧ 1 < op := by
  unfold Trl.goes at h
  rw [Bool.or_eq_true, Bool.and_eq_true] at h
  rcases h with h | h
  · exact .inl (eq_of_beq h)
  · exact .inr ⟨eq_of_beq h.1, of_decide_eq_true h.2⟩
theorem CfO.step {c : List Int} {lv : Int} {p : Nat} {s : CSt} {R K : List Nat} (o : CfO C T its c lv (p + 1) s R K) (hs : Sim T its) (hr : Rsn C its) (hA : ∀ j, A.get j = C j) (hd : Dcs its) {x : RIt} (hp : its[p]? = some x) :
    ∃ s' R' K', cfStep A T lv s x.lit = some s' ∧ CfO C T its c lv p s' R' K' := by
  have hxb := (hs.at_ p x hp).1
  have hlx := hs.level hp
  have hpl := (List.getElem?_eq_some_iff.1 hp).1
  have hpr : p ∉ R := fun h => by have := o.rge p h; omega
  have hpk : p ∉ K := fun h => by have := (o.kge p h).1; omega
  by_cases hm : ((litV x.lit : Nat) : Int) ∈ s.ms
  · by_cases hg : T.goes lv s.op ((litV x.lit : Nat) : Int) = true
    · -- it has to go
      have hgo := goes_go hg
      rw [hlx] at hgo
      have h0 : x.reason ≠ 0 := fun h0 => by
        obtain ⟨h1, h2⟩ := hd p x hp h0
        rcases hgo with e | ⟨e, hop⟩
        · omega
        · have hlv : lv ≠ 0 := by omega
          obtain ⟨q, y, hq, hym, hyl, hqr, hqv⟩ := o.more hs hlv [((litV x.lit : Nat) : Int)] (by simpa using hop)
          rcases Nat.lt_trichotomy q p with hlt | heq | hgt
          · have := h2 q y hlt hq
            omega
          · subst heq
            rw [hp] at hq
            obtain rfl := Option.some.inj hq
            exact hqv (List.mem_singleton.2 rfl)
          · rcases (o.all q y hgt hq).1 hym with h | h
            · exact hqr h
            · have := o.kop hlv ⟨q, h, (lvAt_eq hq).trans hyl⟩
              omega
      obtain ⟨d, hcd, hrp, hxd, hod⟩ := right_ok hs hr hA hp h0
      obtain ⟨new, m1, m2, m3, m4, m5⟩ := meet_ok (T := T) ((litV x.lit : Nat) : Int) lv d s.ms 0 o.nd
      have hnew : ∀ v ∈ new, ∃ (q : Nat) (y : RIt), q < p ∧ its[q]? = some y ∧ v = (litV y.lit : Nat) ∧ -y.lit ∈ d := fun v hv => by
        obtain ⟨hne, y, hy, e⟩ := m4 v hv
        have hyx : y ≠ x.lit := fun h => hne (by rw [e, h])
        obtain ⟨q, z, hq, hz, ez⟩ := hod y hy hyx
        have hzl := at_fal hs hz ez
        exact ⟨q, z, hq, hz, by rw [e, hzl.2.1], by rw [ez, Int.neg_neg]; exact hy⟩
      have hmono : ∀ (q : Nat) (y : RIt), q < p → its[q]? = some y → y.level ≤ x.level := fun q y hq hy => hs.mono q p y x (Nat.le_of_lt hq) hy hp
      refine ⟨_, R ++ [p], K, by unfold cfStep; rw [if_neg (by rw [List.contains_iff_mem.2 hm]; simp), if_neg (by rw [hg]; simp), hrp], ?_⟩
      have hop : ∀ h : lv ≠ 0, (if T.level (litV x.lit : Nat) = lv then s.op + (((T.meetGo ((litV x.lit : Nat) : Int) lv d s.ms 0).2 : Int) - 1) else s.op) = (((s.ms ++ new).filter fun v => decide (T.level v = lv)).length : Int) - (((R ++ [p]).filter fun q => decide (lvAt its q = lv)).length : Int) ∧ 1 ≤ (if T.level (litV x.lit : Nat) = lv then s.op + (((T.meetGo ((litV x.lit : Nat) : Int) lv d s.ms 0).2 : Int) - 1) else s.op) ∧ ((∃ q ∈ K, lvAt its q = lv) → (if T.level (litV x.lit : Nat) = lv then s.op + (((T.meetGo ((litV x.lit : Nat) : Int) lv d s.ms 0).2 : Int) - 1) else s.op) = 1) := fun h => by
        have a1 := o.op h
        have a2 := o.op1 h
        rw [List.filter_append, List.filter_append, List.length_append, List.length_append, m2, hlx, List.filter_cons, List.filter_nil, lvAt_eq hp]
        by_cases e : x.level = lv
        · have hop1 : 1 < s.op := by
            rcases hgo with e2 | e2
            · omega
            · exact e2.2
          rw [if_pos e, if_pos (decide_eq_true e)]
          simp only [List.length_cons, List.length_nil]
          refine ⟨by omega, by omega, fun hk => ?_⟩
          have := o.kop h hk
          omega
        · have hx0 : x.level = 0 := by
            rcases hgo with e2 | e2
            · exact e2
            · exact absurd e2.1 e
          have hz : (new.filter fun v => decide (T.level v = lv)) = [] := by
            rw [List.filter_eq_nil_iff]
            intro v hv
            obtain ⟨q, y, hq, hy, e3, _⟩ := hnew v hv
            rw [e3, hs.level hy, decide_eq_true_eq]
            have := hmono q y hq hy
            have := hs.pos y (List.mem_of_getElem? hy)
            omega
          rw [if_neg e, if_neg (by simpa using e), hz]
          simp only [List.length_nil]
          exact ⟨by omega, by omega, fun hk => o.kop h hk⟩
      rw [m1]
      exact {
        rdn := desc_snoc o.rdn o.rge
        kdn := o.kdn
        rge := fun q hq => by
          rcases snoc_mem.1 hq with h | h
          · have := o.rge q h
            omega
          · omega
        kge := fun q hq => by
          have := o.kge q hq
          omega
        ms := fun v hv => by
          rcases List.mem_append.1 hv with h | h
          · exact o.ms v h
          · obtain ⟨q, y, _, hy, e, _⟩ := hnew v h
            exact ⟨q, y, hy, e⟩
        nd := m3
        all := fun q y hq hy => by
          rw [snoc_mem]
          rcases Nat.eq_or_lt_of_le hq with e | hlt
          · subst e
            rw [hp] at hy
            obtain rfl := Option.some.inj hy
            exact ⟨fun _ => .inl (.inr rfl), fun _ => List.mem_append_left _ hm⟩
          · have h1 := o.all q y hlt hy
            rw [List.mem_append, h1]
            constructor
            · rintro (h | h)
              · exact h.imp_left .inl
              · obtain ⟨q2, y2, hq2, hy2, e2, _⟩ := hnew _ h
                have := hs.inj hy hy2 (by omega)
                omega
            · rintro ((h | h) | h)
              · exact .inl (.inl h)
              · omega
              · exact .inl (.inr h)
        dis := fun q hq => by
          rcases snoc_mem.1 hq with h | h
          · exact o.dis q h
          · rw [h]
            exact hpk
        src := fun q y hy hv => by
          rcases List.mem_append.1 hv with h | h
          · refine (o.src q y hy h).imp_right ?_
            rintro ⟨r, z, d2, a1, a2, a3⟩
            exact ⟨r, z, d2, a1, snoc_mem.2 (.inl a2), a3⟩
          · obtain ⟨q2, y2, hq2, hy2, e2, hd2⟩ := hnew _ h
            have e3 := hs.inj hy hy2 (by omega)
            subst e3
            rw [hy] at hy2
            obtain rfl := Option.some.inj hy2
            exact .inr ⟨p, x, d, hq2, snoc_mem.2 (.inr rfl), hp, hcd, hd2⟩
        cov := fun y hy => List.mem_append_left _ (o.cov y hy)
        covR := fun r hr2 => by
          rcases snoc_mem.1 hr2 with h | h
          · obtain ⟨z, d2, a1, a2, a3, a4, a5⟩ := o.covR r h
            exact ⟨z, d2, a1, a2, a3, a4, fun y hy hne => ⟨(a5 y hy hne).1, List.mem_append_left _ (a5 y hy hne).2⟩⟩
          · subst h
            refine ⟨x, d, hp, hcd, hxd, h0, fun y hy hne => ⟨hod y hy hne, m5 y hy fun e => hne ?_⟩⟩
            obtain ⟨q, z, hq, hz, ez⟩ := hod y hy hne
            have hzl := at_fal hs hz ez
            have := hs.inj hz hp (by rw [hzl.2.1]; omega)
            omega
        hints := by rw [List.map_append, ← o.hints, List.map_cons, List.map_nil, rsAt_eq hp]
        lits := o.lits
        met := fun q hq => by
          show _ ∈ (if 0 < T.level (litV x.lit : Nat) then s.met ++ [((litV x.lit : Nat) : Int)] else s.met)
          split
          · exact List.mem_append_left _ (o.met q hq)
          · exact o.met q hq
        lvl := fun q y hy hv => by
          rcases List.mem_append.1 hv with h | h
          · exact o.lvl q y hy h
          · obtain ⟨q2, y2, hq2, hy2, e2, _⟩ := hnew _ h
            have e3 := hs.inj hy hy2 (by omega)
            subst e3
            have := hmono q y hq2 hy
            have := o.lvl p x hp hm
            omega
        klv := o.klv
        op := fun h => (hop h).1
        op1 := fun h => (hop h).2.1
        kop := fun h => (hop h).2.2 }
    · -- it stays
      rw [Bool.not_eq_true] at hg
      have hk := goes_keep hg
      rw [hlx] at hk
      have hpos := (hs.pos x (List.mem_of_getElem? hp)).1
      refine ⟨_, R, K ++ [p], by unfold cfStep; rw [if_neg (by rw [List.contains_iff_mem.2 hm]; simp), if_pos hg], ?_⟩
      exact {
        rdn := o.rdn
        kdn := desc_snoc o.kdn fun q hq => (o.kge q hq).1
        rge := fun q hq => by
          have := o.rge q hq
          omega
        kge := fun q hq => by
          rcases snoc_mem.1 hq with h | h
          · have := o.kge q h
            omega
          · omega
        ms := o.ms
        nd := o.nd
        all := fun q y hq hy => by
          rw [snoc_mem]
          rcases Nat.eq_or_lt_of_le hq with e | hlt
          · subst e
            rw [hp] at hy
            obtain rfl := Option.some.inj hy
            exact ⟨fun _ => .inr (.inr rfl), fun _ => hm⟩
          · rw [o.all q y hlt hy]
            constructor
            · exact fun h => h.imp_right .inl
            · rintro (h | h | h)
              · exact .inl h
              · exact .inr h
              · omega
        dis := fun q hq h => by
          rcases snoc_mem.1 h with h | h
          · exact o.dis q hq h
          · exact hpr (h ▸ hq)
        src := o.src
        cov := o.cov
        covR := o.covR
        hints := o.hints
        lits := by rw [List.map_append, ← o.lits, List.map_cons, List.map_nil, litAt_eq hp, litN_eq hxb]
        met := fun q hq => by
          show _ ∈ (if 0 < T.level (litV x.lit : Nat) then s.met ++ [((litV x.lit : Nat) : Int)] else s.met)
          rw [hlx, if_pos (by omega), List.mem_append]
          rcases snoc_mem.1 hq with h | h
          · exact .inl (o.met q h)
          · rw [h, litAt_eq hp]
            exact .inr (List.mem_singleton.2 rfl)
        lvl := o.lvl
        klv := fun q hq => by
          rcases snoc_mem.1 hq with h | h
          · exact o.klv q h
          · rw [h, lvAt_eq hp]
            omega
        op := o.op
        op1 := o.op1
        kop := fun h hq => by
          obtain ⟨q, hq, e⟩ := hq
          rcases snoc_mem.1 hq with h2 | h2
          · exact o.kop h ⟨q, h2, e⟩
          · rw [h2, lvAt_eq hp] at e
            have := hk.2 e
            have := o.op1 h
            show s.op = 1
            omega }
  · refine ⟨s, R, K, by unfold cfStep; rw [if_pos (not_contains hm)], ?_⟩
    exact {
      rdn := o.rdn
      kdn := o.kdn
      rge := fun q hq => by
        have := o.rge q hq
        omega
      kge := fun q hq => by
        have := o.kge q hq
        omega
      ms := o.ms
      nd := o.nd
      all := fun q y hq hy => by
        rcases Nat.eq_or_lt_of_le hq with e | hlt
        · subst e
          rw [hp] at hy
          obtain rfl := Option.some.inj hy
          exact ⟨fun h => absurd h hm, fun h => h.elim (fun h => absurd h hpr) (fun h => absurd h hpk)⟩
        · exact o.all q y hlt hy
      dis := o.dis
      src := o.src
      cov := o.cov
      covR := o.covR
      hints := o.hints
      lits := o.lits
      met := o.met
      lvl := o.lvl
      klv := o.klv
      op := o.op
      op1 := o.op1
      kop := o.kop }
/-- the whole run -/
theorem CfO.run {c : List Int} {lv : Int} (hs : Sim T its) (hr : Rsn C its) (hA : ∀ j, A.get j = C j) (hd : Dcs its) : ∀ (p : Nat) (s : CSt) (R K : List Nat), p ≤ its.length → CfO C T its c lv p s R K → ∃ s' R' K', cfRun A T lv s ((its.take p).reverse.map RIt.lit) = some s' ∧ CfO C T its c lv 0 s' R' K' := by
  intro p
  induction p with
  | zero =>
    intro s R K _ o
    exact ⟨s, R, K, rfl, o⟩
  | succ p ih =>
    intro s R K hp o
    obtain ⟨x, hx⟩ := getElem_of (show p < its.length by omega)
    obtain ⟨s1, R1, K1, h1, o1⟩ := o.step hs hr hA hd hx
    obtain ⟨s', R', K', h2, o2⟩ := ih s1 R1 K1 (by omega) o1
    refine ⟨s', R', K', ?_, o2⟩
    rw [List.take_add_one, hx, Option.toList_some, List.reverse_append, List.reverse_cons, List.reverse_nil, List.nil_append, List.singleton_append, List.map_cons]
    unfold cfRun
    rw [h1]
    exact h2
end
end Go.Proofs.YtoojmhjagipmdaaGreat
namespace Go.Proofs.YtoojmhjagipmdaaGreat
open Go.RowKit

theorem sortI_eq {xs ys : List Int} (hp : xs.Perm ys) (hs : ys.Pairwise (· ≤ ·)) : sortI xs = ys := by
  refine List.Perm.eq_of_pairwise (le := fun a b => a ≤ b) (fun a b _ _ h1 h2 => by omega) ?_ hs ((List.mergeSort_perm _ _).trans hp)
  have := List.pairwise_mergeSort (le := fun x y : Int => decide (x ≤ y)) (fun a b c h1 h2 => by simp at *; omega) (fun a b => by simp; omega) xs
  exact this.imp (fun h => by simpa using h)
theorem mx_ints (W : World) (xs : List Int) (t : TypeId) : IntsIn (fun g => g = W.heap.size) (W.alloc (.cells (xs.map (Value.int .i64)).toArray t)) (.slice (some ⟨W.heap.size, 0, none⟩) xs.length xs.length) xs :=
  ⟨some ⟨W.heap.size, 0, none⟩, xs.length, rfl, Nat.le_refl _, (fun h => by cases h), fun i x hi => ⟨W.heap.size, 0, rfl, by simp, rfl, by
    rw [cell_new, Nat.zero_add]
    simp [hi]⟩⟩
theorem cls_new (W : World) (us : List Value) (cs : List (List Int)) (t : TypeId) (h : ∀ (i : Nat) (xs : List Int), cs[i]? = some xs → ∃ u, us[i]? = some u ∧ IntsIn (fun g => g < W.heap.size) W u xs) : ClsAt (W.alloc (.cells us.toArray t)) (.slice (some ⟨W.heap.size, 0, none⟩) cs.length cs.length) cs := by
  refine ⟨_, cs.length, rfl, fun i xs hi => ?_⟩
  obtain ⟨u, hu, hx⟩ := h i xs hi
  have hb := mx_al W (.cells us.toArray t)
  refine ⟨W.heap.size, 0, u, rfl, by simp, ?_, (hx.below hb).mono (fun g hg => by simp; omega)⟩
  rw [cell_new, Nat.zero_add]
  simpa using hu
theorem sortI_sorted (xs : List Int) : (sortI xs).Pairwise (· ≤ ·) := by
  have := List.pairwise_mergeSort (le := fun x y : Int => decide (x ≤ y)) (fun a b c h1 h2 => by simp at *; omega) (fun a b => by simp; omega) xs
  exact this.imp (fun h => by simpa using h)
theorem sortI_mem (xs : List Int) (x : Int) : x ∈ sortI xs ↔ x ∈ xs := (List.mergeSort_perm xs _).mem_iff
end Go.Proofs.YtoojmhjagipmdaaGreat
namespace Go.Proofs.YtoojmhjagipmdaaGreat
open Go.RowKit

/-- hints that lead from the negations of L to a clause c that fails: the reasons of the places R, in their order -/
structure Chain (C : Int → Option (List Int)) (its : List RIt) (L c : List Int) (R : List Nat) : Prop where
  up : R.Pairwise (· < ·)
  rs : ∀ r ∈ R, ∃ (z : RIt) (d : List Int), its[r]? = some z ∧ C z.reason = some d ∧ z.lit ∈ d ∧ ∀ y ∈ d, y ≠ z.lit → ∃ (q : Nat) (x : RIt), q < r ∧ its[q]? = some x ∧ x.lit = -y ∧ (q ∈ R ∨ y ∈ L)
  cl : ∀ y ∈ c, ∃ (q : Nat) (x : RIt), its[q]? = some x ∧ x.lit = -y ∧ (q ∈ R ∨ y ∈ L)
  dis : ∀ r ∈ R, -(litAt its r) ∉ L
  need : ∀ r ∈ R, -(litAt its r) ∈ c ∨ ∃ (r' : Nat) (z : RIt) (d : List Int), r < r' ∧ r' ∈ R ∧ its[r']? = some z ∧ C z.reason = some d ∧ -(litAt its r) ∈ d
  fal : ∀ y ∈ L, Has its (-y)
/-- what is learned -/
structure ConfO (C : Int → Option (List Int)) (T : Trl) (its : List RIt) (id : Int) (c : List Int) (lv : Int) (x : Lrn) (R K : List Nat) : Prop where
  max : T.failMax c 0 = some lv
  lv0 : 0 ≤ lv
  chain : Chain C its x.lits c R
  hints : x.hints = R.map (rsAt its) ++ [id]
  lits : x.lits = K.map fun q => -(litAt its q)
  kdn : K.Pairwise (· > ·)
  kin : ∀ q ∈ K, q < its.length ∧ 0 < lvAt its q ∧ ((litV (litAt its q) : Nat) : Int) ∈ x.met
  one : lv ≠ 0 → ∃ k K', K = k :: K' ∧ lvAt its k = lv ∧ ∀ q ∈ K', lvAt its q < lv
  none : lv = 0 → K = []
  back : x.back = T.backOf x.lits
  levels : x.levels = T.levelsOf x.lits
section
variable {A : Arn} {C : Int → Option (List Int)} {T : Trl} {its : List RIt}
theorem failMax_has (h : Sim T its) : ∀ {c : List Int} {m : Int}, (∀ y ∈ c, Has its (-y)) → ∃ lv, T.failMax c m = some lv ∧ m ≤ lv ∧ (∀ (q : Nat) (x : RIt), its[q]? = some x → -x.lit ∈ c → x.level ≤ lv) ∧ (lv = m ∨ ∃ (q : Nat) (x : RIt), its[q]? = some x ∧ -x.lit ∈ c ∧ x.level = lv) := by
  intro c
  induction c with
  | nil =>
    intro m _
    refine ⟨m, rfl, Int.le_refl _, ?_, .inl rfl⟩
    intro _ _ _ hc
    cases hc
  | cons l c ih =>
    intro m hc
    obtain ⟨q, x, hq, e⟩ := hc l List.mem_cons_self
    obtain ⟨a1, a2, a3, a4, a5⟩ := at_fal h hq e
    obtain ⟨lv, h1, h2, h3, h4⟩ := ih (m := max m (T.level (litV l : Nat))) fun y hy => hc y (List.mem_cons_of_mem _ hy)
    refine ⟨lv, by unfold Trl.failMax; rw [if_neg (by omega)]; exact h1, by omega, fun p z hp hm => ?_, ?_⟩
    · rcases List.mem_cons.1 hm with hm | hm
      · have := h.inj hp hq (by rw [a2, ← hm, litV_negate])
        subst this
        rw [hp] at hq
        obtain rfl := Option.some.inj hq
        omega
      · exact h3 p z hp hm
    · rcases h4 with h4 | ⟨p, z, b1, b2, b3⟩
      · by_cases hm : m < T.level (litV l : Nat)
        · exact .inr ⟨q, x, hq, by rw [e, Int.neg_neg]; exact List.mem_cons_self, by omega⟩
        · exact .inl (by omega)
      · exact .inr ⟨p, z, b1, List.mem_cons_of_mem _ b2, b3⟩
/-- the beginning of the run -/
theorem cfo_begin (hs : Sim T its) {c : List Int} {lv : Int} (hc : ∀ y ∈ c, Has its (-y)) (hm : T.failMax c 0 = some lv) : CfO C T its c lv its.length ⟨(T.meetGo 0 lv c [] 0).1, ((T.meetGo 0 lv c [] 0).2 : Nat), [], [], []⟩ [] [] := by
  obtain ⟨lv', h1, h2, h3, h4⟩ := failMax_has hs (m := 0) hc
  rw [hm] at h1
  obtain rfl := Option.some.inj h1
  obtain ⟨new, m1, m2, m3, m4, m5⟩ := meet_ok (T := T) 0 lv c [] 0 List.nodup_nil
  rw [List.nil_append] at m1 m3 m5
  have hin : ∀ v ∈ new, ∃ (q : Nat) (x : RIt), its[q]? = some x ∧ v = (litV x.lit : Nat) ∧ -x.lit ∈ c := fun v hv => by
    obtain ⟨_, y, hy, e⟩ := m4 v hv
    obtain ⟨q, x, hq, ex⟩ := hc y hy
    exact ⟨q, x, hq, by rw [e, (at_fal hs hq ex).2.1], by rw [ex, Int.neg_neg]; exact hy⟩
  have hcov : ∀ y ∈ c, ((litV y : Nat) : Int) ∈ new := fun y hy => m5 y hy (by
    obtain ⟨q, x, hq, ex⟩ := hc y hy
    have := (litV_pos (at_fal hs hq ex).1).1
    omega)
  have hsrc : ∀ (q : Nat) (x : RIt), its[q]? = some x → ((litV x.lit : Nat) : Int) ∈ new → -x.lit ∈ c := fun q x hq hv => by
    obtain ⟨q2, x2, hq2, e, hx2⟩ := hin _ hv
    have := hs.inj hq hq2 (by omega)
    subst this
    rw [hq] at hq2
    obtain rfl := Option.some.inj hq2
    exact hx2
  rw [m1, m2]
  exact {
    rdn := List.Pairwise.nil
    kdn := List.Pairwise.nil
    rge := fun q hq => by cases hq
    kge := fun q hq => by cases hq
    ms := fun v hv => by
      obtain ⟨q, x, hq, e, _⟩ := hin v hv
      exact ⟨q, x, hq, e⟩
    nd := m3
    all := fun q x hq hx => by
      have := (List.getElem?_eq_some_iff.1 hx).1
      omega
    dis := fun q hq => by cases hq
    src := fun q x hq hv => .inl (hsrc q x hq hv)
    cov := hcov
    covR := fun r hr => by cases hr
    hints := rfl
    lits := rfl
    met := fun q hq => by cases hq
    lvl := fun q x hq hv => h3 q x hq (hsrc q x hq hv)
    klv := fun q hq => by cases hq
    op := fun _ => by
      simp only [List.filter_nil, List.length_nil]
      omega
    op1 := fun h => by
      rcases h4 with h4 | ⟨q, x, hq, hx, e⟩
      · exact absurd h4 h
      · have hv := hcov _ hx
        rw [litV_negate] at hv
        have : ((litV x.lit : Nat) : Int) ∈ new.filter fun v => decide (T.level v = lv) := List.mem_filter.2 ⟨hv, decide_eq_true ((hs.level hq).trans e)⟩
        have := List.length_pos_of_mem this
        show (1 : Int) ≤ ((0 + (new.filter fun v => decide (T.level v = lv)).length : Nat) : Int)
        omega
    kop := fun _ ⟨q, hq, _⟩ => by cases hq }
/-- the end of the run: the chain -/
theorem CfO.chain {c : List Int} {lv : Int} {s : CSt} {R K : List Nat} (o : CfO C T its c lv 0 s R K) (hs : Sim T its) (hc : ∀ y ∈ c, Has its (-y)) : Chain C its s.lits c R.reverse := by
  have hK : ∀ (q : Nat) (x : RIt) (y : Int), its[q]? = some x → x.lit = -y → ((litV y : Nat) : Int) ∈ s.ms → q ∈ R.reverse ∨ y ∈ s.lits := fun q x y hq e hv => by
    rw [List.mem_reverse]
    refine ((o.all q x (Nat.zero_le _) hq).1 (by rw [(at_fal hs hq e).2.1]; exact hv)).imp_right fun hk => ?_
    rw [o.lits, List.mem_map]
    exact ⟨q, hk, by rw [litAt_eq hq, e, Int.neg_neg]⟩
  exact {
    up := by
      rw [List.pairwise_reverse]
      exact o.rdn
    rs := fun r hr => by
      rw [List.mem_reverse] at hr
      obtain ⟨z, d, a1, a2, a3, _, a5⟩ := o.covR r hr
      refine ⟨z, d, a1, a2, a3, fun y hy hne => ?_⟩
      obtain ⟨⟨q, x, hq, hx, e⟩, hv⟩ := a5 y hy hne
      exact ⟨q, x, hq, hx, e, hK q x y hx e hv⟩
    cl := fun y hy => by
      obtain ⟨q, x, hq, e⟩ := hc y hy
      exact ⟨q, x, hq, e, hK q x y hq e (o.cov y hy)⟩
    dis := fun r hr hm => by
      rw [List.mem_reverse] at hr
      obtain ⟨z, d, a1, _⟩ := o.covR r hr
      rw [o.lits, List.mem_map] at hm
      obtain ⟨q, hq, e⟩ := hm
      obtain ⟨x, hx⟩ := getElem_of (o.kge q hq).2
      rw [litAt_eq hx, litAt_eq a1] at e
      have := hs.inj hx a1 (by rw [show x.lit = z.lit by omega])
      subst this
      exact o.dis q hr hq
    need := fun r hr => by
      rw [List.mem_reverse] at hr
      obtain ⟨z, d, a1, _⟩ := o.covR r hr
      rw [litAt_eq a1]
      refine (o.src r z a1 ((o.all r z (Nat.zero_le _) a1).2 (.inl hr))).imp_right ?_
      rintro ⟨r', z', d', b1, b2, b3⟩
      exact ⟨r', z', d', b1, List.mem_reverse.2 b2, b3⟩
    fal := fun y hy => by
      rw [o.lits, List.mem_map] at hy
      obtain ⟨q, hq, e⟩ := hy
      obtain ⟨x, hx⟩ := getElem_of (o.kge q hq).2
      exact ⟨q, x, hx, by rw [← e, litAt_eq hx, Int.neg_neg]⟩ }
/-- Conflict: what it returns -/
theorem conf_law (hs : Sim T its) (hr : Rsn C its) (hA : ∀ j, A.get j = C j) (hd : Dcs its) {id : Int} {c : List Int} (hcc : C id = some c) (hc : ∀ y ∈ c, Has its (-y)) : ∃ x lv R K, confP A T id = (x, 0) ∧ ConfO C T its id c lv x R K := by
  obtain ⟨lv, hm, h0, hmax, _⟩ := failMax_has hs (m := 0) hc
  obtain ⟨s, R, K, hrun, o⟩ := CfO.run (A := A) (lv := lv) hs hr hA hd its.length _ [] [] (Nat.le_refl _) (cfo_begin (C := C) hs hc hm)
  have hend : cfEnd A T lv c = some s := by
    unfold cfEnd
    rw [hs.order, ← List.map_reverse]
    rw [List.take_length] at hrun
    exact hrun
  refine ⟨⟨s.lits, T.backOf s.lits, T.levelsOf s.lits, s.hints.reverse ++ [id], sortI s.met⟩, lv, R.reverse, K, by unfold confP; rw [(hA id).trans hcc]; simp only [hm, hend], hm, h0, o.chain hs hc, by rw [o.hints, List.map_reverse], o.lits, o.kdn, fun q hq => ⟨(o.kge q hq).2, o.klv q hq, (sortI_mem _ _).2 (o.met q hq)⟩, fun hl => ?_, fun hl => ?_, rfl, rfl⟩
  · obtain ⟨q, x, hq, hv, hxl, hqr, _⟩ := o.more hs hl [] (by have := o.op1 hl; simp only [List.length_nil]; omega)
    have hqk : q ∈ K := ((o.all q x (Nat.zero_le _) hq).1 hv).resolve_left hqr
    have hop := o.kop hl ⟨q, hqk, (lvAt_eq hq).trans hxl⟩
    have huniq : ∀ q' ∈ K, lvAt its q' = lv → q' = q := fun q' hq' e => Classical.byContradiction fun hne => by
      have ho := o.op hl
      obtain ⟨x', hx'⟩ := getElem_of (o.kge q' hq').2
      rw [lvAt_eq hx'] at e
      have hv' := (o.all q' x' (Nat.zero_le _) hx').2 (.inr hq')
      have hsub : (((R.filter fun q => decide (lvAt its q = lv)).map fun q => ((litV (litAt its q) : Nat) : Int)) ++ [((litV x.lit : Nat) : Int), ((litV x'.lit : Nat) : Int)]).length ≤ (s.ms.filter fun v => decide (T.level v = lv)).length := by
        refine List.Nodup.length_le_of_subset ?_ ?_
        · rw [List.nodup_append]
          have hRin : ∀ r ∈ R, ∃ z, its[r]? = some z := fun r hr => by
            obtain ⟨z, d, a1, _⟩ := o.covR r hr
            exact ⟨z, a1⟩
          refine ⟨?_, ?_, ?_⟩
          · have hn : (R.filter fun q => decide (lvAt its q = lv)).Nodup := (o.rdn.imp (fun h e => by omega)).filter _
            unfold List.Nodup
            rw [List.pairwise_map]
            refine hn.imp_of_mem ?_
            intro a b ha hb hne e
            obtain ⟨za, hza⟩ := hRin a (List.mem_filter.1 ha).1
            obtain ⟨zb, hzb⟩ := hRin b (List.mem_filter.1 hb).1
            rw [litAt_eq hza, litAt_eq hzb] at e
            exact hne (hs.inj hza hzb (by omega))
          · rw [List.nodup_cons]
            refine ⟨fun h => hne ?_, by simp⟩
            rw [List.mem_singleton] at h
            exact hs.inj hx' hq (by omega)
          · intro a ha b hb e
            rw [List.mem_map] at ha
            obtain ⟨r, hr, e2⟩ := ha
            have hr := (List.mem_filter.1 hr).1
            obtain ⟨zr, hzr⟩ := hRin r hr
            rw [litAt_eq hzr] at e2
            rcases List.mem_cons.1 hb with e3 | hb
            · have := hs.inj hzr hq (by omega)
              exact hqr (this ▸ hr)
            · have e3 := List.mem_singleton.1 hb
              have := hs.inj hzr hx' (by omega)
              exact o.dis r hr (this ▸ hq')
        · intro v hv2
          rcases List.mem_append.1 hv2 with h | h
          · rw [List.mem_map] at h
            obtain ⟨r, hr, e2⟩ := h
            obtain ⟨hr, hrl⟩ := List.mem_filter.1 hr
            have hrl := of_decide_eq_true hrl
            obtain ⟨z, d, a1, _⟩ := o.covR r hr
            rw [litAt_eq a1] at e2
            rw [lvAt_eq a1] at hrl
            rw [← e2]
            exact List.mem_filter.2 ⟨(o.all r z (Nat.zero_le _) a1).2 (.inl hr), decide_eq_true ((hs.level a1).trans hrl)⟩
          · rcases List.mem_cons.1 h with h | h
            · rw [h]
              exact List.mem_filter.2 ⟨hv, decide_eq_true ((hs.level hq).trans hxl)⟩
            · rw [List.mem_singleton.1 h]
              exact List.mem_filter.2 ⟨hv', decide_eq_true ((hs.level hx').trans e)⟩
      rw [List.length_append, List.length_map] at hsub
      simp only [List.length_cons, List.length_nil] at hsub
      omega
    have hle : ∀ q' ∈ K, lvAt its q' ≤ lv := fun q' hq' => by
      obtain ⟨x', hx'⟩ := getElem_of (o.kge q' hq').2
      rw [lvAt_eq hx']
      exact o.lvl q' x' hx' ((o.all q' x' (Nat.zero_le _) hx').2 (.inr hq'))
    cases hK : K with
    | nil => rw [hK] at hqk; cases hqk
    | cons k K' =>
      rw [hK] at hqk hle huniq
      have hkd := o.kdn
      rw [hK, List.pairwise_cons] at hkd
      have hkq : k = q := by
        rcases List.mem_cons.1 hqk with e | hm2
        · exact e.symm
        · have hgt := hkd.1 q hm2
          obtain ⟨xk, hxk⟩ := getElem_of (o.kge k (by rw [hK]; exact List.mem_cons_self)).2
          have h1 := hs.mono q k x xk (Nat.le_of_lt hgt) hq hxk
          have h2 := hle k List.mem_cons_self
          rw [lvAt_eq hxk] at h2
          exact huniq k List.mem_cons_self (by rw [lvAt_eq hxk]; omega)
      refine ⟨k, K', rfl, by rw [hkq, lvAt_eq hq, hxl], fun q' hq' => ?_⟩
      have h1 := hle q' (List.mem_cons_of_mem _ hq')
      have h2 := huniq q' (List.mem_cons_of_mem _ hq')
      have h3 := hkd.1 q' hq'
      omega
  · cases hK : K with
    | nil => rfl
    | cons k K' =>
      have hk : k ∈ K := by rw [hK]; exact List.mem_cons_self
      obtain ⟨x, hx⟩ := getElem_of (o.kge k hk).2
      have h1 := o.lvl k x hx ((o.all k x (Nat.zero_le _) hx).2 (.inr hk))
      have h2 := o.klv k hk
      rw [lvAt_eq hx] at h2
      omega
end
end Go.Proofs.YtoojmhjagipmdaaGreat
namespace Go.Proofs.YtoojmhjagipmdaaGreat
open Go.RowKit

/-- a fresh row -/
theorem Lw.ints {w0 w w' : World} {lab : Nat → Nat} {b ab tb : Nat} {A : Arn} {T : Trl} {S : Wst} (h : Lw w0 w lab b ab tb A T S) {e : TypeId} {v : Value} {xs : List Int} (hr : w'.ownsRow w.heap.size e 1 v xs.length (xs.map (Value.int .i64))) : IntsIn (Fr w' lab) w' v xs := own_fr h.sys.lt hr
theorem Lw.al {w0 w : World} {lab : Nat → Nat} {b ab tb : Nat} {A : Arn} {T : Trl} {S : Wst} (h : Lw w0 w lab b ab tb A T S) (o : Obj) : Lw w0 (w.alloc o) lab b ab tb A T S := h.below (mx_al _ _)
end Go.Proofs.YtoojmhjagipmdaaGreat
namespace Go.Proofs.YtoojmhjagipmdaaGreat
open Go.RowKit

/-- what started gives -/
structure Started (cs : List (List Int)) (w0 w : World) (lab : Nat → Nat) (b ab tb : Nat) (T : Trl) (its : List RIt) (S : Wst) (fl : Bool) : Prop where
  lw : Lw w0 w lab b ab tb (addAll arn0 0 cs) T S
  st : St (clsC cs) T its S
  kn : ∀ j, (S.kn j).isSome = (clsC cs j).isSome
  now : T.now = 0
  ok : fl = false → Run cs T its S
  bad : fl = true → ∃ c ∈ cs, ∀ y ∈ c, Has its (-y)
  pz : PZ (fun _ => False) T
end Go.Proofs.YtoojmhjagipmdaaGreat
namespace Go.Proofs.YtoojmhjagipmdaaGreat
open Go.RowKit

set_option maxRecDepth 100000 in
set_option maxHeartbeats 2000000 in
theorem clone_row (A : Option Addr) (k c : Nat) (us : List Value) (w : World) (h : SrcAt w (.slice A k c) k us) (hn : A = none → k = 0 ∧ c = 0) (hl : us.length = k) (h1 : ∀ z ∈ us, z.oneCell' = true) (hk : k ≤ 1000000000) :
    Calls Tryz.prog 51 #[.slice A k c] w fun e w' => ∃ v, e = .returned v ∧ w'.ownsRow w.heap.size 34 1 v k us ∧ Below w.heap.size w w' := by
  obtain ⟨i0, hi, hz0, hz1, hz2⟩ := info_parts info_cls
  cases A with
  | none =>
    obtain ⟨rfl, rfl⟩ := hn rfl
    obtain rfl : us = [] := List.eq_nil_of_length_eq_zero hl
    have hq := fun w => Lib.run_eql_slice_nil (P := Tryz.prog) w 28 34 none 0 0 0 0 Tryz.underlying28
    clear h h1
    go_enter Tryz.func51, Tryz.ntmps51
    go_wp2
    go_ret
    exact ⟨_, rfl, World.ownsRow_nil _ _ _ _, Below.refl _ _⟩
  | some a =>
    have hq := fun w => Lib.run_eql_slice_nil (P := Tryz.prog) w 28 34 (some a) k c 0 0 Tryz.underlying28
    have hnews : ∀ j u, us[j]? = some u → (w.alloc (.cells #[] 34)).cell? (a.add j) = some u := fun j u hj => by
      rcases h with ⟨h, _⟩ | ⟨ad, c', hv, hx⟩
      · cases h
      · cases hv
        have h0 := hx j u hj
        exact ((mx_al w _).cell (World.block_lt_of_cell? w _ h0)).trans h0
    have HN := Lib.hid hnews
    have H1 := Lib.hid h1
    have h0 : (w.alloc (.cells #[] 34)).ownsRow w.heap.size 34 1 (.slice (some ⟨w.heap.size, 0, none⟩) 0 0) 0 [] := ⟨rfl, .inr ⟨w.heap.size, 0, #[], rfl, Nat.le_refl _, World.alloc_heap_new _ _, Nat.le_refl _, Nat.zero_le _, rfl, rfl⟩⟩
    have H0 := Lib.hid h0
    have HLU := Lib.hid hl
    clear hnews h0 h h1 hn hl
    go_enter Tryz.func51, Tryz.ntmps51
    go_wp2_with (at_builtin; refine wpList_append_own_at _ rfl _ _ 28 rfl w.heap.size 34 i0 (.slice none 0 0) 1 24 Tryz.underlying28 hi hz0 hz1 hz2 rfl (by decide) _ _ _ rfl H0.out a k c us rfl (by rw [HLU.out, Nat.mul_one]) HN.out H1.out (by unfold maxLen; omega) (by omega) (by simp) ?_; intro v' w1 hown hgrow hnl hat)
    go_ret
    have hB : Below w.heap.size w w1 := ((Below.refl w.heap.size w).alloc (Nat.le_refl _) (.cells #[] 34)).grown hgrow (by simp) (fun g hg => by cases hg; exact Nat.le_refl _)
    exact ⟨_, rfl, by simpa using hown, hB⟩
end Go.Proofs.YtoojmhjagipmdaaGreat
