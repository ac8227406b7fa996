/- The law's comparison of chapter 15 (tells) answers yes. -/
import Derived.Test.YtiodfolcnnkdjaaGreatUf
import Derived.Test.YtiodfolcnnkdjaaGreatUg
import Derived.Test.YtiodfolcnnkdjaaGreatQl
import Derived.Test.YtiodfolcnnkdjaaGreatDs
namespace Go.Proofs.YtiodfolcnnkdjaaGreat
open Go.RowKit

theorem eq_same {O O' : Nat → Prop} (u v : Value) (xs : List Int) (w : World) (h1 : IntsIn O w u xs) (h2 : IntsIn O' w v xs) (hs : xs.length ≤ 140737488355328) :
  Calls Tryz.prog 20 #[u, v] w fun e w' => e = .returned (.bool true) ∧ Below w.heap.size w w' := by
 refine (eq_i u v xs xs w h1 h2 hs).mono ?_
 rintro e w' ⟨rfl, n, rfl⟩
 exact ⟨by simp, mx_drewN w n⟩
theorem eqc_same {O O' : Nat → Prop} (u v : Value) (xs : List Int) (w : World) (h1 : IntsIn O w u xs) (h2 : IntsIn O' w v xs) (hs : xs.length ≤ 140737488355328) :
  Calls Tryz.prog 19 #[u, v] w fun e w' => e = .returned (.bool true) ∧ Below w.heap.size w w' := by
 refine (eq_c u v xs xs w h1 h2 hs).mono ?_
 rintro e w' ⟨rfl, n, rfl⟩
 exact ⟨by simp, mx_drewN w n⟩
/-- what the reference's Conflict of layer 14 returns is what the code's returns -/
theorem ref_conf14 {A : Arn} {T : Trl} {ra : RAr} {t : RTr} (hs : Sim T t.items) (ha : ASim A ra.all) (hao : ra.Ok) (hto : t.Ok) (hN : t.items.length ≤ 100) (id : Int) : ∀ W av tv, RAAt W av ra → RTAt W tv t → Calls Tryz.prog 64 #[av, tv, .int .i64 id] W fun e w' => (∃ Ax cx Ay cy Az cz, e = .returned (.tuple #[.agg #[.slice Ax (confP A T id).1.lits.length cx, .int .i64 (confP A T id).1.back, .int .i64 (confP A T id).1.levels, .slice Ay (confP A T id).1.hints.length cy, .slice Az (confP A T id).1.met.length cz], .int .i64 ((confP A T id).2 : Nat)]) ∧ IntsIn (fun _ => True) w' (.slice Ax (confP A T id).1.lits.length cx) (confP A T id).1.lits ∧ IntsIn (fun _ => True) w' (.slice Az (confP A T id).1.met.length cz) (confP A T id).1.met) ∧ Below W.heap.size W w' := by
 obtain ⟨res, hit, hc⟩ := conf_eq hs ha id
 intro W av tv h1 h2
 refine (ref_conflict t.items.length hN id res ra t av tv W h1 h2 hao hto hit).mono ?_
 rintro e w' ⟨hb, h⟩
 refine ⟨?_, hb⟩
 rcases hc with ⟨g1, g2, g3⟩ | ⟨g1, g2, g3⟩ | ⟨g1, s, g2, g3⟩
 ·
  rw [g2]
  rcases h with ⟨c, _, rfl, hc, _⟩ | ⟨h, _⟩
  ·
   rw [if_neg g1] at hc
   subst hc
   refine ⟨none, 0, none, 0, none, 0, ?_, IntsIn.nil _ _, IntsIn.nil _ _⟩
   show Ending.returned (.tuple #[_, .int .i64 _]) = .returned (.tuple #[_, .int .i64 (((rFailsAt ra.all t.items id).2.toNat : Nat) : Int)])
   rw [Int.toNat_of_nonneg g3]
   rfl
  ·
   exact absurd h g1
 ·
  rw [g3]
  rcases h with ⟨c, _, rfl, hc, _⟩ | ⟨_, s, _, _, _, hr, _⟩
  ·
   rw [if_pos g1] at hc
   subst hc
   exact ⟨none, 0, none, 0, none, 0, rfl, IntsIn.nil _ _, IntsIn.nil _ _⟩
  ·
   rw [g2] at hr
   cases hr
 ·
  rw [g3]
  rcases h with ⟨c, _, _, _, hn⟩ | ⟨_, s', x, y, z, hr, rfl, hx, hy, hz⟩
  ·
   rw [hn g1] at g2
   cases g2
  ·
   rw [g2] at hr
   obtain rfl := Option.some.inj hr
   have kx := hx
   have kz := hz
   obtain ⟨Ax, cx, rfl, _⟩ := hx
   obtain ⟨Ay, cy, rfl, _⟩ := hy
   obtain ⟨Az, cz, rfl, _⟩ := hz
   exact ⟨Ax, cx, Ay, cy, Az, cz, rfl, kx, kz⟩
theorem cfRun_metpos {A : Arn} {T : Trl} {lv : Int} : ∀ (ls : List Int) (s s' : CSt), cfRun A T lv s ls = some s' → (∀ v ∈ s.met, 1 ≤ v) → ∀ v ∈ s'.met, 1 ≤ v := by
 intro ls
 induction ls with
 | nil =>
  intro s s' h h1
  obtain rfl := Option.some.inj h
  exact h1
 | cons l r ih =>
  intro s s' h h1
  unfold cfRun at h
  cases hs : cfStep A T lv s l with
  | none => rw [hs] at h; cases h
  | some s1 =>
   rw [hs] at h
   refine ih s1 s' h ?_
   have hm : ∀ v ∈ (if 0 < T.level (litV l : Nat) then s.met ++ [(litV l : Int)] else s.met), 1 ≤ v := by
    intro v hv
    split at hv
    ·
     rename_i hl
     rcases List.mem_append.1 hv with hv | hv
     ·
      exact h1 v hv
     ·
      rw [List.mem_singleton.1 hv]
      by_cases h0 : litV l = 0
      ·
       rw [h0] at hl
       have : T.level ((0 : Nat) : Int) = 0 := by
        unfold Trl.level Trl.why Trl.at
        rw [if_neg (by omega)]
       omega
      ·
       omega
    ·
     exact h1 v hv
   unfold cfStep at hs
   split at hs
   ·
    obtain rfl := Option.some.inj hs
    exact h1
   ·
    split at hs
    ·
     obtain rfl := Option.some.inj hs
     exact hm
    ·
     split at hs
     ·
      cases hs
     ·
      obtain rfl := Option.some.inj hs
      exact hm
theorem conf_metpos (A : Arn) (T : Trl) (id : Int) : ∀ v ∈ (confP A T id).1.met, 1 ≤ v := by
 unfold confP
 split
 ·
  intro v hv; cases hv
 ·
  split
  ·
   intro v hv; cases hv
  ·
   split
   ·
    intro v hv; cases hv
   ·
    rename_i s hs
    intro v hv
    unfold cfEnd at hs
    exact cfRun_metpos _ _ _ hs (fun v hv => by cases hv) v ((sortI_mem _ _).1 hv)
/-- the reference's Conflict of layer 15 -/
theorem ref_min15 {A : Arn} {T : Trl} {ra : RAr} {t : RTr} (hs : Sim T t.items) (ha : ASim A ra.all) (hcb : ∀ id c, A.get id = some c → clauseB c = true) (hao : ra.Ok) (hto : t.Ok) (hN : t.items.length ≤ 100) (id : Int) (W : World) (av tv : Value) (h1 : RAAt W av ra) (h2 : RTAt W tv t) :
  Calls Tryz.prog 30 #[av, tv, .int .i64 id] W fun e w' => (∃ Ax cx Ay cy Az cz, e = .returned (.tuple #[.agg #[.slice Ax (minP A T id).1.lits.length cx, .int .i64 (minP A T id).1.back, .int .i64 (minP A T id).1.levels, .slice Ay (minP A T id).1.hints.length cy, .slice Az (minP A T id).1.met.length cz], .int .i64 ((minP A T id).2 : Nat)]) ∧ IntsIn (fun _ => True) w' (.slice Ax (minP A T id).1.lits.length cx) (minP A T id).1.lits ∧ IntsIn (fun _ => True) w' (.slice Ay (minP A T id).1.hints.length cy) (minP A T id).1.hints ∧ IntsIn (fun _ => True) w' (.slice Az (minP A T id).1.met.length cz) (minP A T id).1.met) ∧ Below W.heap.size W w' := by
 have hfl := conf_false (A := A) hs id
 have hol : T.order.length = t.items.length := by rw [hs.order, List.length_map]
 refine (ref_conflict15 id (confP A T id).1 (confP A T id).2 ra t av tv W h1 h2 hao hto hs.pl (by have := conf_len A T id; omega) hfl (conf_metpos A T id) (ref_conf14 hs ha hao hto hN id)).mono ?_
 rintro e w' ⟨h, hb⟩
 refine ⟨?_, hb⟩
 rcases h with ⟨hc, rfl⟩ | ⟨hc, x, y, z, rfl, hx, hy, hz⟩
 ·
  have e1 : minP A T id = (lrn0, (confP A T id).2) := by unfold minP; rw [if_pos hc]
  rw [e1]
  exact ⟨none, 0, none, 0, none, 0, rfl, IntsIn.nil _ _, IntsIn.nil _ _, IntsIn.nil _ _⟩
 ·
  have hh := conf_hints hs A id hcb hc
  have e1 : minP A T id = (⟨short15 A T (confP A T id).1.lits, T.backOf (short15 A T (confP A T id).1.lits), T.levelsOf (short15 A T (confP A T id).1.lits), (hintP A T (short15 A T (confP A T id).1.lits) id).1, (confP A T id).1.met⟩, 0) := by
   unfold minP
   rw [if_neg (by omega), if_neg (by omega)]
  have e2 := short15_ref hs ha (confP A T id).1.lits hfl
  rw [e2] at hx hy ⊢
  rw [hints15_ref hs ha] at hy
  have hsf : ∀ y ∈ short15 A T (confP A T id).1.lits, rVl t.items y < 0 := fun y hy => hfl y ((short_sub A T _).1 y hy)
  have e3 : rBk15 t.items (short15 A T (confP A T id).1.lits) = T.backOf (short15 A T (confP A T id).1.lits) := by
   match short15 A T (confP A T id).1.lits, hsf with
   | [], _ => rfl
   | [a], _ => rfl
   | a :: b :: r, hsf => exact (hs.level_fal (hsf b (by simp))).symm
  have e4 : ((if clauseB (short15 A T (confP A T id).1.lits) = true then (rLvs t.items [] (short15 A T (confP A T id).1.lits)).length else 0 : Nat) : Int) = T.levelsOf (short15 A T (confP A T id).1.lits) := by
   rw [levelsOf_eq hs]
   unfold rLevels
   split <;> rfl
  rw [e1, e3, e4]
  have kx := hx
  have ky := hy
  have kz := hz
  obtain ⟨Ax, cx, rfl, _⟩ := hx
  obtain ⟨Ay, cy, rfl, _⟩ := hy
  obtain ⟨Az, cz, rfl, _⟩ := hz
  exact ⟨Ax, cx, Ay, cy, Az, cz, rfl, kx, ky, kz⟩
set_option maxRecDepth 100000 in
set_option maxHeartbeats 4000000 in
theorem learned_any {O O' : Nat → Prop} (r : Lrn) (Ax Ay Az Bx By Bz : Option Addr) (cx cy cz dx dy dz : Nat) (w : World) (h1 : IntsIn O w (.slice Ax r.lits.length cx) r.lits) (h2 : IntsIn O w (.slice Ay r.hints.length cy) r.hints) (h3 : IntsIn O w (.slice Az r.met.length cz) r.met) (g1 : IntsIn O' w (.slice Bx r.lits.length dx) r.lits) (g2 : IntsIn O' w (.slice By r.hints.length dy) r.hints) (g3 : IntsIn O' w (.slice Bz r.met.length dz) r.met) (hl : r.lits.length ≤ 1000 ∧ r.hints.length ≤ 1000 ∧ r.met.length ≤ 1000) :
  Calls Tryz.prog 31 #[.agg #[.slice Ax r.lits.length cx, .int .i64 r.back, .int .i64 r.levels, .slice Ay r.hints.length cy, .slice Az r.met.length cz], .agg #[.slice Bx r.lits.length dx, .int .i64 r.back, .int .i64 r.levels, .slice By r.hints.length dy, .slice Bz r.met.length dz]] w fun e w' => e = .returned (.bool true) ∧ Below w.heap.size w w' := by
 obtain ⟨wa, hwa, hba, hb0, hb1⟩ := rbox2 w #[.slice Ax r.lits.length cx, .int .i64 r.back, .int .i64 r.levels, .slice Ay r.hints.length cy, .slice Az r.met.length cz] #[.slice Bx r.lits.length dx, .int .i64 r.back, .int .i64 r.levels, .slice By r.hints.length dy, .slice Bz r.met.length dz] 44 72
 have H1 := Lib.hid (h1.below hba)
 have H2 := Lib.hid (h2.below hba)
 have H3 := Lib.hid (h3.below hba)
 have G1 := Lib.hid (g1.below hba)
 have G2 := Lib.hid (g2.below hba)
 have G3 := Lib.hid (g3.below hba)
 have HX := Lib.hid hb0
 have HY := Lib.hid hb1
 have HBA := Lib.hid hba
 have HWA := Lib.hid hwa
 obtain ⟨l1, l2, l3⟩ := hl
 clear hwa hba hb0 hb1 h1 h2 h3 g1 g2 g3
 go_enter Tryz.func31, Tryz.ntmps31
 go_upto_region 1 with fail
 rw [HWA.out]
 refine wp_region_held_drew (S := fun w' => Below wa.heap.size wa w') (by kernel_rfl) (mx_drew wa) (fun hS => ?_)
 refine takeE 0 5 ?_
 refine takeF 1 6 (fun wq hSw => (cells5 ((hSw.block _ (heap_lt HX.out)).trans HX.out)).1) ?_
 refine takeE 3 8 ?_
 refine takeF 4 9 (fun wq hSw => (cells5 ((hSw.block _ (heap_lt HY.out)).trans HY.out)).1) ?_
 refine ready1 2 (fun K hK => ?_)
 go_simp
 refine (ints_08 (.slice Ax r.lits.length cx) r.lits _ (H1.out.below hS) (by omega)).mono ?_
 rintro e y1 ⟨v5, rfl, hown, hbN⟩
 have HOW := Lib.hid (IntsIn.of_own hown)
 have hSN := hS.trans (hbN.mono hS.size)
 refine hK.out _ _ hSN (fun _ => ?_)
 clear hK hown hbN hS
 have hS := hSN
 clear hSN
 refine ready1 5 (fun K hK => ?_)
 go_simp
 refine (eq_same v5 (.slice Bx r.lits.length dx) r.lits y1 HOW.out (G1.out.below hS) (by omega)).mono ?_
 rintro e y2 ⟨rfl, hbN⟩
 have hSN := hS.trans (hbN.mono hS.size)
 refine hK.out _ _ hSN (fun _ => ?_)
 clear hK hbN hS
 have hS := hSN
 clear hSN
 refine takeE 6 11 ?_
 refine takeE 7 12 ?_
 refine takeF 8 13 (fun wq hSw => (cells5 ((hSw.block _ (heap_lt HX.out)).trans HX.out)).1) ?_
 refine takeE 9 14 ?_
 refine takeF 10 15 (fun wq hSw => (cells5 ((hSw.block _ (heap_lt HY.out)).trans HY.out)).1) ?_
 refine takeE 11 16 ?_
 refine takeE 12 17 ?_
 refine takeE 13 18 ?_
 refine takeE 14 19 ?_
 refine takeF 15 20 (fun wq hSw => (cells5 ((hSw.block _ (heap_lt HX.out)).trans HX.out)).1) ?_
 refine takeE 16 21 ?_
 refine takeF 17 22 (fun wq hSw => (cells5 ((hSw.block _ (heap_lt HY.out)).trans HY.out)).1) ?_
 refine takeE 18 23 ?_
 refine takeE 19 24 ?_
 refine takeE 20 25 ?_
 refine takeE 21 26 ?_
 refine takeF 22 27 (fun wq hSw => (cells5 ((hSw.block _ (heap_lt HX.out)).trans HX.out)).1) ?_
 refine takeE 23 28 ?_
 refine takeF 24 29 (fun wq hSw => (cells5 ((hSw.block _ (heap_lt HY.out)).trans HY.out)).1) ?_
 refine ready1 25 (fun K hK => ?_)
 go_simp
 refine (eq_same (.slice Ay r.hints.length cy) (.slice By r.hints.length dy) r.hints y2 (H2.out.below hS) (G2.out.below hS) (by omega)).mono ?_
 rintro e y3 ⟨rfl, hbN⟩
 have hSN := hS.trans (hbN.mono hS.size)
 refine hK.out _ _ hSN (fun _ => ?_)
 clear hK hbN hS
 have hS := hSN
 clear hSN
 refine takeE 26 31 ?_
 refine takeE 27 32 ?_
 refine takeE 28 33 ?_
 refine takeF 29 34 (fun wq hSw => (cells5 ((hSw.block _ (heap_lt HX.out)).trans HX.out)).1) ?_
 refine takeE 30 35 ?_
 refine takeF 31 36 (fun wq hSw => (cells5 ((hSw.block _ (heap_lt HY.out)).trans HY.out)).1) ?_
 refine ready1 32 (fun K hK => ?_)
 go_simp
 refine (eq_same (.slice Az r.met.length cz) (.slice Bz r.met.length dz) r.met y3 (H3.out.below hS) (G3.out.below hS) (by omega)).mono ?_
 rintro e y4 ⟨rfl, hbN⟩
 have hSN := hS.trans (hbN.mono hS.size)
 refine hK.out _ _ hSN (fun _ => ?_)
 clear hK hbN hS
 have hS := hSN
 clear hSN
 refine takeE 33 38 ?_
 refine takeE 34 4 ?_
 refine wpAnyH_done (by kernel_rfl) ?_ _
 have HB4 := Lib.hid hS
 clear hS
 go_wp2_with fail
 go_ret
 exact ⟨rfl, HBA.out.trans (HB4.out.mono HBA.out.size)⟩
theorem filterMap_len {α : Type} (f : Int → Option α) (l : List Int) : (l.filterMap f).length ≤ l.length := List.length_filterMap_le f l
theorem hintP_len (A : Arn) (T : Trl) (c : List Int) (id : Int) : (hintP A T c id).1.length ≤ T.order.length + 1 := by
 unfold hintP
 split
 ·
  exact Nat.zero_le _
 ·
  split
  ·
   exact Nat.zero_le _
  ·
   split
   ·
    exact Nat.zero_le _
   ·
    simp only [List.length_append, List.length_reverse, List.length_cons, List.length_nil]
    have h1 := filterMap_len (hintV A T c) (mAll (rho A T c) ‹_› T.order)
    have h2 := mRun_len (rho A T c) T.order.reverse ([], varsI ‹_›)
    unfold mAll at h1 ⊢
    rw [List.length_reverse] at h2
    simp only [List.length_nil] at h2
    omega
theorem cfRun_metlen {A : Arn} {T : Trl} {lv : Int} : ∀ (ls : List Int) (s s' : CSt), cfRun A T lv s ls = some s' → s'.met.length ≤ s.met.length + ls.length := by
 intro ls
 induction ls with
 | nil =>
  intro s s' h
  obtain rfl := Option.some.inj h
  exact Nat.le_refl _
 | cons l r ih =>
  intro s s' h
  unfold cfRun at h
  cases hs : cfStep A T lv s l with
  | none => rw [hs] at h; cases h
  | some s1 =>
   rw [hs] at h
   have h1 := ih s1 s' h
   have hm : (if 0 < T.level (litV l : Nat) then s.met ++ [(litV l : Int)] else s.met).length ≤ s.met.length + 1 := by
    split
    ·
     simp
    ·
     exact Nat.le_succ _
   have h2 : s1.met.length ≤ s.met.length + 1 := by
    unfold cfStep at hs
    split at hs
    ·
     obtain rfl := Option.some.inj hs
     exact Nat.le_succ _
    ·
     split at hs
     ·
      obtain rfl := Option.some.inj hs
      exact hm
     ·
      split at hs
      ·
       cases hs
      ·
       obtain rfl := Option.some.inj hs
       exact hm
   simp only [List.length_cons]
   omega
theorem conf_metlen (A : Arn) (T : Trl) (id : Int) : (confP A T id).1.met.length ≤ T.order.length := by
 unfold confP
 split
 ·
  exact Nat.zero_le _
 ·
  split
  ·
   exact Nat.zero_le _
  ·
   split
   ·
    exact Nat.zero_le _
   ·
    rename_i s hs
    unfold cfEnd at hs
    have := cfRun_metlen _ _ _ hs
    rw [List.length_reverse] at this
    simp only [List.length_nil, Nat.zero_add] at this
    simp only [sortI_length]
    exact this
theorem min_len (A : Arn) (T : Trl) (id : Int) : (minP A T id).1.lits.length ≤ T.order.length ∧ (minP A T id).1.hints.length ≤ T.order.length + 1 ∧ (minP A T id).1.met.length ≤ T.order.length := by
 unfold minP
 split
 ·
  exact ⟨Nat.zero_le _, Nat.zero_le _, Nat.zero_le _⟩
 ·
  split
  ·
   exact ⟨Nat.zero_le _, Nat.zero_le _, Nat.zero_le _⟩
  ·
   exact ⟨Nat.le_trans (short_sub A T _).2 (conf_len A T id), hintP_len A T _ id, conf_metlen A T id⟩
set_option maxRecDepth 100000 in
set_option maxHeartbeats 16000000 in
theorem tells15_any (n : Nat) (cv av u : Value) (cs : List (List Int)) (acs : List ActP) (id v : Int) (c : List Int) (w : World) (hn : n ≤ 1000) (hc : ClsAt w cv cs) (ha : ActsIn w av acs) (hu : IntsIn (fun _ => True) w u c) (hcl : cs.length ≤ 900) (hce : ∀ c ∈ cs, c.length ≤ 900) (hal : acs.length ≤ 90) (hcc : c.length ≤ 900) :
  Calls Tryz.prog 7 #[.int .i64 (n : Int), cv, av, .int .i64 id, .int .i64 v, u] w fun e w' => e = .returned (.bool true) ∧ Below w.heap.size w w' := by
 have HPUT := put_any n cv av cs acs w (by omega) hc ha (by omega) (fun c h => Nat.le_trans (hce c h) (by omega)) (by omega)
 have HST := Lib.hid (fun w1 (hb : Below w.heap.size w w1) => state_any n cv av cs acs w1 (hc.below hb) (ha.below hb) hcl hce hal)
 have hsim := (tsim0 n (by omega)).playAll acs
 have hps := (psim0 inv0 arn0_get).addAll cs (by omega)
 have hrl := rAddAll_low cs ⟨[], 0⟩ 0 rlow0 (fun c h => Nat.le_trans (hce c h) (by omega))
 have htl := rPlayAll_low acs ⟨n, 0, [], [0]⟩ 0 (rtlow0 n)
 have hcb : ∀ id c, (addAll arn0 0 cs).get id = some c → clauseB c = true := fun id c h => by
  rw [(addAll_get cs arn0 0 inv0 (by decide) (by omega) id).1] at h
  split at h
  ·
   cases hq : cs[(id - ((0 : Nat) : Int) - 1).toNat]? with
   | none => rw [hq] at h; cases h
   | some c' =>
    rw [hq] at h
    simp only [Option.bind_some] at h
    split at h
    ·
     rename_i hcb
     obtain rfl := Option.some.inj h
     exact hcb
    ·
     cases h
  ·
   rw [arn0_get] at h; cases h
 obtain ⟨A, hA⟩ : ∃ x, addAll arn0 0 cs = x := ⟨_, rfl⟩
 obtain ⟨TT, hT⟩ : ∃ x, playAll (trl0 n) acs = x := ⟨_, rfl⟩
 obtain ⟨ra, hra⟩ : ∃ x, rAddAll ⟨[], 0⟩ 0 cs = x := ⟨_, rfl⟩
 obtain ⟨t, ht⟩ : ∃ x, rPlayAll ⟨n, 0, [], [0]⟩ acs = x := ⟨_, rfl⟩
 rw [hA, hT] at HPUT
 rw [hra, ht] at HST
 rw [hT, ht] at hsim
 rw [hA, hra] at hps
 rw [hra] at hrl
 rw [ht] at htl
 rw [hA] at hcb
 clear hA hT hra ht
 have hro : ra.Ok := ⟨by have := hrl.all; omega, hrl.each⟩
 have hto : t.Ok := ⟨by have := htl.items; omega⟩
 have hil : t.items.length ≤ 100 := by have := htl.items; omega
 have hS := hsim.sim
 have hASM := hps.sim
 have HSIM := Lib.hid hS
 have HCNT := Lib.hid hps.sim.count
 have HOL := Lib.hid (show TT.order.length = t.items.length from by rw [hS.order, List.length_map])
 have HFL := Lib.hid (fun W tv h (O : Nat → Prop) u (hu : IntsIn O W u c) => (failE_ref hS c) ▸ ref_fails15 u c t tv W h hto hu (by omega))
 have HRC := Lib.hid (fun W av tv h1 h2 (O : Nat → Prop) u (hu : IntsIn O W u c) => (cov15_ref hS hASM c v) ▸ ref_covered15 u c v ra t av tv W h1 h2 hro hto hu (by omega) hS.pl)
 have HRR := Lib.hid (fun (hf : ∀ y ∈ c, rVl t.items y < 0) W av tv h1 h2 (O : Nat → Prop) u (hu : IntsIn O W u c) => (red15_ref hS hASM c hf v) ▸ ref_redundant15 u c v ra t av tv W h1 h2 hro hto hu (by omega) hS.pl hf)
 have HRS := Lib.hid (fun (hf : ∀ y ∈ c, rVl t.items y < 0) W av tv h1 h2 (O : Nat → Prop) u (hu : IntsIn O W u c) => (short15_ref hS hASM c hf) ▸ ref_shorten15 u c ra t av tv W h1 h2 hro hto hu (by omega) hS.pl hf)
 have HRH := Lib.hid (fun W av tv h1 h2 (O : Nat → Prop) u (hu : IntsIn O W u c) => (hints15_ref hS hASM c id) ▸ ref_hints15 u c id ra t av tv W h1 h2 hro hto hu (by omega) hS.pl)
 have HRM := Lib.hid (fun W av tv h1 h2 => ref_min15 hS hASM hcb hro hto hil id W av tv h1 h2)
 have hml := min_len A TT id
 have hol := HOL.out
 have hhl := hintP_len A TT c id
 have hsl := (short_sub A TT c).2
 have hff : failE TT c = 0 → ∀ y ∈ c, rVl t.items y < 0 := fun h y hy => by
  rw [← hS.val y]
  unfold failE at h
  split at h
  ·
   cases h
  ·
   split at h
   ·
    cases h
   ·
    rename_i hn
    by_cases h0 : 0 ≤ TT.val y
    ·
     exact absurd (List.any_eq_true.2 ⟨y, hy, by simpa using h0⟩) hn
    ·
     omega
 have HFF := Lib.hid hff
 have HPUT := Lib.hid HPUT
 clear hcb hro hto hS hASM hsim hps hrl htl hff
 have HUU := Lib.hid hu
 obtain ⟨Ac, cc, rfl, _⟩ := hc
 obtain ⟨Aa, ca, rfl, _⟩ := ha
 obtain ⟨Au, cu, rfl, _⟩ := hu
 clear hce
 go_enter Tryz.func7, Tryz.ntmps7
 go_wp2_with fail
 refine HPUT.out.mono ?_
 rintro e w1 ⟨a, b, rfl, hpa, hb1⟩
 have HPA := Lib.hid hpa
 have HB1 := Lib.hid hb1
 clear hpa hb1 HPUT
 go_wp2_with fail
 refine (HST.out w1 HB1.out).mono ?_
 rintro e w2 ⟨⟨rv, sv, rfl, hra, hrt⟩, hb2⟩
 obtain ⟨ev, rfl, he⟩ := hra
 obtain ⟨iv, sv', rfl, hi, hs⟩ := hrt
 have hhs : ∃ E c, sv' = .slice E t.starts.length c := by
  obtain ⟨A, c, e, _⟩ := hs
  exact ⟨A, c, e⟩
 obtain ⟨ES, cS, rfl⟩ := hhs
 obtain ⟨wb, hwb, hbb, hb0, hb1⟩ := rbox2 w2 #[ev, .int .i64 ra.last] #[.int .i64 t.vars, .int .i64 t.now, iv, .slice ES t.starts.length cS] 56 59
 have hhi : ∃ E c, iv = .slice E t.items.length c := by
  obtain ⟨A, c, e, _⟩ := hi
  exact ⟨A, c, e⟩
 have hhe : ∃ E c, ev = .slice E ra.all.length c := by
  obtain ⟨ms, _, ⟨A, c, e, _⟩, _⟩ := he
  exact ⟨A, c, e⟩
 obtain ⟨EI, cI, rfl⟩ := hhi
 obtain ⟨EE, cE, rfl⟩ := hhe
 have HRO := Lib.hid (show RAAt wb (.agg #[.slice EE ra.all.length cE, .int .i64 ra.last]) ra from ⟨_, rfl, he.below hbb⟩)
 have HRT := Lib.hid (show RTAt wb (.agg #[.int .i64 t.vars, .int .i64 t.now, .slice EI t.items.length cI, .slice ES t.starts.length cS]) t from ⟨_, _, rfl, hi.below hbb, hs.below hbb⟩)
 have HX := Lib.hid hb0
 have HY := Lib.hid hb1
 have HWB := Lib.hid hwb
 have HB1b := Lib.hid (hb2.trans (hbb.mono hb2.size))
 have HPB := Lib.hid (HPA.out.below HB1b.out)
 have HBB := Lib.hid (HB1.out.trans (HB1b.out.mono HB1.out.size))
 have HUB := Lib.hid (HUU.out.below HBB.out)
 clear hwb hbb hb0 hb1 hb2 he hi hs HB1 HB1b HPA HST HUU
 obtain ⟨rb, hrb⟩ : ∃ x, w2.heap.size = x := ⟨_, rfl⟩
 rw [hrb] at HX HY
 go_upto_region 5 with fail
 rw [HWB.out]
 clear hrb HWB
 go_wp2_with fail
 refine (ints_08 (.slice Au c.length cu) c wb HUB.out (by omega)).mono ?_
 rintro e w3 ⟨vy, rfl, hoy, hb3⟩
 have HYI := Lib.hid (IntsIn.of_own hoy)
 have HB3 := Lib.hid hb3
 clear hoy hb3
 obtain ⟨s0, s1, s2, s3⟩ := bx4 HB3.out HY.out
 have hF := HFL.out w3 _ (HRT.out.below HB3.out) _ vy HYI.out
 have HCV := fun W n' a b (hp : PutAt n' W a b A TT) (OC : Nat → Prop) Ac cc (hc : IntsIn OC W (.slice Ac c.length cc) c) => put_covered Ac cc c v hp HSIM.out (by omega) hc (by omega)
 have HRD := fun W n' a b (hp : PutAt n' W a b A TT) (OC : Nat → Prop) Ac cc (hc : IntsIn OC W (.slice Ac c.length cc) c) => put_redundant Ac cc c v hp HSIM.out (by omega) hc (by omega)
 have HSH := fun W n' a b (hp : PutAt n' W a b A TT) (OC : Nat → Prop) Ac cc (hc : IntsIn OC W (.slice Ac c.length cc) c) => put_shorten Ac cc c hp HSIM.out (by omega) hc (by omega)
 have HHI := fun W n' a b (hp : PutAt n' W a b A TT) (OC : Nat → Prop) Ac cc (hc : IntsIn OC W (.slice Ac c.length cc) c) => put_hints Ac cc c id hp HSIM.out hc (by omega)
 have hhs : (hintsP A TT c id) = if failE TT c = 0 then hintP A TT c id else ([], failE TT c) := rfl
 have hil' : t.items.length ≤ 500000 := by omega
 obtain ⟨fe, hfe⟩ : ∃ z, failE TT c = z := ⟨_, rfl⟩
 rw [hfe] at hF HCV HRD HSH HFF hhs
 clear hfe
 obtain ⟨inb, hinb⟩ : ∃ z : Bool, (if fe = 0 then decide (TT.val v < 0) && cov15 A TT c v else false) = z := ⟨_, rfl⟩
 obtain ⟨rdb, hrdb⟩ : ∃ z : Bool, (if fe = 0 then c.contains v && impl15 A TT c (litV v) else false) = z := ⟨_, rfl⟩
 obtain ⟨sh, hsh⟩ : ∃ z : List Int, (if fe = 0 then short15 A TT c else []) = z := ⟨_, rfl⟩
 obtain ⟨hp, hhp⟩ : ∃ z, hintsP A TT c id = z := ⟨_, rfl⟩
 rw [hinb] at HCV
 rw [hrdb] at HRD
 rw [hsh] at HSH
 rw [hhp] at HHI hhs
 have HIN := Lib.hid hinb
 have HRB := Lib.hid hrdb
 have HSB := Lib.hid hsh
 have HHB := Lib.hid hhs
 have HCV := Lib.hid HCV
 have HRD := Lib.hid HRD
 have HSH := Lib.hid HSH
 have HHI := Lib.hid HHI
 have HF := Lib.hid hF
 clear hinb hrdb hsh hhp hhs hF
 obtain ⟨E, hE⟩ : ∃ z : Int, ((fe : Nat) : Int) = z := ⟨_, rfl⟩
 rw [hE] at HF HCV HRD HSH
 have HEE := Lib.hid hE
 clear hE
 go_wp2_with fail
 refine HF.out.mono ?_
 rintro e w4 ⟨rfl, hb⟩
 have HB4 := Lib.hid (HB3.out.trans (hb.mono HB3.out.size))
 have HY4 := Lib.hid (HYI.out.below hb)
 clear hb s0 s1 s2 s3 HF HFL
 go_wp2_with fail
 refine (clone_c (.slice Au c.length cu) c w4 (HUB.out.below HB4.out) (by omega)).mono ?_
 rintro e w5 ⟨vo, rfl, hoo, hb⟩
 obtain ⟨Ao, co, rfl, _⟩ := mx_slice hoo
 have HO5 := Lib.hid (IntsIn.of_own hoo)
 have HB5 := Lib.hid (HB4.out.trans (hb.mono HB4.out.size))
 have HY5 := Lib.hid (HY4.out.below hb)
 clear hb hoo HY4 HYI
 go_wp2_with fail
 refine (HCV.out w5 _ a b (HPB.out.below HB5.out) _ Ao co HO5.out).mono ?_
 rintro e w6 ⟨rfl, hb⟩
 have HB6 := Lib.hid (HB5.out.trans (hb.mono HB5.out.size))
 have HO6 := Lib.hid (HO5.out.below hb)
 have HY6 := Lib.hid (HY5.out.below hb)
 clear hb HO5 HY5
 go_wp2_with fail
 refine (HRD.out w6 _ a b (HPB.out.below HB6.out) _ Ao co HO6.out).mono ?_
 rintro e w7 ⟨rfl, hb⟩
 have HB7 := Lib.hid (HB6.out.trans (hb.mono HB6.out.size))
 have HO7 := Lib.hid (HO6.out.below hb)
 have HY7 := Lib.hid (HY6.out.below hb)
 clear hb HO6 HY6
 go_wp2_with fail
 refine (HSH.out w7 _ a b (HPB.out.below HB7.out) _ Ao co HO7.out).mono ?_
 rintro e w8 ⟨⟨us, rfl, hos⟩, hb⟩
 obtain ⟨As, csh, rfl, _⟩ := mx_slice hos
 have HS8 := Lib.hid hos
 have HB78 := Lib.hid hb
 clear hb hos HCV HRD HSH
 go_wp2_with fail
 refine (HHI.out w8 _ a b (HPB.out.below (HB7.out.trans (HB78.out.mono HB7.out.size))) _ Ao co (HO7.out.below HB78.out)).mono ?_
 rintro e w9 ⟨⟨uh, rfl, hoh⟩, hb⟩
 obtain ⟨Ah, ch, rfl, _⟩ := mx_slice hoh
 have HH9 := Lib.hid (IntsIn.of_own hoh)
 have HS9 := Lib.hid (own_below HS8.out hb)
 have HB79 := Lib.hid (HB78.out.trans (hb.mono HB78.out.size))
 clear hb hoh HS8 HHI HB78
 go_upto_if 103 with fail
 have qE : (E != E) = false := by simp
 have hshl : sh.length ≤ 1000 := by
  rw [← HSB.out]
  split
  ·
   omega
  ·
   exact Nat.zero_le _
 go_upto_if 105 with fail
 go_cut [21, 23] (fun p21 p23 wx => p21 = .bool inb ∧ p23 = .bool rdb ∧ Hid (Below w7.heap.size w7 wx) ∧ Hid (∃ ys, wx.ownsRow w7.heap.size 31 1 (.slice As sh.length csh) sh.length ys))
 case first =>
  by_cases hz : fe = 0
  ·
   have q0 : (E != 0) = false := by rw [← HEE.out, hz]; rfl
   have hc0 : ∀ y ∈ c, rVl t.items y < 0 := HFF.out hz
   have hin : inb = (decide (TT.val v < 0) && cov15 A TT c v) := by rw [← HIN.out, if_pos hz]
   have hrd : rdb = (c.contains v && impl15 A TT c (litV v : Nat)) := by rw [← HRB.out, if_pos hz]
   have hshe : sh = short15 A TT c := by rw [← HSB.out, if_pos hz]
   have hhp : hp = hintP A TT c id := by rw [HHB.out, if_pos hz]
   have hrc := HRC.out
   have hrr := HRR.out hc0
   have hrs := HRS.out hc0
   have hrh := HRH.out
   rw [← hin] at hrc
   rw [← hrd] at hrr
   rw [← hshe] at hrs
   rw [← hhp] at hrh
   have HRC2 := Lib.hid hrc
   have HRR2 := Lib.hid hrr
   have HRS2 := Lib.hid hrs
   have HRH2 := Lib.hid hrh
   have hl1 : hp.1.length ≤ 1000 := by rw [hhp]; omega
   have hl2 : sh.length ≤ 1000 := by rw [hshe]; omega
   clear hz hc0 hin hrd hshe hhp hrc hrr hrs hrh HRC HRR HRS HRH HFF HIN HRB HSB HHB hhl hsl hml hol
   obtain ⟨a0, a1⟩ := bx2 (HB7.out.trans (HB79.out.mono HB7.out.size)) HX.out
   obtain ⟨s0, s1, s2, s3⟩ := bx4 (HB7.out.trans (HB79.out.mono HB7.out.size)) HY.out
   go_wp2_with fail
   refine (HRH2.out w9 _ _ (HRO.out.below (HB7.out.trans (HB79.out.mono HB7.out.size))) (HRT.out.below (HB7.out.trans (HB79.out.mono HB7.out.size))) _ vy (HY7.out.below HB79.out)).mono ?_
   rintro e z1 ⟨⟨uw, rfl, how⟩, hb⟩
   have HBz := Lib.hid (HB79.out.trans (hb.mono HB79.out.size))
   have HBZ := Lib.hid (HB7.out.trans (HBz.out.mono HB7.out.size))
   have HWW := Lib.hid (IntsIn.of_own how)
   have HHz := Lib.hid (HH9.out.below hb)
   have HSz := Lib.hid (own_below HS9.out hb)
   have HXz := Lib.hid ((HBZ.out.block _ (heap_lt HX.out)).trans HX.out)
   have HYz := Lib.hid ((HBZ.out.block _ (heap_lt HY.out)).trans HY.out)
   have HROz := Lib.hid (HRO.out.below HBZ.out)
   have HRTz := Lib.hid (HRT.out.below HBZ.out)
   have HIz := Lib.hid (HY7.out.below HBz.out)
   obtain ⟨Aw, cw, rfl, _⟩ := mx_slice how
   have qi : (inb != inb) = false := by simp
   have qr : (rdb != rdb) = false := by simp
   have qh : (((hp.2 : Nat) : Int) != ((hp.2 : Nat) : Int)) = false := by simp
   clear hb how a0 a1 s0 s1 s2 s3 HRH2
   go_upto_region 18 with fail
   refine wp_region_held_drew (S := fun w' => Below z1.heap.size z1 w') (by kernel_rfl) (mx_drew z1) (fun hS => ?_)
   refine takeE 0 131 ?_
   refine takeF 1 132 (fun wq hSw => bx2 hSw HXz.out) ?_
   refine takeF 2 133 (fun wq hSw => bx4 hSw HYz.out) ?_
   refine takeE 3 134 ?_
   refine takeE 4 135 ?_
   refine ready1 5 (fun K hK => ?_)
   go_simp
   refine (HRC2.out _ _ _ (HROz.out.below hS) (HRTz.out.below hS) _ vy (HIz.out.below hS)).mono ?_
   rintro e y1 ⟨rfl, hbN⟩
   have hSN := hS.trans (hbN.mono hS.size)
   refine hK.out _ _ hSN (fun _ => ?_)
   clear hK hbN hS
   have hS := hSN
   clear hSN
   refine takeE 6 137 ?_
   refine takeE 7 138 ?_
   refine takeE 8 139 ?_
   refine takeF 9 140 (fun wq hSw => bx2 hSw HXz.out) ?_
   refine takeF 10 141 (fun wq hSw => bx4 hSw HYz.out) ?_
   refine takeE 11 142 ?_
   refine takeE 12 143 ?_
   refine ready1 13 (fun K hK => ?_)
   go_simp
   refine (HRR2.out _ _ _ (HROz.out.below hS) (HRTz.out.below hS) _ vy (HIz.out.below hS)).mono ?_
   rintro e y2 ⟨rfl, hbN⟩
   have hSN := hS.trans (hbN.mono hS.size)
   refine hK.out _ _ hSN (fun _ => ?_)
   clear hK hbN hS
   have hS := hSN
   clear hSN
   refine takeE 14 145 ?_
   refine takeE 15 146 ?_
   refine takeE 16 147 ?_
   refine takeE 17 148 ?_
   refine takeF 19 150 (fun wq hSw => bx2 hSw HXz.out) ?_
   refine takeF 20 151 (fun wq hSw => bx4 hSw HYz.out) ?_
   refine takeE 21 152 ?_
   refine ready1 18 (fun K hK => ?_)
   go_simp
   refine (ints_08 (.slice As sh.length csh) sh _ ((IntsIn.of_own HSz.out).below hS) (by omega)).mono ?_
   rintro e y3 ⟨v5, rfl, hown, hbN⟩
   have HOW := Lib.hid (IntsIn.of_own hown)
   have hSN := hS.trans (hbN.mono hS.size)
   refine hK.out _ _ hSN (fun _ => ?_)
   clear hK hown hbN hS
   have hS := hSN
   clear hSN
   refine ready1 22 (fun K hK => ?_)
   go_simp
   refine (HRS2.out _ _ _ (HROz.out.below hS) (HRTz.out.below hS) _ vy (HIz.out.below hS)).mono ?_
   rintro e y4 ⟨⟨v6, rfl, hown⟩, hbN⟩
   have HOX := Lib.hid (IntsIn.of_own hown)
   have HOW4 := Lib.hid (HOW.out.below hbN)
   have hSN := hS.trans (hbN.mono hS.size)
   refine hK.out _ _ hSN (fun _ => ?_)
   clear hK hown hbN hS
   have hS := hSN
   clear hSN
   refine ready1 23 (fun K hK => ?_)
   go_simp
   refine (eq_same v5 v6 sh y4 HOW4.out HOX.out (by omega)).mono ?_
   rintro e y5 ⟨rfl, hbN⟩
   have hSN := hS.trans (hbN.mono hS.size)
   refine hK.out _ _ hSN (fun _ => ?_)
   clear hK hbN hS
   have hS := hSN
   clear hSN
   refine takeE 24 155 ?_
   refine takeE 25 156 ?_
   refine takeE 26 157 ?_
   refine takeE 27 158 ?_
   refine takeE 28 159 ?_
   refine ready1 29 (fun K hK => ?_)
   go_simp
   refine (eq_same (.slice Ah hp.1.length ch) (.slice Aw hp.1.length cw) hp.1 y5 (HHz.out.below hS) (HWW.out.below hS) (by omega)).mono ?_
   rintro e y6 ⟨rfl, hbN⟩
   have hSN := hS.trans (hbN.mono hS.size)
   refine hK.out _ _ hSN (fun _ => ?_)
   clear hK hbN hS
   have hS := hSN
   clear hSN
   refine takeE 30 161 ?_
   refine takeE 31 162 ?_
   refine takeE 32 163 ?_
   refine takeE 33 164 ?_
   refine takeE 34 165 ?_
   refine takeE 35 166 ?_
   refine takeE 36 167 ?_
   refine wpAnyH_done (by kernel_rfl) ?_ _
   have HBF := Lib.hid (HBz.out.trans (hS.mono HBz.out.size))
   have HSF := Lib.hid (own_below HSz.out hS)
   clear hS
   go_wp2_with fail
   go_meet
   exact ⟨rfl, rfl, HBF, Lib.hid ⟨_, HSF.out⟩⟩
  ·
   have q0 : (E != 0) = true := by
    rw [← HEE.out]
    simpa using hz
   have hin : inb = false := by rw [← HIN.out, if_neg hz]
   have hrd : rdb = false := by rw [← HRB.out, if_neg hz]
   have hshe : sh = [] := by rw [← HSB.out, if_neg hz]
   have hhp : hp = ([], fe) := by rw [HHB.out, if_neg hz]
   have q1 : (((sh.length : Nat) : Int) + ((hp.1.length : Nat) : Int) != 0) = false := by rw [hshe, hhp]; rfl
   have q2 : (((hp.2 : Nat) : Int) != E) = false := by rw [hhp, ← HEE.out]; simp
   have q3 : ((sh.length : Nat) : Int) ≤ 1000 := by rw [hshe]; simp
   have q4 : ((hp.1.length : Nat) : Int) ≤ 1000 := by rw [hhp]; simp
   clear hz hshe hhp HRC HRR HRS HRH HFF HIN HRB HSB HHB hhl hsl hml hol
   go_wp2_with fail
   go_meet
   exact ⟨by rw [hin], by rw [hrd], HB79, Lib.hid ⟨_, HS9.out⟩⟩
 case rest =>
  obtain ⟨rfl, rfl, HBC, HSC⟩ := hcut
  have HPC := Lib.hid (HPB.out.below HB7.out)
  have HROC := Lib.hid (HRO.out.below HB7.out)
  have HRTC := Lib.hid (HRT.out.below HB7.out)
  have HXC := Lib.hid ((HB7.out.block _ (heap_lt HX.out)).trans HX.out)
  have HYC := Lib.hid ((HB7.out.block _ (heap_lt HY.out)).trans HY.out)
  have HUC := Lib.hid (HUB.out.below HB7.out)
  have HBW := Lib.hid (HBB.out.trans (HB7.out.mono HBB.out.size))
  clear HPB HRO HRT HX HY HUB HBB HB7 HB3 HB4 HB5 HB6 HS9 HB79 HH9 HRC HRR HRS HRH HFF HIN HRB HSB HHB HY7 qE
  obtain ⟨LL, hLL⟩ : ∃ z, minP A TT id = z := ⟨_, rfl⟩
  have hcg := fun W n' a b (h : PutAt n' W a b A TT) => put_minconf id h HSIM.out hil'
  have hcr := HRM.out
  rw [hLL] at hml hcg hcr
  obtain ⟨L, code⟩ := LL
  have HCG := Lib.hid hcg
  have HCR := Lib.hid hcr
  clear hLL hcg hcr HRM hhl hsl
  have hml1 : L.lits.length ≤ 1000 ∧ L.hints.length ≤ 1000 ∧ L.met.length ≤ 1000 := by
   obtain ⟨h1, h2, h3⟩ := hml
   exact ⟨by have : L.lits.length ≤ TT.order.length := h1; omega, by have : L.hints.length ≤ TT.order.length + 1 := h2; omega, by have : L.met.length ≤ TT.order.length := h3; omega⟩
  have HML := Lib.hid hml1
  clear hml hml1 hol
  go_wp2_with fail
  go_loopw [170] (fun iv wr => ∃ (j : Nat), j ≤ sh.length ∧ iv = .int .i64 j ∧ Hid (Below w7.heap.size w7 wr) ∧ Hid (∃ ys, wr.ownsRow w7.heap.size 31 1 (.slice As sh.length csh) sh.length ys)) (fun iv _ => sh.length - (intOf iv).toNat)
  case atStart => exact ⟨0, Nat.zero_le _, rfl, HBC, HSC⟩
  case round =>
   obtain ⟨j, hj, rfl, HB, HS⟩ := hrel
   by_cases hlt : j < sh.length
   ·
    obtain ⟨ys, HO⟩ := HS.out
    have HO := Lib.hid HO
    obtain ⟨ga, ca', csa, hsl, hle, hba, hga, hblk, _⟩ := mx_some HO.out (by omega)
    simp only [Value.slice.injEq, true_and] at hsl
    obtain ⟨rfl, rfl⟩ := hsl
    obtain ⟨uo, huo⟩ : ∃ q, ys[j]? = some q := by
     have h1 := HO.out.1
     exact getElem_of (by omega)
    have p0 := mx_at HO.out huo
    have fr := mx_free (j := j) hblk
    have hjc : j < csh := by omega
    have HO2 := Lib.hid (own_put (j := j) HO.out (.int .i64 99))
    have HW2 := Lib.hid (HB.out.setCell (p := ⟨ga, j, none⟩) hba (.int .i64 99))
    have hjs : (j : Int) < (sh.length : Int) := by omega
    clear hblk huo
    go_wp2_with fail
    go_roundw
    case rel => exact ⟨j + 1, by omega, by go_num, HW2, Lib.hid ⟨_, HO2.out⟩⟩
    case measure => simp [intOf]; omega
   ·
    obtain rfl : j = sh.length := by omega
    have HPR := Lib.hid (HPC.out.below HB.out)
    go_wp2_with fail
    refine (HCG.out wr _ a b HPR.out).mono ?_
    rintro e x1 ⟨⟨v9, rfl, hl⟩, hb⟩
    obtain ⟨x, y, z, rfl, hx, hy, hz⟩ := hl
    simp only at hx hy hz ⊢
    obtain ⟨Ax, cx, rfl, _⟩ := mx_slice hx
    obtain ⟨Ay, cy, rfl, _⟩ := mx_slice hy
    obtain ⟨Az, cz, rfl, _⟩ := mx_slice hz
    obtain ⟨x2, hx2⟩ : ∃ q, x1.alloc (.cells #[.slice Ax L.lits.length cx, .int .i64 L.back, .int .i64 L.levels, .slice Ay L.hints.length cy, .slice Az L.met.length cz] 44) = q := ⟨_, rfl⟩
    have hb12 : Below x1.heap.size x1 x2 := by rw [← hx2]; exact mx_al _ _
    have HX2 := Lib.hid hx2
    have HGB := Lib.hid (show x2.heap[x1.heap.size]? = some (.cells #[.slice Ax L.lits.length cx, .int .i64 L.back, .int .i64 L.levels, .slice Ay L.hints.length cy, .slice Az L.met.length cz] 44 (0, 0)) from by rw [← hx2]; exact World.alloc_heap_new _ _)
    have HGX := Lib.hid (((IntsIn.of_own hx).mono (fun _ _ => trivial : ∀ g, _ → (fun _ => True) g)).below hb12)
    have HGY := Lib.hid (((IntsIn.of_own hy).mono (fun _ _ => trivial : ∀ g, _ → (fun _ => True) g)).below hb12)
    have HGZ := Lib.hid (((IntsIn.of_own hz).mono (fun _ _ => trivial : ∀ g, _ → (fun _ => True) g)).below hb12)
    have HB2 := Lib.hid (HB.out.trans ((hb.trans (hb12.mono hb.size)).mono HB.out.size))
    clear hb hx hy hz hx2 HPR hb12
    go_upto_region 26 with fail
    rw [HX2.out]
    obtain ⟨a0, a1⟩ := bx2 HB2.out HXC.out
    obtain ⟨s0, s1, s2, s3⟩ := bx4 HB2.out HYC.out
    go_wp2_with fail
    refine (HCR.out x2 _ _ (HROC.out.below HB2.out) (HRTC.out.below HB2.out)).mono ?_
    rintro e x3 ⟨⟨Bx, dx, By, dy, Bz, dz, rfl, hx, hy, hz⟩, hb⟩
    simp only at hx hy hz ⊢
    obtain ⟨x4, hx4⟩ : ∃ q, x3.alloc (.cells #[.slice Bx L.lits.length dx, .int .i64 L.back, .int .i64 L.levels, .slice By L.hints.length dy, .slice Bz L.met.length dz] 72) = q := ⟨_, rfl⟩
    have HX4 := Lib.hid hx4
    have hb34 : Below x3.heap.size x3 x4 := by rw [← hx4]; exact mx_al _ _
    have HWB := Lib.hid (show x4.heap[x3.heap.size]? = some (.cells #[.slice Bx L.lits.length dx, .int .i64 L.back, .int .i64 L.levels, .slice By L.hints.length dy, .slice Bz L.met.length dz] 72 (0, 0)) from by rw [← hx4]; exact World.alloc_heap_new _ _)
    have HWX := Lib.hid (hx.below hb34)
    have HWY := Lib.hid (hy.below hb34)
    have HWZ := Lib.hid (hz.below hb34)
    have HB24 := Lib.hid (hb.trans (hb34.mono hb.size))
    have HB4 := Lib.hid (HB2.out.trans (HB24.out.mono HB2.out.size))
    have HG4 := Lib.hid ((HB24.out.block _ (heap_lt HGB.out)).trans HGB.out)
    have HGX4 := Lib.hid (HGX.out.below HB24.out)
    have HGY4 := Lib.hid (HGY.out.below HB24.out)
    have HGZ4 := Lib.hid (HGZ.out.below HB24.out)
    clear hx4 hb hb34 hx hy hz a0 a1 s0 s1 s2 s3
    go_upto_region 27 with fail
    rw [HX4.out]
    clear HX2 HX4
    have HX4 := Lib.hid ((HB4.out.block _ (heap_lt HXC.out)).trans HXC.out)
    have HY4 := Lib.hid ((HB4.out.block _ (heap_lt HYC.out)).trans HYC.out)
    have HP4 := Lib.hid (HPC.out.below HB4.out)
    have HO4 := Lib.hid (HO7.out.below HB4.out)
    have HU4 := Lib.hid (HUC.out.below HB4.out)
    obtain ⟨_, OA, OT, pA, pT, _⟩ := HP4.out
    have HPAR := Lib.hid pA
    have HPTR := Lib.hid pT
    clear pA pT
    refine wp_region_held_drew (S := fun w' => Below x4.heap.size x4 w') (by kernel_rfl) (mx_drew x4) (fun hS => ?_)
    refine takeF 0 191 (fun wq hSw => (cells5 ((hSw.block _ (heap_lt HG4.out)).trans HG4.out)).1) ?_
    refine takeF 1 192 (fun wq hSw => (cells5 ((hSw.block _ (heap_lt HWB.out)).trans HWB.out)).1) ?_
    refine ready1 2 (fun K hK => ?_)
    go_simp
    refine (learned_any L Ax Ay Az Bx By Bz cx cy cz dx dy dz _ (HGX4.out.below hS) (HGY4.out.below hS) (HGZ4.out.below hS) (HWX.out.below hS) (HWY.out.below hS) (HWZ.out.below hS) HML.out).mono ?_
    rintro e y1 ⟨rfl, hbN⟩
    have hSN := hS.trans (hbN.mono hS.size)
    refine hK.out _ _ hSN (fun _ => ?_)
    clear hK hbN hS
    have hS := hSN
    clear hSN
    refine takeE 3 194 ?_
    refine takeE 4 195 ?_
    refine takeE 5 196 ?_
    refine takeE 6 197 ?_
    refine takeE 7 198 ?_
    refine takeE 8 199 ?_
    refine takeE 9 200 ?_
    refine takeE 10 201 ?_
    refine ready1 11 (fun K hK => ?_)
    go_simp
    refine (eqc_same (.slice Ao c.length co) (.slice Au c.length cu) c y1 (HO4.out.below hS) (HU4.out.below hS) (by omega)).mono ?_
    rintro e y2 ⟨rfl, hbN⟩
    have hSN := hS.trans (hbN.mono hS.size)
    refine hK.out _ _ hSN (fun _ => ?_)
    clear hK hbN hS
    have hS := hSN
    clear hSN
    refine takeE 12 203 ?_
    refine takeE 13 204 ?_
    refine takeE 14 205 ?_
    refine takeE 16 207 ?_
    refine takeF 17 208 (fun wq hSw => (bx4 hSw HY4.out).2.2.1) ?_
    refine takeE 18 209 ?_
    refine ready1 15 (fun K hK => ?_)
    go_simp
    refine (tr_len b TT y2 (HPTR.out.below hS)).mono ?_
    rintro e w' ⟨rfl, rfl⟩
    rw [HOL.out]
    refine hK.out _ _ hS (fun _ => ?_)
    clear hK
    refine takeE 19 210 ?_
    refine takeE 20 211 ?_
    refine takeE 21 212 ?_
    refine takeE 22 213 ?_
    refine takeE 24 215 ?_
    refine takeF 25 216 (fun wq hSw => (bx2 hSw HX4.out).1) ?_
    refine takeE 26 217 ?_
    refine ready1 23 (fun K hK => ?_)
    go_simp
    refine (ar_count a A y2 (HPAR.out.below hS)).mono ?_
    rintro e w' ⟨rfl, rfl⟩
    rw [HCNT.out]
    refine hK.out _ _ hS (fun _ => ?_)
    clear hK
    refine takeE 27 218 ?_
    refine takeE 28 219 ?_
    refine takeE 29 12 ?_
    refine wpAnyH_done (by kernel_rfl) ?_ _
    have HBF := Lib.hid (HBW.out.trans ((HB4.out.trans (hS.mono HB4.out.size)).mono HBW.out.size))
    clear hS
    go_wp2_with fail
    go_ret
    exact ⟨rfl, HBF.out⟩
end Go.Proofs.YtiodfolcnnkdjaaGreat
namespace Go.Proofs.YtiodfolcnnkdjaaGreat
open Go.RowKit

set_option maxRecDepth 100000 in
set_option maxHeartbeats 2000000 in
theorem minimTells_any (m : Int) (cv av u : Value) (cs : List (List Int)) (acs : List ActP) (id v : Int) (c : List Int) (w : World) (hc : ClsAt w cv cs) (ha : ActsIn w av acs) (hu : IntsIn (fun _ => True) w u c) :
  Calls Tryz.prog 3 #[.int .i64 m, cv, av, .int .i64 id, .int .i64 v, u] w fun e w' => e = .returned (.bool true) ∧ Below w.heap.size w w' := by
 have HAW := Lib.hid (fun w => awake15_any w)
 have HFEW := Lib.hid (few_any cv cs 30 10 w hc (by decide))
 have HT := Lib.hid (fun (n : Nat) (w1 : World) (hb : Below w.heap.size w w1) h1 h2 h3 h4 h5 => tells15_any n cv av u cs acs id v c w1 h1 (hc.below hb) (ha.below hb) (hu.below hb) h2 h3 h4 h5)
 obtain ⟨Ac, cc, rfl, _⟩ := hc
 obtain ⟨Aa, ca, rfl, _⟩ := ha
 obtain ⟨Au, cu, rfl, _⟩ := hu
 by_cases h1 : m < 0
 ·
  have q1 : decide (m < 0) = true := by simpa using h1
  clear h1
  go_enter Tryz.func3, Tryz.ntmps3
  go_wp2_with fail
  refine (HAW.out _).mono ?_
  rintro e w' ⟨rfl, hb⟩
  go_wp2_with fail
  go_ret
  exact ⟨rfl, hb⟩
 have q1 : decide (m < 0) = false := by simpa using h1
 by_cases h2 : 20 < m
 ·
  have q2 : decide (20 < m) = true := by simpa using h2
  clear h1 h2
  go_enter Tryz.func3, Tryz.ntmps3
  go_wp2_with fail
  refine (HAW.out _).mono ?_
  rintro e w' ⟨rfl, hb⟩
  go_wp2_with fail
  go_ret
  exact ⟨rfl, hb⟩
 have q2 : decide (20 < m) = false := by simpa using h2
 obtain ⟨n, rfl⟩ : ∃ n : Nat, m = n := ⟨m.toNat, by omega⟩
 have hn : n ≤ 20 := by omega
 cases hf : fewB cs 30 10 with
 | false =>
  rw [hf] at HFEW
  clear h1 h2 hf
  go_enter Tryz.func3, Tryz.ntmps3
  go_wp2_with fail
  refine HFEW.out.mono ?_
  rintro e w1 ⟨rfl, hb1⟩
  go_wp2_with fail
  refine (HAW.out _).mono ?_
  rintro e w' ⟨rfl, hb⟩
  go_wp2_with fail
  go_ret
  exact ⟨rfl, hb1.trans (hb.mono hb1.size)⟩
 | true =>
  rw [hf] at HFEW
  unfold fewB at hf
  simp only [Bool.and_eq_true, decide_eq_true_eq, List.all_eq_true] at hf
  obtain ⟨hf1, hf2⟩ := hf
  by_cases h3 : 40 < acs.length
  ·
   have q3 : decide ((40 : Int) < (acs.length : Int)) = true := by simp; omega
   clear h1 h2 hf1 hf2 h3
   go_enter Tryz.func3, Tryz.ntmps3
   go_wp2_with fail
   refine HFEW.out.mono ?_
   rintro e w1 ⟨rfl, hb1⟩
   go_wp2_with fail
   refine (HAW.out _).mono ?_
   rintro e w' ⟨rfl, hb⟩
   go_wp2_with fail
   go_ret
   exact ⟨rfl, hb1.trans (hb.mono hb1.size)⟩
  have q3 : decide ((40 : Int) < (acs.length : Int)) = false := by simp; omega
  by_cases h4 : 20 < c.length
  ·
   have q4 : decide ((20 : Int) < (c.length : Int)) = true := by simp; omega
   clear h1 h2 hf1 hf2 h3 h4
   go_enter Tryz.func3, Tryz.ntmps3
   go_wp2_with fail
   refine HFEW.out.mono ?_
   rintro e w1 ⟨rfl, hb1⟩
   go_wp2_with fail
   refine (HAW.out _).mono ?_
   rintro e w' ⟨rfl, hb⟩
   go_wp2_with fail
   go_ret
   exact ⟨rfl, hb1.trans (hb.mono hb1.size)⟩
  have q4 : decide ((20 : Int) < (c.length : Int)) = false := by simp; omega
  have HTA := Lib.hid (fun (w1 : World) (hb : Below w.heap.size w w1) => HT.out n w1 hb (by omega) (by omega) (fun c hc => by have := hf2 c hc; omega) (by omega) (by omega))
  clear h1 h2 hf1 hf2
  go_enter Tryz.func3, Tryz.ntmps3
  go_wp2_with fail
  refine HFEW.out.mono ?_
  rintro e w1 ⟨rfl, hb1⟩
  go_wp2_with fail
  refine (HTA.out w1 hb1).mono ?_
  rintro e w2 ⟨rfl, hb2⟩
  go_wp2_with fail
  refine (HAW.out _).mono ?_
  rintro e w' ⟨rfl, hb⟩
  go_wp2_with fail
  go_ret
  exact ⟨rfl, hb1.trans ((hb2.trans (hb.mono hb2.size)).mono hb1.size)⟩
end Go.Proofs.YtiodfolcnnkdjaaGreat
