/- The law's comparison (tells) answers yes; AnalyzeTells. -/
import Derived.Test.YtfbiaclpopjipaaGreatDt
import Derived.Test.YtfbiaclpopjipaaGreatDi
namespace Go.Proofs.YtfbiaclpopjipaaGreat
open Go.RowKit

theorem conf_same {A : Arn} {T : Trl} {ra : RAr} {t : RTr} (hs : Sim T t.items) (ha : ASim A ra.all) (hao : ra.Ok) (hto : t.Ok) (hN : t.items.length ≤ 100) (id : Int) : ConfSame (confP A T id).1 (confP A T id).2 ra t id := by
  obtain ⟨res, hit, hc⟩ := conf_eq hs ha id
  intro W av tv h1 h2
  refine (ref_conflict t.items.length hN id res ra t av tv W h1 h2 hao hto hit).mono ?_
  rintro e w' ⟨hb, h⟩
  refine ⟨?_, hb⟩
  rcases hc with ⟨g1, g2, g3⟩ | ⟨g1, g2, g3⟩ | ⟨g1, s, g2, g3⟩
  · rw [g2]
    rcases h with ⟨c, _, rfl, hc, _⟩ | ⟨h, _⟩
    · rw [if_neg g1] at hc
      subst hc
      refine ⟨none, 0, none, 0, none, 0, ?_, IntsIn.nil _ _, IntsIn.nil _ _, IntsIn.nil _ _⟩
      show Ending.returned (.tuple #[_, .int .i64 _]) = .returned (.tuple #[_, .int .i64 (((rFailsAt ra.all t.items id).2.toNat : Nat) : Int)])
      rw [Int.toNat_of_nonneg g3]
      rfl
    · exact absurd h g1
  · rw [g3]
    rcases h with ⟨c, _, rfl, hc, _⟩ | ⟨_, s, _, _, _, hr, _⟩
    · rw [if_pos g1] at hc
      subst hc
      exact ⟨none, 0, none, 0, none, 0, rfl, IntsIn.nil _ _, IntsIn.nil _ _, IntsIn.nil _ _⟩
    · rw [g2] at hr
      cases hr
  · rw [g3]
    rcases h with ⟨c, _, _, _, hn⟩ | ⟨_, s', x, y, z, hr, rfl, hx, hy, hz⟩
    · rw [hn g1] at g2
      cases g2
    · rw [g2] at hr
      obtain rfl := Option.some.inj hr
      have kx := hx
      have ky := hy
      have kz := hz
      obtain ⟨Ax, cx, rfl, _⟩ := hx
      obtain ⟨Ay, cy, rfl, _⟩ := hy
      obtain ⟨Az, cz, rfl, _⟩ := hz
      exact ⟨Ax, cx, Ay, cy, Az, cz, rfl, kx, ky, kz⟩
theorem cfRun_len {A : Arn} {T : Trl} {lv : Int} {s s' : CSt} {ls : List Int} (h : cfRun A T lv s ls = some s') : s'.lits.length ≤ s.lits.length + ls.length ∧ s'.hints.length ≤ s.hints.length + ls.length ∧ s'.met.length ≤ s.met.length + ls.length := by
  induction ls generalizing s with
  | nil =>
    obtain rfl := Option.some.inj h
    exact ⟨Nat.le_refl _, Nat.le_refl _, Nat.le_refl _⟩
  | cons l r ih =>
    unfold cfRun at h
    cases hs : cfStep A T lv s l with
    | none => rw [hs] at h; cases h
    | some s1 =>
      rw [hs] at h
      obtain ⟨h1, h2, h3⟩ := ih h
      have key : s1.lits.length ≤ s.lits.length + 1 ∧ s1.hints.length ≤ s.hints.length + 1 ∧ s1.met.length ≤ s.met.length + 1 := by
        have hmet : (if 0 < T.level (litV l : Nat) then s.met ++ [(litV l : Int)] else s.met).length ≤ s.met.length + 1 := by
          split
          · simp
          · exact Nat.le_succ _
        unfold cfStep at hs
        split at hs
        · obtain rfl := Option.some.inj hs
          exact ⟨Nat.le_succ _, Nat.le_succ _, Nat.le_succ _⟩
        · split at hs
          · obtain rfl := Option.some.inj hs
            exact ⟨by simp, Nat.le_succ _, hmet⟩
          · split at hs
            · cases hs
            · obtain rfl := Option.some.inj hs
              exact ⟨Nat.le_succ _, by simp, hmet⟩
      simp only [List.length_cons]
      omega
theorem confP_len (A : Arn) (T : Trl) (id : Int) : (confP A T id).1.lits.length ≤ T.order.length ∧ (confP A T id).1.hints.length ≤ T.order.length + 1 ∧ (confP A T id).1.met.length ≤ T.order.length := by
  unfold confP
  split
  · exact ⟨Nat.zero_le _, Nat.zero_le _, Nat.zero_le _⟩
  · split
    · exact ⟨Nat.zero_le _, Nat.zero_le _, Nat.zero_le _⟩
    · split
      · exact ⟨Nat.zero_le _, Nat.zero_le _, Nat.zero_le _⟩
      · rename_i s hs
        unfold cfEnd at hs
        obtain ⟨h1, h2, h3⟩ := cfRun_len hs
        simp only [List.length_nil, List.length_reverse, Nat.zero_add] at h1 h2 h3
        refine ⟨h1, ?_, ?_⟩
        · simp only [List.length_append, List.length_reverse, List.length_cons, List.length_nil]
          omega
        · simp only [sortI_length]
          exact h3
/-- the comparison says yes -/
theorem tells_any (n : Nat) (cv av u : Value) (cs : List (List Int)) (acs : List ActP) (id v : Int) (c : List Int) (w : World) (hn : n ≤ 1000) (hc : ClsAt w cv cs) (ha : ActsIn w av acs) (hu : IntsIn (fun _ => True) w u c) (hcl : cs.length ≤ 900) (hce : ∀ c ∈ cs, c.length ≤ 900) (hal : acs.length ≤ 90) (hcc : c.length ≤ 900) :
    Calls Tryz.prog 7 #[.int .i64 (n : Int), cv, av, .int .i64 id, .int .i64 v, u] w fun e w' => e = .returned (.bool true) ∧ Below w.heap.size w w' := by
  have hsim := (tsim0 n (by omega)).playAll acs
  have hps := (psim0 inv0 arn0_get).addAll cs (by omega)
  have hrl := rAddAll_low cs ⟨[], 0⟩ 0 rlow0 (fun c h => Nat.le_trans (hce c h) (by omega))
  have htl := rPlayAll_low acs ⟨n, 0, [], [0]⟩ 0 (rtlow0 n)
  have hil := htl.items
  have hol : (playAll (trl0 n) acs).order.length = (rPlayAll ⟨n, 0, [], [0]⟩ acs).items.length := by rw [hsim.sim.order, List.length_map]
  obtain ⟨k1, k2, k3⟩ := confP_len (addAll arn0 0 cs) (playAll (trl0 n) acs) id
  exact tells_core n cv av u cs acs id v c w hn hc ha hu hcl hce hal hcc (conf_same hsim.sim hps.sim ⟨by have := hrl.all; omega, hrl.each⟩ ⟨by omega⟩ (by omega) id) ⟨by omega, by omega, by omega⟩
set_option maxRecDepth 100000 in
set_option maxHeartbeats 2000000 in
theorem analyzeTells_any (m : Int) (cv av u : Value) (cs : List (List Int)) (acs : List ActP) (id v : Int) (c : List Int) (w : World) (hc : ClsAt w cv cs) (ha : ActsIn w av acs) (hu : IntsIn (fun _ => True) w u c) :
    Calls Tryz.prog 3 #[.int .i64 m, cv, av, .int .i64 id, .int .i64 v, u] w fun e w' => e = .returned (.bool true) ∧ Below w.heap.size w w' := by
  have HAW := Lib.hid (fun w => awake_any w)
  have HFEW := Lib.hid (few_any cv cs 30 10 w hc (by decide))
  have HT := Lib.hid (fun (n : Nat) (w1 : World) (hb : Below w.heap.size w w1) h1 h2 h3 h4 h5 => tells_any n cv av u cs acs id v c w1 h1 (hc.below hb) (ha.below hb) (hu.below hb) h2 h3 h4 h5)
  obtain ⟨Ac, cc, rfl, _⟩ := hc
  obtain ⟨Aa, ca, rfl, _⟩ := ha
  obtain ⟨Au, cu, rfl, _⟩ := hu
  by_cases h1 : m < 0
  · have q1 : decide (m < 0) = true := by simpa using h1
    clear h1
    go_enter Tryz.func3, Tryz.ntmps3
    go_wp2_with fail
    refine (HAW.out _).mono ?_
    rintro e w' ⟨rfl, hb⟩
    go_wp2_with fail
    go_ret
    exact ⟨rfl, hb⟩
  have q1 : decide (m < 0) = false := by simpa using h1
  by_cases h2 : 20 < m
  · have q2 : decide (20 < m) = true := by simpa using h2
    clear h1 h2
    go_enter Tryz.func3, Tryz.ntmps3
    go_wp2_with fail
    refine (HAW.out _).mono ?_
    rintro e w' ⟨rfl, hb⟩
    go_wp2_with fail
    go_ret
    exact ⟨rfl, hb⟩
  have q2 : decide (20 < m) = false := by simpa using h2
  obtain ⟨n, rfl⟩ : ∃ n : Nat, m = n := ⟨m.toNat, by omega⟩
  have hn : n ≤ 20 := by omega
  cases hf : fewB cs 30 10 with
  | false =>
    rw [hf] at HFEW
    clear h1 h2 hf
    go_enter Tryz.func3, Tryz.ntmps3
    go_wp2_with fail
    refine HFEW.out.mono ?_
    rintro e w1 ⟨rfl, hb1⟩
    go_wp2_with fail
    refine (HAW.out _).mono ?_
    rintro e w' ⟨rfl, hb⟩
    go_wp2_with fail
    go_ret
    exact ⟨rfl, hb1.trans (hb.mono hb1.size)⟩
  | true =>
    rw [hf] at HFEW
    unfold fewB at hf
    simp only [Bool.and_eq_true, decide_eq_true_eq, List.all_eq_true] at hf
    obtain ⟨hf1, hf2⟩ := hf
    by_cases h3 : 40 < acs.length
    · have q3 : decide ((40 : Int) < (acs.length : Int)) = true := by simp; omega
      clear h1 h2 hf1 hf2 h3
      go_enter Tryz.func3, Tryz.ntmps3
      go_wp2_with fail
      refine HFEW.out.mono ?_
      rintro e w1 ⟨rfl, hb1⟩
      go_wp2_with fail
      refine (HAW.out _).mono ?_
      rintro e w' ⟨rfl, hb⟩
      go_wp2_with fail
      go_ret
      exact ⟨rfl, hb1.trans (hb.mono hb1.size)⟩
    have q3 : decide ((40 : Int) < (acs.length : Int)) = false := by simp; omega
    by_cases h4 : 20 < c.length
    · have q4 : decide ((20 : Int) < (c.length : Int)) = true := by simp; omega
      clear h1 h2 hf1 hf2 h3 h4
      go_enter Tryz.func3, Tryz.ntmps3
      go_wp2_with fail
      refine HFEW.out.mono ?_
      rintro e w1 ⟨rfl, hb1⟩
      go_wp2_with fail
      refine (HAW.out _).mono ?_
      rintro e w' ⟨rfl, hb⟩
      go_wp2_with fail
      go_ret
      exact ⟨rfl, hb1.trans (hb.mono hb1.size)⟩
    have q4 : decide ((20 : Int) < (c.length : Int)) = false := by simp; omega
    have HTA := Lib.hid (fun (w1 : World) (hb : Below w.heap.size w w1) => HT.out n w1 hb (by omega) (by omega) (fun c hc => by have := hf2 c hc; omega) (by omega) (by omega))
    clear h1 h2 hf1 hf2
    go_enter Tryz.func3, Tryz.ntmps3
    go_wp2_with fail
    refine HFEW.out.mono ?_
    rintro e w1 ⟨rfl, hb1⟩
    go_wp2_with fail
    refine (HTA.out w1 hb1).mono ?_
    rintro e w2 ⟨rfl, hb2⟩
    go_wp2_with fail
    refine (HAW.out _).mono ?_
    rintro e w' ⟨rfl, hb⟩
    go_wp2_with fail
    go_ret
    exact ⟨rfl, hb1.trans ((hb2.trans (hb.mono hb2.size)).mono hb1.size)⟩
end Go.Proofs.YtfbiaclpopjipaaGreat
