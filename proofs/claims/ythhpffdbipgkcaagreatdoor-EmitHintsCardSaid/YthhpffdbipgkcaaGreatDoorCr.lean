/- EmitHints: what is found is learned. -/
import Derived.Test.YthhpffdbipgkcaaGreatDoorCq
import Derived.Test.YthhpffdbipgkcaaGreatDoorEu
namespace Go.Proofs.YthhpffdbipgkcaaGreatDoor
open Go.RowKit Go.Maps Go.Shelf

theorem findGo_ok {cs : List (List Int)} : ∀ {m : Nat} {f : Int → Int} {tk us tk' us' : List Int}, findGo cs m f tk us = some (tk', us') → (∀ z ∈ tk, ∃ j : Nat, z = j ∧ j < cs.length) → (∀ z ∈ tk', ∃ j : Nat, z = j ∧ j < cs.length) ∧ tk'.length ≤ tk.length + m := by
  intro m
  induction m with
  | zero =>
    intro f tk us tk' us' h _
    cases h
  | succ m ih =>
    intro f tk us tk' us' h h0
    simp only [findGo] at h
    split at h
    · cases h
    · rename_i hn
      obtain ⟨i, hi, hil⟩ := next_idx hn
      have h1 : ∀ z ∈ tk ++ [(nextF f cs).1], ∃ j : Nat, z = j ∧ j < cs.length := fun z hz => by
        rcases List.mem_append.1 hz with hz | hz
        · exact h0 z hz
        · exact ⟨i, by rw [List.mem_singleton.1 hz, hi], hil⟩
      split at h
      · simp only [Option.some.injEq, Prod.mk.injEq] at h
        obtain ⟨rfl, rfl⟩ := h
        exact ⟨h1, by simp⟩
      · obtain ⟨h2, h3⟩ := ih h h1
        refine ⟨h2, ?_⟩
        rw [List.length_append, List.length_singleton] at h3
        omega
/-- hints that are found are indices of clauses -/
theorem findL_ok {c : List Int} {cs : List (List Int)} {hs : List Int} (h : findL c cs = some hs) : (∀ z ∈ hs, ∃ j : Nat, z = j ∧ j < cs.length) ∧ hs.length ≤ cs.flatten.length + 1 := by
  unfold findL at h
  split at h
  · obtain rfl := Option.some.inj h
    exact ⟨fun z hz => (by cases hz), Nat.zero_le _⟩
  · split at h
    · cases h
    · split at h
      · cases h
      · rename_i tk us hg
        obtain rfl := Option.some.inj h
        obtain ⟨h1, h2⟩ := findGo_ok hg (fun z hz => by cases hz)
        have hl := needL_len (hs := tk.map (fun i => cs.getD i.toNat [])) (us := us)
        rw [List.length_map] at hl
        refine ⟨fun z hz => ?_, by rw [List.length_map]; rw [List.length_nil] at h2; omega⟩
        obtain ⟨y, hy, rfl⟩ := List.mem_map.1 hz
        obtain ⟨k, rfl, hk⟩ := needL_lt y hy
        rw [List.length_map] at hk
        refine h1 _ ?_
        simp only [Int.toNat_natCast, List.getD_eq_getElem?_getD, List.getElem?_eq_getElem hk, Option.getD_some]
        exact List.getElem_mem hk
theorem new_has (m : Nat) (x : Int) : (newLog m).has x = decide (1 ≤ x ∧ x ≤ (m : Int)) := by
  unfold ELog.has newLog
  simp
theorem learn_fails {L : ELog} {c h : List Int} {n : Nat} (he : learnErr L c h = n) (hn : n ≠ 0) : learnNum L c h = 0 ∧ learnLog L c h = L := by
  unfold learnNum learnLog
  rw [he, if_neg hn, if_neg hn]
  exact ⟨rfl, rfl⟩
/-- what is known of the log behind the Forget -/
structure HintLog (n : Nat) (g : Int) (L : ELog) : Prop where
  last : L.last = n
  done : L.done = false
  has : ∀ x : Int, L.has x = decide (1 ≤ x ∧ x ≤ (n : Int) ∧ x ≠ g)
  full : L.full = false
theorem hintLog_new (n : Nat) (hn : n ≤ 100) : HintLog n 0 (newLog n) :=
  ⟨rfl, rfl, fun x => by
    rw [new_has]
    exact decide_eq_decide.2 ⟨fun h => ⟨h.1, h.2, by omega⟩, fun h => ⟨h.1, h.2.1⟩⟩, by
    unfold ELog.full newLog
    simp
    omega⟩
theorem hint_forget (n : Nat) (g : Int) (hn : n ≤ 100) (hg : 1 ≤ g) (hgn : g ≤ (n : Int)) : forgetErr (newLog n) [g] = 0 ∧ HintLog n g (forgetLog (newLog n) [g]) := by
  have hh : (newLog n).has g = true := by rw [new_has]; simp; omega
  have hb : badGo (newLog n) [] [g] = [] := by simp [badGo, hh]
  have he : forgetErr (newLog n) [g] = 0 := by
    unfold forgetErr
    rw [if_neg (show ¬ (newLog n).done = true from by simp [newLog]), if_neg (by rw [hb]; simp), if_neg (by simp), if_neg (by unfold ELog.tot newLog; simp), if_neg]
    unfold newLog
    simp
  refine ⟨he, ?_⟩
  have e : forgetLog (newLog n) [g] = ⟨n, n - 1, [g], [⟨true, n, [], [g]⟩], false⟩ := by
    unfold forgetLog
    rw [if_pos ⟨he, by simp⟩]
    rfl
  rw [e]
  refine ⟨rfl, rfl, fun x => ?_, by unfold ELog.full; simp; omega⟩
  unfold ELog.has
  by_cases hx : x = g
  · subst hx
    simp
  · have : ([g] : List Int).contains x = false := by simpa using hx
    rw [this]
    simp only [Bool.not_false, Bool.and_true]
    exact decide_eq_decide.2 ⟨fun h => ⟨h.1, h.2, hx⟩, fun h => ⟨h.1, h.2.1⟩⟩
theorem hint_learn {n : Nat} {g : Int} {L : ELog} {c h : List Int} (hL : HintLog n g L) (hc : clauseB c = true) (hl : h.length ≤ 65536) (hh : ∀ z ∈ h, 1 ≤ z ∧ z ≤ (n : Int)) :
    (h.contains g = true → learnErr L c h = 170 ∧ learnNum L c h = 0 ∧ (learnLog L c h).last = n) ∧ (h.contains g = false → learnErr L c h = 0 ∧ learnNum L c h = (n : Int) + 1 ∧ (learnLog L c h).done = c.isEmpty) := by
  constructor
  · intro hg
    have he : learnErr L c h = 170 := by
      unfold learnErr
      rw [if_neg (by rw [hL.done]; decide), if_neg (by rw [hc]; decide), if_neg (by omega), if_pos]
      rw [List.any_eq_true]
      refine ⟨g, by simpa using hg, ?_⟩
      rw [hL.has]
      simp
    obtain ⟨h1, h2⟩ := learn_fails he (by decide)
    exact ⟨he, h1, by rw [h2, hL.last]⟩
  · intro hg
    have hgn : g ∉ h := by simpa using hg
    have he : learnErr L c h = 0 := by
      unfold learnErr
      rw [if_neg (by rw [hL.done]; decide), if_neg (by rw [hc]; decide), if_neg (by omega), if_neg, if_neg (by rw [hL.full]; decide)]
      intro ha
      obtain ⟨z, hz, h2⟩ := List.any_eq_true.1 ha
      rw [hL.has] at h2
      obtain ⟨h3, h4⟩ := hh z hz
      have : z ≠ g := fun e => hgn (e ▸ hz)
      simp [h3, h4, this] at h2
    refine ⟨he, ?_, ?_⟩
    · unfold learnNum
      rw [if_pos he, hL.last]
    · unfold learnLog
      rw [if_pos he]
      rfl
theorem LogIn.hide {B : Nat} {w w' : World} {b : Nat} {L : ELog} (h : LogIn (fun _ => False) B w b L) (hb : Below w.heap.size w w') : LogIn (fun g => w.heap.size ≤ g ∧ g < w'.heap.size) B w' b L :=
  ⟨(h.1.below hb).mono (fun _ hg => ⟨hg.1, Nat.lt_of_lt_of_le hg.2.1 hb.size, fun hx => by omega⟩) (fun _ hg => hg.2.1), h.2.1, Nat.le_trans h.2.2 hb.size⟩
theorem ClsOwn.kept {n : Nat} {O : Nat → Prop} {w w' : World} {v : Value} {cs : List (List Int)} (h : ClsOwn n w v cs) (k : Kept O w w') (hO : ∀ g, n ≤ g → ¬ O g) : ClsOwn n w' v cs := by
  obtain ⟨us, h1, h2⟩ := h
  refine ⟨us, own_kept h1 k (fun g hg => hO g (own_lt h1 g hg).1), fun i xs hi => ?_⟩
  obtain ⟨u, hu, ho⟩ := h2 i xs hi
  exact ⟨u, hu, own_kept ho k (fun g hg => hO g (own_lt ho g hg).1)⟩
theorem res_made10 {fn : Func} (h : fn.results = #[.cell 2 27]) {w : World} {b : Nat} {c0 c1 : Value} (hb : w.heap[b]? = some (.cells #[c0, c1] 27 (0, 0))) (tmps : Array Value) (t1 : tmps[2]?.getD undef = .pointer (some ⟨b, 0, none⟩)) : (results fn tmps).run Tryz.prog w = .ok (.agg #[c0, c1]) w := by
  have p0 := mx_cell (j := 0) hb
  have p1 := mx_cell (j := 1) hb
  simp [results, h, go_sem, t1, p0, p1]
set_option maxRecDepth 100000 in
set_option maxHeartbeats 1000000 in
theorem made10_any (u : Value) (xss : List (List Int)) (w : World) (h : RowsAt .i8 w u xss) {cs : List (List Int)} (hcs : (xss.take 14).map madeL = cs) {n : Nat} (hn : cs.length = n) :
    Calls Tryz.prog 5 #[u] w fun e w' => ∃ A k, e = .returned (.agg #[.int .i64 6, .slice A n k]) ∧ ClsOwn w.heap.size w' (.slice A n k) cs ∧ Below w.heap.size w w' := by
  have HA := Lib.hid (fun (W : World) (hb : Below w.heap.size w W) => all_any u xss 14 W (h.below hb) (by decide))
  rw [hcs] at HA
  clear h
  go_enter Tryz.func5, Tryz.ntmps5
  go_wp2_with fail
  refine (HA.out _ (mx_al _ _)).mono ?_
  rintro e w1 ⟨v, rfl, hv, hb⟩
  rw [World.size_alloc] at hv hb
  have HV := Lib.hid hv
  have b0 : w1.heap[w.heap.size]? = some (.cells #[.int .i64 0, .slice none 0 0] 27 (0, 0)) := (hb.block _ (by omega)).trans (World.alloc_heap_new _ _)
  have HB := Lib.hid ((mx_al w (.cells #[.int .i64 0, .slice none 0 0] 27)).trans (hb.mono (Nat.le_succ _)))
  have hlt := heap_lt b0
  obtain ⟨us, ho, _⟩ := hv
  obtain ⟨Al, cl, rfl, _⟩ := mx_slice ho
  rw [hn] at HV ⊢
  clear ho hn
  have f0 := free_of_block (j := 0) b0
  have f1 := free_of_block (j := 1) b0
  have e0 := mx_cell (j := 0) b0
  have e1 := mx_cell (j := 1) b0
  have HB0 := Lib.hid b0
  clear hb b0
  go_wp2_with fail
  have hs := mx_set (mx_set HB0.out (.int .i64 6) (j := 0)) (.slice Al n cl) (j := 1)
  have hk2 : Kept (fun g => g = w.heap.size) w1 ((w1.setCell ⟨w.heap.size, 0, none⟩ (.int .i64 6)).setCell ⟨w.heap.size, 1, none⟩ (.slice Al n cl)) := Kept.setCell (O := fun g => g = w.heap.size) (Kept.setCell (O := fun g => g = w.heap.size) (Kept.refl _ w1) _ _ rfl) _ _ rfl
  refine bodyPost_ret (res_made10 (b := w.heap.size) rfl hs _ (by simp)) rfl ?_
  exact ⟨_, _, rfl, (HV.out.kept hk2 (fun g hg e => by omega)).mono (Nat.le_succ _), HB.out.trans (hk2.below (fun g e => by omega) HB.out.size)⟩
set_option maxRecDepth 100000 in
set_option maxHeartbeats 4000000 in
theorem emitHints_any (l x : Value) (xss : List (List Int)) (xs : List Int) (wh : Int) (w : World) (ht : TabW w) (hl : RowsAt .i8 w l xss) (hx : RowAt .i8 w x xs) (hw0 : 0 ≤ wh) (hw1 : wh ≤ 255) :
    Calls Tryz.prog 3 #[l, x, .int .u8 wh] w fun e w' => e = .returned (.bool true) ∧ Below w.heap.size w w' := by
  have HAW := Lib.hid (awake_any w ht)
  go_enter Tryz.func3, Tryz.ntmps3
  go_wp2_with fail
  refine HAW.out.mono ?_
  rintro e w1 ⟨rfl, hb⟩
  have HB1 := Lib.hid hb
  obtain ⟨cs, hcs⟩ : ∃ z, (xss.take 14).map madeL = z := ⟨_, rfl⟩
  obtain ⟨n, hn⟩ : ∃ n, cs.length = n := ⟨_, rfl⟩
  have HM := Lib.hid (made10_any l xss w1 (hl.below hb) hcs hn)
  have HNN := Lib.hid hn
  have hcn : n ≤ 14 := by rw [← hn, ← hcs]; simp; omega
  have hcb : ∀ ys ∈ cs, clauseB ys = true ∧ ys.length ≤ 6 := fun ys hy => by
    rw [← hcs] at hy
    obtain ⟨z, _, rfl⟩ := List.mem_map.1 hy
    exact ⟨madeL_ok z, by unfold madeL; simp; omega⟩
  have hfl := flat_len (cs := cs) (m := 6) (fun ys hy => (hcb ys hy).2)
  have HFL := Lib.hid (show cs.flatten.length ≤ 84 from by omega)
  have HCB := Lib.hid (fun ys (hy : ys ∈ cs) => (hcb ys hy).1)
  obtain ⟨c, hc⟩ : ∃ z, madeL xs = z := ⟨_, rfl⟩
  have HCC := Lib.hid (show clauseB c = true from by rw [← hc]; exact madeL_ok xs)
  have HMC := Lib.hid (fun (W : World) (h : Below w.heap.size w W) => made_any x xs W (hx.below h))
  rw [hc] at HMC
  clear hb hl hx hcs hcb hfl hc hn
  go_wp2_with fail
  refine HM.out.mono ?_
  rintro e w2 ⟨Al, cl, rfl, hv, hb⟩
  have HV := Lib.hid hv
  have HB2 := Lib.hid (HB1.out.trans (hb.mono HB1.out.size))
  have HW1 := Lib.hid (show w.heap.size ≤ w1.heap.size from HB1.out.size)
  obtain ⟨W2, hW2⟩ : ∃ z, w2.alloc (.cells #[.int .i64 6, .slice Al n cl] 27) = z := ⟨_, rfl⟩
  have hbx : W2.heap[w2.heap.size]? = some (.cells #[.int .i64 6, .slice Al n cl] 27 (0, 0)) := by rw [← hW2]; exact World.alloc_heap_new _ _
  have hbW : Below w2.heap.size w2 W2 := by rw [← hW2]; exact mx_al _ _
  have HVW := Lib.hid (HV.out.clsIn.below hbW)
  have HBX := Lib.hid hbx
  have HBW := Lib.hid (HB2.out.trans (hbW.mono HB2.out.size))
  have HW2 := Lib.hid hW2
  have HLTW := Lib.hid (heap_lt hbx)
  clear hb hv hbx hbW hW2
  go_wp2_with fail
  rw [HW2.out]
  refine (new_in n W2 (by omega)).mono ?_
  rintro e w3 ⟨rfl, hlog, hb3⟩
  have HLOG := Lib.hid hlog
  have HB3 := Lib.hid hb3
  clear hlog hb3
  go_wp2_with fail
  refine (HMC.out _ (HBW.out.trans (HB3.out.mono HBW.out.size))).mono ?_
  rintro e w4 ⟨vc, rfl, hc, hb4⟩
  obtain ⟨Ac, cc, rfl, _⟩ := mx_slice hc
  have HC := Lib.hid hc
  have HB4 := Lib.hid hb4
  have e1 : w4.cell? ⟨w2.heap.size, 1, none⟩ = some (.slice Al n cl) := mx_cell (j := 1) ((hb4.block _ (Nat.lt_of_lt_of_le HLTW.out HB3.out.size)).trans ((HB3.out.block _ HLTW.out).trans HBX.out))
  have HFD := Lib.hid (rup_find _ _ c cs w4 ((IntsIn.of_own hc).mono (O' := fun _ => True) (fun _ _ => trivial)) (((HVW.out.below HB3.out).below hb4).mono (fun _ _ => trivial)) HCC.out HCB.out (by have := HNN.out; omega) (by have := HFL.out; omega))
  clear hc hb4
  go_wp2_with fail
  refine HFD.out.mono ?_
  rintro e w5 ⟨hfd, hb5⟩
  have hu : ∃ (A : Option Addr) (k : Nat) (ok : Bool) (hs : List Int), e = .returned (.tuple #[.slice A hs.length k, .bool ok, .int .i64 0]) ∧ w5.ownsRow w4.heap.size 3 1 (.slice A hs.length k) hs.length (hs.map (Value.int .i64)) ∧ (ok = true → findL c cs = some hs) := by
    cases hr : findL c cs with
    | none =>
      rw [hr] at hfd
      exact ⟨none, 0, false, [], hfd, World.ownsRow_nil _ _ _ _, fun h => by cases h⟩
    | some hs =>
      rw [hr] at hfd
      obtain ⟨v, he, ho⟩ := hfd
      obtain ⟨A, k, rfl, _⟩ := mx_slice ho
      exact ⟨A, k, true, hs, he, ho, fun _ => rfl⟩
  obtain ⟨Ah, kh, ok, hs, rfl, ho, hok⟩ := hu
  have HO := Lib.hid ho
  have HOK := Lib.hid hok
  have HB5 := Lib.hid hb5
  have HB35 := Lib.hid (HB4.out.trans (hb5.mono HB4.out.size))
  have HL5 := Lib.hid (HLOG.out.hide HB35.out)
  have HWL := Lib.hid (show w.heap.size ≤ W2.heap.size from HBW.out.size)
  have e2 : w5.cell? ⟨w2.heap.size, 1, none⟩ = some (.slice Al n cl) := (hb5.cell (p := ⟨w2.heap.size, 1, none⟩) (Nat.lt_of_lt_of_le (Nat.lt_of_lt_of_le HLTW.out HB3.out.size) HB4.out.size)).trans e1
  clear hfd hb5 ho hok HFD e1
  go_upto_if 52 with fail
  generalize hq : decide (0 < n) = q
  go_cut [13] (fun gv wx => ∃ (g : Int) (L : ELog), gv = .int .i64 g ∧ Hid (HintLog n g L) ∧ Hid (LogIn (fun g => w3.heap.size ≤ g ∧ g < w5.heap.size) W2.heap.size wx (W2.heap.size + 1) L) ∧ Hid (Kept (fun g => W2.heap.size ≤ g ∧ g < w5.heap.size ∧ ¬ (w3.heap.size ≤ g ∧ g < w5.heap.size)) w5 wx))
  case first =>
    cases q with
    | false =>
      clear hq
      have HH := Lib.hid (hintLog_new n (by omega))
      go_wp2_with fail
      go_meet
      exact ⟨0, newLog n, rfl, HH, HL5, Lib.hid (Kept.refl _ _)⟩
    | true =>
      have hpos : (0 : Int) < (n : Int) := by
        have := of_decide_eq_true hq
        omega
      clear hq
      obtain ⟨g, hg⟩ : ∃ g, 1 + wh % (n : Int) = g := ⟨_, rfl⟩
      have hm0 := Int.emod_nonneg wh (show (n : Int) ≠ 0 by omega)
      have hm1 := Int.emod_lt_of_pos wh hpos
      have hg1 : 1 ≤ g := by omega
      have hg2 : g ≤ (n : Int) := by omega
      have HG := Lib.hid (hint_forget n g (by omega) hg1 hg2)
      have HGW := Lib.hid (show ∀ y ∈ [g], (Lit.int .i64 y).wf = true from fun y hy => by
        rw [List.mem_singleton.1 hy]
        exact wf64 (by omega) (by omega))
      have hw : wrap64 g = g := (by unfold wrap64; omega)
      clear hm0 hm1 hg1 hg2
      go_wp2_with fail
      have i1 := (ints_new w5 [g] 3).mono (O' := fun k => w5.heap.size ≤ k ∨ k < W2.heap.size ∨ (w3.heap.size ≤ k ∧ k < w5.heap.size)) (fun _ h => .inl h)
      have hc := forget_in W2.heap.size (W2.heap.size + 1) _ _ [g] w5 _ HL5.out (below_alloc _ _) (fun _ h => h.2) i1 (by simp) HGW.out
      rw [HG.out.1] at hc
      have HC := Lib.hid hc
      have HHL := Lib.hid HG.out.2
      clear hc i1 HG
      refine HC.out.mono ?_
      rintro e w6 ⟨rfl, hl6, hk6⟩
      have HK6 := Lib.hid ((Kept.of_below (below_alloc w5 (.cells #[.int .i64 g] 3))).trans hk6 (fun _ _ h => h))
      have HL6 := Lib.hid hl6
      clear HC hl6 hk6
      go_wp2_with fail
      go_meet
      exact ⟨g, _, rfl, HHL, HL6, HK6⟩
  case rest =>
    obtain ⟨g, L, rfl, HH, HLG, HK⟩ := hcut
    have HB25 := Lib.hid (HB3.out.trans (HB35.out.mono HB3.out.size))
    have HBC := Lib.hid (HBW.out.trans ((HB25.out.trans (HK.out.below (fun g h => h.1) HB25.out.size)).mono HWL.out))
    clear hq
    cases ok with
    | false =>
      go_wp2_with fail
      go_ret
      exact ⟨rfl, HBC.out⟩
    | true =>
      obtain ⟨hz1, hz2⟩ := findL_ok (HOK.out rfl)
      have HHS := Lib.hid hz1
      have hsl : hs.length ≤ 85 := by have := HFL.out; omega
      have HO2 := Lib.hid (own_kept HO.out HK.out (fun k hk h => h.2.2 ⟨Nat.le_trans HB4.out.size (own_lt HO.out k hk).1, (own_lt HO.out k hk).2⟩))
      have HC5 := Lib.hid (own_below HC.out HB5.out)
      have HC2 := Lib.hid (own_kept HC5.out HK.out (fun k hk h => h.2.2 ⟨(own_lt HC5.out k hk).1, (own_lt HC5.out k hk).2⟩))
      have HCX := Lib.hid (fun k (hk : (Value.slice Ac c.length cc).ownBlock = some k) => (show w3.heap.size ≤ k ∧ k < w5.heap.size from ⟨(own_lt HC5.out k hk).1, (own_lt HC5.out k hk).2⟩))
      have HSZ := Lib.hid HK.out.size
      have HLT2 := Lib.hid (show w2.heap.size < w5.heap.size from Nat.lt_of_lt_of_le (Nat.lt_of_lt_of_le HLTW.out HB3.out.size) HB35.out.size)
      have HCL := Lib.hid (show wc.cell? ⟨w2.heap.size, 1, none⟩ = some (.slice Al n cl) from (HK.out.cell (p := ⟨w2.heap.size, 1, none⟩) HLT2.out (fun h => by have h1 := HLTW.out; have h2 : W2.heap.size ≤ w2.heap.size := h.1; omega)).trans e2)
      obtain ⟨hh, hhh⟩ : ∃ z, hs.map (fun y => y + 1) = z := ⟨_, rfl⟩
      have HHL := Lib.hid (show hh.length = hs.length from by rw [← hhh]; simp)
      have hhr : ∀ z ∈ hh, 1 ≤ z ∧ z ≤ (n : Int) := fun z hz => by
        rw [← hhh] at hz
        obtain ⟨y, hy, rfl⟩ := List.mem_map.1 hz
        obtain ⟨j, rfl, hj⟩ := HHS.out y hy
        have := HNN.out
        omega
      have HHW := Lib.hid (show ∀ z ∈ hh, (Lit.int .i64 z).wf = true from fun z hz => by
        have := hhr z hz
        exact wf64 (by omega) (by omega))
      have HLN := Lib.hid (hint_learn (c := c) (h := hh) HH.out HCC.out (by have := HHL.out; omega) hhr)
      have HCI := Lib.hid (contains_i (O := fun _ => True) (y := g) (xs := hh))
      have HHE := Lib.hid hhh
      clear hz1 hz2 hhr hhh e2 HO HC HOK
      obtain ⟨i0, hi, hz0, hz1, hz2⟩ := info_parts cinfo_int
      go_wp2_with fail
      go_loopw [16, 73] (fun ov iv wq => ∃ j : Nat, j ≤ hs.length ∧ iv = .int .i64 j ∧ Hid (wq.ownsRow wc.heap.size 3 1 ov j (((hs.take j).map (fun y => y + 1)).map (Value.int .i64))) ∧ Hid (Below wc.heap.size wc wq)) (fun _ iv _ => hs.length - (intOf iv).toNat)
      case atStart => exact ⟨0, Nat.zero_le _, rfl, Lib.hid (World.ownsRow_nil _ _ _ _), Lib.hid (Below.refl _ _)⟩
      case round =>
        obtain ⟨j, hj, rfl, HO, HBQ⟩ := hrel
        obtain ⟨Ao, co, rfl, _⟩ := mx_slice HO.out
        by_cases hlt : j < hs.length
        · obtain ⟨z, hzk⟩ := getElem_of hlt
          obtain ⟨k, rfl, hk⟩ := HHS.out z (List.mem_of_getElem? hzk)
          obtain ⟨gl, cl', hv1, hg0, hg1, e0⟩ := own_cell HO2.out hzk
          simp only [Value.slice.injEq, true_and] at hv1
          obtain ⟨rfl, rfl⟩ := hv1
          have d1 : wr.cell? ⟨gl, j, none⟩ = some (.int .i64 (k : Int)) := (HBQ.out.cell (p := ⟨gl, j, none⟩) hg1).trans e0
          have HTK := Lib.hid (show (((hs.take (j + 1)).map (fun y => y + 1)).map (Value.int .i64)) = (((hs.take j).map (fun y => y + 1)).map (Value.int .i64)) ++ [.int .i64 ((k : Int) + 1)] from by
            rw [List.take_add_one, hzk]
            simp)
          have hz1' := HBQ.out.size
          have hkn : k < 14 := by have := HNN.out; omega
          clear hzk e0 hk
          go_wp2_with (at_builtin; refine wpList_append_own_at _ rfl _ _ 36 rfl wc.heap.size 3 i0 (.int .i64 0) 1 8 Tryz.underlying36 hi hz0 hz1 hz2 rfl (by decide) _ j _ rfl (own_below HO.out (mx_al wr _)) ⟨wr.heap.size, 0, none⟩ 1 1 [.int .i64 ((k : Int) + 1)] rfl rfl (fun i u hi => by
            match i, hi with
            | 0, hi => simp at hi; subst hi; simp [Addr.add]) (fun u hu => by rw [List.mem_singleton.1 hu]; rfl) (by unfold maxLen; omega) (by omega) (by simp; omega) ?_; intro v' w2' hown hgrow hnl2 hat)
          have HO2' := Lib.hid hown
          have HB2' := Lib.hid (HBQ.out.trans (((mx_al wr (.cells #[.int .i64 ((k : Int) + 1)] 3)).mono hz1').grown hgrow (by simp; omega) (fun g hg => (own_lt HO.out g hg).1)))
          clear hown hgrow hnl2 hat
          go_wp2
          go_roundw
          case rel => exact ⟨j + 1, by omega, by go_num, Lib.hid (by rw [HTK.out]; exact HO2'.out), HB2'⟩
          case measure => simp [intOf]; omega
        · obtain rfl : j = hs.length := by omega
          have ho := HO.out
          rw [List.take_length, HHE.out] at ho
          have HO3 := Lib.hid (show wr.ownsRow wc.heap.size 3 1 (.slice Ao hs.length co) hh.length (hh.map (Value.int .i64)) from by rw [HHL.out]; exact ho)
          have HX3 := Lib.hid (show ∀ k, (Value.slice Ao hs.length co).ownBlock = some k → wc.heap.size ≤ k from fun k hk => (own_lt HO3.out k hk).1)
          have HC3 := Lib.hid (own_below HC2.out HBQ.out)
          have ic := (IntsIn.of_own HC3.out).mono (O' := fun k => wc.heap.size ≤ k ∨ k < W2.heap.size ∨ (w3.heap.size ≤ k ∧ k < w5.heap.size)) (fun k h => .inr (.inr (HCX.out k h.2)))
          have ih := (IntsIn.of_own HO3.out).mono (O' := fun k => wc.heap.size ≤ k ∨ k < W2.heap.size ∨ (w3.heap.size ≤ k ∧ k < w5.heap.size)) (fun k h => .inl h.1)
          have hc := learn_in W2.heap.size (W2.heap.size + 1) L _ _ c hh wc wr HLG.out HBQ.out (fun k h => Nat.lt_of_lt_of_le h.2 HSZ.out) ic ih (by
            have h := HCC.out
            unfold clauseB at h
            rw [Bool.and_eq_true, decide_eq_true_eq] at h
            omega) (by have := HHL.out; omega) HHW.out
          have HBR := Lib.hid (HBC.out.trans (HBQ.out.mono HBC.out.size))
          have HW2C := Lib.hid (show W2.heap.size ≤ wr.heap.size from Nat.le_trans (Nat.le_trans HB25.out.size HSZ.out) HBQ.out.size)
          have hcw := HCL.out
          have HCR := Lib.hid ((HBQ.out.cell (p := ⟨w2.heap.size, 1, none⟩) (Nat.lt_of_lt_of_le HLT2.out HSZ.out)).trans HCL.out)
          have hct : ∀ W, IntsIn (fun _ => True) W (.slice Ao hs.length co) hh → Calls Tryz.prog 11 #[.slice Ao hs.length co, .int .i64 g] W fun e w' => e = .returned (.bool (hh.contains g)) ∧ W = w' := fun W h => contains_i _ hh g W h (by have := HHL.out; omega)
          obtain ⟨hl1, hl2⟩ := HLN.out
          obtain ⟨b, hb⟩ : ∃ b, hh.contains g = b := ⟨_, rfl⟩
          rw [hb] at hct hl1 hl2
          have HCT := Lib.hid hct
          cases b with
          | true =>
            obtain ⟨q1, q2, q3⟩ := hl1 rfl
            rw [q1, q2] at hc
            have HC := Lib.hid hc
            have HQ3 := Lib.hid q3
            clear hc ic ih hl1 hl2 q1 q2 q3 hb hct ho hcw
            go_wp2_with fail
            refine HC.out.mono ?_
            rintro e w7 ⟨rfl, hl7, hk7⟩
            have HL7 := Lib.hid hl7
            have HB7 := Lib.hid (HBR.out.trans ((hk7.toBelow HW2C.out).mono HWL.out))
            have HI7 := Lib.hid ((IntsIn.of_own (own_kept HO3.out hk7 (fun k hk h => by have := HX3.out k hk; omega))).mono (O' := fun _ => True) (fun _ _ => trivial))
            have HLT7 := Lib.hid (Nat.lt_of_lt_of_le (Nat.lt_of_lt_of_le HLT2.out HSZ.out) (Nat.le_trans HBQ.out.size hk7.size))
            have HC7 := Lib.hid ((hk7.cell (p := ⟨w2.heap.size, 1, none⟩) (Nat.lt_of_lt_of_le (Nat.lt_of_lt_of_le HLT2.out HSZ.out) HBQ.out.size) (fun h => by have h1 := HLTW.out; have h2 : W2.heap.size ≤ w2.heap.size := h.1; omega)).trans HCR.out)
            clear hl7 hk7
            go_wp2_with fail
            refine (HCT.out _ HI7.out).mono ?_
            rintro e w' ⟨rfl, rfl⟩
            go_upto_region 27 with fail
            refine wp_region_held_drew (S := fun w' => Below w7.heap.size w7 w') (by kernel_rfl) (mx_drew w7) (fun hS => ?_)
            refine takeE 0 93 ?_
            refine takeE 1 94 ?_
            refine takeE 2 95 ?_
            refine takeE 3 96 ?_
            refine takeE 4 97 ?_
            refine takeE 5 98 ?_
            refine takeE 6 99 ?_
            refine takeE 7 100 ?_
            refine takeE 9 102 ?_
            refine takeF 10 103 (fun wq hSw => (hSw.cell (p := ⟨w2.heap.size, 1, none⟩) HLT7.out).trans HC7.out) ?_
            refine takeE 11 104 ?_
            refine ready1 8 (fun K hK => ?_)
            go_simp
            have hll := log_last _ _ _ (HL7.out.1.below (mx_drew w7))
            rw [HQ3.out] at hll
            refine hll.mono ?_
            rintro e w' ⟨rfl, rfl⟩
            refine hK.out _ _ hS (fun _ => ?_)
            clear hK
            refine takeE 12 105 ?_
            refine takeE 13 106 ?_
            refine takeE 14 6 ?_
            refine wpAnyH_done (by kernel_rfl) ?_ _
            go_wp2_with fail
            go_ret
            exact ⟨rfl, HB7.out.trans ((mx_drew w7).mono HB7.out.size)⟩
          | false =>
            obtain ⟨q1, q2, q3⟩ := hl2 rfl
            rw [q1, q2] at hc
            have HC := Lib.hid hc
            obtain ⟨d, hd⟩ : ∃ d, c.isEmpty = d := ⟨_, rfl⟩
            have hcd : ((c.length : Int) == 0) = d := by
              rw [← hd]
              cases c with
              | nil => rfl
              | cons y r => simp; omega
            rw [hd] at q3
            have HQ3 := Lib.hid q3
            have HCD := Lib.hid hcd
            clear hc ic ih hl1 hl2 q1 q2 q3 hb hct ho hcw hcd hd
            go_wp2_with fail
            refine HC.out.mono ?_
            rintro e w7 ⟨rfl, hl7, hk7⟩
            have HL7 := Lib.hid (log_done _ _ _ hl7.1)
            have HB7 := Lib.hid (HBR.out.trans ((hk7.toBelow HW2C.out).mono HWL.out))
            have HI7 := Lib.hid ((IntsIn.of_own (own_kept HO3.out hk7 (fun k hk h => by have := HX3.out k hk; omega))).mono (O' := fun _ => True) (fun _ _ => trivial))
            have e7 : w7.cell? ⟨w2.heap.size, 1, none⟩ = some (.slice Al n cl) := (hk7.cell (p := ⟨w2.heap.size, 1, none⟩) (Nat.lt_of_lt_of_le (Nat.lt_of_lt_of_le HLT2.out HSZ.out) HBQ.out.size) (fun h => by have h1 := HLTW.out; have h2 : W2.heap.size ≤ w2.heap.size := h.1; omega)).trans HCR.out
            clear hl7 hk7
            go_wp2_with fail
            refine (HCT.out _ HI7.out).mono ?_
            rintro e w' ⟨rfl, rfl⟩
            have hl := HL7.out
            rw [HQ3.out] at hl
            have HLD := Lib.hid hl
            clear hl
            go_wp2_with fail
            refine HLD.out.mono ?_
            rintro e w' ⟨rfl, rfl⟩
            have hcd := HCD.out
            go_wp2_with fail
            go_ret
            exact ⟨rfl, HB7.out⟩
end Go.Proofs.YthhpffdbipgkcaaGreatDoor
