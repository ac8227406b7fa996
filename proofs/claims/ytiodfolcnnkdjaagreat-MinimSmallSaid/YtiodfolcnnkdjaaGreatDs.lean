/- The law's comparison (tells): what it meets. -/
import Derived.Test.YtiodfolcnnkdjaaGreatDd
import Derived.Test.YtiodfolcnnkdjaaGreatAf
import Derived.Test.YtiodfolcnnkdjaaGreatTb
import Derived.Test.YtiodfolcnnkdjaaGreatAp
import Derived.Test.YtiodfolcnnkdjaaGreatLw
import Derived.Test.YtiodfolcnnkdjaaGreatAs
namespace Go.Proofs.YtiodfolcnnkdjaaGreat
open Go.RowKit

set_option maxRecDepth 100000 in
set_option maxHeartbeats 1000000 in
theorem ints_08 {O : Nat → Prop} (u : Value) (xs : List Int) (w : World) (h1 : IntsIn O w u xs) (hs : xs.length ≤ 1000000) :
    Calls Tryz.prog 22 #[u] w fun e w' => ∃ v, e = .returned v ∧ w'.ownsRow w.heap.size 3 1 v xs.length (xs.map (Value.int .i64)) ∧ Below w.heap.size w w' := by
  obtain ⟨i0, hi, hz0, hz1, hz2⟩ := info_parts tinfo_int
  obtain ⟨A, c, rfl, hc, _, hx⟩ := h1
  have HX := Lib.hid hx
  clear hx
  go_enter Tryz.func22, Tryz.ntmps22
  go_wp2_with fail
  go_loopw [3, 8] (fun t i wr => ∃ k : Nat, k ≤ xs.length ∧ i = .int .i64 k ∧ Hid (wr.ownsRow w.heap.size 3 1 t k ((xs.take k).map (Value.int .i64))) ∧ Hid (Below w.heap.size w wr)) (fun _ i _ => xs.length - (intOf i).toNat)
  case atStart => exact ⟨0, Nat.zero_le _, rfl, Lib.hid (World.ownsRow_nil _ _ _ _), Lib.hid (Below.refl _ _)⟩
  case round =>
    obtain ⟨k, hk, rfl, HV, HW⟩ := hrel
    have hzw := HW.out.size
    obtain ⟨Av, cv, hv, _⟩ := mx_slice HV.out
    subst hv
    by_cases hlt : k < xs.length
    · obtain ⟨x, hxk⟩ := getElem_of hlt
      obtain ⟨g, o, rfl, hg, _, d0⟩ := HX.out k x hxk
      have d1 := (HW.out.cell (p := ⟨g, o + k, none⟩) hg).trans d0
      have hnx : (xs.take (k + 1)).map (Value.int .i64) = (xs.take k).map (Value.int .i64) ++ [.int .i64 x] := by rw [List.take_add_one, hxk]; simp
      have HNX := Lib.hid hnx
      obtain ⟨XS, hXS⟩ : ∃ XS, (xs.take k).map (Value.int .i64) = XS := ⟨_, rfl⟩
      rw [hXS] at HV HNX
      clear hXS hnx hxk d0
      go_wp2_with (at_builtin; refine wpList_append_own_at _ rfl _ _ 36 rfl w.heap.size 3 i0 (.int .i64 0) 1 8 Tryz.underlying36 hi hz0 hz1 hz2 rfl (by decide) _ k _ rfl (own_below HV.out (mx_al wr _)) ⟨wr.heap.size, 0, none⟩ 1 1 [.int .i64 x] rfl rfl (cell_one _ _ _) (by simp [Value.oneCell']) (by unfold maxLen; omega) (by omega) (by simp; omega) ?_; intro v' w1 hown hgrow hnl hat; obtain ⟨Aw, kw, hv2, _⟩ := mx_slice hown; subst hv2; have HOWN := Lib.hid hown; have HG := Lib.hid hgrow; clear hown hgrow hnl hat)
      have hw1 : Below w.heap.size w w1 := (HW.out.trans ((mx_al wr (.cells #[.int .i64 x] 3)).mono hzw)).grown HG.out (by simp; omega) (fun g hg => (own_lt HV.out g hg).1)
      go_roundw
      case rel => exact ⟨k + 1, by omega, by go_num, Lib.hid (by rw [HNX.out]; exact HOWN.out), Lib.hid hw1⟩
      case measure => simp [intOf]; omega
    · obtain rfl : k = xs.length := by omega
      rw [List.take_length] at HV
      go_wp2_with fail
      go_ret
      exact ⟨_, rfl, HV.out, HW.out⟩
theorem ar_count {O : Nat → Prop} (b : Nat) (A : Arn) (w : World) (h : ArAt O w b A) : Calls Tryz.prog 33 #[.pointer (some ⟨b, 0, none⟩)] w fun e w' => e = .returned (.int .i64 (A.count : Nat)) ∧ w = w' := by
  have HIS := Lib.hid (ar_is b A w h)
  obtain ⟨hk, stv, alv, h⟩ := h
  have c3 : w.cell? ⟨b, 3, none⟩ = some (.int .i64 (A.count : Nat)) := mx_cell (j := 3) h.block
  clear h hk
  go_enter Tryz.func33, Tryz.ntmps33
  go_wp2_with fail
  refine HIS.out.mono ?_
  rintro e w' ⟨rfl, rfl⟩
  go_wp2_with fail
  go_ret
  exact ⟨rfl, rfl⟩
end Go.Proofs.YtiodfolcnnkdjaaGreat
namespace Go.Proofs.YtiodfolcnnkdjaaGreat
open Go.RowKit

theorem few_one {O : Nat → Prop} (u : Value) (xs : List Int) (m : Int) (b : Nat) (w : World) (h : IntsIn O w u xs) (hb : w.cell? ⟨b, 0, none⟩ = some (.int .i64 m)) :
    Calls Tryz.prog 13 #[u, .pointer (some ⟨b, 0, none⟩)] w fun e w' => e = .returned (.bool (decide (m < (xs.length : Int)))) ∧ w = w' := by
  obtain ⟨A, c, rfl, _⟩ := h
  obtain ⟨q, hq⟩ : ∃ q, decide (m < (xs.length : Int)) = q := ⟨_, rfl⟩
  rw [hq]
  go_enter Tryz.func13, Tryz.ntmps13
  go_wp2_with fail
  go_ret
  exact ⟨rfl, rfl⟩
set_option maxRecDepth 100000 in
set_option maxHeartbeats 1000000 in
theorem index_few (u : Value) (cs : List (List Int)) (m : Int) (b : Nat) (w : World) (h1 : ClsAt w u cs) (hs : cs.length ≤ 1000000) (hb : w.cell? ⟨b, 0, none⟩ = some (.int .i64 m)) :
    Calls Tryz.prog 34 #[u, .func (.func 13) #[] #[.pointer (some ⟨b, 0, none⟩)]] w (IdxPost (!cs.all fun c => decide ((c.length : Int) ≤ m)) w) := by
  obtain ⟨A, c, rfl, hx⟩ := h1
  obtain ⟨z, hz⟩ : ∃ z, (!cs.all fun c => decide ((c.length : Int) ≤ m)) = z := ⟨_, rfl⟩
  rw [hz]
  have HZ := Lib.hid hz
  have HX := Lib.hid hx
  have HB := Lib.hid hb
  clear hx hz hb
  go_enter Tryz.func34, Tryz.ntmps34
  go_wp2
  go_loop [8] (fun i => ∃ k : Nat, k ≤ cs.length ∧ i = .int .i64 k ∧ Hid (∀ j x, j < k → cs[j]? = some x → (x.length : Int) ≤ m)) (fun i => cs.length - (intOf i).toNat)
  case atStart => exact ⟨0, Nat.zero_le _, rfl, Lib.hid (fun j x hj => by omega)⟩
  case round =>
    obtain ⟨k, hk, rfl, HE⟩ := hrel
    by_cases hlt : k < cs.length
    · obtain ⟨x, hxk⟩ := getElem_of hlt
      obtain ⟨g, o, v, rfl, hg, d1, hin⟩ := HX.out k x hxk
      have HXK := Lib.hid hxk
      have HW := few_one v x m b w hin HB.out
      clear hxk hin
      by_cases hl : m < (x.length : Int)
      · have q1 : decide (m < (x.length : Int)) = true := by simpa using hl
        rw [q1] at HW
        have HW := Lib.hid HW
        have HL := Lib.hid hl
        clear hl q1
        go_wp2_with fail
        refine HW.out.mono ?_
        rintro e w' ⟨rfl, rfl⟩
        go_wp2
        go_ret
        refine ⟨⟨_, rfl, ?_⟩, rfl⟩
        have hm : (cs.all fun c => decide ((c.length : Int) ≤ m)) = false := Bool.eq_false_iff.2 (fun h => by
          have := List.all_eq_true.1 h x (List.mem_of_getElem? HXK.out)
          have h2 := HL.out
          simp only [decide_eq_true_eq] at this
          omega)
        rw [← HZ.out, hm]
        exact decide_eq_true (by omega)
      · have q1 : decide (m < (x.length : Int)) = false := by simpa using hl
        rw [q1] at HW
        have HW := Lib.hid HW
        have HL := Lib.hid hl
        clear hl q1
        go_wp2_with fail
        refine HW.out.mono ?_
        rintro e w' ⟨rfl, rfl⟩
        go_wp2
        go_round
        case rel => exact ⟨k + 1, by omega, by go_num, Lib.hid (fun j y hj hy => by
          rcases Nat.lt_or_ge j k with h | h
          · exact HE.out j y h hy
          · obtain rfl : j = k := by omega
            rw [HXK.out] at hy
            obtain rfl := Option.some.inj hy
            have := HL.out
            omega)⟩
        case measure => simp [intOf]; omega
    · obtain rfl : k = cs.length := by omega
      go_wp2
      go_ret
      refine ⟨⟨_, rfl, ?_⟩, rfl⟩
      have hm : (cs.all fun c => decide ((c.length : Int) ≤ m)) = true := List.all_eq_true.2 (fun x hx => by
        obtain ⟨j, hj⟩ := List.getElem?_of_mem hx
        have := HE.out j x (List.getElem?_eq_some_iff.1 hj).1 hj
        simpa using this)
      rw [← HZ.out, hm]
      rfl
set_option maxHeartbeats 400000 in
theorem contains_few (u : Value) (cs : List (List Int)) (m : Int) (b : Nat) (w : World) (h1 : ClsAt w u cs) (hs : cs.length ≤ 1000000) (hb : w.cell? ⟨b, 0, none⟩ = some (.int .i64 m)) :
    Calls Tryz.prog 12 #[u, .func (.func 13) #[] #[.pointer (some ⟨b, 0, none⟩)]] w fun e w' => e = .returned (.bool (!cs.all fun c => decide ((c.length : Int) ≤ m))) ∧ w = w' := by
  have H0 := index_few u cs m b w h1 hs hb
  obtain ⟨z, hz⟩ : ∃ z, (!cs.all fun c => decide ((c.length : Int) ≤ m)) = z := ⟨_, rfl⟩
  rw [hz] at H0 ⊢
  have H := Lib.hid H0
  clear H0 hz hb
  go_enter Tryz.func12, Tryz.ntmps12
  go_wp2_with fail
  refine H.out.mono ?_
  rintro e w' ⟨⟨i, rfl, hi⟩, rfl⟩
  have HI := Lib.hid hi
  clear hi
  go_wp2_with fail
  go_ret
  exact ⟨ret_bool HI.out, rfl⟩
def fewB (cs : List (List Int)) (n m : Int) : Bool := decide ((cs.length : Int) ≤ n) && cs.all fun c => decide ((c.length : Int) ≤ m)
set_option maxHeartbeats 400000 in
theorem few_any (u : Value) (cs : List (List Int)) (n m : Int) (w : World) (h1 : ClsAt w u cs) (hs : n ≤ 1000000) :
    Calls Tryz.prog 5 #[u, .int .i64 n, .int .i64 m] w fun e w' => e = .returned (.bool (fewB cs n m)) ∧ Below w.heap.size w w' := by
  have hba := mx_al w (.cells #[.int .i64 m] 3)
  have H0 := fun hs => contains_few u cs m w.heap.size _ (h1.below hba) hs (mx_cell (j := 0) (World.alloc_heap_new w (.cells #[.int .i64 m] 3)))
  obtain ⟨A, c, rfl, _⟩ := h1
  unfold fewB
  by_cases hl : (cs.length : Int) ≤ n
  · have q1 : decide ((cs.length : Int) ≤ n) = true := by simpa using hl
    rw [q1, Bool.true_and]
    have H0 := H0 (by omega)
    obtain ⟨z, hz⟩ : ∃ z, (cs.all fun c => decide ((c.length : Int) ≤ m)) = z := ⟨_, rfl⟩
    rw [hz] at H0 ⊢
    have H := Lib.hid H0
    have HBA := Lib.hid hba
    clear H0 hz hba
    go_enter Tryz.func5, Tryz.ntmps5
    go_wp2_with fail
    refine H.out.mono ?_
    rintro e w' ⟨rfl, rfl⟩
    go_wp2_with fail
    go_ret
    exact ⟨by simp, HBA.out⟩
  · have q1 : decide ((cs.length : Int) ≤ n) = false := by simpa using hl
    rw [q1, Bool.false_and]
    have HBA := Lib.hid hba
    clear hba H0
    go_enter Tryz.func5, Tryz.ntmps5
    go_wp2_with fail
    go_ret
    exact ⟨rfl, HBA.out⟩
end Go.Proofs.YtiodfolcnnkdjaaGreat
namespace Go.Proofs.YtiodfolcnnkdjaaGreat
open Go.RowKit

theorem rAddAll_snoc (cs : List (List Int)) (a : RAr) (i : Nat) (c : List Int) : rAddAll a i (cs ++ [c]) = (rAddAll a i cs).put (((i + cs.length : Nat) : Int) + 1) c := by
  induction cs generalizing a i with
  | nil => rfl
  | cons d cs ih =>
    simp only [List.cons_append, rAddAll, List.length_cons]
    rw [ih, show i + 1 + cs.length = i + (cs.length + 1) by omega]
theorem rPlayAll_snoc (acs : List ActP) (t : RTr) (a : ActP) : rPlayAll t (acs ++ [a]) = (rPlayAll t acs).play a := by
  induction acs generalizing t with
  | nil => rfl
  | cons d acs ih => exact ih _
structure RAr.Low (a : RAr) (k : Nat) : Prop where
  all : a.all.length ≤ k
  used : rUsed a.all ≤ k * 1000
  last : a.last ≤ k
  each : ∀ e ∈ a.all, e.lits.length ≤ 4096
theorem RAr.Low.put {a : RAr} {k : Nat} (h : a.Low k) (c : List Int) (hc : c.length ≤ 1000) : (a.put ((k : Int) + 1) c).Low (k + 1) := by
  obtain ⟨h1, h2, h3, h4⟩ := h
  unfold RAr.put
  split
  · refine ⟨by simp only [List.length_append, List.length_cons, List.length_nil]; omega, ?_, by simp only; omega, fun x hx => ?_⟩
    · unfold rUsed at h2 ⊢
      rw [List.map_append, List.sum_append, Nat.succ_mul]
      simp only [List.map_cons, List.map_nil, List.sum_cons, List.sum_nil, Nat.add_zero]
      exact Nat.add_le_add h2 hc
    · rcases List.mem_append.1 hx with hx | hx
      · exact h4 x hx
      · rw [List.mem_singleton.1 hx]
        simp only
        omega
  · exact ⟨Nat.le_succ_of_le h1, Nat.le_trans h2 (Nat.mul_le_mul_right _ (Nat.le_succ _)), Int.le_trans h3 (by omega), h4⟩
theorem rAddAll_low (cs : List (List Int)) (a : RAr) (i : Nat) (h : a.Low i) (hc : ∀ c ∈ cs, c.length ≤ 1000) : (rAddAll a i cs).Low (i + cs.length) := by
  induction cs generalizing a i with
  | nil => exact h
  | cons c cs ih =>
    have := ih (a.put ((i : Int) + 1) c) (i + 1) (h.put c (hc c (List.mem_cons_self ..))) (fun d hd => hc d (List.mem_cons_of_mem _ hd))
    rw [show i + 1 + cs.length = i + (c :: cs).length by simp only [List.length_cons]; omega] at this
    exact this
theorem rlow0 : RAr.Low ⟨[], 0⟩ 0 := ⟨Nat.le_refl _, Nat.le_refl _, Int.le_refl _, fun e h => (by cases h)⟩
structure RTr.Low (t : RTr) (k : Nat) : Prop where
  items : t.items.length ≤ k
  starts : t.starts.length ≤ k + 1
  now0 : 0 ≤ t.now
  now : t.now ≤ k
theorem RTr.Low.play {t : RTr} {k : Nat} (h : t.Low k) (a : ActP) : (t.play a).Low (k + 1) := by
  obtain ⟨h1, h2, h3, h4⟩ := h
  unfold RTr.play
  split
  · exact ⟨by simp only [RTr.push]; omega, by simp only [RTr.push, List.length_append, List.length_cons, List.length_nil]; omega, by simp only [RTr.push]; omega, by simp only [RTr.push]; omega⟩
  · unfold RTr.assigned
    split
    · exact ⟨by simp only [List.length_append, List.length_cons, List.length_nil]; omega, by simp only; omega, h3, by simp only; omega⟩
    · exact ⟨by omega, by omega, h3, by omega⟩
theorem rPlayAll_low (acs : List ActP) (t : RTr) (i : Nat) (h : t.Low i) : (rPlayAll t acs).Low (i + acs.length) := by
  induction acs generalizing t i with
  | nil => exact h
  | cons a acs ih =>
    have := ih (t.play a) (i + 1) (h.play a)
    rw [show i + 1 + acs.length = i + (a :: acs).length by simp only [List.length_cons]; omega] at this
    exact this
theorem rtlow0 (n : Int) : RTr.Low ⟨n, 0, [], [0]⟩ 0 := ⟨Nat.le_refl _, Nat.le_refl _, Int.le_refl _, Int.le_refl _⟩
theorem arn0_get (id : Int) : arn0.get id = none := by
  by_cases h : 0 < id
  · exact inv0.gone (by simpa [arn0] using h)
  · exact Arn.get_low _ (by omega)
/-- the references' states in boxes -/
def RBox (X : Nat → Prop) (W : World) (b : Nat) (a : RAr) : Prop := ∃ E c, W.heap[b]? = some (.cells #[.slice E a.all.length c, .int .i64 a.last] 56 (0, 0)) ∧ RAO X W (.agg #[.slice E a.all.length c, .int .i64 a.last]) a
def SBox (X : Nat → Prop) (W : World) (b : Nat) (t : RTr) : Prop := ∃ E c F d, W.heap[b]? = some (.cells #[.int .i64 t.vars, .int .i64 t.now, .slice E t.items.length c, .slice F t.starts.length d] 59 (0, 0)) ∧ RTO X W (.agg #[.int .i64 t.vars, .int .i64 t.now, .slice E t.items.length c, .slice F t.starts.length d]) t
theorem RBox.kept {X O : Nat → Prop} {W W' : World} {b : Nat} {a : RAr} (h : RBox X W b a) (k : Kept O W W') (hb : ¬ O b) (hX : ∀ g, X g → ¬ O g) : RBox X W' b a := by
  obtain ⟨E, c, h1, h2⟩ := h
  exact ⟨E, c, (k.block b (heap_lt h1) hb).trans h1, h2.kept k hX⟩
theorem RBox.below {X : Nat → Prop} {W W' : World} {b : Nat} {a : RAr} (h : RBox X W b a) (k : Below W.heap.size W W') : RBox X W' b a :=
  h.kept (O := fun _ => False) (Kept.of_below k) (fun h => h) (fun _ _ h => h)
theorem SBox.kept {X O : Nat → Prop} {W W' : World} {b : Nat} {t : RTr} (h : SBox X W b t) (k : Kept O W W') (hb : ¬ O b) (hX : ∀ g, X g → ¬ O g) : SBox X W' b t := by
  obtain ⟨E, c, F, d, h1, h2⟩ := h
  exact ⟨E, c, F, d, (k.block b (heap_lt h1) hb).trans h1, h2.kept k hX⟩
theorem SBox.below {X : Nat → Prop} {W W' : World} {b : Nat} {t : RTr} (h : SBox X W b t) (k : Below W.heap.size W W') : SBox X W' b t :=
  h.kept (O := fun _ => False) (Kept.of_below k) (fun h => h) (fun _ _ h => h)
/-- a returned state, its slices named -/
theorem RAO.parts {O : Nat → Prop} {w : World} {v : Value} {a : RAr} (h : RAO O w v a) : ∃ E c, v = .agg #[.slice E a.all.length c, .int .i64 a.last] := by
  obtain ⟨av, rfl, ms, _, ⟨A, c, rfl, _⟩, _⟩ := h
  exact ⟨A, c, rfl⟩
theorem RTO.parts {O : Nat → Prop} {w : World} {v : Value} {t : RTr} (h : RTO O w v t) : ∃ E c F d, v = .agg #[.int .i64 t.vars, .int .i64 t.now, .slice E t.items.length c, .slice F t.starts.length d] := by
  obtain ⟨iv, sv, rfl, ⟨A, c, rfl, _⟩, ⟨B, d, rfl, _⟩⟩ := h
  exact ⟨A, c, B, d, rfl⟩
/-! ### the same answers -/
theorem levels_both {T : Trl} {t : RTr} (hs : Sim T t.items) (ho : t.Ok) (c : List Int) (hc : c.length ≤ 1000) : ∃ lv code : Int, (clauseB c = false → lv = 0) ∧
    (∀ (O : Nat → Prop) W n a b A u, PutAt n W a b A T → IntsIn O W u c → Calls Tryz.prog 46 #[.pointer (some ⟨b, 0, none⟩), u] W fun e w' => e = .returned (.tuple #[.int .i64 lv, .int .i64 code]) ∧ Below W.heap.size W w') ∧
    (∀ (O : Nat → Prop) W tv u, RTAt W tv t → IntsIn O W u c → Calls Tryz.prog 65 #[tv, u] W fun e w' => e = .returned (.tuple #[.int .i64 lv, .int .i64 code]) ∧ Below W.heap.size W w') := by
  have hr := fun (O : Nat → Prop) W tv u (h1 : RTAt W tv t) (h2 : IntsIn O W u c) => ref_levels u c t tv W h1 ho h2 (by omega)
  have hq := levels_eq hs c
  cases hb : clauseB c with
  | true =>
    rw [hb] at hr
    refine ⟨_, 0, fun h => (by cases h), fun O W n a b A u hp hu => ?_, hr⟩
    obtain ⟨_, OA, OT, p1, p2, _⟩ := hp
    have := an_levels b T u c W p2 hu hb
    rw [hq] at this
    exact this
  | false =>
    rw [hb] at hr
    refine ⟨0, 20, fun _ => rfl, fun O W n a b A u hp hu => ?_, hr⟩
    refine (an_levels_bad b u c W hu hb (by omega)).mono ?_
    rintro e w' ⟨rfl, rfl⟩
    exact ⟨rfl, Below.refl _ _⟩
/-- what is known of the reference's Conflict -/
def ConfSame (L : Lrn) (code : Nat) (ra : RAr) (t : RTr) (id : Int) : Prop := ∀ W av tv, RAAt W av ra → RTAt W tv t →
  Calls Tryz.prog 64 #[av, tv, .int .i64 id] W fun e w' => (∃ Ax cx Ay cy Az cz, e = .returned (.tuple #[.agg #[.slice Ax L.lits.length cx, .int .i64 L.back, .int .i64 L.levels, .slice Ay L.hints.length cy, .slice Az L.met.length cz], .int .i64 (code : Nat)]) ∧
    IntsIn (fun _ => True) w' (.slice Ax L.lits.length cx) L.lits ∧ IntsIn (fun _ => True) w' (.slice Ay L.hints.length cy) L.hints ∧ IntsIn (fun _ => True) w' (.slice Az L.met.length cz) L.met) ∧ Below W.heap.size W w'
/-- a place of a row, written -/
theorem own_put {w : World} {base n c g j : Nat} {e : TypeId} {xs : List Value} (h : w.ownsRow base e 1 (.slice (some ⟨g, 0, none⟩) n c) n xs) (v : Value) :
    (w.setCell ⟨g, j, none⟩ v).ownsRow base e 1 (.slice (some ⟨g, 0, none⟩) n c) n (xs.set j v) := by
  obtain ⟨h0, h1⟩ := h
  rcases h1 with ⟨h1, _⟩ | ⟨g', cap, cur, hv, hb, hg, hle, hm, hs, hx⟩
  · cases h1
  · cases hv
    refine ⟨by rw [List.length_set, h0], .inr ⟨g, c, _, rfl, hb, mx_set hg _, hle, hm, by simpa using hs, ?_⟩⟩
    rw [Array.toList_setIfInBounds, List.take_set, hx]
end Go.Proofs.YtiodfolcnnkdjaaGreat
