/- package rup: look. Plain: what a clause is, by the list of what was assigned; what Add tells. The trail: Lits, the literals from a place on, where a round may write the variables. -/
import Derived.Test.YtoojmhjagipmdaaGreatU007
import Derived.Test.YtoojmhjagipmdaaGreatU010
import Derived.Test.YtoojmhjagipmdaaGreatU011
import Derived.Test.YtoojmhjagipmdaaGreatU009
namespace Go.Proofs.YtoojmhjagipmdaaGreat
open Go.RowKit Go.Maps Go.Shelf

/-- the value of a literal -/
def ofF (f : Int → Int) (l : Int) : Int := if litG l = true then - f (litV l : Nat) else f (litV l : Nat)
def putF (f : Int → Int) (l : Int) : Int → Int := fun z => if z = ((litV l : Nat) : Int) then (if litG l = true then -1 else 1) else f z
def okF (f : Int → Int) : Prop := ∀ z, -1 ≤ f z ∧ f z ≤ 1
theorem okF_put {f : Int → Int} (h : okF f) (l : Int) : okF (putF f l) := by
  intro z
  unfold putF
  split
  · split <;> omega
  · exact h z
theorem wf_var (l : Int) : (Lit.int .i64 ((litV l : Nat) : Int)).wf = true := by
  have h : litV l ≤ 1048576 := by
    unfold litV
    split
    · rename_i h
      have := (litB_iff l).1 h
      omega
    · omega
  exact wf64 (by omega) (by omega)
theorem rup_of (b n : Nat) (f : Int → Int) (l : Int) (w : World) (h : MapAt w b n f) (hf : okF f) :
    Calls Tryz.prog 114 #[.map (some b), .int .i64 l] w fun e w' => e = .returned (.int .i64 (ofF f l)) ∧ w = w' := by
  have hl := h.lookV (wf_var l)
  have HV := Lib.hid (lit_var l w)
  have HG := lit_negated l w
  have hx := hf (litV l : Nat)
  unfold ofF
  obtain ⟨v, hv⟩ : ∃ v : Int, ((litV l : Nat) : Int) = v := ⟨_, rfl⟩
  rw [hv] at HV hl hx ⊢
  obtain ⟨y, hy⟩ : ∃ y : Int, f v = y := ⟨_, rfl⟩
  rw [hy] at hl hx ⊢
  have hw : IntKind.i64.wrap (-y) = -y := IntWalk.i64_in _ (by omega)
  clear h hf hv hy
  cases hg : litG l with
  | false =>
    rw [hg] at HG
    rw [if_neg (by decide)]
    have HG := Lib.hid HG
    clear hg
    go_enter Tryz.func114, Tryz.ntmps114
    go_wp2_with fail
    refine HV.out.mono ?_
    rintro e w' ⟨rfl, rfl⟩
    go_wp2_with fail
    refine HG.out.mono ?_
    rintro e w' ⟨rfl, rfl⟩
    go_wp2_with fail
    go_ret
    exact ⟨rfl, rfl⟩
  | true =>
    rw [hg] at HG
    rw [if_pos rfl]
    have HG := Lib.hid HG
    clear hg
    go_enter Tryz.func114, Tryz.ntmps114
    go_wp2_with fail
    refine HV.out.mono ?_
    rintro e w' ⟨rfl, rfl⟩
    go_wp2_with fail
    refine HG.out.mono ?_
    rintro e w' ⟨rfl, rfl⟩
    go_wp2_with fail
    go_ret
    exact ⟨rfl, rfl⟩
theorem rup_put (b n : Nat) (f : Int → Int) (l : Int) (w : World) (h : MapAt w b n f) (hn : n ≤ 1000000000000) :
    Calls Tryz.prog 115 #[.map (some b), .int .i64 l] w fun e w' => e = .returned (.tuple #[]) ∧ (∃ n', n' ≤ n + 2 ∧ MapAt w' b n' (putF f l)) ∧ Kept (fun g => g = b) w w' := by
  have HV := Lib.hid (fun W => lit_var l W)
  have HG := fun W => lit_negated l W
  have HW := Lib.hid (wf_var l)
  have HM := Lib.hid h
  unfold putF
  obtain ⟨v, hv⟩ : ∃ v : Int, ((litV l : Nat) : Int) = v := ⟨_, rfl⟩
  rw [hv] at HV HW ⊢
  clear h hv
  cases hg : litG l with
  | false =>
    rw [hg] at HG
    simp only [Bool.false_eq_true, if_false]
    have HG := Lib.hid HG
    clear hg
    go_enter Tryz.func115, Tryz.ntmps115
    go_wp2_with fail
    refine (HV.out _).mono ?_
    rintro e w' ⟨rfl, rfl⟩
    go_wp2_with (at_mapUpdate; refine wpList_putV HM.out rfl _ _ _ rfl rfl (by unfold maxLen; omega) v 1 rfl rfl HW.out rfl ?_; intro w1 hm hg)
    have HM1 := Lib.hid hm
    have HK1 := Lib.hid (Kept.grown hg)
    clear hm hg
    go_wp2_with fail
    refine (HG.out _).mono ?_
    rintro e w' ⟨rfl, rfl⟩
    go_wp2_with fail
    go_end0
    exact ⟨rfl, ⟨n + 1, by omega, HM1.out⟩, HK1.out.mono (fun g _ h => by cases h; rfl)⟩
  | true =>
    rw [hg] at HG
    simp only [if_true]
    have HG := Lib.hid HG
    clear hg
    go_enter Tryz.func115, Tryz.ntmps115
    go_wp2_with fail
    refine (HV.out _).mono ?_
    rintro e w' ⟨rfl, rfl⟩
    go_wp2_with (at_mapUpdate; refine wpList_putV HM.out rfl _ _ _ rfl rfl (by unfold maxLen; omega) v 1 rfl rfl HW.out rfl ?_; intro w1 hm hg)
    have HM1 := Lib.hid hm
    have HK1 := Lib.hid (Kept.grown hg)
    clear hm hg
    go_wp2_with fail
    refine (HG.out _).mono ?_
    rintro e w' ⟨rfl, rfl⟩
    go_wp2_with fail
    refine (HV.out _).mono ?_
    rintro e w' ⟨rfl, rfl⟩
    go_wp2_with (at_mapUpdate; refine wpList_putV HM1.out rfl _ _ _ rfl rfl (by unfold maxLen; omega) v (-1) rfl rfl HW.out rfl ?_; intro w2 hm hg)
    have HM2 := Lib.hid hm
    have HK2 := Lib.hid (Kept.grown hg)
    clear hm hg
    go_wp2_with fail
    go_end0
    refine ⟨rfl, ⟨n + 1 + 1, Nat.le_refl _, ?_⟩, (HK1.out.mono (O' := fun g => g = b) (fun g _ h => by cases h; rfl)).trans HK2.out (fun i _ h => by cases h; rfl)⟩
    have h2 := HM2.out
    have e : (fun z => if z = v then (-1 : Int) else if z = v then 1 else f z) = (fun z => if z = v then -1 else f z) := by
      funext z
      by_cases hz : z = v
      · rw [if_pos hz, if_pos hz]
      · rw [if_neg hz, if_neg hz, if_neg hz]
    rwa [e] at h2
/-- what a clause is, and its literal if it is unit -/
def lukGo (f : Int → Int) (k : Nat) (u : Int) : List Int → Nat × Int
  | [] => (k, if k = 3 then u else 0)
  | l :: r => if 0 < ofF f l then (1, 0) else if ofF f l < 0 ∨ l = u then lukGo f k u r else if u = 0 then lukGo f 3 l r else lukGo f 4 u r
def lookF (f : Int → Int) (c : List Int) : Nat × Int := lukGo f 2 0 c
/-- the values of literals; none where they contradict -/
def asgGo (f : Int → Int) : List Int → Option (Int → Int)
  | [] => some f
  | x :: r => if litB x = true ∧ 0 ≤ ofF f x then asgGo (putF f x) r else none
def asgF (xs : List Int) : Option (Int → Int) := asgGo (fun _ => 0) xs
def AsgOut (w w' : World) (m : Nat) (e : Ending) : Option (Int → Int) → Prop
  | some f => ∃ b n, e = .returned (.tuple #[.map (some b), .bool true]) ∧ w.heap.size ≤ b ∧ n ≤ 2 * m ∧ MapAt w' b n f ∧ okF f
  | none => e = .returned (.tuple #[.map none, .bool false])
set_option maxRecDepth 100000 in
set_option maxHeartbeats 2000000 in
theorem rup_assigned {O : Nat → Prop} (u : Value) (xs : List Int) (w : World) (hu : IntsIn O w u xs) (hlen : xs.length ≤ 100000000000) :
    Calls Tryz.prog 67 #[u] w fun e w' => AsgOut w w' xs.length e (asgF xs) ∧ Below w.heap.size w w' := by
  have hmm := @run_makeMap Tryz.prog
  obtain ⟨W0, hW0⟩ : ∃ x, w.alloc (.map #[] 0) = x := ⟨_, rfl⟩
  have hb0 : Below w.heap.size w W0 := by rw [← hW0]; exact mx_al _ _
  have hm0 : MapAt W0 w.heap.size 0 (fun _ => 0) := by rw [← hW0]; exact MapAt.made w
  have HU := Lib.hid hu.lt
  obtain ⟨A, c, rfl, hc, _, _⟩ := hu
  have HW0 := Lib.hid hW0
  have HB0 := Lib.hid hb0
  have HM0 := Lib.hid hm0
  obtain ⟨res, hres⟩ : ∃ r, asgF xs = r := ⟨_, rfl⟩
  have HRS := Lib.hid hres
  rw [hres]
  clear hW0 hb0 hm0 hres
  go_enter Tryz.func67, Tryz.ntmps67
  go_wp2_with fail
  rw [HW0.out]
  go_loopw [10] (fun i wr => ∃ (k n : Nat) (f : Int → Int), k ≤ xs.length ∧ i = .int .i64 k ∧ n ≤ 2 * k ∧ Hid (asgGo f (xs.drop k) = res) ∧ Hid (okF f) ∧ Hid (MapAt wr w.heap.size n f) ∧ Hid (Below w.heap.size w wr)) (fun i _ => xs.length - (intOf i).toNat)
  case atStart => exact ⟨0, 0, _, Nat.zero_le _, rfl, Nat.le_refl _, HRS, Lib.hid (fun z => by simp), HM0, HB0⟩
  case round =>
    obtain ⟨k, n, f, hk, rfl, hn, HG, HF, HM, HB⟩ := hrel
    by_cases hlt : k < xs.length
    · obtain ⟨x, hxk⟩ := getElem_of hlt
      obtain ⟨A', c', hAc, _, _, hxs⟩ := HU.out
      simp only [Value.slice.injEq, true_and] at hAc
      obtain ⟨rfl, rfl⟩ := hAc
      obtain ⟨g, o, rfl, hg, _, d0⟩ := hxs k x hxk
      have d1 : wr.cell? ⟨g, o + k, none⟩ = some (.int .i64 x) := (HB.out.cell (p := ⟨g, o + k, none⟩) hg).trans d0
      have hdk : xs.drop k = x :: xs.drop (k + 1) := by
        rw [List.drop_eq_getElem_cons hlt]
        rw [List.getElem?_eq_getElem hlt] at hxk
        rw [Option.some.inj hxk]
      have hgo := HG.out
      rw [hdk] at hgo
      simp only [asgGo] at hgo
      have HR := right_lit x wr
      have HOF := rup_of w.heap.size n f x wr HM.out HF.out
      have HPT := Lib.hid (rup_put w.heap.size n f x wr HM.out (by omega))
      cases hb : litB x with
      | false =>
        rw [hb] at HR hgo
        rw [if_neg (by simp)] at hgo
        have HN := Lib.hid hgo
        have HR := Lib.hid HR
        clear hgo hb hdk hxk hxs d0 HOF
        go_wp2_with fail
        refine HR.out.mono ?_
        rintro e w' ⟨rfl, rfl⟩
        go_wp2_with fail
        refine bodyPost_ret (results_tmp2 rfl _ _ _) rfl ?_
        rw [← HN.out]
        exact ⟨rfl, HB.out⟩
      | true =>
        rw [hb] at HR hgo
        have HR := Lib.hid HR
        by_cases hv : 0 ≤ ofF f x
        · rw [if_pos ⟨rfl, hv⟩] at hgo
          obtain ⟨y, hy⟩ : ∃ y, ofF f x = y := ⟨_, rfl⟩
          rw [hy] at HOF hv
          have hd : decide (y < 0) = false := by simpa using hv
          have HOF := Lib.hid HOF
          have HN := Lib.hid hgo
          clear hgo hb hdk hxk hxs d0 hy hv
          go_wp2_with fail
          refine HR.out.mono ?_
          rintro e w' ⟨rfl, rfl⟩
          go_wp2_with fail
          refine HOF.out.mono ?_
          rintro e w' ⟨rfl, rfl⟩
          go_wp2_with fail
          refine HPT.out.mono ?_
          rintro e w4 ⟨rfl, ⟨n', hn', hm'⟩, hk'⟩
          have HM4 := Lib.hid hm'
          have HB4 := Lib.hid (HB.out.trans (hk'.below (fun g e => by rw [e]; exact Nat.le_refl _) HB.out.size))
          clear hm' hk'
          go_wp2_with fail
          go_roundw
          case rel => exact ⟨k + 1, n', _, by omega, by go_num, by omega, HN, Lib.hid (okF_put HF.out x), HM4, HB4⟩
          case measure => simp [intOf]; omega
        · rw [if_neg (fun h => hv h.2)] at hgo
          obtain ⟨y, hy⟩ : ∃ y, ofF f x = y := ⟨_, rfl⟩
          rw [hy] at HOF hv
          have hd : decide (y < 0) = true := by simpa using hv
          have HOF := Lib.hid HOF
          have HN := Lib.hid hgo
          clear hgo hb hdk hxk hxs d0 hy hv
          go_wp2_with fail
          refine HR.out.mono ?_
          rintro e w' ⟨rfl, rfl⟩
          go_wp2_with fail
          refine HOF.out.mono ?_
          rintro e w' ⟨rfl, rfl⟩
          go_wp2_with fail
          refine bodyPost_ret (results_tmp2 rfl _ _ _) rfl ?_
          rw [← HN.out]
          exact ⟨rfl, HB.out⟩
    · obtain rfl : k = xs.length := by omega
      have hgo := HG.out
      rw [List.drop_length] at hgo
      have HN := Lib.hid (show some f = res from hgo)
      clear hgo
      go_wp2_with fail
      refine bodyPost_ret (results_tmp2 rfl _ _ _) rfl ?_
      rw [← HN.out]
      exact ⟨⟨_, n, rfl, Nat.le_refl _, hn, HM.out, HF.out⟩, HB.out⟩
end Go.Proofs.YtoojmhjagipmdaaGreat
namespace Go.Proofs.YtoojmhjagipmdaaGreat
open Go.RowKit Go.Maps Go.Shelf

set_option maxRecDepth 100000 in
set_option maxHeartbeats 2000000 in
theorem rup_look {O : Nat → Prop} (b n : Nat) (f : Int → Int) (u : Value) (xs : List Int) (w : World) (h : MapAt w b n f) (hf : okF f) (hu : IntsIn O w u xs) (hlen : xs.length ≤ 100000000000) :
    Calls Tryz.prog 68 #[.map (some b), u] w fun e w' => e = .returned (.tuple #[.int .u8 ((lookF f xs).1 : Nat), .int .i64 (lookF f xs).2]) ∧ w = w' := by
  have HX := Lib.hid hu
  obtain ⟨A, c, rfl, hc, _, _⟩ := hu
  obtain ⟨K, hK⟩ : ∃ z, (lookF f xs).1 = z := ⟨_, rfl⟩
  obtain ⟨U, hU⟩ : ∃ z, (lookF f xs).2 = z := ⟨_, rfl⟩
  have HL := Lib.hid (show lukGo f 2 0 xs = (K, U) from Prod.ext hK hU)
  rw [hK, hU]
  have HO := Lib.hid (fun l => rup_of b n f l w h hf)
  clear h hf hK hU
  go_enter Tryz.func68, Tryz.ntmps68
  go_wp2_with fail
  refine wp_scope_straight ?_
  go_wp2_with fail
  refine wp_label ?_
  go_wp2_with fail
  go_loopw [6, 7, 13] (fun kv uv iv wr => ∃ (j k : Nat) (t : Int), j ≤ xs.length ∧ iv = .int .i64 j ∧ kv = .int .u8 (k : Nat) ∧ uv = .int .i64 t ∧ Hid (lukGo f k t (xs.drop j) = (K, U)) ∧ wr = w) (fun _ _ iv _ => xs.length - (intOf iv).toNat)
  case atStart => exact ⟨0, 2, 0, Nat.zero_le _, rfl, rfl, rfl, HL, rfl⟩
  case round =>
    obtain ⟨j, k, t, hj, rfl, rfl, rfl, HG, rfl⟩ := hrel
    by_cases hlt : j < xs.length
    · obtain ⟨x, hxk⟩ := getElem_of hlt
      obtain ⟨A', c', hAc, _, _, hxs⟩ := HX.out
      simp only [Value.slice.injEq, true_and] at hAc
      obtain ⟨rfl, rfl⟩ := hAc
      obtain ⟨g, o, rfl, hg, _, d0⟩ := hxs j x hxk
      have hdk : xs.drop j = x :: xs.drop (j + 1) := by
        rw [List.drop_eq_getElem_cons hlt]
        rw [List.getElem?_eq_getElem hlt] at hxk
        rw [Option.some.inj hxk]
      have hgo := HG.out
      rw [hdk] at hgo
      simp only [lukGo] at hgo
      have HOF := HO.out x
      obtain ⟨y, hy⟩ : ∃ y, ofF f x = y := ⟨_, rfl⟩
      rw [hy] at HOF hgo
      have HOF := Lib.hid HOF
      clear hxk hxs hdk hy HG
      by_cases h1 : 0 < y
      · rw [if_pos h1] at hgo
        have d1 : decide (0 < y) = true := by simpa using h1
        have HKU := Lib.hid hgo
        clear hgo h1
        go_wp2_with fail
        refine HOF.out.mono ?_
        rintro e w' ⟨rfl, rfl⟩
        go_wp2_with fail
        rw [Exit.noGoto_ret]
        refine bodyPost_ret (results_tmp2 rfl _ _ _) rfl ?_
        have h := HKU.out
        simp only [Prod.mk.injEq] at h
        obtain ⟨rfl, rfl⟩ := h
        exact ⟨rfl, rfl⟩
      · rw [if_neg h1] at hgo
        have d1 : decide (0 < y) = false := by simpa using h1
        by_cases h2 : y < 0
        · rw [if_pos (.inl h2)] at hgo
          have d2 : decide (y < 0) = true := by simpa using h2
          have HG := Lib.hid hgo
          clear hgo h1 h2
          go_wp2_with fail
          refine HOF.out.mono ?_
          rintro e w' ⟨rfl, rfl⟩
          go_wp2_with fail
          go_roundw
          case rel => exact ⟨j + 1, k, t, by omega, by go_num, rfl, rfl, HG, trivial⟩
          case measure => simp [intOf]; omega
        · have d2 : decide (y < 0) = false := by simpa using h2
          by_cases h3 : x = t
          · rw [if_pos (.inr h3)] at hgo
            have d3 : (x == t) = true := by simpa using h3
            have HG := Lib.hid hgo
            clear hgo h1 h2 h3
            go_wp2_with fail
            refine HOF.out.mono ?_
            rintro e w' ⟨rfl, rfl⟩
            go_wp2_with fail
            go_roundw
            case rel => exact ⟨j + 1, k, t, by omega, by go_num, rfl, rfl, HG, trivial⟩
            case measure => simp [intOf]; omega
          · rw [if_neg (fun h => h.elim h2 h3)] at hgo
            have d3 : (x == t) = false := by simpa using h3
            by_cases h4 : t = 0
            · rw [if_pos h4] at hgo
              have d4 : (t == 0) = true := by simpa using h4
              have HG := Lib.hid hgo
              clear hgo h1 h2 h3 h4
              go_wp2_with fail
              refine HOF.out.mono ?_
              rintro e w' ⟨rfl, rfl⟩
              go_wp2_with fail
              go_roundw
              case rel => exact ⟨j + 1, 3, x, by omega, by go_num, rfl, rfl, HG, trivial⟩
              case measure => simp [intOf]; omega
            · rw [if_neg h4] at hgo
              have d4 : (t == 0) = false := by simpa using h4
              have HG := Lib.hid hgo
              clear hgo h1 h2 h3 h4
              go_wp2_with fail
              refine HOF.out.mono ?_
              rintro e w' ⟨rfl, rfl⟩
              go_wp2_with fail
              go_roundw
              case rel => exact ⟨j + 1, 4, t, by omega, by go_num, rfl, rfl, HG, trivial⟩
              case measure => simp [intOf]; omega
    · obtain rfl : j = xs.length := by omega
      have hgo := HG.out
      rw [List.drop_length] at hgo
      simp only [lukGo, Prod.mk.injEq] at hgo
      obtain ⟨rfl, hgo⟩ := hgo
      by_cases h3 : k = 3
      · rw [if_pos h3] at hgo
        have d3 : ((k : Int) != 3) = false := by simp [h3]
        have HG := Lib.hid hgo
        clear hgo h3
        go_wp2_with fail
        rw [Exit.noGoto_ret]
        refine bodyPost_ret (results_tmp2 rfl _ _ _) rfl ?_
        rw [← HG.out]
        exact ⟨rfl, rfl⟩
      · rw [if_neg h3] at hgo
        have d3 : ((k : Int) != 3) = true := by simp; omega
        have HG := Lib.hid hgo
        clear hgo h3
        go_wp2_with fail
        rw [Exit.noGoto_ret]
        refine bodyPost_ret (results_tmp2 rfl _ _ _) rfl ?_
        rw [← HG.out]
        exact ⟨rfl, rfl⟩
end Go.Proofs.YtoojmhjagipmdaaGreat
namespace Go.Proofs.YtoojmhjagipmdaaGreat
open Go.RowKit

theorem litG_minus {x : Int} (hx : litB x = true) : litG (-x) = !litG x := by
  have h := (litB_iff x).1 hx
  unfold litG
  rw [litB_minus, hx, Bool.true_and, Bool.true_and]
  by_cases h1 : x < 0
  · rw [decide_eq_true h1, decide_eq_false (by omega)]
    rfl
  · rw [decide_eq_false h1, decide_eq_true (by omega)]
    rfl
theorem k_put_self (f : Int → Int) (x : Int) : ofF (putF f x) x = 1 := by
  unfold ofF putF
  rw [if_pos rfl]
  cases litG x <;> rfl
theorem k_put_neg (f : Int → Int) {x : Int} (hx : litB x = true) : ofF (putF f x) (-x) = -1 := by
  unfold ofF putF
  rw [litV_negate, if_pos rfl, litG_minus hx]
  cases litG x <;> rfl
theorem k_put_ne (f : Int → Int) {x y : Int} (h : litV y ≠ litV x) : ofF (putF f x) y = ofF f y := by
  unfold ofF putF
  simp only [if_neg (show ¬ (((litV y : Nat) : Int) = ((litV x : Nat) : Int)) by omega)]
theorem k_asg (xs : List Int) : ∀ f : Int → Int, (∀ x ∈ xs, litB x = true) → (xs.map litV).Nodup → (∀ x ∈ xs, f ((litV x : Nat) : Int) = 0) → ∃ g, asgGo f xs = some g ∧ (∀ y, (∀ x ∈ xs, litV x ≠ litV y) → ofF g y = ofF f y) ∧ ∀ x ∈ xs, ofF g x = 1 ∧ ofF g (-x) = -1 := by
  induction xs with
  | nil => exact fun f _ _ _ => ⟨f, rfl, fun _ _ => rfl, fun x hx => by cases hx⟩
  | cons x r ih =>
    intro f h1 h2 h3
    have hx := h1 x List.mem_cons_self
    have h0 : ofF f x = 0 := by
      unfold ofF
      rw [h3 x List.mem_cons_self]
      split <;> rfl
    have hstep : asgGo f (x :: r) = asgGo (putF f x) r := by
      conv => lhs; unfold asgGo
      rw [if_pos ⟨hx, by rw [h0]; exact Int.le_refl 0⟩]
    rw [List.map_cons, List.nodup_cons] at h2
    have hne : ∀ y ∈ r, litV y ≠ litV x := fun y hy e => h2.1 (e ▸ List.mem_map_of_mem hy)
    obtain ⟨g, e, g1, g2⟩ := ih (putF f x) (fun y hy => h1 y (List.mem_cons_of_mem _ hy)) h2.2 (fun y hy => by
      have := hne y hy
      unfold putF
      rw [if_neg (by omega)]
      exact h3 y (List.mem_cons_of_mem _ hy))
    refine ⟨g, hstep.trans e, fun y hy => ?_, fun z hz => ?_⟩
    · rw [g1 y (fun z hz => hy z (List.mem_cons_of_mem _ hz)), k_put_ne f (fun e => hy x List.mem_cons_self e.symm)]
    · rcases List.mem_cons.1 hz with rfl | hz
      · rw [g1 z hne, g1 (-z) (by rw [litV_negate]; exact hne), k_put_self, k_put_neg f hx]
        exact ⟨rfl, rfl⟩
      · exact g2 z hz
theorem k_inj {its : List RIt} (hn : (its.map fun x => litV x.lit).Nodup) {p q : Nat} {x y : RIt} (hp : its[p]? = some x) (hq : its[q]? = some y) (e : litV x.lit = litV y.lit) : p = q := by
  rw [List.Nodup, List.pairwise_iff_getElem] at hn
  obtain ⟨h1, h2⟩ := List.getElem?_eq_some_iff.1 hp
  obtain ⟨h3, h4⟩ := List.getElem?_eq_some_iff.1 hq
  rcases Nat.lt_trichotomy p q with h | h | h
  · refine absurd ?_ (hn p q (by simpa using h1) (by simpa using h3) h)
    rw [List.getElem_map, List.getElem_map, h2, h4, e]
  · exact h
  · refine absurd ?_ (hn q p (by simpa using h3) (by simpa using h1) h)
    rw [List.getElem_map, List.getElem_map, h2, h4, e]
/-- what was assigned says the same as the list of it -/
theorem k_its {its : List RIt} (hl : ∀ x ∈ its, litB x.lit = true) (hn : (its.map fun x => litV x.lit).Nodup) : ∃ f, asgF (its.map RIt.lit) = some f ∧ ∀ y, litB y = true → ((0 < ofF f y ↔ Has its y) ∧ (ofF f y < 0 ↔ Has its (-y))) := by
  obtain ⟨f, e, h1, h2⟩ := k_asg (its.map RIt.lit) (fun _ => 0) (fun x hx => by
    obtain ⟨z, hz, rfl⟩ := List.mem_map.1 hx
    exact hl z hz) (by rw [List.map_map]; exact hn) (fun _ _ => rfl)
  refine ⟨f, e, fun y hy => ?_⟩
  have hb := (litB_iff y).1 hy
  by_cases hex : ∃ (p : Nat) (x : RIt), its[p]? = some x ∧ litV x.lit = litV y
  · obtain ⟨p, x, hp, hv⟩ := hex
    have hx := List.mem_of_getElem? hp
    obtain ⟨a1, a2⟩ := h2 x.lit (List.mem_map_of_mem hx)
    have one : ∀ z, litV z = litV y → Has its z → x.lit = z := fun z hz ⟨q, w, hq, hw⟩ => by
      have := k_inj hn hp hq (by rw [hv, hw, hz])
      subst this
      rw [hp] at hq
      obtain rfl := Option.some.inj hq
      exact hw
    rcases litV_two (hl x hx) hv with e2 | e2
    · rw [← e2] at a1
      constructor
      · exact ⟨fun _ => ⟨p, x, hp, e2.symm⟩, fun _ => by omega⟩
      · refine ⟨fun h => by omega, fun h => ?_⟩
        have := one (-y) (litV_negate y) h
        omega
    · rw [← e2] at a2
      constructor
      · refine ⟨fun h => by omega, fun h => ?_⟩
        have := one y rfl h
        omega
      · exact ⟨fun _ => ⟨p, x, hp, by omega⟩, fun _ => by omega⟩
  · have h0 : ofF f y = 0 := by
      rw [h1 y (fun x hx => by
        obtain ⟨z, hz, rfl⟩ := List.mem_map.1 hx
        obtain ⟨p, hp, e3⟩ := List.getElem_of_mem hz
        exact fun e4 => hex ⟨p, z, by rw [List.getElem?_eq_getElem hp, e3], e4⟩)]
      unfold ofF
      split <;> rfl
    constructor
    · exact ⟨fun h => by omega, fun ⟨p, x, hp, hx⟩ => absurd ⟨p, x, hp, by rw [hx]⟩ hex⟩
    · exact ⟨fun h => by omega, fun ⟨p, x, hp, hx⟩ => absurd ⟨p, x, hp, by rw [hx, litV_negate]⟩ hex⟩
section
variable {f : Int → Int}
theorem k_hold {c : List Int} (h : ∃ y ∈ c, 0 < ofF f y) : ∀ k u, lukGo f k u c = (1, 0) := by
  induction c with
  | nil =>
    obtain ⟨y, hy, _⟩ := h
    cases hy
  | cons l r ih =>
    intro k u
    unfold lukGo
    by_cases hl : 0 < ofF f l
    · rw [if_pos hl]
    · rw [if_neg hl]
      have hr : ∃ y ∈ r, 0 < ofF f y := by
        obtain ⟨y, hy, h⟩ := h
        rcases List.mem_cons.1 hy with rfl | hy
        · exact absurd h hl
        · exact ⟨y, hy, h⟩
      split
      · exact ih hr _ _
      · split
        · exact ih hr _ _
        · exact ih hr _ _
theorem k_rest {c : List Int} {k : Nat} {u : Int} (h : ∀ y ∈ c, ofF f y < 0 ∨ y = u ∧ ¬ 0 < ofF f y) : lukGo f k u c = (k, if k = 3 then u else 0) := by
  induction c with
  | nil => rfl
  | cons l r ih =>
    have hl := h l List.mem_cons_self
    unfold lukGo
    rw [if_neg (by rcases hl with h | h <;> omega), if_pos (hl.imp_right And.left)]
    exact ih (fun y hy => h y (List.mem_cons_of_mem _ hy))
theorem k_fail {c : List Int} (h : ∀ y ∈ c, ofF f y < 0) : lookF f c = (2, 0) := k_rest (fun y hy => .inl (h y hy))
theorem k_unit {c : List Int} {a : Int} (ha : a ∈ c) (hz : ofF f a = 0) (h : ∀ y ∈ c, y ≠ a → ofF f y < 0) (hn : ∀ y ∈ c, y ≠ 0) : lookF f c = (3, a) := by
  show lukGo f 2 0 c = _
  induction c with
  | nil => cases ha
  | cons l r ih =>
    by_cases hl : l = a
    · subst hl
      unfold lukGo
      rw [if_neg (by omega), if_neg (by rintro (h2 | h2); · omega
                                        · exact hn l List.mem_cons_self h2), if_pos rfl, k_rest (fun y hy => ?_)]
      · rfl
      · by_cases e : y = l
        · exact .inr ⟨e, by rw [e]; omega⟩
        · exact .inl (h y (List.mem_cons_of_mem _ hy) e)
    · have hl2 := h l List.mem_cons_self hl
      unfold lukGo
      rw [if_neg (by omega), if_pos (.inl hl2)]
      refine ih ?_ (fun y hy => h y (List.mem_cons_of_mem _ hy)) (fun y hy => hn y (List.mem_cons_of_mem _ hy))
      rcases List.mem_cons.1 ha with e | e
      · exact absurd e.symm hl
      · exact e
theorem k_four {c : List Int} {u : Int} (hu : u ≠ 0) (h : ∀ y ∈ c, ¬ 0 < ofF f y) : lukGo f 4 u c = (4, 0) := by
  induction c with
  | nil => rfl
  | cons l r ih =>
    have hr := ih (fun y hy => h y (List.mem_cons_of_mem _ hy))
    unfold lukGo
    rw [if_neg (h l List.mem_cons_self)]
    split
    · exact hr
    · exact hr
theorem k_open3 {c : List Int} {u : Int} (hu : u ≠ 0) (h : ∀ y ∈ c, ¬ 0 < ofF f y) (hx : ∃ y ∈ c, y ≠ u ∧ ofF f y = 0) : lukGo f 3 u c = (4, 0) := by
  induction c with
  | nil =>
    obtain ⟨y, hy, _⟩ := hx
    cases hy
  | cons l r ih =>
    have hr := fun y hy => h y (List.mem_cons_of_mem _ hy)
    unfold lukGo
    rw [if_neg (h l List.mem_cons_self)]
    by_cases hl : ofF f l < 0 ∨ l = u
    · rw [if_pos hl]
      refine ih hr ?_
      obtain ⟨y, hy, h1, h2⟩ := hx
      rcases List.mem_cons.1 hy with rfl | hy
      · rcases hl with hl | hl
        · omega
        · exact absurd hl h1
      · exact ⟨y, hy, h1, h2⟩
    · rw [if_neg hl, if_neg hu]
      exact k_four hu hr
theorem k_open {c : List Int} {a b : Int} (hab : a ≠ b) (ha : a ∈ c) (hb : b ∈ c) (ha0 : ofF f a = 0) (hb0 : ofF f b = 0) (h : ∀ y ∈ c, ¬ 0 < ofF f y) (hn : ∀ y ∈ c, y ≠ 0) : lookF f c = (4, 0) := by
  show lukGo f 2 0 c = _
  induction c with
  | nil => cases ha
  | cons l r ih =>
    have hr := fun y hy => h y (List.mem_cons_of_mem _ hy)
    have hl1 := h l List.mem_cons_self
    have hl0 := hn l List.mem_cons_self
    unfold lukGo
    rw [if_neg hl1]
    by_cases hl : ofF f l < 0
    · rw [if_pos (.inl hl)]
      refine ih ?_ ?_ hr (fun y hy => hn y (List.mem_cons_of_mem _ hy))
      · rcases List.mem_cons.1 ha with e | e
        · rw [← e] at hl
          omega
        · exact e
      · rcases List.mem_cons.1 hb with e | e
        · rw [← e] at hl
          omega
        · exact e
    · rw [if_neg (by rintro (h2 | h2)
                     · exact hl h2
                     · exact hl0 h2), if_pos rfl]
      refine k_open3 hl0 hr ?_
      by_cases e : l = a
      · rcases List.mem_cons.1 hb with e2 | e2
        · exact absurd (e.symm.trans e2.symm) hab
        · exact ⟨b, e2, fun e3 => hab (e.symm.trans e3.symm), hb0⟩
      · rcases List.mem_cons.1 ha with e2 | e2
        · exact absurd e2.symm e
        · exact ⟨a, e2, fun e3 => e e3.symm, ha0⟩
end
/-- what Add tells is what the clause is -/
inductive AddK (T : Trl) (c : List Int) (f : Int → Int) : Prop
  | fails (hk : addKind T (addTwo T c) = 3) (hl : lookF f c = (2, 0)) (hall : ∀ y ∈ c, T.fal y = true)
  | unit (a : Int) (hk : addKind T (addTwo T c) = 2) (hl : lookF f c = (3, a)) (ha : a ∈ c) (hf : T.fal a = false) (ht : T.tru a = false) (hh : (addTwo T c).headD 0 = a) (ho : ∀ y ∈ c, y ≠ a → T.fal y = true)
  | holds (hk : addKind T (addTwo T c) = 1) (hl : lookF f c = (1, 0)) (ht : ∃ y ∈ c, T.tru y = true)
  | opens (hk : addKind T (addTwo T c) = 1) (hl : lookF f c = (4, 0)) (ht : ∀ y ∈ c, T.tru y = false)
theorem add_kind {T : Trl} {its : List RIt} {c : List Int} {f : Int → Int} (hs : Sim T its) (hc : ∀ y ∈ c, litB y = true) (hf : ∀ y, litB y = true → ((0 < ofF f y ↔ Has its y) ∧ (ofF f y < 0 ↔ Has its (-y)))) : AddK T c f := by
  have tr : ∀ y ∈ c, (0 < ofF f y ↔ T.tru y = true) := fun y hy => (hf y (hc y hy)).1.trans (hs.tru_iff (hc y hy)).symm
  have fa : ∀ y ∈ c, (ofF f y < 0 ↔ T.fal y = true) := fun y hy => (hf y (hc y hy)).2.trans (hs.fal_iff (hc y hy)).symm
  have fz : ∀ y ∈ c, T.fal y = false → T.tru y = false → ofF f y = 0 := fun y hy h1 h2 => by
    have a1 : ¬ 0 < ofF f y := fun h => by rw [(tr y hy).1 h] at h2; cases h2
    have a2 : ¬ ofF f y < 0 := fun h => by rw [(fa y hy).1 h] at h1; cases h1
    omega
  have nz : ∀ y ∈ c, y ≠ 0 := fun y hy => by
    have := (litB_iff y).1 (hc y hy)
    omega
  have hin : ∀ y, y ∈ (eachL c).filter (fun x => !T.fal x) ↔ y ∈ c ∧ T.fal y = false := fun y => by
    rw [List.mem_filter, eachL_mem, Bool.not_eq_true']
  have hst : ∀ y, y ∈ T.stab ((eachL c).filter T.fal) → T.fal y = true := fun y hy => (List.mem_filter.1 (stab_mem.1 hy)).2
  have htwo : addTwo T c = ((eachL c).filter (fun x => !T.fal x) ++ T.stab ((eachL c).filter T.fal)).take 2 := rfl
  have hnd : ((eachL c).filter (fun x => !T.fal x)).Nodup := (eachL_nodup c).filter _
  cases hnf : (eachL c).filter (fun x => !T.fal x) with
  | nil =>
    rw [hnf] at hin htwo
    have hall : ∀ y ∈ c, T.fal y = true := fun y hy => by
      cases h : T.fal y with
      | true => rfl
      | false => cases (hin y).2 ⟨hy, h⟩
    refine .fails ?_ (k_fail fun y hy => (fa y hy).2 (hall y hy)) hall
    rw [htwo, List.nil_append]
    cases hs2 : T.stab ((eachL c).filter T.fal) with
    | nil => rfl
    | cons s r =>
      rw [hs2] at hst
      have := hst s List.mem_cons_self
      cases r with
      | nil => show (if T.fal s = true then 3 else _) = 3; rw [if_pos this]
      | cons s2 r => show (if T.fal s = true then 3 else _) = 3; rw [if_pos this]
  | cons a r =>
    rw [hnf] at hin htwo hnd
    have ha := (hin a).1 List.mem_cons_self
    cases r with
    | nil =>
      have ho : ∀ y ∈ c, y ≠ a → T.fal y = true := fun y hy hne => by
        cases h : T.fal y with
        | true => rfl
        | false => exact absurd (List.mem_singleton.1 ((hin y).2 ⟨hy, h⟩)) hne
      have hkind : addKind T (addTwo T c) = if T.tru a = true then 1 else 2 := by
        rw [htwo]
        cases hs2 : T.stab ((eachL c).filter T.fal) with
        | nil =>
          show (if T.fal a = true then 3 else if T.tru a = true then 1 else 2) = _
          rw [ha.2]
          rfl
        | cons s r =>
          rw [hs2] at hst
          have hfs := hst s List.mem_cons_self
          show (if T.fal a = true then 3 else if T.tru a = true ∨ T.fal s = false then 1 else 2) = _
          rw [ha.2, hfs]
          simp
      have hhd : (addTwo T c).headD 0 = a := by rw [htwo]; rfl
      cases ht : T.tru a with
      | true =>
        rw [ht] at hkind
        exact .holds hkind (k_hold ⟨a, ha.1, (tr a ha.1).2 ht⟩ _ _) ⟨a, ha.1, ht⟩
      | false =>
        rw [ht] at hkind
        exact .unit a hkind (k_unit ha.1 (fz a ha.1 ha.2 ht) (fun y hy hne => (fa y hy).2 (ho y hy hne)) nz) ha.1 ha.2 ht hhd ho
    | cons b r =>
      have hb := (hin b).1 (List.mem_cons_of_mem _ List.mem_cons_self)
      have hab : a ≠ b := fun e => (List.nodup_cons.1 hnd).1 (e ▸ List.mem_cons_self)
      have hkind : addKind T (addTwo T c) = 1 := by
        rw [htwo]
        show (if T.fal a = true then 3 else if T.tru a = true ∨ T.fal b = false then 1 else 2) = _
        rw [ha.2, hb.2]
        simp
      by_cases hex : ∃ y ∈ c, T.tru y = true
      · obtain ⟨y, hy, ht⟩ := hex
        exact .holds hkind (k_hold ⟨y, hy, (tr y hy).2 ht⟩ _ _) ⟨y, hy, ht⟩
      · have hno : ∀ y ∈ c, T.tru y = false := fun y hy => by
          cases h : T.tru y with
          | true => exact absurd ⟨y, hy, h⟩ hex
          | false => rfl
        refine .opens hkind (k_open hab ha.1 hb.1 (fz a ha.1 ha.2 (hno a ha.1)) (fz b hb.1 hb.2 (hno b hb.1)) (fun y hy h => ?_) nz) hno
        have := hno y hy
        rw [(tr y hy).1 h] at this
        cases this
end Go.Proofs.YtoojmhjagipmdaaGreat
namespace Go.Proofs.YtoojmhjagipmdaaGreat
open Go.RowKit Go.Shelf Go.Maps
attribute [local go_sem] Oper.semAt_some

/-- a trail, in blocks of cells alone -/
theorem TrAt.cells {O : Nat → Prop} {w : World} {b : Nat} {T : Trl} (h : TrAt O w b T) : TrAt (fun g => O g ∧ ∃ c t f, w.heap[g]? = some (.cells c t f)) w b T := by
  obtain ⟨hk, gv, cv, ov, sv, h⟩ := h
  have hc : ∀ {base size n : Nat} {e : TypeId} {v : Value} {xs : List Value}, w.ownsRow base e size v n xs → ∀ g, v.ownBlock = some g → ∃ c t f, w.heap[g]? = some (.cells c t f) := fun h g hg => by
    obtain ⟨c, hc⟩ := own_type h g hg
    exact ⟨c, _, _, hc⟩
  exact ⟨hk, gv, cv, ov, sv, ⟨fun g hg => h.own g hg.1, ⟨h.inb, _, _, _, h.block⟩, ⟨h.invs, hc h.vars gv rfl⟩, h.block, h.vars, h.order, fun g hg => ⟨h.orderb g hg, hc h.order g hg⟩, h.starts, fun g hg => ⟨h.startsb g hg, hc h.starts g hg⟩⟩⟩
def TrX (w : World) (b : Nat) (T : Trl) : Prop := ∃ O : Nat → Prop, TrAt O w b T
/-- what a round over Lits keeps -/
def KpB (X : Nat → Prop) (b : Nat) (A B : World) : Prop := KpC X A B ∧ ∀ T, TrX A b T → ∃ T', TrX B b T' ∧ T'.order = T.order
theorem KpB.refl (X : Nat → Prop) (b : Nat) (A : World) : KpB X b A A := ⟨KpC.refl _ _, fun T h => ⟨T, h, rfl⟩⟩
theorem KpB.trans {X : Nat → Prop} {b : Nat} {A B C : World} (h : KpB X b A B) (k : KpB X b B C) : KpB X b A C := ⟨h.1.trans k.1, fun T hT => by
  obtain ⟨T1, h1, e1⟩ := h.2 T hT
  obtain ⟨T2, h2, e2⟩ := k.2 T1 h1
  exact ⟨T2, h2, e2.trans e1⟩⟩
theorem KpB.putObj {X : Nat → Prop} {b : Nat} (W : World) (l : Nat) (o o' : Obj) (h : W.heap[l]? = some o) (hc : o.isCells = false) (hw : o.isWalk = false) : KpB X b W (W.putObj l o') := by
  have hk := KpC.putObj W l o o' h hc hw
  refine ⟨hk.mono (fun _ _ e => e.elim), fun T hT => ⟨T, ?_, rfl⟩⟩
  obtain ⟨O, hT⟩ := hT
  refine ⟨_, hT.cells.kept hk.kept (fun g hg e => ?_)⟩
  obtain ⟨_, c, t, f, hg⟩ := hg
  exact e.elim (fun e => e.elim) (xo_cells hg)
/-- the literals from a place on, each with its being there -/
abbrev UpX (o : List Int) : Type := {x : Nat × Int // x.2 ∈ o}
def upS (o : List Int) : Nat → Nat → List (UpX o)
  | _, 0 => []
  | k, n + 1 => if h : k < o.length then ⟨(k, o[k]), List.getElem_mem h⟩ :: upS o (k + 1) n else []
def dvS {o : List Int} (x : UpX o) : Array Value := #[.int .i64 (x.1.1 : Int), .int .i64 x.1.2]
theorem upS_cons {o : List Int} {k n : Nat} (h : k < o.length) : upS o k (n + 1) = ⟨(k, o[k]), List.getElem_mem h⟩ :: upS o (k + 1) n := by
  simp only [upS]
  rw [dif_pos h]
theorem upS_map (o : List Int) (k n : Nat) (h : k + n = o.length) : (upS o k n).map (fun x => x.1.2) = o.drop k := by
  induction n generalizing k with
  | zero =>
    rw [List.drop_eq_nil_of_le (by omega)]
    rfl
  | succ n ih =>
    rw [upS_cons (by omega), List.map_cons, ih (k + 1) (by omega)]
    exact (List.drop_eq_getElem_cons (by omega)).symm
theorem lits1_in {X : Nat → Prop} (l Bf Bt b k0 : Nat) (T : Trl) (J Jx : List (UpX T.order) → World → Prop) (W : World)
    (hY : ∀ pre x W1, J pre W1 → pre.length < T.order.length → YieldAt Fence.wide 7 Tryz.prog l (dvS x) W1 fun e W' =>
      (e = .returned (.bool true) ∧ J (pre ++ [x]) W' ∧ KpB X b W1 W') ∨ (e = .returned (.bool false) ∧ Jx (pre ++ [x]) W'))
    (hBf : W.cell? ⟨Bf, 0, none⟩ = some (.int .i64 (k0 : Int))) (hBt : W.cell? ⟨Bt, 0, none⟩ = some (.pointer (some ⟨b, 0, none⟩))) (hX : ¬ X Bt) (hT : TrX W b T) (hk0 : k0 ≤ T.order.length) (h0 : J [] W) :
    CallsIn Fence.wide 8 Tryz.prog 191 #[.func (.yield l) #[] #[], .pointer (some ⟨Bf, 0, none⟩), .pointer (some ⟨Bt, 0, none⟩)] W fun e W' => (∃ v, e = .returned v) ∧
      ((∃ ys, ys = upS T.order k0 (T.order.length - k0) ∧ J ys W') ∨ (∃ pre, (pre <+: upS T.order k0 (T.order.length - k0) ∧ pre ≠ []) ∧ Jx pre W')) := by
  have hBt' := World.block_lt_of_cell? W _ hBt
  have hno : T.order.length ≤ 1048576 := by
    obtain ⟨_, hT⟩ := hT
    exact hT.1.order
  have HBT := Lib.hid hBt
  have HT := Lib.hid hT
  have HY := Lib.hid hY
  have H0 := Lib.hid h0
  have HX := Lib.hid hX
  clear hT hY h0 hX
  have hmx : max (k0 : Int) 0 = (k0 : Int) := by omega
  refine callsIn_of_wp Tryz.func191 rfl trivial ?_ rfl
  simp only [Tryz.ntmps191, List.size_toArray, List.length_cons, List.length_nil, Nat.reduceAdd, Nat.reduceSub, Array.replicate_succ, Array.replicate_zero, List.push_toArray, List.append_toArray, List.nil_append, List.cons_append]
  gi_wp2_with fail
  clear hBt
  gi_loopw [4] (fun i wr => ∃ (k : Nat) (pre : List (UpX T.order)), i = .int .i64 (k : Int) ∧ k ≤ T.order.length ∧ Hid (pre.length + k0 = k) ∧ Hid (pre ++ upS T.order k (T.order.length - k) = upS T.order k0 (T.order.length - k0)) ∧ Hid (KpB X b W wr) ∧ Hid (J pre wr))
    (fun i _ => T.order.length - (intOf i).toNat)
  case atStart =>
    exact ⟨k0, [], rfl, hk0, Lib.hid (by simp), Lib.hid rfl, Lib.hid (KpB.refl _ _ _), H0⟩
  case round =>
    obtain ⟨k, pre, rfl, hkn, HPL, HPE, HK, HJS⟩ := hrel
    have d0 : wr.cell? ⟨Bt, 0, none⟩ = some (.pointer (some ⟨b, 0, none⟩)) := (HK.out.1.kept.cell (p := ⟨Bt, 0, none⟩) hBt' (fun h => h.elim HX.out (xo_cell HBT.out))).trans HBT.out
    obtain ⟨T', ⟨O, hT'⟩, hor⟩ := HK.out.2 T HT.out
    have hLR := tr_len b T' wr hT'
    rw [hor] at hLR
    have HLR := Lib.hid hLR
    by_cases hm : k < T.order.length
    · have hq : decide ((k : Int) < (T.order.length : Int)) = true := by simpa using hm
      have hq2 : decide (k < T.order.length) = true := by simpa using hm
      have hx : T'.order[k]? = some (T.order[k]) := by rw [hor]; exact List.getElem?_eq_getElem hm
      obtain ⟨g, c, c1, d1⟩ := tr_cells hT' hx
      rw [hor] at c1
      have HD := Lib.hid (show upS T.order k (T.order.length - k) = ⟨(k, T.order[k]), List.getElem_mem hm⟩ :: upS T.order (k + 1) (T.order.length - (k + 1)) from by
        rw [show T.order.length - k = (T.order.length - (k + 1)) + 1 by omega]
        exact upS_cons hm)
      obtain ⟨fn, tmps, assign, body, hy, hR⟩ := HY.out pre ⟨(k, T.order[k]), List.getElem_mem hm⟩ wr HJS.out (by have := HPL.out; omega)
      obtain ⟨u, hu⟩ : ∃ u, T.order[k] = u := ⟨_, rfl⟩
      dsimp only [dvS] at hy hR
      rw [hu] at d1 hy
      have HR := Lib.hid hR
      clear hx hR hT' hLR hor
      gi_wp2_with fail
      refine ⟨trivial, ?_⟩
      refine (callsIn_wide.2 HLR.out).mono ?_
      rintro e wy ⟨rfl, rfl⟩
      gi_wp2_with fail
      refine HR.out.mono ?_
      rintro e W3 (⟨rfl, hJ3, hk3⟩ | ⟨rfl, hJx3⟩)
      · have HJ3 := Lib.hid hJ3
        have HK3 := Lib.hid (HK.out.trans hk3)
        clear hJ3 hk3 hy d0 c1 d1 hu HR
        gi_wp2_with fail
        go_roundw
        case rel => exact ⟨k + 1, pre ++ [⟨(k, T.order[k]), List.getElem_mem hm⟩], by simp, hm, Lib.hid (by have := HPL.out; simp; omega), Lib.hid (by rw [← HPE.out, HD.out]; simp), HK3, HJ3⟩
        case measure => simp [intOf]; omega
      · gi_wp2_with fail
        refine bodyPost_ret (results_none rfl _ _ _) rfl ?_
        refine ⟨⟨_, rfl⟩, .inr ⟨pre ++ [⟨(k, T.order[k]), List.getElem_mem hm⟩], ⟨?_, by simp⟩, hJx3⟩⟩
        rw [← HPE.out, HD.out]
        exact ⟨_, by rw [List.append_assoc]; rfl⟩
    · have hq : decide ((k : Int) < (T.order.length : Int)) = false := by simpa using hm
      obtain rfl : k = T.order.length := by omega
      clear hLR hT'
      gi_wp2_with fail
      refine ⟨trivial, ?_⟩
      refine (callsIn_wide.2 HLR.out).mono ?_
      rintro e wy ⟨rfl, rfl⟩
      gi_wp2_with fail
      go_end0
      have he : pre = upS T.order k0 (T.order.length - k0) := by
        have := HPE.out
        rw [Nat.sub_self] at this
        simpa [upS] using this
      exact ⟨⟨_, rfl⟩, .inl ⟨_, he, HJS.out⟩⟩
theorem lits_in (b : Nat) (n : Int) (w : World) :
    CallsIn Fence.wide 8 Tryz.prog 174 #[.pointer (some ⟨b, 0, none⟩), .int .i64 n] w fun e w' => e = .returned (.func (.func 191) #[] #[.pointer (some ⟨w.heap.size + 1, 0, none⟩), .pointer (some ⟨w.heap.size, 0, none⟩)]) ∧ (w.alloc (.cells #[.pointer (some ⟨b, 0, none⟩)] 38)).alloc (.cells #[.int .i64 n] 3) = w' := by
  refine callsIn_of_wp Tryz.func174 rfl trivial ?_ rfl
  simp only [Tryz.ntmps174, List.size_toArray, List.length_cons, List.length_nil, Nat.reduceAdd, Nat.reduceSub, Array.replicate_succ, Array.replicate_zero, List.push_toArray, List.append_toArray, List.nil_append, List.cons_append]
  gi_wp2
  go_ret
  exact ⟨by simp, rfl⟩
theorem lits_stops {X : Nat → Prop} (Bf Bt b k0 : Nat) (T : Trl) (w : World) (hBf : w.cell? ⟨Bf, 0, none⟩ = some (.int .i64 (k0 : Int))) (hBt : w.cell? ⟨Bt, 0, none⟩ = some (.pointer (some ⟨b, 0, none⟩))) (hX : ¬ X Bt) (hT : TrX w b T) (hk0 : k0 ≤ T.order.length) :
    SeqStopsK Fence.wide 8 Tryz.prog 191 #[.pointer (some ⟨Bf, 0, none⟩), .pointer (some ⟨Bt, 0, none⟩)] (dvS (o := T.order)) (KpB X b) (fun ys => ys = upS T.order k0 (T.order.length - k0)) (fun pre => pre <+: upS T.order k0 (T.order.length - k0) ∧ pre ≠ []) T.order.length w := fun l J Jx W hW _ _ hY h0 =>
  lits1_in l Bf Bt b k0 T J Jx W hY ((hW.cell (p := ⟨Bf, 0, none⟩) (World.block_lt_of_cell? w _ hBf)).trans hBf) ((hW.cell (p := ⟨Bt, 0, none⟩) (World.block_lt_of_cell? w _ hBt)).trans hBt) hX (by
    obtain ⟨O, hT⟩ := hT
    exact ⟨O, hT.below hW⟩) hk0 h0
end Go.Proofs.YtoojmhjagipmdaaGreat
