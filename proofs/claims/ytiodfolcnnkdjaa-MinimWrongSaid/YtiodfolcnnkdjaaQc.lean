/- minim: reason, implied, covered. -/
import Derived.Test.YtiodfolcnnkdjaaQb
namespace Go.Proofs.Ytiodfolcnnkdjaa
open Go.RowKit

/-- what a work holds, but for what is known -/
def Wk (w : World) (a b mb : Nat) (A : Arn) (T : Trl) (u : Value) (c : List Int) : Prop := ∃ OA OT OC : Nat → Prop, ArAt OA w a A ∧ TrAt OT w b T ∧ IntsIn OC w u c ∧ ¬ OA mb ∧ ¬ OT mb ∧ ¬ OC mb ∧ mb < w.heap.size
theorem Wk.kept {w w' : World} {a b mb : Nat} {A : Arn} {T : Trl} {u : Value} {c : List Int} (h : Wk w a b mb A T u c) (k : Kept (fun g => g = mb) w w') : Wk w' a b mb A T u c := by
  obtain ⟨OA, OT, OC, h1, h2, h3, h4, h5, h6, h7⟩ := h
  exact ⟨OA, OT, OC, h1.kept k (fun g hg e => h4 (e ▸ hg)), h2.kept k (fun g hg e => h5 (e ▸ hg)), h3.kept k (fun g hg e => h6 (e ▸ hg)), h4, h5, h6, Nat.lt_of_lt_of_le h7 k.size⟩
theorem Wk.below {w w' : World} {a b mb : Nat} {A : Arn} {T : Trl} {u : Value} {c : List Int} (h : Wk w a b mb A T u c) (k : Below w.heap.size w w') : Wk w' a b mb A T u c := h.kept (Kept.of_below k)
theorem rbxw (w : World) (ca ct : Array Value) (ta tt : TypeId) : ∃ wa, ((w.alloc (.cells ca ta)).alloc (.cells ct tt)) = wa ∧ Below w.heap.size w wa ∧ wa.heap[w.heap.size]? = some (.cells ca ta (0, 0)) ∧ wa.heap[w.heap.size + 1]? = some (.cells ct tt (0, 0)) := by
  refine ⟨_, rfl, (mx_al _ _).alloc (by simp) _, ?_, ?_⟩
  · rw [Below.heap_alloc _ _ _ (by simp)]
    exact World.alloc_heap_new _ _
  · have := World.alloc_heap_new (w.alloc (.cells ca ta)) (.cells ct tt)
    rwa [World.size_alloc] at this
theorem litV_self {v : Int} (h1 : 1 ≤ v) (h2 : v ≤ 1048576) : (litV v : Int) = v := by
  have hb : litB v = true := (litB_iff v).2 (by omega)
  have := litV_pos hb
  omega
/-- a reason that is right is there -/
theorem right_get {T : Trl} {its : List RIt} (h : Sim T its) {A : Arn} {p : Nat} {x : RIt} (hp : its[p]? = some x) (hr : rightB A T (litV x.lit : Nat) = true) : ∃ c, A.get (T.reason (litV x.lit : Nat)) = some c := by
  rw [rightB_at h A hp] at hr
  unfold rightP at hr
  split at hr
  · cases hr
  · rename_i c hc
    exact ⟨c, hc⟩
theorem right_get_any {T : Trl} {its : List RIt} (h : Sim T its) {A : Arn} {v : Int} (hr : rightB A T v = true) : ∃ c, A.get (T.reason v) = some c := by
  unfold rightB at hr
  split at hr
  · cases hr
  split at hr
  · cases hr
  rename_i h1 h2
  have key : ∀ l : Int, (litV l : Int) = v → (rightP A T l).isSome = true → ∃ c, A.get (T.reason v) = some c := fun l hl hr => by
    unfold rightP at hr
    rw [hl] at hr
    split at hr
    · cases hr
    · rename_i c hc
      exact ⟨c, hc⟩
  by_cases hb : litB v = true
  · have hv := litV_pos hb
    refine key _ ?_ hr
    split
    · rw [show litN v = -v from by unfold litN; rw [if_pos hb], litV_negate]
      omega
    · omega
  · exfalso
    have hz := litV_zero (Bool.eq_false_iff.2 hb)
    apply h1
    unfold Trl.val
    rw [hz]
    cases ha : T.at ((0 : Nat) : Int) with
    | none => rfl
    | some s =>
      have hn := h.why_none (v := 0) (fun x hx e => by
        have := litV_pos (h.litb hx)
        omega)
      unfold Trl.why at hn
      rw [ha] at hn
      simp only at hn
      split at hn
      · rename_i h0
        simp [h0]
      · cases hn
set_option maxRecDepth 100000 in
set_option maxHeartbeats 4000000 in
theorem mn_reason_any (a b mb : Nat) (A : Arn) (T : Trl) (its : List RIt) (Ac : Option Addr) (cc : Nat) (c : List Int) (v : Int) (w : World) (hs : Sim T its) (hw : Wk w a b mb A T (.slice Ac c.length cc) c) :
    Calls Try.prog 41 #[(.agg #[.pointer (some ⟨a, 0, none⟩), .pointer (some ⟨b, 0, none⟩), .slice Ac c.length cc, .map (some mb)]), .int .i64 v] w fun e w' => ((why15 A T v = none ∧ e = .returned (.tuple #[.int .i64 0, .slice none 0 0, .bool false])) ∨ ∃ r u', why15 A T v = some r ∧ e = .returned (.tuple #[.int .i64 r.1, u', .bool true]) ∧ IntsIn (fun g => w.heap.size ≤ g) w' u' r.2 ∧ r.2.length ≤ 4194304) ∧ Below w.heap.size w w' := by
  have HRG := Lib.hid (fun h => right_get_any (A := A) (v := v) hs h)
  clear hs
  obtain ⟨OA, OT, OC, h1, h2, _⟩ := hw
  obtain ⟨wa, hwa, hba, hb0, hb1⟩ := rbxw w #[.pointer (some ⟨a, 0, none⟩), .pointer (some ⟨b, 0, none⟩), .slice Ac c.length cc, .map (some mb)] #[.int .i64 v] 64 3
  have HA := Lib.hid (h1.below hba)
  have HT := Lib.hid (h2.below hba)
  have HBA := Lib.hid hba
  have HWA := Lib.hid hwa
  have HB0 := Lib.hid hb0
  have HB1 := Lib.hid hb1
  have hz0 := heap_lt hb0
  have hz1 := heap_lt hb1
  have HR := Lib.hid (an_right a b A T v wa HA.out HT.out)
  obtain ⟨rb, hrb⟩ : ∃ z, rightB A T v = z := ⟨_, rfl⟩
  rw [hrb] at HR HRG
  have HRB := Lib.hid hrb
  have hcA0 := mx_cell (j := 0) hb0
  have hcA1 := mx_cell (j := 1) hb0
  have hcB := mx_cell (j := 0) hb1
  clear h1 h2 hba hwa hb0 hb1 hrb
  go_enter Try.func41, Try.ntmps41
  go_upto_region 1 with fail
  rw [HWA.out]
  go_wp2_with fail
  refine HR.out.mono ?_
  rintro e w2 ⟨rfl, hb⟩
  have HB2 := Lib.hid hb
  clear hb hcA0 hcA1 hcB HR
  cases rb with
  | false =>
    have HN := Lib.hid (show why15 A T v = none from by unfold why15; rw [HRB.out]; rfl)
    go_wp2_with fail
    go_ret3
    exact ⟨.inl ⟨HN.out, rfl⟩, HBA.out.trans (HB2.out.mono HBA.out.size)⟩
  | true =>
    obtain ⟨c0, hc0⟩ := HRG.out rfl
    have HC0 := Lib.hid hc0
    have HW1 := Lib.hid (show why15 A T v = some (T.reason v, rest15 v c0) from by unfold why15; rw [HRB.out, if_pos rfl, hc0])
    have hrl := Arn.get_len HA.out.1 hc0
    have d1 := (HB2.out.cell (p := ⟨w.heap.size, 1, none⟩) hz0).trans (mx_cell (j := 1) HB0.out)
    have dv := (HB2.out.cell (p := ⟨w.heap.size + 1, 0, none⟩) hz1).trans (mx_cell (j := 0) HB1.out)
    have HRE := Lib.hid (tr_reason b T v w2 (HT.out.below HB2.out))
    clear hc0 HRG
    go_wp2_with fail
    refine HRE.out.mono ?_
    rintro e w3 ⟨rfl, hb⟩
    have HB3 := Lib.hid (HB2.out.trans (hb.mono HB2.out.size))
    clear hb d1 dv HRE
    have d0 := (HB3.out.cell (p := ⟨w.heap.size, 0, none⟩) hz0).trans (mx_cell (j := 0) HB0.out)
    have HGE := Lib.hid (ar_get a A (T.reason v) c0 w3 (HA.out.below HB3.out) HC0.out)
    obtain ⟨rr, hrr⟩ : ∃ z, T.reason v = z := ⟨_, rfl⟩
    rw [hrr] at HW1 HGE ⊢
    clear hrr
    go_wp2_with fail
    refine HGE.out.mono ?_
    rintro e w4 ⟨v4, rfl, hown, hb⟩
    have HB4 := Lib.hid (HB3.out.trans (hb.mono HB3.out.size))
    have hz3 := HB3.out.size
    have hdl := delete_reason (w.heap.size + 1) w3.heap.size v v4 c0 w4 hown ((HB4.out.cell (p := ⟨w.heap.size + 1, 0, none⟩) hz1).trans (mx_cell (j := 0) HB1.out)) (by omega) hb.size hrl
    have HDL := Lib.hid hdl
    clear hb d0 HGE hown hdl
    go_wp2_with fail
    refine HDL.out.mono ?_
    rintro e w5 ⟨⟨u5, rfl, hi5⟩, hb⟩
    have HI5 := Lib.hid (hi5.mono (O' := fun g => w.heap.size ≤ g) (fun g hg => by omega))
    have HB5 := Lib.hid (HBA.out.trans ((HB4.out.trans (hb.mono hz3)).mono HBA.out.size))
    clear hi5 hb HDL
    go_wp2_with fail
    go_ret3
    exact ⟨.inr ⟨_, _, HW1.out, rfl, HI5.out, Nat.le_trans (List.length_filter_le _ _) hrl⟩, HB5.out⟩
theorem mn_reason (a b mb : Nat) (A : Arn) (T : Trl) (its : List RIt) (Ac : Option Addr) (cc : Nat) (c : List Int) (p : Nat) (x : RIt) (w : World) (hs : Sim T its) (_ : its[p]? = some x) (hw : Wk w a b mb A T (.slice Ac c.length cc) c) :
    Calls Try.prog 41 #[(.agg #[.pointer (some ⟨a, 0, none⟩), .pointer (some ⟨b, 0, none⟩), .slice Ac c.length cc, .map (some mb)]), .int .i64 (litV x.lit : Nat)] w fun e w' => ((why15 A T (litV x.lit : Nat) = none ∧ e = .returned (.tuple #[.int .i64 0, .slice none 0 0, .bool false])) ∨ ∃ r u', why15 A T (litV x.lit : Nat) = some r ∧ e = .returned (.tuple #[.int .i64 r.1, u', .bool true]) ∧ IntsIn (fun g => w.heap.size ≤ g) w' u' r.2 ∧ r.2.length ≤ 4194304) ∧ Below w.heap.size w w' := by
  exact mn_reason_any a b mb A T its Ac cc c _ w hs hw
/-- covered, at a place -/
def CovAt (a b mb : Nat) (A : Arn) (T : Trl) (its : List RIt) (Ac : Option Addr) (cc : Nat) (c : List Int) (B : Nat) (p : Nat) : Prop := ∀ x, its[p]? = some x → ∀ (w : World) (f : Int → Int) (kk : Nat), Wk w a b mb A T (.slice Ac c.length cc) c → MapAt w mb kk f → Kn A T its c f (p + 1) → kk + 2 * zer its f ≤ B →
  Calls Try.prog 24 #[(.agg #[.pointer (some ⟨a, 0, none⟩), .pointer (some ⟨b, 0, none⟩), .slice Ac c.length cc, .map (some mb)]), .int .i64 (-x.lit)] w fun e w' => ∃ (f' : Int → Int) (kk' : Nat), e = .returned (.bool (cov15 A T c (-x.lit))) ∧ MapAt w' mb kk' f' ∧ Kn A T its c f' (p + 1) ∧ (∀ q y, p < q → its[q]? = some y → f' (litV y.lit : Nat) = f (litV y.lit : Nat)) ∧ kk' + 2 * zer its f' ≤ kk + 2 * zer its f ∧ Kept (fun g => g = mb) w w'
/-- implied, at a place -/
def ImpAt (a b mb : Nat) (A : Arn) (T : Trl) (its : List RIt) (Ac : Option Addr) (cc : Nat) (c : List Int) (B : Nat) (p : Nat) : Prop := ∀ x, its[p]? = some x → ∀ (w : World) (f : Int → Int) (kk : Nat), Wk w a b mb A T (.slice Ac c.length cc) c → MapAt w mb kk f → Kn A T its c f p → kk + 2 * zer its f ≤ B →
  Calls Try.prog 26 #[(.agg #[.pointer (some ⟨a, 0, none⟩), .pointer (some ⟨b, 0, none⟩), .slice Ac c.length cc, .map (some mb)]), .int .i64 (litV x.lit : Nat)] w fun e w' => ∃ (f' : Int → Int) (kk' : Nat), e = .returned (.bool (impl15 A T c (litV x.lit : Nat))) ∧ MapAt w' mb kk' f' ∧ Kn A T its c f' p ∧ (∀ q y, p ≤ q → its[q]? = some y → f' (litV y.lit : Nat) = f (litV y.lit : Nat)) ∧ kk' + 2 * zer its f' ≤ kk + 2 * zer its f ∧ Kept (fun g => g = mb) w w'
set_option maxRecDepth 100000 in
set_option maxHeartbeats 4000000 in
theorem imp_of_cov (a b mb : Nat) (A : Arn) (T : Trl) (its : List RIt) (Ac : Option Addr) (cc : Nat) (c : List Int) (B : Nat) (p : Nat) (hs : Sim T its) (ih : ∀ q, q < p → CovAt a b mb A T its Ac cc c B q) : ImpAt a b mb A T its Ac cc c B p := by
  intro x hp w f kk hw hm hk hB
  have HMR := Lib.hid (fun w (hw : Wk w a b mb A T (.slice Ac c.length cc) c) => mn_reason a b mb A T its Ac cc c p x w hs hp hw)
  have HIA := Lib.hid (impl15_at hs (A := A) c hp)
  have HRS := Lib.hid (fun r (h : why15 A T (litV x.lit : Nat) = some r) => why15_rest hs hp h)
  have HSI := Lib.hid hs
  obtain ⟨v, hv⟩ : ∃ z : Int, ((litV x.lit : Nat) : Int) = z := ⟨_, rfl⟩
  rw [hv] at HMR HIA HRS ⊢
  obtain ⟨wa, hwa⟩ : ∃ z, w.alloc (.cells #[.pointer (some ⟨a, 0, none⟩), .pointer (some ⟨b, 0, none⟩), .slice Ac c.length cc, .map (some mb)] 64) = z := ⟨_, rfl⟩
  have hba : Below w.heap.size w wa := by rw [← hwa]; exact mx_al _ _
  have hbn : wa.heap[w.heap.size]? = some (.cells #[.pointer (some ⟨a, 0, none⟩), .pointer (some ⟨b, 0, none⟩), .slice Ac c.length cc, .map (some mb)] 64 (0, 0)) := by rw [← hwa]; exact World.alloc_heap_new _ _
  have HWK := Lib.hid (hw.below hba)
  have HMA := Lib.hid (hm.below hba)
  have HBA := Lib.hid hba
  have HWA := Lib.hid hwa
  have HBN := Lib.hid hbn
  have HKN := Lib.hid hk
  have hzw := heap_lt hbn
  have hmb := hm.lt
  have hnm : w.heap.size ≠ mb := by omega
  have c0 := mx_cell (j := 0) hbn
  have c1 := mx_cell (j := 1) hbn
  have c2 := mx_cell (j := 2) hbn
  have c3 := mx_cell (j := 3) hbn
  have HMRA := Lib.hid (HMR.out wa HWK.out)
  clear hp hs hv hba hwa hbn hw hm hk HMR
  go_enter Try.func26, Try.ntmps26
  go_upto_region 1 with fail
  rw [HWA.out]
  refine wp_scope_straight ?_
  go_wp2_with fail
  refine HMRA.out.mono ?_
  rintro e w2 ⟨hor, hb⟩
  have HB2 := Lib.hid hb
  have HM2 := Lib.hid (HMA.out.below hb)
  clear hb c0 c1 c2 c3 HMRA
  rcases hor with ⟨hn, rfl⟩ | ⟨r, u', hr, rfl, hi, hrl⟩
  · have HE := Lib.hid (show impl15 A T c v = false from by rw [HIA.out, hn])
    clear hn
    go_wp2_with fail
    refine wp_label ?_
    go_wp2_with fail
    go_loopw [7, 19] (fun okv iv wr => okv = .bool false ∧ iv = .int .i64 0 ∧ wr = w2) (fun _ _ _ => 0)
    case atStart => exact ⟨rfl, rfl, rfl⟩
    case round =>
      obtain ⟨rfl, rfl, rfl⟩ := hrel
      go_wp2_with fail
      rw [Exit.noGoto_ret]
      go_ret
      exact ⟨f, kk, by rw [HE.out]; rfl, HM2.out, HKN.out, fun _ _ _ _ => rfl, Nat.le_refl _, Kept.of_below (HBA.out.trans (HB2.out.mono HBA.out.size))⟩
  · have HE := Lib.hid (show impl15 A T c v = r.2.all (fun l => cov15 A T c l) from by rw [HIA.out, hr])
    have HRR := Lib.hid (HRS.out r hr)
    have HI := Lib.hid hi
    obtain ⟨Au, cu, rfl, hcu, _, _⟩ := hi
    obtain ⟨id, rs⟩ := r
    simp only at HE HRR HI hrl hcu ⊢
    have hB2 : kk + 2 * zer its f ≤ B := hB
    clear hr HRS HIA
    go_wp2_with fail
    refine wp_label ?_
    go_wp2_with fail
    go_loopw [7, 19] (fun okv iv wr => ∃ (j : Nat) (f' : Int → Int) (kk' : Nat), j ≤ rs.length ∧ iv = .int .i64 j ∧ okv = .bool true ∧ Hid (∀ l ∈ rs.take j, cov15 A T c l = true) ∧ Hid (MapAt wr mb kk' f') ∧ Hid (Kn A T its c f' p) ∧ Hid (∀ q y, p ≤ q → its[q]? = some y → f' (litV y.lit : Nat) = f (litV y.lit : Nat)) ∧ kk' + 2 * zer its f' ≤ kk + 2 * zer its f ∧ Hid (Kept (fun g => g = mb) w2 wr)) (fun _ iv _ => rs.length - (intOf iv).toNat)
    case atStart => exact ⟨0, f, kk, Nat.zero_le _, rfl, rfl, Lib.hid (fun l hl => by cases hl), HM2, HKN, Lib.hid (fun _ _ _ _ => rfl), Nat.le_refl _, Lib.hid (Kept.refl _ _)⟩
    case round =>
      obtain ⟨j, f1, k1, hj, rfl, rfl, HAL, HMF, HKF, HUP, hbd, HKW⟩ := hrel
      by_cases hlt : j < rs.length
      · obtain ⟨l, hl⟩ := getElem_of hlt
        obtain ⟨A', c', hAc, _, _, hxs⟩ := HI.out
        simp only [Value.slice.injEq, true_and] at hAc
        obtain ⟨rfl, rfl⟩ := hAc
        obtain ⟨g, o, rfl, hg, hgo, d0'⟩ := hxs j l hl
        have hgm : g ≠ mb := by
          have := HBA.out.size
          omega
        have d0 : wr.cell? ⟨g, o + j, none⟩ = some (.int .i64 l) := (HKW.out.cell (p := ⟨g, o + j, none⟩) hg hgm).trans d0'
        have hzw2 : w.heap.size < w2.heap.size := Nat.lt_of_lt_of_le hzw HB2.out.size
        have hkb := (HKW.out.block w.heap.size hzw2 hnm).trans ((HB2.out.block w.heap.size hzw).trans HBN.out)
        have c0 := mx_cell (j := 0) hkb
        have c1 := mx_cell (j := 1) hkb
        have c2 := mx_cell (j := 2) hkb
        have c3 := mx_cell (j := 3) hkb
        obtain ⟨hf1, hf2⟩ := HRR.out l (List.mem_of_getElem? hl)
        obtain ⟨q, y, hq, hly, hlv⟩ := HSI.out.fal hf1
        have hqp : q < p := by
          rw [← hlv, HSI.out.rp hq] at hf2
          omega
        subst hly
        have hcv := ih q hqp y hq wr f1 k1 ((HWK.out.below HB2.out).kept HKW.out) HMF.out (fun q' y' hq' hy' => HKF.out q' y' (by omega) hy') (by omega)
        obtain ⟨cv, hcve⟩ : ∃ z, cov15 A T c (-y.lit) = z := ⟨_, rfl⟩
        rw [hcve] at hcv
        have HCV := Lib.hid hcv
        have HCE := Lib.hid hcve
        have HL := Lib.hid hl
        have HQ := Lib.hid hq
        clear hcv hcve hl hq hf1 hf2 hlv hxs hgo d0' hkb
        go_wp2_with fail
        refine HCV.out.mono ?_
        rintro e w3 ⟨f2, k2, rfl, hm2, hk2, hu2, hb2, hkw⟩
        have HKN2 := Lib.hid (show Kn A T its c f2 p from fun q' y' hq' hy' => by
          by_cases h : q' < q + 1
          · exact hk2 q' y' h hy'
          · rw [hu2 q' y' (by omega) hy']
            exact HKF.out q' y' hq' hy')
        have HUP2 := Lib.hid (show ∀ q' y', p ≤ q' → its[q']? = some y' → f2 (litV y'.lit : Nat) = f (litV y'.lit : Nat) from fun q' y' hq' hy' => by
          rw [hu2 q' y' (by omega) hy']
          exact HUP.out q' y' hq' hy')
        have HM3 := Lib.hid hm2
        have hbd2 : k2 + 2 * zer its f2 ≤ kk + 2 * zer its f := Nat.le_trans hb2 hbd
        have HKW3 := Lib.hid (HKW.out.trans (O := fun g => g = mb) hkw (fun _ _ h => h))
        clear hm2 hk2 hu2 hb2 hkw c0 c1 c2 c3 d0 HCV
        cases cv with
        | true =>
          go_wp2_with fail
          go_roundw
          case rel => exact ⟨j + 1, f2, k2, by omega, by go_num, rfl, Lib.hid (fun l' hl' => by
            rw [List.take_add_one, HL.out] at hl'
            rcases List.mem_append.1 hl' with h | h
            · exact HAL.out l' h
            · have e := List.mem_singleton.1 (show l' ∈ [-y.lit] from h)
              rw [e]
              exact HCE.out), HM3, HKN2, HUP2, hbd2, HKW3⟩
          case measure => simp [intOf]; omega
        | false =>
          have HF := Lib.hid (show impl15 A T c v = false from by
            rw [HE.out]
            exact List.all_eq_false.2 ⟨-y.lit, List.mem_of_getElem? HL.out, by rw [HCE.out]; decide⟩)
          go_wp2_with fail
          rw [Exit.noGoto_ret]
          go_ret
          exact ⟨f2, k2, by rw [HF.out]; rfl, HM3.out, HKN2.out, HUP2.out, hbd2, (Kept.of_below (O := fun g => g = mb) (HBA.out.trans (HB2.out.mono HBA.out.size))).trans (O := fun g => g = mb) HKW3.out (fun _ _ h => h)⟩
      · obtain rfl : j = rs.length := by omega
        have HF := Lib.hid (show impl15 A T c v = true from by
          rw [HE.out]
          refine List.all_eq_true.2 (fun l hl => HAL.out l ?_)
          rw [List.take_length]
          exact hl)
        go_wp2_with fail
        rw [Exit.noGoto_ret]
        go_ret
        exact ⟨f1, k1, by rw [HF.out]; rfl, HMF.out, HKF.out, HUP.out, hbd, (Kept.of_below (O := fun g => g = mb) (HBA.out.trans (HB2.out.mono HBA.out.size))).trans (O := fun g => g = mb) HKW.out (fun _ _ h => h)⟩
theorem Kn.put {A : Arn} {T : Trl} {its : List RIt} {c : List Int} {f : Int → Int} {p : Nat} {x : RIt} (hs : Sim T its) (hp : its[p]? = some x) (h : Kn A T its c f p) (z : Int) : Kn A T its c (fun y => if y = (litV x.lit : Nat) then z else f y) p := fun q y hq hy => by
  have hne : ((litV y.lit : Nat) : Int) ≠ (litV x.lit : Nat) := fun e => by
    have := hs.inj hy hp (by omega)
    omega
  simp only
  rw [if_neg hne]
  exact h q y (by omega) hy
theorem kn_down {A : Arn} {T : Trl} {its : List RIt} {c : List Int} {f : Int → Int} {p : Nat} (h : Kn A T its c f (p + 1)) : Kn A T its c f p := fun q y hq hy => h q y (by omega) hy
theorem kn_more {A : Arn} {T : Trl} {its : List RIt} {c : List Int} {f : Int → Int} {p : Nat} {x : RIt} (h : Kn A T its c f p) (hp : its[p]? = some x) (hx : f (litV x.lit : Nat) = 0 ∨ f (litV x.lit : Nat) = if cov15 A T c (-x.lit) = true then 1 else 2) : Kn A T its c f (p + 1) := fun q y hq hy => by
  by_cases e : q = p
  · subst e
    rw [hp] at hy
    rw [← Option.some.inj hy]
    exact hx
  · exact h q y (by omega) hy
set_option maxRecDepth 100000 in
set_option maxHeartbeats 4000000 in
theorem cov_of_imp (a b mb : Nat) (A : Arn) (T : Trl) (its : List RIt) (Ac : Option Addr) (cc : Nat) (c : List Int) (B : Nat) (p : Nat) (hs : Sim T its) (hBm : B ≤ 1000000) (hcl : c.length ≤ 4194304) (ih : ImpAt a b mb A T its Ac cc c B p) : CovAt a b mb A T its Ac cc c B p := by
  intro x hp w f kk hw hm hk hB
  have hxb := (hs.at_ p x hp).1
  have hlv := litV_le x.lit
  have hwx : (Lit.int .i64 (litV x.lit : Nat)).wf = true := wf64 (by omega) (by omega)
  have HWX0 := Lib.hid hwx
  have HZ := Lib.hid (fun (f' : Int → Int) (h0 : f (litV x.lit : Nat) = 0) (h1 : f' (litV x.lit : Nat) ≠ 0) (hsub : ∀ v, f' v = 0 → f v = 0) => zer_put (List.mem_of_getElem? hp) h0 h1 hsub)
  have HKP := Lib.hid (fun (g : Int → Int) (h : Kn A T its c g p) (z : Int) => Kn.put hs hp h z)
  have HUPS := Lib.hid (show ∀ (g : Int → Int) (z : Int) (q : Nat) (y : RIt), p < q → its[q]? = some y → (fun v => if v = ((litV x.lit : Nat) : Int) then z else g v) (litV y.lit : Nat) = g (litV y.lit : Nat) from fun g z q y hq hy => by
    have hne : ((litV y.lit : Nat) : Int) ≠ (litV x.lit : Nat) := fun e => by
      have := hs.inj hy hp (by omega)
      omega
    simp only
    rw [if_neg hne])
  have HKPT := Lib.hid (hk p x (Nat.lt_succ_self p) hp)
  have HPX := Lib.hid hp
  have HV := Lib.hid (fun w => lit_var (-x.lit) w)
  have HVX := Lib.hid (litV_negate x.lit)
  rw [litV_negate] at HV
  have HIH := Lib.hid (fun w' f' k' => ih x hp w' f' k')
  obtain ⟨wa, hwa⟩ : ∃ z, w.alloc (.cells #[.pointer (some ⟨a, 0, none⟩), .pointer (some ⟨b, 0, none⟩), .slice Ac c.length cc, .map (some mb)] 64) = z := ⟨_, rfl⟩
  have hba : Below w.heap.size w wa := by rw [← hwa]; exact mx_al _ _
  have hbn : wa.heap[w.heap.size]? = some (.cells #[.pointer (some ⟨a, 0, none⟩), .pointer (some ⟨b, 0, none⟩), .slice Ac c.length cc, .map (some mb)] 64 (0, 0)) := by rw [← hwa]; exact World.alloc_heap_new _ _
  have HWK := Lib.hid (hw.below hba)
  have HMA := Lib.hid (hm.below hba)
  have HBA := Lib.hid hba
  have HWA := Lib.hid hwa
  have HBN := Lib.hid hbn
  have HKN := Lib.hid hk
  have hzw := heap_lt hbn
  have hmb := hm.lt
  have hnm : w.heap.size ≠ mb := by omega
  have c0 := mx_cell (j := 0) hbn
  have c1 := mx_cell (j := 1) hbn
  have c2 := mx_cell (j := 2) hbn
  have c3 := mx_cell (j := 3) hbn
  have hlk := HMA.out.lookup hwx
  obtain ⟨v, hv⟩ : ∃ z : Int, ((litV x.lit : Nat) : Int) = z := ⟨_, rfl⟩
  rw [hv] at HV HWX0 HZ HKPT hlk HIH HKP HUPS
  have HWX := HWX0
  have HVV := Lib.hid hv
  obtain ⟨y, hy⟩ : ∃ z, -x.lit = z := ⟨_, rfl⟩
  rw [hy] at HV HKPT ⊢
  have HY := Lib.hid hy
  have hCE : cov15 A T c y = (c.contains y || impl15 A T c v) := by unfold cov15; rw [← hy, litV_negate, hv]
  have HCE := Lib.hid hCE
  have HCT := Lib.hid (fun W (h : Wk W a b mb A T (.slice Ac c.length cc) c) => (by
    obtain ⟨_, _, OC, _, _, h3, _⟩ := h
    exact contains_c (.slice Ac c.length cc) c y W h3 (by omega) : Calls Try.prog 25 #[.slice Ac c.length cc, .int .i64 y] W fun e w' => e = .returned (.bool (c.contains y)) ∧ W = w'))
  obtain ⟨fv, hfv⟩ : ∃ z, f v = z := ⟨_, rfl⟩
  rw [hfv] at hlk HKPT
  have HFV := Lib.hid hfv
  clear hp hs hba hwa hbn hw hm hk ih hxb hlv hwx hy hCE hfv hv HWX0
  by_cases h0 : fv = 0
  · subst h0
    have q0 : ((0 : Int) == 0) = true := rfl
    go_enter Try.func24, Try.ntmps24
    go_wp2_with (rw [HWA.out])
    refine (HV.out wa).mono ?_
    rintro e w' ⟨rfl, rfl⟩
    have HK0 := Lib.hid (Kept.refl (fun g => g = mb) wa)
    have hkB : kk + 2 * zer its f ≤ 1000000 := Nat.le_trans hB hBm
    go_wp2_with (at_mapUpdate; refine wpList_put HMA.out rfl _ _ _ rfl rfl (by unfold maxLen; omega) v 2 rfl rfl HWX.out rfl ?_; intro w4 hmN hgN; have hkN : Kept (fun g => g = mb) wa w4 := HK0.out.trans (Kept.grown hgN) (fun i _ e => (Option.some.inj e)); have HKw4 := Lib.hid hkN; have HMw4 := Lib.hid hmN; have hbk := (hkN.block w.heap.size hzw hnm).trans HBN.out; have c0 := mx_cell (j := 0) hbk; have c1 := mx_cell (j := 1) hbk; have c2 := mx_cell (j := 2) hbk; have c3 := mx_cell (j := 3) hbk; have HCW := Lib.hid (HCT.out w4 (HWK.out.kept hkN)); clear hlk; clear hmN hgN hkN hbk)
    refine HCW.out.mono ?_
    rintro e w' ⟨hce, rfl⟩
    obtain ⟨cb, hcb⟩ : ∃ z, c.contains y = z := ⟨_, rfl⟩
    rw [hcb] at hce HCE
    subst hce
    clear HCW hcb
    obtain ⟨f1, hf1⟩ : ∃ g : Int → Int, (fun z => if z = v then (2 : Int) else f z) = g := ⟨_, rfl⟩
    rw [hf1] at HMw4
    have HZ1 := Lib.hid (show zer its f1 + 1 ≤ zer its f from by
      rw [← hf1]
      exact HZ.out _ HFV.out (by simp only [if_true]; decide) (fun u hu => by
        have hu : (if u = v then (2 : Int) else f u) = 0 := hu
        split at hu
        · cases hu
        · exact hu))
    have HKN1 := Lib.hid (show Kn A T its c f1 p from by rw [← hf1]; exact HKP.out f (kn_down HKN.out) 2)
    have HUP1 := Lib.hid (show ∀ (q : Nat) (y : RIt), p < q → its[q]? = some y → f1 (litV y.lit : Nat) = f (litV y.lit : Nat) from fun q y hq hy => by rw [← hf1]; exact HUPS.out f 2 q y hq hy)
    have HF1 := Lib.hid (show f1 v = 2 from by rw [← hf1]; exact if_pos rfl)
    clear hf1
    have hz1 := HZ1.out
    cases cb with
    | true =>
      go_wp2_with (at_mapUpdate; refine wpList_put HMw4.out rfl _ _ _ rfl rfl (by unfold maxLen; omega) v 1 rfl rfl HWX.out rfl ?_; intro w6 hmN hgN; have hkN : Kept (fun g => g = mb) wa w6 := HKw4.out.trans (Kept.grown hgN) (fun i _ e => (Option.some.inj e)); have HKw6 := Lib.hid hkN; have HMw6 := Lib.hid hmN; have hbk := (hkN.block w.heap.size hzw hnm).trans HBN.out; have c0 := mx_cell (j := 0) hbk; have c1 := mx_cell (j := 1) hbk; have c2 := mx_cell (j := 2) hbk; have c3 := mx_cell (j := 3) hbk; have hlk := HMw6.out.lookup HWX.out; rw [show (if v = v then (1 : Int) else f1 v) = 1 from if_pos rfl] at hlk; clear hmN hgN hkN hbk)
      have HE := Lib.hid (show cov15 A T c y = true from HCE.out)
      go_ret
      exact ⟨_, (kk + 1) + 1, by rw [HE.out]; rfl, HMw6.out, kn_more (HKP.out f1 HKN1.out 1) HPX.out (.inr (by rw [HVV.out, HY.out, HE.out]; simp)), fun q z hq hz => (HUPS.out f1 1 q z hq hz).trans (HUP1.out q z hq hz), by
        have h1 : zer its (fun z => if z = v then (1 : Int) else f1 z) ≤ zer its f1 := zer_mono (fun u hu => by
          have hu : (if u = v then (1 : Int) else f1 u) = 0 := hu
          split at hu
          · cases hu
          · exact hu)
        omega, (Kept.of_below (O := fun g => g = mb) HBA.out).trans (O := fun g => g = mb) HKw6.out (fun _ _ h => h)⟩
    | false =>
      have hih := HIH.out w4 f1 (kk + 1) (HWK.out.kept HKw4.out) HMw4.out HKN1.out (by omega)
      obtain ⟨ib, hib⟩ : ∃ z, impl15 A T c v = z := ⟨_, rfl⟩
      rw [hib] at hih HCE
      have HI := Lib.hid hih
      clear hih hib
      go_wp2_with fail
      refine HI.out.mono ?_
      rintro e w5 ⟨f2, k2, rfl, hm5, hk5, hu5, hb5, hkw5⟩
      have HM5 := Lib.hid hm5
      have HK5 := Lib.hid (HKw4.out.trans (O := fun g => g = mb) hkw5 (fun _ _ h => h))
      have HKN2 := Lib.hid hk5
      have HUP2 := Lib.hid (show ∀ (q : Nat) (y : RIt), p < q → its[q]? = some y → f2 (litV y.lit : Nat) = f (litV y.lit : Nat) from fun q y hq hy => (hu5 q y (by omega) hy).trans (HUP1.out q y hq hy))
      have HF2 := Lib.hid (show f2 v = 2 from by
        have := hu5 p x (Nat.le_refl _) HPX.out
        rw [HVV.out] at this
        rw [this]
        exact HF1.out)
      have hbk := (HK5.out.block w.heap.size hzw hnm).trans HBN.out
      have c0 := mx_cell (j := 0) hbk
      have c1 := mx_cell (j := 1) hbk
      have c2 := mx_cell (j := 2) hbk
      have c3 := mx_cell (j := 3) hbk
      clear hm5 hk5 hu5 hkw5 hbk HI
      cases ib with
      | true =>
        go_wp2_with (at_mapUpdate; refine wpList_put HM5.out rfl _ _ _ rfl rfl (by unfold maxLen; omega) v 1 rfl rfl HWX.out rfl ?_; intro w6 hmN hgN; have hkN : Kept (fun g => g = mb) wa w6 := HK5.out.trans (Kept.grown hgN) (fun i _ e => (Option.some.inj e)); have HKw6 := Lib.hid hkN; have HMw6 := Lib.hid hmN; have hbk := (hkN.block w.heap.size hzw hnm).trans HBN.out; have c0 := mx_cell (j := 0) hbk; have c1 := mx_cell (j := 1) hbk; have c2 := mx_cell (j := 2) hbk; have c3 := mx_cell (j := 3) hbk; have hlk := HMw6.out.lookup HWX.out; rw [show (if v = v then (1 : Int) else f2 v) = 1 from if_pos rfl] at hlk; clear hmN hgN hkN hbk)
        have HE := Lib.hid (show cov15 A T c y = true from HCE.out)
        go_ret
        exact ⟨_, k2 + 1, by rw [HE.out]; rfl, HMw6.out, kn_more (HKP.out f2 HKN2.out 1) HPX.out (.inr (by rw [HVV.out, HY.out, HE.out]; simp)), fun q z hq hz => (HUPS.out f2 1 q z hq hz).trans (HUP2.out q z hq hz), by
          have h1 : zer its (fun z => if z = v then (1 : Int) else f2 z) ≤ zer its f2 := zer_mono (fun u hu => by
            have hu : (if u = v then (1 : Int) else f2 u) = 0 := hu
            split at hu
            · cases hu
            · exact hu)
          omega, (Kept.of_below (O := fun g => g = mb) HBA.out).trans (O := fun g => g = mb) HKw6.out (fun _ _ h => h)⟩
      | false =>
        have HE := Lib.hid (show cov15 A T c y = false from HCE.out)
        have hlk := HM5.out.lookup HWX.out
        rw [HF2.out] at hlk
        go_wp2_with fail
        go_ret
        exact ⟨f2, k2, by rw [HE.out]; rfl, HM5.out, kn_more HKN2.out HPX.out (.inr (by rw [HVV.out, HF2.out, HY.out, HE.out]; rfl)), HUP2.out, by omega, (Kept.of_below (O := fun g => g = mb) HBA.out).trans (O := fun g => g = mb) HK5.out (fun _ _ h => h)⟩
  · have q0 : (fv == 0) = false := by simpa using h0
    have HE := Lib.hid (show (fv == 1) = cov15 A T c y from by
      rcases HKPT.out with h | h
      · exact absurd h h0
      · rw [h]
        cases cov15 A T c y <;> rfl)
    clear h0
    go_enter Try.func24, Try.ntmps24
    go_wp2_with (rw [HWA.out])
    refine (HV.out wa).mono ?_
    rintro e w' ⟨rfl, rfl⟩
    go_wp2_with fail
    go_ret
    exact ⟨f, kk, by rw [← HE.out]; rfl, HMA.out, HKN.out, fun _ _ _ _ => rfl, Nat.le_refl _, Kept.of_below HBA.out⟩
end Go.Proofs.Ytiodfolcnnkdjaa
