/- Plain: a search learns a clause: it is unit behind the level to which it leads, and no clause lay within it. package salvorlaw14: Learn. AnalyzeFollows: the walk. -/
import Derived.Test.YtoojmhjagipmdaaGreatU030
import Derived.Test.YtoojmhjagipmdaaGreatU027
import Derived.Test.YtoojmhjagipmdaaGreatU031
namespace Go.Proofs.YtoojmhjagipmdaaGreat
open Go.RowKit

theorem clsC_wide {cs : List (List Int)} (L : List Int) {id : Int} {c : List Int} (h : clsC cs id = some c) : clsC (cs ++ [L]) id = some c := by
  obtain ⟨n, rfl, hn, hl⟩ := clsC_some h
  unfold clsC
  rw [if_pos (by omega), show ((n : Int) + 1 - 1).toNat = n by omega, List.getElem?_append_left hl]
  exact hn
theorem clsC_last (cs : List (List Int)) (L : List Int) : clsC (cs ++ [L]) ((cs.length : Int) + 1) = some L := by
  unfold clsC
  rw [if_pos (by omega), show ((cs.length : Int) + 1 - 1).toNat = cs.length by omega, List.getElem?_append_right (Nat.le_refl _), Nat.sub_self]
  rfl
theorem clsC_past (cs : List (List Int)) : clsC cs ((cs.length : Int) + 1) = none := by
  unfold clsC
  rw [if_pos (by omega), show ((cs.length : Int) + 1 - 1).toNat = cs.length by omega, List.getElem?_eq_none (Nat.le_refl _)]
theorem clsC_some2 {cs : List (List Int)} {L : List Int} {id : Int} {c : List Int} (h : clsC (cs ++ [L]) id = some c) : clsC cs id = some c ∨ id = (cs.length : Int) + 1 ∧ c = L := by
  obtain ⟨n, rfl, hn, hl⟩ := clsC_some h
  rcases Nat.lt_or_ge n cs.length with h1 | h1
  · left
    unfold clsC
    rw [if_pos (by omega), show ((n : Int) + 1 - 1).toNat = n by omega]
    rwa [List.getElem?_append_left h1] at hn
  · right
    rw [List.length_append, List.length_singleton] at hl
    obtain rfl : n = cs.length := by omega
    rw [List.getElem?_append_right (Nat.le_refl _), Nat.sub_self] at hn
    exact ⟨rfl, (Option.some.inj hn).symm⟩
theorem addAll_snoc (c : List Int) : ∀ (cs : List (List Int)) (A : Arn) (i : Nat), addAll A i (cs ++ [c]) = (addAll A i cs).put (((i + cs.length : Nat) : Int) + 1) c := by
  intro cs
  induction cs with
  | nil => exact fun _ _ => rfl
  | cons d cs ih =>
    intro A i
    show addAll (A.put ((i : Int) + 1) d) (i + 1) (cs ++ [c]) = (addAll (A.put ((i : Int) + 1) d) (i + 1) cs).put _ c
    rw [ih, List.length_cons, show i + 1 + cs.length = i + (cs.length + 1) by omega]
theorem addAll_low2 (cs : List (List Int)) (A : Arn) (i : Nat) (h : A.Low i) (hc : ∀ c ∈ cs, c.length ≤ 1000) : (addAll A i cs).Low (i + cs.length) := by
  induction cs generalizing A i with
  | nil => exact h
  | cons c cs ih =>
    have := ih _ (i + 1) (h.next c (hc c (List.mem_cons_self ..))) (fun c h => hc c (List.mem_cons_of_mem _ h))
    rw [List.length_cons, show i + (cs.length + 1) = i + 1 + cs.length by omega]
    exact this
section
variable {C : Int → Option (List Int)} {T : Trl} {its : List RIt} {S : Wst} {cs : List (List Int)} {id lv : Int} {c : List Int} {x : Lrn} {R K : List Nat}
/-- going back keeps what has a level at most that -/
theorem back_keep (h : St C T its S) {j : Int} (h0 : 0 ≤ j) (hj : j < T.now) : ∃ its1, St C (T.backed j) its1 (backS T S j) ∧ (backS T S j).looked = its1.length ∧ (T.backed j).now = j ∧ T.backErr j = 0 ∧ its1 <+: its ∧ (∀ y, Has0 its y → Has0 its1 y) ∧ ∀ (p : Nat) (x : RIt), its[p]? = some x → x.level ≤ j → its1[p]? = some x := by
  have hn := now_eq (T := T)
  have herr : T.backErr j = 0 := by
    unfold Trl.backErr
    rw [if_neg (by omega)]
  obtain ⟨k, rfl⟩ : ∃ k : Nat, j = k := ⟨j.toNat, by omega⟩
  have hlt : k + 1 < T.starts.length := by omega
  obtain ⟨s, hs⟩ := getElem_of hlt
  have e1 : T.starts.getD (k + 1) 0 = s := by rw [List.getD_eq_getElem?_getD, hs]; rfl
  have eb : T.backed (k : Int) = T.back k s.toNat := by
    unfold Trl.backed
    rw [if_pos (by omega), Int.toNat_natCast, e1]
  unfold backS
  rw [eb]
  obtain ⟨h1, h2, h3, h4⟩ := h.back hlt hs
  refine ⟨_, h1, h2, h4, herr, List.take_prefix _ _, h3, fun p x hp hx => ?_⟩
  obtain ⟨⟨a1, _⟩, a2⟩ := h.sta (k + 1) s hs
  have := (a2 p x hp).2 (by omega)
  rw [List.getElem?_take, if_pos (by omega)]
  exact hp
/-- the literals that stay, by places -/
theorem ConfO.parts (h : ConfO C T its id c lv x R K) (hs : Sim T its) (hlv : lv ≠ 0) : ∃ (k0 : Nat) (K' : List Nat) (z0 : RIt), K = k0 :: K' ∧ its[k0]? = some z0 ∧ z0.level = lv ∧ x.lits = -z0.lit :: K'.map (fun q => -(litAt its q)) ∧ (∀ q ∈ K', ∃ z, its[q]? = some z ∧ z.level < lv ∧ 0 < z.level ∧ z.level ≤ x.back) ∧ 0 ≤ x.back ∧ x.back < lv ∧ (K' = [] → x.back = 0) ∧ (K' ≠ [] → ∃ q ∈ K', ∃ z, its[q]? = some z ∧ z.level = x.back) := by
  obtain ⟨k0, K', hK, h1, h2⟩ := h.one hlv
  have hkin := h.kin
  have hkd := h.kdn
  have hl := h.lits
  rw [hK] at hkin hkd hl
  obtain ⟨z0, hz0⟩ := getElem_of (hkin k0 List.mem_cons_self).1
  rw [lvAt_eq hz0] at h1
  rw [List.map_cons, litAt_eq hz0] at hl
  have hlv0 := h.lv0
  have hat : ∀ q ∈ K', ∃ z, its[q]? = some z ∧ z.level < lv ∧ 0 < z.level := fun q hq => by
    obtain ⟨a1, a2, _⟩ := hkin q (List.mem_cons_of_mem _ hq)
    obtain ⟨z, hz⟩ := getElem_of a1
    have := h2 q hq
    rw [lvAt_eq hz] at this a2
    exact ⟨z, hz, this, a2⟩
  cases hKK : K' with
  | nil =>
    subst hKK
    have hb : x.back = 0 := by rw [h.back, hl]; rfl
    refine ⟨k0, [], z0, hK, hz0, h1, hl, ?_, by omega, by omega, fun _ => hb, fun h => absurd rfl h⟩
    intro q hq
    cases hq
  | cons k1 K2 =>
    obtain ⟨z1, hz1, b1, b2⟩ := hat k1 (by rw [hKK]; exact List.mem_cons_self)
    have hb : x.back = z1.level := by
      rw [h.back, hl, hKK, List.map_cons]
      show T.level (litV (-(litAt its k1)) : Nat) = _
      rw [litAt_eq hz1, litV_negate, hs.level hz1]
    refine ⟨k0, k1 :: K2, z0, by rw [hK, hKK], hz0, h1, by rw [hl, hKK], fun q hq => ?_, by omega, by omega, (fun h => by cases h), fun _ => ⟨k1, List.mem_cons_self, z1, hz1, hb.symm⟩⟩
    obtain ⟨z, hz, a1, a2⟩ := hat q (by rw [hKK]; exact hq)
    refine ⟨z, hz, a1, a2, ?_⟩
    rw [hb]
    rcases List.mem_cons.1 hq with e | hq
    · subst e
      rw [hz1] at hz
      obtain rfl := Option.some.inj hz
      exact Int.le_refl _
    · rw [hKK, List.pairwise_cons, List.pairwise_cons] at hkd
      exact hs.mono q k1 z z1 (Nat.le_of_lt (hkd.2.1 q hq)) hz hz1
/-- what is learned is unit where it leads -/
structure LearnO (cs : List (List Int)) (x : Lrn) (T : Trl) (its : List RIt) (S : Wst) (l0 : Int) (its1 : List RIt) (W : WRes) : Prop where
  berr : T.backErr x.back = 0
  head : ∃ r, x.lits = l0 :: r
  now1 : (T.backed x.back).now = x.back
  st1 : St (clsC cs) (T.backed x.back) its1 (backS T S x.back)
  pre : its1 <+: its
  lvl : ∀ (p : Nat) (y : RIt), its[p]? = some y → y.level ≤ x.back → its1[p]? = some y
  val : (T.backed x.back).val l0 = 0
  fal : ∀ y ∈ x.lits, y ≠ l0 → Has its1 (-y)
  res : W.res = 2
  err : W.err = 0
  tr : W.T = (T.backed x.back).assigned l0 ((cs.length : Int) + 1)
  now : W.T.now = x.back
  st : St (clsC (cs ++ [x.lits])) W.T (its1 ++ [⟨l0, (cs.length : Int) + 1, x.back⟩]) W.S
  dcs : Dcs (its1 ++ [⟨l0, (cs.length : Int) + 1, x.back⟩])
  kn : ∀ j, (W.S.kn j).isSome = (clsC (cs ++ [x.lits]) j).isSome
  one : One (clsC (cs ++ [x.lits])) (fun _ => True) (its1 ++ [⟨l0, (cs.length : Int) + 1, x.back⟩])
  six : Six (cs ++ [x.lits])
theorem sr_learn (hr : Sr cs T its S id) (hid : id ≠ 0) (h6 : Six cs) (hlen : cs.length < 900) (hc : clsC cs id = some c) (h : ConfO (clsC cs) T its id c lv x R K) (hlv : lv ≠ 0) :
    ∃ its1 l0, LearnO cs x T its S l0 its1 (addW (addAll arn0 0 (cs ++ [x.lits])) (T.backed x.back) (backS T S x.back) ((cs.length : Int) + 1)) := by
  have hs := hr.st.sim
  obtain ⟨f, g⟩ := good_facts hs hr.st.vars h6 hc h
  obtain ⟨k0, K', z0, hK, hz0, hzl, hxl, hrest, hb0, hbl, hbn, hbm⟩ := h.parts hs hlv
  have hlnow : lv ≤ T.now := by
    have := (hs.pos z0 (List.mem_of_getElem? hz0)).2
    omega
  have hlv0 := h.lv0
  obtain ⟨hkn, hone⟩ := (hr.full hid).resolve_left (by omega)
  obtain ⟨its1, b1, b2, b3, b4, b5, b6, b7⟩ := back_keep hr.st hb0 (show x.back < T.now by omega)
  have h6' : Six (cs ++ [x.lits]) := by
    refine ⟨by rw [List.length_append, List.length_singleton]; omega, fun d hd => ?_⟩
    rcases List.mem_append.1 hd with hd | hd
    · exact h6.2 d hd
    · rw [List.mem_singleton.1 hd]
      exact ⟨g.lits6, g.litr⟩
  have hl0 : -z0.lit ∈ x.lits := by rw [hxl]; exact List.mem_cons_self
  have hzb := (hs.at_ k0 z0 hz0).1
  have hlb : litB (-z0.lit) = true := by rw [litB_minus]; exact hzb
  have hfal : ∀ y ∈ x.lits, y ≠ -z0.lit → ∃ (q : Nat) (z : RIt), its1[q]? = some z ∧ z.lit = -y ∧ z.level ≤ x.back := fun y hy hne => by
    rw [hxl] at hy
    rcases List.mem_cons.1 hy with e | hy
    · exact absurd e hne
    · obtain ⟨q, hq, e⟩ := List.mem_map.1 hy
      obtain ⟨z, hz, _, _, hle⟩ := hrest q hq
      exact ⟨q, z, b7 q z hz hle, by rw [← e, litAt_eq hz, Int.neg_neg], hle⟩
  have hno : ∀ (p : Nat) (y : RIt), its1[p]? = some y → litV y.lit ≠ litV z0.lit := fun p y hp e => by
    have := hs.inj (pre_get b5 hp) hz0 e
    subst this
    have h1 := (b1.sim.pos y (List.mem_of_getElem? hp)).2
    have h2 := pre_get b5 hp
    rw [hz0] at h2
    obtain rfl := Option.some.inj h2
    omega
  have hval : (T.backed x.back).val (-z0.lit) = 0 := by
    refine sim_val ?_ ?_
    · cases hf : (T.backed x.back).fal (-z0.lit) with
      | false => rfl
      | true =>
        obtain ⟨p, y, hp, e⟩ := (b1.sim.fal_iff hlb).1 hf
        exact absurd (by rw [e, Int.neg_neg]) (hno p y hp)
    · cases hf : (T.backed x.back).tru (-z0.lit) with
      | false => rfl
      | true =>
        obtain ⟨p, y, hp, e⟩ := (b1.sim.tru_iff hlb).1 hf
        exact absurd (by rw [e, litV_negate]) (hno p y hp)
  have hno2 := h.chain.no hs
  have hal := alwL_no hno2
  have hk0 : (backS T S x.back).kn ((cs.length : Int) + 1) = none := by
    have := hkn ((cs.length : Int) + 1)
    rw [clsC_past] at this
    exact Option.isSome_eq_false_iff.1 this |> Option.isNone_iff_eq_none.1
  have hw := b1.wide (fun i d hd => clsC_wide x.lits hd)
  obtain ⟨c1, c2, c3, c4, c5, c6⟩ := hw.learn h6'.fit b2 (clsC_last cs x.lits) hk0 hal hl0 hval (fun y hy hne => by
    obtain ⟨q, z, hz, e, _⟩ := hfal y hy hne
    exact ⟨q, z, hz, e⟩) (fun hex => by
    obtain ⟨y, hy, hne⟩ := hex
    rw [hxl] at hy
    have hK' : K' ≠ [] := fun e => by
      rw [e] at hy
      exact hne (by simpa using hy)
    obtain ⟨q, hq, z, hz, e⟩ := hbm hK'
    have hz1 := b7 q z hz (Int.le_of_eq e)
    refine ⟨-z.lit, ?_, fun e2 => ?_, ?_⟩
    · rw [hxl]
      exact List.mem_cons_of_mem _ (List.mem_map.2 ⟨q, hq, by rw [litAt_eq hz]⟩)
    · exact hno q z hz1 (by rw [show z.lit = z0.lit by omega])
    · rw [b3, litV_negate, b1.sim.level hz1]
      omega)
  have hget : (addAll arn0 0 (cs ++ [x.lits])).get ((cs.length : Int) + 1) = some x.lits := (get_cls h6' _).trans (clsC_last cs x.lits)
  have haw : addW (addAll arn0 0 (cs ++ [x.lits])) (T.backed x.back) (backS T S x.back) ((cs.length : Int) + 1) = addOk (T.backed x.back) (backS T S x.back) ((cs.length : Int) + 1) x.lits := by
    unfold addW
    rw [hk0]
    simp only []
    rw [hget]
    simp only []
    rw [if_neg (by
      rw [Bool.not_eq_true, List.any_eq_false]
      intro y hy
      have h1 := (g.litr y hy).2
      have h2 := b1.vars
      rw [decide_eq_true_eq]
      omega)]
  rw [haw]
  refine ⟨its1, -z0.lit, {
    berr := b4
    head := ⟨_, hxl⟩
    now1 := b3
    st1 := b1
    pre := b5
    lvl := b7
    val := hval
    fal := fun y hy hne => by
      obtain ⟨q, z, hz, e, _⟩ := hfal y hy hne
      exact ⟨q, z, hz, e⟩
    res := c1
    err := addOk_err _ _ _ _
    tr := c2
    now := by rw [c2, assigned_now]; exact b3
    st := by
      have h3 := c3
      rw [b3] at h3
      rw [c2]
      exact h3
    dcs := (hr.dcs.pre b5).snoc fun h0 => by
      have h0 : (cs.length : Int) + 1 = 0 := h0
      omega
    kn := fun j => ?_
    one := fun j d _ hd hda hdl => ?_
    six := h6' }⟩
  · rw [c5]
    show (decide (j = (cs.length : Int) + 1) || (S.kn j).isSome) = _
    rw [hkn]
    by_cases e : j = (cs.length : Int) + 1
    · rw [e, clsC_last, decide_eq_true rfl]
      rfl
    · rw [decide_eq_false e, Bool.false_or]
      cases hd : clsC cs j with
      | some d => rw [clsC_wide x.lits hd]
      | none =>
        cases hd2 : clsC (cs ++ [x.lits]) j with
        | none => rfl
        | some d =>
          rcases clsC_some2 hd2 with h1 | ⟨h1, _⟩
          · rw [hd] at h1; cases h1
          · exact absurd h1 e
  · rcases clsC_some2 hd with h1 | ⟨_, h1⟩
    · obtain ⟨y, hy, hh⟩ := hone j d trivial h1 hda hdl
      exact ⟨y, hy, (b6 y hh).pre ⟨_, rfl⟩⟩
    · subst h1
      have hK' : K' = [] := by
        cases hKK : K' with
        | nil => rfl
        | cons q K2 =>
          obtain ⟨z, hz, _, _, hle⟩ := hrest q (by rw [hKK]; exact List.mem_cons_self)
          have hm : -z.lit ∈ x.lits := by
            rw [hxl, hKK]
            exact List.mem_cons_of_mem _ (List.mem_map.2 ⟨q, List.mem_cons_self, by rw [litAt_eq hz]⟩)
          have := lits_one hdl hm hl0
          exact absurd (by rw [show z.lit = z0.lit by omega]) (hno q z (b7 q z hz hle))
      refine ⟨-z0.lit, hl0, its1.length, ⟨-z0.lit, (cs.length : Int) + 1, x.back⟩, by simp, rfl, hbn hK'⟩
/-- no clause lies within what is learned -/
theorem conf_new (hr : Sr cs T its S id) (hid : id ≠ 0) (h6 : Six cs) (h : ConfO (clsC cs) T its id c lv x R K) (hlv : lv ≠ 0) : ∀ d ∈ cs, ¬ ∀ y ∈ d, y ∈ x.lits := fun d hd hsub => by
  have hs := hr.st.sim
  obtain ⟨k0, K', z0, hK, hz0, hzl, hxl, hrest, hb0, hbl, hbn, hbm⟩ := h.parts hs hlv
  have hlnow : lv ≤ T.now := by
    have := (hs.pos z0 (List.mem_of_getElem? hz0)).2
    omega
  have hlv0 := h.lv0
  obtain ⟨hkn, hone⟩ := (hr.full hid).resolve_left (by omega)
  obtain ⟨n, hn⟩ := List.getElem?_of_mem hd
  have hcd : clsC cs ((n : Int) + 1) = some d := by
    unfold clsC
    rw [if_pos (by omega), show ((n : Int) + 1 - 1).toNat = n by omega]
    exact hn
  have hdb := fun y hy => (h6.fit _ d hcd).2.2 y hy
  have hfal : ∀ y ∈ d, Has its (-y) := fun y hy => h.chain.fal y (hsub y hy)
  have hk := hkn ((n : Int) + 1)
  rw [hcd] at hk
  obtain ⟨k, hk⟩ := Option.isSome_iff_exists.1 hk
  obtain ⟨d', hd', hkl⟩ := hr.st.inv.kn _ k hk
  rw [hcd] at hd'
  obtain rfl := Option.some.inj hd'
  obtain ⟨_, hby, _, _⟩ := hr.st.inv.bnd.kn hk
  rcases hby with h0 | ⟨p, q, hpq, hb, hp, hq⟩
  · rcases hr.st.inv.two _ k d hk hcd h0 with h2 | h2
    · obtain ⟨y, hy, hny⟩ := alwL_two h2
      have h3 := hfal (-y) hny
      rw [Int.neg_neg] at h3
      exact has_two hs (hdb y hy).1 h3 (hfal y hy)
    · rw [hkl] at h2
      cases hal : alwL d with
      | true =>
        obtain ⟨y, hy, hny⟩ := alwL_two hal
        have h3 := hfal (-y) hny
        rw [Int.neg_neg] at h3
        exact has_two hs (hdb y hy).1 h3 (hfal y hy)
      | false =>
        obtain ⟨y, hy, hh⟩ := hone _ d trivial hcd hal h2
        exact has_two hs (hdb y hy).1 hh.has (hfal y hy)
  · rw [hkl] at hp hq
    have hp' := eachL_mem.1 hp
    have hq' := eachL_mem.1 hq
    have hpm : p ∈ k.by_ := by rw [hb]; simp
    have hqm : q ∈ k.by_ := by rw [hb]; simp
    have op : k.other p = q := by unfold Kn.other; rw [hb]; simp
    have oq : k.other q = p := by unfold Kn.other; rw [hb]; simp [hpq]
    -- one of the two has a level below
    have key : ∀ a, a ∈ d → a ≠ -z0.lit → ∀ o, k.other a = o → a ∈ k.by_ → o ∈ d → False := fun a ha hne o ho hak hod => by
      have hal := hsub a ha
      rw [hxl] at hal
      rcases List.mem_cons.1 hal with e | hal
      · exact hne e
      · obtain ⟨r, hr2, e⟩ := List.mem_map.1 hal
        obtain ⟨z, hz, hzlt, _, _⟩ := hrest r hr2
        rw [litAt_eq hz] at e
        have hrl : r < S.looked := by
          refine Nat.lt_of_not_le fun hle => ?_
          have := hr.st.inv.cur r z hle hz
          omega
        obtain ⟨q2, y2, hq2, e2, _⟩ := hr.st.inv.w _ k a hk hak r z hrl hz (by omega)
        rw [ho] at e2
        exact has_two hs (hdb o hod).1 ⟨q2, y2, hq2, e2⟩ (hfal o hod)
    by_cases e : p = -z0.lit
    · exact key q hq' (fun e2 => hpq (e.trans e2.symm)) p oq hqm hp'
    · exact key p hp' e q op hpm hq'
end
end Go.Proofs.YtoojmhjagipmdaaGreat
namespace Go.Proofs.YtoojmhjagipmdaaGreat
open Go.RowKit

theorem Lw.kept {O : Nat → Prop} {w0 w w' : World} {lab : Nat → Nat} {b ab tb : Nat} {A : Arn} {T : Trl} {S : Wst} (h : Lw w0 w lab b ab tb A T S) (k : Kept O w w') (hO : ∀ g, O g → lab g = 0 ∧ w0.heap.size ≤ g) : Lw w0 w' lab b ab tb A T S :=
  ⟨h.sys.kept k (fun g hg ho => hg (hO g ho).1), h.ge, h.hb.trans (k.below (fun i h => (hO i h).2) h.hb.size)⟩
theorem SrAt.next2 {w0 w w' : World} {lab : Nat → Nat} {sb b ab tb : Nat} {A A' : Arn} {T T' : Trl} {S S' : Wst} {cs : List (List Int)} {av : Value} {us : List Value} (h : SrAt w0 w lab sb b ab tb A T S cs av us) (k : LwNext w0 w w' lab b ab tb A' T' S') : ∃ lab', SrAt w0 w' lab' sb b ab tb A' T' S' cs av us ∧ Labs lab lab' w w' := by
  obtain ⟨lab', h1, h2⟩ := k
  refine ⟨lab', ⟨h1, (h2.same _ h.sblt).trans h.lab0, h.sbw, (h2.kept.block _ h.sblt (by simp [h.lab0])).trans h.box, own_kept h.row h2.kept (fun g hg hn => hn (h.rlab g hg).1), fun g hg => ⟨(h2.same g (own_lt h.row g hg).2).trans (h.rlab g hg).1, (h.rlab g hg).2⟩, fun i xs hi => ?_⟩, h2⟩
  obtain ⟨u, a1, a2⟩ := h.inn i xs hi
  refine ⟨u, a1, (a2.lt.kept h2.kept (fun g hg hn => hn hg.1.1)).mono (fun g hg => ⟨(h2.same g hg.2).trans hg.1.1, hg.1.2⟩)⟩
theorem lw_addA {w0 w : World} {lab : Nat → Nat} {b ab tb : Nat} {A : Arn} {T : Trl} {S : Wst} {Oc : Nat → Prop} {k : Nat} (cv : Value) (c : List Int) (h : Lw w0 w lab b ab tb A T S) (hl : A.Low k) (hk : k < 1000) (hc : IntsIn Oc w cv c) (hcb : clauseB c = true) (hcl : c.length ≤ 1000) :
    Calls Tryz.prog 92 #[.pointer (some ⟨ab, 0, none⟩), .int .i64 ((k : Int) + 1), cv] w fun e w' => e = .returned (.int .i64 0) ∧ LwNext w0 w w' lab b ab tb (A.put ((k : Int) + 1) c) T S := by
  obtain ⟨l1, l2, l3, l4, l5⟩ := hl
  have e : A.put ((k : Int) + 1) c = A.add ((k : Int) + 1) c := by unfold Arn.put; rw [if_pos hcb]
  rw [e]
  refine (ar_add ab A ((k : Int) + 1) cv c w h.sys.ar hc hcb (by omega) (by omega) (by omega) (by omega) (by omega) (by omega) (by omega)).mono ?_
  rintro e w' ⟨rfl, hn⟩
  exact ⟨rfl, h.next (h.sys.ar_next hn)⟩
theorem one_at2 {w : World} {p : Nat} {u : Value} (h : w.cell? ⟨p, 0, none⟩ = some u) : ∀ j v, [u][j]? = some v → w.cell? ((⟨p, 0, none⟩ : Addr).add j) = some v := by
  intro j v hj
  cases j with
  | zero =>
    simp only [List.getElem?_cons_zero, Option.some.injEq] at hj
    subst hj
    rw [addr_add]
    exact h
  | succ j => simp at hj
set_option maxRecDepth 100000 in
set_option maxHeartbeats 8000000 in
theorem law_learn {w0 w : World} {lab : Nat → Nat} {sb b ab tb : Nat} {T : Trl} {its : List RIt} {S : Wst} {cs : List (List Int)} {av : Value} {us : List Value} {x : Lrn} {n : Nat} (xv : Value) (h : SrAt w0 w lab sb b ab tb (addAll arn0 0 cs) T S cs av us) (hst : St (clsC cs) T its S) (h6 : Six (cs ++ [x.lits])) (hlen : cs.length < 900) (hx : LrnAt n w xv x)
    (hn1 : ∀ g, lab g ≠ 0 → g < n) (hn2 : sb < n) (hn3 : ∀ g, av.ownBlock = some g → g < n) (hbe : T.backErr x.back = 0) (W : WRes) (hW : addW (addAll arn0 0 (cs ++ [x.lits])) (T.backed x.back) (backS T S x.back) ((cs.length : Int) + 1) = W) (hWe : W.err = 0) (hWr : W.res = 2 ∨ x.lits = []) (hL : (backS T S x.back).Link) (hT1 : (T.backed x.back).order.length ≤ 6) :
    Calls Tryz.prog 34 #[.pointer (some ⟨sb, 0, none⟩), xv] w fun e w' => e = .returned (.bool true) ∧ (∃ lab' av' us', SrAt w0 w' lab' sb b ab tb (addAll arn0 0 (cs ++ [x.lits])) W.T W.S (cs ++ [x.lits]) av' us') ∧ Kept (fun g => lab g ≠ 0 ∨ g = sb ∨ av.ownBlock = some g) w w' := by
  obtain ⟨i0, hi, hz0, hz1, hz2⟩ := info_parts info_cls
  obtain ⟨Ax, cx, Ay, cy, Az, cz, rfl, hxa, hya, hza⟩ := hx.parts
  obtain ⟨xs, hxs⟩ : ∃ l, x.lits = l := ⟨_, rfl⟩
  obtain ⟨BK, hbk⟩ : ∃ l, x.back = l := ⟨_, rfl⟩
  rw [hxs] at h6 hxa hWr hW ⊢
  rw [hbk] at hbe hW hL hT1 ⊢
  clear hya hza hx
  have hxsb : clauseB xs = true := (h6.right (List.mem_append_right _ (List.mem_singleton.2 rfl))).1
  have hxl6 : xs.length ≤ 6 := (h6.right (List.mem_append_right _ (List.mem_singleton.2 rfl))).2
  obtain ⟨xb, hxb⟩ : ∃ z, w.heap.size = z := ⟨_, rfl⟩
  obtain ⟨NX, hNX⟩ : ∃ NX, xs.length = NX := ⟨_, rfl⟩
  rw [hNX] at hxl6 hxa ⊢
  obtain ⟨wa, hwa⟩ : ∃ z, w.alloc (.cells #[.slice Ax NX cx, .int .i64 BK, .int .i64 x.levels, .slice Ay x.hints.length cy, .slice Az x.met.length cz] 65) = z := ⟨_, rfl⟩
  have hba : Below w.heap.size w wa := by rw [← hwa]; exact mx_al _ _
  have hbn : wa.heap[xb]? = some (.cells #[.slice Ax NX cx, .int .i64 BK, .int .i64 x.levels, .slice Ay x.hints.length cy, .slice Az x.met.length cz] 65 (0, 0)) := by rw [← hwa, ← hxb]; exact World.alloc_heap_new _ _
  have hga := h.below hba
  obtain ⟨e0, e1, e2, e3⟩ := hga.cells
  obtain ⟨b0, b1, -, -, -⟩ := (cells5 hbn).1
  have hsbl := hga.sblt
  have hxbl := heap_lt hbn
  have hxsz : w.heap.size < wa.heap.size := by rw [hxb]; exact hxbl
  have hxlab : lab xb = 0 := Classical.byContradiction fun hh => by have := h.lw.sys.lt _ hh; omega
  have hxrow : av.ownBlock ≠ some xb := fun e => by have := (own_lt h.row _ e).2; omega
  have hsbrow : av.ownBlock ≠ some sb := fun e => (h.rlab _ e).2 rfl
  have hsbxb : sb ≠ xb := by have := h.sblt; omega
  have HLOW := Lib.hid (addAll_low2 cs arn0 0 ⟨by decide, by decide, by decide, by decide, by decide⟩ (fun c hc => by have := (h6.2 c (List.mem_append_left _ hc)).1; omega))
  have HSN := Lib.hid (addAll_snoc xs cs arn0 0)
  have HPT := Lib.hid (show PT T from ⟨its, hst.sim, hst.sta⟩)
  have HA := Lib.hid hga
  have HBA := Lib.hid hba
  have HXA := Lib.hid (hxa wa hba)
  have HBN := Lib.hid hbn
  have HWA := Lib.hid hwa
  have HW := Lib.hid hW
  have H6 := Lib.hid h6
  have HX6 := Lib.hid (show xs.length = NX from hNX)
  obtain ⟨Aa, ca, rfl, _⟩ := mx_slice h.row
  clear h hst h6 hxa hbn hwa hW hba hga hNX hxs hbk
  go_enter Tryz.func34, Tryz.ntmps34
  go_upto_region 1 with fail
  rw [HWA.out]
  refine wp_region_sink_at (S := fun w' => w'.cell? ⟨sb, 3, none⟩ = some (.slice Aa cs.length ca) ∧ w'.cell? ⟨xb, 0, none⟩ = some (.slice Ax NX cx)) (by kernel_rfl) rfl (by kernel_rfl) ⟨e3, b0⟩ (fun hHeld => ?_)
  obtain ⟨wD, hwD⟩ : ∃ x, wa.drew = x := ⟨_, rfl⟩
  have hbD : Below wa.heap.size wa wD := by rw [← hwD]; exact mx_drew wa
  rw [hwD] at hHeld ⊢
  have hzD := hbD.size
  have HBD := Lib.hid hbD
  clear hwD hbD
  refine takeS 0 7 ?_
  refine takeS 1 8 ?_
  refine takeS 2 9 ?_
  refine takeS 3 10 ?_
  refine takeS 4 11 ?_
  refine takeS 5 12 ?_
  refine takeS 6 13 ?_
  refine ready1 7 (fun K hK => ?_)
  go_simp
  obtain ⟨wN, hwN⟩ : ∃ x, wD.alloc (.cells #[.slice Ax NX cx] 34) = x := ⟨_, rfl⟩
  have hbN : Below wD.heap.size wD wN := by rw [← hwN]; exact mx_al _ _
  have hcN : wN.cell? ⟨wD.heap.size, 0, none⟩ = some (.slice Ax NX cx) := by rw [← hwN]; exact mx_cell (j := 0) (World.alloc_heap_new _ _)
  rw [hwN]
  have HBN2 := Lib.hid (HBD.out.trans (hbN.mono HBD.out.size))
  refine hK.out _ _ ⟨(hbN.cell (p := ⟨sb, 3, none⟩) (by show sb < _; omega)).trans hHeld.1, (hbN.cell (p := ⟨xb, 0, none⟩) (by show xb < _; omega)).trans hHeld.2⟩ (fun hHeld1 => ?_)
  have hzN1 := hbN.size
  clear hK hHeld hbN hwN
  have hHeld := hHeld1
  clear hHeld1
  refine ready1 8 (fun K hK => ?_)
  refine wp_append_at 15 (by rfl) _ _ 28 rfl w0.heap.size 34 i0 (.slice none 0 0) 1 24 Tryz.underlying28 hi hz0 hz1 hz2 rfl (by decide) _ cs.length _ (by rfl) (own_below HA.out.row HBN2.out) ⟨wD.heap.size, 0, none⟩ 1 1 [.slice Ax NX cx] (by rfl) rfl (one_at2 hcN) (by simp [Value.oneCell']) (by unfold maxLen; omega) (by omega) (by have := HA.out.lw.hb.size; omega) ?_
  intro v' w2 hown hgrow hat
  obtain ⟨Av, cv, rfl, _⟩ := mx_slice hown
  have hkg : Kept (fun g => (Value.slice Aa cs.length ca).ownBlock = some g) wa w2 := (Kept.of_below HBN2.out).trans (Kept.grown hgrow) (fun i hi e => e.symm)
  have hz2' := hgrow.size
  refine hK.out _ _ ⟨(hkg.cell (p := ⟨sb, 3, none⟩) hsbl hsbrow).trans e3, (hkg.cell (p := ⟨xb, 0, none⟩) hxbl hxrow).trans b0⟩ (fun hHeld1 => ?_)
  clear hK hHeld
  refine takeE 9 16 ?_
  refine takeE 10 17 ?_
  refine wpAnyH_done (by kernel_rfl) ?_ _
  refine lastPost_normal ?_
  have hblk := (hkg.block sb hsbl hsbrow).trans HA.out.box
  have d3 : w2.cell? ⟨sb, 3, none⟩ = some (.slice Aa cs.length ca) := mx_cell (j := 3) hblk
  have fr3 := mx_free (j := 3) hblk
  refine wpOp_step rfl (fun K hK => ?_)
  go_simp
  refine hK _ _ ?_
  clear hK d3 fr3 hHeld1
  obtain ⟨wS, hwS⟩ : ∃ z, w2.setCell ⟨sb, 3, none⟩ (.slice Av (cs.length + 1) cv) = z := ⟨_, rfl⟩
  have hkS : Kept (fun g => (Value.slice Aa cs.length ca).ownBlock = some g ∨ g = sb) wa wS := by
    rw [← hwS]
    exact (hkg.mono (fun i _ h => .inl h)).setCell ⟨sb, 3, none⟩ _ (.inr rfl)
  have hkS2 : Kept (fun g => g = sb) w2 wS := by rw [← hwS]; exact (Kept.refl _ _).setCell ⟨sb, 3, none⟩ _ rfl
  have hat2 : ∀ g, (Value.slice Av (cs.length + 1) cv).ownBlock = some g → (Value.slice Aa cs.length ca).ownBlock = some g ∨ g = wN.heap.size := fun g hg => by
    rcases hat with h1 | h1
    · exact .inl (h1 ▸ hg)
    · right
      rw [h1] at hg
      exact (Option.some.inj hg).symm
  have hlablt := HA.out.lw.sys.lt
  have hlabN : ∀ g, wa.heap.size ≤ g → lab g = 0 := fun g hg => Classical.byContradiction fun hh => by have := hlablt g hh; omega
  have hrl := HA.out.rlab
  have hsr : SrAt w0 wS lab sb b ab tb (addAll arn0 0 cs) T S (cs ++ [xs]) (.slice Av (cs.length + 1) cv) (us ++ [.slice Ax NX cx]) := {
    lw := HA.out.lw.kept hkS (fun g hg => by
      rcases hg with hg | hg
      · exact ⟨(hrl g hg).1, (own_lt HA.out.row g hg).1⟩
      · rw [hg]
        exact ⟨HA.out.lab0, HA.out.sbw⟩)
    lab0 := HA.out.lab0
    sbw := HA.out.sbw
    box := by rw [← hwS, mx_set hblk]; rfl
    row := by
      rw [List.length_append, List.length_singleton]
      refine own_kept hown hkS2 (fun g hg e => ?_)
      rcases hat2 g hg with h1 | h1
      · exact (hrl g h1).2 e
      · omega
    rlab := fun g hg => by
      rcases hat2 g hg with h1 | h1
      · exact hrl g h1
      · exact ⟨hlabN g (by omega), by omega⟩
    inn := fun i d hd => by
      by_cases hil : i < cs.length
      · rw [List.getElem?_append_left hil] at hd
        obtain ⟨u, a1, a2⟩ := HA.out.inn i d hd
        have hul : us.length = cs.length := by have := HA.out.row.1; omega
        refine ⟨u, by rw [List.getElem?_append_left (by omega)]; exact a1, (a2.lt.kept hkS (fun g hg hh => ?_)).mono (fun g hg => ⟨hg.1.1, hg.1.2.1, fun e => ?_⟩)⟩
        · rcases hh with hh | hh
          · exact hg.1.2.2 hh
          · exact hg.1.2.1 hh
        · rcases hat2 g e with h1 | h1
          · exact hg.1.2.2 h1
          · have := hg.2
            omega
      · have h1 := (List.getElem?_eq_some_iff.1 hd).1
        rw [List.length_append, List.length_singleton] at h1
        obtain rfl : i = cs.length := by omega
        rw [List.getElem?_append_right (Nat.le_refl _), Nat.sub_self] at hd
        obtain rfl := Option.some.inj hd
        have hul : us.length = cs.length := by have := HA.out.row.1; omega
        refine ⟨_, by rw [List.getElem?_append_right (by omega), hul, Nat.sub_self]; rfl, ((HXA.out.lt).kept hkS (fun g hg hh => ?_)).mono (fun g hg => ⟨Classical.byContradiction fun hh => by have := hn1 g hh; have := hg.1; omega, by have := hg.1; omega, fun e => ?_⟩)⟩
        · rcases hh with hh | hh
          · have := hn3 g hh
            have := hg.1
            omega
          · have := hg.1
            omega
        · rcases hat2 g e with h1 | h1
          · have := hn3 g h1
            have := hg.1
            omega
          · have := hg.2
            omega }
  have hbxS : wS.heap[xb]? = some (.cells #[.slice Ax NX cx, .int .i64 BK, .int .i64 x.levels, .slice Ay x.hints.length cy, .slice Az x.met.length cz] 65 (0, 0)) := (hkS.block xb hxbl (fun hh => hh.elim hxrow (fun h => hsbxb h.symm))).trans HBN.out
  have HKS := Lib.hid hkS
  have HS := Lib.hid hsr
  have HXS := Lib.hid hbxS
  have HXV := Lib.hid ((HXA.out.kept hkS (fun g hg hh => by
    rcases hh with hh | hh
    · have := hn3 g hh
      omega
    · omega)).lt)
  have hxbS := heap_lt hbxS
  have hsbS := hsr.sblt
  have HWS := Lib.hid hwS
  clear hown hgrow hat hkg hblk hkS hkS2 hat2 hlablt hlabN hrl hsr hbxS hz2' hzN1 hzD hcN HBN2 HBD e0 e1 e2 e3 b0 b1 hwS
  rw [HWS.out]
  clear HWS
  obtain ⟨e0, e1, e2, e3⟩ := HS.out.cells
  obtain ⟨b0, b1, -, -, -⟩ := (cells5 HXS.out).1
  go_wp2_with fail
  have HBX := Lib.hid (fun (W : World) (l : Nat → Nat) (hb : Labs lab l wS W) => (hb.kept.block xb hxbS (fun h => h hxlab)).trans HXS.out)
  refine wp_region_held_drew (S := fun w' => w'.cell? ⟨sb, 0, none⟩ = some (.pointer (some ⟨ab, 0, none⟩)) ∧ w'.cell? ⟨sb, 2, none⟩ = some (.pointer (some ⟨b, 0, none⟩)) ∧ w'.cell? ⟨sb, 3, none⟩ = some (.slice Av (cs.length + 1) cv) ∧ w'.cell? ⟨xb, 0, none⟩ = some (.slice Ax NX cx) ∧ w'.cell? ⟨xb, 1, none⟩ = some (.int .i64 BK)) (by kernel_rfl) ⟨e0, e2, e3, b0, b1⟩ (fun hS => ?_)
  have HD := Lib.hid (HS.out.below (mx_drew wS))
  obtain ⟨wD2, hwD2⟩ : ∃ z, wS.drew = z := ⟨_, rfl⟩
  have HDL := Lib.hid (show Labs lab lab wS wD2 from by rw [← hwD2]; exact Labs.of_below (mx_drew wS))
  rw [hwD2] at HD hS ⊢
  clear hwD2 e0 e1 e2 e3 b0 b1
  refine takeS 0 18 ?_
  refine takeS 1 19 ?_
  refine takeS 2 20 ?_
  refine takeS 3 21 ?_
  refine takeS 4 22 ?_
  refine takeS 5 23 ?_
  have hbk := lw_back HD.out.lw BK HPT.out.sta HPT.out.fit
  rw [hbe] at hbk
  have HBK := Lib.hid hbk
  clear hbk
  refine ready1 6 (fun K hK => ?_)
  go_simp
  refine HBK.out.mono ?_
  rintro e wB ⟨rfl, hn⟩
  obtain ⟨labB, hB, hLab⟩ := HD.out.next2 hn
  have hLB := HDL.out.trans hLab
  obtain ⟨e0, -, e2, e3⟩ := hB.cells
  have hbx := HBX.out wB labB hLB
  obtain ⟨b0, b1, -, -, -⟩ := (cells5 hbx).1
  refine hK.out _ _ ⟨e0, e2, e3, b0, b1⟩ (fun hS2 => ?_)
  clear hS
  have hS := hS2
  have HB := Lib.hid hB
  have HLB := Lib.hid hLB
  have HXB := Lib.hid hbx
  have HXV2 := Lib.hid ((HXV.out.kept hLB.kept (fun g hg hh => hh (Classical.byContradiction fun hz => by
    have h1 := hn1 g hz
    have h2 := hg.1
    omega))))
  clear hK hn hB hLab hLB hS2 e0 e2 e3 b0 b1 hbx HBK HD HDL
  refine takeS 7 25 ?_
  refine takeS 8 26 ?_
  refine takeS 9 27 ?_
  refine takeS 10 28 ?_
  refine takeS 11 29 ?_
  refine takeS 12 30 ?_
  refine takeS 13 31 ?_
  refine takeS 14 32 ?_
  refine takeS 15 33 ?_
  refine takeS 16 34 ?_
  refine takeS 17 35 ?_
  refine takeS 18 36 ?_
  refine takeS 19 37 ?_
  have hadA := lw_addA (k := cs.length) _ xs HB.out.lw (by have := HLOW.out; rwa [Nat.zero_add] at this) (by omega) HXV2.out hxsb (by have := HX6.out; omega)
  rw [show (addAll arn0 0 cs).put ((cs.length : Int) + 1) xs = addAll arn0 0 (cs ++ [xs]) from by have := HSN.out; rw [Nat.zero_add] at this; exact this.symm] at hadA
  have HADA := Lib.hid hadA
  clear hadA
  refine ready1 20 (fun K hK => ?_)
  go_simp
  refine HADA.out.mono ?_
  rintro e wA ⟨rfl, hn⟩
  obtain ⟨labA, hA2, hLab⟩ := HB.out.next2 hn
  have hLB := HLB.out.trans hLab
  obtain ⟨e0, -, e2, e3⟩ := hA2.cells
  have hbx := HBX.out wA labA hLB
  obtain ⟨b0, b1, -, -, -⟩ := (cells5 hbx).1
  refine hK.out _ _ ⟨e0, e2, e3, b0, b1⟩ (fun hS2 => ?_)
  clear hS
  have hS := hS2
  have HA2 := Lib.hid hA2
  have HLA := Lib.hid hLB
  clear hK hn hA2 hLab hLB hS2 HADA HB HLB HXB
  refine takeS 21 39 ?_
  refine takeS 22 40 ?_
  refine wpAnyH_done (by kernel_rfl) ?_ _
  obtain ⟨k0, k2, k3, k4, k5⟩ := hS
  go_upto_region 4 with fail
  refine wp_region_held_drew (S := fun w' => w'.cell? ⟨sb, 0, none⟩ = some (.pointer (some ⟨ab, 0, none⟩)) ∧ w'.cell? ⟨sb, 2, none⟩ = some (.pointer (some ⟨b, 0, none⟩)) ∧ w'.cell? ⟨sb, 3, none⟩ = some (.slice Av (cs.length + 1) cv) ∧ w'.cell? ⟨xb, 0, none⟩ = some (.slice Ax NX cx) ∧ w'.cell? ⟨xb, 1, none⟩ = some (.int .i64 BK)) (by kernel_rfl) ⟨k0, k2, k3, k4, k5⟩ (fun hS => ?_)
  have HD := Lib.hid (HA2.out.below (mx_drew wA))
  obtain ⟨wD2, hwD2⟩ : ∃ z, wA.drew = z := ⟨_, rfl⟩
  have HDL := Lib.hid (show Labs lab labA wS wD2 from by rw [← hwD2]; exact HLA.out.trans (Labs.of_below (mx_drew wA)))
  rw [hwD2] at HD hS ⊢
  clear hwD2 k0 k2 k3 k4 k5 e0 e2 e3 b0 b1 hbx
  refine takeS 0 42 ?_
  refine takeS 1 43 ?_
  refine takeS 2 44 ?_
  refine takeS 3 45 ?_
  refine takeS 4 46 ?_
  refine takeS 5 47 ?_
  refine takeS 6 48 ?_
  refine takeS 7 49 ?_
  refine takeS 8 50 ?_
  have hadd := lw_add HD.out.lw ((cs.length : Int) + 1) (wf64 (by omega) (by omega)) (fun d hd => by
    rw [get_cls H6.out, clsC_last] at hd
    rw [← Option.some.inj hd]
    exact ⟨by have := HX6.out; omega, hxsb, by omega, by omega⟩) (by omega) hL
  rw [show addW (addAll arn0 0 (cs ++ [xs])) (T.backed BK) ⟨S.known, S.of, min S.looked (T.backed BK).order.length⟩ ((cs.length : Int) + 1) = W from HW.out] at hadd
  obtain ⟨WR, hWR⟩ : ∃ r, W.res = r := ⟨_, rfl⟩
  rw [hWe, hWR] at hadd
  rw [hWR] at hWr
  have HADD := Lib.hid hadd
  clear hadd hWR
  refine ready1 9 (fun K hK => ?_)
  go_simp
  refine HADD.out.mono ?_
  rintro e wF ⟨rfl, hn⟩
  obtain ⟨labF, hF, hLab⟩ := HD.out.next2 hn
  have hLB := HDL.out.trans hLab
  obtain ⟨e0, -, e2, e3⟩ := hF.cells
  have hbx := HBX.out wF labF hLB
  obtain ⟨b0, b1, -, -, -⟩ := (cells5 hbx).1
  refine hK.out _ _ ⟨e0, e2, e3, b0, b1⟩ (fun hS2 => ?_)
  clear hS
  have hS := hS2
  have HF := Lib.hid hF
  have HKK := Lib.hid (show Kept (fun g => lab g ≠ 0 ∨ g = sb ∨ (Value.slice Aa cs.length ca).ownBlock = some g) w wF from ((Kept.of_below HBA.out).trans HKS.out (fun g _ h => h.elim (fun h => .inr (.inr h)) (fun h => .inr (.inl h)))).trans hLB.kept (fun g _ h => .inl h))
  clear hK hn hF hLab hLB hS2 HADD HD HDL
  refine takeS 10 41 ?_
  refine takeS 11 52 ?_
  refine takeS 12 53 ?_
  refine takeS 13 5 ?_
  refine takeS 14 6 ?_
  refine wpAnyH_done (by kernel_rfl) ?_ _
  rcases hWr with hw | hw
  · subst hw
    go_wp2_with fail
    go_ret
    exact ⟨rfl, ⟨labF, _, _, HF.out⟩, HKK.out⟩
  · have hnx : NX = 0 := by rw [← HX6.out, hw]; rfl
    have q0 : ((NX : Int) == 0) = true := by simp; omega
    by_cases hw2 : WR = 2
    · subst hw2
      go_wp2_with fail
      go_ret
      exact ⟨rfl, ⟨labF, _, _, HF.out⟩, HKK.out⟩
    · have q2 : ((WR : Int) == 2) = false := by simp; omega
      clear hw hnx
      go_wp2_with fail
      go_ret
      exact ⟨rfl, ⟨labF, _, _, HF.out⟩, HKK.out⟩
end Go.Proofs.YtoojmhjagipmdaaGreat
namespace Go.Proofs.YtoojmhjagipmdaaGreat
open Go.RowKit

theorem cfRun_met {A : Arn} {T : Trl} {lv : Int} : ∀ (ls : List Int) (s s' : CSt), cfRun A T lv s ls = some s' → s'.met.length ≤ s.met.length + ls.length := by
  intro ls
  induction ls with
  | nil =>
    intro s s' h
    obtain rfl := Option.some.inj h
    exact Nat.le_refl _
  | cons l r ih =>
    intro s s' h
    unfold cfRun at h
    cases hs : cfStep A T lv s l with
    | none => rw [hs] at h; cases h
    | some s1 =>
      rw [hs] at h
      have h1 := ih s1 s' h
      have h2 : s1.met.length ≤ s.met.length + 1 := by
        unfold cfStep at hs
        split at hs
        · obtain rfl := Option.some.inj hs
          omega
        · split at hs
          · obtain rfl := Option.some.inj hs
            simp only
            split
            · simp
            · omega
          · split at hs
            · cases hs
            · obtain rfl := Option.some.inj hs
              simp only
              split
              · simp
              · omega
      simp only [List.length_cons]
      omega
theorem conf_met {A : Arn} {T : Trl} {id : Int} {x : Lrn} (h : confP A T id = (x, 0)) : x.met.length ≤ T.order.length := by
  unfold confP at h
  split at h
  · cases h
  · split at h
    · cases h
    · split at h
      · cases h
      · rename_i s hs
        have e : x = ⟨s.lits, T.backOf s.lits, T.levelsOf s.lits, s.hints.reverse ++ [id], sortI s.met⟩ := (congrArg Prod.fst h).symm
        rw [e]
        show (sortI s.met).length ≤ _
        rw [sortI_length]
        unfold cfEnd at hs
        have := cfRun_met _ _ _ hs
        simp only [List.length_nil, List.length_reverse] at this
        omega
theorem LrnAt.mono {n m : Nat} {w : World} {v : Value} {x : Lrn} (h : LrnAt n w v x) (hm : m ≤ n) : LrnAt m w v x := by
  obtain ⟨a, b, c, rfl, h1, h2, h3⟩ := h
  exact ⟨a, b, c, rfl, own_mono h1 hm, own_mono h2 hm, own_mono h3 hm⟩
theorem LrnAt.below {n : Nat} {w w' : World} {v : Value} {x : Lrn} (h : LrnAt n w v x) (k : Below w.heap.size w w') : LrnAt n w' v x := by
  obtain ⟨a, b, c, rfl, h1, h2, h3⟩ := h
  exact ⟨a, b, c, rfl, own_below h1 k, own_below h2 k, own_below h3 k⟩
theorem LrnAt.kept {O : Nat → Prop} {n : Nat} {w w' : World} {v : Value} {x : Lrn} (h : LrnAt n w v x) (k : Kept O w w') (hO : ∀ g, n ≤ g → ¬ O g) : LrnAt n w' v x := by
  obtain ⟨a, b, c, rfl, h1, h2, h3⟩ := h
  exact ⟨a, b, c, rfl, own_kept h1 k (fun g hg => hO g (own_lt h1 g hg).1), own_kept h2 k (fun g hg => hO g (own_lt h2 g hg).1), own_kept h3 k (fun g hg => hO g (own_lt h3 g hg).1)⟩
/-- what is learned in a variable -/
structure YAt (wc wx : World) (yb : Nat) (y : Lrn) (a b c : Value) : Prop where
  box : wx.heap[yb]? = some (.cells #[a, .int .i64 y.back, .int .i64 y.levels, b, c] 65 (0, 0))
  lrn : LrnAt wc.heap.size wx (.agg #[a, .int .i64 y.back, .int .i64 y.levels, b, c]) y
  hb : Below wc.heap.size wc wx
  le : wc.heap.size ≤ yb
theorem YAt.kept {O : Nat → Prop} {wc w w' : World} {yb : Nat} {y : Lrn} {a b c : Value} (h : YAt wc w yb y a b c) (k : Kept O w w') (hO : ∀ g, wc.heap.size ≤ g → ¬ O g) : w'.heap[yb]? = some (.cells #[a, .int .i64 y.back, .int .i64 y.levels, b, c] 65 (0, 0)) ∧ LrnAt wc.heap.size w' (.agg #[a, .int .i64 y.back, .int .i64 y.levels, b, c]) y :=
  ⟨(k.block _ (heap_lt h.box) (hO _ h.le)).trans h.box, h.lrn.kept k hO⟩
theorem YAt.below {wc w w' : World} {yb : Nat} {y : Lrn} {a b c : Value} (h : YAt wc w yb y a b c) (k : Below w.heap.size w w') : YAt wc w' yb y a b c :=
  ⟨(k.block _ (heap_lt h.box)).trans h.box, h.lrn.below k, h.hb.trans (k.mono h.hb.size), h.le⟩
theorem backed_few (T : Trl) (j : Int) : (T.backed j).order.length ≤ T.order.length := by
  unfold Trl.backed
  split
  · show (T.order.take _).length ≤ _
    rw [List.length_take]
    omega
  · exact Nat.le_refl _
/-- where nothing is left, the empty clause is added -/
theorem learn_zero {cs : List (List Int)} {T : Trl} {its : List RIt} {S : Wst} {id lv : Int} {c : List Int} {x : Lrn} {R K : List Nat} (hst : St (clsC cs) T its S) (h6 : Six cs) (hlen : cs.length < 900) (h : ConfO (clsC cs) T its id c lv x R K) (hlv : lv = 0) :
    x.lits = [] ∧ Six (cs ++ [x.lits]) ∧ T.backErr x.back = 0 ∧ (addW (addAll arn0 0 (cs ++ [x.lits])) (T.backed x.back) (backS T S x.back) ((cs.length : Int) + 1)).err = 0 := by
  have hl : x.lits = [] := by rw [h.lits, h.none hlv]; rfl
  have hb : x.back = 0 := by rw [h.back, hl]; rfl
  have h6' : Six (cs ++ [x.lits]) := by
    refine ⟨by rw [List.length_append, List.length_singleton]; omega, fun d hd => ?_⟩
    rcases List.mem_append.1 hd with hd | hd
    · exact h6.2 d hd
    · rw [List.mem_singleton.1 hd, hl]
      exact ⟨Nat.zero_le _, fun y hy => by cases hy⟩
  refine ⟨hl, h6', ?_, ?_⟩
  · have := hst.sim.now
    have := now_eq (T := T)
    rw [hb]
    unfold Trl.backErr
    rw [if_neg (by omega)]
  · have hk0 : (backS T S x.back).kn ((cs.length : Int) + 1) = none := by
      show S.kn ((cs.length : Int) + 1) = none
      cases hk : S.kn ((cs.length : Int) + 1) with
      | none => rfl
      | some k =>
        obtain ⟨d, hd, _⟩ := hst.inv.kn _ k hk
        rw [clsC_past] at hd
        cases hd
    have hget : (addAll arn0 0 (cs ++ [x.lits])).get ((cs.length : Int) + 1) = some x.lits := (get_cls h6' _).trans (clsC_last cs x.lits)
    unfold addW
    rw [hk0]
    simp only []
    rw [hget]
    simp only []
    rw [if_neg (by rw [hl]; simp)]
    exact addOk_err _ _ _ _
/-- a struct of five cells is stored -/
theorem five_set {w5 : World} {yb : Nat} {z0 z1 z2 z3 z4 : Value} {t : TypeId} (hb : w5.heap[yb]? = some (.cells #[z0, z1, z2, z3, z4] t (0, 0))) (a0 a1 a2 a3 a4 : Value) : ∃ wy, (((((w5.setCell ⟨yb, 0, none⟩ a0).setCell ⟨yb, 1, none⟩ a1).setCell ⟨yb, 2, none⟩ a2).setCell ⟨yb, 3, none⟩ a3).setCell ⟨yb, 4, none⟩ a4) = wy ∧ wy.heap[yb]? = some (.cells #[a0, a1, a2, a3, a4] t (0, 0)) ∧ Kept (fun g => g = yb) w5 wy := by
  refine ⟨_, rfl, ?_, ?_⟩
  · have h1 := mx_set hb (j := 0) a0
    have h2 := mx_set h1 (j := 1) a1
    have h3 := mx_set h2 (j := 2) a2
    have h4 := mx_set h3 (j := 3) a3
    have h5 := mx_set h4 (j := 4) a4
    exact h5
  · exact (((((Kept.refl (fun g => g = yb) w5).setCell ⟨yb, 0, none⟩ a0 rfl).setCell ⟨yb, 1, none⟩ a1 rfl).setCell ⟨yb, 2, none⟩ a2 rfl).setCell ⟨yb, 3, none⟩ a3 rfl).setCell ⟨yb, 4, none⟩ a4 rfl
end Go.Proofs.YtoojmhjagipmdaaGreat
