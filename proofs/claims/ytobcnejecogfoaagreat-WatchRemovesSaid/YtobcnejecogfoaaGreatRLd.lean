/- Calls at a watch that knows some of its clauses; two watches side by side; a map of clauses but one. -/
import Derived.Test.YtobcnejecogfoaaGreatRLb
import Derived.Test.YtobcnejecogfoaaGreatQ34
import Derived.Test.YtobcnejecogfoaaGreatQ36
namespace Go.Proofs.YtobcnejecogfoaaGreat
open Go.RowKit

/-- no block bears a label of both -/
def Dis (l1 l2 : Nat → Nat) : Prop := ∀ g, l1 g = 0 ∨ l2 g = 0
theorem Dis.symm {l1 l2 : Nat → Nat} (h : Dis l1 l2) : Dis l2 l1 := fun g => (h g).symm
theorem Lw.aside {w0 w w' : World} {l1 l2 l2' : Nat → Nat} {b ab tb : Nat} {A : Arn} {T : Trl} {S : Wst} (h : Lw w0 w l1 b ab tb A T S) (k : Labs l2 l2' w w') (hd : Dis l1 l2) (hge : ∀ g, l2 g ≠ 0 → w0.heap.size ≤ g) : Lw w0 w' l1 b ab tb A T S ∧ Dis l1 l2' := by
  refine ⟨⟨h.sys.kept k.kept (fun g h1 h2 => (hd g).elim h1 h2), h.ge, h.hb.trans (k.kept.below hge h.hb.size)⟩, fun g => ?_⟩
  by_cases hg : l1 g = 0
  · exact .inl hg
  · rw [k.same g (h.sys.lt g hg)]
    exact hd g
theorem Lw.base {w0 w1 w : World} {l1 : Nat → Nat} {b ab tb : Nat} {A : Arn} {T : Trl} {S : Wst} (h : Lw w1 w l1 b ab tb A T S) (k : Below w0.heap.size w0 w1) : Lw w0 w l1 b ab tb A T S :=
  ⟨h.sys, fun g hg => Nat.le_trans k.size (h.ge g hg), k.trans (h.hb.mono k.size)⟩
theorem Lw.dis {w0 w w' : World} {l1 l2 : Nat → Nat} {b ab tb b2 ab2 tb2 : Nat} {A A2 : Arn} {T T2 : Trl} {S S2 : Wst} (h : Lw w0 w l1 b ab tb A T S) (h2 : Lw w w' l2 b2 ab2 tb2 A2 T2 S2) : Dis l1 l2 := fun g => by
  by_cases hg : l1 g = 0
  · exact .inl hg
  · refine .inr (Classical.byContradiction fun h3 => ?_)
    have a1 := h.sys.lt g hg
    have a2 := h2.ge g h3
    omega
/-- the clauses but one -/
def clsX (cs : List (List Int)) (k : Nat) (j : Int) : Option (List Int) := if j = (k : Int) + 1 then none else clsC cs j
theorem clsX_fit {cs : List (List Int)} (h : Six cs) (k : Nat) : Fit6 (clsX cs k) := fun id c hc => by
  unfold clsX at hc
  split at hc
  · cases hc
  · exact h.fit id c hc
theorem clsX_sub (cs : List (List Int)) (k : Nat) : SubC (clsX cs k) (clsC (cs.eraseIdx k)) := fun id c hc => by
  unfold clsX at hc
  split at hc
  · cases hc
  · obtain ⟨n, rfl, hn, hl⟩ := clsC_some hc
    by_cases hlt : n < k
    · refine ⟨(n : Int) + 1, ?_⟩
      unfold clsC
      rw [if_pos (by omega), show ((n : Int) + 1 - 1).toNat = n by omega, List.getElem?_eraseIdx, if_pos hlt]
      exact hn
    · refine ⟨(n : Int), ?_⟩
      unfold clsC
      rw [if_pos (by omega), show ((n : Int) - 1).toNat = n - 1 by omega, List.getElem?_eraseIdx, if_neg (by omega), show n - 1 + 1 = n by omega]
      exact hn
theorem clsX_sup (cs : List (List Int)) (k : Nat) : SubC (clsC (cs.eraseIdx k)) (clsX cs k) := fun id c hc => by
  obtain ⟨n, rfl, hn, hl⟩ := clsC_some hc
  rw [List.getElem?_eraseIdx] at hn
  split at hn
  · refine ⟨(n : Int) + 1, ?_⟩
    unfold clsX clsC
    rw [if_neg (by omega), if_pos (by omega), show ((n : Int) + 1 - 1).toNat = n by omega]
    exact hn
  · refine ⟨(n : Int) + 2, ?_⟩
    unfold clsX clsC
    rw [if_neg (by omega), if_pos (by omega), show ((n : Int) + 2 - 1).toNat = n + 1 by omega]
    exact hn
theorem clsX_isSome {cs : List (List Int)} {k : Nat} (j : Int) : (decide (1 ≤ j ∧ j ≤ (cs.length : Int)) && decide (j ≠ (k : Int) + 1)) = (clsX cs k j).isSome := by
  unfold clsX
  by_cases e : j = (k : Int) + 1
  · rw [if_pos e, decide_eq_false (p := j ≠ (k : Int) + 1) (fun h => h e), Bool.and_false]
    rfl
  · rw [if_neg e, decide_eq_true (p := j ≠ (k : Int) + 1) e, Bool.and_true]
    unfold clsC
    by_cases h1 : 1 ≤ j
    · rw [if_pos h1]
      cases hc : cs[(j - 1).toNat]? with
      | none =>
        rw [List.getElem?_eq_none_iff] at hc
        exact decide_eq_false (by omega)
      | some c =>
        have := (List.getElem?_eq_some_iff.1 hc).1
        exact decide_eq_true (by omega)
    · rw [if_neg h1]
      exact decide_eq_false (by omega)
theorem six_erase {cs : List (List Int)} (h : Six cs) (k : Nat) : Six (cs.eraseIdx k) :=
  ⟨Nat.le_trans (List.length_eraseIdx_le cs k) h.1, fun c hc => h.2 c (List.mem_of_mem_eraseIdx hc)⟩
section
variable {w0 w : World} {lab : Nat → Nat} {b ab tb : Nat} {C : Int → Option (List Int)} {A : Arn} {T : Trl} {its : List RIt} {S : Wst}
theorem lw_add_ok (h : Lw w0 w lab b ab tb A T S) (hs : St C T its S) {id : Int} {c : List Int} (hn : S.kn id = none) (hg : A.get id = some c) (hid : 1 ≤ id ∧ id ≤ 1000) (hcl : c.length ≤ 6) (hcb : ∀ y ∈ c, litB y = true ∧ litV y < 7) :
    Calls Tryz.prog 28 #[.pointer (some ⟨b, 0, none⟩), .int .i64 id] w fun e w' => e = .returned (.tuple #[.int .u8 ((addOk T S id c).res : Nat), .int .i64 0]) ∧ LwNext w0 w w' lab b ab tb A (addOk T S id c).T (addOk T S id c).S := by
  have hfew := hs.sim.few hs.vars
  have hadd := lw_add h id (wf64 (by omega) (by omega)) (fun d hd => by
    rw [hg] at hd
    rw [← Option.some.inj hd]
    refine ⟨by omega, ?_, by omega, by omega⟩
    unfold clauseB
    rw [Bool.and_eq_true, decide_eq_true_eq, List.all_eq_true]
    exact ⟨by omega, fun y hy => (hcb y hy).1⟩) (by omega) hs.inv.link
  have hw : addW A T S id = addOk T S id c := by
    unfold addW
    rw [hn]
    simp only []
    rw [hg]
    simp only []
    rw [if_neg (by
      rw [Bool.not_eq_true, List.any_eq_false]
      intro y hy
      have := (hcb y hy).2
      have := hs.vars
      rw [decide_eq_true_eq]
      omega)]
  rw [hw, addOk_err] at hadd
  exact hadd
theorem lw_add_new {K : Int → Bool} {fl : Bool} (h : Lw w0 w lab b ab tb A T S) (hb : BegC C K T its S fl) (h6 : Fit6 C) {id : Int} {c : List Int} (hc : C id = some c) (hk : K id = false) (hg : A.get id = some c) :
    Calls Tryz.prog 28 #[.pointer (some ⟨b, 0, none⟩), .int .i64 id] w fun e w' => ∃ K' T' its' S', e = .returned (.tuple #[.int .u8 (K' : Nat), .int .i64 0]) ∧ LwNext w0 w w' lab b ab tb A T' S' ∧ BegC C (fun j => decide (j = id) || K j) T' its' S' (fl || decide (K' = 3)) := by
  obtain ⟨h1, h2, h3⟩ := h6 id c hc
  have hn : S.kn id = none := by
    have := hb.kn id
    rw [hk] at this
    exact Option.isSome_eq_false_iff.1 this |> Option.isNone_iff_eq_none.1
  obtain ⟨f, hf, hff⟩ := k_its (fun x hx => hb.st.sim.litb hx) hb.st.sim.nodup
  obtain ⟨its', hbx⟩ := hb.next h6 hc hk hff
  refine (lw_add_ok h hb.st hn hg h1 h2 h3).mono ?_
  rintro e w' ⟨rfl, hx⟩
  exact ⟨_, _, its', _, rfl, hx, hbx⟩
theorem lw_remove (h : Lw w0 w lab b ab tb A T S) {id : Int} {k : Kn} (hwf : (Lit.int .i64 id).wf = true) (hk : S.kn id = some k) :
    Calls Tryz.prog 34 #[.pointer (some ⟨b, 0, none⟩), .int .i64 id] w fun e w' => e = .returned (.int .i64 0) ∧ LwNext w0 w w' lab b ab tb A T (S.remove id) := by
  refine (wa_remove_some b ab tb A T S id w lab h.sys hwf hk).mono ?_
  rintro e w' ⟨rfl, hb⟩
  exact ⟨rfl, h.next hb⟩
/-- what follows of what is known at the beginning -/
theorem BegC.prop {K : Int → Bool} (h : BegC C K T its S false) (hK : ∀ j, K j = (C j).isSome) (h6 : Fit6 C) (hA : ∀ id c, C id = some c → (A.find id).isSome = true) :
    ∃ its', St C (propW A T S).1 its' (propW A T S).2.1 ∧ (propW A T S).1.now = 0 ∧ PL (propW A T S).1 ∧ ((propW A T S).2.2 = none ∧ RunC C (propW A T S).1 its' (propW A T S).2.1 ∨ ∃ id c, (propW A T S).2.2 = some id ∧ C id = some c ∧ ∀ y ∈ c, Has its' (-y)) := by
  obtain ⟨its', h1, h2, h3, h4, h5⟩ := h.st.prop (A := A) h6 (St.findC hA h.st)
  have hpl : PL (propW A T S).1 := PL.of_pz (PZ.propGo _ h.st.inv.bnd h.st.inv.link ⟨_, h.st.sim⟩ h.pz)
  refine ⟨its', h1, h3.trans h.now, hpl, ?_⟩
  rcases h5 with ⟨h5, h7⟩ | h5
  · refine .inl ⟨h5, h1, fun j => (h4 j).trans ((h.kn j).trans (hK j)), ?_, h7⟩
    have ho : One C (fun _ => True) its := fun id c _ hc ha hl => h.one rfl id c ((hK id).trans (by rw [hc]; rfl)) hc ha hl
    exact ho.pre h2
  · exact .inr h5
/-- a decision -/
theorem lw_decC (h : Lw w0 w lab b ab tb A T S) (hr : RunC C T its S) (h6 : Fit6 C) (hA : ∀ id c, C id = some c → (A.find id).isSome = true) {l : Int} (hl : litB l = true ∧ litV l < 7) (hn : T.now ≤ 1000) :
    Calls Tryz.prog 19 #[.pointer (some ⟨b, 0, none⟩), .pointer (some ⟨tb, 0, none⟩), .int .i64 l] w fun e w' => ∃ R its', e = .returned (.tuple #[.int .i64 (R.2.2.getD 0), .bool true]) ∧ DecC C T its S l R its' ∧ (∀ id, R.2.2 = some id → id ≠ 0) ∧ LwNext w0 w w' lab b ab tb A R.1 R.2.1 := by
  obtain ⟨its', hd⟩ := dec_stepC hr h6 hA hl
  have hid : ∀ id, (propW A (decT T l) S).2.2 = some id → 1 ≤ id := fun id he => by
    obtain ⟨c, hc, _⟩ := hd.bad id he
    exact (h6 id c hc).1.1
  refine (law_decide l h hr.st.sim hr.st.vars hr.st.inv.link hl (by have := now_eq (T := T); omega) hid).mono ?_
  rintro e w' ⟨rfl, hx⟩
  exact ⟨_, its', rfl, hd, fun id he => by have := hid id he; omega, hx⟩
end
end Go.Proofs.YtobcnejecogfoaaGreat
