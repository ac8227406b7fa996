/- TokensBack: WHATEVER THE INPUT, the call returns true and the input reads as it did; under the listed variables that the card ties. -/
import Derived.Test.YtihigfpikiaaiaaDoorZe
import Derived.Test.YtihigfpikiaaiaaDoorBg
namespace Go.Proofs.YtihigfpikiaaiaaDoor
open Go.ChangeShapes Go.WideShapes Go.ChangeAt Go.RowKit

/-- what came in reads as it did, where nothing of it was touched -/
theorem trodAll_below {P : Program} {H : Type} {enc : TypeId × Value → H} (hl : laidOutB P = true) {W W' : World} (hb : Below W.heap.size W W') :
    ∀ {ts : List TypeId} {vs : List Value} {ds : List (DataW H)} {ps : List MemPlace}, (ts.all fun t => P.readableRec t && decide (t < P.types.size)) = true →
      DataW.TrodAll enc P W 0 (fun _ => true) true ts vs ds ps → (∀ x ∈ ps, x.block < W.heap.size) → DataW.TrodAll enc P W' 0 (fun b => decide (b < W.heap.size)) true ts vs ds ps
  | [], [], [], _, _, h, _ => h
  | t :: ts, _ :: _, _ :: _, _, hr, ⟨p, q, h1, h2, e⟩, hx => by
    simp only [List.all_cons, Bool.and_eq_true, decide_eq_true_eq] at hr
    exact ⟨p, q, Below.trod hl hr.1.1 hr.1.2 h1 hb (fun x hx1 => hx x (by rw [e]; exact List.mem_append_left _ hx1)), trodAll_below hl hb hr.2 h2 (fun x hx1 => hx x (by rw [e]; exact List.mem_append_right _ hx1)), e⟩
/-- a slice of integers that came in -/
theorem open_row {P : Program} {H : Type} {enc : TypeId × Value → H} {W : World} {base : Nat} {t e : TypeId} {k : IntKind} {v : Value} {d : DataW H} {p : List MemPlace} (ht : P.underlying t = some (.slice e)) (he : P.underlying e = some (.int k)) (hc : P.cellsOf e = 1)
    (hval : Value.okWide P W .any base t v) (h : DataW.Trod enc P W 0 (fun _ => true) true t v d p) :
    ∃ (A : Option Addr) (l : List Int) (c : Nat), v = .slice A l.length c ∧ l.length ≤ c ∧ c ≤ maxLen ∧ (A = none → c = 0) ∧ (∀ n ∈ l, (Lit.int k n).wf = true) ∧
      ∀ (i : Nat) (x : Int), l[i]? = some x → ∃ g o, A = some ⟨g, o, none⟩ ∧ g < W.heap.size ∧ W.cell? ⟨g, o + i, none⟩ = some (.int k x) := by
  obtain ⟨a1, len, cap, rfl⟩ := okWide_slice ht hval
  obtain ⟨fuel, hf⟩ := h
  rcases open_ints ht he hc hf with ⟨hcs, _⟩ | ⟨a, len', cap', zs, hcs, _, hl, hm, hz, _, hcell, hwz⟩
  · simp only [Value.cells, List.cons.injEq, Value.slice.injEq, and_true] at hcs
    obtain ⟨rfl, rfl, rfl⟩ := hcs
    exact ⟨none, [], 0, rfl, Nat.le_refl _, Nat.zero_le _, fun _ => rfl, by simp, by simp⟩
  · simp only [Value.cells, List.cons.injEq, Value.slice.injEq, and_true] at hcs
    obtain ⟨rfl, rfl, rfl⟩ := hcs
    simp only [if_true] at hz
    have htl : (zs.take len).length = len := by rw [List.length_take]; omega
    refine ⟨some a, zs.take len, cap, by rw [htl], by rw [htl]; exact hl, hm, (fun h => by cases h), fun n hn => hwz n (List.mem_of_mem_take hn), fun i x hi => ?_⟩
    have hil : i < len := by
      have := (List.getElem?_eq_some_iff.1 hi).1
      omega
    rw [List.getElem?_take_of_lt hil] at hi
    obtain ⟨b, off, rfl, hc2⟩ := ints_at hcell (by omega)
    have hx := hc2 i (by omega)
    rw [List.getD_eq_getElem?_getD, hi] at hx
    exact ⟨b, off, rfl, World.block_lt_of_cell? W _ hx, hx⟩
theorem nats_of {l : List Int} (h : ∀ n ∈ l, (Lit.int .u8 n).wf = true) : ∃ ns : List Nat, l = ns.map (fun n : Nat => (n : Int)) ∧ ∀ n ∈ ns, n < 256 := by
  induction l with
  | nil => exact ⟨[], rfl, by simp⟩
  | cons x l ih =>
    obtain ⟨ns, h1, h2⟩ := ih (fun n hn => h n (List.mem_cons_of_mem _ hn))
    obtain ⟨m, rfl, hm⟩ := nat_of_wf (k := .u8) rfl (h x List.mem_cons_self)
    have hm2 : (m : Int) < 256 := hm
    refine ⟨m :: ns, by rw [h1]; rfl, fun n hn => ?_⟩
    rcases List.mem_cons.1 hn with rfl | hn
    · omega
    · exact h2 n hn
theorem bytes_of {W : World} {A : Option Addr} {ns : List Nat} (hb : ∀ n ∈ ns, n < 256)
    (h : ∀ (i : Nat) (x : Int), (ns.map (fun n : Nat => (n : Int)))[i]? = some x → ∃ g o, A = some ⟨g, o, none⟩ ∧ g < W.heap.size ∧ W.cell? ⟨g, o + i, none⟩ = some (.int .u8 x)) : BytesAt W A ns := fun i n hi => by
  obtain ⟨g, o, h1, h2, h3⟩ := h i n (by rw [List.getElem?_map, hi]; rfl)
  exact ⟨hb n (List.mem_of_getElem? hi), g, o, h1, h2, h3⟩
end Go.Proofs.YtihigfpikiaaiaaDoor
namespace Go.Proofs.YtihigfpikiaaiaaDoor.tokensBackDone
open Go.ChangeShapes Go.WideShapes Go.ChangeAt Go.RowKit

set_option maxRecDepth 100000 in
theorem lifted (os : Os) (started : os.Started) (H : Type) (enc : TypeId × Value → H) :
    ReturnsInHanded {} Tryd.checked os 7 .any (fun w args => (Rows.tokensBackSpec.pre enc Tryd.prog Tryd.f7 Rows.tokensBackRow.domain false w args ∧ laidMetH Tryd.prog laidL w) ∧ sizedMet enc Tryd.prog Tryd.f7 (OpenSpec.ofChange Rows.tokensBackSpec) false w args)
      (Rows.tokensBackSpec.post enc Tryd.prog Tryd.f7 false true false false) := by
  refine handed_both (C := Tryd.checked) (X := fun w _ => laidMetH Tryd.prog laidL w) own started (by kernel_rfl) Tryd.func7
    (ChangeSpec.witness_shaped (enc := enc) (C := Tryd.checked) (os := os) (X := fun w _ => laidMetH Tryd.prog laidL w) false (World.laidAll Tryd.prog os laidL) #[.slice none 0 0, .slice none 0 0] 8 (World.laidAll_os _ _ _)
      (shaped0 os _) (by kernel_rfl) (by kernel_rfl) (by kernel_rfl) (laid0 os _)) ?_
  intro W base args ds gs before hval0 hW _ hsh
  have hval : ∀ (j : Nat) t v, Tryd.f7.params[j]? = some t → args[j]? = some v → Value.okWide Tryd.prog W .any base t v := hval0
  have hW' := hW
  have hlt : ∀ p ∈ before, p.block < W.heap.size := fun p hp => hW.lt p hp
  obtain ⟨p, q, hA0, hV, rfl, hfz, hnd⟩ := hW
  have hA : DataW.TrodAll enc Tryd.prog W 0 (fun _ => true) true Tryd.f7.params.toList args.toList ds p := hA0
  have hAk := hA
  rw [Tryd.params7] at hA hval
  obtain ⟨v0, vs0, d0, ds0, p0, q0, hargs, rfl, rfl, h0, r0⟩ := trodAll_cons hA
  obtain ⟨v1, vs1, d1, ds1, p1, q1, rfl, rfl, rfl, h1, r1⟩ := trodAll_cons r0
  obtain ⟨rfl, rfl, rfl⟩ := trodAll_nil r1
  obtain rfl : args = #[v0, v1] := by cases args; simp_all
  obtain ⟨rfl, rfl⟩ := trodVars_none hV
  obtain ⟨A0, l0, c0, rfl, hl0, _, _, wf0, x0⟩ := open_row Tryd.underlying30 Tryd.underlying5 (by kernel_rfl) (hval 0 30 v0 rfl rfl) h0
  obtain ⟨n0, rfl, b0⟩ := nats_of wf0
  obtain ⟨A1, l1, c1, rfl, hl1, _, _, wf1, x1⟩ := open_row Tryd.underlying30 Tryd.underlying5 (by kernel_rfl) (hval 1 30 v1 rfl rfl) h1
  obtain ⟨n1, rfl, b1⟩ := nats_of wf1
  have hwalk := back_any A0 c0 n0 A1 c1 n1 W (maxL_of_shaped hsh) (bytes_of b0 x0) (by simpa using hl0) (bytes_of b1 x1)
  rw [show n0.length = (n0.map (fun n : Nat => (n : Int))).length by simp, show n1.length = (n1.map (fun n : Nat => (n : Int))).length by simp] at hwalk
  refine hwalk.mono fun e W' ⟨he, bel⟩ => ?_
  subst he
  exact ⟨_, rfl, _, _, _, [], _, [], hW', trodAll_mk1 (shut_bool Tryd.underlying4 _), trodAll_below laidOut bel (by kernel_rfl) hAk (fun x hx => hlt x (List.mem_append_left _ hx)), rfl, bel.frame _, fun h => by cases h⟩

theorem holds : Rows.TokensBackSaid :=
  OpenClaim.holds_of_wide 7 Tryd.f7 rfl rfl rfl rfl rfl rfl rfl ⟨rfl, rfl, rfl, rfl, rfl⟩ rfl rfl rfl rfl rfl (by kernel_rfl) Tryd.func7 (by kernel_rfl)
    (of_decide_eq_true (by kernel_rfl)) (by unfold Func.isWrapper; first | (rw [if_pos (by decide +kernel)]; kernel_rfl) | (rw [if_neg (by decide +kernel)]; exact ⟨rfl, rfl⟩))
    (fun os started H enc _ => lifted os started H enc)
end Go.Proofs.YtihigfpikiaaiaaDoor.tokensBackDone
namespace Go.Proofs.YtihigfpikiaaiaaDoor
open Go
/-- the tied card of TokensBack -/
theorem tokensBack_card : Rows.TokensBackCardSaid :=
  Claim7.holds_tied_plain_at .later [] [.data, .pinned] true (true, "967e911160ed70d72a95c0edcfd8323cb2f5be931032ea186f0d18a5376e6027") false
    tokensBackDone.holds (fun _ h => by cases h) (by kernel_rfl) (fun _ h => by cases h) tokensBack_row_tie rfl ⟨rfl, rfl⟩ (by kernel_rfl) rfl
    (fun f fn hf hfn => by
      obtain rfl : f = 7 := Option.some.inj ((show Tryd.prog.funcNamed "salvor/salvorlaw28.TokensBack" = some 7 by kernel_rfl).symm.trans hf) |>.symm
      obtain rfl : fn = Tryd.f7 := (Option.some.inj (Tryd.func7.symm.trans hfn)).symm
      exact ⟨by kernel_rfl, fun j t ht => by
        rw [Tryd.params7] at ht
        have hm : t ∈ ([30, 30] : List Nat) := by simpa using Array.mem_of_getElem? ht
        have hall : (([30, 30] : List Nat).all fun u => !Tryd.prog.wantsStandIn u) = true := by kernel_rfl
        exact (show Tryd.prog.wantsStandIn t = false by simpa using List.all_eq_true.1 hall t hm)⟩)
    (by kernel_rfl)
#print axioms tokensBack_card
end Go.Proofs.YtihigfpikiaaiaaDoor
