/- TokensNumbers: WHATEVER THE INPUT, the call returns true and the input reads as it did; under the listed variables that the card ties. -/
import Derived.Test.YtihigfpikiaaiaaDoorZe
import Derived.Test.YtihigfpikiaaiaaDoorNb
import Derived.Lib.SmallJoins
namespace Go.Proofs.YtihigfpikiaaiaaDoor.tokensNumbersDone
open Go.ChangeShapes Go.WideShapes Go.ChangeAt Go.RowKit
open Go.ChangeMaps (open_string shut_string)

set_option maxRecDepth 100000 in
theorem lifted (os : Os) (started : os.Started) (H : Type) (enc : TypeId × Value → H) :
    ReturnsInHanded {} Tryd.checked os 8 .any (fun w args => (Rows.tokensNumbersSpec.pre enc Tryd.prog Tryd.f8 Rows.tokensNumbersRow.domain false w args ∧ laidMetH Tryd.prog laidL w) ∧ sizedMet enc Tryd.prog Tryd.f8 (OpenSpec.ofChange Rows.tokensNumbersSpec) false w args)
      (Rows.tokensNumbersSpec.post enc Tryd.prog Tryd.f8 false true false false) := by
  refine handed_both (C := Tryd.checked) (X := fun w _ => laidMetH Tryd.prog laidL w) own started (by kernel_rfl) Tryd.func8
    (ChangeSpec.witness_shaped (enc := enc) (C := Tryd.checked) (os := os) (X := fun w _ => laidMetH Tryd.prog laidL w) false (World.laidAll Tryd.prog os laidL) #[.int .u32 0, .int .u32 0, .int .u8 0] 8 (World.laidAll_os _ _ _)
      (shaped0 os _) (by kernel_rfl) (by kernel_rfl) (by kernel_rfl) (laid0 os _)) ?_
  intro W base args ds gs before hval0 hW _ hsh
  have hval : ∀ (j : Nat) t v, Tryd.f8.params[j]? = some t → args[j]? = some v → Value.okWide Tryd.prog W .any base t v := hval0
  have hW' := hW
  obtain ⟨p, q, hA0, hV, rfl, hfz, hnd⟩ := hW
  have hA : DataW.TrodAll enc Tryd.prog W 0 (fun _ => true) true Tryd.f8.params.toList args.toList ds p := hA0
  rw [Tryd.params8] at hA hval
  obtain ⟨v0, vs0, d0, ds0, p0, q0, hargs, rfl, rfl, h0, r0⟩ := trodAll_cons hA
  obtain ⟨v1, vs1, d1, ds1, p1, q1, rfl, rfl, rfl, h1, r1⟩ := trodAll_cons r0
  obtain ⟨v2, vs2, d2, ds2, p2, q2, rfl, rfl, rfl, h2, r2⟩ := trodAll_cons r1
  obtain ⟨rfl, rfl, rfl⟩ := trodAll_nil r2
  obtain rfl : args = #[v0, v1, v2] := by cases args; simp_all
  obtain ⟨rfl, rfl⟩ := trodVars_none hV
  obtain ⟨a0, rfl, rfl, rfl, w0⟩ := open_int Tryd.underlying59 (hval 0 59 v0 rfl rfl) h0
  obtain ⟨n0, rfl, b0⟩ := nat_of_wf (k := .u32) rfl w0
  obtain ⟨a1, rfl, rfl, rfl, w1⟩ := open_int Tryd.underlying59 (hval 1 59 v1 rfl rfl) h1
  obtain ⟨n1, rfl, b1⟩ := nat_of_wf (k := .u32) rfl w1
  obtain ⟨a2, rfl, rfl, rfl, w2⟩ := open_int Tryd.underlying5 (hval 2 5 v2 rfl rfl) h2
  obtain ⟨n2, rfl, b2⟩ := nat_of_wf (k := .u8) rfl w2
  refine (numbers_any n0 n1 n2 (Int.ofNat_lt.1 (show (n2 : Int) < ((256 : Nat) : Int) from b2)) W (maxL_of_shaped hsh)).mono fun e W' ⟨he, bel⟩ => ?_
  subst he
  exact ⟨_, rfl, _, _, _, [], _, [], hW', trodAll_mk1 (shut_bool Tryd.underlying4 _), (trodAll_cons_mk (shut_int Tryd.underlying59 w0) (trodAll_cons_mk (shut_int Tryd.underlying59 w1) (trodAll_cons_mk (shut_int Tryd.underlying5 w2) trodAll_mk0))), rfl, bel.frame _, fun h => by cases h⟩

theorem holds : Rows.TokensNumbersSaid :=
  OpenClaim.holds_of_wide 8 Tryd.f8 rfl rfl rfl rfl rfl rfl rfl ⟨rfl, rfl, rfl, rfl, rfl⟩ rfl rfl rfl rfl rfl (by kernel_rfl) Tryd.func8 (by kernel_rfl)
    (of_decide_eq_true (by kernel_rfl)) (by unfold Func.isWrapper; first | (rw [if_pos (by decide +kernel)]; kernel_rfl) | (rw [if_neg (by decide +kernel)]; exact ⟨rfl, rfl⟩))
    (fun os started H enc _ => lifted os started H enc)
end Go.Proofs.YtihigfpikiaaiaaDoor.tokensNumbersDone
namespace Go.Proofs.YtihigfpikiaaiaaDoor
open Go
/-- the tied card of TokensNumbers -/
theorem tokensNumbers_card : Rows.TokensNumbersCardSaid :=
  Claim7.holds_tied_plain_at .later [] [.data, .pinned] true (true, "967e911160ed70d72a95c0edcfd8323cb2f5be931032ea186f0d18a5376e6027") false
    tokensNumbersDone.holds (fun _ h => by cases h) (by kernel_rfl) (fun _ h => by cases h) tokensNumbers_row_tie rfl ⟨rfl, rfl⟩ (by kernel_rfl) rfl
    (fun f fn hf hfn => by
      obtain rfl : f = 8 := Option.some.inj ((show Tryd.prog.funcNamed "salvor/salvorlaw28.TokensNumbers" = some 8 by kernel_rfl).symm.trans hf) |>.symm
      obtain rfl : fn = Tryd.f8 := (Option.some.inj (Tryd.func8.symm.trans hfn)).symm
      exact ⟨by kernel_rfl, fun j t ht => by
        rw [Tryd.params8] at ht
        have hm : t ∈ ([59, 59, 5] : List Nat) := by simpa using Array.mem_of_getElem? ht
        have hall : (([59, 59, 5] : List Nat).all fun u => !Tryd.prog.wantsStandIn u) = true := by kernel_rfl
        exact (show Tryd.prog.wantsStandIn t = false by simpa using List.all_eq_true.1 hall t hm)⟩)
    (by kernel_rfl)
#print axioms tokensNumbers_card
end Go.Proofs.YtihigfpikiaaiaaDoor
