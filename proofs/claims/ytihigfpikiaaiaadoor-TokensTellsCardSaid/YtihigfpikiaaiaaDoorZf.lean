/- TokensTells: WHATEVER THE INPUT, the call returns true and the input reads as it did; under the listed variables that the card ties. -/
import Derived.Test.YtihigfpikiaaiaaDoorZe
import Derived.Test.YtihigfpikiaaiaaDoorRk
import Derived.Lib.SmallJoins
namespace Go.Proofs.YtihigfpikiaaiaaDoor.tokensTellsDone
open Go.ChangeShapes Go.WideShapes Go.ChangeAt Go.RowKit
open Go.ChangeMaps (open_string shut_string)

set_option maxRecDepth 100000 in
theorem lifted (os : Os) (started : os.Started) (H : Type) (enc : TypeId × Value → H) :
    ReturnsInHanded {} Tryd.checked os 6 .any (fun w args => (Rows.tokensTellsSpec.pre enc Tryd.prog Tryd.f6 Rows.tokensTellsRow.domain false w args ∧ laidMetH Tryd.prog laidL w) ∧ sizedMet enc Tryd.prog Tryd.f6 (OpenSpec.ofChange Rows.tokensTellsSpec) false w args)
      (Rows.tokensTellsSpec.post enc Tryd.prog Tryd.f6 false true false false) := by
  refine handed_both (C := Tryd.checked) (X := fun w _ => laidMetH Tryd.prog laidL w) own started (by kernel_rfl) Tryd.func6
    (ChangeSpec.witness_shaped (enc := enc) (C := Tryd.checked) (os := os) (X := fun w _ => laidMetH Tryd.prog laidL w) false (World.laidAll Tryd.prog os laidL) #[.string ⟨#[]⟩, .int .i64 0, .agg #[.int .u8 0, .int .i64 0, .int .i64 0]] 8 (World.laidAll_os _ _ _)
      (shaped0 os _) (by kernel_rfl) (by kernel_rfl) (by kernel_rfl) (laid0 os _)) ?_
  intro W base args ds gs before hval0 hW _ hsh
  have hval : ∀ (j : Nat) t v, Tryd.f6.params[j]? = some t → args[j]? = some v → Value.okWide Tryd.prog W .any base t v := hval0
  have hW' := hW
  obtain ⟨p, q, hA0, hV, rfl, hfz, hnd⟩ := hW
  have hA : DataW.TrodAll enc Tryd.prog W 0 (fun _ => true) true Tryd.f6.params.toList args.toList ds p := hA0
  rw [Tryd.params6] at hA hval
  obtain ⟨v0, vs0, d0, ds0, p0, q0, hargs, rfl, rfl, h0, r0⟩ := trodAll_cons hA
  obtain ⟨v1, vs1, d1, ds1, p1, q1, rfl, rfl, rfl, h1, r1⟩ := trodAll_cons r0
  obtain ⟨v2, vs2, d2, ds2, p2, q2, rfl, rfl, rfl, h2, r2⟩ := trodAll_cons r1
  obtain ⟨rfl, rfl, rfl⟩ := trodAll_nil r2
  obtain rfl : args = #[v0, v1, v2] := by cases args; simp_all
  obtain ⟨rfl, rfl⟩ := trodVars_none hV
  obtain ⟨a0, rfl, rfl, rfl, w0⟩ := open_string Tryd.underlying9 (hval 0 9 v0 rfl rfl) h0
  obtain ⟨a1, rfl, rfl, rfl, w1⟩ := open_int Tryd.underlying3 (hval 1 3 v1 rfl rfl) h1
  obtain ⟨v20, v21, v22, y20, y21, y22, m2, rfl, rfl, rfl, e20, e21, e22⟩ := Joins.open_agg3 Tryd.underlying29 (by kernel_rfl) (by kernel_rfl) (hval 2 29 v2 rfl rfl) h2
  obtain ⟨a20, q20, rfl, w20⟩ := DataW.trod_int Tryd.underlying5 e20
  obtain rfl : v20 = .int .u8 a20 := by simpa using q20
  obtain ⟨a21, q21, rfl, w21⟩ := DataW.trod_int Tryd.underlying3 e21
  obtain rfl : v21 = .int .i64 a21 := by simpa using q21
  obtain ⟨a22, q22, rfl, w22⟩ := DataW.trod_int Tryd.underlying3 e22
  obtain rfl : v22 = .int .i64 a22 := by simpa using q22
  refine (ttells_any a0 a1 a20 a21 a22 W (maxL_of_shaped hsh) (u8_of_wf w20).1 (u8_of_wf w20).2).mono fun e W' ⟨he, bel⟩ => ?_
  subst he
  exact ⟨_, rfl, _, _, _, [], _, [], hW', trodAll_mk1 (shut_bool Tryd.underlying4 _), (trodAll_cons_mk (shut_string Tryd.underlying9 w0) (trodAll_cons_mk (shut_int Tryd.underlying3 w1) (trodAll_cons_mk (Joins.shut_agg3 Tryd.underlying29 (by kernel_rfl) (by kernel_rfl) (shut_int Tryd.underlying5 w20) (shut_int Tryd.underlying3 w21) (shut_int Tryd.underlying3 w22)) trodAll_mk0))), rfl, bel.frame _, fun h => by cases h⟩

theorem holds : Rows.TokensTellsSaid :=
  OpenClaim.holds_of_wide 6 Tryd.f6 rfl rfl rfl rfl rfl rfl rfl ⟨rfl, rfl, rfl, rfl, rfl⟩ rfl rfl rfl rfl rfl (by kernel_rfl) Tryd.func6 (by kernel_rfl)
    (of_decide_eq_true (by kernel_rfl)) (by unfold Func.isWrapper; first | (rw [if_pos (by decide +kernel)]; kernel_rfl) | (rw [if_neg (by decide +kernel)]; exact ⟨rfl, rfl⟩))
    (fun os started H enc _ => lifted os started H enc)
end Go.Proofs.YtihigfpikiaaiaaDoor.tokensTellsDone
namespace Go.Proofs.YtihigfpikiaaiaaDoor
open Go
/-- the tied card of TokensTells -/
theorem tokensTells_card : Rows.TokensTellsCardSaid :=
  Claim7.holds_tied_plain_at .later [] [.data, .pinned] true (true, "967e911160ed70d72a95c0edcfd8323cb2f5be931032ea186f0d18a5376e6027") false
    tokensTellsDone.holds (fun _ h => by cases h) (by kernel_rfl) (fun _ h => by cases h) tokensTells_row_tie rfl ⟨rfl, rfl⟩ (by kernel_rfl) rfl
    (fun f fn hf hfn => by
      obtain rfl : f = 6 := Option.some.inj ((show Tryd.prog.funcNamed "salvor/salvorlaw28.TokensTells" = some 6 by kernel_rfl).symm.trans hf) |>.symm
      obtain rfl : fn = Tryd.f6 := (Option.some.inj (Tryd.func6.symm.trans hfn)).symm
      exact ⟨by kernel_rfl, fun j t ht => by
        rw [Tryd.params6] at ht
        have hm : t ∈ ([9, 3, 29] : List Nat) := by simpa using Array.mem_of_getElem? ht
        have hall : (([9, 3, 29] : List Nat).all fun u => !Tryd.prog.wantsStandIn u) = true := by kernel_rfl
        exact (show Tryd.prog.wantsStandIn t = false by simpa using List.all_eq_true.1 hall t hm)⟩)
    (by kernel_rfl)
#print axioms tokensTells_card
end Go.Proofs.YtihigfpikiaaiaaDoor
