/- MinimSmall: the call returns true. -/
import Derived.Test.YtiodfolcnnkdjaaGreatZf
import Derived.Test.YtiodfolcnnkdjaaGreatUh
import Derived.Test.YtiodfolcnnkdjaaGreatUk
namespace Go.Proofs.YtiodfolcnnkdjaaGreat.minimSmallDone
open Go.ChangeShapes Go.WideShapes Go.ChangeAt Go.RowKit

theorem yes : TellsYes15 := fun n cs acs c cv av u id v w h0 h1 h2 h3 h4 h5 h6 h7 => tells15_any n cv av u cs acs id v c w h0 h1 h2 h3 h4 h5 h6 h7
set_option maxRecDepth 100000 in
theorem lifted (os : Os) (started : os.Started) (H : Type) (enc : TypeId × Value → H) :
    ReturnsInHanded {} Tryz.checked os 4 .any (Rows.minimSmallSpec.pre6 enc Tryz.prog Tryz.f4 Rows.minimSmallRow.domain false)
      (Rows.minimSmallSpec.post enc Tryz.prog Tryz.f4 false true false false) := by
  refine returnsInHanded_of_change (C := Tryz.checked) own started (by kernel_rfl) Tryz.func4
    (ChangeSpec.witness6 (enc := enc) (C := Tryz.checked) false ⟨#[], #[], []⟩ 8 (by kernel_rfl) (by kernel_rfl) (by kernel_rfl) (by kernel_rfl)) ?_
  intro W base args ds gs before hval0 hW _ _
  have hW' := hW
  have hlt : ∀ p ∈ before, p.block < W.heap.size := fun p hp => hW.lt p hp
  obtain ⟨p, q, hA0, hV, rfl, hfz, hnd⟩ := hW
  have hA : DataW.TrodAll enc Tryz.prog W 0 (fun _ => true) true Tryz.f4.params.toList args.toList ds p := hA0
  have hAk := hA
  rw [Tryz.params4] at hA
  obtain ⟨hargs, rfl, rfl⟩ := trodAll_nil hA
  obtain rfl : args = #[] := by cases args; simp_all
  obtain ⟨rfl, rfl⟩ := trodVars_none hV
  refine (minimSmall_core yes W).mono fun e W' ⟨he, bel⟩ => ?_
  subst he
  exact ⟨_, rfl, _, _, _, [], _, [], hW', trodAll_mk1 (shut_bool Tryz.underlying4 _), trodAll_below laidOut bel (by kernel_rfl) hAk (fun x hx => hlt x (List.mem_append_left _ hx)), rfl, bel.frame _, fun h => by cases h⟩

theorem holds : Rows.MinimSmallSaid :=
  OpenClaim.holds_of_wide 4 Tryz.f4 rfl rfl rfl rfl rfl rfl rfl ⟨rfl, rfl, rfl, rfl, rfl⟩ rfl rfl rfl rfl rfl (by kernel_rfl) Tryz.func4 (by kernel_rfl)
    (of_decide_eq_true (by kernel_rfl)) (by unfold Func.isWrapper; first | (rw [if_pos (by decide +kernel)]; kernel_rfl) | (rw [if_neg (by decide +kernel)]; exact ⟨rfl, rfl⟩))
    (fun os started H enc _ => lifted os started H enc)
end Go.Proofs.YtiodfolcnnkdjaaGreat.minimSmallDone
namespace Go.Proofs.YtiodfolcnnkdjaaGreat
open Go
/-- the row of MinimSmall -/
theorem minimSmall_said : Rows.MinimSmallSaid := minimSmallDone.holds
#print axioms minimSmall_said
end Go.Proofs.YtiodfolcnnkdjaaGreat
