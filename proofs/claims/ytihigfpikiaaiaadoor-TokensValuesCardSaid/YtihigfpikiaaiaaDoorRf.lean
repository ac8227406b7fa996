/- The walk of TokensValues. -/
import Derived.Test.YtihigfpikiaaiaaDoorRe
namespace Go.Proofs.YtihigfpikiaaiaaDoor
open Go.RowKit

theorem tvalues_any (s : ByteArray) (w : World) (hm : MaxL w) : Calls Tryd.prog 5 #[.string s] w fun e w' => e = .returned (.bool true) ∧ Below w.heap.size w w' := by
  go_enter Tryd.func5, Tryd.ntmps5
  go_wp2_with fail
  refine (values_any s _).mono ?_
  rintro e w1 ⟨rfl, hb⟩
  go_wp2_with fail
  refine (awake_any _ (hm.next hb)).mono ?_
  rintro e w2 ⟨rfl, hb2⟩
  go_wp2_with fail
  go_ret
  exact ⟨rfl, hb.trans (hb2.mono hb.size)⟩
end Go.Proofs.YtihigfpikiaaiaaDoor
