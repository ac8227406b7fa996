/- Literals: Var, Neg. -/
import Derived.Test.YthhpffdbipgkcaaGreatDoorMx
import Derived.Test.YthhpffdbipgkcaaGreatDoorEa
namespace Go.Proofs.YthhpffdbipgkcaaGreatDoor
open Go.RowKit

/-- the variable of a literal -/
def litV (l : Int) : Nat := if litB l = true then l.natAbs else 0
set_option maxHeartbeats 1000000 in
theorem lit_var (l : Int) (w : World) : Calls Tryz.prog 44 #[.int .i64 l] w fun e w' => e = .returned (.int .i64 (litV l : Nat)) ∧ w = w' := by
  have HR := Lib.hid (right_lit l w)
  rcases hb : litB l with _ | _
  · rw [hb] at HR
    have hv : litV l = 0 := by unfold litV; rw [if_neg (by rw [hb]; decide)]
    rw [hv]
    clear hb hv
    go_enter Tryz.func44, Tryz.ntmps44
    go_wp2_with fail
    refine HR.out.mono ?_
    rintro e w' ⟨rfl, rfl⟩
    go_wp2_with fail
    go_ret
    exact ⟨rfl, rfl⟩
  · rw [hb] at HR
    have hr := (litB_iff l).1 hb
    have hv : (litV l : Int) = max l (-l) := by unfold litV; rw [if_pos hb]; omega
    have HV := Lib.hid hv
    obtain ⟨h0, h1, h2⟩ := hr
    clear hb hv
    have hw : IntKind.i64.wrap (-l) = -l := IntWalk.i64_in _ (by omega)
    go_enter Tryz.func44, Tryz.ntmps44
    go_wp2_with fail
    refine HR.out.mono ?_
    rintro e w' ⟨rfl, rfl⟩
    go_wp2_with fail
    · go_ret
      exact ⟨ret_int (a := -l) (by have := HV.out; omega), rfl⟩
    · go_ret
      exact ⟨ret_int (a := l) (by have := HV.out; omega), rfl⟩
def litN (l : Int) : Int := if litB l = true then -l else 0
theorem lit_neg (l : Int) (w : World) : Calls Tryz.prog 38 #[.int .i64 l] w fun e w' => e = .returned (.int .i64 (litN l)) ∧ w = w' := by
 have HR := right_lit l w
 cases hb : litB l
 ·
  rw [hb] at HR
  have HR := Lib.hid HR
  have hv : litN l = 0 := by unfold litN; rw [if_neg (by rw [hb]; decide)]
  rw [hv]
  clear hb hv
  go_enter Tryz.func38, Tryz.ntmps38
  go_wp2_with fail
  refine HR.out.mono ?_
  rintro e w' ⟨rfl, rfl⟩
  go_wp2_with fail
  go_ret
  exact ⟨rfl, rfl⟩
 ·
  rw [hb] at HR
  have HR := Lib.hid HR
  have hr := (litB_iff l).1 hb
  have hv : litN l = -l := by unfold litN; rw [if_pos hb]
  rw [hv]
  obtain ⟨h0, h1, h2⟩ := hr
  clear hb hv
  have hw : IntKind.i64.wrap (-l) = -l := IntWalk.i64_in _ (by omega)
  go_enter Tryz.func38, Tryz.ntmps38
  go_wp2_with fail
  refine HR.out.mono ?_
  rintro e w' ⟨rfl, rfl⟩
  go_wp2_with fail
  go_ret
  exact ⟨rfl, rfl⟩
end Go.Proofs.YthhpffdbipgkcaaGreatDoor
