/- EmitThere: the walk. -/
import Derived.Test.YteigjcichmpejaaDoorV126
import Derived.Test.YteigjcichmpejaaDoorV111
import Derived.Test.YteigjcichmpejaaDoorV103
import Derived.Deep.DeepCutAuto
import Derived.Deep.CutBlock
namespace Go.Proofs.YteigjcichmpejaaDoor
open Go.RowKit
structure ThereOk (k:Nat) (L:ELog):Prop where
 inv:L.Inv
 steps:L.steps.length≤2*k
 hints: ∀s∈L.steps,s.hints.length≤k
 last:L.last≤20+k
theorem madeL_len (xs:List Int):(madeL xs).length≤6:=by
 unfold madeL
 rw[List.length_map,List.length_take]
 omega
theorem below_drewN (w:World) (n:Nat):Below w.heap.size w (w.drewN n):=⟨rfl,rfl,rfl,Nat.le_refl _,fun _ _=>rfl⟩
structure AfterForget (k:Nat) (L L1:ELog):Prop where
 inv:L1.Inv
 steps:L1.steps.length≤2*k+1
 hints: ∀s∈L1.steps,s.hints.length≤k+1
 eq:L1.last=L.last
 last:L1.last≤20+k
theorem u8_rng {x:Int} (h:(Lit.int .u8 x).wf=true):0≤x∧x≤255:=by
 simp only[Lit.wf,Bool.and_eq_true,decide_eq_true_eq]at h
 exact⟨h.1,h.2⟩
end Go.Proofs.YteigjcichmpejaaDoor
