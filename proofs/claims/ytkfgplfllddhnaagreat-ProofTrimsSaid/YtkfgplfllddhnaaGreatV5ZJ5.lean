/- ProofTrims: WHATEVER THE INPUT, the call returns true and the input reads as it did. -/
import Derived.Test.YtkfgplfllddhnaaGreatV500
import Derived.Test.YtkfgplfllddhnaaGreatV533
namespace Go.Proofs.YtkfgplfllddhnaaGreat.proofTrimsDone
open Go.ChangeShapes Go.WideShapes Go.ChangeAt Go.RowKit
set_option maxRecDepth 100000 in
theorem lifted (os:Os) (started:os.Started) (H:Type) (enc:TypeId×Value→H):
  ReturnsInHanded {} Tryz.checked os 7 .any (Rows.proofTrimsSpec.pre6 enc Tryz.prog Tryz.f7 Rows.proofTrimsRow.domain false)
   (Rows.proofTrimsSpec.post enc Tryz.prog Tryz.f7 false true false false):=by
 refine returnsInHanded_of_change_sized (C:=Tryz.checked) own started (by kernel_rfl) Tryz.func7
  (ChangeSpec.witness6 (enc:=enc) (C:=Tryz.checked) false ⟨#[],#[.slice none 0 0,.slice none 0 0,.int .u8 0],[]⟩ 8 (by kernel_rfl) (by kernel_rfl) (by kernel_rfl) (by kernel_rfl)) ?_
 intro W base args ds gs before hval0 hW _ hsz0 _
 have hsz:(DataW.weightsEach Tryz.prog (Tryz.f7.params.toList++Rows.proofTrimsSpec.plain.varTypes Tryz.prog) (ds++gs)).all (· ≤reachBytes)=true:=hsz0
 have hval: ∀(j:Nat) t v,Tryz.f7.params[j]? =some t→args[j]? =some v→Value.okWide Tryz.prog W .any base t v:=hval0
 have hW':=hW
 have hlt: ∀p∈before,p.block<W.heap.size:=fun p hp=>hW.lt p hp
 obtain⟨p,q,hA0,hV,rfl,hfz,hnd⟩:=hW
 have hA:DataW.TrodAll enc Tryz.prog W 0 (fun _=>true) true Tryz.f7.params.toList args.toList ds p:=hA0
 have hAk:=hA
 rw[Tryz.params7]at hA hsz hval
 obtain⟨v0,vs0,d0,ds0,p0,q0,hargs,rfl,rfl,h0,r0⟩:=trodAll_cons hA
 obtain⟨v1,vs1,d1,ds1,p1,q1,rfl,rfl,rfl,h1,r1⟩:=trodAll_cons r0
 obtain⟨v2,vs2,d2,ds2,p2,q2,rfl,rfl,rfl,h2,r2⟩:=trodAll_cons r1
 obtain⟨rfl,rfl,rfl⟩:=trodAll_nil r2
 obtain rfl:args= #[v0,v1,v2]:=by cases args;simp_all
 obtain⟨rfl,rfl⟩:=trodVars_none hV
 obtain⟨l0,f0⟩:=open_rows Tryz.underlying22 Tryz.underlying33 Tryz.underlying40 (by kernel_rfl) (by kernel_rfl) (hval 0 22 v0 rfl rfl) h0
 have hb1:Tryz.prog.bytesOf 5=1:=by kernel_rfl
 obtain⟨l1,f1,z1⟩:=open_row_sized (N:=140737488355328) Tryz.underlying46 Tryz.underlying5 (by kernel_rfl) (hval 1 46 v1 rfl rfl) h1 (fun elems spare e=>by
  have:=sized_slice (elems:=elems) (spare:=spare) hsz (j:=1) (t:=46) (e:=5) rfl (by rw[e];rfl) Tryz.underlying46
  rw[hb1]at this
  simp only[reachBytes]at this
  omega)
 obtain⟨l2,rfl,rfl,rfl,f2⟩:=open_int Tryz.underlying5 (hval 2 5 v2 rfl rfl) h2
 refine(trims_any l2 v0 v1 l0 l1 W f0 f1 z1 f2).mono fun e W' ⟨he,bel⟩=>?_
 subst he
 exact⟨_,rfl,_,_,_,[],_,[],hW',trodAll_mk1 (shut_bool Tryz.underlying4 _),trodAll_below laidOut bel (by kernel_rfl) hAk (fun x hx=>hlt x (List.mem_append_left _ hx)),rfl,bel.frame _,fun h=>by cases h⟩
theorem holds:Rows.ProofTrimsSaid:=
 OpenClaim.holds_of_wide 7 Tryz.f7 rfl rfl rfl rfl rfl rfl rfl ⟨rfl,rfl,rfl,rfl,rfl⟩ rfl rfl rfl rfl rfl (by kernel_rfl) Tryz.func7 (by kernel_rfl)
  (of_decide_eq_true (by kernel_rfl)) (by unfold Func.isWrapper;first|(rw[if_pos (by decide +kernel)];kernel_rfl)|(rw[if_neg (by decide +kernel)];exact⟨rfl,rfl⟩))
  (fun os started H enc _=>lifted os started H enc)
end Go.Proofs.YtkfgplfllddhnaaGreat.proofTrimsDone
namespace Go.Proofs.YtkfgplfllddhnaaGreat
open Go
theorem proofTrims_said:Rows.ProofTrimsSaid:=proofTrimsDone.holds
#print axioms proofTrims_said
end Go.Proofs.YtkfgplfllddhnaaGreat
