/- EmitProves: WHATEVER THE INPUT, the call returns true and the input reads as it did; under the listed variables that the card ties. -/
import Derived.Test.YtcbjjdpngeabgaaGreatDoorV804
import Derived.Test.YtcbjjdpngeabgaaGreatDoorV835
import Derived.Lib.SmallJoins
namespace Go.Proofs.YtcbjjdpngeabgaaGreatDoor.emitProvesDone
open Go.ChangeShapes Go.WideShapes Go.ChangeAt Go.RowKit
set_option maxRecDepth 100000 in
theorem lifted (os:Os) (started:os.Started) (H:Type) (enc:TypeId×Value→H):
  ReturnsInHanded {} Tryz.checked os 3 .any (fun w args=>(Rows.emitProvesSpec.pre enc Tryz.prog Tryz.f3 Rows.emitProvesRow.domain false w args∧laidMetH Tryz.prog laidL w)∧sizedMet enc Tryz.prog Tryz.f3 (OpenSpec.ofChange Rows.emitProvesSpec) false w args)
   (Rows.emitProvesSpec.post enc Tryz.prog Tryz.f3 false true false false):=by
 refine handed_both (C:=Tryz.checked) (X:=fun w _=>laidMetH Tryz.prog laidL w) own started (by kernel_rfl) Tryz.func3
  (ChangeSpec.witness_shaped (enc:=enc) (C:=Tryz.checked) (os:=os) (X:=fun w _=>laidMetH Tryz.prog laidL w) false (World.laidAll Tryz.prog os laidL) #[.slice none 0 0,.slice none 0 0,.slice none 0 0] 8 (World.laidAll_os _ _ _)
   (shaped0 os _) (by kernel_rfl) (by kernel_rfl) (by kernel_rfl) (laid0 os _)) ?_
 intro W base args ds gs before hval0 hW hsz0 hsh hl
 have hsz:(DataW.weightsEach Tryz.prog (Tryz.f3.params.toList++Rows.emitProvesSpec.plain.varTypes Tryz.prog) (ds++gs)).all (· ≤reachBytes)=true:=hsz0
 have hval: ∀(j:Nat) t v,Tryz.f3.params[j]? =some t→args[j]? =some v→Value.okWide Tryz.prog W .any base t v:=hval0
 have hW':=hW
 have hlt: ∀p∈before,p.block<W.heap.size:=fun p hp=>hW.lt p hp
 obtain⟨p,q,hA0,hV,rfl,hfz,hnd⟩:=hW
 have hA:DataW.TrodAll enc Tryz.prog W 0 (fun _=>true) true Tryz.f3.params.toList args.toList ds p:=hA0
 have hAk:=hA
 rw[Tryz.params3]at hA hsz hval
 obtain⟨v0,vs0,d0,ds0,p0,q0,hargs,rfl,rfl,h0,r0⟩:=trodAll_cons hA
 obtain⟨v1,vs1,d1,ds1,p1,q1,rfl,rfl,rfl,h1,r1⟩:=trodAll_cons r0
 obtain⟨v2,vs2,d2,ds2,p2,q2,rfl,rfl,rfl,h2,r2⟩:=trodAll_cons r1
 obtain⟨rfl,rfl,rfl⟩:=trodAll_nil r2
 obtain rfl:args= #[v0,v1,v2]:=by cases args;simp_all
 obtain⟨rfl,rfl⟩:=trodVars_none hV
 obtain⟨l0,f0⟩:=open_rows Tryz.underlying22 Tryz.underlying89 Tryz.underlying126 (by kernel_rfl) (by kernel_rfl) (hval 0 22 v0 rfl rfl) h0
 have hb1:Tryz.prog.bytesOf 5=1:=by kernel_rfl
 obtain⟨l1,f1,z1⟩:=open_row_sized (N:=140737488355328) Tryz.underlying23 Tryz.underlying5 (by kernel_rfl) (hval 1 23 v1 rfl rfl) h1 (fun elems spare e=>by
  have:=sized_slice (elems:=elems) (spare:=spare) hsz (j:=1) (t:=23) (e:=5) rfl (by rw[e];rfl) Tryz.underlying23
  rw[hb1]at this
  simp only[reachBytes]at this
  omega)
 obtain⟨l2,f2⟩:=open_row Tryz.underlying23 Tryz.underlying5 (by kernel_rfl) (hval 2 23 v2 rfl rfl) h2
 refine(emitProves_any v0 v1 v2 l0 l1 l2 W (tab_of_laid hl) f0 f1 z1 f2).mono fun e W' ⟨he,bel⟩=>?_
 subst he
 exact⟨_,rfl,_,_,_,[],_,[],hW',trodAll_mk1 (shut_bool Tryz.underlying4 _),trodAll_below laidOut bel (by kernel_rfl) hAk (fun x hx=>hlt x (List.mem_append_left _ hx)),rfl,bel.frame _,fun h=>by cases h⟩
theorem holds:Rows.EmitProvesSaid:=
 OpenClaim.holds_of_wide 3 Tryz.f3 rfl rfl rfl rfl rfl rfl rfl ⟨rfl,rfl,rfl,rfl,rfl⟩ rfl rfl rfl rfl rfl (by kernel_rfl) Tryz.func3 (by kernel_rfl)
  (of_decide_eq_true (by kernel_rfl)) (by unfold Func.isWrapper;first|(rw[if_pos (by decide +kernel)];kernel_rfl)|(rw[if_neg (by decide +kernel)];exact⟨rfl,rfl⟩))
  (fun os started H enc _=>lifted os started H enc)
end Go.Proofs.YtcbjjdpngeabgaaGreatDoor.emitProvesDone
namespace Go.Proofs.YtcbjjdpngeabgaaGreatDoor
open Go
theorem emitProves_card:Rows.EmitProvesCardSaid:=
 Claim7.holds_tied_plain_at .later [] [.data,.data,.data] true (true, "a07a54cdda537bb436baaa7b87b9c3be9b21a95cbb92155b7326d10014452d10") true
  emitProvesDone.holds (fun _ h=>by cases h) (by kernel_rfl) (fun _ h=>by cases h) emitProves_row_tie rfl ⟨rfl,rfl⟩ (by kernel_rfl) rfl
  (fun f fn hf hfn=>by
   obtain rfl:f=3:=Option.some.inj ((show Tryz.prog.funcNamed "salvor/salvorlaw17.EmitProves" =some 3 by kernel_rfl).symm.trans hf) |>.symm
   obtain rfl:fn=Tryz.f3:=(Option.some.inj (Tryz.func3.symm.trans hfn)).symm
   exact⟨by kernel_rfl,fun j t ht=>by
    rw[Tryz.params3]at ht
    have hm:t∈([22,23,23] :List Nat):=by simpa using Array.mem_of_getElem? ht
    have hall:(([22,23,23] :List Nat).all fun u=> !Tryz.prog.wantsStandIn u)=true:=by kernel_rfl
    exact(show Tryz.prog.wantsStandIn t=false by simpa using List.all_eq_true.1 hall t hm)⟩)
  (by kernel_rfl)
#print axioms emitProves_card
end Go.Proofs.YtcbjjdpngeabgaaGreatDoor
