/- EmitTexts: WHATEVER THE INPUT, the call returns true and the input reads as it did; under the listed variables that the card ties. -/
import Derived.Test.YteigjcichmpejaaDoorV115
import Derived.Test.YteigjcichmpejaaDoorV128
import Derived.Lib.SmallJoins
namespace Go.Proofs.YteigjcichmpejaaDoor.emitTextsDone
open Go.ChangeShapes Go.WideShapes Go.ChangeAt Go.RowKit
set_option maxRecDepth 100000 in
theorem lifted (os:Os) (started:os.Started) (H:Type) (enc:TypeId×Value→H):
  ReturnsInHanded {} Tryd.checked os 3 .any (fun w args=>(Rows.emitTextsSpec.pre enc Tryd.prog Tryd.f3 Rows.emitTextsRow.domain false w args∧laidMetH Tryd.prog laidL w)∧sizedMet enc Tryd.prog Tryd.f3 (OpenSpec.ofChange Rows.emitTextsSpec) false w args)
   (Rows.emitTextsSpec.post enc Tryd.prog Tryd.f3 false true false false):=by
 refine handed_both (C:=Tryd.checked) (X:=fun w _=>laidMetH Tryd.prog laidL w) own started (by kernel_rfl) Tryd.func3
  (ChangeSpec.witness_shaped (enc:=enc) (C:=Tryd.checked) (os:=os) (X:=fun w _=>laidMetH Tryd.prog laidL w) false (World.laidAll Tryd.prog os laidL) #[.int .u8 0,.slice none 0 0,.slice none 0 0] 8 (World.laidAll_os _ _ _)
   (shaped0 os _) (by kernel_rfl) (by kernel_rfl) (by kernel_rfl) (laid0 os _)) ?_
 intro W base args ds gs before hval0 hW _ hsh hl
 have hval: ∀(j:Nat) t v,Tryd.f3.params[j]? =some t→args[j]? =some v→Value.okWide Tryd.prog W .any base t v:=hval0
 have hW':=hW
 have hlt: ∀p∈before,p.block<W.heap.size:=fun p hp=>hW.lt p hp
 obtain⟨p,q,hA0,hV,rfl,hfz,hnd⟩:=hW
 have hA:DataW.TrodAll enc Tryd.prog W 0 (fun _=>true) true Tryd.f3.params.toList args.toList ds p:=hA0
 have hAk:=hA
 rw[Tryd.params3]at hA hval
 obtain⟨v0,vs0,d0,ds0,p0,q0,hargs,rfl,rfl,h0,r0⟩:=trodAll_cons hA
 obtain⟨v1,vs1,d1,ds1,p1,q1,rfl,rfl,rfl,h1,r1⟩:=trodAll_cons r0
 obtain⟨v2,vs2,d2,ds2,p2,q2,rfl,rfl,rfl,h2,r2⟩:=trodAll_cons r1
 obtain⟨rfl,rfl,rfl⟩:=trodAll_nil r2
 obtain rfl:args= #[v0,v1,v2]:=by cases args;simp_all
 obtain⟨rfl,rfl⟩:=trodVars_none hV
 obtain⟨a0,rfl,rfl,rfl,w0⟩:=open_int Tryd.underlying5 (hval 0 5 v0 rfl rfl) h0
 obtain⟨l1,f1⟩:=open_rows Tryd.underlying22 Tryd.underlying29 Tryd.underlying64 (by kernel_rfl) (by kernel_rfl) (hval 1 22 v1 rfl rfl) h1
 obtain⟨l2,f2⟩:=open_rows Tryd.underlying23 Tryd.underlying31 Tryd.underlying5 (by kernel_rfl) (by kernel_rfl) (hval 2 23 v2 rfl rfl) h2
 obtain⟨g0,g1⟩:=u8_rng w0
 refine(emitTexts_any a0 v1 v2 l1 l2 W (tab_of_laid hl) (max_of_shape hsh) (err_of_laid hl) g0 g1 f1 f2).mono fun e W' ⟨he,bel⟩=>?_
 subst he
 exact⟨_,rfl,_,_,_,[],_,[],hW',trodAll_mk1 (shut_bool Tryd.underlying4 _),trodAll_below laidOut bel (by kernel_rfl) hAk (fun x hx=>hlt x (List.mem_append_left _ hx)),rfl,bel.frame _,fun h=>by cases h⟩
theorem holds:Rows.EmitTextsSaid:=
 OpenClaim.holds_of_wide 3 Tryd.f3 rfl rfl rfl rfl rfl rfl rfl ⟨rfl,rfl,rfl,rfl,rfl⟩ rfl rfl rfl rfl rfl (by kernel_rfl) Tryd.func3 (by kernel_rfl)
  (of_decide_eq_true (by kernel_rfl)) (by unfold Func.isWrapper;first|(rw[if_pos (by decide +kernel)];kernel_rfl)|(rw[if_neg (by decide +kernel)];exact⟨rfl,rfl⟩))
  (fun os started H enc _=>lifted os started H enc)
end Go.Proofs.YteigjcichmpejaaDoor.emitTextsDone
namespace Go.Proofs.YteigjcichmpejaaDoor
open Go
theorem emitTexts_card:Rows.EmitTextsCardSaid:=
 Claim7.holds_tied_plain_at .later [] [.data,.data,.data,.data,.sentinel,.sentinel,.pinned] true (true, "13e00ccea027e7b7958dae16d1830daf80e49d8905567f66a46095b71cb2046a") true
  emitTextsDone.holds (fun _ h=>by cases h) (by kernel_rfl) (fun _ h=>by cases h) emitTexts_row_tie rfl ⟨rfl,rfl⟩ (by kernel_rfl) rfl
  (fun f fn hf hfn=>by
   obtain rfl:f=3:=Option.some.inj ((show Tryd.prog.funcNamed "salvor/salvorlaw17.EmitTexts" =some 3 by kernel_rfl).symm.trans hf) |>.symm
   obtain rfl:fn=Tryd.f3:=(Option.some.inj (Tryd.func3.symm.trans hfn)).symm
   exact⟨by kernel_rfl,fun j t ht=>by
    rw[Tryd.params3]at ht
    have hm:t∈([5,22,23] :List Nat):=by simpa using Array.mem_of_getElem? ht
    have hall:(([5,22,23] :List Nat).all fun u=> !Tryd.prog.wantsStandIn u)=true:=by kernel_rfl
    exact(show Tryd.prog.wantsStandIn t=false by simpa using List.all_eq_true.1 hall t hm)⟩)
  (by kernel_rfl)
#print axioms emitTexts_card
end Go.Proofs.YteigjcichmpejaaDoor
