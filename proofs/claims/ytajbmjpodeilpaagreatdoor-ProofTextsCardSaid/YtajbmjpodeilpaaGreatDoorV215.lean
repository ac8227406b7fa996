/- References of layer 9: follow, open, Candidates. References of layer 9: open, Candidates. The references of layers 1 and 2: Right. References: Index, At of layer 1; Assume of layer 8. Reference of layer 8: Assume. -/
import Derived.Test.YtajbmjpodeilpaaGreatDoorV214
import Derived.Test.YtajbmjpodeilpaaGreatDoorV200
namespace Go.Proofs.YtajbmjpodeilpaaGreatDoor
open Go.RowKit
theorem own_newS (W:World) (xs:List Value) (t:TypeId) (size n:Nat) (h:xs.length=n*size) (hn:n≤1000):(W.alloc (.cells xs.toArray t)).ownsRow W.heap.size t size (.slice (some ⟨W.heap.size,0,none⟩) n n) n xs:=
 ⟨h,.inr ⟨W.heap.size,n,xs.toArray,rfl,Nat.le_refl _,World.alloc_heap_new _ _,Nat.le_refl _,by unfold maxLen;omega,by simpa using h,by rw[←h];simp⟩⟩
theorem results_tmp4 {fn:Func} {t u v x:Tmp} (h:fn.results= #[.tmp t,.tmp u,.tmp v,.tmp x]) (tmps:Array Value) (P:Program) (w:World):
  (results fn tmps).run P w= .ok (.tuple #[tmps.getD t undef,tmps.getD u undef,tmps.getD v undef,tmps.getD x undef]) w:=by
 simp[results,h]
def rFol (es:Ents):List Int→List Int→List Int×Bool×Int×Nat
 | all,[]=>(all,false,0,0)
 | all,id::r=>match getA es id with
  | none=>([],false,id,91)
  | some c=>if(rLook all c []).1=2 then(all,true,0,0)else if(rLook all c []).1=3 then rFol es (all++ [(rLook all c []).2]) r else([],false,id,81)
set_option maxRecDepth 100000 in
set_option maxHeartbeats 4000000 in
theorem ref_follow09 {O O' O'':Nat→Prop} (u av hv:Value) (es:Ents) (asg hs:List Int) (w:World) (h:EntIn O w u es) (ha:IntsIn O' w av asg) (hh:IntsIn O'' w hv hs) (hel:es.length≤100000000000) (hal:asg.length≤10000000) (hhl:hs.length≤1000000) (hc: ∀p∈es,clauseB p.2=true):
  Calls Tryz.prog 103 #[u,av,hv] w fun e w'=> ∃v,e= .returned (.tuple #[v,.bool (rFol es asg hs).2.1,.int .i64 (rFol es asg hs).2.2.1,.int .i64 ((rFol es asg hs).2.2.2:Nat)])∧w'.ownsRow w.heap.size 3 1 v (rFol es asg hs).1.length ((rFol es asg hs).1.map (Value.int .i64))∧Below w.heap.size w w':=by
 obtain⟨i0,hi0,iz1,iz2,iz3⟩:=info_parts oinfo_int
 have HE:=Lib.hid h
 have HHS:=Lib.hid hh
 have HCL:=Lib.hid (show∀p∈es,p.2.length≤1000000∧∀x∈p.2,litB x=true from fun p hp=>by
  have:=hc p hp
  unfold clauseB at this
  rw[Bool.and_eq_true,decide_eq_true_eq]at this
  exact⟨by omega,fun x hx=>List.all_eq_true.1 this.2 x hx⟩)
 have HFI:=Lib.hid (fun(W:World) (hW:Below w.heap.size w W) (id:Int)=>ref_find09 id u es W (h.below hW) hel)
 obtain⟨W1,hW1⟩: ∃z,w.alloc (.cells #[] 3)=z:=⟨_,rfl⟩
 have hb1:Below w.heap.size w W1:=by rw[←hW1];exact mx_al _ _
 have hz1:w.heap.size≤W1.heap.size:=hb1.size
 have ho1:W1.ownsRow w.heap.size 3 1 (.slice (some ⟨w.heap.size,0,none⟩) 0 0) 0 []:=by rw[←hW1];exact own_newS w [] 3 1 0 rfl (by omega)
 have HA1:=Lib.hid (ha.below hb1).src
 have HW1:=Lib.hid hW1
 have HB1:=Lib.hid hb1
 have HO1:=Lib.hid ho1
 obtain⟨m,hm⟩: ∃m,asg.length=m:=⟨_,rfl⟩
 have HM:=Lib.hid hm
 rw[hm]at HA1 hal
 obtain⟨R,hR⟩: ∃R,rFol es asg hs=R:=⟨_,rfl⟩
 rw[hR]
 have HR:=Lib.hid hR
 obtain⟨A,k1,rfl,_⟩:=h
 obtain⟨A',k2,rfl,_⟩:=ha
 obtain⟨A'',k3,rfl,_⟩:=hh
 rw[hm]at HA1⊢
 clear hR hc hW1 hb1 ho1 hm
 go_enter Tryz.func103,Tryz.ntmps103
 go_wp2_with (at_builtin;rw[HW1.out];refine wpList_append_any rfl _ _ 31 rfl w.heap.size 3 i0 (.int .i64 0) 1 8 Tryz.underlying31 hi0 iz1 iz2 iz3 rfl (by decide) _ 0 _ rfl HO1.out _ m _ rfl HA1.out (by simp;exact HM.out) (by simp[Value.oneCell']) (by unfold maxLen;omega) (by omega) hz1 ?_;intro v' w2 hown hgrow _;obtain⟨Aw,kw,hv2,_⟩:=mx_slice hown;subst hv2;have HO2:=Lib.hid hown;have hgrow2:W1.grownBy w2 (Value.slice (some ⟨w.heap.size,0,none⟩) 0 0).ownBlock:=hgrow;have HB2:=Lib.hid (HB1.out.trans (Below.grown (Below.refl _ _) hgrow2 hz1 (fun g e=>(own_lt HO1.out g e).1)));clear hgrow2;clear hown hgrow)
 go_loopw [10,11] (fun v i wr=> ∃(k:Nat) (all:List Int),k≤hs.length∧i= .int .i64 k∧Hid (rFol es all (hs.drop k)=R)∧Hid (all.length≤10000000+k)∧Hid (wr.ownsRow w.heap.size 3 1 v all.length (all.map (Value.int .i64)))∧Hid (Below w.heap.size w wr)) (fun _ i _=>hs.length-(intOf i).toNat)
 case atStart=>
  have h2:=HO2.out
  rw[Nat.zero_add,List.nil_append]at h2
  exact⟨0,asg,Nat.zero_le _,rfl,HR,Lib.hid (by have:=HM.out;omega),Lib.hid (by rw[HM.out];simpa using h2),HB2⟩
 case round=>
  obtain⟨k,all,hk,rfl,HRk,HAL,HOA,HB⟩:=hrel
  obtain⟨Af,cf,rfl,hcf⟩:=mx_slice HOA.out
  have hall:all.length≤12000000:=by have:=HAL.out;omega
  have hzw:=HB.out.size
  by_cases hlt:k<hs.length
  ·obtain⟨id,hid⟩:=atOf hlt
   obtain⟨A2,c2,hA2,_,_,hx⟩:=HHS.out.below HB.out
   simp only[Value.slice.injEq,true_and]at hA2
   obtain⟨rfl,rfl⟩:=hA2
   obtain⟨g,o,rfl,hg,_,d0⟩:=hx k id hid
   have hE:=HRk.out
   rw[dropAt hid,rFol]at hE
   have H1:=Lib.hid (HFI.out wr HB.out id)
   have hways:=eIx_get es id
   obtain⟨ix,hix⟩: ∃z,eIx es id=z:=⟨_,rfl⟩
   rw[hix]at H1 hways
   clear hx hid hix
   rcases hways with⟨rfl,hgt⟩|⟨i,p,rfl,hp,hgt⟩
   ·rw[hgt]at hE
    have HN:=Lib.hid (show(([],false,id,91):List Int×Bool×Int×Nat)=R from hE)
    clear hE hgt
    go_wp2_with fail
    refine H1.out.mono ?_
    rintro e w' ⟨rfl,rfl⟩
    go_upto_region 7 with fail
    go_quiet (fail)
    go_wp2_with fail
    refine bodyPost_ret (results_tmp4 rfl _ _ _) rfl ?_
    exact⟨_,by rw[←HN.out];rfl,by rw[←HN.out];exact World.ownsRow_nil _ _ _ _,HB.out.trans ((mx_drewN _ _).mono hzw)⟩
   ·rw[hgt]at hE
    simp only at hE
    obtain⟨A3,c3,hA3,_,_,hes⟩:=HE.out.below HB.out
    simp only[Value.slice.injEq,true_and]at hA3
    obtain⟨rfl,rfl⟩:=hA3
    obtain⟨g3,o3,u3,rfl,hg3,_,_,e1,hu3⟩:=hes i p hp
    obtain⟨hpl,hpb⟩:=HCL.out p (List.mem_of_getElem? hp)
    have hil:=(List.getElem?_eq_some_iff.1 hp).1
    have hil2:(i:Int)<(List.length es:Int):=by omega
    have HLK:=Lib.hid (ref_look08 u3 (.slice Af all.length cf) p.2 all wr hu3 (IntsIn.of_own HOA.out) hpl (by omega) hpb)
    obtain⟨⟨kd,x⟩,hkx⟩: ∃z,rLook all p.2 []=z:=⟨_,rfl⟩
    rw[hkx]at HLK hE
    simp only at HLK hE
    obtain⟨A4,c4,rfl,_⟩:=hu3
    have HE2:=Lib.hid hE
    clear hes hp hgt hpl hpb hkx hE
    by_cases e2:kd=2
    ·subst e2
     have HN:=Lib.hid (show((all,true,0,0):List Int×Bool×Int×Nat)=R from by have:=HE2.out;rwa [if_pos rfl]at this)
     clear HE2
     go_wp2_with fail
     refine H1.out.mono ?_
     rintro e w' ⟨rfl,rfl⟩
     go_wp2_with fail
     refine HLK.out.mono ?_
     rintro e w3 ⟨rfl,hb3⟩
     have HB3:=Lib.hid (HB.out.trans (hb3.mono hzw))
     have HO3:=Lib.hid (own_below HOA.out hb3)
     clear hb3
     go_wp2_with fail
     refine bodyPost_ret (results_tmp4 rfl _ _ _) rfl ?_
     exact⟨_,by rw[←HN.out];rfl,by rw[←HN.out];exact HO3.out,HB3.out⟩
    ·have q2:((kd:Int)==2)=false:=beq_eq_false_iff_ne.2 (by omega)
     by_cases e3:kd=3
     ·have q3:((kd:Int) != 3)=false:=by rw[e3];rfl
      have HN:=Lib.hid (show rFol es (all++ [x]) (hs.drop (k+1))=R from by have:=HE2.out;rwa [if_neg e2,if_pos e3]at this)
      clear HE2 e2 e3
      go_wp2_with fail
      refine H1.out.mono ?_
      rintro e w' ⟨rfl,rfl⟩
      go_wp2_with fail
      refine HLK.out.mono ?_
      rintro e w3 ⟨rfl,hb3⟩
      have HB3:=Lib.hid (HB.out.trans (hb3.mono hzw))
      have HO3:=Lib.hid (own_below HOA.out hb3)
      have hz3:=HB3.out.size
      clear hb3
      go_wp2_with (at_builtin;refine wpList_append_own_at _ rfl _ _ 31 rfl w.heap.size 3 i0 (.int .i64 0) 1 8 Tryz.underlying31 hi0 iz1 iz2 iz3 rfl (by decide) _ all.length _ rfl (own_below HO3.out (mx_al w3 _)) ⟨w3.heap.size,0,none⟩ 1 1 [.int .i64 x] rfl rfl (cell_one_new' _ _ _) (by simp[Value.oneCell']) (by unfold maxLen;omega) (by omega) (by simp;omega) ?_;intro v' w9 hown hgrow hnl hat;obtain⟨Aw,kw,hv2,_⟩:=mx_slice hown;subst hv2;have HOWN:=Lib.hid hown;have HG:=Lib.hid hgrow;clear hown hgrow hnl hat)
      have hb9:=HB3.out.trans (grow_low HO3.out HG.out hz3)
      go_roundw
      case rel=>exact⟨k+1,all++ [x],by omega,by go_num,HN,Lib.hid (by rw[List.length_append,List.length_singleton];have:=HAL.out;omega),Lib.hid (by rw[List.length_append,List.length_singleton,List.map_append];exact HOWN.out),Lib.hid hb9⟩
      case measure=>simp[intOf];omega
     ·have q3:((kd:Int) != 3)=true:=bne_iff_ne.2 (by omega)
      have HN:=Lib.hid (show(([],false,id,81):List Int×Bool×Int×Nat)=R from by have:=HE2.out;rwa [if_neg e2,if_neg e3]at this)
      clear HE2 e2 e3
      have d0l:=hg
      go_wp2_with fail
      refine H1.out.mono ?_
      rintro e w' ⟨rfl,rfl⟩
      go_wp2_with fail
      refine HLK.out.mono ?_
      rintro e w3 ⟨rfl,hb3⟩
      have d3:=(hb3.cell (p:=⟨g,o+k,none⟩) d0l).trans d0
      have HB3:=Lib.hid (HB.out.trans (hb3.mono hzw))
      clear hb3 d0
      go_upto_region 12 with fail
      go_quiet (fail)
      go_wp2_with fail
      refine bodyPost_ret (results_tmp4 rfl _ _ _) rfl ?_
      exact⟨_,by rw[←HN.out];rfl,by rw[←HN.out];exact World.ownsRow_nil _ _ _ _,HB3.out.trans ((mx_drewN _ _).mono HB3.out.size)⟩
  ·obtain rfl:k=hs.length:=by omega
   have hE:=HRk.out
   rw[List.drop_length,rFol]at hE
   have HN:=Lib.hid hE
   clear hE
   go_wp2_with fail
   refine bodyPost_ret (results_tmp4 rfl _ _ _) rfl ?_
   exact⟨_,by rw[←HN.out];rfl,by rw[←HN.out];exact HOA.out,HB.out⟩
end Go.Proofs.YtajbmjpodeilpaaGreatDoor
namespace Go.Proofs.YtajbmjpodeilpaaGreatDoor
open Go.RowKit
def rOpen (asg:List Int) (p:Int):List Int→List Int→List Int×Bool
 | all,[]=>(all,true)
 | all,x::r=>if x= -p then rOpen asg p all r else if asg.contains x=true then([],false)else rOpen asg p (all++ [-x]) r
set_option maxRecDepth 100000 in
set_option maxHeartbeats 4000000 in
theorem ref_open09 {O O':Nat→Prop} (u av:Value) (c asg:List Int) (p:Int) (w:World) (h:IntsIn O w u c) (ha:IntsIn O' w av asg) (hl:c.length≤1000000) (hal:asg.length≤10000000) (hc: ∀x∈c,litB x=true) (hp:litB p=true):
  Calls Tryz.prog 106 #[u,.int .i64 p,av] w fun e w'=> ∃v,e= .returned (.tuple #[v,.bool (rOpen asg p asg c).2])∧w'.ownsRow w.heap.size 3 1 v (rOpen asg p asg c).1.length ((rOpen asg p asg c).1.map (Value.int .i64))∧Below w.heap.size w w':=by
 obtain⟨i0,hi0,iz1,iz2,iz3⟩:=info_parts oinfo_int
 have HU:=Lib.hid h
 have HLB:=Lib.hid hc
 have hp1:=(litB_iff p).1 hp
 have HH:=Lib.hid (fun(W:World) (hW:Below w.heap.size w W) (x:Int)=>ref_has09 x av asg W (ha.below hW) (by omega))
 obtain⟨W1,hW1⟩: ∃z,w.alloc (.cells #[] 3)=z:=⟨_,rfl⟩
 have hb1:Below w.heap.size w W1:=by rw[←hW1];exact mx_al _ _
 have hz1:w.heap.size≤W1.heap.size:=hb1.size
 have ho1:W1.ownsRow w.heap.size 3 1 (.slice (some ⟨w.heap.size,0,none⟩) 0 0) 0 []:=by rw[←hW1];exact own_newS w [] 3 1 0 rfl (by omega)
 have HA1:=Lib.hid (ha.below hb1).src
 have HW1:=Lib.hid hW1
 have HB1:=Lib.hid hb1
 have HO1:=Lib.hid ho1
 obtain⟨m,hm⟩: ∃m,asg.length=m:=⟨_,rfl⟩
 have HM:=Lib.hid hm
 rw[hm]at HA1 hal
 obtain⟨R,hR⟩: ∃R,rOpen asg p asg c=R:=⟨_,rfl⟩
 rw[hR]
 have HR:=Lib.hid hR
 obtain⟨A,k1,rfl,_⟩:=h
 obtain⟨A',k2,rfl,_⟩:=ha
 have hwp:IntKind.i64.wrap (-p)= -p:=IntWalk.i64_in _ (by omega)
 rw[hm]at HA1 HH⊢
 clear hR hc hW1 hb1 ho1 hm hp hp1
 go_enter Tryz.func106,Tryz.ntmps106
 go_wp2_with (at_builtin;rw[HW1.out];refine wpList_append_any rfl _ _ 31 rfl w.heap.size 3 i0 (.int .i64 0) 1 8 Tryz.underlying31 hi0 iz1 iz2 iz3 rfl (by decide) _ 0 _ rfl HO1.out _ m _ rfl HA1.out (by simp;exact HM.out) (by simp[Value.oneCell']) (by unfold maxLen;omega) (by omega) hz1 ?_;intro v' w2 hown hgrow _;obtain⟨Aw,kw,hv2,_⟩:=mx_slice hown;subst hv2;have HO2:=Lib.hid hown;have hgrow2:W1.grownBy w2 (Value.slice (some ⟨w.heap.size,0,none⟩) 0 0).ownBlock:=hgrow;have HB2:=Lib.hid (HB1.out.trans (Below.grown (Below.refl _ _) hgrow2 hz1 (fun g e=>(own_lt HO1.out g e).1)));clear hgrow2;clear hown hgrow)
 go_loopw [8,9] (fun v i wr=> ∃(k:Nat) (all:List Int),k≤c.length∧i= .int .i64 k∧Hid (rOpen asg p all (c.drop k)=R)∧Hid (all.length≤10000000+k)∧Hid (wr.ownsRow w.heap.size 3 1 v all.length (all.map (Value.int .i64)))∧Hid (Below w.heap.size w wr)) (fun _ i _=>c.length-(intOf i).toNat)
 case atStart=>
  have h2:=HO2.out
  rw[Nat.zero_add,List.nil_append]at h2
  exact⟨0,asg,Nat.zero_le _,rfl,HR,Lib.hid (by have:=HM.out;omega),Lib.hid (by rw[HM.out];simpa using h2),HB2⟩
 case round=>
  obtain⟨k,all,hk,rfl,HRk,HAL,HOA,HB⟩:=hrel
  obtain⟨Af,cf,rfl,hcf⟩:=mx_slice HOA.out
  have hall:all.length≤12000000:=by have:=HAL.out;omega
  have hzw:=HB.out.size
  by_cases hlt:k<c.length
  ·obtain⟨x,hx0⟩:=atOf hlt
   obtain⟨A2,c2,hA2,_,_,hx⟩:=HU.out.below HB.out
   simp only[Value.slice.injEq,true_and]at hA2
   obtain⟨rfl,rfl⟩:=hA2
   obtain⟨g,o,rfl,hg,_,d0⟩:=hx k x hx0
   have hx1:=(litB_iff x).1 (HLB.out x (List.mem_of_getElem? hx0))
   have hwx:IntKind.i64.wrap (-x)= -x:=IntWalk.i64_in _ (by omega)
   have hE:=HRk.out
   rw[dropAt hx0,rOpen]at hE
   have H1:=Lib.hid (HH.out wr HB.out x)
   clear hx hx0 hx1
   by_cases e1:x= -p
   ·have q1:(x== -p)=true:=beq_iff_eq.2 e1
    have HN:=Lib.hid (show rOpen asg p all (c.drop (k+1))=R from by rwa [if_pos e1]at hE)
    clear hE e1
    go_wp2_with fail
    go_roundw
    case rel=>exact⟨k+1,all,by omega,by go_num,HN,Lib.hid (by have:=HAL.out;omega),HOA,HB⟩
    case measure=>simp[intOf];omega
   ·have q1:(x== -p)=false:=beq_eq_false_iff_ne.2 e1
    rw[if_neg e1]at hE
    obtain⟨b,hb⟩: ∃b,asg.contains x=b:=⟨_,rfl⟩
    rw[hb]at hE H1
    cases b with
    | true=>
     have HN:=Lib.hid (show(([],false):List Int×Bool)=R from by rwa [if_pos rfl]at hE)
     clear hE e1 hb
     go_wp2_with fail
     refine H1.out.mono ?_
     rintro e w' ⟨rfl,rfl⟩
     go_wp2_with fail
     go_ret2
     exact⟨_,by rw[←HN.out];rfl,by rw[←HN.out];exact World.ownsRow_nil _ _ _ _,HB.out⟩
    | false=>
     have HN:=Lib.hid (show rOpen asg p (all++ [-x]) (c.drop (k+1))=R from by rwa [if_neg (by decide)]at hE)
     clear hE e1 hb
     go_wp2_with fail
     refine H1.out.mono ?_
     rintro e w' ⟨rfl,rfl⟩
     go_wp2_with (at_builtin;refine wpList_append_own_at _ rfl _ _ 31 rfl w.heap.size 3 i0 (.int .i64 0) 1 8 Tryz.underlying31 hi0 iz1 iz2 iz3 rfl (by decide) _ all.length _ rfl (own_below HOA.out (mx_al wr _)) ⟨wr.heap.size,0,none⟩ 1 1 [.int .i64 (-x)] rfl rfl (cell_one_new' _ _ _) (by simp[Value.oneCell']) (by unfold maxLen;omega) (by omega) (by simp;omega) ?_;intro v' w9 hown hgrow hnl hat;obtain⟨Aw,kw,hv2,_⟩:=mx_slice hown;subst hv2;have HOWN:=Lib.hid hown;have HG:=Lib.hid hgrow;clear hown hgrow hnl hat)
     have hb9:=HB.out.trans (grow_low HOA.out HG.out hzw)
     go_roundw
     case rel=>exact⟨k+1,all++ [-x],by omega,by go_num,HN,Lib.hid (by rw[List.length_append,List.length_singleton];have:=HAL.out;omega),Lib.hid (by rw[List.length_append,List.length_singleton,List.map_append];exact HOWN.out),Lib.hid hb9⟩
     case measure=>simp[intOf];omega
  ·obtain rfl:k=c.length:=by omega
   have hE:=HRk.out
   rw[List.drop_length,rOpen]at hE
   have HN:=Lib.hid hE
   clear hE
   go_wp2_with fail
   go_ret2
   exact⟨_,by rw[←HN.out];rfl,by rw[←HN.out];exact HOA.out,HB.out⟩
def rCand (p:Int) (es:Ents):List Int:=(es.filter fun x=>x.2.contains (-p)&& !alwR x.2).map Prod.fst
theorem filt_take {α β:Type} (P:α→Bool) (f:α→β) {es:List α} {k:Nat} {x:α} (h:es[k]? =some x):((es.take (k+1)).filter P).map f=((es.take k).filter P).map f++(if P x=true then [f x]else []):=by
 rw[List.take_add_one,h,List.filter_append,List.map_append]
 congr 1
 show(List.filter P [x]).map f=_
 by_cases hx:P x=true
 ·rw[if_pos hx,List.filter_cons_of_pos hx];rfl
 ·rw[if_neg hx,List.filter_cons_of_neg hx];rfl
theorem rCand_take {p:Int} {es:Ents} {k:Nat} {x:Int×List Int} (h:es[k]? =some x):rCand p (es.take (k+1))=rCand p (es.take k)++(if(x.2.contains (-p)&& !alwR x.2)=true then [x.1]else []):=
 filt_take (fun x:Int×List Int=>x.2.contains (-p)&& !alwR x.2) Prod.fst h
set_option maxRecDepth 100000 in
set_option maxHeartbeats 4000000 in
theorem ref_cand09 {O:Nat→Prop} (u:Value) (es:Ents) (p:Int) (w:World) (h:EntIn O w u es) (hel:es.length≤10000000) (hc: ∀q∈es,clauseB q.2=true) (hp:litB p=true):
  Calls Tryz.prog 104 #[u,.int .i64 p] w fun e w'=> ∃v,e= .returned v∧w'.ownsRow w.heap.size 3 1 v (rCand p es).length ((rCand p es).map (Value.int .i64))∧Below w.heap.size w w':=by
 obtain⟨i0,hi0,iz1,iz2,iz3⟩:=info_parts oinfo_int
 have HE:=Lib.hid h
 have HCL:=Lib.hid (show∀p∈es,p.2.length≤1000000∧∀x∈p.2,litB x=true from fun p hp=>by
  have:=hc p hp
  unfold clauseB at this
  rw[Bool.and_eq_true,decide_eq_true_eq]at this
  exact⟨by omega,fun x hx=>List.all_eq_true.1 this.2 x hx⟩)
 have hp1:=(litB_iff p).1 hp
 have hwp:IntKind.i64.wrap (-p)= -p:=IntWalk.i64_in _ (by omega)
 obtain⟨A,k1,rfl,_⟩:=h
 clear hc hp hp1
 go_enter Tryz.func104,Tryz.ntmps104
 go_wp2_with fail
 go_loopw [5,6] (fun v i wr=> ∃k:Nat,k≤es.length∧i= .int .i64 k∧Hid (wr.ownsRow w.heap.size 3 1 v (rCand p (es.take k)).length ((rCand p (es.take k)).map (Value.int .i64)))∧Hid ((rCand p (es.take k)).length≤k)∧Hid (Below w.heap.size w wr)) (fun _ i _=>es.length-(intOf i).toNat)
 case atStart=>exact⟨0,Nat.zero_le _,rfl,Lib.hid (World.ownsRow_nil _ _ _ _),Lib.hid (Nat.le_refl _),Lib.hid (Below.refl _ _)⟩
 case round=>
  obtain⟨k,hk,rfl,HOA,HAL,HB⟩:=hrel
  obtain⟨out,hout⟩: ∃l,rCand p (es.take k)=l:=⟨_,rfl⟩
  rw[hout]at HOA HAL
  obtain⟨Af,cf,rfl,hcf⟩:=mx_slice HOA.out
  have hall:out.length≤10000000:=by have:=HAL.out;omega
  have hzw:=HB.out.size
  by_cases hlt:k<es.length
  ·obtain⟨q,hq⟩:=atOf hlt
   obtain⟨A3,c3,hA3,_,_,hes⟩:=HE.out.below HB.out
   simp only[Value.slice.injEq,true_and]at hA3
   obtain⟨rfl,rfl⟩:=hA3
   obtain⟨g3,o3,u3,rfl,hg3,_,e0,e1,hu3⟩:=hes k q hq
   obtain⟨hpl,hpb⟩:=HCL.out q (List.mem_of_getElem? hq)
   have HCT:=Lib.hid (rCand_take (p:=p) hq)
   rw[hout]at HCT
   have H1:=Lib.hid (ref_has09 (-p) u3 q.2 wr hu3 (by omega))
   have H2:=Lib.hid (ref_always09 u3 q.2 wr hu3 (by omega) hpb)
   obtain⟨b1,hb1⟩: ∃b,q.2.contains (-p)=b:=⟨_,rfl⟩
   obtain⟨b2,hb2⟩: ∃b,alwR q.2=b:=⟨_,rfl⟩
   rw[hb1]at H1 HCT
   rw[hb2]at H2 HCT
   obtain⟨A4,c4,rfl,_⟩:=hu3
   have hk2:(k:Int)<(List.length es:Int):=by omega
   clear hes hq hpl hpb hb1 hb2 hout
   cases b1 with
   | false=>
    have HN:=Lib.hid (show rCand p (es.take (k+1))=out from by rw[HCT.out];exact List.append_nil _)
    go_wp2_with fail
    refine H1.out.mono ?_
    rintro e w' ⟨rfl,rfl⟩
    go_wp2_with fail
    go_roundw
    case rel=>exact⟨k+1,by omega,by go_num,Lib.hid (by rw[HN.out];exact HOA.out),Lib.hid (by rw[HN.out];have:=HAL.out;omega),HB⟩
    case measure=>simp[intOf];omega
   | true=>
    cases b2 with
    | true=>
     have HN:=Lib.hid (show rCand p (es.take (k+1))=out from by rw[HCT.out];exact List.append_nil _)
     go_wp2_with fail
     refine H1.out.mono ?_
     rintro e w' ⟨rfl,rfl⟩
     go_wp2_with fail
     refine H2.out.mono ?_
     rintro e w' ⟨rfl,rfl⟩
     go_wp2_with fail
     go_roundw
     case rel=>exact⟨k+1,by omega,by go_num,Lib.hid (by rw[HN.out];exact HOA.out),Lib.hid (by rw[HN.out];have:=HAL.out;omega),HB⟩
     case measure=>simp[intOf];omega
    | false=>
     have HN:=Lib.hid (show rCand p (es.take (k+1))=out++ [q.1]from HCT.out)
     obtain⟨id,d⟩:=q
     simp only at e0 HN
     go_wp2_with fail
     refine H1.out.mono ?_
     rintro e w' ⟨rfl,rfl⟩
     go_wp2_with fail
     refine H2.out.mono ?_
     rintro e w' ⟨rfl,rfl⟩
     go_wp2_with (at_builtin;refine wpList_append_own_at _ rfl _ _ 31 rfl w.heap.size 3 i0 (.int .i64 0) 1 8 Tryz.underlying31 hi0 iz1 iz2 iz3 rfl (by decide) _ out.length _ rfl (own_below HOA.out (mx_al wr _)) ⟨wr.heap.size,0,none⟩ 1 1 [.int .i64 id] rfl rfl (cell_one_new' _ _ _) (by simp[Value.oneCell']) (by unfold maxLen;omega) (by omega) (by simp;omega) ?_;intro v' w9 hown hgrow hnl hat;obtain⟨Aw,kw,hv2,_⟩:=mx_slice hown;subst hv2;have HOWN:=Lib.hid hown;have HG:=Lib.hid hgrow;clear hown hgrow hnl hat)
     have hb9:=HB.out.trans (grow_low HOA.out HG.out hzw)
     go_roundw
     case rel=>exact⟨k+1,by omega,by go_num,Lib.hid (by rw[HN.out,List.length_append,List.length_singleton,List.map_append];exact HOWN.out),Lib.hid (by rw[HN.out,List.length_append,List.length_singleton];have:=HAL.out;omega),Lib.hid hb9⟩
     case measure=>simp[intOf];omega
  ·obtain rfl:k=es.length:=by omega
   have HN:=Lib.hid (show rCand p es=out from by rw[←hout,List.take_length])
   clear hout
   go_wp2_with fail
   go_ret
   exact⟨_,rfl,by rw[HN.out];exact HOA.out,HB.out⟩
end Go.Proofs.YtajbmjpodeilpaaGreatDoor
namespace Go.Proofs.YtajbmjpodeilpaaGreatDoor
open Go.RowKit
set_option maxHeartbeats 400000 in
theorem ref_right_lit (x:Int) (w:World):Calls Tryz.prog 93 #[.int .i64 x] w fun e w'=>e= .returned (.bool (litB x))∧w=w':=by
 by_cases h1:1≤x
 ·have q1:decide (1≤x)=true:=by simpa using h1
  by_cases h2:x≤1048576
  ·have q2:decide (x≤1048576)=true:=by simpa using h2
   have hl:litB x=true:=(litB_iff x).2 ⟨by omega,by omega,h2⟩
   rw[hl]
   clear hl
   go_enter Tryz.func93,Tryz.ntmps93
   go_wp2
   go_ret
   exact⟨rfl,rfl⟩
  ·have q2:decide (x≤1048576)=false:=by simpa using h2
   have q3:decide (-1048576≤x)=true:=by simp;omega
   have q4:decide (x≤ -1)=false:=by simp;omega
   have hl:litB x=false:=Bool.eq_false_iff.2 (fun h=>by have:=(litB_iff x).1 h;omega)
   rw[hl]
   clear hl
   go_enter Tryz.func93,Tryz.ntmps93
   go_wp2
   go_ret
   exact⟨rfl,rfl⟩
 ·have q1:decide (1≤x)=false:=by simpa using h1
  by_cases h2: -1048576≤x
  ·have q2:decide (-1048576≤x)=true:=by simpa using h2
   by_cases h3:x≤ -1
   ·have q3:decide (x≤ -1)=true:=by simpa using h3
    have hl:litB x=true:=(litB_iff x).2 ⟨by omega,by omega,by omega⟩
    rw[hl]
    clear hl
    go_enter Tryz.func93,Tryz.ntmps93
    go_wp2
    go_ret
    exact⟨rfl,rfl⟩
   ·have q3:decide (x≤ -1)=false:=by simpa using h3
    have hl:litB x=false:=Bool.eq_false_iff.2 (fun h=>by have:=(litB_iff x).1 h;omega)
    rw[hl]
    clear hl
    go_enter Tryz.func93,Tryz.ntmps93
    go_wp2
    go_ret
    exact⟨rfl,rfl⟩
  ·have q2:decide (-1048576≤x)=false:=by simpa using h2
   have hl:litB x=false:=Bool.eq_false_iff.2 (fun h=>by have:=(litB_iff x).1 h;omega)
   rw[hl]
   clear hl
   go_enter Tryz.func93,Tryz.ntmps93
   go_wp2
   go_ret
   exact⟨rfl,rfl⟩
theorem clauseB_take (xs:List Int) (k:Nat) (x:Int) (h:xs[k]? =some x) (hl:litB x=false):clauseB xs=false:=by
 unfold clauseB
 have:xs.all litB=false:=Bool.eq_false_iff.2 (fun ha=>by
  have:=List.all_eq_true.1 ha x (List.mem_of_getElem? h)
  rw[hl]at this
  cases this)
 rw[this,Bool.and_false]
set_option maxRecDepth 100000 in
set_option maxHeartbeats 1000000 in
theorem ref_right_clause {O:Nat→Prop} (u:Value) (xs:List Int) (w:World) (h1:IntsIn O w u xs) (hs:xs.length≤140737488355328):
  Calls Tryz.prog 50 #[u] w fun e w'=>e= .returned (.bool (clauseB xs))∧w=w':=by
 obtain⟨A,c,rfl,hc,_,hx⟩:=h1
 have HX:=Lib.hid hx
 clear hx
 obtain⟨bb,hbb⟩: ∃bb,clauseB xs=bb:=⟨_,rfl⟩
 rw[hbb]
 have HB:=Lib.hid hbb
 clear hbb
 by_cases hle:xs.length≤4096
 ·have q1:decide ((4096:Int)<(xs.length:Int))=false:=by simp;omega
  have q2:decide (4096<xs.length)=false:=by simp;omega
  go_enter Tryz.func50,Tryz.ntmps50
  go_wp2
  go_loop [3] (fun i=> ∃k:Nat,k≤xs.length∧i= .int .i64 k∧Hid (∀j x,j<k→xs[j]? =some x→litB x=true)) (fun i=>xs.length-(intOf i).toNat)
  case atStart=>exact⟨0,Nat.zero_le _,rfl,Lib.hid (fun j x hj=>by omega)⟩
  case round=>
   obtain⟨k,hk,rfl,HE⟩:=hrel
   by_cases hlt:k<xs.length
   ·obtain⟨x,hxk⟩:=getElem_of hlt
    obtain⟨g,o,rfl,hg,_,d1⟩:=HX.out k x hxk
    have HXK:=Lib.hid hxk
    have HW:=fun w=>ref_right_lit x w
    clear hxk
    cases hl:litB x with
    | false=>
     rw[hl]at HW
     have HW:=Lib.hid HW
     have HF:=Lib.hid (clauseB_take xs k x HXK.out hl)
     clear hl
     go_wp2_with fail
     refine(HW.out _).mono ?_
     rintro e w' ⟨rfl,rfl⟩
     go_wp2
     go_ret
     exact⟨ret_bool (by rw[←HB.out,HF.out]),rfl⟩
    | true=>
     rw[hl]at HW
     have HW:=Lib.hid HW
     have HL:=Lib.hid hl
     clear hl
     go_wp2_with fail
     refine(HW.out _).mono ?_
     rintro e w' ⟨rfl,rfl⟩
     go_wp2
     go_round
     case rel=>exact⟨k+1,by omega,by go_num,Lib.hid (fun j y hj hy=>by
      rcases Nat.lt_or_ge j k with h|h
      ·exact HE.out j y h hy
      ·obtain rfl:j=k:=by omega
       rw[HXK.out]at hy
       obtain rfl:=Option.some.inj hy
       exact HL.out)⟩
     case measure=>simp[intOf];omega
   ·obtain rfl:k=xs.length:=by omega
    go_wp2
    go_ret
    refine⟨ret_bool ?_,rfl⟩
    rw[←HB.out]
    unfold clauseB
    rw[decide_eq_true hle,Bool.true_and]
    exact(List.all_eq_true.2 (fun x hx=>by
     obtain⟨j,hj⟩:=List.getElem?_of_mem hx
     exact HE.out j x (List.getElem?_eq_some_iff.1 hj).1 hj)).symm
 ·have q1:decide ((4096:Int)<(xs.length:Int))=true:=by simp;omega
  go_enter Tryz.func50,Tryz.ntmps50
  go_wp2
  go_ret
  refine⟨ret_bool ?_,rfl⟩
  rw[←HB.out]
  unfold clauseB
  rw[decide_eq_false hle,Bool.false_and]
end Go.Proofs.YtajbmjpodeilpaaGreatDoor
namespace Go.Proofs.YtajbmjpodeilpaaGreatDoor
open Go.RowKit
def rIdx (y:Int):Int:=if y<0 then 2*(-y-1)+1 else 2*(y-1)
theorem rIdx_rng {y:Int} (h:litB y=true):0≤rIdx y∧rIdx y≤2097151:=by
 have:=(litB_iff y).1 h
 unfold rIdx
 split <;> omega
theorem rIdx_inj {x y:Int} (hx:litB x=true) (hy:litB y=true) (h:rIdx x=rIdx y):x=y:=by
 have:=(litB_iff x).1 hx
 have:=(litB_iff y).1 hy
 unfold rIdx at h
 split at h <;> split at h <;> omega
set_option maxRecDepth 100000 in
set_option maxHeartbeats 1000000 in
theorem ref_index01 (y:Int) (w:World) (hy:litB y=true):Calls Tryz.prog 144 #[.int .i64 y] w fun e w'=>e= .returned (.int .i64 (rIdx y))∧w=w':=by
 have HR:=Lib.hid (ref_right_lit y w)
 rw[hy]at HR
 have h1:=(litB_iff y).1 hy
 clear hy
 unfold rIdx
 by_cases hn:y<0
 ·have hd:decide (y<0)=true:=decide_eq_true hn
  have w1:IntKind.i64.wrap (-y)= -y:=IntWalk.i64_in _ (by omega)
  have w2:IntKind.i64.wrap (-y-1)= -y-1:=IntWalk.i64_in _ (by omega)
  have w3:IntKind.i64.wrap (2*(-y-1))=2*(-y-1):=IntWalk.i64_in _ (by omega)
  have w4:IntKind.i64.wrap (2*(-y-1)+1)=2*(-y-1)+1:=IntWalk.i64_in _ (by omega)
  rw[if_pos hn]
  go_enter Tryz.func144,Tryz.ntmps144
  go_wp2_with fail
  refine HR.out.mono ?_
  rintro e w' ⟨rfl,rfl⟩
  go_wp2_with fail
  go_ret
  exact⟨rfl,rfl⟩
 ·have hd:decide (y<0)=false:=decide_eq_false hn
  have w2:IntKind.i64.wrap (y-1)=y-1:=IntWalk.i64_in _ (by omega)
  have w3:IntKind.i64.wrap (2*(y-1))=2*(y-1):=IntWalk.i64_in _ (by omega)
  rw[if_neg hn]
  go_enter Tryz.func144,Tryz.ntmps144
  go_wp2_with fail
  refine HR.out.mono ?_
  rintro e w' ⟨rfl,rfl⟩
  go_wp2_with fail
  go_ret
  exact⟨rfl,rfl⟩
set_option maxRecDepth 100000 in
set_option maxHeartbeats 1000000 in
theorem ref_at01 (y:Int) (w:World) (hy:litB y=true):Calls Tryz.prog 145 #[.int .i64 (rIdx y)] w fun e w'=>e= .returned (.int .i64 y)∧w=w':=by
 have h1:=(litB_iff y).1 hy
 have h2:=rIdx_rng hy
 obtain⟨q,r,hq,hr,hv⟩: ∃q r:Int,(rIdx y).tdiv 2=q∧(rIdx y).tmod 2=r∧(r=1∧y= -(q+1)∨r=0∧y=q+1):=by
  refine⟨_,_,rfl,rfl,?_⟩
  rw[Int.tdiv_eq_ediv_of_nonneg h2.1,Int.tmod_eq_emod_of_nonneg h2.1]
  unfold rIdx
  split <;> omega
 obtain⟨i,hi⟩: ∃i,rIdx y=i:=⟨_,rfl⟩
 rw[hi]at h2 hq hr⊢
 have hqe:i/2=q:=by rw[←hq,Int.tdiv_eq_ediv_of_nonneg h2.1]
 have hq0:0≤q∧q≤1048576:=by omega
 have hre:i%2=r:=by rw[←hr,Int.tmod_eq_emod_of_nonneg h2.1]
 have d1:decide (i<0)=false:=decide_eq_false (by omega)
 have d2:decide (2097151<i)=false:=decide_eq_false (by omega)
 have w1:IntKind.i64.wrap q=q:=IntWalk.i64_in _ (by omega)
 have w2:IntKind.i64.wrap (q+1)=q+1:=IntWalk.i64_in _ (by omega)
 have w3:IntKind.i64.wrap (-(q+1))= -(q+1):=IntWalk.i64_in _ (by omega)
 clear hi hy
 rcases hv with⟨rfl,rfl⟩|⟨rfl,rfl⟩
 ·go_enter Tryz.func145,Tryz.ntmps145
  go_wp2_with fail
  go_ret
  exact⟨rfl,rfl⟩
 ·go_enter Tryz.func145,Tryz.ntmps145
  go_wp2_with fail
  go_ret
  exact⟨rfl,rfl⟩
end Go.Proofs.YtajbmjpodeilpaaGreatDoor
namespace Go.Proofs.YtajbmjpodeilpaaGreatDoor
open Go.RowKit
def BestOf (c:List Int) (last:Int) (k:Nat) (best:Int):Prop:=
 (best= -1∧∀x∈c.take k,rIdx (-x)≤last)∨(last<best∧(∃x∈c,rIdx (-x)=best)∧∀x∈c.take k,last<rIdx (-x)→best≤rIdx (-x))
theorem best_step {c:List Int} {last best:Int} {k:Nat} {x:Int} (hl: -1≤last) (hk:c[k]? =some x) (h:BestOf c last k best):
  BestOf c last (k+1) (if last<rIdx (-x)∧(best<0∨rIdx (-x)<best)then rIdx (-x)else best):=by
 have hx:=List.mem_of_getElem? hk
 have ht:c.take (k+1)=c.take k++ [x]:=by rw[List.take_add_one,hk];rfl
 have hm: ∀y∈c.take (k+1),y∈c.take k∨y=x:=fun y hy=>by
  rw[ht]at hy
  rcases List.mem_append.1 hy with h|h
  ·exact .inl h
  ·exact .inr (List.mem_singleton.1 h)
 split
 ·rename_i hc
  refine .inr ⟨hc.1,⟨x,hx,rfl⟩,fun y hy hyl=>?_⟩
  rcases hm y hy with h1|rfl
  ·rcases h with⟨h2,h3⟩|⟨h2,_,h4⟩
   ·have:=h3 y h1
    omega
   ·have:=h4 y h1 hyl
    have:=hc.2
    omega
  ·exact Int.le_refl _
 ·rename_i hc
  rw[not_and,not_or]at hc
  rcases h with⟨h2,h3⟩|⟨h2,h5,h4⟩
  ·refine .inl ⟨h2,fun y hy=>?_⟩
   rcases hm y hy with h1|rfl
   ·exact h3 y h1
   ·rcases Int.lt_or_le last (rIdx (-y))with h6|h6
    ·have:=(hc h6).1
     omega
    ·exact h6
  ·refine .inr ⟨h2,h5,fun y hy hyl=>?_⟩
   rcases hm y hy with h1|rfl
   ·exact h4 y h1 hyl
   ·have:=(hc hyl).2
    omega
set_option maxRecDepth 100000 in
set_option maxHeartbeats 4000000 in
theorem ref_assume08 {O:Nat→Prop} (u:Value) (c:List Int) (w:World) (h:IntsIn O w u c) (hl:c.length≤1000000) (hc: ∀x∈c,litB x=true):
  Calls Tryz.prog 102 #[u] w fun e w'=>(∃v out,e= .returned (.tuple #[v,.bool (alwR c)])∧w'.ownsRow w.heap.size 3 1 v out.length (out.map (Value.int .i64))∧out.length≤2097153∧(alwR c=true→out= [])∧(alwR c=false→∀y,y∈out↔ -y∈c))∧Below w.heap.size w w':=by
 obtain⟨i0,hi0,iz1,iz2,iz3⟩:=info_parts oinfo_int
 have HU:=Lib.hid h
 have HLB:=Lib.hid hc
 have HLN:=Lib.hid (show∀x∈c,litB (-x)=true from fun x hx=>by rw[litB_minus];exact hc x hx)
 have HH:=Lib.hid (fun(W:World) (hW:Below w.heap.size w W) (x:Int)=>ref_has08 x u c W (h.below hW) (by omega))
 obtain⟨A,k1,rfl,_⟩:=h
 obtain⟨al,hal⟩: ∃b,alwR c=b:=⟨_,rfl⟩
 have HALW:=Lib.hid hal
 rw[hal]
 clear hc hal
 go_enter Tryz.func102,Tryz.ntmps102
 go_wp2_with fail
 go_loopw [4,5] (fun v lv wr=> ∃(last:Int) (out:List Int),lv= .int .i64 last∧ -1≤last∧last≤2097151∧Hid ((out.length:Int)≤last+1)∧Hid (∀y,y∈out↔(-y∈c∧rIdx y≤last))∧Hid (wr.ownsRow w.heap.size 3 1 v out.length (out.map (Value.int .i64)))∧Hid (Below w.heap.size w wr)) (fun _ lv _=>(2097152-intOf lv).toNat)
 case atStart=>exact⟨-1,[],rfl,Int.le_refl _,by omega,Lib.hid (by simp),Lib.hid (fun y=>⟨(fun h=>by cases h),fun h=>by
  have h1:=HLN.out _ h.1
  rw[Int.neg_neg]at h1
  have:=(rIdx_rng h1).1
  omega⟩),Lib.hid (World.ownsRow_nil _ _ _ _),Lib.hid (Below.refl _ _)⟩
 case round=>
  obtain⟨last,out,rfl,hl0,hl1,HOL,HOM,HOA,HB⟩:=hrel
  obtain⟨Af,cf,rfl,hcf⟩:=mx_slice HOA.out
  have hall:out.length≤2097152:=by have:=HOL.out;omega
  have hzw:=HB.out.size
  obtain⟨wo,rfl⟩: ∃wo:World,wo=wr:=⟨_,rfl⟩
  go_wp2_with fail
  go_loopw [6,7] (fun bv i wr2=> ∃(k:Nat) (best:Int),k≤c.length∧i= .int .i64 k∧bv= .int .i64 best∧ -1≤best∧best≤2097151∧Hid (BestOf c last k best)∧Hid (∀x∈c.take k,c.contains (-x)=false)∧Hid (wr2=wo)) (fun _ i _=>c.length-(intOf i).toNat)
  case atStart=>exact⟨0,-1,Nat.zero_le _,rfl,rfl,Int.le_refl _,by omega,Lib.hid (.inl ⟨rfl,fun x hx=>by simp at hx⟩),Lib.hid (fun x hx=>by simp at hx),Lib.hid rfl⟩
  case round=>
   obtain⟨k,best,hk,rfl,rfl,hb0,hb1,HBO,HNO,HWE⟩:=hrel
   have hwe:=HWE.out
   clear HWE
   subst hwe
   by_cases hlt:k<c.length
   ·obtain⟨x,hx0⟩:=atOf hlt
    obtain⟨A2,c2,hA2,_,_,hx⟩:=HU.out.below HB.out
    simp only[Value.slice.injEq,true_and]at hA2
    obtain⟨rfl,rfl⟩:=hA2
    obtain⟨g,o,rfl,hg,_,d0⟩:=hx k x hx0
    have hxm:=List.mem_of_getElem? hx0
    have hx1:=(litB_iff x).1 (HLB.out x hxm)
    have hwx:IntKind.i64.wrap (-x)= -x:=IntWalk.i64_in _ (by omega)
    have H1:=Lib.hid (HH.out wr HB.out (-x))
    have H2:=Lib.hid (ref_index01 (-x) wr (HLN.out x hxm))
    have hrn:=rIdx_rng (HLN.out x hxm)
    have HST:=Lib.hid (best_step hl0 hx0 HBO.out)
    have HXM:=Lib.hid hxm
    have HX0:=Lib.hid hx0
    obtain⟨b,hb⟩: ∃b,c.contains (-x)=b:=⟨_,rfl⟩
    have HBB:=Lib.hid hb
    rw[hb]at H1
    clear hx hx0 hx1 hxm hb
    cases b with
    | true=>
     have HN:=Lib.hid (show true=al from by
      rw[←HALW.out]
      exact(List.any_eq_true.2 ⟨x,HXM.out,HBB.out⟩).symm)
     go_wp2_with fail
     refine H1.out.mono ?_
     rintro e w' ⟨rfl,rfl⟩
     go_wp2_with fail
     go_ret2
     exact⟨⟨_,[],by rw[←HN.out];rfl,World.ownsRow_nil _ _ _ _,Nat.zero_le _,fun _=>rfl,fun h=>by rw[←HN.out]at h;cases h⟩,HB.out⟩
    | false=>
     have HN2:=Lib.hid (show∀y∈c.take (k+1),c.contains (-y)=false from fun y hy=>by
      rw[List.take_add_one,HX0.out]at hy
      rcases List.mem_append.1 hy with h|h
      ·exact HNO.out y h
      ·rw[List.mem_singleton.1 h];exact HBB.out)
     obtain⟨n,hn⟩: ∃n,rIdx (-x)=n:=⟨_,rfl⟩
     rw[hn]at H2 HST hrn
     clear hn
     by_cases c1:last<n
     ·have p1:decide (last<n)=true:=decide_eq_true c1
      by_cases c2:best<0
      ·have p2:decide (best<0)=true:=decide_eq_true c2
       have HF:=Lib.hid (show BestOf c last (k+1) n from by have:=HST.out;rwa [if_pos ⟨c1,.inl c2⟩]at this)
       clear HST
       go_wp2_with fail
       refine H1.out.mono ?_
       rintro e w' ⟨rfl,rfl⟩
       go_wp2_with fail
       refine H2.out.mono ?_
       rintro e w' ⟨rfl,rfl⟩
       go_wp2_with fail
       go_roundw
       case rel=>exact⟨k+1,n,by omega,by go_num,rfl,by omega,by omega,HF,HN2,Lib.hid (by trivial)⟩
       case measure=>simp[intOf];omega
      ·have p2:decide (best<0)=false:=decide_eq_false c2
       by_cases c3:n<best
       ·have p3:decide (n<best)=true:=decide_eq_true c3
        have HF:=Lib.hid (show BestOf c last (k+1) n from by have:=HST.out;rwa [if_pos ⟨c1,.inr c3⟩]at this)
        clear HST
        go_wp2_with fail
        refine H1.out.mono ?_
        rintro e w' ⟨rfl,rfl⟩
        go_wp2_with fail
        refine H2.out.mono ?_
        rintro e w' ⟨rfl,rfl⟩
        go_wp2_with fail
        go_roundw
        case rel=>exact⟨k+1,n,by omega,by go_num,rfl,by omega,by omega,HF,HN2,Lib.hid (by trivial)⟩
        case measure=>simp[intOf];omega
       ·have p3:decide (n<best)=false:=decide_eq_false c3
        have HF:=Lib.hid (show BestOf c last (k+1) best from by have:=HST.out;rwa [if_neg (fun h=>h.2.elim c2 c3)]at this)
        clear HST
        go_wp2_with fail
        refine H1.out.mono ?_
        rintro e w' ⟨rfl,rfl⟩
        go_wp2_with fail
        refine H2.out.mono ?_
        rintro e w' ⟨rfl,rfl⟩
        go_wp2_with fail
        go_roundw
        case rel=>exact⟨k+1,best,by omega,by go_num,rfl,by omega,by omega,HF,HN2,Lib.hid (by trivial)⟩
        case measure=>simp[intOf];omega
     ·have p1:decide (last<n)=false:=decide_eq_false c1
      have HF:=Lib.hid (show BestOf c last (k+1) best from by have:=HST.out;rwa [if_neg (fun h=>c1 h.1)]at this)
      clear HST
      go_wp2_with fail
      refine H1.out.mono ?_
      rintro e w' ⟨rfl,rfl⟩
      go_wp2_with fail
      refine H2.out.mono ?_
      rintro e w' ⟨rfl,rfl⟩
      go_wp2_with fail
      go_roundw
      case rel=>exact⟨k+1,best,by omega,by go_num,rfl,by omega,by omega,HF,HN2,Lib.hid (by trivial)⟩
      case measure=>simp[intOf];omega
   ·have hke:k=c.length:=by omega
    have hno:=HNO.out
    have hbo:=HBO.out
    unfold BestOf at hbo
    rw[hke,List.take_length]at hno hbo
    have HNA:=Lib.hid (show al=false from by
     rw[←HALW.out]
     exact List.any_eq_false.2 fun x hx=>by rw[hno x hx];decide)
    have HKE:=Lib.hid hke
    clear hno hke HNO HBO
    rcases hbo with⟨rfl,hall2⟩|⟨hlb,⟨x,hxm,hxe⟩,hmin⟩
    ·have HA2:=Lib.hid hall2
     have HKL:=Lib.hid (show¬k<c.length from hlt)
     clear hall2
     go_wp2_with fail
     go_ret2
     refine⟨⟨_,out,by rw[HNA.out];rfl,HOA.out,by omega,(fun h=>by rw[HNA.out]at h;cases h),fun _ y=>⟨fun hy=>((HOM.out y).1 hy).1,fun hy=>(HOM.out y).2 ⟨hy,?_⟩⟩⟩,HB.out⟩
     have:=HA2.out _ hy
     rwa [Int.neg_neg]at this
    ·have HXM:=Lib.hid hxm
     have HMIN:=Lib.hid hmin
     have HLX:=Lib.hid (HLN.out x hxm)
     have HAT:=Lib.hid (ref_at01 (-x) wr (HLN.out x hxm))
     rw[hxe]at HAT
     have HXE:=Lib.hid hxe
     obtain⟨z,hz⟩: ∃z,-x=z:=⟨_,rfl⟩
     have HZX:=Lib.hid hz
     rw[hz]at HAT HXE HLX
     have p2:decide (best<0)=false:=decide_eq_false (by omega)
     clear hxm hmin hxe hz
     go_wp2_with fail
     refine HAT.out.mono ?_
     rintro e w' ⟨rfl,rfl⟩
     go_wp2_with (at_builtin;refine wpList_append_own_at _ rfl _ _ 31 rfl w.heap.size 3 i0 (.int .i64 0) 1 8 Tryz.underlying31 hi0 iz1 iz2 iz3 rfl (by decide) _ out.length _ rfl (own_below HOA.out (mx_al wr _)) ⟨wr.heap.size,0,none⟩ 1 1 [.int .i64 z] rfl rfl (cell_one_new' _ _ _) (by simp[Value.oneCell']) (by unfold maxLen;omega) (by omega) (by simp;omega) ?_;intro v' w9 hown hgrow hnl hat;obtain⟨Aw,kw,hv2,_⟩:=mx_slice hown;subst hv2;have HOWN:=Lib.hid hown;have HG:=Lib.hid hgrow;clear hown hgrow hnl hat)
     have hb9:=HB.out.trans (grow_low HOA.out HG.out hzw)
     go_roundw
     case rel=>
      refine⟨best,out++ [z],rfl,by omega,by omega,Lib.hid ?_,Lib.hid (fun y=>⟨fun hy=>?_,fun hy=>?_⟩),Lib.hid (by rw[List.length_append,List.length_singleton,List.map_append];exact HOWN.out),Lib.hid hb9⟩
      ·rw[List.length_append,List.length_singleton]
       have:=HOL.out
       omega
      ·rcases List.mem_append.1 hy with h|h
       ·have:=(HOM.out y).1 h
        exact⟨this.1,by omega⟩
       ·rw[List.mem_singleton.1 h]
        exact⟨by rw[←HZX.out,Int.neg_neg];exact HXM.out,by rw[HXE.out];exact Int.le_refl _⟩
      ·by_cases h6:rIdx y≤last
       ·exact List.mem_append_left _ ((HOM.out y).2 ⟨hy.1,h6⟩)
       ·refine List.mem_append_right _ (List.mem_singleton.2 ?_)
        have h7:=HMIN.out _ hy.1
        rw[Int.neg_neg]at h7
        have hly:=HLN.out _ hy.1
        rw[Int.neg_neg]at hly
        exact rIdx_inj hly HLX.out (by rw[HXE.out];have:=h7 (by omega);omega)
     case measure=>simp only[intOf];omega
end Go.Proofs.YtajbmjpodeilpaaGreatDoor
