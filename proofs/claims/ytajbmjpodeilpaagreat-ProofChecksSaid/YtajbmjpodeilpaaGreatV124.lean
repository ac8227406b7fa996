/- Reference of layer 10: clausesOf; of layer 8: Clauses, follow, Check. Reference of layer 8: without. -/
import Derived.Test.YtajbmjpodeilpaaGreatV123
import Derived.Test.YtajbmjpodeilpaaGreatV112
namespace Go.Proofs.YtajbmjpodeilpaaGreat
open Go.RowKit
structure RCl (O:Nat→Prop) (B:Nat) (w:World) (v:Value) (K:List (List Int×Value)):Prop where
 own:w.ownsRow B 32 1 v K.length (K.map (·.2))
 low: ∀x∈K,IntsIn (fun g=>O g∧g<B) w x.2 x.1
theorem RCl.grown {O:Nat→Prop} {B:Nat} {w w':World} {v v':Value} {K:List (List Int×Value)} {x:List Int×Value} (h:RCl O B w v K) (k:Below B w w') (ho:w'.ownsRow B 32 1 v' (K.length+1) (K.map (·.2)++ [x.2])) (hx:IntsIn (fun g=>O g∧g<B) w' x.2 x.1):RCl O B w' v' (K++ [x]):=
 ⟨by rw[List.length_append,List.length_singleton,List.map_append];exact ho,fun y hy=>by
  rcases List.mem_append.1 hy with hy|hy
  ·exact ints_low (h.low y hy) k
  ·obtain rfl:=List.mem_singleton.1 hy
   exact hx⟩
theorem RCl.cls {O:Nat→Prop} {B:Nat} {w:World} {v:Value} {K:List (List Int×Value)} (h:RCl O B w v K):ClsIn (fun g=>O g∨B≤g) w v (K.map (·.1)):=by
 obtain⟨ho,hl⟩:=h
 rcases ho.2 with⟨rfl,h0⟩|⟨g,cap,cur,rfl,hBg,hg,hle,_⟩
 ·have:K= []:=List.eq_nil_of_length_eq_zero h0
  subst this
  exact⟨none,0,rfl,Nat.le_refl _,fun _=>rfl,fun i p hi=>by simp at hi⟩
 ·refine⟨_,cap,by rw[List.length_map],by rw[List.length_map];omega,(fun h=>by cases h),fun i p hi=>?_⟩
  rw[List.getElem?_map,Option.map_eq_some_iff]at hi
  obtain⟨x,hx,rfl⟩:=hi
  exact⟨g,0,x.2,rfl,heap_lt hg,.inr hBg,by rw[Nat.zero_add];exact mx_at ho (by rw[List.getElem?_map,hx];rfl),(hl x (List.mem_of_getElem? hx)).mono fun _ hg=>.inl hg.1⟩
set_option maxHeartbeats 1000000 in
theorem ref_Find09 {O:Nat→Prop} (id:Int) (u:Value) (es:Ents) (w:World) (h:EntIn O w u es) (hl:es.length≤100000000000):
  Calls Tryz.prog 73 #[u,.int .i64 id] w fun e w'=>e= .returned (.int .i64 (eIx es id))∧w=w':=by
 have H:=Lib.hid (ref_find09 id u es w h hl)
 obtain⟨A,c,rfl,_⟩:=h
 go_enter Tryz.func73,Tryz.ntmps73
 go_wp2_with fail
 refine H.out.mono ?_
 rintro e w' ⟨rfl,rfl⟩
 go_wp2_with fail
 go_ret
 exact⟨rfl,rfl⟩
set_option maxRecDepth 100000 in
set_option maxHeartbeats 4000000 in
theorem ref_clauses10 {O O':Nat→Prop} (u hv:Value) (es:Ents) (hs:List Int) (w:World) (h:EntIn O w u es) (hh:IntsIn O' w hv hs) (hel:es.length≤1000000) (hhl:hs.length≤1000000):
  Calls Tryz.prog 44 #[u,hv] w fun e w'=>(∃v,e= .returned v∧ClsIn (fun g=>O g∨w.heap.size≤g) w' v (ckNamed es hs))∧Below w.heap.size w w':=by
 obtain⟨i0,hi0,iz1,iz2,iz3⟩:=info_parts info_lst
 have HE:=Lib.hid h.lt
 have HHS:=Lib.hid hh
 have HFI:=Lib.hid (fun(W:World) (hW:Below w.heap.size w W) (id:Int)=>ref_Find09 id u es W (h.below hW) (by omega))
 obtain⟨R,hR⟩: ∃R,ckNamed es hs=R:=⟨_,rfl⟩
 rw[hR]
 have HR:=Lib.hid hR
 obtain⟨A,k1,rfl,_⟩:=h
 obtain⟨A'',k3,rfl,_⟩:=hh
 clear hR
 go_enter Tryz.func44,Tryz.ntmps44
 go_wp2_with fail
 go_loopw [5,6] (fun v i wr=> ∃(k:Nat) (K:List (List Int×Value)),k≤hs.length∧i= .int .i64 k∧Hid (K.map (·.1)++ckNamed es (hs.drop k)=R)∧Hid (K.length=k)∧Hid (RCl O w.heap.size wr v K)∧Hid (Below w.heap.size w wr)) (fun _ i _=>hs.length-(intOf i).toNat)
 case atStart=>exact⟨0,[],Nat.zero_le _,rfl,HR,Lib.hid rfl,Lib.hid ⟨World.ownsRow_nil _ _ _ _,fun x hx=>by cases hx⟩,Lib.hid (Below.refl _ _)⟩
 case round=>
  obtain⟨k,K,hk,rfl,HRk,HKL,HRC,HB⟩:=hrel
  obtain⟨Af,cf,rfl,hcf⟩:=mx_slice HRC.out.own
  have hkl:K.length≤k:=by have:=HKL.out;omega
  have hzw:=HB.out.size
  by_cases hlt:k<hs.length
  ·obtain⟨id,hid⟩:=atOf hlt
   obtain⟨A2,c2,hA2,_,_,hx⟩:=HHS.out.below HB.out
   simp only[Value.slice.injEq,true_and]at hA2
   obtain⟨rfl,rfl⟩:=hA2
   obtain⟨g,o,rfl,hg,_,d0⟩:=hx k id hid
   have hE:=HRk.out
   rw[dropAt hid,ckNamed]at hE
   have H1:=Lib.hid (HFI.out wr HB.out id)
   have hways:=eIx_get es id
   obtain⟨ix,hix⟩: ∃z,eIx es id=z:=⟨_,rfl⟩
   rw[hix]at H1 hways
   clear hx hid hix
   rcases hways with⟨rfl,hgt⟩|⟨i,p,rfl,hp,hgt⟩
   ·rw[hgt]at hE
    have HN:=Lib.hid (show K.map (·.1)=R by simpa using hE)
    clear hE hgt
    go_wp2_with fail
    refine H1.out.mono ?_
    rintro e w' ⟨rfl,rfl⟩
    go_wp2_with fail
    go_ret
    exact⟨⟨_,rfl,by rw[←HN.out];exact HRC.out.cls⟩,HB.out⟩
   ·rw[hgt]at hE
    simp only at hE
    obtain⟨A3,c3,hA3,_,_,hes⟩:=HE.out.below HB.out
    simp only[Value.slice.injEq,true_and]at hA3
    obtain⟨rfl,rfl⟩:=hA3
    obtain⟨g3,o3,u3,rfl,hg3,_,_,e1,hu3⟩:=hes i p hp
    have hil:=(List.getElem?_eq_some_iff.1 hp).1
    have hil2:(i:Int)<(List.length es:Int):=by omega
    have hi0': ¬((i:Int)<0):=by omega
    have q0:decide ((i:Int)<0)=false:=decide_eq_false hi0'
    have HU3:=Lib.hid hu3
    obtain⟨A4,c4,rfl,_⟩:=hu3
    have HN:=Lib.hid (show(K++ [(p.2,Value.slice A4 p.2.length c4)]).map (·.1)++ckNamed es (hs.drop (k+1))=R by
     rw[List.map_append,List.append_assoc]
     exact hE)
    clear hes hp hgt hE
    go_wp2_with fail
    refine H1.out.mono ?_
    rintro e w' ⟨rfl,rfl⟩
    go_wp2_with (at_builtin;refine wpList_append_own_at _ rfl _ _ 36 rfl w.heap.size 32 i0 (.slice none 0 0) 1 24 Tryz.underlying36 hi0 iz1 iz2 iz3 rfl (by decide) _ K.length _ rfl (own_below HRC.out.own (mx_al wr _)) ⟨wr.heap.size,0,none⟩ 1 1 [.slice A4 p.2.length c4] rfl rfl (cell_one_new' _ _ _) (by simp[Value.oneCell']) (by unfold maxLen;omega) (by omega) (by simp;omega) ?_;intro v' w9 hown hgrow hnl hat;obtain⟨Aw,kw,hv2,_⟩:=mx_slice hown;subst hv2;have HOWN:=Lib.hid hown;have HG:=Lib.hid hgrow;clear hown hgrow hnl hat)
    have hb8:=grow_low HRC.out.own HG.out hzw
    have hb9:=HB.out.trans hb8
    go_roundw
    case rel=>exact⟨k+1,K++ [(p.2,.slice A4 p.2.length c4)],by omega,by go_num,HN,Lib.hid (by rw[List.length_append,List.length_singleton,HKL.out]),Lib.hid (HRC.out.grown (x:=(p.2,.slice A4 p.2.length c4)) hb8 HOWN.out (ints_low HU3.out hb8)),Lib.hid hb9⟩
    case measure=>simp[intOf];omega
  ·obtain rfl:k=hs.length:=by omega
   have hE:=HRk.out
   rw[List.drop_length,ckNamed,List.append_nil]at hE
   have HN:=Lib.hid hE
   clear hE
   go_wp2_with fail
   go_ret
   exact⟨⟨_,rfl,by rw[←HN.out];exact HRC.out.cls⟩,HB.out⟩
set_option maxRecDepth 100000 in
set_option maxHeartbeats 2000000 in
theorem ref_clauses08 {O:Nat→Prop} (u:Value) (cs:List (List Int)) (w:World) (h:ClsIn O w u cs) (hl:cs.length≤1000000) (hc: ∀c∈cs,clauseB c=true):
  Calls Tryz.prog 109 #[u] w fun e w'=>e= .returned (.bool true)∧w=w':=by
 have HC:=Lib.hid h
 have HCC:=Lib.hid hc
 obtain⟨A,c,rfl,_⟩:=h
 clear hc
 go_enter Tryz.func109,Tryz.ntmps109
 go_wp2_with fail
 go_loop [3] (fun i=> ∃k:Nat,k≤cs.length∧i= .int .i64 k) (fun i=>cs.length-(intOf i).toNat)
 case atStart=>exact⟨0,Nat.zero_le _,rfl⟩
 case round=>
  obtain⟨k,hk,rfl⟩:=hrel
  by_cases hlt:k<cs.length
  ·obtain⟨x,hxk⟩:=atOf hlt
   have hcb:=HCC.out x (List.mem_of_getElem? hxk)
   obtain⟨A',c',hv,_,_,hx⟩:=HC.out
   simp only[Value.slice.injEq,true_and]at hv
   obtain⟨rfl,rfl⟩:=hv
   obtain⟨g,o,uv,rfl,hg,_,d0,hu⟩:=hx k x hxk
   have H1:=ref_right_clause uv x w hu (by have:=clause_len hcb;omega)
   rw[hcb]at H1
   have H1:=Lib.hid H1
   obtain⟨Au,cu,rfl,_⟩:=hu
   clear hx hxk hcb
   go_wp2_with fail
   refine H1.out.mono ?_
   rintro e w' ⟨rfl,rfl⟩
   go_wp2_with fail
   go_round
   case rel=>exact⟨k+1,by omega,by go_num⟩
   case measure=>simp[intOf];omega
  ·obtain rfl:k=cs.length:=by omega
   go_wp2_with fail
   go_ret
   exact⟨rfl,rfl⟩
set_option maxRecDepth 100000 in
set_option maxHeartbeats 4000000 in
theorem ref_follow08 {O' O'':Nat→Prop} (av hv:Value) (asg:List Int) (cs:List (List Int)) (w:World) (ha:IntsIn O' w av asg) (hh:ClsIn O'' w hv cs) (hal:asg.length≤10000000) (hhl:cs.length≤1000000) (hc: ∀c∈cs,clauseB c=true):
  Calls Tryz.prog 76 #[av,hv] w fun e w'=> ∃v,e= .returned (.tuple #[v,.int .i64 ((rFolC asg cs 0).2.1:Nat),.bool (rFolC asg cs 0).2.2.1,.int .i64 ((rFolC asg cs 0).2.2.2:Nat)])∧w'.ownsRow w.heap.size 3 1 v (rFolC asg cs 0).1.length ((rFolC asg cs 0).1.map (Value.int .i64))∧Below w.heap.size w w':=by
 obtain⟨i0,hi0,iz1,iz2,iz3⟩:=info_parts oinfo_int
 have HHS:=Lib.hid hh
 have HCL:=Lib.hid (show∀c∈cs,c.length≤1000000∧∀x∈c,litB x=true from fun p hp=>by
  have:=hc p hp
  unfold clauseB at this
  rw[Bool.and_eq_true,decide_eq_true_eq]at this
  exact⟨by omega,fun x hx=>List.all_eq_true.1 this.2 x hx⟩)
 obtain⟨W1,hW1⟩: ∃z,w.alloc (.cells #[] 3)=z:=⟨_,rfl⟩
 have hb1:Below w.heap.size w W1:=by rw[←hW1];exact mx_al _ _
 have hz1:w.heap.size≤W1.heap.size:=hb1.size
 have ho1:W1.ownsRow w.heap.size 3 1 (.slice (some ⟨w.heap.size,0,none⟩) 0 0) 0 []:=by rw[←hW1];exact own_newS w [] 3 1 0 rfl (by omega)
 have HA1:=Lib.hid (ha.below hb1).src
 have HW1:=Lib.hid hW1
 have HB1:=Lib.hid hb1
 have HO1:=Lib.hid ho1
 obtain⟨m,hm⟩: ∃m,asg.length=m:=⟨_,rfl⟩
 have HM:=Lib.hid hm
 rw[hm]at HA1 hal
 obtain⟨R,hR⟩: ∃R,rFolC asg cs 0=R:=⟨_,rfl⟩
 rw[hR]
 have HR:=Lib.hid hR
 obtain⟨A',k2,rfl,_⟩:=ha
 obtain⟨A'',k3,rfl,_⟩:=hh
 rw[hm]at HA1⊢
 clear hR hc hW1 hb1 ho1 hm
 go_enter Tryz.func76,Tryz.ntmps76
 go_wp2_with (at_builtin;rw[HW1.out];refine wpList_append_any rfl _ _ 32 rfl w.heap.size 3 i0 (.int .i64 0) 1 8 Tryz.underlying32 hi0 iz1 iz2 iz3 rfl (by decide) _ 0 _ rfl HO1.out _ m _ rfl HA1.out (by simp;exact HM.out) (by simp[Value.oneCell']) (by unfold maxLen;omega) (by omega) hz1 ?_;intro v' w2 hown hgrow _;obtain⟨Aw,kw,hv2,_⟩:=mx_slice hown;subst hv2;have HO2:=Lib.hid hown;have hgrow2:W1.grownBy w2 (Value.slice (some ⟨w.heap.size,0,none⟩) 0 0).ownBlock:=hgrow;have HB2:=Lib.hid (HB1.out.trans (Below.grown (Below.refl _ _) hgrow2 hz1 (fun g e=>(own_lt HO1.out g e).1)));clear hgrow2;clear hown hgrow)
 go_loopw [8,9] (fun v i wr=> ∃(k:Nat) (all:List Int),k≤cs.length∧i= .int .i64 k∧Hid (rFolC all (cs.drop k) k=R)∧Hid (all.length≤10000000+k)∧Hid (wr.ownsRow w.heap.size 3 1 v all.length (all.map (Value.int .i64)))∧Hid (Below w.heap.size w wr)) (fun _ i _=>cs.length-(intOf i).toNat)
 case atStart=>
  have h2:=HO2.out
  rw[Nat.zero_add,List.nil_append]at h2
  exact⟨0,asg,Nat.zero_le _,rfl,HR,Lib.hid (by have:=HM.out;omega),Lib.hid (by rw[HM.out];simpa using h2),HB2⟩
 case round=>
  obtain⟨k,all,hk,rfl,HRk,HAL,HOA,HB⟩:=hrel
  obtain⟨Af,cf,rfl,hcf⟩:=mx_slice HOA.out
  have hall:all.length≤12000000:=by have:=HAL.out;omega
  have hzw:=HB.out.size
  by_cases hlt:k<cs.length
  ·obtain⟨p,hp⟩:=atOf hlt
   obtain⟨A2,c2,hA2,_,_,hx⟩:=HHS.out.below HB.out
   simp only[Value.slice.injEq,true_and]at hA2
   obtain⟨rfl,rfl⟩:=hA2
   obtain⟨g,o,u3,rfl,hg,_,d0,hu3⟩:=hx k p hp
   have hE:=HRk.out
   rw[dropAt hp,rFolC]at hE
   obtain⟨hpl,hpb⟩:=HCL.out p (List.mem_of_getElem? hp)
   have HLK:=Lib.hid (ref_look08 u3 (.slice Af all.length cf) p all wr hu3 (IntsIn.of_own HOA.out) hpl (by omega) hpb)
   obtain⟨⟨kd,x⟩,hkx⟩: ∃z,rLook all p []=z:=⟨_,rfl⟩
   rw[hkx]at HLK hE
   simp only at HLK hE
   obtain⟨A4,c4,rfl,_⟩:=hu3
   have HE2:=Lib.hid hE
   have hw1:IntKind.i64.wrap ((k:Int)+1)=((k+1:Nat):Int):=by rw[IntWalk.i64_in _ (by omega)];omega
   clear hx hp hpl hpb hkx hE
   by_cases e2:kd=2
   ·subst e2
    have HN:=Lib.hid (show((all,k+1,true,0):List Int×Nat×Bool×Nat)=R from by have:=HE2.out;rwa [if_pos rfl]at this)
    clear HE2
    go_wp2_with fail
    refine HLK.out.mono ?_
    rintro e w3 ⟨rfl,hb3⟩
    have HB3:=Lib.hid (HB.out.trans (hb3.mono hzw))
    have HO3:=Lib.hid (own_below HOA.out hb3)
    clear hb3
    go_wp2_with fail
    refine bodyPost_ret (results_tmp4 rfl _ _ _) rfl ?_
    exact⟨_,by rw[←HN.out];rfl,by rw[←HN.out];exact HO3.out,HB3.out⟩
   ·have q2:((kd:Int)==2)=false:=beq_eq_false_iff_ne.2 (by omega)
    by_cases e3:kd=3
    ·have q3:((kd:Int) != 3)=false:=by rw[e3];rfl
     have HN:=Lib.hid (show rFolC (all++ [x]) (cs.drop (k+1)) (k+1)=R from by have:=HE2.out;rwa [if_neg e2,if_pos e3]at this)
     clear HE2 e2 e3
     go_wp2_with fail
     refine HLK.out.mono ?_
     rintro e w3 ⟨rfl,hb3⟩
     have HB3:=Lib.hid (HB.out.trans (hb3.mono hzw))
     have HO3:=Lib.hid (own_below HOA.out hb3)
     have hz3:=HB3.out.size
     clear hb3
     go_wp2_with (at_builtin;refine wpList_append_own_at _ rfl _ _ 32 rfl w.heap.size 3 i0 (.int .i64 0) 1 8 Tryz.underlying32 hi0 iz1 iz2 iz3 rfl (by decide) _ all.length _ rfl (own_below HO3.out (mx_al w3 _)) ⟨w3.heap.size,0,none⟩ 1 1 [.int .i64 x] rfl rfl (cell_one_new' _ _ _) (by simp[Value.oneCell']) (by unfold maxLen;omega) (by omega) (by simp;omega) ?_;intro v' w9 hown hgrow hnl hat;obtain⟨Aw,kw,hv2,_⟩:=mx_slice hown;subst hv2;have HOWN:=Lib.hid hown;have HG:=Lib.hid hgrow;clear hown hgrow hnl hat)
     have hb9:=HB3.out.trans (grow_low HO3.out HG.out hz3)
     go_roundw
     case rel=>exact⟨k+1,all++ [x],by omega,by go_num,HN,Lib.hid (by rw[List.length_append,List.length_singleton];have:=HAL.out;omega),Lib.hid (by rw[List.length_append,List.length_singleton,List.map_append];exact HOWN.out),Lib.hid hb9⟩
     case measure=>simp[intOf];omega
    ·have q3:((kd:Int) != 3)=true:=bne_iff_ne.2 (by omega)
     have HN:=Lib.hid (show(([],k,false,81):List Int×Nat×Bool×Nat)=R from by have:=HE2.out;rwa [if_neg e2,if_neg e3]at this)
     clear HE2 e2 e3
     go_wp2_with fail
     refine HLK.out.mono ?_
     rintro e w3 ⟨rfl,hb3⟩
     have HB3:=Lib.hid (HB.out.trans (hb3.mono hzw))
     clear hb3 d0
     go_wp2_with fail
     refine bodyPost_ret (results_tmp4 rfl _ _ _) rfl ?_
     exact⟨_,by rw[←HN.out];rfl,by rw[←HN.out];exact World.ownsRow_nil _ _ _ _,HB3.out⟩
  ·obtain rfl:k=cs.length:=by omega
   have hE:=HRk.out
   rw[List.drop_length,rFolC]at hE
   have HN:=Lib.hid hE
   clear hE
   go_wp2_with fail
   refine bodyPost_ret (results_tmp4 rfl _ _ _) rfl ?_
   exact⟨_,by rw[←HN.out];rfl,by rw[←HN.out];exact HOA.out,HB.out⟩
set_option maxRecDepth 100000 in
set_option maxHeartbeats 4000000 in
theorem ref_check08 {O O'':Nat→Prop} (u hv:Value) (c:List Int) (cs:List (List Int)) (w:World) (h:IntsIn O w u c) (hh:ClsIn O'' w hv cs) (hl:cs.length≤65536) (hc:clauseB c=true) (hcs: ∀d∈cs,clauseB d=true):
  Calls Tryz.prog 74 #[u,hv] w fun e w'=>e= .returned (.tuple #[.int .i64 ((chkP c cs).2.1:Nat),.int .i64 ((chkP c cs).2.2:Nat)])∧Below w.heap.size w w':=by
 have hcl:=clause_len hc
 have HR:=ref_right_clause u c w h (by omega)
 rw[hc]at HR
 have HR:=Lib.hid HR
 have HC:=Lib.hid (ref_clauses08 hv cs w hh (by omega) hcs)
 have HA:=Lib.hid (ref_assume08 u c w h (by omega) (fun x hx=>clauseB_lit hc hx))
 have HCB:=Lib.hid hc
 have HCS:=Lib.hid hcs
 have HH:=Lib.hid hh
 obtain⟨R,hR⟩: ∃R,(chkP c cs).2=R:=⟨_,rfl⟩
 rw[hR]
 have HRR:=Lib.hid hR
 obtain⟨A,k1,rfl,_⟩:=h
 obtain⟨A',k2,rfl,_⟩:=hh
 clear hR hc hcs
 obtain⟨aw,haw⟩: ∃b,alwR c=b:=⟨_,rfl⟩
 rw[haw]at HA
 have HAW:=Lib.hid haw
 go_enter Tryz.func74,Tryz.ntmps74
 go_wp2_with fail
 refine HR.out.mono ?_
 rintro e w' ⟨rfl,rfl⟩
 go_wp2_with fail
 refine HC.out.mono ?_
 rintro e w' ⟨rfl,rfl⟩
 have q5: ¬((65536:Int)<(cs.length:Int)):=by omega
 have q6:decide ((65536:Int)<(cs.length:Int))=false:=decide_eq_false q5
 go_wp2_with fail
 refine HA.out.mono ?_
 rintro e w1 ⟨⟨v,out,rfl,ho,hol,ho0,ho1⟩,hb1⟩
 have HO:=Lib.hid ho
 have HB1:=Lib.hid hb1
 obtain⟨Ao,co,rfl,_⟩:=mx_slice ho
 cases aw with
 | true=>
  have HN:=Lib.hid (show R=(0,0)from HRR.out.symm.trans (chk_alw haw HCB.out).1)
  clear ho0 ho1 haw ho hb1
  go_wp2_with fail
  go_ret2
  exact⟨by rw[HN.out];rfl,HB1.out⟩
 | false=>
  have HF:=Lib.hid (ref_follow08 (.slice Ao out.length co) (.slice A' cs.length k2) out cs w1 (IntsIn.of_own ho) (HH.out.below hb1) (by omega) (by omega) HCS.out)
  have hchk:=HRR.out.symm.trans (chk_fol HCB.out haw (ho1 rfl) HCS.out)
  obtain⟨⟨F1,F2,F3,F4⟩,hF⟩: ∃F,rFolC out cs 0=F:=⟨_,rfl⟩
  rw[hF]at HF hchk
  simp only at HF hchk
  have HK:=Lib.hid hchk
  clear ho0 ho1 haw ho hb1 hchk hF
  go_wp2_with fail
  refine HF.out.mono ?_
  rintro e w2 ⟨v2,rfl,ho2,hb2⟩
  have HB2:=Lib.hid (HB1.out.trans (hb2.mono HB1.out.size))
  obtain⟨A2,c2,rfl,_⟩:=mx_slice ho2
  clear ho2 hb2
  by_cases h4:F4=0
  ·subst h4
   cases F3 with
   | true=>
    have HN:=Lib.hid (show R=(F2,0)from by rw[HK.out,if_neg (by simp)])
    go_wp2_with fail
    go_ret2
    exact⟨by rw[HN.out];rfl,HB2.out⟩
   | false=>
    have HN:=Lib.hid (show R=(F2,82)from by rw[HK.out,if_pos ⟨rfl,rfl⟩])
    go_wp2_with fail
    go_ret2
    exact⟨by rw[HN.out];rfl,HB2.out⟩
  ·have q4:((F4:Int)==0)=false:=beq_eq_false_iff_ne.2 (by omega)
   have HN:=Lib.hid (show R=(F2,F4)from by rw[HK.out,if_neg (fun h=>h4 h.1)])
   go_wp2_with fail
   go_ret2
   exact⟨by rw[HN.out];rfl,HB2.out⟩
end Go.Proofs.YtajbmjpodeilpaaGreat
namespace Go.Proofs.YtajbmjpodeilpaaGreat
open Go.RowKit
theorem binfo_b:(Tryz.prog.info? 4).map (fun i=>(i.zero,i.size,i.bytes))=some (some (.bool false),1,1):=by kernel_rfl
theorem made_b {w w1:World} {n:Nat} (h:w1.ownsRow w.heap.size 4 1 (.slice (some ⟨w.heap.size,0,none⟩) n n) n (madeCells (Value.bool false).cells (n*1)).toList):w1.ownsRow w.heap.size 4 1 (.slice (some ⟨w.heap.size,0,none⟩) n n) n ((List.replicate n false).map Value.bool):=by
 have e:(madeCells (Value.bool false).cells (n*1)).toList=(List.replicate n false).map Value.bool:=by
  rw[Nat.mul_one]
  show(madeCells #[.bool false] n).toList=_
  rw[toList_madeCells_one,List.map_replicate]
 rw[←e]
 exact h
theorem own_setw {w:World} {base size n c g:Nat} {e:TypeId} {xs:List Value} (j:Nat) (h:w.ownsRow base e size (.slice (some ⟨g,0,none⟩) n c) n xs) (v:Value):
  (w.setCell ⟨g,j,none⟩ v).ownsRow base e size (.slice (some ⟨g,0,none⟩) n c) n (xs.set j v):=by
 obtain⟨h0,h1⟩:=h
 rcases h1 with⟨h1,_⟩|⟨g',cap,cur,hv,hb,hg,hle,hm,hs,hx⟩
 ·cases h1
 ·cases hv
  refine⟨by rw[List.length_set,h0],.inr ⟨g,c,_,rfl,hb,mx_set hg _,hle,hm,by simpa using hs,?_⟩⟩
  rw[Array.toList_setIfInBounds,List.take_set,hx]
theorem own_freew {w:World} {base size n c g:Nat} {e:TypeId} {xs:List Value} (h:w.ownsRow base e size (.slice (some ⟨g,0,none⟩) n c) n xs) (j:Nat):w.frozen? ⟨g,j,none⟩=false:=by
 rcases h.2 with⟨h1,_⟩|⟨g',cap,cur,hv,_,hg,_⟩
 ·cases h1
 ·cases hv
  simp[World.frozen?,hg]
theorem below_setw {b:Nat} {w W:World} (h:Below b w W) (hb:b≤W.heap.size) {g:Nat} (hg:b≤g) (j:Nat) (v:Value):Below b w (W.setCell ⟨g,j,none⟩ v):=
 h.trans (((Kept.refl (fun x=>x=g) W).setCell ⟨g,j,none⟩ v rfl).below (fun x e=>by rw[e];exact hg) hb)
theorem tab_at {q j:Nat} {b:Bool} {t:List Bool} (hq:q+1≤j):(List.replicate q false++b::t)[j]? =t[j-(q+1)]? :=by
 rw[List.getElem?_append_right (by rw[List.length_replicate];omega),List.length_replicate]
 obtain⟨d,rfl⟩: ∃d,j=q+1+d:=⟨j-(q+1),by omega⟩
 rw[show q+1+d-q=d+1 by omega,show q+1+d-(q+1)=d by omega,List.getElem?_cons_succ]
theorem tab_set {q:Nat} {b:Bool} {t:List Bool}:((List.replicate q false++b::t).map Value.bool).set q (.bool true)=(List.replicate q false++true::t).map Value.bool:=by
 rw[List.map_append,List.map_append,List.set_append_right _ _ (by simp),List.map_replicate,List.length_replicate,Nat.sub_self]
 rfl
theorem any_take {α:Type} {F:α→Bool} {l:List α} {i:Nat} {x:α} (h:l[i]? =some x):(l.take (i+1)).any F=((l.take i).any F||F x):=by
 rw[List.take_add_one,h,List.any_append]
 simp
theorem idx_snoc: ∀(k i:Nat) (l:List Bool),idxGo i l=idxGo i (l.take k)++idxGo (i+k) (l.drop k)
 | 0,i,l=>by simp[idxGo]
 | k+1,i,[]=>by simp[idxGo]
 | k+1,i,b::l=>by
  rw[List.take_succ_cons,List.drop_succ_cons,idxGo,idxGo]
  have:=idx_snoc k (i+1) l
  rw[show i+1+k=i+(k+1) by omega]at this
  split
  ·rw[this];rfl
  ·exact this
theorem idx_len: ∀(l:List Bool) (i:Nat),(idxGo i l).length≤l.length
 | [],i=>Nat.le_refl _
 | b::l,i=>by
  rw[idxGo,List.length_cons]
  split
  ·rw[List.length_cons]
   have:=idx_len l (i+1)
   omega
  ·have:=idx_len l (i+1)
   omega
set_option maxRecDepth 100000 in
set_option maxHeartbeats 8000000 in
theorem ref_without08 {O O':Nat→Prop} (hv uv:Value) (hs:List (List Int)) (us:List Int) (w:World) (h:ClsIn O w hv hs) (h':IntsIn O' w uv us) (hl:hs.length≤1000000) (hu:us.length+1=hs.length) (hc: ∀c∈hs,c.length≤1000000) (hul: ∀x∈us,litB x=true):
  Calls Tryz.prog 77 #[hv,uv] w fun e w'=>(∃v,e= .returned v∧w'.ownsRow w.heap.size 3 1 v (rWo hs us).length ((rWo hs us).map (Value.int .i64)))∧Below w.heap.size w w':=by
 obtain⟨i0,hi0,iz1,iz2,iz3⟩:=info_parts oinfo_int
 obtain⟨b0,hb0,bz1,bz2,bz3⟩:=info_parts binfo_b
 obtain⟨n,hn⟩: ∃n,hs.length=n:=⟨_,rfl⟩
 obtain⟨m,hm⟩: ∃m,us.length=m:=⟨_,rfl⟩
 have hmn:n=m+1:=by omega
 have HHN:=Lib.hid hn
 have HMM:=Lib.hid hm
 have HH:=Lib.hid h
 have HU:=Lib.hid h'
 have HCL:=Lib.hid hc
 have HUL:=Lib.hid hul
 have HHAS:=Lib.hid (fun(X:World) (uc:Value) (c:List Int) (x:Int) (h:IntsIn (fun g=>O g∧g<w.heap.size) X uc c) (hc:c.length≤1000000)=>ref_has08 x uc c X h (by omega))
 obtain⟨OUT,hO⟩: ∃OUT,rWo hs us=OUT:=⟨_,rfl⟩
 have HOUT:=Lib.hid (show idxGo 0 (rNd hs us n n)=OUT from by rw[←hn];exact hO)
 rw[hO]
 have HT1:=Lib.hid (show rNd hs us n 1= [true]from by
  show [rBit hs us n (n-1) []]= [true]
  unfold rBit
  rw[decide_eq_true (show n-1+1=n by omega),Bool.true_or])
 have HRL:=Lib.hid (fun k=>rNd_len hs us n k)
 obtain⟨A,k1,rfl,hk1,_⟩:=h
 obtain⟨A',k2,rfl,_⟩:=h'
 rw[hn]at HH hk1 hl⊢
 rw[hm]at HU⊢
 have v1:IntKind.i64.wrap ((n:Int)-1)=(m:Int):=by rw[IntWalk.i64_in _ (by omega)];omega
 have v2:IntKind.i64.wrap ((n:Int)-2)=(m:Int)-1:=by rw[IntWalk.i64_in _ (by omega)];omega
 have hmb:(m:Int)<(n:Int):=by omega
 have HMN:=Lib.hid hmn
 clear hn hm hc hul hO hu hmn
 go_enter Tryz.func77,Tryz.ntmps77
 go_wp2_with (at_make;refine wpList_make_full _ rfl _ _ 105 rfl w.heap.size 4 b0 (.bool false) 1 Tryz.underlying105 hb0 bz1 bz2 .i64 .i64 _ _ n rfl rfl rfl rfl (by rw[bz3];omega) (by unfold maxLen;omega) (Nat.le_refl _) ?_;intro w1 hown1 hgrow1;have h1:=made_b hown1;have H1:=Lib.hid h1;have HG1:=Lib.hid hgrow1;have d1:=mx_at h1 (j:=m) (u:=.bool false) (by rw[List.getElem?_map,List.getElem?_replicate,if_pos (by have:=HMN.out;omega)];rfl);have f1:=own_freew h1 m;clear hown1 hgrow1 h1)
 have h1:=H1.out
 have hb1:Below w.heap.size w w1:=Below.grown (Below.refl _ _) HG1.out (Nat.le_refl _) (fun g e=>by cases e)
 have HS1:=Lib.hid (show(w1.setCell ⟨w.heap.size,m,none⟩ (.bool true)).ownsRow w.heap.size 4 1 (.slice (some ⟨w.heap.size,0,none⟩) n n) n ((List.replicate m false++rNd hs us n (n-m)).map Value.bool)from by
  rw[show n-m=1 by have:=HMN.out;omega,HT1.out]
  have:=own_setw m h1 (.bool true)
  have e:((List.replicate n false).map Value.bool).set m (.bool true)=(List.replicate m false++ [true]).map Value.bool:=by
   rw[HMN.out,List.replicate_succ',tab_set]
  rwa [e]at this)
 have HBS:=Lib.hid (below_setw hb1 hb1.size (Nat.le_refl _) m (.bool true))
 clear h1 hb1 H1 HG1
 go_wp2_with fail
 go_loopw [6] (fun iv wr=> ∃(r:Nat) (z:Int),z=(r:Int)-1∧r≤m∧iv= .int .i64 z∧Hid (wr.ownsRow w.heap.size 4 1 (.slice (some ⟨w.heap.size,0,none⟩) n n) n ((List.replicate r false++rNd hs us n (n-r)).map Value.bool))∧Hid (Below w.heap.size w wr)) (fun iv _=>(intOf iv+1).toNat)
 case atStart=>exact⟨m,_,rfl,Nat.le_refl _,rfl,HS1,HBS⟩
 case round=>
  obtain⟨r,z,hz,hr,rfl,HTB,HB⟩:=hrel
  clear HS1 HBS d1 f1 v1 v2
  have hzw:=HB.out.size
  by_cases hr0:r=0
  ·subst hr0
   have q2:decide (0≤z)=false:=decide_eq_false (by omega)
   have HTN:=Lib.hid (show wr.ownsRow w.heap.size 4 1 (.slice (some ⟨w.heap.size,0,none⟩) n n) n ((rNd hs us n n).map Value.bool)from by
    have:=HTB.out
    rwa [Nat.sub_zero,List.replicate_zero,List.nil_append]at this)
   obtain⟨TB,hTB⟩: ∃TB,rNd hs us n n=TB:=⟨_,rfl⟩
   have hTL:TB.length=n:=by rw[←hTB];exact HRL.out n
   rw[hTB]at HTN HOUT
   have HTL:=Lib.hid hTL
   clear hz hTB hTL HTB
   obtain⟨wo,rfl⟩: ∃wo:World,wo=wr:=⟨_,rfl⟩
   go_wp2_with fail
   go_loopw [8,9] (fun v iv wr=> ∃(k:Nat),k≤n∧iv= .int .i64 k∧Hid (wr.ownsRow w.heap.size 3 1 v (idxGo 0 (TB.take k)).length ((idxGo 0 (TB.take k)).map (Value.int .i64)))∧Hid (wr.ownsRow w.heap.size 4 1 (.slice (some ⟨w.heap.size,0,none⟩) n n) n ((TB).map Value.bool))∧Hid (Below w.heap.size w wr)) (fun _ iv _=>n-(intOf iv).toNat)
   case atStart=>exact⟨0,Nat.zero_le _,rfl,Lib.hid (World.ownsRow_nil _ _ _ _),HTN,HB⟩
   case round=>
    obtain⟨k,hk,rfl,HOA,HTK,HBK⟩:=hrel
    obtain⟨Af,cf,rfl,hcf⟩:=mx_slice HOA.out
    have hzk:=HBK.out.size
    have hil:(idxGo 0 (TB.take k)).length≤k:=by
     have:=idx_len (TB.take k) 0
     rw[List.length_take]at this
     omega
    obtain⟨L,hL⟩: ∃L,idxGo 0 (TB.take k)=L:=⟨_,rfl⟩
    rw[hL]at HOA hil
    have HLL:=Lib.hid hL
    rw[hL]
    clear hL
    by_cases hlt:k<n
    ·obtain⟨tb,htb⟩: ∃tb,TB[k]? =some tb:=⟨_,List.getElem?_eq_getElem (by rw[HTL.out];exact hlt)⟩
     have d0:wr.cell? ⟨w.heap.size,k,none⟩=some (.bool tb):=mx_at HTK.out (by rw[List.getElem?_map,htb];rfl)
     have hIX:idxGo 0 (TB.take (k+1))=idxGo 0 (TB.take k)++idxGo k [tb]:=by
      have e:TB.take (k+1)=TB.take k++ [tb]:=by rw[List.take_add_one,htb];rfl
      have hlk:(TB.take k).length=k:=by rw[List.length_take,HTL.out];omega
      rw[e,idx_snoc k 0 (TB.take k++ [tb]),List.take_left' hlk,List.drop_left' hlk,Nat.zero_add]
     rw[HLL.out]at hIX
     have hkn:(k:Int)<(n:Int):=by omega
     cases tb with
     | true=>
      have HIX:=Lib.hid (show idxGo 0 (TB.take (k+1))=L++ [(k:Int)]from hIX)
      clear hIX htb
      go_wp2_with (at_builtin;refine wpList_append_own_at _ rfl _ _ 32 rfl w.heap.size 3 i0 (.int .i64 0) 1 8 Tryz.underlying32 hi0 iz1 iz2 iz3 rfl (by decide) _ L.length _ rfl (own_below HOA.out (mx_al wr _)) ⟨wr.heap.size,0,none⟩ 1 1 [.int .i64 (k:Int)] rfl rfl (cell_one_new' _ _ _) (by simp[Value.oneCell']) (by unfold maxLen;omega) (by omega) (by simp;omega) ?_;intro v' w9 hown hgrow hnl hat;obtain⟨Aw,kw,hv2,_⟩:=mx_slice hown;subst hv2;have HOWN:=Lib.hid hown;have HG:=Lib.hid hgrow;clear hown hgrow hnl hat)
      have hb9:=HBK.out.trans (grow_low HOA.out HG.out hzk)
      have HTK2:=Lib.hid (own_kept (own_below HTK.out (mx_al wr (.cells #[.int .i64 (k:Int)] 3))) (Kept.grown HG.out) (fun g h1 h2=>mx_apart HTK.out HOA.out (by decide) h1 h2.symm))
      go_roundw
      case rel=>exact⟨k+1,by omega,by go_num,Lib.hid (by rw[HIX.out,List.length_append,List.length_singleton,List.map_append];exact HOWN.out),HTK2,Lib.hid hb9⟩
      case measure=>simp[intOf];omega
     | false=>
      have HIX:=Lib.hid (show idxGo 0 (TB.take (k+1))=L from by rw[hIX];exact List.append_nil _)
      clear hIX htb
      go_wp2_with fail
      go_roundw
      case rel=>exact⟨k+1,by omega,by go_num,Lib.hid (by rw[HIX.out];exact HOA.out),HTK,HBK⟩
      case measure=>simp[intOf];omega
    ·obtain rfl:k=n:=by omega
     have HF:=Lib.hid (show L=OUT from by rw[←HLL.out,←HOUT.out,List.take_of_length_le (by rw[HTL.out];exact Nat.le_refl _)])
     go_wp2_with fail
     go_ret
     exact⟨⟨_,rfl,by rw[←HF.out];exact HOA.out⟩,HBK.out⟩
  obtain⟨q,rfl⟩: ∃q,r=q+1:=⟨r-1,by omega⟩
  obtain rfl:z=(q:Int):=by omega
  clear hz hr0
  have hq0:(0:Int)≤(q:Int):=by omega
  have hqm:q<m:=by omega
  have hqm2:(q:Int)<(m:Int):=by omega
  have hqn:(q:Int)<(n:Int):=by omega
  have q2:decide (0≤(q:Int))=true:=decide_eq_true hq0
  have w1:IntKind.i64.wrap ((q:Int)-1)=(q:Int)-1:=IntWalk.i64_in _ (by omega)
  obtain⟨x,hx⟩: ∃x,us[q]? =some x:=⟨_,List.getElem?_eq_getElem (by rw[HMM.out];exact hqm)⟩
  obtain⟨t,ht⟩: ∃t,rNd hs us n (n-(q+1))=t:=⟨_,rfl⟩
  have htl:t.length=n-(q+1):=by rw[←ht];exact HRL.out _
  have HTN:=Lib.hid (show rNd hs us n (n-q)=(((hs.drop (q+1)).zip t).any fun p=>p.2&&p.1.contains (-x))::t from by
   have hmn:=HMN.out
   rw[show n-q=(n-(q+1))+1 by omega,rNd,ht,show n-(n-(q+1)+1)=q by omega]
   unfold rBit
   rw[decide_eq_false (show¬q+1=n by omega),Bool.false_or,List.getD_eq_getElem?_getD,hx]
   rfl)
  have HTL:=Lib.hid htl
  have HX:=Lib.hid hx
  have hT0:=HTB.out
  rw[ht,List.replicate_succ',List.append_assoc,List.singleton_append]at hT0
  have HT0:=Lib.hid hT0
  have hxb:=HUL.out x (List.mem_of_getElem? hx)
  have hx1:=(litB_iff x).1 hxb
  have hwx:IntKind.i64.wrap (-x)= -x:=IntWalk.i64_in _ (by omega)
  clear ht htl hx hT0 HTB hxb hx1
  obtain⟨wo,rfl⟩: ∃wo:World,wo=wr:=⟨_,rfl⟩
  go_wp2_with fail
  go_loopw [7] (fun jv wr=> ∃(j:Nat) (b:Bool),q+1≤j∧j≤n∧jv= .int .i64 j∧Hid (b=(((hs.drop (q+1)).zip t).take (j-(q+1))).any fun p=>p.2&&p.1.contains (-x))∧Hid (wr.ownsRow w.heap.size 4 1 (.slice (some ⟨w.heap.size,0,none⟩) n n) n ((List.replicate q false++b::t).map Value.bool))∧Hid (Below w.heap.size w wr)) (fun jv _=>n-(intOf jv).toNat)
  case atStart=>exact⟨q+1,false,Nat.le_refl _,by omega,by go_num,Lib.hid (by rw[Nat.sub_self];rfl),HT0,HB⟩
  case round=>
   obtain⟨j,b,hj0,hj,rfl,HBV,HTJ,HBJ⟩:=hrel
   have hzj:=HBJ.out.size
   by_cases hlt:j<n
   ·obtain⟨tb,htb⟩: ∃tb,t[j-(q+1)]? =some tb:=⟨_,List.getElem?_eq_getElem (by rw[HTL.out];omega)⟩
    obtain⟨c,hc⟩: ∃c,hs[j]? =some c:=⟨_,List.getElem?_eq_getElem (by rw[HHN.out];exact hlt)⟩
    have dT:wr.cell? ⟨w.heap.size,j,none⟩=some (.bool tb):=mx_at HTJ.out (by rw[List.getElem?_map,tab_at hj0,htb];rfl)
    obtain⟨A2,c2,hA2,_,_,hxs⟩:=HH.out.lt
    simp only[Value.slice.injEq]at hA2
    obtain⟨rfl,-,rfl⟩:=hA2
    obtain⟨g,o,uc,rfl,hg,_,dC,huc⟩:=hxs j c hc
    obtain⟨A3,c3,hA3,_,_,hys⟩:=HU.out
    simp only[Value.slice.injEq]at hA3
    obtain⟨rfl,-,rfl⟩:=hA3
    obtain⟨g2,o2,rfl,hg2,_,dU⟩:=hys q x HX.out
    have dC:=(HBJ.out.cell (p:=⟨g,o+j,none⟩) hg).trans dC
    have dU:=(HBJ.out.cell (p:=⟨g2,o2+q,none⟩) hg2).trans dU
    have huc:=huc.below HBJ.out
    have HCC:=HCL.out c (List.mem_of_getElem? hc)
    have hST:=any_take (F:=fun p:List Int×Bool=>p.2&&p.1.contains (-x)) (l:=(hs.drop (q+1)).zip t) (i:=j-(q+1)) (x:=(c,tb)) (by
     rw[List.getElem?_zip_eq_some]
     exact⟨by rw[List.getElem?_drop,show q+1+(j-(q+1))=j by omega];exact hc,htb⟩)
    rw[←HBV.out,show j-(q+1)+1=j+1-(q+1) by omega]at hST
    have HST:=Lib.hid hST
    have HUC:=Lib.hid huc
    obtain⟨Au,cu,rfl,_⟩:=huc
    have hgw:g<wr.heap.size:=Nat.lt_of_lt_of_le hg hzj
    have hgw2:g2<wr.heap.size:=Nat.lt_of_lt_of_le hg2 hzj
    have hw1:=(own_lt HTJ.out w.heap.size rfl).2
    have hjn:(j:Int)<(n:Int):=by omega
    have hj00:(0:Int)≤(j:Int):=by omega
    have hwj:IntKind.i64.wrap ((j:Int)+1)=(j:Int)+1:=IntWalk.i64_in _ (by omega)
    clear hxs hys hc htb hST
    cases tb with
    | false=>
     have HN:=Lib.hid (show b=(((hs.drop (q+1)).zip t).take (j+1-(q+1))).any fun p=>p.2&&p.1.contains (-x)from by rw[HST.out,Bool.false_and,Bool.or_false])
     go_upto_region 9 with fail
     refine wp_region_held_drew (S:=fun X=>Below wr.heap.size wr X) (by kernel_rfl) (mx_drew wr) (fun hS=>?_)
     obtain⟨xD,hxD⟩: ∃z,wr.drew=z:=⟨_,rfl⟩
     rw[hxD]at hS⊢
     clear hxD
     refine takeE 0 33 ?_
     refine takeE 1 34 ?_
     refine takeE 2 35 ?_
     refine takeF 3 36 (fun wq hSw=>(hSw.cell (p:=⟨w.heap.size,j,none⟩) hw1).trans dT) ?_
     refine takeE 4 37 ?_
     refine takeU 5 38 ?_
     refine takeU 6 39 ?_
     refine takeU 7 40 ?_
     refine takeU 8 41 ?_
     refine takeU 9 42 ?_
     refine takeU 10 43 ?_
     refine takeU 11 44 ?_
     refine takeU 12 45 ?_
     refine takeU 13 46 ?_
     refine ready1 14 (fun KK hKK=>?_)
     refine(if_neg (by intro hh;exact Bool.false_ne_true hh)).mpr ?_
     refine hKK.out _ _ hS (fun _=>?_)
     clear hKK
     refine takeE 15 48 (v:=.bool false) ?_
     refine wpAnyH_done (by kernel_rfl) ?_ _
     have HBN:=Lib.hid (HBJ.out.trans (hS.mono hzj))
     have HTJ2:=Lib.hid (own_below HTJ.out hS)
     clear hS dT dC dU
     go_wp2_with fail
     go_roundw
     case rel=>exact⟨j+1,b,by omega,by omega,by go_num,HN,HTJ2,HBN⟩
     case measure=>simp[intOf];omega
    | true=>
     obtain⟨cb,hcb⟩: ∃cb,c.contains (-x)=cb:=⟨_,rfl⟩
     have HHC:=Lib.hid (fun(X:World) (hX:Below wr.heap.size wr X)=>HHAS.out X (.slice Au c.length cu) c (-x) (HUC.out.below hX) HCC)
     have hST:=HST.out
     simp only[hcb,Bool.true_and]at hST
     rw[hcb]at HHC
     have HST2:=Lib.hid hST
     clear hST hcb
     go_upto_region 9 with fail
     refine wp_region_held_drew (S:=fun X=>Below wr.heap.size wr X) (by kernel_rfl) (mx_drew wr) (fun hS=>?_)
     obtain⟨xD,hxD⟩: ∃z,wr.drew=z:=⟨_,rfl⟩
     rw[hxD]at hS⊢
     clear hxD
     refine takeE 0 33 ?_
     refine takeE 1 34 ?_
     refine takeE 2 35 ?_
     refine takeF 3 36 (fun wq hSw=>(hSw.cell (p:=⟨w.heap.size,j,none⟩) hw1).trans dT) ?_
     refine takeE 4 37 ?_
     refine takeE 5 38 ?_
     refine takeE 6 39 ?_
     refine takeE 7 40 ?_
     refine takeF 8 41 (fun wq hSw=>(hSw.cell (p:=⟨g,o+j,none⟩) hgw).trans dC) ?_
     refine takeE 9 42 ?_
     refine takeE 10 43 ?_
     refine takeE 11 44 ?_
     refine takeF 12 45 (fun wq hSw=>(hSw.cell (p:=⟨g2,o2+q,none⟩) hgw2).trans dU) ?_
     refine takeE 13 46 (v:=.int .i64 (-x)) ?_
     refine ready1 14 (fun KK hKK=>?_)
     go_simp
     refine(HHC.out _ hS).mono ?_
     rintro e w' ⟨rfl,rfl⟩
     refine hKK.out _ _ hS (fun _=>?_)
     clear hKK
     refine takeE 15 48 (v:=.bool cb) ?_
     refine wpAnyH_done (by kernel_rfl) ?_ _
     have HBN:=Lib.hid (HBJ.out.trans (hS.mono hzj))
     have HTJ2:=Lib.hid (own_below HTJ.out hS)
     clear hS dT dC dU
     cases cb with
     | false=>
      have HN:=Lib.hid (show b=(((hs.drop (q+1)).zip t).take (j+1-(q+1))).any fun p=>p.2&&p.1.contains (-x)from by rw[HST2.out,Bool.or_false])
      go_wp2_with fail
      go_roundw
      case rel=>exact⟨j+1,b,by omega,by omega,by go_num,HN,HTJ2,HBN⟩
      case measure=>simp[intOf];omega
     | true=>
      have HN:=Lib.hid (show true=(((hs.drop (q+1)).zip t).take (j+1-(q+1))).any fun p=>p.2&&p.1.contains (-x)from by rw[HST2.out,Bool.or_true])
      have d1:xD.cell? ⟨w.heap.size,q,none⟩=some (.bool b):=mx_at HTJ2.out (by rw[List.getElem?_map,List.getElem?_append_right (by simp),List.length_replicate,Nat.sub_self];rfl)
      have f1:=own_freew HTJ2.out q
      have HT3:=Lib.hid (by have:=own_setw q HTJ2.out (.bool true);rwa [tab_set]at this)
      have HB3:=Lib.hid (below_setw HBN.out HBN.out.size (Nat.le_refl _) q (.bool true))
      go_wp2_with fail
      go_roundw
      case rel=>exact⟨j+1,true,by omega,by omega,by go_num,HN,HT3,HB3⟩
      case measure=>simp[intOf];omega
   ·obtain rfl:j=n:=by omega
    have HBF:=Lib.hid (show rNd hs us j (j-q)=b::t from by
     rw[HTN.out,HBV.out,List.take_of_length_le]
     rw[List.length_zip,HTL.out]
     exact Nat.min_le_right _ _)
    go_wp2_with fail
    go_roundw
    case rel=>exact⟨q,_,rfl,by omega,rfl,Lib.hid (by rw[HBF.out];exact HTJ.out),HBJ⟩
    case measure=>simp[intOf]
end Go.Proofs.YtajbmjpodeilpaaGreat
