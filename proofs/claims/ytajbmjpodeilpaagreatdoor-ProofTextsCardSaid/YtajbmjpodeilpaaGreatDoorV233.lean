/- Reference of layer 7: Read. package salvorlaw10: texts: Text against the reference. slices.ContainsFunc at steps; salvorlaw08.Few, salvorlaw10.few. -/
import Derived.Test.YtajbmjpodeilpaaGreatDoorV232
import Derived.Test.YtajbmjpodeilpaaGreatDoorV226
import Derived.Test.YtajbmjpodeilpaaGreatDoorV230
import Derived.Test.YtajbmjpodeilpaaGreatDoorV229
import Derived.Test.YtajbmjpodeilpaaGreatDoorV203
namespace Go.Proofs.YtajbmjpodeilpaaGreatDoor
open Go.RowKit
theorem over_two (b0 b1:UInt8) (r:List UInt8):overB (b0::b1::r)=((b0==99)&&(b1==32)):=by
 unfold overB Lib.hasPrefix
 rw[decide_eq_false (fun h=>by cases h),decide_eq_false (fun h=>by cases h),Bool.false_or,Bool.false_or,List.isPrefixOf_cons_cons,List.isPrefixOf_cons_cons,List.isPrefixOf_nil_left,Bool.and_true,Bool.eq_iff_iff,Bool.and_eq_true,Bool.and_eq_true,beq_iff_eq,beq_iff_eq,beq_iff_eq,beq_iff_eq]
 exact⟨fun h=>⟨h.1.symm,h.2.symm⟩,fun h=>⟨h.1.symm,h.2.symm⟩⟩
theorem over_one (b:UInt8):overB [b]=(b==99):=by
 unfold overB Lib.hasPrefix
 rw[decide_eq_false (fun h=>by cases h),Bool.false_or,List.isPrefixOf_cons_cons]
 by_cases h:b=99
 ·subst h
  rfl
 ·rw[decide_eq_false (fun e=>h (List.cons.inj e).1),beq_eq_false_iff_ne.2 (Ne.symm h),beq_eq_false_iff_ne.2 h]
  rfl
theorem pre_two (b0 b1:UInt8) (r:List UInt8):(((⟨(b0::b1::r).toArray⟩:ByteArray).extract 0 2).toList== [99,32])=((b0==99)&&(b1==32)):=by
 rw[ByteArray.toList_eq,ext_seg]
 show([b0,b1]== [99,32])=_
 rw[Bool.eq_iff_iff,beq_iff_eq,Bool.and_eq_true,beq_iff_eq,beq_iff_eq]
 simp
theorem fits_first {s:EStep} (h:stepB s=true):fitsB s 0=true:=by
 unfold stepB at h
 unfold fitsB
 simp only[Bool.and_eq_true,Bool.not_eq_true',Bool.or_eq_false_iff,decide_eq_false_iff_not,Bool.and_eq_false_iff]at h
 rw[Bool.or_eq_true,Bool.and_eq_true,decide_eq_true_eq,decide_eq_true_eq]
 obtain⟨⟨⟨⟨h1,h2⟩,h0⟩,_⟩,_⟩:=h
 by_cases hz:s.id=0
 ·refine .inr ⟨?_,hz⟩
  cases hd:s.del with
  | true=>rfl
  | false=>
   exfalso
   simp[hd,hz]at h0
 ·exact .inl (by omega)
theorem fits_bad (sd:Bool) (si z:Int) (sl sh:List Int):(decide (si<z)||(!sd&&(si==z)))= !(fitsB ⟨sd,si,sl,sh⟩ z):=by
 unfold fitsB
 simp only
 cases sd with
 | true=>
  simp only[Bool.not_true,Bool.false_and,Bool.or_false,Bool.true_and]
  rw[Bool.eq_iff_iff,decide_eq_true_eq,Bool.not_eq_true',Bool.or_eq_false_iff,decide_eq_false_iff_not,decide_eq_false_iff_not]
  omega
 | false=>
  simp only[Bool.not_false,Bool.true_and,Bool.false_and,Bool.or_false]
  rw[Bool.eq_iff_iff,Bool.or_eq_true,decide_eq_true_eq,beq_iff_eq,Bool.not_eq_true',decide_eq_false_iff_not]
  omega
theorem res_n3 {fn:Func} (h:fn.results= #[.tmp 2,.tmp 3,.tmp 4]) (tmps:Array Value) (w:World):(results fn tmps).run Tryz.prog w= .ok (.tuple #[tmps.getD 2 undef,tmps.getD 3 undef,tmps.getD 4 undef]) w:=by
 simp[results,h,go_sem]
def RdOut (n0:Nat) (w':World) (e:Ending) (F:List EStep×Nat×Nat):Prop:= ∃v K,e= .returned (.tuple #[v,.int .i64 (F.2.1:Nat),.int .i64 (F.2.2:Nat)])∧RStM n0 w' v K∧K.map Prod.fst=F.1
theorem RdOut.none (n0:Nat) (w':World) (a b:Nat):RdOut n0 w' (.returned (.tuple #[.slice none 0 0,.int .i64 (a:Nat),.int .i64 (b:Nat)])) ([],a,b):=⟨_,[],rfl,RStM.nil _ _,rfl⟩
set_option maxRecDepth 100000 in
set_option maxHeartbeats 8000000 in
theorem ref_read (S:ByteArray) (w:World) (hs:S.size≤100000):
  Calls Tryz.prog 23 #[.string S] w fun e w'=>RdOut w.heap.size w' e (readF S.data.toList)∧Below w.heap.size w w':=by
 obtain⟨i0,hi0,iz0,iz1,iz2⟩:=info_parts rstinfo
 obtain⟨F,hF⟩: ∃F,readF S.data.toList=F:=⟨_,rfl⟩
 rw[hF]
 unfold readF at hF
 rw[drop_size,if_neg (by omega),←wds_zero]at hF
 have HF:=Lib.hid hF
 have hg:=get_bt S
 clear hF
 go_enter Tryz.func23,Tryz.ntmps23
 go_wp2_with fail
 go_loopw [5,6,7,8] (fun v av jv iv wr=> ∃(i a j:Nat) (K:List StV) (z:Int),iv= .int .i64 (i:Nat)∧av= .int .i64 (a:Nat)∧jv= .int .i64 (j:Nat)∧i≤S.size+1∧a≤i∧j≤i∧Hid (K.length≤j)∧Hid (NoNl S a i)∧Hid (readGo j (wds S a i) (K.map Prod.fst) z=F)∧Hid (RStM w.heap.size wr v K)∧Hid (LastOk K z)∧Hid (Below w.heap.size w wr)) (fun _ _ _ iv _=>S.size+1-(intOf iv).toNat)
 case atStart=>exact⟨0,0,0,[],0,rfl,rfl,rfl,Nat.zero_le _,Nat.le_refl _,Nat.le_refl _,Lib.hid (Nat.le_refl _),Lib.hid (noNl_self S 0),HF,Lib.hid (RStM.nil _ _),Lib.hid LastOk.nil,Lib.hid (Below.refl _ _)⟩
 case round=>
  obtain⟨i,a,j,K,z,rfl,rfl,rfl,hi,ha,hj,HKL,HNN,HG,HK,HLO,HB⟩:=hrel
  obtain⟨Ao,co,rfl,hco⟩:=mx_slice HK.out.row
  have hzw:=HB.out.size
  by_cases hlt:i≤S.size
  ·have q0:decide ((i:Int)≤(S.size:Int))=true:=decide_eq_true (by omega)
   have w1:IntKind.i64.wrap ((i:Int)+1)=((i+1:Nat):Int):=by rw[show(i:Int)+1=((i+1:Nat):Int) by omega];exact IntWalk.i64_in _ (by omega)
   have w2:IntKind.i64.wrap ((j:Int)+1)=((j+1:Nat):Int):=by rw[show(j:Int)+1=((j+1:Nat):Int) by omega];exact IntWalk.i64_in _ (by omega)
   obtain⟨c,hc⟩: ∃c,(decide (i<S.size)&&(bt S i != 10))=c:=⟨_,rfl⟩
   have HC:=Lib.hid hc
   go_upto_region 8 with fail
   go_cut [31] (fun v wx=>v= .bool c∧wx=wr)
   case first=>
    have q10:=u8_bne (bt S i) 10
    rw[show((10:UInt8).toNat:Int)=10 from rfl]at q10
    by_cases h1:i<S.size
    ·have d1:decide ((i:Int)<(S.size:Int))=true:=decide_eq_true (by omega)
     rw[decide_eq_true h1,Bool.true_and]at hc
     rw[hc]at q10
     clear hc
     go_wp2_with fail
     go_meet
     exact⟨rfl,rfl⟩
    ·have d1:decide ((i:Int)<(S.size:Int))=false:=decide_eq_false (by omega)
     rw[decide_eq_false h1,Bool.false_and]at hc
     subst hc
     have h1:S.size≤i:=by omega
     go_wp2_with fail
     go_meet
     exact⟨rfl,rfl⟩
   case rest=>
    obtain⟨rfl,hwc⟩:=hcut
    rw[hwc]
    clear hwc wc hc q0
    cases c with
    | true=>
     have HN2:=Lib.hid (show NoNl S a (i+1)∧wds S a (i+1)=wds S a i from by
      have h:=HC.out
      rw[Bool.and_eq_true,decide_eq_true_eq,bne_iff_ne]at h
      exact⟨HNN.out.step ha h.1 h.2,wds_next h.1⟩)
     go_wp2_with fail
     go_roundw
     case rel=>exact⟨i+1,a,j,K,z,by go_num,rfl,rfl,by omega,by omega,by omega,HKL,Lib.hid HN2.out.1,Lib.hid (by rw[HN2.out.2];exact HG.out),HK,HLO,HB⟩
     case measure=>simp[intOf];omega
    | false=>
     have HGX:=Lib.hid (show readGo j ((S.extract a i).data.toList::wds S (i+1) (i+1)) (K.map Prod.fst) z=F from by
      rw[←wds_line HNN.out ha hlt (fun h=>by
       have h2:=HC.out
       rw[decide_eq_true h,Bool.true_and,bne_eq_false_iff_eq]at h2
       exact h2)]
      exact HG.out)
     have HN1:=Lib.hid (noNl_self S (i+1))
     obtain⟨T,hT⟩: ∃T,S.extract a i=T:=⟨_,rfl⟩
     have hTs:T.size≤100000:=by rw[←hT];simp[ByteArray.size_extract];omega
     rw[hT]at HGX
     obtain⟨i2,hi2⟩: ∃i2,i+1=i2:=⟨_,rfl⟩
     obtain⟨j2,hj2⟩: ∃j2,j+1=j2:=⟨_,rfl⟩
     rw[hi2]at w1 HGX HN1
     rw[hj2]at w2
     clear HC HNN HG
     go_upto_region 12 with fail
     try rw[hT]
     clear hT
     obtain⟨t,ht⟩: ∃t,T.data.toList=t:=⟨_,rfl⟩
     have hTt:T=⟨t.toArray⟩:=by rw[←ht]
     have htl:t.length≤100000:=by rw[←ht,drop_size];exact hTs
     rw[ht]at HGX
     subst hTt
     clear ht hTs
     obtain⟨ov,hov⟩: ∃ov,overB t=ov:=⟨_,rfl⟩
     go_cut [55] (fun v wx=>v= .bool ov∧wx=wr)
     case first=>
      clear HGX HKL HK HLO HN1 w1 w2 HB hg hzw hi ha hj hlt hi2 hj2 htl hs HF iz0 iz1 iz2 hi0 hco
      cases t with
      | nil=>
       have hv:true=ov:=hov
       subst hv
       go_wp2_with fail
       go_meet
       exact⟨rfl,rfl⟩
      | cons b r=>
       cases r with
       | nil=>
        rw[over_one]at hov
        cases ov with
        | true=>
         obtain rfl:=beq_iff_eq.1 hov
         go_wp2_with fail
         go_meet
         exact⟨rfl,rfl⟩
        | false=>
         go_wp2_with fail
         go_meet
         exact⟨rfl,rfl⟩
       | cons b1 r=>
        rw[over_two,←pre_two b b1 r]at hov
        go_wp2_with fail
        go_meet
        exact⟨rfl,rfl⟩
     case rest=>
      obtain⟨rfl,hwc⟩:=hcut
      rw[hwc]
      clear hwc wc
      cases ov with
      | true=>
       have HG2:=Lib.hid (show readGo j2 (wds S i2 i2) (K.map Prod.fst) z=F from by
        have h:=HGX.out
        rw[readGo,if_pos hov,hj2]at h
        exact h)
       clear HGX hov
       go_wp2_with fail
       go_roundw
       case rel=>exact⟨i2,i2,j2,K,z,rfl,rfl,rfl,by omega,by omega,by omega,Lib.hid (by have:=HKL.out;omega),HN1,HG2,HK,HLO,HB⟩
       case measure=>simp[intOf];omega
      | false=>
       have HG2:=Lib.hid (show(match parseF t with
        | none=>([],j2,71)
        | some s=>if fitsB s z=false then([],j2,70)else if(K.map Prod.fst).length=262144 then([],j2,5)else readGo j2 (wds S i2 i2) (K.map Prod.fst++ [s]) s.id)=F from by
        have h:=HGX.out
        rw[readGo,if_neg (by rw[hov];decide),hj2]at h
        exact h)
       have hpa:=ref_parse ⟨t.toArray⟩ wr (by show t.toArray.size≤900000;rw[List.size_toArray];omega)
       rw[show(⟨t.toArray⟩:ByteArray).data.toList=t from by simp,rParse_eq]at hpa
       obtain⟨P,hP⟩: ∃P,parseF t=P:=⟨_,rfl⟩
       have HSB:=Lib.hid (show∀s,P=some s→stepB s=true from fun s h=>(rParse_some (t:=t) (by rw[rParse_eq,hP,h])).1)
       rw[hP]at hpa HG2
       have HPA:=Lib.hid hpa
       have hkm:=HKL.out
       obtain⟨m,hm⟩: ∃m,K.length=m:=⟨_,rfl⟩
       rw[hm]at hkm⊢
       have HM:=Lib.hid hm
       clear hP hpa hov HGX hm
       go_wp2_with fail
       refine HPA.out.mono ?_
       rintro e w3 ⟨hpo,hb3⟩
       have HB3:=Lib.hid hb3
       have hz3:=hb3.size
       clear hb3 HPA
       cases P with
       | none=>
        unfold POut at hpo
        subst hpo
        obtain⟨W4,hW4,hb4,hx4,hz4⟩:=al_new w3 #[.bool false,.int .i64 0,.slice none 0 0,.slice none 0 0] 83
        have HB4:=Lib.hid (HB.out.trans ((HB3.out.trans (hb4.mono hz3)).mono hzw))
        have HW4:=Lib.hid hW4
        clear hb4 hx4 hz4 hW4
        go_upto_region 14 with fail
        rw[HW4.out]
        go_wp2_with fail
        refine bodyPost_ret (res_n3 rfl _ _) rfl ?_
        refine⟨?_,HB4.out⟩
        rw[←HG2.out]
        exact⟨_,[],rfl,RStM.nil _ _,rfl⟩
       | some s=>
        obtain⟨Al,cl,Ah,ch,rfl,hol,hoh⟩:=hpo
        have hsb:=HSB.out s rfl
        obtain⟨sd,si,sl,sh⟩:=s
        simp only at hol hoh
        obtain⟨W4,hW4,hb4,hx4,hz4⟩:=al_new w3 #[.bool sd,.int .i64 si,.slice Al sl.length cl,.slice Ah sh.length ch] 83
        have HBr4:=Lib.hid (HB3.out.trans (hb4.mono hz3))
        have HB4:=Lib.hid (HB.out.trans (HBr4.out.mono hzw))
        have HOL4:=Lib.hid (own_below hol hb4)
        have HOH4:=Lib.hid (own_below hoh hb4)
        have HX4:=Lib.hid hx4
        have HK4:=Lib.hid (HK.out.below HBr4.out)
        obtain⟨bad,hbad⟩: ∃bad,(decide (0<m)&&(decide (si<z)||(!sd&&(si==z))))=bad:=⟨_,rfl⟩
        have HBAD:=Lib.hid (show bad=true→fitsB ⟨sd,si,sl,sh⟩ z=false from fun h=>by
         rw[h,Bool.and_eq_true,fits_bad sd si z sl sh,Bool.not_eq_true']at hbad
         exact hbad.2)
        have HGOOD:=Lib.hid (show bad=false→fitsB ⟨sd,si,sl,sh⟩ z=true from fun h=>by
         rw[h,Bool.and_eq_false_iff,fits_bad sd si z sl sh,Bool.not_eq_false']at hbad
         rcases hbad with h1|h1
         ·have hk0:K= []:=List.length_eq_zero_iff.1 (by have:=of_decide_eq_false h1;have:=HM.out;omega)
          rw[HLO.out.1 hk0]
          exact fits_first hsb
         ·exact h1)
        have hz34:w3.heap.size<W4.heap.size:=by omega
        have x0:=mx_cell (j:=0) hx4
        have x1:=mx_cell (j:=1) hx4
        have HW4:=Lib.hid hW4
        clear hb4 hx4 hz4 hol hoh hsb HSB hW4
        go_upto_region 17 with fail
        rw[HW4.out]
        go_cut [94] (fun v wx=>v= .bool bad∧Hid (Below W4.heap.size W4 wx))
        case first=>
         by_cases hm0:m=0
         ·subst hm0
          have hb:false=bad:=hbad
          subst hb
          go_quiet (fail)
          go_wp2_with fail
          go_meet
          exact⟨rfl,Lib.hid (mx_drewN _ _)⟩
         ·obtain⟨q,hq⟩: ∃q,m=q+1:=⟨m-1,by omega⟩
          subst hq
          rw[decide_eq_true (show 0<q+1 by omega),Bool.true_and]at hbad
          obtain⟨x,hx⟩: ∃x,K[q]? =some x:=⟨_,List.getElem?_eq_getElem (by have:=HM.out;omega)⟩
          have hxz:x.1.id=z:=HLO.out.2 x (by rw[HM.out,Nat.add_sub_cancel];exact hx)
          obtain⟨e0,e1,e2,e3⟩:=stcell_at K q x hx
          have hrow:=HK4.out.row
          rw[HM.out]at hrow
          obtain⟨gO,ccO,csO,hvO,hgO⟩:=mx_some hrow (by omega)
          simp only[Value.slice.injEq]at hvO
          obtain⟨rfl,-,rfl⟩:=hvO
          have k1:=mx_at hrow e1
          rw[hxz]at k1
          have wq:IntKind.i64.wrap ((q:Int)+1-1)=(q:Int):=by rw[show(q:Int)+1-1=(q:Int) by omega];exact IntWalk.i64_in _ (by omega)
          obtain⟨c1,hc1⟩: ∃c,decide (si<z)=c:=⟨_,rfl⟩
          obtain⟨c2,hc2⟩: ∃c,(si==z)=c:=⟨_,rfl⟩
          rw[hc1,hc2]at hbad
          clear e0 e1 e2 e3 hrow hx hxz HBAD HGOOD
          cases c1 with
          | true=>
           have hb:true=bad:=hbad
           subst hb
           go_quiet (fail)
           go_wp2_with fail
           go_meet
           exact⟨rfl,Lib.hid (mx_drewN _ _)⟩
          | false=>
           cases sd with
           | true=>
            have hb:false=bad:=hbad
            subst hb
            go_quiet (fail)
            go_wp2_with fail
            go_meet
            exact⟨rfl,Lib.hid (mx_drewN _ _)⟩
           | false=>
            have hb:c2=bad:=hbad
            subst hb
            go_quiet (fail)
            go_wp2_with fail
            go_meet
            exact⟨rfl,Lib.hid (mx_drewN _ _)⟩
        case rest=>
         obtain⟨rfl,HB5⟩:=hcut
         obtain⟨w5,rfl⟩: ∃x:World,x=wc:=⟨_,rfl⟩
         have HX5:=Lib.hid ((HB5.out.block _ (heap_lt HX4.out)).trans HX4.out)
         have HBr5:=Lib.hid (HBr4.out.trans (HB5.out.mono HBr4.out.size))
         have HB5w:=Lib.hid (HB.out.trans (HBr5.out.mono hzw))
         have HOL5:=Lib.hid (own_below HOL4.out HB5.out)
         have HOH5:=Lib.hid (own_below HOH4.out HB5.out)
         have HK5:=Lib.hid (HK4.out.below HB5.out)
         have hz5:=HB5.out.size
         clear x0 x1 hbad
         cases bad with
         | true=>
          have HFE:=Lib.hid (show(([],j2,70):List EStep×Nat×Nat)=F from by
           have:=HG2.out
           simp only[HBAD.out rfl,if_pos]at this
           exact this)
          go_wp2_with fail
          refine bodyPost_ret (res_n3 rfl _ _) rfl ?_
          refine⟨?_,HB5w.out⟩
          rw[←HFE.out]
          exact RdOut.none _ _ _ _
         | false=>
          have hm262:m≠262144:=by omega
          have qm:((m:Int)==262144)=false:=by rw[beq_eq_false_iff_ne];omega
          have HG3:=Lib.hid (show readGo j2 (wds S i2 i2) ((K++ [((⟨sd,si,sl,sh⟩:EStep),(Al,cl),(Ah,ch))]).map Prod.fst) si=F from by
           have:=HG2.out
           simp only[HGOOD.out rfl]at this
           rw[if_neg (by decide),if_neg (by rw[List.length_map,HM.out];exact hm262)]at this
           rw[List.map_append]
           exact this)
          have y0:=mx_cell (j:=0) HX5.out
          have y1:=mx_cell (j:=1) HX5.out
          have y2:=mx_cell (j:=2) HX5.out
          have y3:=mx_cell (j:=3) HX5.out
          have hrow5:=HK5.out.row
          rw[HM.out]at hrow5
          have HROW:=Lib.hid hrow5
          clear hrow5
          go_wp2_with (at_builtin;refine wpList_append_own_at _ rfl _ _ 60 rfl w.heap.size 83 i0 (.agg #[.bool false,.int .i64 0,.slice none 0 0,.slice none 0 0]) 4 64 Tryz.underlying60 hi0 iz0 iz1 iz2 rfl (by decide) _ m _ rfl (own_below HROW.out (mx_al w5 _)) ⟨w5.heap.size,0,none⟩ 1 1 [.bool sd,.int .i64 si,.slice Al sl.length cl,.slice Ah sh.length ch] rfl rfl (fun jj uu hj=>cells_list_new w5 [.bool sd,.int .i64 si,.slice Al sl.length cl,.slice Ah sh.length ch] 83 jj uu hj) (by simp[Value.oneCell']) (by unfold maxLen;omega) (by omega) (by simp;omega) ?_;intro v' w9 hown hgrow hnl hat;obtain⟨Aw,kw,hv2,_⟩:=mx_slice hown;subst hv2;have HOWN:=Lib.hid hown;have HG9:=Lib.hid hgrow;clear hown hgrow hnl hat)
          have hal:=mx_al w5 (.cells #[.bool sd,.int .i64 si,.slice Al sl.length cl,.slice Ah sh.length ch] 83)
          have HP:=Lib.hid (RStM.push (HK5.out.below hal) (by have h:(w5.alloc (.cells #[.bool sd,.int .i64 si,.slice Al sl.length cl,.slice Ah sh.length ch] 83)).grownBy w9 (Value.slice Ao m co).ownBlock:=HG9.out;rwa [←HM.out]at h) ((⟨sd,si,sl,sh⟩:EStep),(Al,cl),(Ah,ch)) (by rw[HM.out];exact HOWN.out) (own_mono (own_below HOL5.out hal) hzw) (own_mono (own_below HOH5.out hal) hzw))
          have HB9:=Lib.hid ((HB5w.out.trans (hal.mono (by have:=HB5w.out.size;omega))).grown HG9.out (by simp;have:=HB5w.out.size;omega) (fun g hg=>(own_lt HROW.out g hg).1))
          have hkl2:(K++ [((⟨sd,si,sl,sh⟩:EStep),(Al,cl),(Ah,ch))]).length=m+1:=by rw[List.length_append,HM.out];rfl
          have HKL2:=Lib.hid (show(K++ [((⟨sd,si,sl,sh⟩:EStep),(Al,cl),(Ah,ch))]).length≤j2 from by rw[hkl2];omega)
          have HLO2:=Lib.hid (LastOk.push K ((⟨sd,si,sl,sh⟩:EStep),(Al,cl),(Ah,ch)))
          clear hkl2
          go_roundw
          case rel=>exact⟨i2,i2,j2,_,si,rfl,rfl,rfl,by omega,by omega,by omega,HKL2,HN1,HG3,HP,HLO2,HB9⟩
          case measure=>simp[intOf];omega
  ·have q0:decide ((i:Int)≤(S.size:Int))=false:=decide_eq_false (by omega)
   have HFE:=Lib.hid (show(K.map Prod.fst,0,0)=F from by
    have:=HG.out
    rwa [wds_end (by omega),readGo]at this)
   go_wp2_with fail
   refine bodyPost_ret (res_n3 rfl _ _) rfl ?_
   refine⟨?_,HB.out⟩
   rw[←HFE.out]
   exact⟨_,K,rfl,HK.out,rfl⟩
end Go.Proofs.YtajbmjpodeilpaaGreatDoor
namespace Go.Proofs.YtajbmjpodeilpaaGreatDoor
open Go.RowKit
theorem tx_agg (vn:Int) (cs:List (List Int)) (t:List UInt8): ∃(a:Bool) (b c d e:Int) (n E:Nat),txOut vn cs t= .tuple #[.agg #[.bool a,.int .i64 b,.int .i64 c,.int .i64 d,.int .i64 e],.int .i64 (n:Nat),.int .i64 (E:Nat)]∧
  (((fchk vn cs).2≠0∧(a=false∧b=0∧c=0∧d=0∧e=0)∧n=0∧E=(fchk vn cs).2)∨
   ((fchk vn cs).2=0∧(readF t).2.2≠0∧(a=false∧b=0∧c=0∧d=0∧e=0)∧n=(readF t).2.1∧E=(readF t).2.2)∨
   ((fchk vn cs).2=0∧(readF t).2.2=0∧rcOut vn cs (readF t).1= .tuple #[.agg #[.bool a,.int .i64 b,.int .i64 c,.int .i64 d,.int .i64 e],.int .i64 (n:Nat),.int .i64 (E:Nat)])):=by
 unfold txOut
 by_cases h1:(fchk vn cs).2≠0
 ·rw[if_pos h1]
  exact⟨false,0,0,0,0,0,_,rfl,.inl ⟨h1,⟨rfl,rfl,rfl,rfl,rfl⟩,rfl,rfl⟩⟩
 rw[if_neg h1]
 by_cases h2:(readF t).2.2≠0
 ·rw[if_pos h2]
  exact⟨false,0,0,0,0,_,_,rfl,.inr (.inl ⟨by omega,h2,⟨rfl,rfl,rfl,rfl,rfl⟩,rfl,rfl⟩)⟩
 rw[if_neg h2]
 obtain⟨a,b,c,d,e,n,E,h3,_⟩:=rc_agg vn cs (readF t).1
 exact⟨a,b,c,d,e,n,E,h3,.inr (.inr ⟨by omega,by omega,h3⟩)⟩
set_option maxRecDepth 100000 in
set_option maxHeartbeats 16000000 in
theorem texts_any {O:Nat→Prop} (vn:Int) (u:Value) (cs:List (List Int)) (t:List UInt8) (w:World) (h:ClsIn O w u cs) (hl:cs.length≤1000) (hcl: ∀c∈cs,c.length≤1000) (ht:t.length≤900) (hT:TabW w) (hM:MaxC w) (hE:ErrC w):
  Calls Tryz.prog 6 #[.agg #[.int .i64 vn,u],.string ⟨t.toArray⟩] w fun e w'=>e= .returned (.bool true)∧Below w.heap.size w w':=by
 obtain⟨W1,hW1,hb1,hx1,hz1⟩:=al_new w #[.int .i64 vn,u] 24
 have hlt1:=heap_lt hx1
 have HB1:=Lib.hid hb1
 have HTE:=Lib.hid (show∀W,Below w.heap.size w W→TabW W∧MaxC W∧ErrC W from fun W hW=>⟨hT.next hW,hM.below hW,hE.below hW⟩)
 have HTH:=Lib.hid (theirs_05 vn u cs W1 (h.below hb1) (by omega) (fun c hc=>by have:=hcl c hc;omega))
 have HTX:=Lib.hid (fun(X:World) (hX:Below W1.heap.size W1 X)=>text_all vn u cs t X ((h.below hb1).below hX) hl hcl ht (HTE.out X (hb1.trans (hX.mono hb1.size))).1 (HTE.out X (hb1.trans (hX.mono hb1.size))).2.1 (HTE.out X (hb1.trans (hX.mono hb1.size))).2.2)
 have HR5:=Lib.hid (fun(O1:Nat→Prop) (xv:Value) (X:World) (h1:ClsIn O1 X xv cs)=>ref_check05 vn xv cs X h1 (by omega) (fun c hc=>by have:=hcl c hc;omega))
 obtain⟨hsl,hss⟩:=readF_short ht
 have HRC:=Lib.hid (fun(O1 O2:Nat→Prop) (xv sv:Value) (X:World) (h1:ClsIn O1 X xv cs) (h2:StepIn O2 X sv (readF t).1)=>ref_check10 vn xv sv cs (readF t).1 X h1 h2 hl hcl hsl hss)
 have HRD:=Lib.hid (fun(X:World)=>by
  have h:=ref_read ⟨t.toArray⟩ X (by show t.toArray.size≤100000;rw[List.size_toArray];omega)
  rwa [show(⟨t.toArray⟩:ByteArray).data.toList=t from by simp]at h)
 obtain⟨ra,rb,rc,rd,re,rn,rE,htx,hways⟩:=tx_agg vn cs t
 rw[htx]at HTX
 obtain⟨fi,hfi⟩: ∃fi,(fchk vn cs).1=fi:=⟨_,rfl⟩
 obtain⟨E,hEE⟩: ∃E,(fchk vn cs).2=E:=⟨_,rfl⟩
 obtain⟨F,hF⟩: ∃F,readF t=F:=⟨_,rfl⟩
 rw[hfi,hEE]at HR5
 rw[hEE,hF]at hways
 rw[hF]at HRC HRD
 have HWY:=Lib.hid hways
 obtain⟨Af,cf,rfl,hcf,_⟩:=h
 have c0:=mx_cell (j:=0) hx1
 have c1:=mx_cell (j:=1) hx1
 have C0:=Lib.hid c0
 have C1:=Lib.hid c1
 have HW1:=Lib.hid hW1
 clear hcl hss hsl hb1 hx1 hW1 htx hways hfi hEE hF hT hM hE
 go_enter Tryz.func6,Tryz.ntmps6
 go_upto_region 1 with fail
 rw[HW1.out]
 go_wp2_with fail
 refine HTH.out.mono ?_
 rintro e w2 ⟨xv,rfl,hxo,hb2⟩
 obtain⟨Ax,cx,rfl,_⟩: ∃A c,xv= .slice A cs.length c∧cs.length≤c:=by
  obtain⟨us,q,_⟩:=hxo
  exact mx_slice q
 obtain⟨W3,hW3,hb3,hx3,hz3⟩:=al_new w2 #[.int .i64 vn,.slice Ax cs.length cx] 54
 have HB3:=Lib.hid (hb2.trans (hb3.mono hb2.size))
 have HXC:=Lib.hid (hxo.clsIn.below hb3)
 have HX3:=Lib.hid hx3
 have HW3:=Lib.hid hW3
 have HT3:=Lib.hid (HTX.out W3 HB3.out)
 clear hxo hb2 hb3 hx3 hW3 hz3 HTH HTX c0 c1
 go_upto_region 2 with fail
 rw[HW3.out]
 obtain⟨p5,hp5⟩: ∃p,w2.heap.size=p:=⟨_,rfl⟩
 rw[hp5]at HX3⊢
 have c0:=(HB3.out.cell (p:=⟨w.heap.size,0,none⟩) hlt1).trans C0.out
 have c1:=(HB3.out.cell (p:=⟨w.heap.size,1,none⟩) hlt1).trans C1.out
 clear hp5
 go_wp2_with fail
 refine HT3.out.mono ?_
 rintro e w4 ⟨rfl,hb4⟩
 obtain⟨W5,hW5,hb5,hx5,hz5⟩:=al_new w4 #[.bool ra,.int .i64 rb,.int .i64 rc,.int .i64 rd,.int .i64 re] 45
 have hb35:=hb4.trans (hb5.mono hb4.size)
 have HB35:=Lib.hid hb35
 have HX5:=Lib.hid hx5
 have HW5:=Lib.hid hW5
 have HX35:=Lib.hid ((hb35.block _ (heap_lt HX3.out)).trans HX3.out)
 have HXC5:=Lib.hid (HXC.out.below hb35)
 have HC5:=Lib.hid (HR5.out _ _ W5 HXC5.out)
 clear hb4 hb5 hx5 hW5 hb35 hz5 c0 c1 HT3 HR5
 go_upto_region 3 with fail
 rw[HW5.out]
 obtain⟨p6,hp6⟩: ∃p,w4.heap.size=p:=⟨_,rfl⟩
 rw[hp6]at HX5⊢
 have d0:=mx_cell (j:=0) HX35.out
 have d1:=mx_cell (j:=1) HX35.out
 clear hp6
 go_wp2_with fail
 refine HC5.out.mono ?_
 rintro e w6 ⟨rfl,hb6⟩
 have HB56:=Lib.hid hb6
 have HX6:=Lib.hid ((hb6.block _ (heap_lt HX5.out)).trans HX5.out)
 have HX36:=Lib.hid ((hb6.block _ (heap_lt HX35.out)).trans HX35.out)
 have HXC6:=Lib.hid (HXC5.out.below hb6)
 have HB6:=Lib.hid (HB1.out.trans ((HB3.out.trans ((HB35.out.trans (hb6.mono HB35.out.size)).mono HB3.out.size)).mono HB1.out.size))
 clear hb6 d0 d1 HC5
 by_cases hE0:E≠0
 ·have q0:((E:Int)==0)=false:=beq_eq_false_iff_ne.2 (by omega)
  have q1:((E:Int) != 0)=true:=by rw[bne,q0];rfl
  obtain⟨⟨rfl,rfl,rfl,rfl,rfl⟩,rfl,rfl⟩:(ra=false∧rb=0∧rc=0∧rd=0∧re=0)∧rn=0∧rE=E:=by
   rcases HWY.out with h|h|h
   ·exact h.2
   ·exact absurd h.1 hE0
   ·exact absurd h.1 hE0
  have y0:=mx_cell (j:=0) HX6.out
  have y1:=mx_cell (j:=1) HX6.out
  have y2:=mx_cell (j:=2) HX6.out
  have y3:=mx_cell (j:=3) HX6.out
  have y4:=mx_cell (j:=4) HX6.out
  go_wp2_with fail
  go_ret
  exact⟨rfl,HB6.out⟩
 have hE00:E=0:=by omega
 subst hE00
 have HR6:=Lib.hid (HRD.out w6)
 clear HRD hE0
 go_wp2_with fail
 refine HR6.out.mono ?_
 rintro e w7 ⟨⟨v,K,rfl,hK,hKm⟩,hb7⟩
 obtain⟨Av,cv,rfl,_⟩:=mx_slice hK.row
 have HX7:=Lib.hid ((hb7.block _ (heap_lt HX6.out)).trans HX6.out)
 have HX37:=Lib.hid ((hb7.block _ (heap_lt HX36.out)).trans HX36.out)
 have HB7:=Lib.hid (HB6.out.trans (hb7.mono HB6.out.size))
 have HC7:=Lib.hid (HRC.out _ _ _ _ w7 (HXC6.out.below hb7) (by have:=hK.stepIn;rwa [hKm]at this))
 obtain⟨l,ln,le⟩:=F
 simp only at HC7 HWY⊢
 clear hb7 hK hKm HR6 HRC
 by_cases hle:le≠0
 ·have q0:((le:Int)==0)=false:=beq_eq_false_iff_ne.2 (by omega)
  have q1:((le:Int) != 0)=true:=by rw[bne,q0];rfl
  obtain⟨⟨rfl,rfl,rfl,rfl,rfl⟩,rfl,rfl⟩:(ra=false∧rb=0∧rc=0∧rd=0∧re=0)∧rn=ln∧rE=le:=by
   rcases HWY.out with h|h|h
   ·exact absurd rfl h.1
   ·exact h.2.2
   ·exact absurd h.2.1 hle
  have y0:=mx_cell (j:=0) HX7.out
  have y1:=mx_cell (j:=1) HX7.out
  have y2:=mx_cell (j:=2) HX7.out
  have y3:=mx_cell (j:=3) HX7.out
  have y4:=mx_cell (j:=4) HX7.out
  go_wp2_with fail
  go_ret
  exact⟨rfl,HB7.out⟩
 have hle0:le=0:=by omega
 subst hle0
 have hrc:rcOut vn cs l= .tuple #[.agg #[.bool ra,.int .i64 rb,.int .i64 rc,.int .i64 rd,.int .i64 re],.int .i64 (rn:Nat),.int .i64 (rE:Nat)]:=by
  rcases HWY.out with h|h|h
  ·exact absurd rfl h.1
  ·exact absurd rfl h.2.1
  ·exact h.2.2
 rw[hrc]at HC7
 have d0:=mx_cell (j:=0) HX37.out
 have d1:=mx_cell (j:=1) HX37.out
 clear hle hrc HWY
 go_wp2_with fail
 refine HC7.out.mono ?_
 rintro e w8 ⟨rfl,hb8⟩
 obtain⟨W9,hW9,hb9,hx9,hz9⟩:=al_new w8 #[.bool ra,.int .i64 rb,.int .i64 rc,.int .i64 rd,.int .i64 re] 63
 have hb79:=hb8.trans (hb9.mono hb8.size)
 have HB9:=Lib.hid (HB7.out.trans (hb79.mono HB7.out.size))
 have HX9:=Lib.hid ((hb79.block _ (heap_lt HX7.out)).trans HX7.out)
 have HW9:=Lib.hid hW9
 have z0:=mx_cell (j:=0) hx9
 have z1:=mx_cell (j:=1) hx9
 have z2:=mx_cell (j:=2) hx9
 have z3:=mx_cell (j:=3) hx9
 have z4:=mx_cell (j:=4) hx9
 have y0:=mx_cell (j:=0) HX9.out
 have y1:=mx_cell (j:=1) HX9.out
 have y2:=mx_cell (j:=2) HX9.out
 have y3:=mx_cell (j:=3) HX9.out
 have y4:=mx_cell (j:=4) HX9.out
 clear hb8 hb9 hx9 hW9 hb79 hz9 d0 d1 HC7
 go_upto_region 10 with fail
 rw[HW9.out]
 go_wp2_with fail
 go_ret
 exact⟨rfl,HB9.out⟩
end Go.Proofs.YtajbmjpodeilpaaGreatDoor
namespace Go.Proofs.YtajbmjpodeilpaaGreatDoor
open Go.RowKit
def TellsSO (O:Nat→Prop) (w:World) (F:Nat) (caps:Array Value) (ss:List EStep) (P:EStep→Bool):Prop:= ∀W,Below w.heap.size w W→∀ul uh s,s∈ss→IntsIn O W ul s.lits→IntsIn O W uh s.hints→Calls Tryz.prog F (#[.agg #[.bool s.del,.int .i64 s.id,ul,uh]]++caps) W fun e w'=>e= .returned (.bool (P s))∧Below W.heap.size W w'
set_option maxRecDepth 100000 in
set_option maxHeartbeats 1000000 in
theorem index_so {Oc:Nat→Prop} (F:Nat) (caps:Array Value) (u:Value) (xs:List EStep) (P:EStep→Bool) (w:World) (heg: ∀args w,(callFunc F args).run Tryz.prog w= .ok (.enter F args) w) (h1:StepIn Oc w u xs) (hs:xs.length≤140737488355328) (hF:TellsSO Oc w F caps xs P):
  Calls Tryz.prog 46 #[u,.func (.func F) #[] caps] w fun e w'=>(∃i:Int,e= .returned (.int .i64 i)∧FstI xs P i)∧Below w.heap.size w w':=by
 have HONE:=Lib.hid hF
 have HX:=Lib.hid h1
 obtain⟨A,c,rfl,hc,_,_⟩:=h1
 clear hF
 go_enter Tryz.func46,Tryz.ntmps46
 go_wp2
 go_loopw [8] (fun i wr=> ∃k:Nat,k≤xs.length∧i= .int .i64 k∧Hid (∀j x,j<k→xs[j]? =some x→P x=false)∧Hid (Below w.heap.size w wr)) (fun i _=>xs.length-(intOf i).toNat)
 case atStart=>exact⟨0,Nat.zero_le _,rfl,Lib.hid (fun j x hj=>by omega),Lib.hid (Below.refl _ _)⟩
 case round=>
  obtain⟨k,hk,rfl,HE,HW⟩:=hrel
  by_cases hlt:k<xs.length
  ·obtain⟨x,hxk⟩:=getElem_of hlt
   obtain⟨A',c',hAc,_,_,hxs⟩:=HX.out.below HW.out
   simp only[Value.slice.injEq,true_and]at hAc
   obtain⟨rfl,rfl⟩:=hAc
   obtain⟨g,o,ul,uh,rfl,hg,_,d0,d1,d2,d3,hul,huh⟩:=hxs k x hxk
   have HXK:=Lib.hid hxk
   have hC:=HONE.out wr HW.out ul uh x (List.mem_of_getElem? hxk) hul huh
   obtain⟨b,hb⟩: ∃b,P x=b:=⟨_,rfl⟩
   rw[hb]at hC
   have HB:=Lib.hid hb
   have HC:=Lib.hid hC
   obtain⟨Au,cu,rfl,_⟩:=hul
   obtain⟨Av,cv,rfl,_⟩:=huh
   clear hxk hxs hb hC
   go_wp2_with fail
   refine HC.out.mono ?_
   rintro e w' ⟨rfl,hbw⟩
   have HB2:=Lib.hid (HW.out.trans (hbw.mono HW.out.size))
   clear hbw d0 d1 d2 d3
   cases b with
   | true=>
    go_wp2_with fail
    go_ret
    exact⟨⟨_,rfl,.inr ⟨k,rfl,hlt,HE.out,x,HXK.out,HB.out⟩⟩,HB2.out⟩
   | false=>
    go_wp2_with fail
    go_roundw
    case rel=>exact⟨k+1,by omega,by go_num,Lib.hid (FstI.step HE.out HXK.out HB.out),HB2⟩
    case measure=>simp[intOf];omega
  ·obtain rfl:k=xs.length:=by omega
   go_wp2
   go_ret
   exact⟨⟨_,rfl,FstI.none HE.out⟩,HW.out⟩
set_option maxHeartbeats 400000 in
theorem contains_so {Oc:Nat→Prop} (F:Nat) (caps:Array Value) (u:Value) (xs:List EStep) (P:EStep→Bool) (w:World) (heg: ∀args w,(callFunc F args).run Tryz.prog w= .ok (.enter F args) w) (h1:StepIn Oc w u xs) (hs:xs.length≤140737488355328) (hF:TellsSO Oc w F caps xs P):
  Calls Tryz.prog 18 #[u,.func (.func F) #[] caps] w fun e w'=>e= .returned (.bool (xs.any P))∧Below w.heap.size w w':=by
 have H0:=index_so F caps u xs P w heg h1 hs hF
 obtain⟨z,hz⟩: ∃z,xs.any P=z:=⟨_,rfl⟩
 rw[hz]
 have HZ:=Lib.hid hz
 have H:=Lib.hid H0
 clear H0 hz hF
 go_enter Tryz.func18,Tryz.ntmps18
 go_wp2_with fail
 refine H.out.mono ?_
 rintro e w' ⟨⟨i,rfl,hi⟩,hb⟩
 have HI:=Lib.hid (show decide (0≤i)=z from by rw[hi.any];exact HZ.out)
 have HB:=Lib.hid hb
 clear hi hb
 go_wp2_with fail
 go_ret
 exact⟨ret_bool HI.out,HB.out⟩
def fewO (cs:List (List Int)) (n m:Int):Bool:=decide ((cs.length:Int)≤n)&& !cs.any fun c=>decide (m<(c.length:Int))
def fewC (m:Int) (c:List Int):Bool:=decide (m<(c.length:Int))
set_option maxHeartbeats 400000 in
theorem few_one8 {O:Nat→Prop} (u:Value) (xs:List Int) (m:Int) (b:Nat) (w:World) (h:IntsIn O w u xs) (hb:w.cell? ⟨b,0,none⟩=some (.int .i64 m)):
  Calls Tryz.prog 45 #[u,.pointer (some ⟨b,0,none⟩)] w fun e w'=>e= .returned (.bool (fewC m xs))∧Below w.heap.size w w':=by
 unfold fewC
 obtain⟨A,c,rfl,_⟩:=h
 obtain⟨q,hq⟩: ∃q,decide (m<(xs.length:Int))=q:=⟨_,rfl⟩
 rw[hq]
 go_enter Tryz.func45,Tryz.ntmps45
 go_wp2_with fail
 go_ret
 exact⟨rfl,Below.refl _ _⟩
set_option maxHeartbeats 1000000 in
theorem few_08 {O:Nat→Prop} (u:Value) (cs:List (List Int)) (n m:Int) (w:World) (h1:ClsIn O w u cs) (hs:n≤1000000):
  Calls Tryz.prog 17 #[u,.int .i64 n,.int .i64 m] w fun e w'=>e= .returned (.bool (fewO cs n m))∧Below w.heap.size w w':=by
 obtain⟨W,hW,hb,hx,-⟩:=al_new w #[.int .i64 m] 3
 have hcl:=mx_cell (j:=0) hx
 have hlt:=heap_lt hx
 have H0:=fun hs=>contains_kf 45 #[.pointer (some ⟨w.heap.size,0,none⟩)] u cs (fewC m) W (enters_of Tryz.func45 (by kernel_rfl) rfl) (h1.below hb) hs (fun X hX uv c hc hu=>few_one8 uv c m w.heap.size X hu ((hX.cell (p:=⟨w.heap.size,0,none⟩) hlt).trans hcl))
 obtain⟨A,c,rfl,_⟩:=h1
 unfold fewO
 have HW:=Lib.hid hW
 have HB:=Lib.hid hb
 by_cases hl:(cs.length:Int)≤n
 ·have q1:decide ((cs.length:Int)≤n)=true:=by simpa using hl
  rw[q1,Bool.true_and]
  have H0:=H0 (by omega)
  obtain⟨z,hz⟩: ∃z,(cs.any fun c=>decide (m<(c.length:Int)))=z:=⟨_,rfl⟩
  rw[show cs.any (fewC m)=z from hz]at H0
  rw[hz]
  have H:=Lib.hid H0
  clear H0 hz hb hW hx hcl
  go_enter Tryz.func17,Tryz.ntmps17
  go_upto_region 1 with fail
  rw[HW.out]
  go_wp2_with fail
  refine H.out.mono ?_
  rintro e w' ⟨rfl,hb'⟩
  have HB':=Lib.hid (HB.out.trans (hb'.mono HB.out.size))
  clear hb'
  go_wp2_with fail
  go_ret
  exact⟨rfl,HB'.out⟩
 ·have q1:decide ((cs.length:Int)≤n)=false:=by simpa using hl
  rw[q1,Bool.false_and]
  clear H0 hb hW hx hcl
  go_enter Tryz.func17,Tryz.ntmps17
  go_upto_region 1 with fail
  rw[HW.out]
  go_wp2_with fail
  go_ret
  exact⟨rfl,HB.out⟩
def fewS (s:EStep):Bool:=decide ((10:Int)<(s.lits.length:Int))||decide ((20:Int)<(s.hints.length:Int))
set_option maxHeartbeats 1000000 in
theorem few_one10 {O:Nat→Prop} (ul uh:Value) (s:EStep) (w:World) (h:IntsIn O w ul s.lits) (h':IntsIn O w uh s.hints):
  Calls Tryz.prog 19 #[.agg #[.bool s.del,.int .i64 s.id,ul,uh]] w fun e w'=>e= .returned (.bool (fewS s))∧Below w.heap.size w w':=by
 unfold fewS
 obtain⟨d,id,xs,hs⟩:=s
 simp only at h h'⊢
 obtain⟨A,c,rfl,_⟩:=h
 obtain⟨A',c',rfl,_⟩:=h'
 obtain⟨W,hW,hb,hx,-⟩:=al_new w #[.bool d,.int .i64 id,.slice A xs.length c,.slice A' hs.length c'] 34
 have c2:=mx_cell (j:=2) hx
 have c3:=mx_cell (j:=3) hx
 have HW:=Lib.hid hW
 have HB:=Lib.hid hb
 clear hW hb hx
 by_cases h1:(10:Int)<(xs.length:Int)
 ·have q1:decide ((10:Int)<(xs.length:Int))=true:=decide_eq_true h1
  rw[q1,Bool.true_or]
  go_enter Tryz.func19,Tryz.ntmps19
  go_upto_region 1 with fail
  rw[HW.out]
  go_wp2_with fail
  go_ret
  exact⟨rfl,HB.out⟩
 ·have q1:decide ((10:Int)<(xs.length:Int))=false:=decide_eq_false h1
  rw[q1,Bool.false_or]
  obtain⟨q,hq⟩: ∃q,decide ((20:Int)<(hs.length:Int))=q:=⟨_,rfl⟩
  rw[hq]
  go_enter Tryz.func19,Tryz.ntmps19
  go_upto_region 1 with fail
  rw[HW.out]
  go_wp2_with fail
  go_ret
  exact⟨rfl,HB.out⟩
def few10 (cs:List (List Int)) (ss:List EStep):Bool:=fewO cs 30 10&&(decide ((ss.length:Int)≤30)&& !ss.any fewS)
set_option maxHeartbeats 1000000 in
theorem few_10 {O O':Nat→Prop} (vn:Int) (u v:Value) (cs:List (List Int)) (ss:List EStep) (w:World) (h:ClsIn O w u cs) (h':StepIn O' w v ss):
  Calls Tryz.prog 5 #[.agg #[.int .i64 vn,u],v] w fun e w'=>e= .returned (.bool (few10 cs ss))∧Below w.heap.size w w':=by
 obtain⟨W,hW,hb,hx,-⟩:=al_new w #[.int .i64 vn,u] 24
 have c1:=mx_cell (j:=1) hx
 have HF:=Lib.hid (few_08 u cs 30 10 W (h.below hb) (by decide))
 have HS:=Lib.hid (fun(X:World) (hX:Below W.heap.size W X) (hl:ss.length≤140737488355328)=>contains_so 19 #[] v ss fewS X (enters_of Tryz.func19 (by kernel_rfl) rfl) ((h'.below hb).below hX) hl (fun Y hY ul uh s _ h1 h2=>few_one10 ul uh s Y h1 h2))
 obtain⟨A,c,rfl,_⟩:=h
 obtain⟨A',c',rfl,_⟩:=h'
 unfold few10
 have HW:=Lib.hid hW
 have HB:=Lib.hid hb
 obtain⟨b1,hb1⟩: ∃b,fewO cs 30 10=b:=⟨_,rfl⟩
 rw[hb1]at HF⊢
 clear hW hb hx hb1
 cases b1 with
 | false=>
  rw[Bool.false_and]
  go_enter Tryz.func5,Tryz.ntmps5
  go_upto_region 1 with fail
  rw[HW.out]
  go_wp2_with fail
  refine HF.out.mono ?_
  rintro e w' ⟨rfl,hb'⟩
  have HB':=Lib.hid (HB.out.trans (hb'.mono HB.out.size))
  clear hb'
  go_wp2_with fail
  go_ret
  exact⟨rfl,HB'.out⟩
 | true=>
  rw[Bool.true_and]
  by_cases hl:(ss.length:Int)≤30
  ·have q1:decide ((ss.length:Int)≤30)=true:=decide_eq_true hl
   rw[q1,Bool.true_and]
   have hln:ss.length≤140737488355328:=by omega
   obtain⟨z,hz⟩: ∃z,ss.any fewS=z:=⟨_,rfl⟩
   rw[hz]at HS⊢
   clear hz
   go_enter Tryz.func5,Tryz.ntmps5
   go_upto_region 1 with fail
   rw[HW.out]
   go_wp2_with fail
   refine HF.out.mono ?_
   rintro e w' ⟨rfl,hb'⟩
   have HB':=Lib.hid hb'
   clear hb'
   go_wp2_with fail
   refine(HS.out w' HB'.out hln).mono ?_
   rintro e w2 ⟨rfl,hb2⟩
   have HB2:=Lib.hid (HB.out.trans ((HB'.out.trans (hb2.mono HB'.out.size)).mono HB.out.size))
   clear hb2
   go_wp2_with fail
   go_ret
   exact⟨rfl,HB2.out⟩
  ·have q1:decide ((ss.length:Int)≤30)=false:=decide_eq_false hl
   rw[q1,Bool.false_and]
   go_enter Tryz.func5,Tryz.ntmps5
   go_upto_region 1 with fail
   rw[HW.out]
   go_wp2_with fail
   refine HF.out.mono ?_
   rintro e w' ⟨rfl,hb'⟩
   have HB':=Lib.hid (HB.out.trans (hb'.mono HB.out.size))
   clear hb'
   go_wp2_with fail
   go_ret
   exact⟨rfl,HB'.out⟩
end Go.Proofs.YtajbmjpodeilpaaGreatDoor
