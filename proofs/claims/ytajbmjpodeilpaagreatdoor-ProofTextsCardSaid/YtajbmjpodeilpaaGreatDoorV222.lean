/- package rat: Check, at right entries and a right clause. package proof: Do, given what add does. -/
import Derived.Test.YtajbmjpodeilpaaGreatDoorV220
import Derived.Test.YtajbmjpodeilpaaGreatDoorV221
import Derived.Test.YtajbmjpodeilpaaGreatDoorV203
namespace Go.Proofs.YtajbmjpodeilpaaGreatDoor
open Go.RowKit Go.Shelf
theorem three_new (w:World) (a b c:Value) (t:TypeId): ∃W,w.alloc (.cells #[a,b,c] t)=W∧Below w.heap.size w W∧∀X,Below W.heap.size W X→X.cell? ⟨w.heap.size,0,none⟩=some a∧X.cell? ⟨w.heap.size,1,none⟩=some b∧X.cell? ⟨w.heap.size,2,none⟩=some c:=by
 refine⟨_,rfl,mx_al _ _,fun X hX=>?_⟩
 have hn:(w.alloc (.cells #[a,b,c] t)).heap[w.heap.size]? =some (.cells #[a,b,c] t (0,0)):=World.alloc_heap_new _ _
 have e:=(hX.block w.heap.size (heap_lt hn)).trans hn
 exact⟨mx_cell (j:=0) e,mx_cell (j:=1) e,mx_cell (j:=2) e⟩
theorem loop_step {es:Ents} {p:Int} {asg:List Int} {gs:List (Int×List Int)} {j:Nat} {g:Int×List Int} {c:List Int} (hj:gs[j]? =some g) (hc:getA es g.1=some c):ratLoop es p asg (gs.drop j) =
  if(restGo p asg [] c).2=false then ratLoop es p asg (gs.drop (j+1))else
  if(ratFol es (asg++(restGo p asg [] c).1) g.2).2.2.2≠0 then(ratFol es (asg++(restGo p asg [] c).1) g.2).2.2 else
  if(ratFol es (asg++(restGo p asg [] c).1) g.2).2.1=false then(g.1,93)else ratLoop es p asg (gs.drop (j+1)):=by
 have hlt:=(List.getElem?_eq_some_iff.1 hj).1
 rw[List.drop_eq_getElem_cons hlt]
 rw[List.getElem?_eq_getElem hlt]at hj
 rw[Option.some.inj hj]
 conv=>lhs;unfold ratLoop
 rw[hc]
 rfl
set_option maxRecDepth 100000 in
set_option maxHeartbeats 8000000 in
theorem rat_check {O Oc Oh Og:Nat→Prop} (v cv hv gv:Value) (es:Ents) (c hs:List Int) (gs:List (Int×List Int)) (w:World) (h:EntIn O w v es) (ho:EntOk es) (hc:IntsIn Oc w cv c) (hcb:clauseB c=true) (hh:IntsIn Oh w hv hs) (hg:EntIn Og w gv gs) (hhl:hs.length≤70000) (hgl:gs.length≤70000) (hgh: ∀g∈gs,g.2.length≤70000):
  Calls Tryz.prog 80 #[v,.agg #[cv,hv,gv]] w fun e w'=>e= .returned (.tuple #[.int .u8 ((ratP es c hs gs).1:Nat),.int .i64 (ratP es c hs gs).2.1,.int .i64 ((ratP es c hs gs).2.2:Nat)])∧Below w.heap.size w w':=by
 obtain⟨W,hW,hbW,hS⟩:=three_new w cv hv gv 153
 have HS:=Lib.hid hS
 have HB:=Lib.hid hbW
 have HE:=Lib.hid (fun(X:World) (hx:Below W.heap.size W X)=>(h.below hbW).below hx)
 have HC:=Lib.hid (fun(X:World) (hx:Below W.heap.size W X)=>(hc.below hbW).below hx)
 have HH:=Lib.hid (fun(X:World) (hx:Below W.heap.size W X)=>(hh.below hbW).below hx)
 have HG:=Lib.hid (fun(X:World) (hx:Below W.heap.size W X)=>(hg.below hbW).below hx)
 have HO:=Lib.hid ho
 have HCB:=Lib.hid hcb
 have HGH:=Lib.hid hgh
 have hcl:=clause_len hcb
 have hel:=ho.len
 obtain⟨R,hR⟩: ∃R,ratP es c hs gs=R:=⟨_,rfl⟩
 rw[hR]
 have HR:=Lib.hid hR
 have HRT:=Lib.hid (rat_right v es W (h.below hbW) ho)
 have HAS:=Lib.hid (fun(X:World) (hx:Below W.heap.size W X)=>rup_assume cv c X (HC.out X hx) (by omega))
 obtain⟨Ae,ce,rfl,_⟩:=h
 obtain⟨Ac,cc,rfl,_⟩:=hc
 obtain⟨Ah,ch,rfl,_⟩:=hh
 obtain⟨Ag,cg,rfl,_⟩:=hg
 clear hbW hS ho hcb hgh hR
 go_enter Tryz.func80,Tryz.ntmps80
 go_wp2_with fail
 refine wp_scope_straight ?_
 go_wp2_with fail
 refine HRT.out.mono ?_
 rintro e w1 ⟨rfl,hb1⟩
 have HB1:=Lib.hid hb1
 obtain⟨b0,b1,b2⟩:=HS.out w1 hb1
 have HA1:=HAS.out w1 hb1
 unfold AsmOut at HA1
 rw[HCB.out]at HA1
 simp only[if_true]at HA1
 unfold ratP at HR
 obtain⟨al,hal⟩: ∃b,alwL c=b:=⟨_,rfl⟩
 rw[hal]at HA1 HR
 have HAL:=Lib.hid hal
 have HAA:=Lib.hid HA1
 clear hb1 HRT HAS HA1 hal
 go_wp2_with fail
 refine HAA.out.mono ?_
 rintro e w2 ⟨ha,hb2⟩
 cases al with
 | true=>
  obtain rfl:e=_:=ha
  have HR2:=Lib.hid (HR.out.symm.trans (if_pos rfl))
  have HB2:=Lib.hid (HB.out.trans ((HB1.out.trans (hb2.mono HB1.out.size)).mono HB.out.size))
  clear hb2 HR HAA b0 b1 b2
  go_wp2_with fail
  rw[Exit.noGoto_ret]
  refine bodyPost_ret (v:=.tuple #[.int .u8 1,.int .i64 0,.int .i64 0]) (by simp[results,Tryz.results80,go_sem]) rfl ?_
  rw[HR2.out]
  exact⟨rfl,HB2.out⟩
 | false=>
  obtain⟨av,rfl,hav⟩: ∃v,e= .returned (.tuple #[v,.bool false,.int .i64 0])∧w2.ownsRow w1.heap.size 28 1 v (asmL c).length ((asmL c).map (Value.int .i64)):=ha
  have HAV:=Lib.hid hav
  obtain⟨Aa,ca,rfl,_⟩:=mx_slice hav
  have HB2:=Lib.hid (HB1.out.trans (hb2.mono HB1.out.size))
  obtain⟨f,hf⟩:=asm_some HCB.out HAL.out
  have hr2:=HR.out.symm.trans (if_neg (by decide))
  obtain⟨c0,c1,c2⟩:=HS.out w2 HB2.out
  have hasl:=asm_len c
  have HFO:=Lib.hid (rat_follow _ es _ _ (asmL c) hs f w2 (HE.out w2 HB2.out) HO.out (IntsIn.of_own hav) hf (HH.out w2 HB2.out) (by omega) (by omega))
  obtain⟨F,hF⟩: ∃F,ratFol es (asmL c) hs=F:=⟨_,rfl⟩
  have HFA:=Lib.hid (fun h0=>ratFol_asg (es:=es) HO.out.cls hs (asmL c) f hf (show(ratFol es (asmL c) hs).2.2.2=0 from h0))
  rw[hF]at HFO hr2 HFA
  have HR2:=Lib.hid hr2
  obtain⟨asg,cf,fi,fe⟩:=F
  clear hb2 HR HAA b0 b1 b2 hav hf hr2 hF
  go_wp2_with fail
  refine HFO.out.mono ?_
  rintro e w3 ⟨u,rfl,hu,hb3⟩
  have HU:=Lib.hid hu
  have HB3:=Lib.hid (HB2.out.trans (hb3.mono HB2.out.size))
  obtain⟨d0,d1,d2⟩:=HS.out w3 HB3.out
  have HBW3:=Lib.hid (HB.out.trans (HB3.out.mono HB.out.size))
  clear hb3 HFO c0 c1 c2 hu
  by_cases h0:fe=0
  ·subst h0
   have hr3:=HR2.out.trans (if_neg (fun h=>h rfl))
   cases cf with
   | true=>
    have HR3:=Lib.hid (hr3.trans (if_pos rfl))
    clear HR2 hr3
    go_wp2_with fail
    rw[Exit.noGoto_ret]
    refine bodyPost_ret (v:=.tuple #[.int .u8 1,.int .i64 0,.int .i64 0]) (by simp[results,Tryz.results80,go_sem]) rfl ?_
    rw[HR3.out]
    exact⟨rfl,HBW3.out⟩
   | false=>
    have hr4:=hr3.trans (if_neg (by decide))
    cases c with
    | nil=>
     have HR3:=Lib.hid (show R=(0,0,82)from hr4)
     clear HR2 hr3 hr4
     go_wp2_with fail
     rw[Exit.noGoto_ret]
     refine bodyPost_ret (v:=.tuple #[.int .u8 0,.int .i64 0,.int .i64 82]) (by simp[results,Tryz.results80,go_sem]) rfl ?_
     rw[HR3.out]
     exact⟨rfl,HBW3.out⟩
    | cons p r=>
     obtain⟨⟨f2,hf2⟩,hal2⟩:=HFA.out rfl
     have HF2:=Lib.hid (show asgF asg=some f2 from hf2)
     have hal3:asg.length≤80000:=by
      have h1:asg.length≤(asmL (p::r)).length+hs.length:=hal2
      omega
     have HR3:=Lib.hid (show R=(if(ratGrp es p gs).2≠0 then(0,ratGrp es p gs)else if(ratLoop es p asg gs).2≠0 then(0,ratLoop es p asg gs)else(2,0,0))from hr4)
     clear HR2 hr3 hr4 HFA hf2 hal2
     obtain⟨n,hn⟩: ∃n,(p::r).length=n:=⟨_,rfl⟩
     obtain⟨A',c',hAc,_,_,hxs⟩:=HC.out w3 HB3.out
     simp only[Value.slice.injEq,true_and]at hAc
     obtain⟨rfl,rfl⟩:=hAc
     obtain⟨g,o,rfl,hg,_,e0⟩:=hxs 0 p rfl
     rw[Nat.add_zero]at e0
     rw[hn]at hcl d0⊢
     have hn1:(0:Int)<(n:Int):=by rw[←hn,List.length_cons];omega
     have hn2:0<n:=by omega
     have hn0:((n:Int)==0)=false:=beq_eq_false_iff_ne.2 (by omega)
     have hn3:(n==0)=false:=beq_eq_false_iff_ne.2 (by omega)
     have HGR:=Lib.hid (rat_groups _ _ es p gs w3 (HE.out w3 HB3.out) HO.out (HG.out w3 HB3.out) (by omega))
     obtain⟨G,hG⟩: ∃G,ratGrp es p gs=G:=⟨_,rfl⟩
     have HGC:=Lib.hid (fun h=>grp_cand (es:=es) HO.out.rise (p:=p) (gs:=gs) h)
     rw[hG]at HGR HR3 HGC
     obtain⟨gi,ge⟩:=G
     clear hn hxs hG
     go_wp2_with fail
     refine HGR.out.mono ?_
     rintro e w4 ⟨rfl,hb4⟩
     have HB4:=Lib.hid (HB3.out.trans (hb4.mono HB3.out.size))
     have HU4:=Lib.hid (HU.out.below hb4)
     obtain⟨-,-,g2⟩:=HS.out w4 HB4.out
     have HPRE:=Lib.hid (show(ge≠0→R=(0,gi,ge))∧(ge=0→R=(if(ratLoop es p asg (gs.drop 0)).2≠0 then(0,ratLoop es p asg (gs.drop 0))else(2,0,0)))from⟨fun h0=>HR3.out.trans (if_pos h0),fun h0=>by rw[List.drop_zero];exact HR3.out.trans (if_neg (fun h=>h h0))⟩)
     clear hb4 HGR d0 d1 d2 e0 HR3
     go_wp2_with fail
     refine wp_label ?_
     go_wp2_with fail
     clear g2
     go_loopw [9,12,73] (fun ev dv i wr=> ∃(k E:Nat) (I:Int),k≤gs.length∧ev= .int .i64 (E:Nat)∧dv= .int .i64 I∧i= .int .i64 k∧Hid ((E≠0→R=(0,I,E))∧(E=0→ge=0∧R=(if(ratLoop es p asg (gs.drop k)).2≠0 then(0,ratLoop es p asg (gs.drop k))else(2,0,0))))∧Hid (Below w4.heap.size w4 wr)) (fun _ _ i _=>gs.length-(intOf i).toNat)
     case atStart=>exact⟨0,ge,gi,Nat.zero_le _,rfl,rfl,rfl,Lib.hid ⟨HPRE.out.1,fun h=>⟨h,HPRE.out.2 h⟩⟩,Lib.hid (Below.refl _ _)⟩
     case round=>
      obtain⟨k,E,I,hk,rfl,rfl,rfl,HI,HBk⟩:=hrel
      have HBr:=Lib.hid (HB4.out.trans (HBk.out.mono HB4.out.size))
      have HBWr:=Lib.hid (HB.out.trans (HBr.out.mono HB.out.size))
      by_cases hlt:k<gs.length
      ·obtain⟨gx,hgx⟩:=getElem_of hlt
       obtain⟨A',c',hAc,_,_,hxs⟩:=HG.out wr HBr.out
       simp only[Value.slice.injEq,true_and]at hAc
       obtain⟨rfl,rfl⟩:=hAc
       obtain⟨gg,go,gu,rfl,hgg,_,t0,t1,hgu⟩:=hxs k gx hgx
       have HGX:=Lib.hid hgx
       obtain⟨W1,W2,W3,hW1,hW2,hW3,f0,f1,f2',y0,y1,y2,hbx,hb3⟩:=two_new wr (.int .i64 0) (.slice none 0 0) (.int .i64 gx.1) gu 172
       have HBX:=Lib.hid hbx
       have hb3W:=HBr.out.trans (hb3.mono HBr.out.size)
       have HB3':=Lib.hid hb3W
       have HK3:=Lib.hid (HBk.out.trans (hb3.mono HBk.out.size))
       have z0:=mx_cell (j:=0) hbx
       have HGU:=Lib.hid (hgu.below hb3)
       have hxl:=heap_lt hbx
       obtain⟨Au,cu,rfl,_⟩:=hgu
       by_cases hE:E=0
       ·subst hE
        obtain⟨hge,hRk⟩:=HI.out.2 rfl
        have HGE:=Lib.hid hge
        obtain⟨cc',hget,hcand⟩:=HGC.out hge gx (List.mem_of_getElem? hgx)
        have hst:=loop_step (es:=es) (p:=p) (asg:=asg) hgx hget
        have HRk:=Lib.hid hRk
        have HST:=Lib.hid hst
        have hcb':=HO.out.cls _ (getA_some hget)
        have hcl':=clause_len hcb'
        have HCB':=Lib.hid hcb'
        have hal':alwL cc'=false:=by
         unfold candB at hcand
         rw[Bool.and_eq_true,Bool.not_eq_true']at hcand
         exact hcand.2
        have HAL':=Lib.hid hal'
        have HGET:=Lib.hid hget
        have hghl:=HGH.out gx (List.mem_of_getElem? hgx)
        have HFI:=Lib.hid (rat_find _ es gx.1 W3 (HE.out W3 hb3W) HO.out.rise (by omega))
        obtain⟨gid,gh⟩:=gx
        simp only at t0 t1 HFI HGET HST z0 hghl HGU HBX
        clear hgx hxs hget hcand hst hcb' hal' hge hRk hbx hb3 hb3W HI
        go_wp2_with fail
        refine HFI.out.mono ?_
        rintro e w5 ⟨pi,ok,rfl,hfo,hb5⟩
        obtain⟨i0,rfl,hei⟩:=hfo.at_ cc' HGET.out
        obtain rfl:ok=true:=by rw[hfo.ok,HGET.out];rfl
        have HB5:=Lib.hid (HB3'.out.trans (hb5.mono HB3'.out.size))
        have HBX5:=Lib.hid ((hb5.block _ hxl).trans HBX.out)
        have HGU5:=Lib.hid (HGU.out.below hb5)
        have HK5:=Lib.hid (HK3.out.trans (hb5.mono HK3.out.size))
        have HU5:=Lib.hid (HU4.out.below HK5.out)
        have hil:=(List.getElem?_eq_some_iff.1 hei).1
        have hili:(i0:Int)<(es.length:Int):=by omega
        obtain⟨A',c',hAc,_,_,hxs⟩:=HE.out w5 HB5.out
        simp only[Value.slice.injEq,true_and]at hAc
        obtain⟨rfl,rfl⟩:=hAc
        obtain⟨ge',oe,ue,rfl,hge',_,_,de1,hue⟩:=hxs i0 _ hei
        have HRE:=Lib.hid (rat_rest ue u p cc' asg w5 hue HU5.out (by omega) (by omega))
        obtain⟨rs,hrs⟩: ∃rs,restGo p asg [] cc'=rs:=⟨_,rfl⟩
        have HRA:=Lib.hid (fun h=>rest_asg (p:=p) HF2.out HCB'.out HAL'.out h)
        have hrl:=rest_len (p:=p) (asg:=asg) cc' []
        rw[hrs]at HRE HRA hrl
        have hst:=HST.out
        rw[hrs]at hst
        have HST2:=Lib.hid hst
        obtain⟨Aue,cue,rfl,_⟩:=hue
        obtain⟨more,open_⟩:=rs
        simp only[List.length_nil,Nat.zero_add]at hrl
        clear hei hxs hfo hb5 hst hrs HST t0 t1 f0 f1 f2' y0 y1 y2 hW1 hW2 hW3 z0
        go_wp2_with fail
        refine HRE.out.mono ?_
        rintro e w6 ⟨rv,rfl,hrv,hb6⟩
        have HB6:=Lib.hid (HB5.out.trans (hb6.mono HB5.out.size))
        have HBX6:=Lib.hid ((hb6.block _ (heap_lt HBX5.out)).trans HBX5.out)
        have HGU6:=Lib.hid (HGU5.out.below hb6)
        have HU6:=Lib.hid (HU5.out.below hb6)
        have HK6:=Lib.hid (HK5.out.trans (hb6.mono HK5.out.size))
        have HRV:=Lib.hid (IntsIn.of_own hrv)
        clear hb6 HRE de1 hrv
        cases open_ with
        | false=>
         have HRn:=Lib.hid (show R=(if(ratLoop es p asg (gs.drop (k+1))).2≠0 then(0,ratLoop es p asg (gs.drop (k+1)))else(2,0,0))from by
          rw[HRk.out,HST2.out.trans (if_pos rfl)])
         clear HRk HST2
         go_wp2_with fail
         go_roundw
         case rel=>exact⟨k+1,0,_,by omega,rfl,rfl,by go_num,Lib.hid ⟨fun h=>absurd rfl h,fun _=>⟨HGE.out,HRn.out⟩⟩,HK6⟩
         case measure=>simp[intOf];omega
        | true=>
         obtain⟨f3,hf3⟩:=HRA.out rfl
         have hst3:=HST2.out.trans (if_neg (by decide))
         obtain⟨F2,hF2⟩: ∃F2,ratFol es (asg++more) gh=F2:=⟨_,rfl⟩
         have HF3:=Lib.hid (show asgF (asg++more)=some f3 from hf3)
         have HST3:=Lib.hid (show ratLoop es p asg (gs.drop k)=(if F2.2.2.2≠0 then F2.2.2 else if F2.2.1=false then(gid,93)else ratLoop es p asg (gs.drop (k+1)))from by rw[←hF2];exact hst3)
         have HFE:=Lib.hid hF2
         clear hst3 hf3 HST2 hF2
         go_upto_region 24 with fail
         have z1:=mx_cell (j:=1) HBX6.out
         have hxl6:=heap_lt HBX6.out
         obtain⟨Arv,crv,rfl,_⟩:=HRV.out
         obtain⟨Asv,csv,rfl,_⟩:=HU6.out
         refine wp_region_held_drew (S:=fun w'=>Below w6.heap.size w6 w') (by kernel_rfl) (mx_drew w6) (fun hS=>?_)
         obtain⟨xD,hxD⟩: ∃z,w6.drew=z:=⟨_,rfl⟩
         rw[hxD]at hS⊢
         clear hxD
         refine takeE 0 100 ?_
         refine takeE 1 101 ?_
         refine takeE 2 102 ?_
         refine takeE 5 105 ?_
         refine takeF 6 106 (fun wq hSw=>(hSw.cell (p:=⟨wr.heap.size,1,none⟩) hxl6).trans z1) ?_
         refine ready1 3 (fun K hK=>?_)
         go_simp
         obtain⟨w7,hw7⟩: ∃z,xD.alloc (.cells #[.slice Asv asg.length csv,.slice Arv more.length crv] 29)=z:=⟨_,rfl⟩
         have hb7:Below xD.heap.size xD w7:=by rw[←hw7];exact mx_al _ _
         have hn7:w7.heap[xD.heap.size]? =some (.cells #[.slice Asv asg.length csv,.slice Arv more.length crv] 29 (0,0)):=by rw[←hw7];exact World.alloc_heap_new _ _
         rw[hw7]
         have hS7:=hS.trans (hb7.mono hS.size)
         refine hK.out _ _ hS7 (fun _=>?_)
         clear hK
         have hu7:=(HU6.out.below hS7).lt
         have hr7:=(HRV.out.below hS7).lt
         have hca:ClsAt w7 (.slice (some ⟨xD.heap.size,0,none⟩) 2 2) [asg,more]:=⟨_,2,rfl,fun i xs hi=>by
          match i,hi with
          | 0,hi=>
           obtain rfl:=Option.some.inj hi
           exact⟨_,0,_,rfl,heap_lt hn7,mx_cell (j:=0) hn7,hu7.mono fun g h=>h.2⟩
          | 1,hi=>
           obtain rfl:=Option.some.inj hi
           exact⟨_,0,_,rfl,heap_lt hn7,mx_cell (j:=1) hn7,hr7.mono fun g h=>h.2⟩⟩
         refine ready1 4 (fun K hK=>?_)
         go_simp
         have hfl: [asg,more].flatten=asg++more:=by simp
         have hcc:=concat_ll _ _ w7 hca (by rw[hfl,List.length_append];omega) (by simp)
         rw[hfl]at hcc
         refine hcc.mono ?_
         rintro e w8 ⟨cv,rfl,hcv,hb8⟩
         have hS8:=hS7.trans (hb8.mono hS7.size)
         have HCV:=Lib.hid (IntsIn.of_own hcv)
         refine hK.out _ _ hS8 (fun _=>?_)
         clear hK hcc hca hb7 hn7 hw7 hu7 hr7 hcv
         refine ready1 7 (fun K hK=>?_)
         go_simp
         have hfo:=rat_follow _ es cv _ (asg++more) gh f3 w8 (HE.out w8 (HB6.out.trans (hS8.mono HB6.out.size))) HO.out HCV.out HF3.out (HGU6.out.below hS8) (by rw[List.length_append];omega) (by omega)
         rw[HFE.out]at hfo
         obtain⟨Ax,cf2,fi2,fe2⟩:=F2
         refine hfo.mono ?_
         rintro e w9 ⟨u9,rfl,-,hb9⟩
         have hS9:=hS8.trans (hb9.mono hS8.size)
         have HK9:=Lib.hid (HK6.out.trans (hS9.mono HK6.out.size))
         have HBX9:=Lib.hid ((hS9.block _ hxl6).trans HBX6.out)
         refine hK.out _ _ hS9 (fun _=>?_)
         clear hK hfo hb8 hb9 hS8 hS7 hS hfl z1 hxl6
         refine takeE 8 99 ?_
         refine takeE 9 108 ?_
         refine takeE 10 109 ?_
         refine takeE 11 110 ?_
         refine takeE 12 111 ?_
         refine takeE 13 11 ?_
         refine takeE 14 12 ?_
         refine takeE 15 9 ?_
         refine wpAnyH_done (by kernel_rfl) ?_ _
         by_cases h2:fe2=0
         ·subst h2
          have hst4:=HST3.out.trans (if_neg (fun h=>h rfl))
          cases cf2 with
          | true=>
           have HRn:=Lib.hid (show R=(if(ratLoop es p asg (gs.drop (k+1))).2≠0 then(0,ratLoop es p asg (gs.drop (k+1)))else(2,0,0))from by
            rw[HRk.out,hst4.trans (if_neg (fun h=>by cases h))])
           clear hst4 HST3 HRk
           go_wp2_with fail
           go_roundw
           case rel=>exact⟨k+1,0,_,by omega,rfl,rfl,by go_num,Lib.hid ⟨fun h=>absurd rfl h,fun _=>⟨HGE.out,HRn.out⟩⟩,HK9⟩
           case measure=>simp[intOf];omega
          | false=>
           have HRn:=Lib.hid (show R=(0,gid,93)from by
            rw[HRk.out,hst4.trans (if_pos rfl)]
            rfl)
           have z9:=mx_cell (j:=0) HBX9.out
           clear hst4 HST3 HRk
           go_wp2_with fail
           go_roundw
           case rel=>exact⟨k+1,93,_,by omega,rfl,rfl,by go_num,Lib.hid ⟨fun _=>HRn.out,fun h=>by cases h⟩,HK9⟩
           case measure=>simp[intOf];omega
         ·have q0:((fe2:Int)==0)=false:=beq_eq_false_iff_ne.2 (by omega)
          have HRn:=Lib.hid (show R=(0,fi2,fe2)from by
           rw[HRk.out,HST3.out.trans (if_pos h2)]
           exact if_pos h2)
          have H2:=Lib.hid h2
          clear HST3 HRk h2
          go_wp2_with fail
          go_roundw
          case rel=>exact⟨k+1,fe2,_,by omega,rfl,rfl,by go_num,Lib.hid ⟨fun _=>HRn.out,fun h=>absurd h H2.out⟩,HK9⟩
          case measure=>simp[intOf];omega
       ·have q0:((E:Int)==0)=false:=beq_eq_false_iff_ne.2 (by omega)
        have q1:((E:Int) != 0)=true:=by rw[bne,q0];rfl
        have HRn:=Lib.hid (HI.out.1 hE)
        clear hE hgx hxs hbx hb3 hb3W HI
        go_wp2_with fail
        rw[Exit.noGoto_ret]
        refine bodyPost_ret (v:=.tuple #[.int .u8 0,.int .i64 I,.int .i64 (E:Int)]) (by simp[results,Tryz.results80,go_sem]) rfl ?_
        rw[HRn.out]
        exact⟨rfl,HB.out.trans (HB3'.out.mono HB.out.size)⟩
      ·obtain rfl:k=gs.length:=by omega
       by_cases hE:E=0
       ·subst hE
        have HRn:=Lib.hid (show R=(2,0,0)from by
         have:=(HI.out.2 rfl).2
         rw[List.drop_length]at this
         exact this)
        clear HI
        go_wp2_with fail
        rw[Exit.noGoto_ret]
        refine bodyPost_ret (v:=.tuple #[.int .u8 2,.int .i64 0,.int .i64 0]) (by simp[results,Tryz.results80,go_sem]) rfl ?_
        rw[HRn.out]
        exact⟨rfl,HBWr.out⟩
       ·have q0:((E:Int)==0)=false:=beq_eq_false_iff_ne.2 (by omega)
        have q1:((E:Int) != 0)=true:=by rw[bne,q0];rfl
        have HRn:=Lib.hid (HI.out.1 hE)
        clear hE HI
        go_wp2_with fail
        rw[Exit.noGoto_ret]
        refine bodyPost_ret (v:=.tuple #[.int .u8 0,.int .i64 I,.int .i64 (E:Int)]) (by simp[results,Tryz.results80,go_sem]) rfl ?_
        rw[HRn.out]
        exact⟨rfl,HBWr.out⟩
  ·have q0:((fe:Int)==0)=false:=beq_eq_false_iff_ne.2 (by omega)
   have q1:((fe:Int) != 0)=true:=by rw[bne,q0];rfl
   have HR3:=Lib.hid (HR2.out.trans (if_pos h0))
   clear HR2 h0
   go_wp2_with fail
   rw[Exit.noGoto_ret]
   refine bodyPost_ret (v:=.tuple #[.int .u8 0,.int .i64 fi,.int .i64 (fe:Int)]) (by simp[results,Tryz.results80,go_sem]) rfl ?_
   rw[HR3.out]
   exact⟨rfl,HBW3.out⟩
end Go.Proofs.YtajbmjpodeilpaaGreatDoor
namespace Go.Proofs.YtajbmjpodeilpaaGreatDoor
open Go.RowKit Go.Maps
structure StepO (s:EStep):Prop where
 id0:0≤s.id
 id1:s.id≤1073741824
 cls:clauseB s.lits=true
 len:s.hints.length≤65536
 hok: ∀x∈s.hints,x≠0∧ -1073741824≤x∧x≤1073741824
theorem stepO {s:EStep} (h:stepB s=true):StepO s:=by
 unfold stepB at h
 simp only[Bool.and_eq_true,Bool.not_eq_true',Bool.or_eq_false_iff,decide_eq_false_iff_not,decide_eq_true_eq]at h
 obtain⟨⟨⟨⟨h1,h2⟩,_⟩,_⟩,⟨h3,h4⟩,h5⟩:=h
 refine⟨by omega,by omega,h3,h4,fun x hx=>?_⟩
 have:=List.any_eq_false.1 h5 x hx
 simp only[Bool.or_eq_true,decide_eq_true_eq,Bool.and_eq_true,not_or]at this
 obtain⟨⟨⟨a,b⟩,c⟩,_⟩:=this
 exact⟨a,by omega,by omega⟩
theorem ckDel_zero: ∀(hs:List Int) (es:Ents),(ckDel es hs).2.2=0→(ckDel es hs).2.1=0
 | [],_,_=>rfl
 | id::r,es,h=>by
  unfold ckDel at h⊢
  split at h
  ·cases h
  ·rename_i h1
   rw[if_neg h1]
   exact ckDel_zero r _ h
set_option maxRecDepth 100000 in
set_option maxHeartbeats 8000000 in
theorem ck_do {XX:Nat→Prop} {base:Nat} {O Oc:Nat→Prop} (b:Nat) (k:Ckr) (s:EStep) (lv hv:Value) (N:Nat) (w:World) (h:CkAtX XX base w b k) (hbase:base≤w.heap.size) (hk:k.Ok N) (hN:N≤1000000) (hc:IntsIn Oc w lv s.lits) (hh:IntsIn O w hv s.hints) (hll:s.lits.length≤100000000000) (hhl:s.hints.length≤100000000000)
  (hadd:stepB s=true→s.del=false→∀W,Below w.heap.size w W→Calls Tryz.prog 40 #[.pointer (some ⟨b,0,none⟩),.agg #[.bool s.del,.int .i64 s.id,lv,hv]] W fun e w'=>e= .returned (.tuple #[.int .u8 ((ckAdd k.ents s.lits s.hints).1:Nat),.int .i64 (ckAdd k.ents s.lits s.hints).2.1,.int .i64 ((ckAdd k.ents s.lits s.hints).2.2:Nat)])∧Below W.heap.size W w') (hXX: ∀g,XX g→g<w.heap.size:=by exact fun _ h=>h.elim):
  Calls Tryz.prog 12 #[.pointer (some ⟨b,0,none⟩),.agg #[.bool s.del,.int .i64 s.id,lv,hv]] w fun e w'=>e= .returned (.tuple #[.int .u8 ((k.do_ s).2.1:Nat),.int .i64 (k.do_ s).2.2.1,.int .i64 ((k.do_ s).2.2.2:Nat)])∧CkAtX XX base w' b (k.do_ s).1∧Below base w w'∧CkF b w w':=by
 obtain⟨W,hW⟩: ∃W,w.alloc (.cells #[.bool s.del,.int .i64 s.id,lv,hv] 34)=W:=⟨_,rfl⟩
 have hbW:Below w.heap.size w W:=by rw[←hW];exact mx_al _ _
 have hn:W.heap[w.heap.size]? =some (.cells #[.bool s.del,.int .i64 s.id,lv,hv] 34 (0,0)):=by rw[←hW];exact World.alloc_heap_new _ _
 have hlt:=heap_lt hn
 have HS:=Lib.hid (fun(X:World) (hx:Below W.heap.size W X)=>(show X.cell? ⟨w.heap.size,0,none⟩=some (.bool s.del)∧X.cell? ⟨w.heap.size,1,none⟩=some (.int .i64 s.id)∧X.cell? ⟨w.heap.size,2,none⟩=some lv∧X.cell? ⟨w.heap.size,3,none⟩=some hv from
  have e:=(hx.block w.heap.size hlt).trans hn
  ⟨mx_cell (j:=0) e,mx_cell (j:=1) e,mx_cell (j:=2) e,mx_cell (j:=3) e⟩))
 obtain⟨R,hR⟩: ∃R,k.do_ s=R:=⟨_,rfl⟩
 rw[hR]
 have HR:=Lib.hid hR
 have HXX:=Lib.hid hXX
 clear hXX
 obtain⟨mb,K,hm⟩:=h
 have HM:=Lib.hid (hm.below hbW)
 have HB:=Lib.hid hbW
 have HOK:=Lib.hid hk
 obtain⟨-,c1,c2,-⟩:=(hm.below hbW).cells
 have hbl:=heap_lt (hm.below hbW).box
 have hbw:=heap_lt hm.box
 obtain⟨bs,s1,s2,s3⟩:=HS.out W (Below.refl _ _)
 have hzW:=hbW.size
 obtain⟨sb,hsb⟩: ∃sb,stepB s=sb:=⟨_,rfl⟩
 have HRI:=step_right s lv hv W (hc.below hbW) (hh.below hbW) hll hhl
 rw[hsb]at HRI
 have HRI:=Lib.hid HRI
 have HSB:=Lib.hid hsb
 have HC:=Lib.hid (fun(X:World) (hx:Below W.heap.size W X)=>(hc.below hbW).below hx)
 have HH:=Lib.hid (fun(X:World) (hx:Below W.heap.size W X)=>(hh.below hbW).below hx)
 have HAD:=Lib.hid (fun(h1:stepB s=true) (h2:s.del=false) (X:World) (hx:Below W.heap.size W X)=>hadd h1 h2 X (hbW.trans (hx.mono hzW)))
 obtain⟨dl,id,ls,hs⟩:=s
 simp only at hW hc hh bs s1 HAD HS HRI⊢
 obtain⟨Al,cl,rfl,_⟩:=hc
 obtain⟨Ah,ch,rfl,_⟩:=hh
 obtain⟨pr,hpr⟩: ∃pr,k.proved=pr:=⟨_,rfl⟩
 obtain⟨la,hla⟩: ∃la,k.last=la:=⟨_,rfl⟩
 rw[hpr]at c2
 rw[hla]at c1
 have HPR:=Lib.hid hpr
 have HLA:=Lib.hid hla
 clear hbW hn hm hR hadd hk hsb hpr hla
 go_enter Tryz.func12,Tryz.ntmps12
 cases pr with
 | true=>
  have HR2:=Lib.hid (HR.out.symm.trans (if_pos HPR.out))
  go_wp2_with fail
  refine bodyPost_ret (v:=.tuple #[.int .u8 0,.int .i64 0,.int .i64 0]) (by simp[results,Tryz.results12,go_sem]) rfl ?_
  rw[HR2.out]
  exact⟨rfl,⟨mb,K,HM.out⟩,HB.out.mono hbase,CkF.of_below HB.out⟩
 | false=>
  have hr1:=HR.out.symm.trans (if_neg (by rw[HPR.out];decide))
  have HR1:=Lib.hid hr1
  clear hr1 HR
  cases sb with
  | false=>
   have HR2:=Lib.hid (HR1.out.trans (if_pos HSB.out))
   go_wp2_with fail
   refine HRI.out.mono ?_
   rintro e w1 ⟨rfl,hb1⟩
   have HB1:=Lib.hid (HB.out.trans (hb1.mono hzW))
   have HM1:=Lib.hid (HM.out.below hb1)
   clear hb1
   go_wp2_with fail
   refine bodyPost_ret (v:=.tuple #[.int .u8 0,.int .i64 0,.int .i64 70]) (by simp[results,Tryz.results12,go_sem]) rfl ?_
   rw[HR2.out]
   exact⟨rfl,⟨mb,K,HM1.out⟩,HB1.out.mono hbase,CkF.of_below HB1.out⟩
  | true=>
   have HR2:=Lib.hid (HR1.out.trans (if_neg (by rw[HSB.out];decide)))
   have hso:=stepO HSB.out
   have HSO:=Lib.hid hso
   go_wp2_with fail
   refine HRI.out.mono ?_
   rintro e w1 ⟨rfl,hb1⟩
   have HB1:=Lib.hid hb1
   have HM1:=Lib.hid (HM.out.below hb1)
   clear hb1 bs s1 s2 s3 c1 c2
   go_upto_region 7 with fail
   obtain⟨t0,t1,t2,t3⟩:=HS.out w1 HB1.out
   have c1:=HM1.out.cells.2.1
   rw[HLA.out]at c1
   have hlt1:w.heap.size<w1.heap.size:=Nat.lt_of_lt_of_le hlt HB1.out.size
   have hbl1:b<w1.heap.size:=Nat.lt_of_lt_of_le hbl HB1.out.size
   obtain⟨cc,hcc⟩: ∃cc,(decide (id<la)||(decide (id=la)&& !dl))=cc:=⟨_,rfl⟩
   have HCC:=Lib.hid hcc
   clear hcc
   go_cut [25] (fun q wx=>q= .bool cc∧Hid (Below w1.heap.size w1 wx))
   case first=>
    by_cases h1:id<la
    ·have q1:decide (id<la)=true:=decide_eq_true h1
     have hq:cc=true:=by rw[←HCC.out,q1];rfl
     clear h1
     refine wp_region_held_drew (S:=fun w'=>Below w1.heap.size w1 w') (by kernel_rfl) (mx_drew w1) (fun hS=>?_)
     obtain⟨xD,hxD⟩: ∃z,w1.drew=z:=⟨_,rfl⟩
     rw[hxD]at hS⊢
     clear hxD
     refine takeE 0 26 ?_
     refine takeF 1 27 (fun wq hSw=>(hSw.cell (p:=⟨w.heap.size,1,none⟩) hlt1).trans t1) ?_
     refine takeE 2 28 ?_
     refine takeE 3 29 ?_
     refine takeE 4 30 ?_
     refine takeF 5 31 (fun wq hSw=>(hSw.cell (p:=⟨b,1,none⟩) hbl1).trans c1) ?_
     refine takeE 6 32 ?_
     refine takeE 7 33 ?_
     refine takeU 8 34 ?_
     refine takeU 9 35 ?_
     refine takeU 10 36 ?_
     refine takeU 11 37 ?_
     refine takeU 12 38 ?_
     refine takeU 13 39 ?_
     refine takeU 14 40 ?_
     refine takeU 15 41 ?_
     refine takeU 16 42 ?_
     refine takeU 17 43 ?_
     refine takeU 18 44 ?_
     refine takeU 19 45 ?_
     refine takeE 20 46 ?_
     refine takeE 21 25 ?_
     refine wpAnyH_done (by kernel_rfl) ?_ _
     go_wp2_with fail
     go_meet
     exact⟨by rw[hq],Lib.hid hS⟩
    ·have q1:decide (id<la)=false:=decide_eq_false h1
     by_cases h2:id=la
     ·have q2:(id==la)=true:=by simpa using h2
      have hq:cc= !dl:=by rw[←HCC.out,q1,decide_eq_true h2];rfl
      clear h1 h2
      refine wp_region_held_drew (S:=fun w'=>Below w1.heap.size w1 w') (by kernel_rfl) (mx_drew w1) (fun hS=>?_)
      obtain⟨xD,hxD⟩: ∃z,w1.drew=z:=⟨_,rfl⟩
      rw[hxD]at hS⊢
      clear hxD
      refine takeE 0 26 ?_
      refine takeF 1 27 (fun wq hSw=>(hSw.cell (p:=⟨w.heap.size,1,none⟩) hlt1).trans t1) ?_
      refine takeE 2 28 ?_
      refine takeE 3 29 ?_
      refine takeE 4 30 ?_
      refine takeF 5 31 (fun wq hSw=>(hSw.cell (p:=⟨b,1,none⟩) hbl1).trans c1) ?_
      refine takeE 6 32 ?_
      refine takeE 7 33 ?_
      refine takeE 8 34 ?_
      refine takeF 9 35 (fun wq hSw=>(hSw.cell (p:=⟨w.heap.size,1,none⟩) hlt1).trans t1) ?_
      refine takeE 10 36 ?_
      refine takeE 11 37 ?_
      refine takeE 12 38 ?_
      refine takeF 13 39 (fun wq hSw=>(hSw.cell (p:=⟨b,1,none⟩) hbl1).trans c1) ?_
      refine takeE 14 40 ?_
      refine takeE 15 41 ?_
      refine takeE 16 42 ?_
      refine takeF 17 43 (fun wq hSw=>(hSw.cell (p:=⟨w.heap.size,0,none⟩) hlt1).trans t0) ?_
      refine takeE 18 44 ?_
      refine takeE 19 45 ?_
      refine takeE 20 46 ?_
      refine takeE 21 25 ?_
      refine wpAnyH_done (by kernel_rfl) ?_ _
      go_wp2_with fail
      go_meet
      exact⟨by rw[hq],Lib.hid hS⟩
     ·have q2:(id==la)=false:=by simpa using h2
      have hq:cc=false:=by rw[←HCC.out,q1,decide_eq_false h2];rfl
      clear h1 h2
      refine wp_region_held_drew (S:=fun w'=>Below w1.heap.size w1 w') (by kernel_rfl) (mx_drew w1) (fun hS=>?_)
      obtain⟨xD,hxD⟩: ∃z,w1.drew=z:=⟨_,rfl⟩
      rw[hxD]at hS⊢
      clear hxD
      refine takeE 0 26 ?_
      refine takeF 1 27 (fun wq hSw=>(hSw.cell (p:=⟨w.heap.size,1,none⟩) hlt1).trans t1) ?_
      refine takeE 2 28 ?_
      refine takeE 3 29 ?_
      refine takeE 4 30 ?_
      refine takeF 5 31 (fun wq hSw=>(hSw.cell (p:=⟨b,1,none⟩) hbl1).trans c1) ?_
      refine takeE 6 32 ?_
      refine takeE 7 33 ?_
      refine takeE 8 34 ?_
      refine takeF 9 35 (fun wq hSw=>(hSw.cell (p:=⟨w.heap.size,1,none⟩) hlt1).trans t1) ?_
      refine takeE 10 36 ?_
      refine takeE 11 37 ?_
      refine takeE 12 38 ?_
      refine takeF 13 39 (fun wq hSw=>(hSw.cell (p:=⟨b,1,none⟩) hbl1).trans c1) ?_
      refine takeE 14 40 ?_
      refine takeE 15 41 ?_
      refine takeU 16 42 ?_
      refine takeU 17 43 ?_
      refine takeU 18 44 ?_
      refine takeE 19 45 ?_
      refine takeE 20 46 ?_
      refine takeE 21 25 ?_
      refine wpAnyH_done (by kernel_rfl) ?_ _
      go_wp2_with fail
      go_meet
      exact⟨by rw[hq],Lib.hid hS⟩
   case rest=>
    obtain⟨rfl,HB2⟩:=hcut
    obtain⟨wF,hwF⟩: ∃z,z=wc:=⟨_,rfl⟩
    rw[←hwF]at HB2⊢
    clear hwF t0 t1 t2 t3 c1 hlt1 hbl1
    have HBF:=Lib.hid (HB1.out.trans (HB2.out.mono HB1.out.size))
    have HMF:=Lib.hid (HM1.out.below HB2.out)
    have HBB:=Lib.hid ((HB.out.trans (HBF.out.mono hzW)).mono hbase)
    have HFF:=Lib.hid (CkF.of_below (b:=b) (HB.out.trans (HBF.out.mono hzW)))
    have hzF:W.heap.size≤wF.heap.size:=HBF.out.size
    have hbF:base≤wF.heap.size:=by omega
    obtain⟨t0,t1,t2,t3⟩:=HS.out wF HBF.out
    cases cc with
    | true=>
     have HR3:=Lib.hid (HR2.out.trans (if_pos (show id<k.last∨id=k.last∧dl=false from by
      have:=HCC.out
      rw[Bool.or_eq_true,Bool.and_eq_true,decide_eq_true_eq,decide_eq_true_eq,Bool.not_eq_true']at this
      rw[HLA.out]
      exact this)))
     have hltF:w.heap.size<wF.heap.size:=by omega
     go_upto_region 8 with fail
     refine wp_region_held_drew (S:=fun w'=>Below wF.heap.size wF w') (by kernel_rfl) (mx_drew wF) (fun hS=>?_)
     obtain⟨xD,hxD⟩: ∃z,wF.drew=z:=⟨_,rfl⟩
     rw[hxD]at hS⊢
     clear hxD
     refine takeE 0 47 ?_
     refine takeF 1 48 (fun wq hSw=>(hSw.cell (p:=⟨w.heap.size,1,none⟩) hltF).trans t1) ?_
     refine takeE 2 4 ?_
     refine takeE 3 5 ?_
     refine takeE 4 6 ?_
     refine wpAnyH_done (by kernel_rfl) ?_ _
     go_wp2_with fail
     refine bodyPost_ret (v:=.tuple #[.int .u8 0,.int .i64 id,.int .i64 100]) (by simp[results,Tryz.results12,go_sem]) rfl ?_
     rw[HR3.out]
     exact⟨rfl,⟨mb,K,HMF.out.below hS⟩,HBB.out.trans (hS.mono hbF),HFF.out.trans (CkF.of_below hS)⟩
    | false=>
     have HR3:=Lib.hid (HR2.out.trans (if_neg (show¬(id<k.last∨id=k.last∧dl=false)from fun hh2=>by
      have:=HCC.out
      rw[HLA.out]at hh2
      have h3:(decide (id<la)||(decide (id=la)&& !dl))=true:=by
       rw[Bool.or_eq_true,Bool.and_eq_true,decide_eq_true_eq,decide_eq_true_eq,Bool.not_eq_true']
       exact hh2
      rw[this]at h3
      cases h3)))
     cases dl with
     | true=>
      have HR4:=Lib.hid (HR3.out.trans (if_pos rfl))
      have hrem:=ck_remove b k (.slice Ah hs.length ch) hs wF ⟨mb,K,HMF.out⟩ hbF (HH.out wF HBF.out) (fun x hx=>by
       obtain⟨_,h1,h2⟩:=HSO.out.hok x hx
       exact wf64 (by omega) (by omega)) (Nat.le_trans HSO.out.len (by decide)) (fun g hg=>Nat.lt_of_lt_of_le (HXX.out g hg) (Nat.le_trans hzW hzF))
      obtain⟨D,hD⟩: ∃D,ckDel k.ents hs=D:=⟨_,rfl⟩
      rw[hD]at hrem
      have HD:=Lib.hid hD
      have HREM:=Lib.hid hrem
      obtain⟨De,Di,Dx⟩:=D
      clear hrem hD
      go_wp2_with fail
      refine HREM.out.mono ?_
      rintro e w3 ⟨rfl,hck3,hb3,hk3⟩
      have HB3:=Lib.hid (HBB.out.trans hb3)
      have s1:=(hk3.cell (p:=⟨w.heap.size,1,none⟩) (by simp only;omega) (by simp only;omega)).trans t1
      have HF3:=Lib.hid (HFF.out.trans (CkF.box hk3))
      clear HREM t0 t1 t2 t3 hk3
      by_cases h0:Dx=0
      ·subst h0
       have HR5:=Lib.hid (HR4.out.trans (if_pos (show(ckDel k.ents hs).2.2=0 from by rw[HD.out])))
       rw[if_pos rfl]at hck3
       obtain⟨mb3,K3,hm3⟩:=hck3
       have hx3:=hm3.box
       have y1:=hm3.cells.2.1
       have f1:=hm3.free 1
       have hM4:CkMem XX base (w3.setCell ⟨b,1,none⟩ (.int .i64 id)) b mb3 { k with ents:=De,last:=id } K3:=hm3.set (by exact mx_set hx3 (j:=1) _) rfl
       have hb4:=HB3.out.trans (hm3.setBelow 1 (.int .i64 id) (by have:=HB3.out.size;omega))
       have hf4:=HF3.out.trans (CkF.set b w3 1 (.int .i64 id))
       obtain⟨w4,hw4⟩: ∃z,w3.setCell ⟨b,1,none⟩ (.int .i64 id)=z:=⟨_,rfl⟩
       rw[hw4]at hM4 hb4 hf4
       have y4:w4.cell? ⟨b,4,none⟩=some (.int .i64 k.dels):=hM4.cells.2.2.2.2.1
       have f4:=hM4.free 4
       have hx4:=hM4.box
       have hwd:IntKind.i64.wrap (k.dels+1)=k.dels+1:=IntWalk.i64_in _ (by have:=HOK.out.dels;omega)
       have HM5:=Lib.hid (show CkMem XX base (w4.setCell ⟨b,4,none⟩ (.int .i64 (k.dels+1))) b mb3 { k with ents:=De,last:=id,dels:=k.dels+1 } K3 from hM4.set (by exact mx_set hx4 (j:=4) _) rfl)
       have HF5:=Lib.hid (hf4.trans (CkF.set b w4 4 (.int .i64 (k.dels+1))))
       have HB5:=Lib.hid (hb4.trans (hM4.setBelow 4 (.int .i64 (k.dels+1)) (by have:=hb4.size;omega)))
       clear hm3 hM4 hx3 hx4 hb3 hb4 hf4
       go_wp2_with fail
       refine bodyPost_ret (v:=.tuple #[.int .u8 0,.int .i64 Di,.int .i64 0]) (by simp[results,Tryz.results12,go_sem]) rfl ?_
       have hDi:Di=0:=by
        have:=ckDel_zero hs k.ents (by rw[HD.out])
        rw[HD.out]at this
        exact this
       rw[HR5.out,hDi]
       simp only
       rw[HD.out]
       exact⟨rfl,⟨mb3,K3,HM5.out⟩,HB5.out,HF5.out⟩
      ·have q0:((Dx:Int)==0)=false:=beq_eq_false_iff_ne.2 (by omega)
       have HR5:=Lib.hid (HR4.out.trans (if_neg (show¬(ckDel k.ents hs).2.2=0 from by rw[HD.out];exact h0)))
       rw[if_neg h0]at hck3
       have HCK:=Lib.hid hck3
       clear hck3 hb3 h0
       go_wp2_with fail
       refine bodyPost_ret (v:=.tuple #[.int .u8 0,.int .i64 Di,.int .i64 (Dx:Int)]) (by simp[results,Tryz.results12,go_sem]) rfl ?_
       rw[HR5.out]
       simp only
       rw[HD.out]
       exact⟨rfl,HCK.out,HB3.out,HF3.out⟩
     | false=>
      have HR4:=Lib.hid (HR3.out.trans (if_neg (by decide)))
      have hadd:=HAD.out HSB.out rfl wF HBF.out
      obtain⟨D,hD⟩: ∃D,ckAdd k.ents ls hs=D:=⟨_,rfl⟩
      rw[hD]at hadd
      have HD:=Lib.hid hD
      have HADD:=Lib.hid hadd
      obtain⟨De,Di,Dx⟩:=D
      clear hadd hD
      go_wp2_with fail
      refine HADD.out.mono ?_
      rintro e w3 ⟨rfl,hb3⟩
      have HB3:=Lib.hid (HBF.out.trans (hb3.mono hzF))
      have HM3:=Lib.hid (HMF.out.below hb3)
      have HBB3:=Lib.hid (HBB.out.trans (hb3.mono hbF))
      have HFF3:=Lib.hid (HFF.out.trans (CkF.of_below (b:=b) hb3))
      clear hb3 HADD t0 t1 t2 t3
      by_cases h0:Dx=0
      ·subst h0
       have HR5:=Lib.hid (HR4.out.trans (if_neg (show¬(ckAdd k.ents ls hs).2.2≠0 from by rw[HD.out];exact fun h=>h rfl)))
       obtain⟨-,t1,t2,-⟩:=HS.out w3 HB3.out
       have hb3z:base≤w3.heap.size:=by have:=HB3.out.size;omega
       have HPUT:=Lib.hid (ck_put b k id (.slice Al ls.length cl) ls w3 ⟨mb,K,HM3.out⟩ hb3z (wf64 (by have:=HSO.out.id0;simp only at this;omega) (by have:=HSO.out.id1;simp only at this;omega)) (HC.out w3 HB3.out) (clause_len HSO.out.cls) (by have:=HOK.out.len;omega) (fun g hg=>Nat.lt_of_lt_of_le (HXX.out g hg) (Nat.le_trans hzW HB3.out.size)))
       go_wp2_with fail
       refine HPUT.out.mono ?_
       rintro e w4 ⟨rfl,hck4,hb4,hf4⟩
       obtain⟨mb4,K4,hm4⟩:=hck4
       have hbb4:=HBB3.out.trans hb4
       have hff4:=HFF3.out.trans hf4
       clear hb4 hf4 HPUT t1 t2
       have hx4:=hm4.box
       have y3:w4.cell? ⟨b,3,none⟩=some (.int .i64 k.adds):=hm4.cells.2.2.2.1
       have f3:=hm4.free 3
       have hwd:IntKind.i64.wrap (k.adds+1)=k.adds+1:=IntWalk.i64_in _ (by have:=HOK.out.adds;omega)
       have hwr:IntKind.i64.wrap (k.rats+1)=k.rats+1:=IntWalk.i64_in _ (by have:=HOK.out.rats;omega)
       have hM5:CkMem XX base (w4.setCell ⟨b,3,none⟩ (.int .i64 (k.adds+1))) b mb4 { (k.put id ls)with adds:=k.adds+1 } K4:=hm4.set (by exact mx_set hx4 (j:=3) _) rfl
       have hb5:=hbb4.trans (hm4.setBelow 3 (.int .i64 (k.adds+1)) (by have:=hbb4.size;omega))
       have hf5:=hff4.trans (CkF.set b w4 3 (.int .i64 (k.adds+1)))
       obtain⟨w5,hw5⟩: ∃z,w4.setCell ⟨b,3,none⟩ (.int .i64 (k.adds+1))=z:=⟨_,rfl⟩
       rw[hw5]at hM5 hb5 hf5
       have y5:w5.cell? ⟨b,5,none⟩=some (.int .i64 k.rats):=hM5.cells.2.2.2.2.2.1
       have f5:=hM5.free 5
       have hx5:=hM5.box
       have HM5:=Lib.hid hM5
       have HB5:=Lib.hid hb5
       have HF5:=Lib.hid hf5
       clear hm4 hx4 hbb4 hM5 hb5 hff4 hf5
       by_cases h2:De=2
       ·subst h2
        have HM6:=Lib.hid (show CkMem XX base (w5.setCell ⟨b,5,none⟩ (.int .i64 (k.rats+1))) b mb4 { (k.put id ls)with adds:=k.adds+1,rats:=k.rats+1 } K4 from HM5.out.set (by exact mx_set hx5 (j:=5) _) rfl)
        have HF6:=Lib.hid (HF5.out.trans (CkF.set b w5 5 (.int .i64 (k.rats+1))))
        have HB6:=Lib.hid (HB5.out.trans (HM5.out.setBelow 5 (.int .i64 (k.rats+1)) (by have:=HB5.out.size;omega)))
        clear hx5
        go_wp2_with fail
        refine bodyPost_ret (v:=.tuple #[.int .u8 2,.int .i64 0,.int .i64 0]) (by simp[results,Tryz.results12,go_sem]) rfl ?_
        rw[HR5.out]
        simp only
        rw[HD.out]
        exact⟨rfl,⟨mb4,K4,HM6.out⟩,HB6.out,HF6.out⟩
       ·have q2:((De:Int)==2)=false:=beq_eq_false_iff_ne.2 (by omega)
        have H2:=Lib.hid h2
        clear hx5 h2
        go_wp2_with fail
        refine bodyPost_ret (v:=.tuple #[.int .u8 (De:Int),.int .i64 0,.int .i64 0]) (by simp[results,Tryz.results12,go_sem]) rfl ?_
        rw[HR5.out]
        simp only
        rw[HD.out]
        simp only
        rw[if_neg H2.out]
        exact⟨rfl,⟨mb4,K4,HM5.out⟩,HB5.out,HF5.out⟩
      ·have q0:((Dx:Int)==0)=false:=beq_eq_false_iff_ne.2 (by omega)
       have q1:((Dx:Int) != 0)=true:=by rw[bne,q0];rfl
       have HR5:=Lib.hid (HR4.out.trans (if_pos (show(ckAdd k.ents ls hs).2.2≠0 from by rw[HD.out];exact h0)))
       clear h0
       go_wp2_with fail
       refine bodyPost_ret (v:=.tuple #[.int .u8 0,.int .i64 Di,.int .i64 (Dx:Int)]) (by simp[results,Tryz.results12,go_sem]) rfl ?_
       rw[HR5.out]
       simp only
       rw[HD.out]
       exact⟨rfl,⟨mb,K,HM3.out⟩,HBB3.out,HFF3.out⟩
end Go.Proofs.YtajbmjpodeilpaaGreatDoor
