/- package rat: Check, at right entries and a right clause. package lratext: Right, at any step. -/
import Derived.Test.YtajbmjpodeilpaaGreatV118
import Derived.Test.YtajbmjpodeilpaaGreatV119
import Derived.Test.YtajbmjpodeilpaaGreatV108
import Derived.Test.YtajbmjpodeilpaaGreatV107
import Derived.Test.YtajbmjpodeilpaaGreatV101
import Derived.Deep.DeepCutAuto
import Derived.Deep.CutBlock
import Derived.Shelf.Abstract
namespace Go.Proofs.YtajbmjpodeilpaaGreat
open Go.RowKit Go.Shelf
theorem three_new (w:World) (a b c:Value) (t:TypeId): ∃W,w.alloc (.cells #[a,b,c] t)=W∧Below w.heap.size w W∧∀X,Below W.heap.size W X→X.cell? ⟨w.heap.size,0,none⟩=some a∧X.cell? ⟨w.heap.size,1,none⟩=some b∧X.cell? ⟨w.heap.size,2,none⟩=some c:=by
 refine⟨_,rfl,mx_al _ _,fun X hX=>?_⟩
 have hn:(w.alloc (.cells #[a,b,c] t)).heap[w.heap.size]? =some (.cells #[a,b,c] t (0,0)):=World.alloc_heap_new _ _
 have e:=(hX.block w.heap.size (heap_lt hn)).trans hn
 exact⟨mx_cell (j:=0) e,mx_cell (j:=1) e,mx_cell (j:=2) e⟩
theorem loop_step {es:Ents} {p:Int} {asg:List Int} {gs:List (Int×List Int)} {j:Nat} {g:Int×List Int} {c:List Int} (hj:gs[j]? =some g) (hc:getA es g.1=some c):ratLoop es p asg (gs.drop j) =
  if(restGo p asg [] c).2=false then ratLoop es p asg (gs.drop (j+1))else
  if(ratFol es (asg++(restGo p asg [] c).1) g.2).2.2.2≠0 then(ratFol es (asg++(restGo p asg [] c).1) g.2).2.2 else
  if(ratFol es (asg++(restGo p asg [] c).1) g.2).2.1=false then(g.1,93)else ratLoop es p asg (gs.drop (j+1)):=by
 have hlt:=(List.getElem?_eq_some_iff.1 hj).1
 rw[List.drop_eq_getElem_cons hlt]
 rw[List.getElem?_eq_getElem hlt]at hj
 rw[Option.some.inj hj]
 conv=>lhs;unfold ratLoop
 rw[hc]
 rfl
set_option maxRecDepth 100000 in
set_option maxHeartbeats 8000000 in
theorem rat_check {O Oc Oh Og:Nat→Prop} (v cv hv gv:Value) (es:Ents) (c hs:List Int) (gs:List (Int×List Int)) (w:World) (h:EntIn O w v es) (ho:EntOk es) (hc:IntsIn Oc w cv c) (hcb:clauseB c=true) (hh:IntsIn Oh w hv hs) (hg:EntIn Og w gv gs) (hhl:hs.length≤70000) (hgl:gs.length≤70000) (hgh: ∀g∈gs,g.2.length≤70000):
  Calls Tryz.prog 91 #[v,.agg #[cv,hv,gv]] w fun e w'=>e= .returned (.tuple #[.int .u8 ((ratP es c hs gs).1:Nat),.int .i64 (ratP es c hs gs).2.1,.int .i64 ((ratP es c hs gs).2.2:Nat)])∧Below w.heap.size w w':=by
 obtain⟨W,hW,hbW,hS⟩:=three_new w cv hv gv 170
 have HS:=Lib.hid hS
 have HB:=Lib.hid hbW
 have HE:=Lib.hid (fun(X:World) (hx:Below W.heap.size W X)=>(h.below hbW).below hx)
 have HC:=Lib.hid (fun(X:World) (hx:Below W.heap.size W X)=>(hc.below hbW).below hx)
 have HH:=Lib.hid (fun(X:World) (hx:Below W.heap.size W X)=>(hh.below hbW).below hx)
 have HG:=Lib.hid (fun(X:World) (hx:Below W.heap.size W X)=>(hg.below hbW).below hx)
 have HO:=Lib.hid ho
 have HCB:=Lib.hid hcb
 have HGH:=Lib.hid hgh
 have hcl:=clause_len hcb
 have hel:=ho.len
 obtain⟨R,hR⟩: ∃R,ratP es c hs gs=R:=⟨_,rfl⟩
 rw[hR]
 have HR:=Lib.hid hR
 have HRT:=Lib.hid (rat_right v es W (h.below hbW) ho)
 have HAS:=Lib.hid (fun(X:World) (hx:Below W.heap.size W X)=>rup_assume cv c X (HC.out X hx) (by omega))
 obtain⟨Ae,ce,rfl,_⟩:=h
 obtain⟨Ac,cc,rfl,_⟩:=hc
 obtain⟨Ah,ch,rfl,_⟩:=hh
 obtain⟨Ag,cg,rfl,_⟩:=hg
 clear hbW hS ho hcb hgh hR
 go_enter Tryz.func91,Tryz.ntmps91
 go_wp2_with fail
 refine wp_scope_straight ?_
 go_wp2_with fail
 refine HRT.out.mono ?_
 rintro e w1 ⟨rfl,hb1⟩
 have HB1:=Lib.hid hb1
 obtain⟨b0,b1,b2⟩:=HS.out w1 hb1
 have HA1:=HAS.out w1 hb1
 unfold AsmOut at HA1
 rw[HCB.out]at HA1
 simp only[if_true]at HA1
 unfold ratP at HR
 obtain⟨al,hal⟩: ∃b,alwL c=b:=⟨_,rfl⟩
 rw[hal]at HA1 HR
 have HAL:=Lib.hid hal
 have HAA:=Lib.hid HA1
 clear hb1 HRT HAS HA1 hal
 go_wp2_with fail
 refine HAA.out.mono ?_
 rintro e w2 ⟨ha,hb2⟩
 cases al with
 | true=>
  obtain rfl:e=_:=ha
  have HR2:=Lib.hid (HR.out.symm.trans (if_pos rfl))
  have HB2:=Lib.hid (HB.out.trans ((HB1.out.trans (hb2.mono HB1.out.size)).mono HB.out.size))
  clear hb2 HR HAA b0 b1 b2
  go_wp2_with fail
  rw[Exit.noGoto_ret]
  refine bodyPost_ret (v:=.tuple #[.int .u8 1,.int .i64 0,.int .i64 0]) (by simp[results,Tryz.results91,go_sem]) rfl ?_
  rw[HR2.out]
  exact⟨rfl,HB2.out⟩
 | false=>
  obtain⟨av,rfl,hav⟩: ∃v,e= .returned (.tuple #[v,.bool false,.int .i64 0])∧w2.ownsRow w1.heap.size 55 1 v (asmL c).length ((asmL c).map (Value.int .i64)):=ha
  have HAV:=Lib.hid hav
  obtain⟨Aa,ca,rfl,_⟩:=mx_slice hav
  have HB2:=Lib.hid (HB1.out.trans (hb2.mono HB1.out.size))
  obtain⟨f,hf⟩:=asm_some HCB.out HAL.out
  have hr2:=HR.out.symm.trans (if_neg (by decide))
  obtain⟨c0,c1,c2⟩:=HS.out w2 HB2.out
  have hasl:=asm_len c
  have HFO:=Lib.hid (rat_follow _ es _ _ (asmL c) hs f w2 (HE.out w2 HB2.out) HO.out (IntsIn.of_own hav) hf (HH.out w2 HB2.out) (by omega) (by omega))
  obtain⟨F,hF⟩: ∃F,ratFol es (asmL c) hs=F:=⟨_,rfl⟩
  have HFA:=Lib.hid (fun h0=>ratFol_asg (es:=es) HO.out.cls hs (asmL c) f hf (show(ratFol es (asmL c) hs).2.2.2=0 from h0))
  rw[hF]at HFO hr2 HFA
  have HR2:=Lib.hid hr2
  obtain⟨asg,cf,fi,fe⟩:=F
  clear hb2 HR HAA b0 b1 b2 hav hf hr2 hF
  go_wp2_with fail
  refine HFO.out.mono ?_
  rintro e w3 ⟨u,rfl,hu,hb3⟩
  have HU:=Lib.hid hu
  have HB3:=Lib.hid (HB2.out.trans (hb3.mono HB2.out.size))
  obtain⟨d0,d1,d2⟩:=HS.out w3 HB3.out
  have HBW3:=Lib.hid (HB.out.trans (HB3.out.mono HB.out.size))
  clear hb3 HFO c0 c1 c2 hu
  by_cases h0:fe=0
  ·subst h0
   have hr3:=HR2.out.trans (if_neg (fun h=>h rfl))
   cases cf with
   | true=>
    have HR3:=Lib.hid (hr3.trans (if_pos rfl))
    clear HR2 hr3
    go_wp2_with fail
    rw[Exit.noGoto_ret]
    refine bodyPost_ret (v:=.tuple #[.int .u8 1,.int .i64 0,.int .i64 0]) (by simp[results,Tryz.results91,go_sem]) rfl ?_
    rw[HR3.out]
    exact⟨rfl,HBW3.out⟩
   | false=>
    have hr4:=hr3.trans (if_neg (by decide))
    cases c with
    | nil=>
     have HR3:=Lib.hid (show R=(0,0,82)from hr4)
     clear HR2 hr3 hr4
     go_wp2_with fail
     rw[Exit.noGoto_ret]
     refine bodyPost_ret (v:=.tuple #[.int .u8 0,.int .i64 0,.int .i64 82]) (by simp[results,Tryz.results91,go_sem]) rfl ?_
     rw[HR3.out]
     exact⟨rfl,HBW3.out⟩
    | cons p r=>
     obtain⟨⟨f2,hf2⟩,hal2⟩:=HFA.out rfl
     have HF2:=Lib.hid (show asgF asg=some f2 from hf2)
     have hal3:asg.length≤80000:=by
      have h1:asg.length≤(asmL (p::r)).length+hs.length:=hal2
      omega
     have HR3:=Lib.hid (show R=(if(ratGrp es p gs).2≠0 then(0,ratGrp es p gs)else if(ratLoop es p asg gs).2≠0 then(0,ratLoop es p asg gs)else(2,0,0))from hr4)
     clear HR2 hr3 hr4 HFA hf2 hal2
     obtain⟨n,hn⟩: ∃n,(p::r).length=n:=⟨_,rfl⟩
     obtain⟨A',c',hAc,_,_,hxs⟩:=HC.out w3 HB3.out
     simp only[Value.slice.injEq,true_and]at hAc
     obtain⟨rfl,rfl⟩:=hAc
     obtain⟨g,o,rfl,hg,_,e0⟩:=hxs 0 p rfl
     rw[Nat.add_zero]at e0
     rw[hn]at hcl d0⊢
     have hn1:(0:Int)<(n:Int):=by rw[←hn,List.length_cons];omega
     have hn2:0<n:=by omega
     have hn0:((n:Int)==0)=false:=beq_eq_false_iff_ne.2 (by omega)
     have hn3:(n==0)=false:=beq_eq_false_iff_ne.2 (by omega)
     have HGR:=Lib.hid (rat_groups _ _ es p gs w3 (HE.out w3 HB3.out) HO.out (HG.out w3 HB3.out) (by omega))
     obtain⟨G,hG⟩: ∃G,ratGrp es p gs=G:=⟨_,rfl⟩
     have HGC:=Lib.hid (fun h=>grp_cand (es:=es) HO.out.rise (p:=p) (gs:=gs) h)
     rw[hG]at HGR HR3 HGC
     obtain⟨gi,ge⟩:=G
     clear hn hxs hG
     go_wp2_with fail
     refine HGR.out.mono ?_
     rintro e w4 ⟨rfl,hb4⟩
     have HB4:=Lib.hid (HB3.out.trans (hb4.mono HB3.out.size))
     have HU4:=Lib.hid (HU.out.below hb4)
     obtain⟨-,-,g2⟩:=HS.out w4 HB4.out
     have HPRE:=Lib.hid (show(ge≠0→R=(0,gi,ge))∧(ge=0→R=(if(ratLoop es p asg (gs.drop 0)).2≠0 then(0,ratLoop es p asg (gs.drop 0))else(2,0,0)))from⟨fun h0=>HR3.out.trans (if_pos h0),fun h0=>by rw[List.drop_zero];exact HR3.out.trans (if_neg (fun h=>h h0))⟩)
     clear hb4 HGR d0 d1 d2 e0 HR3
     go_wp2_with fail
     refine wp_label ?_
     go_wp2_with fail
     clear g2
     go_loopw [9,12,73] (fun ev dv i wr=> ∃(k E:Nat) (I:Int),k≤gs.length∧ev= .int .i64 (E:Nat)∧dv= .int .i64 I∧i= .int .i64 k∧Hid ((E≠0→R=(0,I,E))∧(E=0→ge=0∧R=(if(ratLoop es p asg (gs.drop k)).2≠0 then(0,ratLoop es p asg (gs.drop k))else(2,0,0))))∧Hid (Below w4.heap.size w4 wr)) (fun _ _ i _=>gs.length-(intOf i).toNat)
     case atStart=>exact⟨0,ge,gi,Nat.zero_le _,rfl,rfl,rfl,Lib.hid ⟨HPRE.out.1,fun h=>⟨h,HPRE.out.2 h⟩⟩,Lib.hid (Below.refl _ _)⟩
     case round=>
      obtain⟨k,E,I,hk,rfl,rfl,rfl,HI,HBk⟩:=hrel
      have HBr:=Lib.hid (HB4.out.trans (HBk.out.mono HB4.out.size))
      have HBWr:=Lib.hid (HB.out.trans (HBr.out.mono HB.out.size))
      by_cases hlt:k<gs.length
      ·obtain⟨gx,hgx⟩:=getElem_of hlt
       obtain⟨A',c',hAc,_,_,hxs⟩:=HG.out wr HBr.out
       simp only[Value.slice.injEq,true_and]at hAc
       obtain⟨rfl,rfl⟩:=hAc
       obtain⟨gg,go,gu,rfl,hgg,_,t0,t1,hgu⟩:=hxs k gx hgx
       have HGX:=Lib.hid hgx
       obtain⟨W1,W2,W3,hW1,hW2,hW3,f0,f1,f2',y0,y1,y2,hbx,hb3⟩:=two_new wr (.int .i64 0) (.slice none 0 0) (.int .i64 gx.1) gu 138
       have HBX:=Lib.hid hbx
       have hb3W:=HBr.out.trans (hb3.mono HBr.out.size)
       have HB3':=Lib.hid hb3W
       have HK3:=Lib.hid (HBk.out.trans (hb3.mono HBk.out.size))
       have z0:=mx_cell (j:=0) hbx
       have HGU:=Lib.hid (hgu.below hb3)
       have hxl:=heap_lt hbx
       obtain⟨Au,cu,rfl,_⟩:=hgu
       by_cases hE:E=0
       ·subst hE
        obtain⟨hge,hRk⟩:=HI.out.2 rfl
        have HGE:=Lib.hid hge
        obtain⟨cc',hget,hcand⟩:=HGC.out hge gx (List.mem_of_getElem? hgx)
        have hst:=loop_step (es:=es) (p:=p) (asg:=asg) hgx hget
        have HRk:=Lib.hid hRk
        have HST:=Lib.hid hst
        have hcb':=HO.out.cls _ (getA_some hget)
        have hcl':=clause_len hcb'
        have HCB':=Lib.hid hcb'
        have hal':alwL cc'=false:=by
         unfold candB at hcand
         rw[Bool.and_eq_true,Bool.not_eq_true']at hcand
         exact hcand.2
        have HAL':=Lib.hid hal'
        have HGET:=Lib.hid hget
        have hghl:=HGH.out gx (List.mem_of_getElem? hgx)
        have HFI:=Lib.hid (rat_find _ es gx.1 W3 (HE.out W3 hb3W) HO.out.rise (by omega))
        obtain⟨gid,gh⟩:=gx
        simp only at t0 t1 HFI HGET HST z0 hghl HGU HBX
        clear hgx hxs hget hcand hst hcb' hal' hge hRk hbx hb3 hb3W HI
        go_wp2_with fail
        refine HFI.out.mono ?_
        rintro e w5 ⟨pi,ok,rfl,hfo,hb5⟩
        obtain⟨i0,rfl,hei⟩:=hfo.at_ cc' HGET.out
        obtain rfl:ok=true:=by rw[hfo.ok,HGET.out];rfl
        have HB5:=Lib.hid (HB3'.out.trans (hb5.mono HB3'.out.size))
        have HBX5:=Lib.hid ((hb5.block _ hxl).trans HBX.out)
        have HGU5:=Lib.hid (HGU.out.below hb5)
        have HK5:=Lib.hid (HK3.out.trans (hb5.mono HK3.out.size))
        have HU5:=Lib.hid (HU4.out.below HK5.out)
        have hil:=(List.getElem?_eq_some_iff.1 hei).1
        have hili:(i0:Int)<(es.length:Int):=by omega
        obtain⟨A',c',hAc,_,_,hxs⟩:=HE.out w5 HB5.out
        simp only[Value.slice.injEq,true_and]at hAc
        obtain⟨rfl,rfl⟩:=hAc
        obtain⟨ge',oe,ue,rfl,hge',_,_,de1,hue⟩:=hxs i0 _ hei
        have HRE:=Lib.hid (rat_rest ue u p cc' asg w5 hue HU5.out (by omega) (by omega))
        obtain⟨rs,hrs⟩: ∃rs,restGo p asg [] cc'=rs:=⟨_,rfl⟩
        have HRA:=Lib.hid (fun h=>rest_asg (p:=p) HF2.out HCB'.out HAL'.out h)
        have hrl:=rest_len (p:=p) (asg:=asg) cc' []
        rw[hrs]at HRE HRA hrl
        have hst:=HST.out
        rw[hrs]at hst
        have HST2:=Lib.hid hst
        obtain⟨Aue,cue,rfl,_⟩:=hue
        obtain⟨more,open_⟩:=rs
        simp only[List.length_nil,Nat.zero_add]at hrl
        clear hei hxs hfo hb5 hst hrs HST t0 t1 f0 f1 f2' y0 y1 y2 hW1 hW2 hW3 z0
        go_wp2_with fail
        refine HRE.out.mono ?_
        rintro e w6 ⟨rv,rfl,hrv,hb6⟩
        have HB6:=Lib.hid (HB5.out.trans (hb6.mono HB5.out.size))
        have HBX6:=Lib.hid ((hb6.block _ (heap_lt HBX5.out)).trans HBX5.out)
        have HGU6:=Lib.hid (HGU5.out.below hb6)
        have HU6:=Lib.hid (HU5.out.below hb6)
        have HK6:=Lib.hid (HK5.out.trans (hb6.mono HK5.out.size))
        have HRV:=Lib.hid (IntsIn.of_own hrv)
        clear hb6 HRE de1 hrv
        cases open_ with
        | false=>
         have HRn:=Lib.hid (show R=(if(ratLoop es p asg (gs.drop (k+1))).2≠0 then(0,ratLoop es p asg (gs.drop (k+1)))else(2,0,0))from by
          rw[HRk.out,HST2.out.trans (if_pos rfl)])
         clear HRk HST2
         go_wp2_with fail
         go_roundw
         case rel=>exact⟨k+1,0,_,by omega,rfl,rfl,by go_num,Lib.hid ⟨fun h=>absurd rfl h,fun _=>⟨HGE.out,HRn.out⟩⟩,HK6⟩
         case measure=>simp[intOf];omega
        | true=>
         obtain⟨f3,hf3⟩:=HRA.out rfl
         have hst3:=HST2.out.trans (if_neg (by decide))
         obtain⟨F2,hF2⟩: ∃F2,ratFol es (asg++more) gh=F2:=⟨_,rfl⟩
         have HF3:=Lib.hid (show asgF (asg++more)=some f3 from hf3)
         have HST3:=Lib.hid (show ratLoop es p asg (gs.drop k)=(if F2.2.2.2≠0 then F2.2.2 else if F2.2.1=false then(gid,93)else ratLoop es p asg (gs.drop (k+1)))from by rw[←hF2];exact hst3)
         have HFE:=Lib.hid hF2
         clear hst3 hf3 HST2 hF2
         go_upto_region 24 with fail
         have z1:=mx_cell (j:=1) HBX6.out
         have hxl6:=heap_lt HBX6.out
         obtain⟨Arv,crv,rfl,_⟩:=HRV.out
         obtain⟨Asv,csv,rfl,_⟩:=HU6.out
         refine wp_region_held_drew (S:=fun w'=>Below w6.heap.size w6 w') (by kernel_rfl) (mx_drew w6) (fun hS=>?_)
         obtain⟨xD,hxD⟩: ∃z,w6.drew=z:=⟨_,rfl⟩
         rw[hxD]at hS⊢
         clear hxD
         refine takeE 0 100 ?_
         refine takeE 1 101 ?_
         refine takeE 2 102 ?_
         refine takeE 5 105 ?_
         refine takeF 6 106 (fun wq hSw=>(hSw.cell (p:=⟨wr.heap.size,1,none⟩) hxl6).trans z1) ?_
         refine ready1 3 (fun K hK=>?_)
         go_simp
         obtain⟨w7,hw7⟩: ∃z,xD.alloc (.cells #[.slice Asv asg.length csv,.slice Arv more.length crv] 30)=z:=⟨_,rfl⟩
         have hb7:Below xD.heap.size xD w7:=by rw[←hw7];exact mx_al _ _
         have hn7:w7.heap[xD.heap.size]? =some (.cells #[.slice Asv asg.length csv,.slice Arv more.length crv] 30 (0,0)):=by rw[←hw7];exact World.alloc_heap_new _ _
         rw[hw7]
         have hS7:=hS.trans (hb7.mono hS.size)
         refine hK.out _ _ hS7 (fun _=>?_)
         clear hK
         have hu7:=(HU6.out.below hS7).lt
         have hr7:=(HRV.out.below hS7).lt
         have hca:ClsAt w7 (.slice (some ⟨xD.heap.size,0,none⟩) 2 2) [asg,more]:=⟨_,2,rfl,fun i xs hi=>by
          match i,hi with
          | 0,hi=>
           obtain rfl:=Option.some.inj hi
           exact⟨_,0,_,rfl,heap_lt hn7,mx_cell (j:=0) hn7,hu7.mono fun g h=>h.2⟩
          | 1,hi=>
           obtain rfl:=Option.some.inj hi
           exact⟨_,0,_,rfl,heap_lt hn7,mx_cell (j:=1) hn7,hr7.mono fun g h=>h.2⟩⟩
         refine ready1 4 (fun K hK=>?_)
         go_simp
         have hfl: [asg,more].flatten=asg++more:=by simp
         have hcc:=concat_ll _ _ w7 hca (by rw[hfl,List.length_append];omega) (by simp)
         rw[hfl]at hcc
         refine hcc.mono ?_
         rintro e w8 ⟨cv,rfl,hcv,hb8⟩
         have hS8:=hS7.trans (hb8.mono hS7.size)
         have HCV:=Lib.hid (IntsIn.of_own hcv)
         refine hK.out _ _ hS8 (fun _=>?_)
         clear hK hcc hca hb7 hn7 hw7 hu7 hr7 hcv
         refine ready1 7 (fun K hK=>?_)
         go_simp
         have hfo:=rat_follow _ es cv _ (asg++more) gh f3 w8 (HE.out w8 (HB6.out.trans (hS8.mono HB6.out.size))) HO.out HCV.out HF3.out (HGU6.out.below hS8) (by rw[List.length_append];omega) (by omega)
         rw[HFE.out]at hfo
         obtain⟨Ax,cf2,fi2,fe2⟩:=F2
         refine hfo.mono ?_
         rintro e w9 ⟨u9,rfl,-,hb9⟩
         have hS9:=hS8.trans (hb9.mono hS8.size)
         have HK9:=Lib.hid (HK6.out.trans (hS9.mono HK6.out.size))
         have HBX9:=Lib.hid ((hS9.block _ hxl6).trans HBX6.out)
         refine hK.out _ _ hS9 (fun _=>?_)
         clear hK hfo hb8 hb9 hS8 hS7 hS hfl z1 hxl6
         refine takeE 8 99 ?_
         refine takeE 9 108 ?_
         refine takeE 10 109 ?_
         refine takeE 11 110 ?_
         refine takeE 12 111 ?_
         refine takeE 13 11 ?_
         refine takeE 14 12 ?_
         refine takeE 15 9 ?_
         refine wpAnyH_done (by kernel_rfl) ?_ _
         by_cases h2:fe2=0
         ·subst h2
          have hst4:=HST3.out.trans (if_neg (fun h=>h rfl))
          cases cf2 with
          | true=>
           have HRn:=Lib.hid (show R=(if(ratLoop es p asg (gs.drop (k+1))).2≠0 then(0,ratLoop es p asg (gs.drop (k+1)))else(2,0,0))from by
            rw[HRk.out,hst4.trans (if_neg (fun h=>by cases h))])
           clear hst4 HST3 HRk
           go_wp2_with fail
           go_roundw
           case rel=>exact⟨k+1,0,_,by omega,rfl,rfl,by go_num,Lib.hid ⟨fun h=>absurd rfl h,fun _=>⟨HGE.out,HRn.out⟩⟩,HK9⟩
           case measure=>simp[intOf];omega
          | false=>
           have HRn:=Lib.hid (show R=(0,gid,93)from by
            rw[HRk.out,hst4.trans (if_pos rfl)]
            rfl)
           have z9:=mx_cell (j:=0) HBX9.out
           clear hst4 HST3 HRk
           go_wp2_with fail
           go_roundw
           case rel=>exact⟨k+1,93,_,by omega,rfl,rfl,by go_num,Lib.hid ⟨fun _=>HRn.out,fun h=>by cases h⟩,HK9⟩
           case measure=>simp[intOf];omega
         ·have q0:((fe2:Int)==0)=false:=beq_eq_false_iff_ne.2 (by omega)
          have HRn:=Lib.hid (show R=(0,fi2,fe2)from by
           rw[HRk.out,HST3.out.trans (if_pos h2)]
           exact if_pos h2)
          have H2:=Lib.hid h2
          clear HST3 HRk h2
          go_wp2_with fail
          go_roundw
          case rel=>exact⟨k+1,fe2,_,by omega,rfl,rfl,by go_num,Lib.hid ⟨fun _=>HRn.out,fun h=>absurd h H2.out⟩,HK9⟩
          case measure=>simp[intOf];omega
       ·have q0:((E:Int)==0)=false:=beq_eq_false_iff_ne.2 (by omega)
        have q1:((E:Int) != 0)=true:=by rw[bne,q0];rfl
        have HRn:=Lib.hid (HI.out.1 hE)
        clear hE hgx hxs hbx hb3 hb3W HI
        go_wp2_with fail
        rw[Exit.noGoto_ret]
        refine bodyPost_ret (v:=.tuple #[.int .u8 0,.int .i64 I,.int .i64 (E:Int)]) (by simp[results,Tryz.results91,go_sem]) rfl ?_
        rw[HRn.out]
        exact⟨rfl,HB.out.trans (HB3'.out.mono HB.out.size)⟩
      ·obtain rfl:k=gs.length:=by omega
       by_cases hE:E=0
       ·subst hE
        have HRn:=Lib.hid (show R=(2,0,0)from by
         have:=(HI.out.2 rfl).2
         rw[List.drop_length]at this
         exact this)
        clear HI
        go_wp2_with fail
        rw[Exit.noGoto_ret]
        refine bodyPost_ret (v:=.tuple #[.int .u8 2,.int .i64 0,.int .i64 0]) (by simp[results,Tryz.results91,go_sem]) rfl ?_
        rw[HRn.out]
        exact⟨rfl,HBWr.out⟩
       ·have q0:((E:Int)==0)=false:=beq_eq_false_iff_ne.2 (by omega)
        have q1:((E:Int) != 0)=true:=by rw[bne,q0];rfl
        have HRn:=Lib.hid (HI.out.1 hE)
        clear hE HI
        go_wp2_with fail
        rw[Exit.noGoto_ret]
        refine bodyPost_ret (v:=.tuple #[.int .u8 0,.int .i64 I,.int .i64 (E:Int)]) (by simp[results,Tryz.results91,go_sem]) rfl ?_
        rw[HRn.out]
        exact⟨rfl,HBWr.out⟩
  ·have q0:((fe:Int)==0)=false:=beq_eq_false_iff_ne.2 (by omega)
   have q1:((fe:Int) != 0)=true:=by rw[bne,q0];rfl
   have HR3:=Lib.hid (HR2.out.trans (if_pos h0))
   clear HR2 h0
   go_wp2_with fail
   rw[Exit.noGoto_ret]
   refine bodyPost_ret (v:=.tuple #[.int .u8 0,.int .i64 fi,.int .i64 (fe:Int)]) (by simp[results,Tryz.results91,go_sem]) rfl ?_
   rw[HR3.out]
   exact⟨rfl,HBW3.out⟩
end Go.Proofs.YtajbmjpodeilpaaGreat
namespace Go.Proofs.YtajbmjpodeilpaaGreat
open Go.RowKit Go.Shelf
def hintB (d:Bool) (h:Int):Bool:=decide (h=0)||decide (1073741824<h)||decide (h< -1073741824)||(d&&decide (h<0))
def headB (s:EStep):Bool:=decide (s.id<0)||decide (1073741824<s.id)||(!s.del&&decide (s.id=0))||(s.del&&decide (0<s.lits.length))
theorem stepB_eq (s:EStep):stepB s=(!headB s&&(clauseB s.lits&&decide (s.hints.length≤65536)&& !(s.hints.any (hintB s.del)))):=rfl
set_option maxRecDepth 100000 in
set_option maxHeartbeats 1000000 in
theorem wrong_one (d:Bool) (q:Nat) (x:Int) (w:World) (hq:w.cell? ⟨q,0,none⟩=some (.bool d)):
  Calls Tryz.prog 121 #[.int .i64 x,.pointer (some ⟨q,0,none⟩)] w fun e w'=>e= .returned (.bool (hintB d x))∧Below w.heap.size w w':=by
 obtain⟨z,hz⟩: ∃z,(x==0)=z:=⟨_,rfl⟩
 obtain⟨b,hb⟩: ∃z,decide ((1073741824:Int)<x)=z:=⟨_,rfl⟩
 obtain⟨c,hc⟩: ∃z,decide (x< -1073741824)=z:=⟨_,rfl⟩
 obtain⟨n,hn⟩: ∃z,decide (x<0)=z:=⟨_,rfl⟩
 have he:hintB d x=(z||b||c||(d&&n)):=by
  unfold hintB
  rw[←hz,hb,hc,hn]
  rfl
 rw[he]
 clear he
 go_enter Tryz.func121,Tryz.ntmps121
 cases z with
 | true=>
  go_wp2_with fail
  go_ret
  exact⟨rfl,Below.refl _ _⟩
 | false=>
  cases b with
  | true=>
   go_wp2_with fail
   go_ret
   exact⟨rfl,Below.refl _ _⟩
  | false=>
   cases c with
   | true=>
    go_wp2_with fail
    go_ret
    exact⟨rfl,Below.refl _ _⟩
   | false=>
    cases d with
    | false=>
     go_wp2_with fail
     go_ret
     exact⟨rfl,Below.refl _ _⟩
    | true=>
     cases n with
     | true=>
      go_wp2_with fail
      go_ret
      exact⟨rfl,Below.refl _ _⟩
     | false=>
      go_wp2_with fail
      go_ret
      exact⟨rfl,Below.refl _ _⟩
set_option maxHeartbeats 400000 in
theorem wrong_run (d:Bool) (w:World):Calls Tryz.prog 87 #[.bool d] w fun e w'=> ∃q,e= .returned (.func (.func 121) #[] #[.pointer (some ⟨q,0,none⟩)])∧w'.cell? ⟨q,0,none⟩=some (.bool d)∧Below w.heap.size w w':=by
 go_enter Tryz.func87,Tryz.ntmps87
 go_wp2
 go_ret
 exact⟨_,rfl,cell_new _ _ _ 0,mx_al _ _⟩
set_option maxRecDepth 100000 in
set_option maxHeartbeats 4000000 in
theorem step_right {O O':Nat→Prop} (s:EStep) (lv hv:Value) (w:World) (hl:IntsIn O w lv s.lits) (hh:IntsIn O' w hv s.hints) (hll:s.lits.length≤100000000000) (hhl:s.hints.length≤100000000000):
  Calls Tryz.prog 61 #[.agg #[.bool s.del,.int .i64 s.id,lv,hv]] w fun e w'=>e= .returned (.bool (stepB s))∧Below w.heap.size w w':=by
 obtain⟨d,id,ls,hs⟩:=s
 simp only at hl hh hll hhl⊢
 obtain⟨W,hW⟩: ∃W,w.alloc (.cells #[.bool d,.int .i64 id,lv,hv] 34)=W:=⟨_,rfl⟩
 have hb:Below w.heap.size w W:=by rw[←hW];exact mx_al _ _
 have hn:W.heap[w.heap.size]? =some (.cells #[.bool d,.int .i64 id,lv,hv] 34 (0,0)):=by rw[←hW];exact World.alloc_heap_new _ _
 have b0:W.cell? ⟨w.heap.size,0,none⟩=some (.bool d):=mx_cell (j:=0) hn
 have b1:W.cell? ⟨w.heap.size,1,none⟩=some (.int .i64 id):=mx_cell (j:=1) hn
 have b2:W.cell? ⟨w.heap.size,2,none⟩=some lv:=mx_cell (j:=2) hn
 have b3:W.cell? ⟨w.heap.size,3,none⟩=some hv:=mx_cell (j:=3) hn
 have hlt:=heap_lt hn
 have HW:=Lib.hid hW
 have HB:=Lib.hid hb
 have HL:=Lib.hid (hl.below hb)
 have HH:=Lib.hid (hh.below hb)
 have HR:=fun W' (k:Below W.heap.size W W')=>right_clause lv ls W' ((hl.below hb).below k) (by omega)
 obtain⟨cb,hcb⟩: ∃cb,clauseB ls=cb:=⟨_,rfl⟩
 rw[hcb]at HR
 have HR:=Lib.hid HR
 obtain⟨A,c,rfl,hcc,_⟩:=hl
 obtain⟨A',c',rfl,hcc',_⟩:=hh
 obtain⟨hd,hhd⟩: ∃z,headB ⟨d,id,ls,hs⟩=z:=⟨_,rfl⟩
 obtain⟨any,hany⟩: ∃z,hs.any (hintB d)=z:=⟨_,rfl⟩
 have HANY:=Lib.hid hany
 have HS:=Lib.hid (show stepB ⟨d,id,ls,hs⟩=(!hd&&(cb&&decide (hs.length≤65536)&& !any))from by rw[stepB_eq,←hhd,←hcb,←hany])
 obtain⟨R,hR⟩: ∃R,stepB ⟨d,id,ls,hs⟩=R:=⟨_,rfl⟩
 rw[hR]at HS⊢
 obtain⟨z,hz⟩: ∃z,(id==0)=z:=⟨_,rfl⟩
 obtain⟨a1,ha1⟩: ∃z,decide (id<0)=z:=⟨_,rfl⟩
 obtain⟨a2,ha2⟩: ∃z,decide ((1073741824:Int)<id)=z:=⟨_,rfl⟩
 obtain⟨a3,ha3⟩: ∃z,decide (0<ls.length)=z:=⟨_,rfl⟩
 have ha3i:decide ((0:Int)<(ls.length:Int))=a3:=by rw[←ha3];exact decide_eq_decide.2 (by omega)
 have HHD:=Lib.hid (show hd=(a1||a2||(!d&&z)||(d&&a3))from by
  rw[←hhd,←hz,←ha1,←ha2,←ha3]
  rfl)
 clear hb hn hW hcb hhd hany hR
 go_enter Tryz.func61,Tryz.ntmps61
 go_upto_region 1 with fail
 rw[HW.out]
 go_cut [30] (fun q wx=>q= .bool hd∧wx=W)
 case first=>
  cases a1 with
  | true=>
   go_wp2_with fail
   go_meet
   exact⟨by rw[HHD.out];rfl,rfl⟩
  | false=>
   cases a2 with
   | true=>
    go_wp2_with fail
    go_meet
    exact⟨by rw[HHD.out];rfl,rfl⟩
   | false=>
    cases d with
    | false=>
     cases z with
     | true=>
      go_wp2_with fail
      go_meet
      exact⟨by rw[HHD.out];rfl,rfl⟩
     | false=>
      go_wp2_with fail
      go_meet
      exact⟨by rw[HHD.out];rfl,rfl⟩
    | true=>
     cases a3 with
     | true=>
      go_wp2_with fail
      go_meet
      exact⟨by rw[HHD.out];rfl,rfl⟩
     | false=>
      go_wp2_with fail
      go_meet
      exact⟨by rw[HHD.out];rfl,rfl⟩
 case rest=>
  obtain⟨rfl,rfl⟩:=hcut
  cases hd with
  | true=>
   go_wp2_with fail
   go_ret
   exact⟨by rw[HS.out];rfl,HB.out⟩
  | false=>
   cases cb with
   | false=>
    go_upto_region 3 with fail
    refine wp_region_held_drew (S:=fun w'=>Below wc.heap.size wc w') (by kernel_rfl) (mx_drew wc) (fun hS=>?_)
    refine takeE 0 31 ?_
    refine takeF 1 32 (fun wq hSw=>(hSw.cell (p:=⟨w.heap.size,2,none⟩) hlt).trans b2) ?_
    refine ready1 2 (fun K hK=>?_)
    go_simp
    refine(HR.out _ hS).mono ?_
    rintro e w' ⟨rfl,rfl⟩
    refine hK.out _ _ hS (fun _=>?_)
    clear hK
    refine takeE 3 34 ?_
    refine takeU 4 35 ?_
    refine takeU 5 36 ?_
    refine takeU 6 37 ?_
    refine takeU 7 38 ?_
    refine takeE 8 39 ?_
    refine takeE 9 40 ?_
    refine takeU 10 41 ?_
    refine takeU 11 42 ?_
    refine takeU 12 43 ?_
    refine takeU 13 44 ?_
    refine takeU 14 45 ?_
    refine takeU 15 46 ?_
    refine takeU 16 47 ?_
    refine takeE 17 48 ?_
    refine takeE 18 2 ?_
    refine wpAnyH_done (by kernel_rfl) ?_ _
    go_wp2_with fail
    go_ret
    exact⟨by rw[HS.out];rfl,HB.out.trans (hS.mono HB.out.size)⟩
   | true=>
    obtain⟨hl,hhl2⟩: ∃z,decide (hs.length≤65536)=z:=⟨_,rfl⟩
    have hhli:decide ((hs.length:Int)≤65536)=hl:=by rw[←hhl2];exact decide_eq_decide.2 (by omega)
    rw[hhl2]at HS
    cases hl with
    | false=>
     go_upto_region 3 with fail
     refine wp_region_held_drew (S:=fun w'=>Below wc.heap.size wc w') (by kernel_rfl) (mx_drew wc) (fun hS=>?_)
     refine takeE 0 31 ?_
     refine takeF 1 32 (fun wq hSw=>(hSw.cell (p:=⟨w.heap.size,2,none⟩) hlt).trans b2) ?_
     refine ready1 2 (fun K hK=>?_)
     go_simp
     refine(HR.out _ hS).mono ?_
     rintro e w' ⟨rfl,rfl⟩
     refine hK.out _ _ hS (fun _=>?_)
     clear hK
     refine takeE 3 34 ?_
     refine takeE 4 35 ?_
     refine takeF 5 36 (fun wq hSw=>(hSw.cell (p:=⟨w.heap.size,3,none⟩) hlt).trans b3) ?_
     refine takeE 6 37 ?_
     refine takeE 7 38 ?_
     refine takeE 8 39 ?_
     refine takeE 9 40 ?_
     refine takeU 10 41 ?_
     refine takeU 11 42 ?_
     refine takeU 12 43 ?_
     refine takeU 13 44 ?_
     refine takeU 14 45 ?_
     refine takeU 15 46 ?_
     refine takeU 16 47 ?_
     refine takeE 17 48 ?_
     refine takeE 18 2 ?_
     refine wpAnyH_done (by kernel_rfl) ?_ _
     go_wp2_with fail
     go_ret
     exact⟨by rw[HS.out];rfl,HB.out.trans (hS.mono HB.out.size)⟩
    | true=>
     go_upto_region 3 with fail
     refine wp_region_held_drew (S:=fun w'=>Below wc.heap.size wc w') (by kernel_rfl) (mx_drew wc) (fun hS=>?_)
     refine takeE 0 31 ?_
     refine takeF 1 32 (fun wq hSw=>(hSw.cell (p:=⟨w.heap.size,2,none⟩) hlt).trans b2) ?_
     refine ready1 2 (fun K hK=>?_)
     go_simp
     refine(HR.out _ hS).mono ?_
     rintro e w' ⟨rfl,rfl⟩
     refine hK.out _ _ hS (fun _=>?_)
     clear hK
     refine takeE 3 34 ?_
     refine takeE 4 35 ?_
     refine takeF 5 36 (fun wq hSw=>(hSw.cell (p:=⟨w.heap.size,3,none⟩) hlt).trans b3) ?_
     refine takeE 6 37 ?_
     refine takeE 7 38 ?_
     refine takeE 8 39 ?_
     refine takeE 9 40 ?_
     refine takeE 10 41 ?_
     refine takeF 11 42 (fun wq hSw=>(hSw.cell (p:=⟨w.heap.size,3,none⟩) hlt).trans b3) ?_
     refine takeE 12 43 ?_
     refine takeF 13 44 (fun wq hSw=>(hSw.cell (p:=⟨w.heap.size,0,none⟩) hlt).trans b0) ?_
     refine ready1 14 (fun K hK=>?_)
     go_simp
     refine(wrong_run d _).mono ?_
     rintro e w2 ⟨q,rfl,hq,hb2⟩
     have hS2:=hS.trans (hb2.mono hS.size)
     have hcon:=contains_nf 121 (.pointer (some ⟨q,0,none⟩)) _ hs (hintB d) w2 (enters_of Tryz.func121 (by kernel_rfl) rfl) (HH.out.below hS2) (by omega) (fun W hb x _=>wrong_one d q x W ((hb.cell (p:=⟨q,0,none⟩) (World.block_lt_of_cell? w2 _ hq)).trans hq))
     rw[HANY.out]at hcon
     have HCON:=Lib.hid hcon
     refine hK.out _ _ hS2 (fun _=>?_)
     clear hK hS hcon hb2 hq
     refine ready1 15 (fun K hK=>?_)
     go_simp
     refine HCON.out.mono ?_
     rintro e w3 ⟨rfl,hb3⟩
     have hS:=hS2.trans (hb3.mono hS2.size)
     refine hK.out _ _ hS (fun _=>?_)
     clear hK hS2 hb3 HCON
     refine takeE 16 47 ?_
     refine takeE 17 48 ?_
     refine takeE 18 2 ?_
     refine wpAnyH_done (by kernel_rfl) ?_ _
     go_wp2_with fail
     go_ret
     exact⟨by rw[HS.out];rfl,HB.out.trans (hS.mono HB.out.size)⟩
end Go.Proofs.YtajbmjpodeilpaaGreat
