/- package salvorlaw17: kept. -/
import Derived.Test.YtcbjjdpngeabgaaGreatDoorV832
import Derived.Test.YtcbjjdpngeabgaaGreatDoorV833
import Derived.Test.YtcbjjdpngeabgaaGreatDoorV830
namespace Go.Proofs.YtcbjjdpngeabgaaGreatDoor
open Go.RowKit
theorem StepIn.drop {O:Nat→Prop} {w:World} {g o n c i M:Nat} {ss:List EStep} (h:StepIn O w (.slice (some ⟨g,o,none⟩) n c) ss) (hM:M+(i+1)=n):StepIn O w (.slice (if c=i+1 then some ⟨g,o,none⟩else some ⟨g,o+(i+1)*4,none⟩) M (c-(i+1))) (ss.drop (i+1)):=by
 obtain⟨A,c',hv,hc,_,hx⟩:=h
 simp only[Value.slice.injEq]at hv
 obtain⟨rfl,rfl,rfl⟩:=hv
 have hl:(ss.drop (i+1)).length=M:=by rw[List.length_drop];omega
 refine⟨_,c-(i+1),by rw[hl],by rw[hl];omega,(fun h=>by split at h <;> cases h),fun j s hj=>?_⟩
 have hjl:=(List.getElem?_eq_some_iff.1 hj).1
 rw[List.getElem?_drop]at hj
 obtain⟨g',o',ul,uh,e,h1,h2,d0,d1,d2,d3,h3,h4⟩:=hx _ s hj
 simp only[Option.some.injEq,Addr.mk.injEq,and_true]at e
 obtain⟨rfl,rfl⟩:=e
 refine⟨g,o+(i+1)*4,ul,uh,by rw[if_neg (by omega)],h1,h2,?_,?_,?_,?_,h3,h4⟩
 ·rw[show o+(i+1)*4+j*4=o+(i+1+j)*4 by omega];exact d0
 ·rw[show o+(i+1)*4+j*4=o+(i+1+j)*4 by omega];exact d1
 ·rw[show o+(i+1)*4+j*4=o+(i+1+j)*4 by omega];exact d2
 ·rw[show o+(i+1)*4+j*4=o+(i+1+j)*4 by omega];exact d3
set_option maxRecDepth 100000 in
set_option maxHeartbeats 8000000 in
theorem law_kept (l x y:Value) (xss:List (List Int)) (xs ys:List Int) (w:World) (hl:RowsAt .i8 w l xss) (hx:RowAt .u8 w x xs) (hxl:xs.length≤140737488355328) (hy:RowAt .u8 w y ys) {cs:List (List Int)} (hcs:(xss.take 14).map madeL=cs) {ss:List EStep} (hss:resL cs xs 20=ss):
  Calls Tryz.prog 6 #[l,x,y] w fun e w'=> ∃(b i:Nat) (L:ELog) (B:Nat),e= .returned (.pointer (some ⟨b,0,none⟩))∧LogIn (fun _=>False) B w' b L∧w.heap.size≤B∧KI cs ss i L∧i≤ss.length∧Below w.heap.size w w':=by
 have HMD:=Lib.hid (fun(X:World) (hX:Below w.heap.size w X)=>made10_any l xss X (hl.below hX) hcs rfl)
 have HX:=Lib.hid (fun(X:World) (hX:Below w.heap.size w X)=>hx.below hX)
 have HY:=Lib.hid (fun(X:World) (hX:Below w.heap.size w X)=>hy.below hX)
 have h6: ∀c∈cs,Lit6 c:=by rw[←hcs];exact made_six xss
 have hcn:cs.length≤14:=by rw[←hcs,List.length_map,List.length_take];omega
 obtain⟨hrs,hsl⟩:=resL_ok h6 xs 20
 rw[hss]at hrs hsl
 have hs6: ∀s∈ss,Lit6 s.lits∧s.hints.length=2:=fun s hs=>by
  obtain⟨j,hj⟩:=List.getElem?_of_mem hs
  obtain⟨_,_,_,_,_,_,_,h3,_,_,_,_,_,_,h9⟩:=hrs j s hj
  exact⟨h9,by rw[h3];rfl⟩
 have HRS:=Lib.hid hrs
 have HSL:=Lib.hid hsl
 have H6:=Lib.hid h6
 have HS6:=Lib.hid hs6
 have HSS:=Lib.hid hss
 obtain⟨n,hn⟩: ∃n,cs.length=n:=⟨_,rfl⟩
 have HN:=Lib.hid hn
 rw[hn]at HMD hcn
 clear hcs hl hx hy hrs hss hs6 h6 hsl hn
 go_enter Tryz.func6,Tryz.ntmps6
 go_wp2_with fail
 refine(HMD.out w (Below.refl _ _)).mono ?_
 rintro e w2 ⟨A,k,rfl,hcl,hb2⟩
 obtain⟨W3,hW3,hb3,hc3,-⟩:=al_new w2 #[.int .i64 6,.slice A n k] 27
 have HC3:=Lib.hid ((hcl.clsIn.below hb3).mono (O':=fun _=>True) fun _ _=>trivial)
 have HB3:=Lib.hid (hb2.trans (hb3.mono hb2.size))
 have HW3:=Lib.hid hW3
 have HX3:=Lib.hid hc3
 have HRES:=Lib.hid (law_resolved 6 20 _ x cs xs W3 HC3.out H6.out (by rw[HN.out];omega) (HX.out W3 HB3.out) (by decide) hxl)
 rw[HSS.out]at HRES
 have c0:=mx_cell (j:=0) hc3
 have c1:=mx_cell (j:=1) hc3
 clear hW3 hb3 hc3 hcl hb2 HMD HX HSS
 go_upto_region 2 with fail
 rw[HW3.out]
 go_wp2_with fail
 refine HRES.out.mono ?_
 rintro e w4 ⟨v,K,rfl,hK,hst,hb4⟩
 obtain⟨Av,cv,rfl,hkc⟩:=mx_slice hst.row
 have hkl:K.length=ss.length:=by rw[←hK,List.length_map]
 have HST:=Lib.hid (show StepIn (fun g=>g<w4.heap.size) w4 (.slice Av K.length cv) ss from by
  rw[←hK]
  exact hst.stepIn.lt.mono fun _ h=>h.2)
 obtain⟨NL,hNL⟩: ∃NL,ss.length=NL:=⟨_,rfl⟩
 rw[hkl,hNL]at HST hkc⊢
 have HNL:=Lib.hid hNL
 have hnl20:NL≤20:=by have:=HSL.out;omega
 have HX4:=Lib.hid ((hb4.block _ (heap_lt HX3.out)).trans HX3.out)
 have HB4:=Lib.hid (HB3.out.trans (hb4.mono HB3.out.size))
 have c0:=mx_cell (j:=0) HX4.out
 have c1:=mx_cell (j:=1) HX4.out
 have HNEW:=Lib.hid (new_in n w4 (by omega))
 clear hst hb4 hK hkl HRES hNL
 go_wp2_with fail
 refine HNEW.out.mono ?_
 rintro e w5 ⟨rfl,hlog,hb5⟩
 have HLOG:=Lib.hid hlog
 have HB5:=Lib.hid hb5
 obtain⟨B,hB⟩: ∃B,w4.heap.size=B:=⟨_,rfl⟩
 rw[hB]at HLOG HB5 HST
 have HBB:=Lib.hid hB
 obtain⟨hk0,hf0⟩:=KI.new (cs:=cs) (ss:=ss) (by rw[HN.out];exact hcn)
 rw[HN.out]at hk0 hf0
 have HK0:=Lib.hid hk0
 have HF0:=Lib.hid hf0
 have hy0:=HY.out w (Below.refl _ _)
 obtain⟨Ay,cy,rfl,hyc,hym,-⟩:=hy0
 unfold maxLen at hym
 obtain⟨NY,hNY⟩: ∃NY,ys.length=NY:=⟨_,rfl⟩
 have HNY:=Lib.hid hNY
 rw[hNY]at hyc HY⊢
 rw[hB]
 clear hlog hb5 hB hk0 hf0 c0 c1 HNEW hNY
 go_wp2_with fail
 go_loopw [41] (fun iv wr=> ∃(i:Nat) (L:ELog),i≤NL∧iv= .int .i64 i∧Hid (LogIn (fun _=>False) B wr (B+1) L)∧Hid (KI cs ss i L)∧Hid (Fut ss i L)∧Hid (Below B w4 wr)) (fun iv _=>NL-(intOf iv).toNat)
 case atStart=>exact⟨0,_,Nat.zero_le _,rfl,HLOG,HK0,HF0,HB5⟩
 case round=>
  obtain⟨i,L,hi,rfl,HL,HK,HF,HBr⟩:=hrel
  have hBB:=HBB.out
  have hbr:Below w4.heap.size w4 wr:=by rw[hBB];exact HBr.out
  by_cases hlt:i<NL
  ·obtain⟨s,hs⟩: ∃s,ss[i]? =some s:=⟨_,List.getElem?_eq_getElem (by rw[HNL.out];exact hlt)⟩
   obtain⟨A',c',hAc,_,_,hxs⟩:=HST.out
   simp only[Value.slice.injEq]at hAc
   obtain⟨rfl,-,rfl⟩:=hAc
   obtain⟨g,o,ul,uh,rfl,hg,_,d0,d1,d2,d3,hul,huh⟩:=hxs i s hs
   have d0:=(hbr.cell (p:=⟨g,o+i*4,none⟩) hg).trans d0
   have d1:=(hbr.cell (p:=⟨g,o+i*4+1,none⟩) hg).trans d1
   have d2:=(hbr.cell (p:=⟨g,o+i*4+2,none⟩) hg).trans d2
   have d3:=(hbr.cell (p:=⟨g,o+i*4+3,none⟩) hg).trans d3
   obtain⟨W1,hW1,hb1,hc1,hz1⟩:=al_new wr #[.bool s.del,.int .i64 s.id,ul,uh] 41
   have hL1:=HL.out.below hb1
   have hbr1:=hbr.trans (hb1.mono hbr.size)
   have HBR1:=Lib.hid hbr1
   obtain⟨dd,hdd⟩: ∃dd,L.done=dd:=⟨_,rfl⟩
   have HDN:=Lib.hid (show Calls Tryz.prog 13 #[.pointer (some ⟨B+1,0,none⟩)] W1 fun e w'=>e= .returned (.bool dd)∧W1=w' from hdd▸log_done (B+1) L W1 hL1.1)
   obtain⟨hs6,hsh⟩:=HS6.out s (List.mem_of_getElem? hs)
   have hHW: ∀z∈s.hints,(Lit.int .i64 z).wf=true:=fun z hz=>by
    obtain⟨_,_,_,_,_,_,_,e3,e4,e5,_⟩:=HRS.out i s hs
    rw[HN.out]at e4 e5
    rw[e3]at hz
    rcases List.mem_cons.1 hz with e|hz
    ·exact wf64 (by omega) (by omega)
    ·have:=List.mem_singleton.1 hz
     exact wf64 (by omega) (by omega)
   have HLN:=Lib.hid (learn_in B (B+1) L ul uh s.lits s.hints wr W1 HL.out hb1 (fun _ h=>h.elim) ((hul.below hbr1).mono fun g h=>.inr (.inl h)) ((huh.below hbr1).mono fun g h=>.inr (.inl h)) (by have:=hs6.1;omega) (by omega) hHW)
   have HDD:=Lib.hid hdd
   have HS:=Lib.hid hs
   have HSZ:=Lib.hid (show wr.heap.size≤W1.heap.size from hb1.size)
   have HC1:=Lib.hid hc1
   have HL1:=Lib.hid hL1
   have HW1:=Lib.hid hW1
   obtain⟨Al,cl,rfl,_⟩:=hul
   obtain⟨Ah,ch,rfl,_⟩:=huh
   have z2:=mx_cell (j:=2) hc1
   have z3:=mx_cell (j:=3) hc1
   clear hW1 hb1 hc1 hz1 hL1 hbr1 hxs hs hdd hHW hs6 hsh
   go_upto_region 9 with fail
   rw[HW1.out]
   go_wp2_with fail
   refine HDN.out.mono ?_
   rintro e w' ⟨rfl,rfl⟩
   cases dd with
   | true=>
    go_wp2_with fail
    go_ret
    exact⟨B+1,i,L,B,rfl,HL1.out,by rw[←hBB];exact HB4.out.size,HK.out,by rw[HNL.out];exact hi,HB4.out.trans (HBR1.out.mono HB4.out.size)⟩
   | false=>
    obtain⟨he,hid,hk1,hf1,hj1,hln1⟩:=HK.out.learn HF.out HRS.out H6.out (by rw[HN.out];exact hcn) HSL.out HDD.out HS.out
    have hln:=HLN.out
    rw[show learnNum L s.lits s.hints=s.id from by unfold learnNum;rw[if_pos he,hid],he,show learnLog L s.lits s.hints=L.learn s.lits s.hints from by unfold learnLog;rw[if_pos he]]at hln
    have HLN2:=Lib.hid hln
    obtain⟨L1,hL1⟩: ∃L1,L.learn s.lits s.hints=L1:=⟨_,rfl⟩
    rw[hL1]at HLN2 hk1 hf1 hj1 hln1
    have HK1:=Lib.hid hk1
    have HF1:=Lib.hid hf1
    have HJ1:=Lib.hid hj1
    have HLN1:=Lib.hid hln1
    clear hln he hid hk1 hf1 hj1 hln1 HLN hL1 d0 d1 d2 d3
    go_wp2_with fail
    refine HLN2.out.mono ?_
    rintro e w6 ⟨rfl,hlog6,hkp⟩
    have HL6:=Lib.hid hlog6
    have hbW6:Below B W1 w6:=hkp.toBelow (by have:=HBR1.out.size;omega)
    have HB6:=Lib.hid (show Below B w4 w6 from by
     have h:=HBR1.out
     rw[hBB]at h
     exact h.trans hbW6)
    have hbx6:=(hkp.block _ (heap_lt HC1.out) (fun h=>Nat.lt_irrefl _ h.2.1)).trans HC1.out
    have b1:=mx_cell (j:=1) hbx6
    have hii:(s.id != s.id)=false:=bne_self_eq_false s.id
    clear hlog6 hkp hbW6 hbx6 z2 z3
    by_cases hiy:NY≤i
    ·have q1:decide ((NY:Int)≤(i:Int))=true:=decide_eq_true (by omega)
     go_wp2_with fail
     go_roundw
     case rel=>exact⟨i+1,L1,by omega,by go_num,HL6,HK1,HF1,HB6⟩
     case measure=>simp[intOf];omega
    ·have q1:decide ((NY:Int)≤(i:Int))=false:=decide_eq_false (by omega)
     have q2:(i:Int)<(NY:Int):=by omega
     obtain⟨dz,hdz⟩: ∃dz,L1.done=dz:=⟨_,rfl⟩
     have HDN2:=Lib.hid (show Calls Tryz.prog 13 #[.pointer (some ⟨B+1,0,none⟩)] w6 fun e w'=>e= .returned (.bool dz)∧w6=w' from hdz▸log_done (B+1) L1 w6 HL6.out.1)
     have HDZ:=Lib.hid hdz
     clear hdz
     go_wp2_with fail
     refine HDN2.out.mono ?_
     rintro e w' ⟨rfl,rfl⟩
     cases dz with
     | true=>
      go_wp2_with fail
      go_roundw
      case rel=>exact⟨i+1,L1,by omega,by go_num,HL6,HK1,HF1,HB6⟩
      case measure=>simp[intOf];omega
     | false=>
      obtain⟨A7,c7,h7,_,_,_,hwf,hxy⟩:=HY.out w (Below.refl _ _)
      rw[HNY.out]at h7
      simp only[Value.slice.injEq,true_and]at h7
      obtain⟨rfl,rfl⟩:=h7
      obtain⟨z,hz⟩: ∃z,ys[i]? =some z:=⟨_,List.getElem?_eq_getElem (by rw[HNY.out];omega)⟩
      obtain⟨gy,oy,rfl,hgy,dy⟩:=hxy i z hz
      have hzr:=u8_rng10 (hwf z (List.mem_of_getElem? hz))
      obtain⟨hz0,hz1⟩:=hzr
      have hbw6:Below w.heap.size w w6:=HB4.out.trans (by
       have h:=HB6.out
       rw[←hBB]at h
       exact h.mono HB4.out.size)
      have dy:=(hbw6.cell (p:=⟨gy,oy+i,none⟩) hgy).trans dy
      have hid:s.id=(n:Int)+i+1:=by
       obtain⟨_,_,_,_,_,_,e2,_⟩:=HRS.out i s HS.out
       rw[HN.out]at e2
       omega
      obtain⟨sid,hsid⟩: ∃sid:Int,s.id=sid:=⟨_,rfl⟩
      have hs1:0<sid:=by omega
      have hs40:sid≤40:=by omega
      obtain⟨m,hm⟩: ∃m:Int,z.tmod sid=m:=⟨_,rfl⟩
      have hm0:0≤m:=by rw[←hm];exact Int.tmod_nonneg sid hz0
      have hms:m<sid:=by rw[←hm];exact Int.tmod_lt_of_pos z hs1
      obtain⟨od,hod⟩: ∃od:Int,1+m=od:=⟨_,rfl⟩
      have hwz:IntKind.i64.wrap z=z:=IntWalk.i64_in _ (by omega)
      have hws:IntKind.i64.wrap sid=sid:=IntWalk.i64_in _ (by omega)
      have hwm:IntKind.i64.wrap m=m:=IntWalk.i64_in _ (by omega)
      have hwo:IntKind.i64.wrap od=od:=IntWalk.i64_in _ (by omega)
      have hsne:(sid==0)=false:=beq_eq_false_iff_ne.2 (by omega)
      have HODR:=Lib.hid (show 1≤od∧od≤(n:Int)+i+1 from by omega)
      rw[hsid]at b1
      clear hwf hxy hz hbw6 hid hii
      rw[hsid]
      obtain⟨M,hM⟩: ∃M,M+(i+1)=NL:=⟨NL-(i+1),by omega⟩
      have HDR:=Lib.hid (HST.out.drop hM)
      have hMs:NL-(i+1)=M:=by omega
      have hic:i+1≤NL:=by omega
      have hic2:(i:Int)+1≤(NL:Int):=by omega
      have hic3:i+1≤cv:=by omega
      have hwi:IntKind.i64.wrap ((i:Int)+1)=(i:Int)+1:=IntWalk.i64_in _ (by omega)
      go_upto_region 17 with fail
      go_cut [85,86,87] (fun a b c wx=> ∃(A2:Option Addr) (c2:Nat),a= .slice A2 M c2∧b= .int .i64 (M:Nat)∧c= .int .i64 0∧w6=wx∧Hid (StepIn (fun g=>g<B) w4 (.slice A2 M c2) (ss.drop (i+1))))
      case first=>
       by_cases hcv:cv=i+1
       ·have hdr:=HDR.out
        rw[if_pos hcv,hcv,Nat.sub_self]at hdr
        have HD:=Lib.hid hdr
        clear hdr
        go_wp2_with fail
        go_meet
        exact⟨_,_,rfl,rfl,rfl,rfl,HD⟩
       ·have hdr:=HDR.out
        rw[if_neg hcv]at hdr
        have HD:=Lib.hid hdr
        clear hdr
        go_wp2_with fail
        go_meet
        exact⟨_,_,rfl,rfl,rfl,rfl,HD⟩
      case rest=>
       obtain⟨A2,c2,rfl,rfl,rfl,rfl,HD⟩:=hcut
       have hMl:(ss.drop (i+1)).length=M:=by rw[List.length_drop,HNL.out];omega
       have HML:=Lib.hid hMl
       clear hMl HDR
       go_wp2_with fail
       go_loopw [16,87] (fun nv jv w9=> ∃j:Nat,j≤M∧nv= .bool (((ss.drop (i+1)).take j).any fun t=>t.hints.contains od)∧jv= .int .i64 j∧Hid (Below w6.heap.size w6 w9)) (fun _ jv _=>M-(intOf jv).toNat)
       case atStart=>exact⟨0,Nat.zero_le _,rfl,rfl,Lib.hid (Below.refl _ _)⟩
       case round=>
        obtain⟨j,hj,rfl,rfl,HBn⟩:=hrel
        obtain⟨nd,hnd⟩: ∃nd,(((ss.drop (i+1)).take j).any fun t=>t.hints.contains od)=nd:=⟨_,rfl⟩
        have HND:=Lib.hid hnd
        rw[hnd]
        clear hnd
        by_cases hjM:j<M
        ·obtain⟨u,hu⟩: ∃u,(ss.drop (i+1))[j]? =some u:=⟨_,List.getElem?_eq_getElem (by rw[HML.out];exact hjM)⟩
         have hbr9:Below w4.heap.size w4 wr:=by
          have h:=HB6.out
          rw[←hBB]at h
          exact h.trans (HBn.out.mono h.size)
         obtain⟨A3,c3,hA3,_,_,hxd⟩:=HD.out
         simp only[Value.slice.injEq]at hA3
         obtain⟨rfl,-,rfl⟩:=hA3
         obtain⟨g3,o3,vl,vh,rfl,hg3,_,e0,e1,e2,e3,hvl,hvh⟩:=hxd j u hu
         have e0:=(hbr9.cell (p:=⟨g3,o3+j*4,none⟩) hg3).trans e0
         have e1:=(hbr9.cell (p:=⟨g3,o3+j*4+1,none⟩) hg3).trans e1
         have e2:=(hbr9.cell (p:=⟨g3,o3+j*4+2,none⟩) hg3).trans e2
         have e3:=(hbr9.cell (p:=⟨g3,o3+j*4+3,none⟩) hg3).trans e3
         obtain⟨V,hV,hbV,hcV,-⟩:=al_new wr #[.bool u.del,.int .i64 u.id,vl,vh] 41
         obtain⟨zc,hzc⟩: ∃zc,u.hints.contains od=zc:=⟨_,rfl⟩
         have HCT:=Lib.hid (contains_i vh u.hints od V ((hvh.below hbr9).below hbV) (by
          have:=(HS6.out u (List.mem_of_mem_drop (List.mem_of_getElem? hu))).2
          omega))
         rw[hzc]at HCT
         have HST2:=Lib.hid (show(((ss.drop (i+1)).take (j+1)).any fun t=>t.hints.contains od)=(nd||zc)from by
          rw[List.take_add_one,hu,List.any_append,HND.out,←hzc]
          simp)
         have HBV:=Lib.hid (HBn.out.trans (hbV.mono HBn.out.size))
         have HVW:=Lib.hid hV
         have z3:=mx_cell (j:=3) hcV
         obtain⟨Bl,bl,rfl,_⟩:=hvl
         obtain⟨Bh,bh,rfl,_⟩:=hvh
         clear hV hbV hcV hzc hu hxd hbr9
         go_upto_region 20 with fail
         rw[HVW.out]
         cases nd with
         | true=>
          go_wp2_with fail
          go_roundw
          case rel=>exact⟨j+1,by omega,by rw[HST2.out,Bool.true_or],by go_num,HBV⟩
          case measure=>simp[intOf];omega
         | false=>
          go_wp2_with fail
          refine HCT.out.mono ?_
          rintro e w' ⟨rfl,rfl⟩
          go_wp2_with fail
          go_roundw
          case rel=>exact⟨j+1,by omega,by rw[HST2.out,Bool.false_or],by go_num,HBV⟩
          case measure=>simp[intOf];omega
        ·obtain rfl:j=M:=by omega
         have HND2:=Lib.hid (show((ss.drop (i+1)).any fun t=>t.hints.contains od)=nd from by
          rw[←HND.out,List.take_of_length_le (by rw[HML.out];exact Nat.le_refl _)])
         obtain⟨w9,hw9⟩: ∃z,wr=z:=⟨_,rfl⟩
         have HBN:=Lib.hid (show Below w6.heap.size w6 w9 from hw9▸HBn.out)
         rw[hw9]
         clear hw9
         obtain⟨V,hV,hbV,hcV,-⟩:=al_new w9 #[.int .i64 od] 3
         have hb6V:=HBN.out.trans (hbV.mono HBN.out.size)
         have hod1:=HODR.out.1
         have hod2:=HODR.out.2
         have HFG:=Lib.hid (forget_in B (B+1) L1 (.slice (some ⟨w9.heap.size,0,none⟩) 1 1) [od] w6 V HL6.out hb6V (fun _ h=>h.elim) ((ints_blk (O:=fun g=>w6.heap.size≤g) (xs:= [od]) hcV HBN.out.size).mono fun g h=>.inl h) (show 1≤140737488355328 by decide) (fun z hz=>by rw[List.mem_singleton.1 hz];exact wf64 (by omega) (by omega)))
         obtain⟨hfa,hfb⟩:=HK1.out.forget HSL.out (by rw[HN.out];exact hcn) (by rw[HNL.out];omega) HDZ.out HJ1.out HLN1.out od
         have HVW:=Lib.hid hV
         have HB6V:=Lib.hid hb6V
         have HWF:=Lib.hid (show(Lit.int .i64 od).wf=true from wf64 (by omega) (by omega))
         have HB4V:=Lib.hid (HB6.out.trans (HB6V.out.mono (by have:=HL6.out.size;omega)))
         have hVs:w6.heap.size≤V.heap.size:=HB6V.out.size
         have hBV:B≤V.heap.size:=by have:=HL6.out.size;omega
         clear hbV hcV hb6V hV hod1 hod2
         by_cases hhas:L1.has od=true
         ·obtain⟨f1,f2,f3,f4,f5,f6⟩:=hfb hhas
          have hfg:=HFG.out
          rw[f1,f2,f3]at hfg
          obtain⟨L2,hL2⟩: ∃L2,L1.addDel [od]=L2:=⟨_,rfl⟩
          rw[hL2]at hfg f4 f5 f6
          have HFG2:=Lib.hid hfg
          have HF4:=Lib.hid f4
          have HF5:=Lib.hid f5
          have HF6:=Lib.hid f6
          clear hfg hfa hfb f1 f2 f3 f4 f5 f6 hL2 hhas HFG
          go_wp2_with fail
          rw[HVW.out]
          refine HFG2.out.mono ?_
          rintro e w10 ⟨rfl,hl10,hk10⟩
          have HL10:=Lib.hid hl10
          have HB10:=Lib.hid (HB4V.out.trans (hk10.toBelow hBV))
          have HHS:=Lib.hid (show Calls Tryz.prog 17 #[.pointer (some ⟨B+1,0,none⟩),.int .i64 od] w10 fun e w'=>e= .returned (.bool false)∧w10=w' from HF4.out▸log_has (B+1) L2 od w10 hl10.1 HWF.out)
          clear hl10 hk10 HFG2
          cases nd with
          | true=>
           go_wp2_with fail
           refine HHS.out.mono ?_
           rintro e w' ⟨rfl,rfl⟩
           go_wp2_with fail
           go_ret
           exact⟨B+1,i+1,L2,B,rfl,HL10.out,by rw[←hBB];exact HB4.out.size,HF5.out,by rw[HNL.out];omega,HB4.out.trans (by
            have h:=HB10.out
            rw[←hBB]at h
            exact h.mono HB4.out.size)⟩
          | false=>
           go_wp2_with fail
           refine HHS.out.mono ?_
           rintro e w' ⟨rfl,rfl⟩
           go_wp2_with fail
           refine HHS.out.mono ?_
           rintro e w' ⟨rfl,rfl⟩
           go_wp2_with fail
           go_roundw
           case rel=>exact⟨i+1,L2,by omega,by go_num,HL10,HF5,Lib.hid (HF6.out HF1.out (fun q t hq ht hm=>by
            have:=List.any_eq_false.1 HND2.out t (by
             obtain⟨r,rfl⟩: ∃r,q=i+1+r:=⟨q-(i+1),by omega⟩
             exact List.mem_of_getElem? (i:=r) (by rw[List.getElem?_drop];exact ht))
            exact this (List.contains_iff_mem.2 hm))),HB10⟩
           case measure=>simp[intOf];omega
         ·have hhas:L1.has od=false:=by
           cases h:L1.has od with
           | true=>exact absurd h hhas
           | false=>rfl
          obtain⟨f1,f2⟩:=hfa hhas
          obtain⟨E,hE⟩: ∃E,forgetErr L1 [od]=E:=⟨_,rfl⟩
          obtain⟨N,hN⟩: ∃N,forgetNum L1 [od]=N:=⟨_,rfl⟩
          have hfg:=HFG.out
          rw[f2,hE,hN]at hfg
          rw[hE]at f1
          have HFG2:=Lib.hid hfg
          have q0:((E:Int)==0)=false:=beq_eq_false_iff_ne.2 (by omega)
          have HHF:=Lib.hid hhas
          clear hfg hfa hfb f1 f2 hE hN hhas HFG
          go_wp2_with fail
          rw[HVW.out]
          refine HFG2.out.mono ?_
          rintro e w10 ⟨rfl,hl10,hk10⟩
          have HL10:=Lib.hid hl10
          have HB10:=Lib.hid (HB4V.out.trans (hk10.toBelow hBV))
          have HHS:=Lib.hid (show Calls Tryz.prog 17 #[.pointer (some ⟨B+1,0,none⟩),.int .i64 od] w10 fun e w'=>e= .returned (.bool false)∧w10=w' from HHF.out▸log_has (B+1) L1 od w10 hl10.1 HWF.out)
          clear hl10 hk10 HFG2
          cases nd with
          | true=>
           go_wp2_with fail
           go_roundw
           case rel=>exact⟨i+1,L1,by omega,by go_num,HL10,HK1,HF1,HB10⟩
           case measure=>simp[intOf];omega
          | false=>
           go_wp2_with fail
           refine HHS.out.mono ?_
           rintro e w' ⟨rfl,rfl⟩
           go_wp2_with fail
           go_roundw
           case rel=>exact⟨i+1,L1,by omega,by go_num,HL10,HK1,HF1,HB10⟩
           case measure=>simp[intOf];omega
  ·obtain rfl:i=NL:=by omega
   go_wp2_with fail
   go_ret
   exact⟨B+1,i,L,B,rfl,HL.out,by rw[←hBB];exact HB4.out.size,HK.out,by rw[HNL.out];exact hi,HB4.out.trans (hbr.mono HB4.out.size)⟩
end Go.Proofs.YtcbjjdpngeabgaaGreatDoor
