/- package salvorlaw17: EmitTexts. -/
import Derived.Test.YteigjcichmpejaaDoorV118
import Derived.Test.YteigjcichmpejaaDoorV125
import Derived.Test.YteigjcichmpejaaDoorV116
import Derived.Test.YteigjcichmpejaaDoorV126
import Derived.Test.YteigjcichmpejaaDoorV127
import Derived.Test.YteigjcichmpejaaDoorV107
import Derived.Test.YteigjcichmpejaaDoorV106
namespace Go.Proofs.YteigjcichmpejaaDoor
open Go.RowKit Go.Shelf
theorem steps_in {O:Nat→Prop} {w:World} {v:Value} {l:List EStep} {ms:List MStep} (h:StepsAt O w v l ms):StepIn (fun _=>True) w v l:=by
 have hml:ms.length=l.length:=by rw[←h.steps,List.length_map]
 have key: ∀(i:Nat) (s:EStep),l[i]? =some s→∃g c ul uh,v= .slice (some ⟨g,0,none⟩) l.length c∧g<w.heap.size∧w.cell? ⟨g,i*4,none⟩=some (.bool s.del)∧w.cell? ⟨g,i*4+1,none⟩=some (.int .i64 s.id)∧w.cell? ⟨g,i*4+2,none⟩=some ul∧w.cell? ⟨g,i*4+3,none⟩=some uh∧IntsIn (fun _=>True) w ul s.lits∧IntsIn (fun _=>True) w uh s.hints:=fun i s hi=>by
  have hil:=(List.getElem?_eq_some_iff.1 hi).1
  obtain⟨m,g,hm,hs,hat,⟨c',hv⟩,hg,e0,e1,e2,e3⟩:=step_cells h (k:=i) (by omega)
  have e:m.s=s:=Option.some.inj (hs.symm.trans hi)
  rw[e]at e0 e1
  rw[hml]at hv
  refine⟨g,c',m.lv,m.hv,hv,hg,e0,e1,e2,e3,?_,?_⟩
  ·rw[←e];exact(IntsIn.of_own hat.lits).mono fun _ _=>trivial
  ·rw[←e];exact(IntsIn.of_own hat.hints).mono fun _ _=>trivial
 rcases h.row.2 with⟨rfl,h0⟩|⟨g,cap,cur,rfl,_,hb,hle,_⟩
 ·exact⟨none,0,by rw[←hml,h0],by rw[←hml,h0];exact Nat.le_refl _,fun _=>rfl,fun i s hi=>by
   have:=(List.getElem?_eq_some_iff.1 hi).1
   omega⟩
 ·refine⟨_,cap,by rw[hml],by rw[←hml];exact hle,(fun h=>by cases h),fun i s hi=>?_⟩
  obtain⟨g2,c,ul,uh,hv,hg,e0,e1,e2,e3,e4,e5⟩:=key i s hi
  simp only[Value.slice.injEq,Option.some.injEq,Addr.mk.injEq,and_true]at hv
  obtain⟨rfl,_,_⟩:=hv
  exact⟨g,0,ul,uh,rfl,hg,trivial,by rw[Nat.zero_add];exact e0,by rw[Nat.zero_add];exact e1,by rw[Nat.zero_add];exact e2,by rw[Nat.zero_add];exact e3,e4,e5⟩
structure SomeOk (L:ELog) (ss:List Int):Prop where
 nd:ss.Nodup
 has: ∀y∈ss,L.has y=true
 wf: ∀y∈ss,1≤y∧y≤40
set_option maxRecDepth 100000 in
set_option maxHeartbeats 8000000 in
theorem emitTexts_any (f:Int) (lv iv:Value) (xss yss:List (List Int)) (w:World) (ht:TabW w) (hmx0:MaxC w) (herr:ErrC w) (hf0:0≤f) (hf1:f≤255) (hl:RowsAt .i8 w lv xss) (hi:RowsAt .u8 w iv yss):
  Calls Tryd.prog 3 #[.int .u8 f,lv,iv] w fun e w'=>e= .returned (.bool true)∧Below w.heap.size w w':=by
 have HA:=Lib.hid (awake_any w ht)
 have HLV:=Lib.hid hl
 have HIV:=Lib.hid hi
 have HTE:=Lib.hid (show∀W,Below w.heap.size w W→TabW W∧MaxC W∧ErrC W from fun W hW=>⟨ht.next hW,hmx0.below hW,herr.below hW⟩)
 obtain⟨A,c,rfl,hc,hmx,_,_⟩:=hl
 obtain⟨A',c',rfl,hc',hmx',_,_⟩:=hi
 unfold maxLen at hmx hmx'
 obtain⟨m,hm,hm2⟩: ∃m:Nat,f%20=(m:Int)∧m≤19:=⟨(f%20).toNat,by omega,by omega⟩
 have HMM:=Lib.hid hm
 have hmle:m≤1048576:=by omega
 clear ht hm hmx0 herr
 go_enter Tryd.func3,Tryd.ntmps3
 go_wp2_with fail
 refine HA.out.mono ?_
 rintro e w0 ⟨rfl,hb0⟩
 have HB0:=Lib.hid hb0
 have hz0:=hb0.size
 clear hb0
 go_wp2_with fail
 rw[HMM.out]
 refine(new_in m _ hmle).mono ?_
 rintro e w1 ⟨rfl,hl,hb⟩
 have HL1:=Lib.hid hl
 have HB1:=Lib.hid hb
 have hz1:=hb.size
 clear hl hb HMM hf0 hf1
 go_upto_region 6 with fail
 obtain⟨n,hn⟩: ∃n:Nat,min xss.length 30=n:=⟨_,rfl⟩
 have HN:=Lib.hid hn
 have hnx:n≤xss.length:=by omega
 have hn30:n≤30:=by omega
 clear hn
 go_cut [48,49,50] (fun p q r wx=>p= .slice A n c∧q= .int .i64 n∧r= .int .i64 0∧wx=w1)
 case first=>
  rcases Nat.lt_or_ge 30 xss.length with h|h
  ·obtain rfl:n=30:=by have:=HN.out;omega
   have h30:(30:Int)<(xss.length:Int):=by omega
   clear h
   go_wp2_with fail
   go_meet
   exact⟨by congr 1;omega,by congr 1;omega,rfl,rfl⟩
  ·obtain rfl:n=xss.length:=by have:=HN.out;omega
   have h30:(xss.length:Int)≤30:=by omega
   clear h
   go_wp2_with fail
   go_meet
   exact⟨by congr 1;omega,by congr 1;omega,rfl,rfl⟩
 case rest=>
  obtain⟨rfl,rfl,rfl,rfl⟩:=hcut
  have hz1:w0.heap.size≤wc.heap.size:=hz1
  go_wp2_with fail
  go_loopw [50] (fun iv wr=> ∃(k:Nat) (L:ELog),k≤n∧iv= .int .i64 k∧Hid (LogIn (fun _=>False) w0.heap.size wr (w0.heap.size+1) L)∧Hid (TxI k L)∧Hid (Below w0.heap.size w0 wr)) (fun iv _=>n-(intOf iv).toNat)
  case atStart=>exact⟨0,newLog m,Nat.zero_le _,rfl,HL1,Lib.hid (TxI.new (by omega)),HB1⟩
  case round=>
   clear HL1 HB1 hz1
   obtain⟨k,L,hk,rfl,HL,HX,HBr⟩:=hrel
   have hBw:Below w.heap.size w wr:=HB0.out.trans (HBr.out.mono hz0)
   by_cases hlt:k<n
   ·obtain⟨x,hxj⟩:=getElem_of (show k<xss.length by omega)
    obtain⟨A1,c1,hAc,_,_,_,hxs⟩:=HLV.out
    simp only[Value.slice.injEq,true_and]at hAc
    obtain⟨rfl,rfl⟩:=hAc
    obtain⟨g,o,u,rfl,hg,d0,hrow⟩:=hxs k x hxj
    have d1:=(hBw.cell (p:=⟨g,o+k,none⟩) hg).trans d0
    have hrow1:=hrow.below hBw
    obtain⟨Ax,cx,hux,_⟩:=id hrow1
    rw[hux]at d1 hrow
    have HROW:=Lib.hid hrow
    have HBW:=Lib.hid hBw
    have hjm:decide ((k:Int)<(n:Int))=true:=decide_eq_true (by omega)
    clear hxs d0 hrow hrow1 hux hxj hBw
    obtain⟨wo,rfl⟩: ∃wo:World,wo=wr:=⟨_,rfl⟩
    go_upto_if 58 with fail
    go_cut [11] (fun sv wx=> ∃ss:List Int,∃As cs,sv= .slice As ss.length cs∧ss.length≤6∧Hid (SomeOk L ss)∧Hid (wx.ownsRow wo.heap.size 3 1 (.slice As ss.length cs) ss.length (ss.map (Value.int .i64)))∧Hid (Below wo.heap.size wo wx))
    case first=>
     by_cases hki:k<yss.length
     ·obtain⟨y,hyj⟩:=getElem_of hki
      obtain⟨A2,c2,hAc,_,_,_,hys⟩:=HIV.out
      simp only[Value.slice.injEq,true_and]at hAc
      obtain⟨rfl,rfl⟩:=hAc
      obtain⟨g2,o2,u2,rfl,hg2,e0,hrw⟩:=hys k y hyj
      have e1:=(HBW.out.cell (p:=⟨g2,o2+k,none⟩) hg2).trans e0
      have hrw1:=hrw.below HBW.out
      have HRW:=Lib.hid hrw1
      obtain⟨Ay,cy,rfl,hcy,hcm,_⟩:=hrw1
      have hki2:decide ((k:Int)<(yss.length:Int))=true:=decide_eq_true (by omega)
      unfold maxLen at hcm
      clear hys hrw e0 hyj
      obtain⟨j6,hj6⟩: ∃j:Nat,min y.length 6=j:=⟨_,rfl⟩
      have HJ6:=Lib.hid hj6
      have hjy:j6≤y.length:=by omega
      have hj66:j6≤6:=by omega
      clear hj6
      go_upto_region 11 with fail
      go_cut [69,70,71] (fun p q r wx=>p= .slice Ay j6 cy∧q= .int .i64 j6∧r= .int .i64 0∧Hid (Below wo.heap.size wo wx))
      case first=>
       go_quiet (fail)
       go_wp2_with fail
       go_meet
       have h6:=HJ6.out
       exact⟨by congr 1;omega,by congr 1;omega,rfl,Lib.hid (below_drewN _ _)⟩
      case rest=>
       obtain⟨rfl,rfl,rfl,HBC⟩:=hcut
       obtain⟨i0,hi0,iz1,iz2,iz3⟩:=info_parts linfo_int
       clear e1 hki hki2 HBW HROW d1
       go_wp2_with fail
       go_loopw [11,71] (fun sv jv wr=> ∃(j:Nat) (ss:List Int),∃As cs,sv= .slice As ss.length cs∧j≤j6∧jv= .int .i64 j∧Hid (ss.length≤j)∧Hid (SomeOk L ss)∧Hid (wr.ownsRow wo.heap.size 3 1 (.slice As ss.length cs) ss.length (ss.map (Value.int .i64)))∧Hid (Below wo.heap.size wo wr)) (fun _ jv _=>j6-(intOf jv).toNat)
       case atStart=>exact⟨0,[],none,0,rfl,Nat.zero_le _,rfl,Lib.hid (Nat.le_refl _),Lib.hid ⟨List.nodup_nil,(fun y h=>by cases h),fun y h=>by cases h⟩,Lib.hid (World.ownsRow_nil _ _ _ _),HBC⟩
       case round=>
        obtain⟨j,ss,As,cs,rfl,hj,rfl,HSL,HSO,HSR,HSB⟩:=hrel
        by_cases hlj:j<j6
        ·obtain⟨v,hvj⟩:=getElem_of (show j<y.length by omega)
         obtain⟨A3,c3,hAc3,_,_,_,hwy,hys3⟩:=HRW.out.below HSB.out
         simp only[Value.slice.injEq,true_and]at hAc3
         obtain⟨rfl,rfl⟩:=hAc3
         obtain⟨g3,o3,rfl,hg3,e3⟩:=hys3 j v hvj
         obtain⟨hv1,hv2⟩:=u8_rng (hwy v (List.mem_of_getElem? hvj))
         obtain⟨t,ht⟩: ∃t:Nat,v%40=(t:Int):=⟨(v%40).toNat,by omega⟩
         have htl:t≤39:=by omega
         have HTV:=Lib.hid ht
         have hwt:(Lit.int .i64 (1+(t:Int))).wf=true:=wf64 (x:=1+(t:Int)) (by omega) (by omega)
         have HWT:=Lib.hid hwt
         have HHS:=Lib.hid (log_has (w0.heap.size+1) L (1+(t:Int)) wr (HL.out.1.below HSB.out) hwt)
         have hss6:ss.length≤6:=by have:=HSL.out;omega
         have HCT:=Lib.hid (contains_i _ ss (1+(t:Int)) wr (IntsIn.of_own HSR.out) (by omega))
         clear hwy hys3 hvj hwt ht
         go_upto_region 15 with fail
         rw[HTV.out]
         clear e3
         obtain⟨id,hid⟩: ∃id,1+(t:Int)=id:=⟨_,rfl⟩
         rw[hid]at HHS HCT HWT⊢
         have HIR:=Lib.hid (show 1≤id∧id≤40 from by omega)
         clear hid HTV htl hv1 hv2
         obtain⟨hb,hhb⟩: ∃b,L.has id=b:=⟨_,rfl⟩
         obtain⟨cb,hcb⟩: ∃b,ss.contains id=b:=⟨_,rfl⟩
         rw[hhb]at HHS
         rw[hcb]at HCT
         have HHB:=Lib.hid hhb
         have HCB:=Lib.hid hcb
         clear hhb hcb
         cases hb with
         | false=>
          go_wp2_with fail
          refine HHS.out.mono ?_
          rintro e w' ⟨rfl,rfl⟩
          go_wp2_with fail
          go_roundw
          case rel=>exact⟨j+1,ss,As,cs,rfl,by omega,by go_num,Lib.hid (by have:=HSL.out;omega),HSO,HSR,HSB⟩
          case measure=>simp[intOf];omega
         | true=>
          cases cb with
          | true=>
           go_wp2_with fail
           refine HHS.out.mono ?_
           rintro e w' ⟨rfl,rfl⟩
           go_wp2_with fail
           refine HCT.out.mono ?_
           rintro e w' ⟨rfl,rfl⟩
           go_wp2_with fail
           go_roundw
           case rel=>exact⟨j+1,ss,As,cs,rfl,by omega,by go_num,Lib.hid (by have:=HSL.out;omega),HSO,HSR,HSB⟩
           case measure=>simp[intOf];omega
          | false=>
           have hso2:SomeOk L (ss++ [id]):=⟨List.nodup_append.2 ⟨HSO.out.nd,List.nodup_cons.2 ⟨(fun h=>by cases h),List.nodup_nil⟩,fun a ha b hb e=>by
            rw[List.mem_singleton.1 hb]at e
            have h:=HCB.out
            rw[←Bool.not_eq_true,List.contains_iff_mem]at h
            exact h (e▸ha)⟩,fun z hz=>(List.mem_append.1 hz).elim (HSO.out.has z) (fun hz=>by rw[List.mem_singleton.1 hz];exact HHB.out),fun z hz=>(List.mem_append.1 hz).elim (HSO.out.wf z) (fun hz=>by rw[List.mem_singleton.1 hz];exact HIR.out)⟩
           have HSO2:=Lib.hid hso2
           have hzw:=HSB.out.size
           clear hso2
           go_wp2_with fail
           refine HHS.out.mono ?_
           rintro e w' ⟨rfl,rfl⟩
           go_wp2_with fail
           refine HCT.out.mono ?_
           rintro e w' ⟨rfl,rfl⟩
           go_wp2_with (at_builtin;refine wpList_append_own_at _ rfl _ _ 30 rfl wo.heap.size 3 i0 (.int .i64 0) 1 8 Tryd.underlying30 hi0 iz1 iz2 iz3 rfl (by decide) _ ss.length _ rfl (own_below HSR.out (mx_al wr _)) ⟨wr.heap.size,0,none⟩ 1 1 [.int .i64 id] rfl rfl (cell_one_new' _ _ _) (by simp[Value.oneCell']) (by unfold maxLen;omega) (by omega) (by simp;omega) ?_;intro v' w9 hown hgrow hnl hat;obtain⟨Aw,kw,hv2,_⟩:=mx_slice hown;subst hv2;have HOWN:=Lib.hid hown;have HG:=Lib.hid hgrow;clear hown hgrow hnl hat)
           have hk9:=(grow_keep HSR.out HG.out).1
           have hb9:Below wo.heap.size wo w9:=HSB.out.trans (hk9.below (fun i e=>(own_lt HSR.out i e).1) hzw)
           go_roundw
           case rel=>exact⟨j+1,ss++ [id],Aw,kw,by rw[List.length_append,List.length_singleton],by omega,by go_num,Lib.hid (by rw[List.length_append,List.length_singleton];have:=HSL.out;omega),HSO2,Lib.hid (by rw[List.length_append,List.length_singleton,List.map_append];exact HOWN.out),Lib.hid hb9⟩
           case measure=>simp[intOf];omega
        ·obtain rfl:j=j6:=by omega
         go_wp2_with fail
         go_meet
         exact⟨ss,As,cs,rfl,by have:=HSL.out;omega,HSO,HSR,HSB⟩
     ·have hki2:decide ((k:Int)<(yss.length:Int))=false:=decide_eq_false (by omega)
      go_wp2_with fail
      go_meet
      exact⟨[],none,0,rfl,Nat.zero_le _,Lib.hid ⟨List.nodup_nil,(fun y h=>by cases h),fun y h=>by cases h⟩,Lib.hid (World.ownsRow_nil _ _ _ _),Lib.hid (Below.refl _ _)⟩
    case rest=>
     obtain⟨ss,As,cs,rfl,hs6,HSO,HSR,HSB⟩:=hcut
     have hwf: ∀y∈ss,(Lit.int .i64 y).wf=true:=fun y hy=>by
      have:=HSO.out.wf y hy
      exact wf64 (by omega) (by omega)
     have hint:IntsIn (fun g=>wo.heap.size≤g∨g<w0.heap.size∨False) wc (.slice As ss.length cs) ss:=(IntsIn.of_own HSR.out).mono fun g hg=>.inl hg.1
     have hmd:=HX.out
     have HFG:=Lib.hid (forget_in (X:=fun _=>False) w0.heap.size (w0.heap.size+1) L _ ss wo wc HL.out HSB.out (fun g h=>h.elim) hint (by omega) hwf)
     have HLN:=Lib.hid (fun(W:World) (hW:Below wc.heap.size wc W) (cv:Value) (hcv:IntsIn (fun g=>wo.heap.size≤g∨g<w0.heap.size∨False) W cv (madeL x))=>learn_in (X:=fun _=>False) w0.heap.size (w0.heap.size+1) L cv (.slice As ss.length cs) (madeL x) ss wo W HL.out (HSB.out.trans (hW.mono HSB.out.size)) (fun g h=>h.elim) hcv (hint.below hW) (by have:=madeL_len x;omega) (by omega) hwf)
     obtain⟨hf1,hf2⟩:=hmd.forget (by omega) hs6 HSO.out.has HSO.out.nd
     obtain⟨hl1,hl2⟩:=hmd.learn (by omega) (madeL_ok x) (madeL_len x) hs6 HSO.out.has
     have HXF:=Lib.hid hf2
     have HXL:=Lib.hid hl2
     have hzB:=HBr.out.size
     have hzS:=HSB.out.size
     clear hwf hint hmd hf2 hl2 d1
     by_cases hmod:k%3=2
     ·obtain⟨fe,hfe⟩: ∃z,forgetErr L ss=z:=⟨_,rfl⟩
      obtain⟨fn,hfn⟩: ∃z,forgetNum L ss=z:=⟨_,rfl⟩
      rw[hfe,hfn]at HFG
      rw[hfe,hfn]at hf1
      clear hl1 HLN HXL hfe hfn
      rcases hf1 with⟨rfl,rfl⟩|rfl
      ·go_wp2_with fail
       refine HFG.out.mono ?_
       rintro e w3 ⟨rfl,hl3,hk3⟩
       have HL3:=Lib.hid hl3
       have HB3:=Lib.hid ((HBr.out.trans (HSB.out.mono hzB)).trans (hk3.toBelow (by omega)))
       clear hl3 hk3
       go_wp2_with fail
       go_roundw
       case rel=>exact⟨k+1,forgetLog L ss,by omega,by go_num,HL3,HXF,HB3⟩
       case measure=>simp[intOf];omega
      ·go_wp2_with fail
       refine HFG.out.mono ?_
       rintro e w3 ⟨rfl,hl3,hk3⟩
       have HL3:=Lib.hid hl3
       have HB3:=Lib.hid ((HBr.out.trans (HSB.out.mono hzB)).trans (hk3.toBelow (by omega)))
       clear hl3 hk3
       go_wp2_with fail
       go_roundw
       case rel=>exact⟨k+1,forgetLog L ss,by omega,by go_num,HL3,HXF,HB3⟩
       case measure=>simp[intOf];omega
     ·obtain⟨le,hle⟩: ∃z,learnErr L (madeL x) ss=z:=⟨_,rfl⟩
      obtain⟨ln,hln⟩: ∃z,learnNum L (madeL x) ss=z:=⟨_,rfl⟩
      rw[hle,hln]at HLN
      rw[hle]at hl1
      have HMD:=Lib.hid (made_any _ x wc (HROW.out.below (HBW.out.trans (HSB.out.mono HBW.out.size))))
      clear hf1 HFG HXF hle hln
      go_wp2_with fail
      refine HMD.out.mono ?_
      rintro e w5 ⟨v5,rfl,hown5,hb5⟩
      have HC:=Lib.hid (HLN.out w5 hb5 v5 ((IntsIn.of_own hown5).mono fun g hg=>.inl (Nat.le_trans hzS hg.1)))
      have hz5:=hb5.size
      have HB5:=Lib.hid ((HBr.out.trans (HSB.out.mono hzB)).trans (hb5.mono (by omega)))
      clear hown5 hb5 HMD HLN
      rcases hl1 with rfl|rfl
      ·go_wp2_with fail
       refine HC.out.mono ?_
       rintro e w6 ⟨rfl,hl6,hk6⟩
       have HL6:=Lib.hid hl6
       have HB6:=Lib.hid (HB5.out.trans (hk6.toBelow (by omega)))
       clear hl6 hk6
       go_wp2_with fail
       go_roundw
       case rel=>exact⟨k+1,learnLog L (madeL x) ss,by omega,by go_num,HL6,HXL,HB6⟩
       case measure=>simp[intOf];omega
      ·go_wp2_with fail
       refine HC.out.mono ?_
       rintro e w6 ⟨rfl,hl6,hk6⟩
       have HL6:=Lib.hid hl6
       have HB6:=Lib.hid (HB5.out.trans (hk6.toBelow (by omega)))
       clear hl6 hk6
       go_wp2_with fail
       go_roundw
       case rel=>exact⟨k+1,learnLog L (madeL x) ss,by omega,by go_num,HL6,HXL,HB6⟩
       case measure=>simp[intOf];omega
   ·have hk30:k≤30:=by omega
    have HPO:=Lib.hid HX.out.inv.proof
    have HTL:=Lib.hid (HX.out.text hk30)
    have HDEL:=Lib.hid HX.out.del
    have HEMP:=Lib.hid HX.out.emp
    have hsl:=HX.out.len
    have HSZ:=Lib.hid (show∀s∈L.steps,s.lits.length≤1000000∧s.hints.length≤1000000 from fun s hs=>by have:=HX.out.sz s hs;omega)
    have HSTP:=Lib.hid (log_steps (w0.heap.size+1) L wr HL.out.1 HL.out.2.1.ok)
    obtain⟨S,hS⟩: ∃S,L.steps=S:=⟨_,rfl⟩
    have HRP:=Lib.hid (show readF (proofT S)=(S,0,0)from by rw[←hS];exact read_proof HPO.out HTL.out)
    have HLG:=Lib.hid (show∀W,Below wr.heap.size wr W→TabW W→Calls Tryd.prog 13 #[.pointer (some ⟨w0.heap.size+1,0,none⟩)] W fun e w'=>e= .returned (.tuple #[.string ⟨(proofT S).toArray⟩,.int .i64 0])∧Below W.heap.size W w' from fun W hW hT=>by rw[←hS];exact log_text (w0.heap.size+1) L W (HL.out.1.below hW) HPO.out hT HTL.out)
    rw[hS]at HSTP HPO HTL HDEL HEMP HSZ hsl
    clear hS HA HX
    go_wp2_with fail
    refine HSTP.out.mono ?_
    rintro e w2 ⟨sv,ms,rfl,hsa,_,hb2⟩
    have hml:ms.length=S.length:=by rw[←hsa.steps,List.length_map]
    obtain⟨As,cv,rfl,_⟩:=own_slice hsa.row
    rw[hml]
    have HSA:=Lib.hid (steps_in hsa)
    rw[hml]at HSA
    have HCK:=Lib.hid (check_ok _ S ms w2 hsa HPO.out)
    rw[hml]at HCK
    have HB2:=Lib.hid hb2
    have HBW:=Lib.hid (hBw.trans (hb2.mono hBw.size))
    clear hsa hb2 HSTP hml
    go_wp2_with fail
    refine HCK.out.mono ?_
    rintro e w3 ⟨rfl,hb3⟩
    have HB3:=Lib.hid (HB2.out.trans (hb3.mono HB2.out.size))
    have HBW3:=Lib.hid (HBW.out.trans (hb3.mono HBW.out.size))
    have HSA3:=Lib.hid (HSA.out.below hb3)
    clear hb3 HCK
    go_wp2_with fail
    refine(HLG.out w3 HB3.out (HTE.out w3 HBW3.out).1).mono ?_
    rintro e w4 ⟨rfl,hb4⟩
    have HBW4:=Lib.hid (HBW3.out.trans (hb4.mono HBW3.out.size))
    have HSA4:=Lib.hid (HSA3.out.below hb4)
    have HRD:=Lib.hid (read_any (proofT S) w4 (HTE.out w4 HBW4.out).1 (HTE.out w4 HBW4.out).2.1 (HTE.out w4 HBW4.out).2.2 HTL.out)
    rw[HRP.out]at HRD
    clear hb4 HLG
    go_wp2_with fail
    refine HRD.out.mono ?_
    rintro e w5 ⟨v,K,rfl,hst,hK,hb5⟩
    have hin:=hst.stepIn
    rw[show K.map Prod.fst=S from hK]at hin
    have HBW5:=Lib.hid (HBW4.out.trans (hb5.mono HBW4.out.size))
    have HSA5:=Lib.hid (HSA4.out.below hb5)
    have HSM:=Lib.hid (same_any v (.slice As S.length cv) S w5 hin HSA5.out (by omega) HSZ.out)
    clear hst hK hb5 hin HRD
    go_wp2_with fail
    refine HSM.out.mono ?_
    rintro e w6 ⟨rfl,hb6⟩
    have HBW6:=Lib.hid (HBW5.out.trans (hb6.mono HBW5.out.size))
    have HSA6:=Lib.hid (HSA5.out.below hb6)
    clear hb6 HSM
    go_wp2_with fail
    obtain⟨wq,rfl⟩: ∃x:World,x=wr:=⟨_,rfl⟩
    go_loopw [165] (fun iv wr=> ∃i:Nat,i≤S.length∧iv= .int .i64 i∧Hid (Below w6.heap.size w6 wr)) (fun iv _=>S.length-(intOf iv).toNat)
    case atStart=>exact⟨0,Nat.zero_le _,rfl,Lib.hid (Below.refl _ _)⟩
    case round=>
     obtain⟨i,hi,rfl,HBi⟩:=hrel
     by_cases hli:i<S.length
     ·obtain⟨s,hs⟩:=getElem_of hli
      obtain⟨A9,c9,hA9,_,_,hcs⟩:=HSA6.out.below HBi.out
      simp only[Value.slice.injEq,true_and]at hA9
      obtain⟨rfl,rfl⟩:=hA9
      obtain⟨g,o,ul,uh,rfl,hg,_,e0,e1,e2,e3,hul,huh⟩:=hcs i s hs
      have hprev: ∀(j:Nat) (p:EStep),S[j]? =some p→wr.cell? ⟨g,o+j*4,none⟩=some (.bool p.del):=fun j p hp=>by
       obtain⟨g',o',_,_,h1,_,_,h2,_⟩:=hcs j p hp
       simp only[Option.some.injEq,Addr.mk.injEq,and_true]at h1
       obtain⟨rfl,rfl⟩:=h1
       exact h2
      obtain⟨Al,cl,rfl,_⟩:=hul
      obtain⟨Ah,ch,rfl,_⟩:=huh
      obtain⟨W1,hW1,hb1,hx1,-⟩:=al_new wr #[.bool s.del,.int .i64 s.id,.slice Al s.lits.length cl,.slice Ah s.hints.length ch] 49
      obtain⟨T,hT⟩: ∃T,wr.heap.size=T:=⟨_,rfl⟩
      rw[hT]at hx1
      have z0:=mx_cell (j:=0) hx1
      have z2:=mx_cell (j:=2) hx1
      have HW1:=Lib.hid hW1
      have HB1:=Lib.hid (HBi.out.trans (hb1.mono HBi.out.size))
      have HSS:=Lib.hid hs
      have HPV:=Lib.hid (show∀(j:Nat) (p:EStep),S[j]? =some p→W1.cell? ⟨g,o+j*4,none⟩=some (.bool p.del)from fun j p hp=>(hb1.cell (p:=⟨g,o+j*4,none⟩) hg).trans (hprev j p hp))
      have hw1:IntKind.i64.wrap (i:Int)=(i:Int):=IntWalk.i64_in _ (by omega)
      clear hcs hprev hW1 hb1 hx1 hs
      go_upto_region 35 with fail
      rw[HW1.out]
      clear e0 e1 e2 e3
      go_cut [201] (fun v wx=>v= .bool false∧wx=W1)
      case first=>
       by_cases hi0:i=0
       ·have d0:decide ((0:Int)<(i:Int))=false:=decide_eq_false (by omega)
        have d0n:decide (0<i)=false:=decide_eq_false (by omega)
        have HEX:=Lib.hid (HEMP.out i s HSS.out)
        obtain⟨d,id,ls,hh⟩:=s
        simp only at z0 z2 HEX
        cases d with
        | true=>
         clear hi0
         go_wp2_with fail
         go_meet
         exact⟨rfl,rfl⟩
        | false=>
         cases ls with
         | nil=>
          have hlast:=(HEX.out rfl rfl).2
          have d1:decide ((i:Int)<(S.length:Int)-1)=false:=decide_eq_false (by omega)
          clear hi0 hlast
          go_wp2_with fail
          go_meet
          exact⟨rfl,rfl⟩
         | cons q r=>
          have d1:(((q::r).length:Int)==0)=false:=by rw[List.length_cons];exact beq_eq_false_iff_ne.2 (by omega)
          obtain⟨ll,hll⟩: ∃ll,(q::r).length=ll:=⟨_,rfl⟩
          rw[hll]at z2 d1
          clear hi0 hll
          go_wp2_with fail
          go_meet
          exact⟨rfl,rfl⟩
       ·have d0:decide ((0:Int)<(i:Int))=true:=decide_eq_true (by omega)
        have d0n:decide (0<i)=true:=decide_eq_true (by omega)
        have HEX:=Lib.hid (HEMP.out i s HSS.out)
        obtain⟨j,hj⟩: ∃j,i=j+1:=⟨i-1,by omega⟩
        obtain⟨p,hp⟩:=getElem_of (show j<S.length by omega)
        have y0:=HPV.out j p hp
        have HDX:=Lib.hid (HDEL.out j p s hp (by rw[←hj];exact HSS.out))
        have hj3:i-1<S.length:=by omega
        have hj4:(i:Int)-1<(S.length:Int):=by omega
        have hj5:IntKind.i64.wrap ((i:Int)-1)=(i:Int)-1:=IntWalk.i64_in _ (by omega)
        have hj6:(0:Int)≤(i:Int)-1:=by omega
        rw[show o+j*4=o+(i-1)*4 by rw[hj];rfl]at y0
        obtain⟨pd,hpd⟩: ∃b,p.del=b:=⟨_,rfl⟩
        rw[hpd]at y0 HDX
        obtain⟨d,id,ls,hh⟩:=s
        simp only at z0 z2 HEX HDX
        clear hp hj hi0 hpd
        cases d with
        | true=>
         obtain rfl:pd=false:=by
          cases pd with
          | false=>rfl
          | true=>exact absurd (HDX.out rfl) (by decide)
         go_wp2_with fail
         go_meet
         exact⟨rfl,rfl⟩
        | false=>
         cases ls with
         | nil=>
          have hlast:=(HEX.out rfl rfl).2
          have d1:decide ((i:Int)<(S.length:Int)-1)=false:=decide_eq_false (by omega)
          clear hlast
          go_wp2_with fail
          go_meet
          exact⟨rfl,rfl⟩
         | cons q r=>
          have d1:(((q::r).length:Int)==0)=false:=by rw[List.length_cons];exact beq_eq_false_iff_ne.2 (by omega)
          obtain⟨ll,hll⟩: ∃ll,(q::r).length=ll:=⟨_,rfl⟩
          rw[hll]at z2 d1
          clear hll
          go_wp2_with fail
          go_meet
          exact⟨rfl,rfl⟩
      case rest=>
       obtain⟨rfl,rfl⟩:=hcut
       go_wp2_with fail
       go_roundw
       case rel=>exact⟨i+1,by omega,by go_num,HB1⟩
       case measure=>simp[intOf];omega
     ·obtain rfl:i=S.length:=by omega
      go_wp2_with fail
      go_ret
      exact⟨rfl,HBW6.out.trans (HBi.out.mono HBW6.out.size)⟩
end Go.Proofs.YteigjcichmpejaaDoor
