/- package salvorlaw10: ProofStops. -/
import Derived.Test.YtkfgplfllddhnaaGreatV331
namespace Go.Proofs.YtkfgplfllddhnaaGreat
open Go.RowKit
set_option maxRecDepth 100000 in
set_option maxHeartbeats 8000000 in
theorem stops_any (n:Int) (l x:Value) (xss:List (List Int)) (xs:List Int) (w:World) (hl:RowsAt .i8 w l xss) (hx:RowAt .u8 w x xs) (hxl:xs.length≤140737488355328):
  Calls Tryz.prog 5 #[l,x,.int .i64 n] w fun e w'=>e= .returned (.bool true)∧Below w.heap.size w w':=by
 obtain⟨cs,hcs⟩: ∃cs,(xss.take 14).map madeL=cs:=⟨_,rfl⟩
 have HAW:=Lib.hid (awake10_any w)
 have HMD:=Lib.hid (fun(X:World) (hX:Below w.heap.size w X)=>made10_any l xss X (hl.below hX) hcs rfl)
 have HX:=Lib.hid (fun(X:World) (hX:Below w.heap.size w X)=>hx.below hX)
 have h6: ∀c∈cs,Lit6 c:=by rw[←hcs];exact made_six xss
 have hcn:cs.length≤14:=by rw[←hcs,List.length_map,List.length_take];omega
 obtain⟨hrs,hsl⟩:=resL_ok h6 xs 20
 obtain⟨ss,hss⟩: ∃ss,resL cs xs 20=ss:=⟨_,rfl⟩
 rw[hss]at hrs hsl
 obtain⟨m,hch⟩:=chk_rup (rupL_res hrs (fun c hc=>(h6 c hc).clause) (by omega))
 have hs6: ∀s∈ss,Lit6 s.lits∧s.hints.length=2:=fun s hs=>by
  obtain⟨j,hj⟩:=List.getElem?_of_mem hs
  obtain⟨_,_,_,_,_,_,_,h3,_,_,_,_,_,_,h9⟩:=hrs j s hj
  exact⟨h9,by rw[h3];rfl⟩
 obtain⟨R,hR⟩: ∃R,runGo (ckrNew cs) ss 0=R:=⟨_,rfl⟩
 obtain⟨a,b,c,d,e',hrv⟩:=rep_agg R
 obtain⟨i1,hi1⟩: ∃i1:Int,((R.2.1:Nat):Int)=i1:=⟨_,rfl⟩
 obtain⟨i2,hi2⟩: ∃i2:Int,((runE R:Nat):Int)=i2:=⟨_,rfl⟩
 have HRV:=Lib.hid hrv
 have HI1:=Lib.hid hi1
 have HI2:=Lib.hid hi2
 have HR:=Lib.hid (hR.symm.trans hch.run)
 have HCH:=Lib.hid hch
 have HRU:=Lib.hid (rupL_res hrs (fun c hc=>(h6 c hc).clause) (by omega))
 have H6:=Lib.hid h6
 have HS6:=Lib.hid hs6
 have HSS:=Lib.hid hss
 have HCK:=Lib.hid (fun(X:World) (lv sv:Value) (hl:ClsIn (fun _=>True) X lv cs) (hs:StepIn (fun _=>True) X sv ss)=>proof_check 6 lv sv cs ss X hl (fun c hc=>(h6 c hc).clause) (by omega) (lit6_fchk h6 (by omega)) hs (by omega) (fun s hs=>by have:=(hs6 s hs).1.1;have:=(hs6 s hs).2;omega))
 rw[hR,hrv,hi1,hi2]at HCK
 have HODD:=Lib.hid (show stepB ⟨false,n,[0],[n]⟩=false from by
  unfold stepB
  rw[show clauseB [0]=false from by decide]
  simp)
 obtain⟨R2,hR2⟩: ∃R2,runGo (ckrNew cs) (ss++ [⟨false,n,[0],[n]⟩]) 0=R2:=⟨_,rfl⟩
 obtain⟨a2,b2,c2,d2,e2,hrv2⟩:=rep_agg R2
 obtain⟨i3,hi3⟩: ∃i3:Int,((R2.2.1:Nat):Int)=i3:=⟨_,rfl⟩
 obtain⟨i4,hi4⟩: ∃i4:Int,((runE R2:Nat):Int)=i4:=⟨_,rfl⟩
 have HRV2:=Lib.hid hrv2
 have HI3:=Lib.hid hi3
 have HI4:=Lib.hid hi4
 have HR2:=Lib.hid (hR2.symm.trans (run_odd hch HODD.out))
 have HCK2:=Lib.hid (fun(X:World) (lv sv:Value) (hl:ClsIn (fun _=>True) X lv cs) (hs:StepIn (fun _=>True) X sv (ss++ [⟨false,n,[0],[n]⟩]))=>proof_check 6 lv sv cs (ss++ [⟨false,n,[0],[n]⟩]) X hl (fun c hc=>(h6 c hc).clause) (by omega) (lit6_fchk h6 (by omega)) hs (by rw[List.length_append,List.length_singleton];omega) (fun s hs=>by
  rcases List.mem_append.1 hs with hs|hs
  ·have:=(hs6 s hs).1.1
   have:=(hs6 s hs).2
   omega
  ·rw[List.mem_singleton.1 hs]
   exact⟨by simp,by simp⟩))
 rw[hR2,hrv2,hi3,hi4]at HCK2
 clear hR2 hrv2 hi3 hi4
 clear hcs hl hx hrs hss hch hs6 hR hrv hi1 hi2 h6
 go_enter Tryz.func5,Tryz.ntmps5
 go_wp2_with fail
 refine HAW.out.mono ?_
 rintro e w1 ⟨rfl,hb1⟩
 have HB1:=Lib.hid hb1
 clear hb1 HAW
 go_wp2_with fail
 refine(HMD.out w1 HB1.out).mono ?_
 rintro e w2 ⟨A,k,rfl,hcl,hb2⟩
 obtain⟨W3,hW3,hb3,hc3,-⟩:=al_new w2 #[.int .i64 6,.slice A cs.length k] 26
 have HC3:=Lib.hid ((hcl.clsIn.below hb3).mono (O':=fun _=>True) fun _ _=>trivial)
 have HB3:=Lib.hid (HB1.out.trans ((hb2.trans (hb3.mono hb2.size)).mono HB1.out.size))
 have HW3:=Lib.hid hW3
 have HX3:=Lib.hid hc3
 have HRES:=Lib.hid (law_resolved 6 20 _ x cs xs W3 HC3.out H6.out (by omega) (HX.out W3 HB3.out) (by decide) hxl)
 rw[HSS.out]at HRES
 have c0:=mx_cell (j:=0) hc3
 have c1:=mx_cell (j:=1) hc3
 clear hW3 hb3 hc3 hcl hb2 HMD HX HSS
 go_upto_region 4 with fail
 rw[HW3.out]
 go_wp2_with fail
 refine HRES.out.mono ?_
 rintro e w4 ⟨v,K,rfl,hK,hst,hb4⟩
 obtain⟨Av,cv,rfl,_⟩:=mx_slice hst.row
 have hst0:=hst
 have hK0:=hK
 have hkl:K.length=ss.length:=by rw[←hK,List.length_map]
 have HST:=Lib.hid (show StepIn (fun _=>True) w4 (.slice Av K.length cv) ss from by
  rw[←hK]
  obtain⟨A1,c1,e1,e2,e3,e4⟩:=hst.stepIn
  exact⟨A1,c1,e1,e2,e3,fun i s hi=>by
   obtain⟨g,o,ul,uh,q1,q2,_,q4,q5,q6,q7,q8,q9⟩:=e4 i s hi
   exact⟨g,o,ul,uh,q1,q2,trivial,q4,q5,q6,q7,q8.mono fun _ _=>trivial,q9.mono fun _ _=>trivial⟩⟩)
 rw[hkl]at HST
 rw[hkl]
 have HX4:=Lib.hid ((hb4.block _ (heap_lt HX3.out)).trans HX3.out)
 have HC4:=Lib.hid (HC3.out.below hb4)
 have HB4:=Lib.hid (HB3.out.trans (hb4.mono HB3.out.size))
 clear hst hK
 have HSM4:=Lib.hid (And.intro hst0 hK0)
 have hkl':=hkl
 clear hb4 HRES
 obtain⟨Y1,hY1,hbY1,hcY1,hzY1⟩:=al_new w4 #[.int .i64 0] 58
 obtain⟨Y2,hY2,hbY2,hcY2,hzY2⟩:=al_new Y1 #[.int .i64 n] 3
 rw[hzY1]at hcY2 hzY2
 obtain⟨Y3,hY3,hbY3,hcY3,hzY3⟩:=al_new Y2 #[.bool false,.int .i64 n,.slice (some ⟨w4.heap.size,0,none⟩) 1 1,.slice (some ⟨w4.heap.size+1,0,none⟩) 1 1] 39
 rw[hzY2]at hcY3 hzY3
 have hbY13:Below w4.heap.size w4 Y3:=hbY1.trans ((hbY2.trans (hbY3.mono hbY2.size)).mono hbY1.size)
 have HY1:=Lib.hid hY1
 have HY2:=Lib.hid hY2
 have HY3:=Lib.hid hY3
 have HO1:=Lib.hid (show Y3.heap[w4.heap.size]? =some (.cells #[.int .i64 0] 58 (0,0))from((hbY2.trans (hbY3.mono hbY2.size)).block _ (heap_lt hcY1)).trans hcY1)
 have HO2:=Lib.hid (show Y3.heap[w4.heap.size+1]? =some (.cells #[.int .i64 n] 3 (0,0))from(hbY3.block _ (heap_lt hcY2)).trans hcY2)
 have HO3:=Lib.hid hcY3
 have HX6:=Lib.hid ((hbY13.block _ (heap_lt HX4.out)).trans HX4.out)
 have HC6:=Lib.hid (HC4.out.below hbY13)
 have HST6:=Lib.hid (HST.out.below hbY13)
 have HSM6:=Lib.hid (HSM4.out.1.below hbY13)
 have HB6:=Lib.hid (HB4.out.trans (hbY13.mono HB4.out.size))
 have HCK1:=Lib.hid (HCK.out Y3 _ _ HC6.out HST6.out)
 clear hY1 hY2 hY3 hbY1 hbY2 hbY3 hcY1 hcY2 hcY3 hbY13 hzY1 hzY2 hzY3 HCK HC4 HST
 go_upto_region 6 with fail
 rw[HY1.out,HY2.out,HY3.out]
 have c0:=mx_cell (j:=0) HX6.out
 have c1:=mx_cell (j:=1) HX6.out
 go_wp2_with fail
 refine HCK1.out.mono ?_
 rintro e w5 ⟨rfl,hb5⟩
 obtain⟨P,hP,hbP,hcP,-⟩:=al_new w5 #[.bool a,.int .i64 b,.int .i64 c,.int .i64 d,.int .i64 e'] 50
 have HP:=Lib.hid hP
 clear hP
 have hb3P:=hb5.trans (hbP.mono hb5.size)
 have HXP:=Lib.hid ((hb3P.block _ (heap_lt HX6.out)).trans HX6.out)
 have HOP:=Lib.hid ((hb3P.block _ (heap_lt HO3.out)).trans HO3.out)
 have HL1:=Lib.hid ((hb3P.block _ (heap_lt HO1.out)).trans HO1.out)
 have HL2:=Lib.hid ((hb3P.block _ (heap_lt HO2.out)).trans HO2.out)
 have HCP:=Lib.hid (HC6.out.below hb3P)
 have HSP:=Lib.hid (HST6.out.below hb3P)
 have hsm:=HSM6.out.below hb3P
 rw[hkl']at hsm
 have HSM:=Lib.hid hsm
 have HBP:=Lib.hid (HB6.out.trans (hb3P.mono HB6.out.size))
 have HRP:=Lib.hid hcP
 have HCKO:=Lib.hid (fun(X:World) (Av':Option Addr) (kv':Nat) (hX:Below P.heap.size P X) (hA:X.ownsRow P.heap.size 39 4 (.slice Av' (ss.length+1) kv') (ss.length+1) (K.flatMap stcell++ [.bool false,.int .i64 n,.slice (some ⟨w4.heap.size,0,none⟩) 1 1,.slice (some ⟨w4.heap.size+1,0,none⟩) 1 1]))=>HCK2.out X (.slice A cs.length k) _ (HCP.out.below hX) (by
  rw[←hkl']at hA
  have:=own_snoc (s:=⟨false,n,[0],[n]⟩) (HSM.out.below hX) hA (ints_blk (xs:= [0]) ((hX.block _ (heap_lt HL1.out)).trans HL1.out) trivial) (ints_blk (xs:= [n]) ((hX.block _ (heap_lt HL2.out)).trans HL2.out) trivial)
  rw[HSM4.out.2,hkl']at this
  exact this))
 have hxl':=heap_lt HXP.out
 have hol:=heap_lt HOP.out
 have HKL:=Lib.hid hkl'
 have hkle:ss.length≤20:=by omega
 have hKle:=Lib.hid (show K.length≤20 from by omega)
 clear hkl'
 clear hsm hb5 hbP hcP hb3P c0 c1 HCK1
 go_upto_region 7 with fail
 go_cut [13,14,15] (fun p q r wx=> ∃bq:Nat,p= .pointer (some ⟨bq,0,none⟩)∧q= .int .i64 i3∧r= .int .i64 i4∧Hid (wx.heap[bq]? =some (.cells #[.bool a2,.int .i64 b2,.int .i64 c2,.int .i64 d2,.int .i64 e2] 50 (0,0)))∧Hid (P.heap.size≤bq)∧Hid (Below P.heap.size P wx))
 case rest=>
  obtain⟨bq,rfl,rfl,rfl,HMORE,HBQ,HBW⟩:=hcut
  have HCW:=Lib.hid (HCP.out.below HBW.out)
  have HNEW:=Lib.hid (ck_new 6 _ cs wc HCW.out (fun c hc=>(H6.out c hc).clause) (by omega) (lit6_fchk H6.out (by omega)))
  have HPX:=Lib.hid (heap_lt HXP.out)
  have HPO:=Lib.hid (heap_lt HOP.out)
  have c0:=(HBW.out.cell (p:=⟨w2.heap.size,0,none⟩) HPX.out).trans (mx_cell (j:=0) HXP.out)
  have c1:=(HBW.out.cell (p:=⟨w2.heap.size,1,none⟩) HPX.out).trans (mx_cell (j:=1) HXP.out)
  clear HP HCKO HSM HCK2
  go_wp2_with fail
  refine HNEW.out.mono ?_
  rintro e w8 ⟨bk,rfl,hck,hb8⟩
  have HCK8:=Lib.hid hck
  have HB8:=Lib.hid hb8
  obtain⟨W0,hW0⟩: ∃W0,wc.heap.size=W0:=⟨_,rfl⟩
  rw[hW0]at HCK8 HB8
  have HW0:=Lib.hid hW0
  have HST0:=Lib.hid (HSP.out.below HBW.out)
  have hkn:(ckrNew cs).Ok 1000:=by
   rw[ckrNew_of]
   exact ckrOf_ok (fun c hc=>(H6.out c hc).clause) (by omega) (Nat.zero_le _)
  have HKN:=Lib.hid hkn
  obtain⟨L,hL⟩: ∃L,ss.length=L:=⟨_,rfl⟩
  have HL:=Lib.hid hL
  rw[hL]at HST0 hsl⊢
  have hlow:Below W0 wc w8:=HB8.out
  clear c0 c1 hck hb8 hW0 hkn hL HNEW hkle
  go_wp2_with fail
  go_loopw [65] (fun iv wr=> ∃i:Nat,i≤L∧iv= .int .i64 i∧Hid (CkAt W0 wr bk (ckrP cs (ss.take (min i m))))∧Hid ((ckrP cs (ss.take (min i m))).Ok (1000+i))∧Hid (Below W0 wc wr)) (fun iv _=>L-(intOf iv).toNat)
  case atStart=>exact⟨0,Nat.zero_le _,rfl,Lib.hid (by rw[Nat.zero_min,List.take_zero,ckrP_nil];exact HCK8.out),Lib.hid (by rw[Nat.zero_min,List.take_zero,ckrP_nil];exact HKN.out),HB8⟩
  case round=>
   obtain⟨i,hi,rfl,HCR,HOK,HBR⟩:=hrel
   by_cases hlt:i<L
   ·obtain⟨s,hs⟩: ∃s,ss[i]? =some s:=⟨_,List.getElem?_eq_getElem (by rw[HL.out];exact hlt)⟩
    obtain⟨A',c',hAc,_,_,hxs⟩:=HST0.out
    simp only[Value.slice.injEq]at hAc
    obtain⟨rfl,-,rfl⟩:=hAc
    obtain⟨g,o,ul,uh,rfl,hg,_,d0,d1,d2,d3,hul,huh⟩:=hxs i s hs
    have hbw:Below wc.heap.size wc wr:=by rw[HW0.out];exact HBR.out
    have d0:=(hbw.cell (p:=⟨g,o+i*4,none⟩) hg).trans d0
    have d1:=(hbw.cell (p:=⟨g,o+i*4+1,none⟩) hg).trans d1
    have d2:=(hbw.cell (p:=⟨g,o+i*4+2,none⟩) hg).trans d2
    have d3:=(hbw.cell (p:=⟨g,o+i*4+3,none⟩) hg).trans d3
    obtain⟨hs6,hsh⟩:=HS6.out s (List.mem_of_getElem? hs)
    obtain⟨hz,hnx⟩:=do_at HRU.out HCH.out hs
    obtain⟨W1,hW1,hb1,hc1,-⟩:=al_new wr #[.bool s.del,.int .i64 s.id,ul,uh] 39
    have hul1:=(hul.below hbw).below hb1
    have huh1:=(huh.below hbw).below hb1
    have hBW1:=HBR.out.trans (hb1.mono (by have:=HBR.out.size;have:=HW0.out;omega))
    have hdo:=ck_do_all (N:=1000+i) bk (ckrP cs (ss.take (min i m))) s ul uh W1 (HCR.out.below hb1) (by have:=hBW1.size;have:=HW0.out;omega) HOK.out (by omega) hul1 huh1 (by have:=hs6.1;omega) (by omega)
    have HNOK:=Lib.hid (by have:=do_ok (s:=s) HOK.out;rw[hnx]at this;exact this)
    obtain⟨zk,hzk⟩: ∃zk,((ckrP cs (ss.take (min i m))).do_ s).2.1=zk:=⟨_,rfl⟩
    obtain⟨zi,hzi⟩: ∃zi,((ckrP cs (ss.take (min i m))).do_ s).2.2.1=zi:=⟨_,rfl⟩
    rw[hz,hnx,hzk,hzi]at hdo
    obtain⟨Al,cl',rfl,_⟩:=hul
    obtain⟨Ah,ch',rfl,_⟩:=huh
    have HDO:=Lib.hid hdo
    have HW1:=Lib.hid hW1
    have HB1:=Lib.hid hBW1
    have x0:=mx_cell (j:=0) hc1
    have x1:=mx_cell (j:=1) hc1
    have x2:=mx_cell (j:=2) hc1
    have x3:=mx_cell (j:=3) hc1
    clear hdo hW1 hb1 hc1 hul1 huh1 hBW1 hzk hzi hz hnx hxs hsh hs6 hs hbw
    go_upto_region 14 with fail
    rw[HW1.out]
    go_wp2_with fail
    refine HDO.out.mono ?_
    rintro e w9 ⟨rfl,hck9,hb9,-⟩
    have HCK9:=Lib.hid hck9
    have HB9:=Lib.hid (HB1.out.trans hb9)
    clear hck9 hb9 HDO x0 x1 x2 x3 d0 d1 d2 d3
    go_wp2_with fail
    go_roundw
    case rel=>exact⟨i+1,by omega,by go_num,HCK9,Lib.hid HNOK.out,HB9⟩
    case measure=>simp[intOf];omega
   ·obtain rfl:i=L:=by omega
    have hle:=HCH.out.le
    rw[HL.out]at hle
    obtain⟨Kf,hKf⟩: ∃Kf,ckrP cs (ss.take m)=Kf:=⟨_,rfl⟩
    rw[Nat.min_eq_right hle,hKf]at HCR HOK
    have hbw:Below wc.heap.size wc wr:=by rw[HW0.out];exact HBR.out
    have hBP:=HBW.out.trans (hbw.mono HBW.out.size)
    have hrp:=(hBP.block _ (heap_lt HRP.out)).trans HRP.out
    have hmo:=(hbw.block _ (heap_lt HMORE.out)).trans HMORE.out
    have r0:=mx_cell (j:=0) hrp
    have r1:=mx_cell (j:=1) hrp
    have r2:=mx_cell (j:=2) hrp
    have r3:=mx_cell (j:=3) hrp
    have r4:=mx_cell (j:=4) hrp
    have m0:=mx_cell (j:=0) hmo
    have m1:=mx_cell (j:=1) hmo
    have m2:=mx_cell (j:=2) hmo
    have m3:=mx_cell (j:=3) hmo
    have m4:=mx_cell (j:=4) hmo
    have HEND:=Lib.hid (HBP.out.trans (hBP.mono HBP.out.size))
    have hR:=HR.out
    have hR2:=HR2.out
    rw[hKf]at hR hR2
    obtain⟨z,hz⟩: ∃z,Kf.proved=z:=⟨_,rfl⟩
    have HZ:=Lib.hid hz
    cases z with
    | false=>
     rw[if_neg (by rw[hz];decide)]at hR2
     obtain⟨e1,e2⟩:=run_false (m:=m) hz
     have hml:m=i:=by
      refine Classical.byContradiction fun hne=>?_
      have:=HCH.out.stop (by rw[HL.out];omega)
      rw[hKf,hz]at this
      cases this
     have hrv:=HRV.out
     rw[hR,e2]at hrv
     obtain⟨ha,hb,hc,hd,he⟩:=repZ_parts hrv
     have hi1:i1=(i:Int):=by rw[←HI1.out,hR,hml]
     have hi2:i2=101:=by rw[←HI2.out,hR,e1];rfl
     have e3:runE (Kf,m,70)=70:=rfl
     have e4:runRep (Kf,m,70)=repZ:=rfl
     have hrv2:=HRV2.out
     rw[hR2,e4]at hrv2
     obtain⟨ha2,hb2,hc2,hd2,he2⟩:=repZ_parts hrv2
     have hi3:i3=(i:Int):=by rw[←HI3.out,hR2,hml]
     have hi4:i4=70:=by rw[←HI4.out,hR2,e3];rfl
     have HPV:=Lib.hid (show Calls Tryz.prog 23 #[.pointer (some ⟨bk,0,none⟩)] wr fun e w'=>e= .returned (.bool false)∧wr=w' from hz▸ck_proved bk Kf wr HCR.out)
     subst ha hb hc hd he hi1 hi2 ha2 hb2 hc2 hd2 he2 hi3 hi4
     clear hrv hrv2 e1 e2 e3 e4 hR hR2 hz hKf hml hle hbw hBP hrp hmo
     go_wp2_with fail
     refine HPV.out.mono ?_
     rintro e w' ⟨rfl,rfl⟩
     go_wp2_with fail
     go_ret
     exact⟨rfl,HEND.out⟩
    | true=>
     rw[if_pos hz]at hR2
     obtain⟨e1,e2⟩:=run_true (m:=m) hz
     have hrv:=HRV.out
     rw[hR,e2]at hrv
     have hrv2:=HRV2.out
     rw[hR2,e2]at hrv2
     obtain⟨ha,hb,hc,hd,he⟩:=rep_parts hrv
     obtain⟨ha2,hb2,hc2,hd2,he2⟩:=rep_parts hrv2
     have hi1:i1=(m:Int):=by rw[←HI1.out,hR]
     have hi2:i2=0:=by rw[←HI2.out,hR,e1];rfl
     have hi3:i3=(m:Int):=by rw[←HI3.out,hR2]
     have hi4:i4=0:=by rw[←HI4.out,hR2,e1];rfl
     rw[←ha]at ha2
     rw[←hb]at hb2
     rw[←hc]at hc2
     rw[←hd]at hd2
     rw[←he]at he2
     have hat:a=true:=ha.trans hz
     subst ha2 hb2 hc2 hd2 he2 hi1 hi2 hi3 hi4
     clear ha hb hc hd he
     subst hat
     have hol:=(hBP.block _ (heap_lt HOP.out)).trans HOP.out
     have o0:=mx_cell (j:=0) hol
     have o1:=mx_cell (j:=1) hol
     have o2:=mx_cell (j:=2) hol
     have o3:=mx_cell (j:=3) hol
     have HL1w:=(hBP.block _ (heap_lt HL1.out)).trans HL1.out
     have HL2w:=(hBP.block _ (heap_lt HL2.out)).trans HL2.out
     have hdo:=ck_do_all (N:=1000+i) (O:=fun _=>True) (Oc:=fun _=>True) bk Kf ⟨false,n,[0],[n]⟩ (.slice (some ⟨w4.heap.size,0,none⟩) 1 1) (.slice (some ⟨w4.heap.size+1,0,none⟩) 1 1) wr HCR.out (by rw[←HW0.out];exact hbw.size) HOK.out (by omega) (ints_blk (xs:= [0]) HL1w trivial) (ints_blk (xs:= [n]) HL2w trivial) (by simp) (by simp)
     rw[do_still hz]at hdo
     have HDO:=Lib.hid (show Calls Tryz.prog 13 #[.pointer (some ⟨bk,0,none⟩),.agg #[.bool false,.int .i64 n,.slice (some ⟨w4.heap.size,0,none⟩) 1 1,.slice (some ⟨w4.heap.size+1,0,none⟩) 1 1]] wr fun e w'=>e= .returned (.tuple #[.int .u8 0,.int .i64 0,.int .i64 0])∧CkAt W0 w' bk Kf∧Below W0 wr w'∧CkF bk wr w' from hdo)
     have HBW0:=Lib.hid hbw
     have HRV0:=Lib.hid hrv
     clear hrv hrv2 e1 e2 hR hR2 hKf hle hBP hrp hmo hdo HL1w HL2w hol hbw r0 r1 r2 r3 r4 m0 m1 m2 m3 m4 HEND
     go_wp2_with fail
     refine HDO.out.mono ?_
     rintro e w9 ⟨rfl,hck9,hb9,-⟩
     have hbw:Below wc.heap.size wc w9:=HBW0.out.trans (by rw[HW0.out];exact hb9)
     have hBP:=HBW.out.trans (hbw.mono HBW.out.size)
     have hrp:=(hBP.block _ (heap_lt HRP.out)).trans HRP.out
     have hmo:=(hbw.block _ (heap_lt HMORE.out)).trans HMORE.out
     have HRP9:=Lib.hid hrp
     have HMO9:=Lib.hid hmo
     have hrl:=heap_lt hrp
     have hml:=heap_lt hmo
     have HEND:=Lib.hid (HBP.out.trans (hBP.mono HBP.out.size))
     have HREP:=Lib.hid (fun(X:World) (hX:Below w9.heap.size w9 X)=>show Calls Tryz.prog 24 #[.pointer (some ⟨bk,0,none⟩)] X fun e w'=>e= .returned (.agg #[.bool true,.int .i64 b2,.int .i64 c2,.int .i64 d2,.int .i64 e2])∧Below X.heap.size X w' from HRV0.out▸ck_report bk Kf X (hck9.below hX))
     have HPRV:=Lib.hid (fun(X:World) (hX:Below w9.heap.size w9 X)=>show Calls Tryz.prog 23 #[.pointer (some ⟨bk,0,none⟩)] X fun e w'=>e= .returned (.bool true)∧X=w' from HZ.out▸ck_proved bk Kf X (hck9.below hX))
     clear hck9 hb9 hbw hBP hrp hmo o0 o1 o2 o3 HDO
     go_upto_region 21 with fail
     refine wp_region_held_drew (S:=fun w'=>Below w9.heap.size w9 w') (by kernel_rfl) (mx_drew w9) (fun hS=>?_)
     obtain⟨xD,hxD⟩: ∃z,w9.drew=z:=⟨_,rfl⟩
     rw[hxD]at hS⊢
     clear hxD
     refine takeE 0 116 ?_
     refine takeE 1 117 ?_
     refine takeE 2 118 ?_
     refine takeF 3 119 (F:=fun wq=>wq.cell? ⟨bq,0,none⟩=some (.bool true)∧wq.cell? ⟨bq,1,none⟩=some (.int .i64 b2)∧wq.cell? ⟨bq,2,none⟩=some (.int .i64 c2)∧wq.cell? ⟨bq,3,none⟩=some (.int .i64 d2)∧wq.cell? ⟨bq,4,none⟩=some (.int .i64 e2)) (fun wq hSw=>⟨(hSw.cell (p:=⟨bq,0,none⟩) hml).trans (mx_cell (j:=0) HMO9.out),(hSw.cell (p:=⟨bq,1,none⟩) hml).trans (mx_cell (j:=1) HMO9.out),(hSw.cell (p:=⟨bq,2,none⟩) hml).trans (mx_cell (j:=2) HMO9.out),(hSw.cell (p:=⟨bq,3,none⟩) hml).trans (mx_cell (j:=3) HMO9.out),(hSw.cell (p:=⟨bq,4,none⟩) hml).trans (mx_cell (j:=4) HMO9.out)⟩) ?_
     refine takeF 4 120 (F:=fun wq=>wq.cell? ⟨w5.heap.size,0,none⟩=some (.bool true)∧wq.cell? ⟨w5.heap.size,1,none⟩=some (.int .i64 b2)∧wq.cell? ⟨w5.heap.size,2,none⟩=some (.int .i64 c2)∧wq.cell? ⟨w5.heap.size,3,none⟩=some (.int .i64 d2)∧wq.cell? ⟨w5.heap.size,4,none⟩=some (.int .i64 e2)) (fun wq hSw=>⟨(hSw.cell (p:=⟨w5.heap.size,0,none⟩) hrl).trans (mx_cell (j:=0) HRP9.out),(hSw.cell (p:=⟨w5.heap.size,1,none⟩) hrl).trans (mx_cell (j:=1) HRP9.out),(hSw.cell (p:=⟨w5.heap.size,2,none⟩) hrl).trans (mx_cell (j:=2) HRP9.out),(hSw.cell (p:=⟨w5.heap.size,3,none⟩) hrl).trans (mx_cell (j:=3) HRP9.out),(hSw.cell (p:=⟨w5.heap.size,4,none⟩) hrl).trans (mx_cell (j:=4) HRP9.out)⟩) ?_
     refine takeE 5 121 ?_
     refine takeE 6 122 ?_
     refine takeE 7 123 ?_
     refine takeE 8 124 ?_
     refine takeE 9 125 ?_
     refine takeE 10 126 ?_
     refine takeE 11 127 ?_
     refine takeE 12 128 ?_
     refine takeE 13 129 ?_
     refine takeF 15 131 (F:=fun wq=>wq.cell? ⟨w5.heap.size,0,none⟩=some (.bool true)∧wq.cell? ⟨w5.heap.size,1,none⟩=some (.int .i64 b2)∧wq.cell? ⟨w5.heap.size,2,none⟩=some (.int .i64 c2)∧wq.cell? ⟨w5.heap.size,3,none⟩=some (.int .i64 d2)∧wq.cell? ⟨w5.heap.size,4,none⟩=some (.int .i64 e2)) (fun wq hSw=>⟨(hSw.cell (p:=⟨w5.heap.size,0,none⟩) hrl).trans (mx_cell (j:=0) HRP9.out),(hSw.cell (p:=⟨w5.heap.size,1,none⟩) hrl).trans (mx_cell (j:=1) HRP9.out),(hSw.cell (p:=⟨w5.heap.size,2,none⟩) hrl).trans (mx_cell (j:=2) HRP9.out),(hSw.cell (p:=⟨w5.heap.size,3,none⟩) hrl).trans (mx_cell (j:=3) HRP9.out),(hSw.cell (p:=⟨w5.heap.size,4,none⟩) hrl).trans (mx_cell (j:=4) HRP9.out)⟩) ?_
     refine ready1 14 (fun KK hKK=>?_)
     go_simp
     refine(HREP.out _ hS).mono ?_
     rintro e w10 ⟨rfl,hbN⟩
     have hSN:=hS.trans (hbN.mono hS.size)
     refine hKK.out _ _ hSN (fun _=>?_)
     clear hKK
     refine takeE 16 132 ?_
     refine takeE 17 133 ?_
     refine takeE 18 134 ?_
     refine takeE 19 135 ?_
     refine ready1 20 (fun KK hKK=>?_)
     go_simp
     refine(HPRV.out _ hSN).mono ?_
     rintro e w11 ⟨rfl,rfl⟩
     refine hKK.out _ _ hSN (fun _=>?_)
     clear hKK
     refine takeE 21 137 ?_
     refine takeE 22 138 ?_
     refine takeE 23 139 ?_
     refine takeE 24 140 ?_
     refine takeE 25 141 ?_
     refine takeE 26 142 ?_
     refine takeE 27 143 ?_
     refine takeE 28 144 ?_
     refine takeE 29 145 ?_
     refine takeE 30 146 ?_
     refine takeE 31 147 ?_
     refine takeE 32 148 ?_
     refine takeE 33 149 ?_
     refine takeE 34 6 ?_
     refine wpAnyH_done (by kernel_rfl) ?_ _
     have HFIN:=Lib.hid (HEND.out.trans (hSN.mono HEND.out.size))
     clear hSN hS hbN
     go_wp2_with fail
     go_ret
     exact⟨rfl,HFIN.out⟩
 case first=>
 rw[HP.out]
 obtain⟨si,hsi,sz0,sz1,sz2⟩:=info_parts stinfo
 refine wp_region_held_drew (S:=fun w'=>Below P.heap.size P w') (by kernel_rfl) (mx_drew P) (fun hS0=>?_)
 obtain⟨x0,hx0⟩: ∃y,P.drew=y:=⟨_,rfl⟩
 rw[hx0]at hS0⊢
 clear hx0
 refine takeF 0 46 (F:=fun wq=>wq.cell? ⟨w2.heap.size,0,none⟩=some (.int .i64 6)∧wq.cell? ⟨w2.heap.size,1,none⟩=some (.slice A cs.length k)) (fun wq hSw=>⟨(hSw.cell (p:=⟨w2.heap.size,0,none⟩) hxl').trans (mx_cell (j:=0) HXP.out),(hSw.cell (p:=⟨w2.heap.size,1,none⟩) hxl').trans (mx_cell (j:=1) HXP.out)⟩) ?_
 refine takeE 1 47 ?_
 refine takeF 3 49 (F:=fun wq=>wq.cell? ⟨w4.heap.size+1+1,0,none⟩=some (.bool false)∧wq.cell? ⟨w4.heap.size+1+1,1,none⟩=some (.int .i64 n)∧wq.cell? ⟨w4.heap.size+1+1,2,none⟩=some (.slice (some ⟨w4.heap.size,0,none⟩) 1 1)∧wq.cell? ⟨w4.heap.size+1+1,3,none⟩=some (.slice (some ⟨w4.heap.size+1,0,none⟩) 1 1)) (fun wq hSw=>⟨(hSw.cell (p:=⟨w4.heap.size+1+1,0,none⟩) hol).trans (mx_cell (j:=0) HOP.out),(hSw.cell (p:=⟨w4.heap.size+1+1,1,none⟩) hol).trans (mx_cell (j:=1) HOP.out),(hSw.cell (p:=⟨w4.heap.size+1+1,2,none⟩) hol).trans (mx_cell (j:=2) HOP.out),(hSw.cell (p:=⟨w4.heap.size+1+1,3,none⟩) hol).trans (mx_cell (j:=3) HOP.out)⟩) ?_
 refine wpAnyH_ready (rs:= [2,4,11]) (by kernel_rfl) (by simp) (AllReadyH.cons rfl (fun KK hKK=>?_) (AllReadyH.cons rfl (fun KK hKK=>?_) (AllReadyH.cons rfl (fun KK hKK=>?_) AllReadyH.nil)))
 ·go_simp
  refine(clone_st _ K x0 (HSM.out.below hS0) (Nat.le_trans hKle.out (by decide))).mono ?_
  rintro e x1 ⟨vC,rfl,hC0,hb1⟩
  rw[HKL.out]at hC0
  obtain⟨Ac,cc,rfl,_⟩:=mx_slice hC0
  have hS1:=hS0.trans (hb1.mono hS0.size)
  have hC1:=own_mono hC0 hS0.size
  refine hKK.out _ _ hS1 (fun _=>?_)
  clear hKK
  refine wpAnyH_ready (rs:= [4,11]) (by kernel_rfl) (by simp) (AllReadyH.cons rfl (fun KK hKK=>?_) (AllReadyH.cons rfl (fun KK hKK=>?_) AllReadyH.nil))
  ·go_simp
   obtain⟨x2,hw2,hb2,hB0,-⟩:=al_new x1 #[.bool false,.int .i64 n,.slice (some ⟨w4.heap.size,0,none⟩) 1 1,.slice (some ⟨w4.heap.size+1,0,none⟩) 1 1] 39
   rw[hw2]
   have hS2:=hS1.trans (hb2.mono hS1.size)
   have hC2:=own_below hC1 hb2
   have hB2:=hB0
   have hgB:P.heap.size≤x1.heap.size:=hS1.size
   refine hKK.out _ _ hS2 (fun _=>?_)
   clear hKK
   refine wpAnyH_ready (rs:= [5,11]) (by kernel_rfl) (by simp) (AllReadyH.cons rfl (fun KK hKK=>?_) (AllReadyH.cons rfl (fun KK hKK=>?_) AllReadyH.nil))
   ·rw[if_pos (by rfl)]
    refine wp_append_at 51 (by rfl) _ _ 47 rfl P.heap.size 39 si (.agg #[.bool false,.int .i64 0,.slice none 0 0,.slice none 0 0]) 4 64 Tryz.underlying47 hsi sz0 sz1 sz2 rfl (by decide) _ ss.length _ (by rfl) hC2 ⟨x1.heap.size,0,none⟩ 1 1 [.bool false,.int .i64 n,.slice (some ⟨w4.heap.size,0,none⟩) 1 1,.slice (some ⟨w4.heap.size+1,0,none⟩) 1 1] (by rfl) rfl (cells_of_blk hB2) (by simp[Value.oneCell']) (by unfold maxLen;omega) (by omega) hS2.size ?_
    intro v' x3 hA3 hgrow _
    obtain⟨Av,kv,rfl,_⟩:=mx_slice hA3
    have hS3:=hS2.grown hgrow hS2.size (fun g e=>(own_lt hC2 g e).1)
    refine hKK.out _ _ hS3 (fun _=>?_)
    clear hKK
    simp only[Act.put,List.setIfInBounds_toArray,List.set_cons_zero,List.set_cons_succ]
    refine wpAnyH_ready (rs:= [6,11]) (by kernel_rfl) (by simp) (AllReadyH.cons rfl (fun KK hKK=>?_) (AllReadyH.cons rfl (fun KK hKK=>?_) AllReadyH.nil))
    ·go_simp
     refine(HCKO.out x3 _ _ hS3 hA3).mono ?_
     rintro e x4 ⟨rfl,hb4⟩
     have hS4:=hS3.trans (hb4.mono hS3.size)
     refine hKK.out _ _ hS4 (fun _=>?_)
     clear hKK
     refine takeE 7 45 ?_
     refine takeE 8 53 ?_
     refine takeE 9 54 ?_
     refine takeE 10 55 ?_
     refine ready1 11 (fun KK hKK=>?_)
     go_simp
     obtain⟨x5,hw5,hb5,hL0,-⟩:=al_new x4 #[.bool false,.int .i64 0,.int .i64 0,.int .i64 0,.int .i64 0] 50
     rw[hw5]
     have hS5:=hS4.trans (hb5.mono hS4.size)
     have hL5:=hL0
     have hgL:P.heap.size≤x4.heap.size:=hS4.size
     refine hKK.out _ _ hS5 (fun _=>?_)
     clear hKK
     obtain⟨gL,hgl⟩: ∃g,x4.heap.size=g:=⟨_,rfl⟩
     rw[hgl]at hgL hL5⊢
     clear hgl
     have r0:=mx_cell (j:=0) hL5
     have r1:=mx_cell (j:=1) hL5
     have r2:=mx_cell (j:=2) hL5
     have r3:=mx_cell (j:=3) hL5
     have r4:=mx_cell (j:=4) hL5
     have f0:=free_at (j:=0) hL5
     have f1:=free_at (j:=1) hL5
     have f2:=free_at (j:=2) hL5
     have f3:=free_at (j:=3) hL5
     have f4:=free_at (j:=4) hL5
     obtain⟨wy,hwy,hby,hky⟩:=five_setR hL5 (.bool a2) (.int .i64 b2) (.int .i64 c2) (.int .i64 d2) (.int .i64 e2)
     have hSy:=hS5.trans (hky.below (fun i e=>by rw[e];exact hgL) hS5.size)
     refine ready1 12 (fun KK hKK=>?_)
     go_simp
     try rw[hwy]
     refine hKK.out _ _ hSy (fun _=>?_)
     clear hKK
     refine takeE 13 14 ?_
     refine takeE 14 15 ?_
     refine wpAnyH_done (by kernel_rfl) ?_ _
     go_wp2_with fail
     go_meet
     exact⟨gL,rfl,rfl,rfl,Lib.hid hby,Lib.hid hgL,Lib.hid hSy⟩
    ·go_simp
     obtain⟨x4,hw4,hb4,hL0,-⟩:=al_new x3 #[.bool false,.int .i64 0,.int .i64 0,.int .i64 0,.int .i64 0] 50
     rw[hw4]
     have hS4:=hS3.trans (hb4.mono hS3.size)
     have hA4:=own_below hA3 hb4
     have hL4:=hL0
     have hgL:P.heap.size≤x3.heap.size:=hS3.size
     refine hKK.out _ _ hS4 (fun _=>?_)
     clear hKK
     refine ready1 6 (fun KK hKK=>?_)
     go_simp
     refine(HCKO.out x4 _ _ hS4 hA4).mono ?_
     rintro e x5 ⟨rfl,hb5⟩
     have hS5:=hS4.trans (hb5.mono hS4.size)
     have hL5:=(hb5.block _ (heap_lt hL4)).trans hL4
     refine hKK.out _ _ hS5 (fun _=>?_)
     clear hKK
     refine takeE 7 45 ?_
     refine takeE 8 53 ?_
     refine takeE 9 54 ?_
     refine takeE 10 55 ?_
     obtain⟨gL,hgl⟩: ∃g,x3.heap.size=g:=⟨_,rfl⟩
     rw[hgl]at hgL hL5⊢
     clear hgl
     have r0:=mx_cell (j:=0) hL5
     have r1:=mx_cell (j:=1) hL5
     have r2:=mx_cell (j:=2) hL5
     have r3:=mx_cell (j:=3) hL5
     have r4:=mx_cell (j:=4) hL5
     have f0:=free_at (j:=0) hL5
     have f1:=free_at (j:=1) hL5
     have f2:=free_at (j:=2) hL5
     have f3:=free_at (j:=3) hL5
     have f4:=free_at (j:=4) hL5
     obtain⟨wy,hwy,hby,hky⟩:=five_setR hL5 (.bool a2) (.int .i64 b2) (.int .i64 c2) (.int .i64 d2) (.int .i64 e2)
     have hSy:=hS5.trans (hky.below (fun i e=>by rw[e];exact hgL) hS5.size)
     refine ready1 12 (fun KK hKK=>?_)
     go_simp
     try rw[hwy]
     refine hKK.out _ _ hSy (fun _=>?_)
     clear hKK
     refine takeE 13 14 ?_
     refine takeE 14 15 ?_
     refine wpAnyH_done (by kernel_rfl) ?_ _
     go_wp2_with fail
     go_meet
     exact⟨gL,rfl,rfl,rfl,Lib.hid hby,Lib.hid hgL,Lib.hid hSy⟩
   ·go_simp
    obtain⟨x3,hw3,hb3,hL0,-⟩:=al_new x2 #[.bool false,.int .i64 0,.int .i64 0,.int .i64 0,.int .i64 0] 50
    rw[hw3]
    have hS3:=hS2.trans (hb3.mono hS2.size)
    have hC3:=own_below hC2 hb3
    have hB3:=(hb3.block _ (heap_lt hB2)).trans hB2
    have hL3:=hL0
    have hgL:P.heap.size≤x2.heap.size:=hS2.size
    refine hKK.out _ _ hS3 (fun _=>?_)
    clear hKK
    refine ready1 5 (fun KK hKK=>?_)
    rw[if_pos (by rfl)]
    refine wp_append_at 51 (by rfl) _ _ 47 rfl P.heap.size 39 si (.agg #[.bool false,.int .i64 0,.slice none 0 0,.slice none 0 0]) 4 64 Tryz.underlying47 hsi sz0 sz1 sz2 rfl (by decide) _ ss.length _ (by rfl) hC3 ⟨x1.heap.size,0,none⟩ 1 1 [.bool false,.int .i64 n,.slice (some ⟨w4.heap.size,0,none⟩) 1 1,.slice (some ⟨w4.heap.size+1,0,none⟩) 1 1] (by rfl) rfl (cells_of_blk hB3) (by simp[Value.oneCell']) (by unfold maxLen;omega) (by omega) hS3.size ?_
    intro v' x4 hA4 hgrow _
    obtain⟨Av,kv,rfl,_⟩:=mx_slice hA4
    have hS4:=hS3.grown hgrow hS3.size (fun g e=>(own_lt hC3 g e).1)
    have hL4:=(hgrow.block _ (heap_lt hL3) (fun e=>mx_not hC3 hL3 (by decide) e.symm)).trans hL3
    refine hKK.out _ _ hS4 (fun _=>?_)
    clear hKK
    simp only[Act.put,List.setIfInBounds_toArray,List.set_cons_zero,List.set_cons_succ]
    refine ready1 6 (fun KK hKK=>?_)
    go_simp
    refine(HCKO.out x4 _ _ hS4 hA4).mono ?_
    rintro e x5 ⟨rfl,hb5⟩
    have hS5:=hS4.trans (hb5.mono hS4.size)
    have hL5:=(hb5.block _ (heap_lt hL4)).trans hL4
    refine hKK.out _ _ hS5 (fun _=>?_)
    clear hKK
    refine takeE 7 45 ?_
    refine takeE 8 53 ?_
    refine takeE 9 54 ?_
    refine takeE 10 55 ?_
    obtain⟨gL,hgl⟩: ∃g,x2.heap.size=g:=⟨_,rfl⟩
    rw[hgl]at hgL hL5⊢
    clear hgl
    have r0:=mx_cell (j:=0) hL5
    have r1:=mx_cell (j:=1) hL5
    have r2:=mx_cell (j:=2) hL5
    have r3:=mx_cell (j:=3) hL5
    have r4:=mx_cell (j:=4) hL5
    have f0:=free_at (j:=0) hL5
    have f1:=free_at (j:=1) hL5
    have f2:=free_at (j:=2) hL5
    have f3:=free_at (j:=3) hL5
    have f4:=free_at (j:=4) hL5
    obtain⟨wy,hwy,hby,hky⟩:=five_setR hL5 (.bool a2) (.int .i64 b2) (.int .i64 c2) (.int .i64 d2) (.int .i64 e2)
    have hSy:=hS5.trans (hky.below (fun i e=>by rw[e];exact hgL) hS5.size)
    refine ready1 12 (fun KK hKK=>?_)
    go_simp
    try rw[hwy]
    refine hKK.out _ _ hSy (fun _=>?_)
    clear hKK
    refine takeE 13 14 ?_
    refine takeE 14 15 ?_
    refine wpAnyH_done (by kernel_rfl) ?_ _
    go_wp2_with fail
    go_meet
    exact⟨gL,rfl,rfl,rfl,Lib.hid hby,Lib.hid hgL,Lib.hid hSy⟩
  ·go_simp
   obtain⟨x2,hw2,hb2,hL0,-⟩:=al_new x1 #[.bool false,.int .i64 0,.int .i64 0,.int .i64 0,.int .i64 0] 50
   rw[hw2]
   have hS2:=hS1.trans (hb2.mono hS1.size)
   have hC2:=own_below hC1 hb2
   have hL2:=hL0
   have hgL:P.heap.size≤x1.heap.size:=hS1.size
   refine hKK.out _ _ hS2 (fun _=>?_)
   clear hKK
   refine ready1 4 (fun KK hKK=>?_)
   go_simp
   obtain⟨x3,hw3,hb3,hB0,-⟩:=al_new x2 #[.bool false,.int .i64 n,.slice (some ⟨w4.heap.size,0,none⟩) 1 1,.slice (some ⟨w4.heap.size+1,0,none⟩) 1 1] 39
   rw[hw3]
   have hS3:=hS2.trans (hb3.mono hS2.size)
   have hC3:=own_below hC2 hb3
   have hL3:=(hb3.block _ (heap_lt hL2)).trans hL2
   have hB3:=hB0
   have hgB:P.heap.size≤x2.heap.size:=hS2.size
   refine hKK.out _ _ hS3 (fun _=>?_)
   clear hKK
   refine ready1 5 (fun KK hKK=>?_)
   rw[if_pos (by rfl)]
   refine wp_append_at 51 (by rfl) _ _ 47 rfl P.heap.size 39 si (.agg #[.bool false,.int .i64 0,.slice none 0 0,.slice none 0 0]) 4 64 Tryz.underlying47 hsi sz0 sz1 sz2 rfl (by decide) _ ss.length _ (by rfl) hC3 ⟨x2.heap.size,0,none⟩ 1 1 [.bool false,.int .i64 n,.slice (some ⟨w4.heap.size,0,none⟩) 1 1,.slice (some ⟨w4.heap.size+1,0,none⟩) 1 1] (by rfl) rfl (cells_of_blk hB3) (by simp[Value.oneCell']) (by unfold maxLen;omega) (by omega) hS3.size ?_
   intro v' x4 hA4 hgrow _
   obtain⟨Av,kv,rfl,_⟩:=mx_slice hA4
   have hS4:=hS3.grown hgrow hS3.size (fun g e=>(own_lt hC3 g e).1)
   have hL4:=(hgrow.block _ (heap_lt hL3) (fun e=>mx_not hC3 hL3 (by decide) e.symm)).trans hL3
   refine hKK.out _ _ hS4 (fun _=>?_)
   clear hKK
   simp only[Act.put,List.setIfInBounds_toArray,List.set_cons_zero,List.set_cons_succ]
   refine ready1 6 (fun KK hKK=>?_)
   go_simp
   refine(HCKO.out x4 _ _ hS4 hA4).mono ?_
   rintro e x5 ⟨rfl,hb5⟩
   have hS5:=hS4.trans (hb5.mono hS4.size)
   have hL5:=(hb5.block _ (heap_lt hL4)).trans hL4
   refine hKK.out _ _ hS5 (fun _=>?_)
   clear hKK
   refine takeE 7 45 ?_
   refine takeE 8 53 ?_
   refine takeE 9 54 ?_
   refine takeE 10 55 ?_
   obtain⟨gL,hgl⟩: ∃g,x1.heap.size=g:=⟨_,rfl⟩
   rw[hgl]at hgL hL5⊢
   clear hgl
   have r0:=mx_cell (j:=0) hL5
   have r1:=mx_cell (j:=1) hL5
   have r2:=mx_cell (j:=2) hL5
   have r3:=mx_cell (j:=3) hL5
   have r4:=mx_cell (j:=4) hL5
   have f0:=free_at (j:=0) hL5
   have f1:=free_at (j:=1) hL5
   have f2:=free_at (j:=2) hL5
   have f3:=free_at (j:=3) hL5
   have f4:=free_at (j:=4) hL5
   obtain⟨wy,hwy,hby,hky⟩:=five_setR hL5 (.bool a2) (.int .i64 b2) (.int .i64 c2) (.int .i64 d2) (.int .i64 e2)
   have hSy:=hS5.trans (hky.below (fun i e=>by rw[e];exact hgL) hS5.size)
   refine ready1 12 (fun KK hKK=>?_)
   go_simp
   try rw[hwy]
   refine hKK.out _ _ hSy (fun _=>?_)
   clear hKK
   refine takeE 13 14 ?_
   refine takeE 14 15 ?_
   refine wpAnyH_done (by kernel_rfl) ?_ _
   go_wp2_with fail
   go_meet
   exact⟨gL,rfl,rfl,rfl,Lib.hid hby,Lib.hid hgL,Lib.hid hSy⟩
 ·go_simp
  obtain⟨x1,hw1,hb1,hB0,-⟩:=al_new x0 #[.bool false,.int .i64 n,.slice (some ⟨w4.heap.size,0,none⟩) 1 1,.slice (some ⟨w4.heap.size+1,0,none⟩) 1 1] 39
  rw[hw1]
  have hS1:=hS0.trans (hb1.mono hS0.size)
  have hB1:=hB0
  have hgB:P.heap.size≤x0.heap.size:=hS0.size
  refine hKK.out _ _ hS1 (fun _=>?_)
  clear hKK
  refine wpAnyH_ready (rs:= [2,11]) (by kernel_rfl) (by simp) (AllReadyH.cons rfl (fun KK hKK=>?_) (AllReadyH.cons rfl (fun KK hKK=>?_) AllReadyH.nil))
  ·go_simp
   refine(clone_st _ K x1 (HSM.out.below hS1) (Nat.le_trans hKle.out (by decide))).mono ?_
   rintro e x2 ⟨vC,rfl,hC0,hb2⟩
   rw[HKL.out]at hC0
   obtain⟨Ac,cc,rfl,_⟩:=mx_slice hC0
   have hS2:=hS1.trans (hb2.mono hS1.size)
   have hB2:=(hb2.block _ (heap_lt hB1)).trans hB1
   have hC2:=own_mono hC0 hS1.size
   refine hKK.out _ _ hS2 (fun _=>?_)
   clear hKK
   refine wpAnyH_ready (rs:= [5,11]) (by kernel_rfl) (by simp) (AllReadyH.cons rfl (fun KK hKK=>?_) (AllReadyH.cons rfl (fun KK hKK=>?_) AllReadyH.nil))
   ·rw[if_pos (by rfl)]
    refine wp_append_at 51 (by rfl) _ _ 47 rfl P.heap.size 39 si (.agg #[.bool false,.int .i64 0,.slice none 0 0,.slice none 0 0]) 4 64 Tryz.underlying47 hsi sz0 sz1 sz2 rfl (by decide) _ ss.length _ (by rfl) hC2 ⟨x0.heap.size,0,none⟩ 1 1 [.bool false,.int .i64 n,.slice (some ⟨w4.heap.size,0,none⟩) 1 1,.slice (some ⟨w4.heap.size+1,0,none⟩) 1 1] (by rfl) rfl (cells_of_blk hB2) (by simp[Value.oneCell']) (by unfold maxLen;omega) (by omega) hS2.size ?_
    intro v' x3 hA3 hgrow _
    obtain⟨Av,kv,rfl,_⟩:=mx_slice hA3
    have hS3:=hS2.grown hgrow hS2.size (fun g e=>(own_lt hC2 g e).1)
    refine hKK.out _ _ hS3 (fun _=>?_)
    clear hKK
    simp only[Act.put,List.setIfInBounds_toArray,List.set_cons_zero,List.set_cons_succ]
    refine wpAnyH_ready (rs:= [6,11]) (by kernel_rfl) (by simp) (AllReadyH.cons rfl (fun KK hKK=>?_) (AllReadyH.cons rfl (fun KK hKK=>?_) AllReadyH.nil))
    ·go_simp
     refine(HCKO.out x3 _ _ hS3 hA3).mono ?_
     rintro e x4 ⟨rfl,hb4⟩
     have hS4:=hS3.trans (hb4.mono hS3.size)
     refine hKK.out _ _ hS4 (fun _=>?_)
     clear hKK
     refine takeE 7 45 ?_
     refine takeE 8 53 ?_
     refine takeE 9 54 ?_
     refine takeE 10 55 ?_
     refine ready1 11 (fun KK hKK=>?_)
     go_simp
     obtain⟨x5,hw5,hb5,hL0,-⟩:=al_new x4 #[.bool false,.int .i64 0,.int .i64 0,.int .i64 0,.int .i64 0] 50
     rw[hw5]
     have hS5:=hS4.trans (hb5.mono hS4.size)
     have hL5:=hL0
     have hgL:P.heap.size≤x4.heap.size:=hS4.size
     refine hKK.out _ _ hS5 (fun _=>?_)
     clear hKK
     obtain⟨gL,hgl⟩: ∃g,x4.heap.size=g:=⟨_,rfl⟩
     rw[hgl]at hgL hL5⊢
     clear hgl
     have r0:=mx_cell (j:=0) hL5
     have r1:=mx_cell (j:=1) hL5
     have r2:=mx_cell (j:=2) hL5
     have r3:=mx_cell (j:=3) hL5
     have r4:=mx_cell (j:=4) hL5
     have f0:=free_at (j:=0) hL5
     have f1:=free_at (j:=1) hL5
     have f2:=free_at (j:=2) hL5
     have f3:=free_at (j:=3) hL5
     have f4:=free_at (j:=4) hL5
     obtain⟨wy,hwy,hby,hky⟩:=five_setR hL5 (.bool a2) (.int .i64 b2) (.int .i64 c2) (.int .i64 d2) (.int .i64 e2)
     have hSy:=hS5.trans (hky.below (fun i e=>by rw[e];exact hgL) hS5.size)
     refine ready1 12 (fun KK hKK=>?_)
     go_simp
     try rw[hwy]
     refine hKK.out _ _ hSy (fun _=>?_)
     clear hKK
     refine takeE 13 14 ?_
     refine takeE 14 15 ?_
     refine wpAnyH_done (by kernel_rfl) ?_ _
     go_wp2_with fail
     go_meet
     exact⟨gL,rfl,rfl,rfl,Lib.hid hby,Lib.hid hgL,Lib.hid hSy⟩
    ·go_simp
     obtain⟨x4,hw4,hb4,hL0,-⟩:=al_new x3 #[.bool false,.int .i64 0,.int .i64 0,.int .i64 0,.int .i64 0] 50
     rw[hw4]
     have hS4:=hS3.trans (hb4.mono hS3.size)
     have hA4:=own_below hA3 hb4
     have hL4:=hL0
     have hgL:P.heap.size≤x3.heap.size:=hS3.size
     refine hKK.out _ _ hS4 (fun _=>?_)
     clear hKK
     refine ready1 6 (fun KK hKK=>?_)
     go_simp
     refine(HCKO.out x4 _ _ hS4 hA4).mono ?_
     rintro e x5 ⟨rfl,hb5⟩
     have hS5:=hS4.trans (hb5.mono hS4.size)
     have hL5:=(hb5.block _ (heap_lt hL4)).trans hL4
     refine hKK.out _ _ hS5 (fun _=>?_)
     clear hKK
     refine takeE 7 45 ?_
     refine takeE 8 53 ?_
     refine takeE 9 54 ?_
     refine takeE 10 55 ?_
     obtain⟨gL,hgl⟩: ∃g,x3.heap.size=g:=⟨_,rfl⟩
     rw[hgl]at hgL hL5⊢
     clear hgl
     have r0:=mx_cell (j:=0) hL5
     have r1:=mx_cell (j:=1) hL5
     have r2:=mx_cell (j:=2) hL5
     have r3:=mx_cell (j:=3) hL5
     have r4:=mx_cell (j:=4) hL5
     have f0:=free_at (j:=0) hL5
     have f1:=free_at (j:=1) hL5
     have f2:=free_at (j:=2) hL5
     have f3:=free_at (j:=3) hL5
     have f4:=free_at (j:=4) hL5
     obtain⟨wy,hwy,hby,hky⟩:=five_setR hL5 (.bool a2) (.int .i64 b2) (.int .i64 c2) (.int .i64 d2) (.int .i64 e2)
     have hSy:=hS5.trans (hky.below (fun i e=>by rw[e];exact hgL) hS5.size)
     refine ready1 12 (fun KK hKK=>?_)
     go_simp
     try rw[hwy]
     refine hKK.out _ _ hSy (fun _=>?_)
     clear hKK
     refine takeE 13 14 ?_
     refine takeE 14 15 ?_
     refine wpAnyH_done (by kernel_rfl) ?_ _
     go_wp2_with fail
     go_meet
     exact⟨gL,rfl,rfl,rfl,Lib.hid hby,Lib.hid hgL,Lib.hid hSy⟩
   ·go_simp
    obtain⟨x3,hw3,hb3,hL0,-⟩:=al_new x2 #[.bool false,.int .i64 0,.int .i64 0,.int .i64 0,.int .i64 0] 50
    rw[hw3]
    have hS3:=hS2.trans (hb3.mono hS2.size)
    have hC3:=own_below hC2 hb3
    have hB3:=(hb3.block _ (heap_lt hB2)).trans hB2
    have hL3:=hL0
    have hgL:P.heap.size≤x2.heap.size:=hS2.size
    refine hKK.out _ _ hS3 (fun _=>?_)
    clear hKK
    refine ready1 5 (fun KK hKK=>?_)
    rw[if_pos (by rfl)]
    refine wp_append_at 51 (by rfl) _ _ 47 rfl P.heap.size 39 si (.agg #[.bool false,.int .i64 0,.slice none 0 0,.slice none 0 0]) 4 64 Tryz.underlying47 hsi sz0 sz1 sz2 rfl (by decide) _ ss.length _ (by rfl) hC3 ⟨x0.heap.size,0,none⟩ 1 1 [.bool false,.int .i64 n,.slice (some ⟨w4.heap.size,0,none⟩) 1 1,.slice (some ⟨w4.heap.size+1,0,none⟩) 1 1] (by rfl) rfl (cells_of_blk hB3) (by simp[Value.oneCell']) (by unfold maxLen;omega) (by omega) hS3.size ?_
    intro v' x4 hA4 hgrow _
    obtain⟨Av,kv,rfl,_⟩:=mx_slice hA4
    have hS4:=hS3.grown hgrow hS3.size (fun g e=>(own_lt hC3 g e).1)
    have hL4:=(hgrow.block _ (heap_lt hL3) (fun e=>mx_not hC3 hL3 (by decide) e.symm)).trans hL3
    refine hKK.out _ _ hS4 (fun _=>?_)
    clear hKK
    simp only[Act.put,List.setIfInBounds_toArray,List.set_cons_zero,List.set_cons_succ]
    refine ready1 6 (fun KK hKK=>?_)
    go_simp
    refine(HCKO.out x4 _ _ hS4 hA4).mono ?_
    rintro e x5 ⟨rfl,hb5⟩
    have hS5:=hS4.trans (hb5.mono hS4.size)
    have hL5:=(hb5.block _ (heap_lt hL4)).trans hL4
    refine hKK.out _ _ hS5 (fun _=>?_)
    clear hKK
    refine takeE 7 45 ?_
    refine takeE 8 53 ?_
    refine takeE 9 54 ?_
    refine takeE 10 55 ?_
    obtain⟨gL,hgl⟩: ∃g,x2.heap.size=g:=⟨_,rfl⟩
    rw[hgl]at hgL hL5⊢
    clear hgl
    have r0:=mx_cell (j:=0) hL5
    have r1:=mx_cell (j:=1) hL5
    have r2:=mx_cell (j:=2) hL5
    have r3:=mx_cell (j:=3) hL5
    have r4:=mx_cell (j:=4) hL5
    have f0:=free_at (j:=0) hL5
    have f1:=free_at (j:=1) hL5
    have f2:=free_at (j:=2) hL5
    have f3:=free_at (j:=3) hL5
    have f4:=free_at (j:=4) hL5
    obtain⟨wy,hwy,hby,hky⟩:=five_setR hL5 (.bool a2) (.int .i64 b2) (.int .i64 c2) (.int .i64 d2) (.int .i64 e2)
    have hSy:=hS5.trans (hky.below (fun i e=>by rw[e];exact hgL) hS5.size)
    refine ready1 12 (fun KK hKK=>?_)
    go_simp
    try rw[hwy]
    refine hKK.out _ _ hSy (fun _=>?_)
    clear hKK
    refine takeE 13 14 ?_
    refine takeE 14 15 ?_
    refine wpAnyH_done (by kernel_rfl) ?_ _
    go_wp2_with fail
    go_meet
    exact⟨gL,rfl,rfl,rfl,Lib.hid hby,Lib.hid hgL,Lib.hid hSy⟩
  ·go_simp
   obtain⟨x2,hw2,hb2,hL0,-⟩:=al_new x1 #[.bool false,.int .i64 0,.int .i64 0,.int .i64 0,.int .i64 0] 50
   rw[hw2]
   have hS2:=hS1.trans (hb2.mono hS1.size)
   have hB2:=(hb2.block _ (heap_lt hB1)).trans hB1
   have hL2:=hL0
   have hgL:P.heap.size≤x1.heap.size:=hS1.size
   refine hKK.out _ _ hS2 (fun _=>?_)
   clear hKK
   refine ready1 2 (fun KK hKK=>?_)
   go_simp
   refine(clone_st _ K x2 (HSM.out.below hS2) (Nat.le_trans hKle.out (by decide))).mono ?_
   rintro e x3 ⟨vC,rfl,hC0,hb3⟩
   rw[HKL.out]at hC0
   obtain⟨Ac,cc,rfl,_⟩:=mx_slice hC0
   have hS3:=hS2.trans (hb3.mono hS2.size)
   have hB3:=(hb3.block _ (heap_lt hB2)).trans hB2
   have hL3:=(hb3.block _ (heap_lt hL2)).trans hL2
   have hC3:=own_mono hC0 hS2.size
   refine hKK.out _ _ hS3 (fun _=>?_)
   clear hKK
   refine ready1 5 (fun KK hKK=>?_)
   rw[if_pos (by rfl)]
   refine wp_append_at 51 (by rfl) _ _ 47 rfl P.heap.size 39 si (.agg #[.bool false,.int .i64 0,.slice none 0 0,.slice none 0 0]) 4 64 Tryz.underlying47 hsi sz0 sz1 sz2 rfl (by decide) _ ss.length _ (by rfl) hC3 ⟨x0.heap.size,0,none⟩ 1 1 [.bool false,.int .i64 n,.slice (some ⟨w4.heap.size,0,none⟩) 1 1,.slice (some ⟨w4.heap.size+1,0,none⟩) 1 1] (by rfl) rfl (cells_of_blk hB3) (by simp[Value.oneCell']) (by unfold maxLen;omega) (by omega) hS3.size ?_
   intro v' x4 hA4 hgrow _
   obtain⟨Av,kv,rfl,_⟩:=mx_slice hA4
   have hS4:=hS3.grown hgrow hS3.size (fun g e=>(own_lt hC3 g e).1)
   have hL4:=(hgrow.block _ (heap_lt hL3) (fun e=>mx_not hC3 hL3 (by decide) e.symm)).trans hL3
   refine hKK.out _ _ hS4 (fun _=>?_)
   clear hKK
   simp only[Act.put,List.setIfInBounds_toArray,List.set_cons_zero,List.set_cons_succ]
   refine ready1 6 (fun KK hKK=>?_)
   go_simp
   refine(HCKO.out x4 _ _ hS4 hA4).mono ?_
   rintro e x5 ⟨rfl,hb5⟩
   have hS5:=hS4.trans (hb5.mono hS4.size)
   have hL5:=(hb5.block _ (heap_lt hL4)).trans hL4
   refine hKK.out _ _ hS5 (fun _=>?_)
   clear hKK
   refine takeE 7 45 ?_
   refine takeE 8 53 ?_
   refine takeE 9 54 ?_
   refine takeE 10 55 ?_
   obtain⟨gL,hgl⟩: ∃g,x1.heap.size=g:=⟨_,rfl⟩
   rw[hgl]at hgL hL5⊢
   clear hgl
   have r0:=mx_cell (j:=0) hL5
   have r1:=mx_cell (j:=1) hL5
   have r2:=mx_cell (j:=2) hL5
   have r3:=mx_cell (j:=3) hL5
   have r4:=mx_cell (j:=4) hL5
   have f0:=free_at (j:=0) hL5
   have f1:=free_at (j:=1) hL5
   have f2:=free_at (j:=2) hL5
   have f3:=free_at (j:=3) hL5
   have f4:=free_at (j:=4) hL5
   obtain⟨wy,hwy,hby,hky⟩:=five_setR hL5 (.bool a2) (.int .i64 b2) (.int .i64 c2) (.int .i64 d2) (.int .i64 e2)
   have hSy:=hS5.trans (hky.below (fun i e=>by rw[e];exact hgL) hS5.size)
   refine ready1 12 (fun KK hKK=>?_)
   go_simp
   try rw[hwy]
   refine hKK.out _ _ hSy (fun _=>?_)
   clear hKK
   refine takeE 13 14 ?_
   refine takeE 14 15 ?_
   refine wpAnyH_done (by kernel_rfl) ?_ _
   go_wp2_with fail
   go_meet
   exact⟨gL,rfl,rfl,rfl,Lib.hid hby,Lib.hid hgL,Lib.hid hSy⟩
 ·go_simp
  obtain⟨x1,hw1,hb1,hL0,-⟩:=al_new x0 #[.bool false,.int .i64 0,.int .i64 0,.int .i64 0,.int .i64 0] 50
  rw[hw1]
  have hS1:=hS0.trans (hb1.mono hS0.size)
  have hL1:=hL0
  have hgL:P.heap.size≤x0.heap.size:=hS0.size
  refine hKK.out _ _ hS1 (fun _=>?_)
  clear hKK
  refine wpAnyH_ready (rs:= [2,4]) (by kernel_rfl) (by simp) (AllReadyH.cons rfl (fun KK hKK=>?_) (AllReadyH.cons rfl (fun KK hKK=>?_) AllReadyH.nil))
  ·go_simp
   refine(clone_st _ K x1 (HSM.out.below hS1) (Nat.le_trans hKle.out (by decide))).mono ?_
   rintro e x2 ⟨vC,rfl,hC0,hb2⟩
   rw[HKL.out]at hC0
   obtain⟨Ac,cc,rfl,_⟩:=mx_slice hC0
   have hS2:=hS1.trans (hb2.mono hS1.size)
   have hL2:=(hb2.block _ (heap_lt hL1)).trans hL1
   have hC2:=own_mono hC0 hS1.size
   refine hKK.out _ _ hS2 (fun _=>?_)
   clear hKK
   refine ready1 4 (fun KK hKK=>?_)
   go_simp
   obtain⟨x3,hw3,hb3,hB0,-⟩:=al_new x2 #[.bool false,.int .i64 n,.slice (some ⟨w4.heap.size,0,none⟩) 1 1,.slice (some ⟨w4.heap.size+1,0,none⟩) 1 1] 39
   rw[hw3]
   have hS3:=hS2.trans (hb3.mono hS2.size)
   have hC3:=own_below hC2 hb3
   have hL3:=(hb3.block _ (heap_lt hL2)).trans hL2
   have hB3:=hB0
   have hgB:P.heap.size≤x2.heap.size:=hS2.size
   refine hKK.out _ _ hS3 (fun _=>?_)
   clear hKK
   refine ready1 5 (fun KK hKK=>?_)
   rw[if_pos (by rfl)]
   refine wp_append_at 51 (by rfl) _ _ 47 rfl P.heap.size 39 si (.agg #[.bool false,.int .i64 0,.slice none 0 0,.slice none 0 0]) 4 64 Tryz.underlying47 hsi sz0 sz1 sz2 rfl (by decide) _ ss.length _ (by rfl) hC3 ⟨x2.heap.size,0,none⟩ 1 1 [.bool false,.int .i64 n,.slice (some ⟨w4.heap.size,0,none⟩) 1 1,.slice (some ⟨w4.heap.size+1,0,none⟩) 1 1] (by rfl) rfl (cells_of_blk hB3) (by simp[Value.oneCell']) (by unfold maxLen;omega) (by omega) hS3.size ?_
   intro v' x4 hA4 hgrow _
   obtain⟨Av,kv,rfl,_⟩:=mx_slice hA4
   have hS4:=hS3.grown hgrow hS3.size (fun g e=>(own_lt hC3 g e).1)
   have hL4:=(hgrow.block _ (heap_lt hL3) (fun e=>mx_not hC3 hL3 (by decide) e.symm)).trans hL3
   refine hKK.out _ _ hS4 (fun _=>?_)
   clear hKK
   simp only[Act.put,List.setIfInBounds_toArray,List.set_cons_zero,List.set_cons_succ]
   refine ready1 6 (fun KK hKK=>?_)
   go_simp
   refine(HCKO.out x4 _ _ hS4 hA4).mono ?_
   rintro e x5 ⟨rfl,hb5⟩
   have hS5:=hS4.trans (hb5.mono hS4.size)
   have hL5:=(hb5.block _ (heap_lt hL4)).trans hL4
   refine hKK.out _ _ hS5 (fun _=>?_)
   clear hKK
   refine takeE 7 45 ?_
   refine takeE 8 53 ?_
   refine takeE 9 54 ?_
   refine takeE 10 55 ?_
   obtain⟨gL,hgl⟩: ∃g,x0.heap.size=g:=⟨_,rfl⟩
   rw[hgl]at hgL hL5⊢
   clear hgl
   have r0:=mx_cell (j:=0) hL5
   have r1:=mx_cell (j:=1) hL5
   have r2:=mx_cell (j:=2) hL5
   have r3:=mx_cell (j:=3) hL5
   have r4:=mx_cell (j:=4) hL5
   have f0:=free_at (j:=0) hL5
   have f1:=free_at (j:=1) hL5
   have f2:=free_at (j:=2) hL5
   have f3:=free_at (j:=3) hL5
   have f4:=free_at (j:=4) hL5
   obtain⟨wy,hwy,hby,hky⟩:=five_setR hL5 (.bool a2) (.int .i64 b2) (.int .i64 c2) (.int .i64 d2) (.int .i64 e2)
   have hSy:=hS5.trans (hky.below (fun i e=>by rw[e];exact hgL) hS5.size)
   refine ready1 12 (fun KK hKK=>?_)
   go_simp
   try rw[hwy]
   refine hKK.out _ _ hSy (fun _=>?_)
   clear hKK
   refine takeE 13 14 ?_
   refine takeE 14 15 ?_
   refine wpAnyH_done (by kernel_rfl) ?_ _
   go_wp2_with fail
   go_meet
   exact⟨gL,rfl,rfl,rfl,Lib.hid hby,Lib.hid hgL,Lib.hid hSy⟩
  ·go_simp
   obtain⟨x2,hw2,hb2,hB0,-⟩:=al_new x1 #[.bool false,.int .i64 n,.slice (some ⟨w4.heap.size,0,none⟩) 1 1,.slice (some ⟨w4.heap.size+1,0,none⟩) 1 1] 39
   rw[hw2]
   have hS2:=hS1.trans (hb2.mono hS1.size)
   have hL2:=(hb2.block _ (heap_lt hL1)).trans hL1
   have hB2:=hB0
   have hgB:P.heap.size≤x1.heap.size:=hS1.size
   refine hKK.out _ _ hS2 (fun _=>?_)
   clear hKK
   refine ready1 2 (fun KK hKK=>?_)
   go_simp
   refine(clone_st _ K x2 (HSM.out.below hS2) (Nat.le_trans hKle.out (by decide))).mono ?_
   rintro e x3 ⟨vC,rfl,hC0,hb3⟩
   rw[HKL.out]at hC0
   obtain⟨Ac,cc,rfl,_⟩:=mx_slice hC0
   have hS3:=hS2.trans (hb3.mono hS2.size)
   have hB3:=(hb3.block _ (heap_lt hB2)).trans hB2
   have hL3:=(hb3.block _ (heap_lt hL2)).trans hL2
   have hC3:=own_mono hC0 hS2.size
   refine hKK.out _ _ hS3 (fun _=>?_)
   clear hKK
   refine ready1 5 (fun KK hKK=>?_)
   rw[if_pos (by rfl)]
   refine wp_append_at 51 (by rfl) _ _ 47 rfl P.heap.size 39 si (.agg #[.bool false,.int .i64 0,.slice none 0 0,.slice none 0 0]) 4 64 Tryz.underlying47 hsi sz0 sz1 sz2 rfl (by decide) _ ss.length _ (by rfl) hC3 ⟨x1.heap.size,0,none⟩ 1 1 [.bool false,.int .i64 n,.slice (some ⟨w4.heap.size,0,none⟩) 1 1,.slice (some ⟨w4.heap.size+1,0,none⟩) 1 1] (by rfl) rfl (cells_of_blk hB3) (by simp[Value.oneCell']) (by unfold maxLen;omega) (by omega) hS3.size ?_
   intro v' x4 hA4 hgrow _
   obtain⟨Av,kv,rfl,_⟩:=mx_slice hA4
   have hS4:=hS3.grown hgrow hS3.size (fun g e=>(own_lt hC3 g e).1)
   have hL4:=(hgrow.block _ (heap_lt hL3) (fun e=>mx_not hC3 hL3 (by decide) e.symm)).trans hL3
   refine hKK.out _ _ hS4 (fun _=>?_)
   clear hKK
   simp only[Act.put,List.setIfInBounds_toArray,List.set_cons_zero,List.set_cons_succ]
   refine ready1 6 (fun KK hKK=>?_)
   go_simp
   refine(HCKO.out x4 _ _ hS4 hA4).mono ?_
   rintro e x5 ⟨rfl,hb5⟩
   have hS5:=hS4.trans (hb5.mono hS4.size)
   have hL5:=(hb5.block _ (heap_lt hL4)).trans hL4
   refine hKK.out _ _ hS5 (fun _=>?_)
   clear hKK
   refine takeE 7 45 ?_
   refine takeE 8 53 ?_
   refine takeE 9 54 ?_
   refine takeE 10 55 ?_
   obtain⟨gL,hgl⟩: ∃g,x0.heap.size=g:=⟨_,rfl⟩
   rw[hgl]at hgL hL5⊢
   clear hgl
   have r0:=mx_cell (j:=0) hL5
   have r1:=mx_cell (j:=1) hL5
   have r2:=mx_cell (j:=2) hL5
   have r3:=mx_cell (j:=3) hL5
   have r4:=mx_cell (j:=4) hL5
   have f0:=free_at (j:=0) hL5
   have f1:=free_at (j:=1) hL5
   have f2:=free_at (j:=2) hL5
   have f3:=free_at (j:=3) hL5
   have f4:=free_at (j:=4) hL5
   obtain⟨wy,hwy,hby,hky⟩:=five_setR hL5 (.bool a2) (.int .i64 b2) (.int .i64 c2) (.int .i64 d2) (.int .i64 e2)
   have hSy:=hS5.trans (hky.below (fun i e=>by rw[e];exact hgL) hS5.size)
   refine ready1 12 (fun KK hKK=>?_)
   go_simp
   try rw[hwy]
   refine hKK.out _ _ hSy (fun _=>?_)
   clear hKK
   refine takeE 13 14 ?_
   refine takeE 14 15 ?_
   refine wpAnyH_done (by kernel_rfl) ?_ _
   go_wp2_with fail
   go_meet
   exact⟨gL,rfl,rfl,rfl,Lib.hid hby,Lib.hid hgL,Lib.hid hSy⟩
end Go.Proofs.YtkfgplfllddhnaaGreat
