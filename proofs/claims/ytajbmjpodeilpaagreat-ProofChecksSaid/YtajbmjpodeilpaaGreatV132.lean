/- package salvorlaw10: checks: Check and Trim against the reference; what they return shares nothing. slices.ContainsFunc at steps; salvorlaw08.Few, salvorlaw10.few. salvorlaw10.few: its parts. -/
import Derived.Test.YtajbmjpodeilpaaGreatV130
import Derived.Test.YtajbmjpodeilpaaGreatV131
import Derived.Test.YtajbmjpodeilpaaGreatV128
import Derived.Test.YtajbmjpodeilpaaGreatV123
import Derived.Test.YtajbmjpodeilpaaGreatV107
import Derived.Test.YtajbmjpodeilpaaGreatV102
namespace Go.Proofs.YtajbmjpodeilpaaGreat
open Go.RowKit
theorem StMem.at {B:Nat} {w:World} {A:Option Addr} {n c:Nat} {K:List StV} (h:StMem B w (.slice A n c) K) {i:Nat} {x:StV} (hx:K[i]? =some x): ∃g,A=some ⟨g,0,none⟩∧g<w.heap.size∧w.cell? ⟨g,i*4,none⟩=some (.bool x.1.del)∧w.cell? ⟨g,i*4+1,none⟩=some (.int .i64 x.1.id)∧w.cell? ⟨g,i*4+2,none⟩=some (Value.slice x.2.1.1 x.1.lits.length x.2.1.2)∧w.cell? ⟨g,i*4+3,none⟩=some (Value.slice x.2.2.1 x.1.hints.length x.2.2.2):=by
 have hrow:=h.row
 obtain⟨e0,e1,e2,e3⟩:=stcell_at K i x hx
 have hil:=(List.getElem?_eq_some_iff.1 hx).1
 rcases hrow.2 with⟨h0,h1⟩|⟨g,cap,cur,hv,hb,hg,hle,_⟩
 ·omega
 ·simp only[Value.slice.injEq]at hv
  obtain⟨rfl,rfl,rfl⟩:=hv
  exact⟨g,rfl,heap_lt hg,mx_at hrow e0,mx_at hrow e1,mx_at hrow e2,mx_at hrow e3⟩
set_option maxRecDepth 100000 in
set_option maxHeartbeats 16000000 in
theorem checks_any {O O':Nat→Prop} (vn:Int) (u v:Value) (cs:List (List Int)) (ss:List EStep) (w:World) (h:ClsIn O w u cs) (h':StepIn O' w v ss) (hl:cs.length≤1000) (hcl: ∀c∈cs,c.length≤1000) (hsl:ss.length≤1000) (hss: ∀s∈ss,s.lits.length≤1000∧s.hints.length≤1000∧∀x∈s.hints,-9223372036854775808≤x∧x≤9223372036854775807):
  Calls Tryz.prog 6 #[.agg #[.int .i64 vn,u],v] w fun e w'=>e= .returned (.bool true)∧Below w.heap.size w w':=by
 obtain⟨W1,hW1,hb1,hx1,hz1⟩:=al_new w #[.int .i64 vn,u] 24
 have hlt1:=heap_lt hx1
 have HB1:=Lib.hid hb1
 have HCI:=Lib.hid (fun(X:World) (hX:Below W1.heap.size W1 X)=>(h.below hb1).below hX)
 have HSI:=Lib.hid (fun(X:World) (hX:Below W1.heap.size W1 X)=>(h'.below hb1).below hX)
 have HTH:=Lib.hid (fun(X:World) (hX:Below W1.heap.size W1 X)=>theirs_05 vn u cs X (HCI.out X hX) (by omega) (fun c hc=>by have:=hcl c hc;omega))
 have HT7:=Lib.hid (fun(X:World) (hX:Below W1.heap.size W1 X)=>theirs_07 v ss X (HSI.out X hX) (by omega) (fun s hs=>by have:=hss s hs;omega))
 have HCA:=Lib.hid (fun(X:World) (hX:Below W1.heap.size W1 X)=>check_all vn u v cs ss X (HCI.out X hX) (HSI.out X hX) hl hcl hsl (fun s hs=>⟨(hss s hs).1,(hss s hs).2.1⟩))
 have HTA:=Lib.hid (fun(X:World) (hX:Below W1.heap.size W1 X)=>trim_all vn u v cs ss X (HCI.out X hX) (HSI.out X hX) hl hcl hsl (fun s hs=>⟨(hss s hs).1,(hss s hs).2.1⟩))
 have HRC:=Lib.hid (fun(O1 O2:Nat→Prop) (xv sv:Value) (X:World) (h1:ClsIn O1 X xv cs) (h2:StepIn O2 X sv ss)=>ref_check10 vn xv sv cs ss X h1 h2 hl hcl hsl hss)
 have HRT:=Lib.hid (fun(O1 O2:Nat→Prop) (xv sv:Value) (X:World) (h1:ClsIn O1 X xv cs) (h2:StepIn O2 X sv ss)=>ref_trim10 vn xv sv cs ss X h1 h2 hl hcl hsl hss)
 have HCL:=Lib.hid hcl
 have HLE:=Lib.hid (TR_lens vn cs (ss:=ss) (fun s hs=>⟨(hss s hs).1,(hss s hs).2.1⟩))
 have HES:=Lib.hid (show∀s∈ss,s.lits.length≤1000000∧s.hints.length≤1000000 from fun s hs=>by have:=hss s hs;omega)
 obtain⟨ra,rb,rc,rd,re,rn,rE,hrc,_⟩:=rc_agg vn cs ss
 rw[hrc]at HCA HRC
 obtain⟨Af,cf,rfl,hcf,_⟩:=h
 obtain⟨As,cS,rfl,hcS,_⟩:=h'
 have c0:=mx_cell (j:=0) hx1
 have c1:=mx_cell (j:=1) hx1
 have C0:=Lib.hid c0
 have C1:=Lib.hid c1
 have HW1:=Lib.hid hW1
 clear hcl hss hb1 hx1 hW1 hrc
 go_enter Tryz.func6,Tryz.ntmps6
 go_upto_region 1 with fail
 rw[HW1.out]
 go_wp2_with fail
 refine(HTH.out W1 (Below.refl _ _)).mono ?_
 rintro e w2 ⟨xv,rfl,hxo,hb2⟩
 obtain⟨Ax,cx,rfl,_⟩: ∃A c,xv= .slice A cs.length c∧cs.length≤c:=by
  obtain⟨us,q,_⟩:=hxo
  exact mx_slice q
 have HB2:=Lib.hid hb2
 have HXO:=Lib.hid hxo
 have HS7:=Lib.hid (HT7.out w2 hb2)
 clear hb2 hxo HTH HT7 c0 c1
 go_wp2_with fail
 refine HS7.out.mono ?_
 rintro e w3 ⟨sv,K,rfl,hK,hKm,hb3⟩
 have hkn:K.length=ss.length:=by rw[←hKm,List.length_map]
 obtain⟨As2,c2,rfl,_⟩:=mx_slice hK.row
 rw[hkn]at hK⊢
 obtain⟨W4,hW4,hb4,hx4,hz4⟩:=al_new w3 #[.int .i64 vn,.slice Ax cs.length cx] 38
 have hb24:=hb3.trans (hb4.mono hb3.size)
 have HB4:=Lib.hid (HB2.out.trans (hb24.mono HB2.out.size))
 have HXC4:=Lib.hid (HXO.out.clsIn.below hb24)
 have HST4:=Lib.hid (show StepIn (fun g=>w2.heap.size≤g) W4 (.slice As2 ss.length c2) ss from by
  have:=hK.stepIn.below hb4
  rwa [hKm]at this)
 have HW4:=Lib.hid hW4
 have HX4:=Lib.hid hx4
 clear hK hKm hb3 hb4 hx4 hW4 hb24 hkn HS7 HXO
 go_upto_region 2 with fail
 rw[HW4.out]
 obtain⟨p5,hp5⟩: ∃p,w3.heap.size=p:=⟨_,rfl⟩
 rw[hp5]at HX4⊢
 have c0:=(HB4.out.cell (p:=⟨w.heap.size,0,none⟩) hlt1).trans C0.out
 have c1:=(HB4.out.cell (p:=⟨w.heap.size,1,none⟩) hlt1).trans C1.out
 have HC4:=Lib.hid (HCA.out W4 HB4.out)
 clear hp5 hz4 HCA
 go_wp2_with fail
 refine HC4.out.mono ?_
 rintro e w5 ⟨rfl,hb5⟩
 obtain⟨W6,hW6,hb6,hx6,hz6⟩:=al_new w5 #[.bool ra,.int .i64 rb,.int .i64 rc,.int .i64 rd,.int .i64 re] 43
 have hb46:=hb5.trans (hb6.mono hb5.size)
 have HB46:=Lib.hid hb46
 have HX6:=Lib.hid hx6
 have HW6:=Lib.hid hW6
 have HR6:=Lib.hid (HRC.out _ _ _ _ W6 (HXC4.out.below hb46) (HST4.out.below hb46))
 clear hb5 hb6 hx6 hW6 hb46 c0 c1 HC4 HRC
 go_upto_region 3 with fail
 rw[HW6.out]
 obtain⟨p7,hp7⟩: ∃p,w5.heap.size=p:=⟨_,rfl⟩
 rw[hp7]at HX6⊢
 have d0:=(HB46.out.cell (p:=⟨p5,0,none⟩) (heap_lt HX4.out)).trans (mx_cell (j:=0) HX4.out)
 have d1:=(HB46.out.cell (p:=⟨p5,1,none⟩) (heap_lt HX4.out)).trans (mx_cell (j:=1) HX4.out)
 clear hp7 hz6
 go_wp2_with fail
 refine HR6.out.mono ?_
 rintro e w7 ⟨rfl,hb7⟩
 obtain⟨W8,hW8,hb8,hx8,hz8⟩:=al_new w7 #[.bool ra,.int .i64 rb,.int .i64 rc,.int .i64 rd,.int .i64 re] 47
 have hb68:=hb7.trans (hb8.mono hb7.size)
 have HB48:=Lib.hid (HB46.out.trans (hb68.mono HB46.out.size))
 have HB8:=Lib.hid (HB4.out.trans (HB48.out.mono HB4.out.size))
 have HW8:=Lib.hid hW8
 have x6:=(hb68.block _ (heap_lt HX6.out)).trans HX6.out
 have y0:=mx_cell (j:=0) x6
 have y1:=mx_cell (j:=1) x6
 have y2:=mx_cell (j:=2) x6
 have y3:=mx_cell (j:=3) x6
 have y4:=mx_cell (j:=4) x6
 have z0:=mx_cell (j:=0) hx8
 have z1:=mx_cell (j:=1) hx8
 have z2:=mx_cell (j:=2) hx8
 have z3:=mx_cell (j:=3) hx8
 have z4:=mx_cell (j:=4) hx8
 have q1:((rn:Int) != (rn:Int))=false:=by simp
 have q2:((rE:Int) != (rE:Int))=false:=by simp
 have HX48:=Lib.hid ((HB48.out.block _ (heap_lt HX4.out)).trans HX4.out)
 have HXC8:=Lib.hid (HXC4.out.below HB48.out)
 have HST8:=Lib.hid (HST4.out.below HB48.out)
 have HT8:=Lib.hid (HTA.out W8 HB8.out)
 clear hb7 hb8 hx8 hW8 hb68 x6 d0 d1 HR6 HTA HX4 HX6 HXC4 HST4 hz8
 go_upto_region 4 with fail
 rw[HW8.out]
 have c0:=(HB8.out.cell (p:=⟨w.heap.size,0,none⟩) hlt1).trans C0.out
 have c1:=(HB8.out.cell (p:=⟨w.heap.size,1,none⟩) hlt1).trans C1.out
 go_wp2_with fail
 refine HT8.out.mono ?_
 rintro e w9 ⟨⟨gv,G,rfl,hGm,hG⟩,hb9⟩
 obtain⟨Ag,cg,rfl,_⟩:=mx_slice hG.row
 obtain⟨R,hR⟩: ∃R,TR vn cs ss=R:=⟨_,rfl⟩
 have HR9:=Lib.hid ((HRT.out _ _ _ _ w9 (HXC8.out.below hb9) (HST8.out.below hb9)).mono (fun e w' h=>(⟨h.1.tr,h.2⟩:_∧_)))
 rw[hR]at HR9 HLE hGm⊢
 have HB89:=Lib.hid hb9
 have HG:=Lib.hid hG
 have HGM:=Lib.hid hGm
 have d0:=(hb9.cell (p:=⟨p5,0,none⟩) (heap_lt HX48.out)).trans (mx_cell (j:=0) HX48.out)
 have d1:=(hb9.cell (p:=⟨p5,1,none⟩) (heap_lt HX48.out)).trans (mx_cell (j:=1) HX48.out)
 clear hG hGm hb9 y0 y1 y2 y3 y4 z0 z1 z2 z3 z4 q1 q2 c0 c1 HT8 HRT hR
 go_wp2_with fail
 refine HR9.out.mono ?_
 rintro e w10 ⟨⟨gv2,rfl,hg2⟩,hb10⟩
 have HG10:=Lib.hid (HG.out.below hb10)
 have HB810:=Lib.hid (HB89.out.trans (hb10.mono HB89.out.size))
 obtain⟨ri,hri⟩: ∃ri,R.2.1=ri:=⟨_,rfl⟩
 obtain⟨rx,hrx⟩: ∃rx,R.2.2=rx:=⟨_,rfl⟩
 rw[hri,hrx]
 have q1:(ri != ri)=false:=by simp
 have q2:((rx:Int) != (rx:Int))=false:=by simp
 have HE10:=Lib.hid (eq7_any _ _ R.1 w10 (by have:=HG10.out.stepIn;rwa [HGM.out]at this) hg2 (by have:=HLE.out.1;omega) (fun s hs=>by have:=HLE.out.2 s hs;omega))
 obtain⟨A2,cc2,rfl,_⟩:=id hg2
 obtain⟨m,hm⟩: ∃m,G.length=m:=⟨_,rfl⟩
 have hm2:m≤1000:=by
  have:=HLE.out.1
  rw[←HGM.out,List.length_map]at this
  omega
 rw[hm]at HG10 HE10⊢
 have HM:=Lib.hid hm
 clear hg2 hb10 hri hrx d0 d1 HR9 HG hm
 go_wp2_with fail
 refine HE10.out.mono ?_
 rintro e w11 ⟨rfl,hb11⟩
 have HG11:=Lib.hid (HG10.out.below hb11)
 have HB811:=Lib.hid (HB810.out.trans (hb11.mono HB810.out.size))
 have HRL:=Lib.hid (HG11.out.rowsLow)
 have HAP:=Lib.hid (HG11.out.apart)
 have HWR:=Lib.hid HG11.out.wri
 have hz811:=HB811.out.size
 clear hb11 HE10 HG10
 obtain⟨wT,rfl⟩: ∃x:World,x=w11:=⟨_,rfl⟩
 go_wp2_with fail
 clear q1 q2
 go_loopw [82] (fun iv wr=> ∃i:Nat,i≤m∧iv= .int .i64 i∧Hid (Kept (RowsOf G) wT wr)∧Hid (WriS wr G)) (fun iv _=>m-(intOf iv).toNat)
 case atStart=>exact⟨0,Nat.zero_le _,rfl,Lib.hid (Kept.refl _ _),HWR⟩
 case round=>
  obtain⟨i,hi,rfl,HK,HWS⟩:=hrel
  have hzr:=HK.out.size
  by_cases hlt:i<m
  ·obtain⟨x,hx⟩: ∃x,G[i]? =some x:=⟨_,List.getElem?_eq_getElem (by rw[HM.out];exact hlt)⟩
   have hxm:=List.mem_of_getElem? hx
   obtain⟨gO,rfl,hgO,k0,k1,k2,k3⟩:=HG11.out.at hx
   have hnO: ¬RowsOf G gO:=HAP.out gO rfl
   have k0:=(HK.out.cell (p:=⟨gO,i*4,none⟩) hgO hnO).trans k0
   have k1:=(HK.out.cell (p:=⟨gO,i*4+1,none⟩) hgO hnO).trans k1
   have k2:=(HK.out.cell (p:=⟨gO,i*4+2,none⟩) hgO hnO).trans k2
   have k3:=(HK.out.cell (p:=⟨gO,i*4+3,none⟩) hgO hnO).trans k3
   have hol:=HG11.out.lit x hxm
   have hoh:=HG11.out.hnt x hxm
   have hR1: ∀g,(Value.slice x.2.1.1 x.1.lits.length x.2.1.2).ownBlock=some g→RowsOf G g:=fun g hg=>⟨x,hxm,.inl hg⟩
   have hR2: ∀g,(Value.slice x.2.2.1 x.1.hints.length x.2.2.2).ownBlock=some g→RowsOf G g:=fun g hg=>⟨x,hxm,.inr hg⟩
   have hW1: ∀(X:World),WriS X G→∀g,(Value.slice x.2.1.1 x.1.lits.length x.2.1.2).ownBlock=some g→WriA X g x.1.lits.length:=fun X hX g hg=>hX.lit x hxm g hg
   have hW2: ∀(X:World),WriS X G→∀g,(Value.slice x.2.2.1 x.1.hints.length x.2.2.2).ownBlock=some g→WriA X g x.1.hints.length:=fun X hX g hg=>hX.hnt x hxm g hg
   obtain⟨hll,hhl⟩:x.1.lits.length≤1000∧x.1.hints.length≤1000:=HLE.out.2 x.1 (by rw[←HGM.out];exact List.mem_map_of_mem hxm)
   obtain⟨⟨xd,xi,xl,xh⟩,⟨xA,xc⟩,⟨yA,yc⟩⟩:=x
   simp only at k0 k1 k2 k3 hol hoh hR1 hR2 hW1 hW2 hll hhl
   obtain⟨L1,hL1⟩: ∃L,xl.length=L:=⟨_,rfl⟩
   obtain⟨L2,hL2⟩: ∃L,xh.length=L:=⟨_,rfl⟩
   rw[hL1]at k2 hol hR1 hW1 hll
   rw[hL2]at k3 hoh hR2 hW2 hhl
   have HOL:=Lib.hid hol
   have HOH:=Lib.hid hoh
   have HR1:=Lib.hid hR1
   have HR2:=Lib.hid hR2
   have HW1:=Lib.hid hW1
   have HW2:=Lib.hid hW2
   obtain⟨Wb,hWb,hbb,hxb,hzb⟩:=al_new wr #[.bool xd,.int .i64 xi,.slice xA L1 xc,.slice yA L2 yc] 34
   have HKb:=Lib.hid (HK.out.trans (Kept.of_below (O:=RowsOf G) hbb) (fun _ _ h=>h))
   have HWb:=Lib.hid hWb
   have HWS2:=Lib.hid (HWS.out.below hbb)
   have HXB:=Lib.hid hxb
   have hnb: ¬RowsOf G wr.heap.size:=fun hr=>by have:=HRL.out _ hr;omega
   have hltb:=heap_lt hxb
   clear hx hxm hol hoh hR1 hR2 hW1 hW2 hWb hbb hL1 hL2 hnO HK HWS
   go_upto_region 13 with fail
   rw[HWb.out]
   obtain⟨p18,hp18⟩: ∃p,wr.heap.size=p:=⟨_,rfl⟩
   rw[hp18]at hxb HXB hnb hltb⊢
   have b2:=mx_cell (j:=2) hxb
   clear k0 k1 k2 k3 hxb hp18
   obtain⟨wq,rfl⟩: ∃x:World,x=wr:=⟨_,rfl⟩
   go_wp2_with fail
   clear b2
   go_loopw [89] (fun kv wr=> ∃q:Nat,q≤L1∧kv= .int .i64 q∧Hid (Kept (RowsOf G) Wb wr)∧Hid (WriS wr G)) (fun kv _=>L1-(intOf kv).toNat)
   case atStart=>exact⟨0,Nat.zero_le _,rfl,Lib.hid (Kept.refl _ _),HWS2⟩
   case round=>
    obtain⟨q,hq,rfl,HKQ,HWQ⟩:=hrel
    have hx18:=(HKQ.out.block p18 hltb hnb).trans HXB.out
    by_cases hql:q<L1
    ·obtain⟨gB,ccB,csB,hvB,_⟩:=mx_some HOL.out (by omega)
     simp only[Value.slice.injEq]at hvB
     obtain⟨rfl,-,rfl⟩:=hvB
     obtain⟨⟨vv,z0⟩,f0⟩:=(HW1.out wr HWQ.out gB rfl).cell hql
     have b2:=mx_cell (j:=2) hx18
     have HKN:=Lib.hid (HKQ.out.setCell ⟨gB,q,none⟩ (.int .i64 99) (HR1.out gB rfl))
     have HWN:=Lib.hid (HWQ.out.set gB q (.int .i64 99))
     have hqd':(q:Int)<(L1:Int):=by omega
     clear hx18
     go_wp2_with fail
     go_roundw
     case rel=>exact⟨q+1,by omega,by go_num,HKN,HWN⟩
     case measure=>simp[intOf];omega
    ·obtain rfl:q=L1:=by omega
     have b3:=mx_cell (j:=3) hx18
     obtain⟨wp,rfl⟩: ∃x:World,x=wr:=⟨_,rfl⟩
     clear hx18
     go_wp2_with fail
     clear b3
     go_loopw [100] (fun kv wr=> ∃q:Nat,q≤L2∧kv= .int .i64 q∧Hid (Kept (RowsOf G) Wb wr)∧Hid (WriS wr G)) (fun kv _=>L2-(intOf kv).toNat)
     case atStart=>exact⟨0,Nat.zero_le _,rfl,HKQ,HWQ⟩
     case round=>
      obtain⟨q,hq,rfl,HKQ,HWQ⟩:=hrel
      have hx18:=(HKQ.out.block p18 hltb hnb).trans HXB.out
      by_cases hql:q<L2
      ·obtain⟨gB,ccB,csB,hvB,_⟩:=mx_some HOH.out (by omega)
       simp only[Value.slice.injEq]at hvB
       obtain⟨rfl,-,rfl⟩:=hvB
       obtain⟨⟨vv,z0⟩,f0⟩:=(HW2.out wr HWQ.out gB rfl).cell hql
       have b3:=mx_cell (j:=3) hx18
       have HKN:=Lib.hid (HKQ.out.setCell ⟨gB,q,none⟩ (.int .i64 99) (HR2.out gB rfl))
       have HWN:=Lib.hid (HWQ.out.set gB q (.int .i64 99))
       have hqd':(q:Int)<(L2:Int):=by omega
       clear hx18
       go_wp2_with fail
       go_roundw
       case rel=>exact⟨q+1,by omega,by go_num,HKN,HWN⟩
       case measure=>simp[intOf];omega
      ·obtain rfl:q=L2:=by omega
       have HKE:=Lib.hid (HKb.out.trans HKQ.out (fun _ _ h=>h))
       clear hx18
       go_wp2_with fail
       go_roundw
       case rel=>exact⟨i+1,by omega,by go_num,HKE,HWQ⟩
       case measure=>simp[intOf];omega
  ·obtain rfl:i=m:=by omega
   have HBE:=Lib.hid (HB811.out.trans (HK.out.below (B:=W8.heap.size) (fun g hg=>(HRL.out g hg).1) hz811))
   have HBW:=Lib.hid (HB8.out.trans (HBE.out.mono HB8.out.size))
   have HEA:=Lib.hid (eq7_any _ _ ss wr (HSI.out wr HBW.out) (HST8.out.below HBE.out) (by omega) HES.out)
   clear HK HWS
   go_wp2_with fail
   refine HEA.out.mono ?_
   rintro e w12 ⟨rfl,hb12⟩
   have HBF:=Lib.hid (HBE.out.trans (hb12.mono HBE.out.size))
   have HBX:=Lib.hid (HB8.out.trans (HBF.out.mono HB8.out.size))
   have HEB:=Lib.hid (equal_05 vn _ _ cs w12 (HCI.out w12 HBX.out) (HXC8.out.below HBF.out) (by omega) (fun c hc=>by have:=HCL.out c hc;omega))
   have c0:=(HBX.out.cell (p:=⟨w.heap.size,0,none⟩) hlt1).trans C0.out
   have c1:=(HBX.out.cell (p:=⟨w.heap.size,1,none⟩) hlt1).trans C1.out
   have d0:=(HBF.out.cell (p:=⟨p5,0,none⟩) (heap_lt HX48.out)).trans (mx_cell (j:=0) HX48.out)
   have d1:=(HBF.out.cell (p:=⟨p5,1,none⟩) (heap_lt HX48.out)).trans (mx_cell (j:=1) HX48.out)
   clear hb12 HEA
   go_wp2_with fail
   refine HEB.out.mono ?_
   rintro e w13 ⟨rfl,hb13⟩
   have HBL:=Lib.hid (HB1.out.trans ((HBX.out.trans (hb13.mono HBX.out.size)).mono HB1.out.size))
   clear hb13 c0 c1 d0 d1 HEB
   go_wp2_with fail
   go_ret
   exact⟨rfl,HBL.out⟩
end Go.Proofs.YtajbmjpodeilpaaGreat
namespace Go.Proofs.YtajbmjpodeilpaaGreat
open Go.RowKit
def TellsSO (O:Nat→Prop) (w:World) (F:Nat) (caps:Array Value) (ss:List EStep) (P:EStep→Bool):Prop:= ∀W,Below w.heap.size w W→∀ul uh s,s∈ss→IntsIn O W ul s.lits→IntsIn O W uh s.hints→Calls Tryz.prog F (#[.agg #[.bool s.del,.int .i64 s.id,ul,uh]]++caps) W fun e w'=>e= .returned (.bool (P s))∧Below W.heap.size W w'
set_option maxRecDepth 100000 in
set_option maxHeartbeats 1000000 in
theorem index_so {Oc:Nat→Prop} (F:Nat) (caps:Array Value) (u:Value) (xs:List EStep) (P:EStep→Bool) (w:World) (heg: ∀args w,(callFunc F args).run Tryz.prog w= .ok (.enter F args) w) (h1:StepIn Oc w u xs) (hs:xs.length≤140737488355328) (hF:TellsSO Oc w F caps xs P):
  Calls Tryz.prog 34 #[u,.func (.func F) #[] caps] w fun e w'=>(∃i:Int,e= .returned (.int .i64 i)∧FstI xs P i)∧Below w.heap.size w w':=by
 have HONE:=Lib.hid hF
 have HX:=Lib.hid h1
 obtain⟨A,c,rfl,hc,_,_⟩:=h1
 clear hF
 go_enter Tryz.func34,Tryz.ntmps34
 go_wp2
 go_loopw [8] (fun i wr=> ∃k:Nat,k≤xs.length∧i= .int .i64 k∧Hid (∀j x,j<k→xs[j]? =some x→P x=false)∧Hid (Below w.heap.size w wr)) (fun i _=>xs.length-(intOf i).toNat)
 case atStart=>exact⟨0,Nat.zero_le _,rfl,Lib.hid (fun j x hj=>by omega),Lib.hid (Below.refl _ _)⟩
 case round=>
  obtain⟨k,hk,rfl,HE,HW⟩:=hrel
  by_cases hlt:k<xs.length
  ·obtain⟨x,hxk⟩:=getElem_of hlt
   obtain⟨A',c',hAc,_,_,hxs⟩:=HX.out.below HW.out
   simp only[Value.slice.injEq,true_and]at hAc
   obtain⟨rfl,rfl⟩:=hAc
   obtain⟨g,o,ul,uh,rfl,hg,_,d0,d1,d2,d3,hul,huh⟩:=hxs k x hxk
   have HXK:=Lib.hid hxk
   have hC:=HONE.out wr HW.out ul uh x (List.mem_of_getElem? hxk) hul huh
   obtain⟨b,hb⟩: ∃b,P x=b:=⟨_,rfl⟩
   rw[hb]at hC
   have HB:=Lib.hid hb
   have HC:=Lib.hid hC
   obtain⟨Au,cu,rfl,_⟩:=hul
   obtain⟨Av,cv,rfl,_⟩:=huh
   clear hxk hxs hb hC
   go_wp2_with fail
   refine HC.out.mono ?_
   rintro e w' ⟨rfl,hbw⟩
   have HB2:=Lib.hid (HW.out.trans (hbw.mono HW.out.size))
   clear hbw d0 d1 d2 d3
   cases b with
   | true=>
    go_wp2_with fail
    go_ret
    exact⟨⟨_,rfl,.inr ⟨k,rfl,hlt,HE.out,x,HXK.out,HB.out⟩⟩,HB2.out⟩
   | false=>
    go_wp2_with fail
    go_roundw
    case rel=>exact⟨k+1,by omega,by go_num,Lib.hid (FstI.step HE.out HXK.out HB.out),HB2⟩
    case measure=>simp[intOf];omega
  ·obtain rfl:k=xs.length:=by omega
   go_wp2
   go_ret
   exact⟨⟨_,rfl,FstI.none HE.out⟩,HW.out⟩
set_option maxHeartbeats 400000 in
theorem contains_so {Oc:Nat→Prop} (F:Nat) (caps:Array Value) (u:Value) (xs:List EStep) (P:EStep→Bool) (w:World) (heg: ∀args w,(callFunc F args).run Tryz.prog w= .ok (.enter F args) w) (h1:StepIn Oc w u xs) (hs:xs.length≤140737488355328) (hF:TellsSO Oc w F caps xs P):
  Calls Tryz.prog 10 #[u,.func (.func F) #[] caps] w fun e w'=>e= .returned (.bool (xs.any P))∧Below w.heap.size w w':=by
 have H0:=index_so F caps u xs P w heg h1 hs hF
 obtain⟨z,hz⟩: ∃z,xs.any P=z:=⟨_,rfl⟩
 rw[hz]
 have HZ:=Lib.hid hz
 have H:=Lib.hid H0
 clear H0 hz hF
 go_enter Tryz.func10,Tryz.ntmps10
 go_wp2_with fail
 refine H.out.mono ?_
 rintro e w' ⟨⟨i,rfl,hi⟩,hb⟩
 have HI:=Lib.hid (show decide (0≤i)=z from by rw[hi.any];exact HZ.out)
 have HB:=Lib.hid hb
 clear hi hb
 go_wp2_with fail
 go_ret
 exact⟨ret_bool HI.out,HB.out⟩
def fewO (cs:List (List Int)) (n m:Int):Bool:=decide ((cs.length:Int)≤n)&& !cs.any fun c=>decide (m<(c.length:Int))
def fewC (m:Int) (c:List Int):Bool:=decide (m<(c.length:Int))
set_option maxHeartbeats 400000 in
theorem few_one8 {O:Nat→Prop} (u:Value) (xs:List Int) (m:Int) (b:Nat) (w:World) (h:IntsIn O w u xs) (hb:w.cell? ⟨b,0,none⟩=some (.int .i64 m)):
  Calls Tryz.prog 33 #[u,.pointer (some ⟨b,0,none⟩)] w fun e w'=>e= .returned (.bool (fewC m xs))∧Below w.heap.size w w':=by
 unfold fewC
 obtain⟨A,c,rfl,_⟩:=h
 obtain⟨q,hq⟩: ∃q,decide (m<(xs.length:Int))=q:=⟨_,rfl⟩
 rw[hq]
 go_enter Tryz.func33,Tryz.ntmps33
 go_wp2_with fail
 go_ret
 exact⟨rfl,Below.refl _ _⟩
set_option maxHeartbeats 1000000 in
theorem few_08 {O:Nat→Prop} (u:Value) (cs:List (List Int)) (n m:Int) (w:World) (h1:ClsIn O w u cs) (hs:n≤1000000):
  Calls Tryz.prog 9 #[u,.int .i64 n,.int .i64 m] w fun e w'=>e= .returned (.bool (fewO cs n m))∧Below w.heap.size w w':=by
 obtain⟨W,hW,hb,hx,-⟩:=al_new w #[.int .i64 m] 3
 have hcl:=mx_cell (j:=0) hx
 have hlt:=heap_lt hx
 have H0:=fun hs=>contains_kf 33 #[.pointer (some ⟨w.heap.size,0,none⟩)] u cs (fewC m) W (enters_of Tryz.func33 (by kernel_rfl) rfl) (h1.below hb) hs (fun X hX uv c hc hu=>few_one8 uv c m w.heap.size X hu ((hX.cell (p:=⟨w.heap.size,0,none⟩) hlt).trans hcl))
 obtain⟨A,c,rfl,_⟩:=h1
 unfold fewO
 have HW:=Lib.hid hW
 have HB:=Lib.hid hb
 by_cases hl:(cs.length:Int)≤n
 ·have q1:decide ((cs.length:Int)≤n)=true:=by simpa using hl
  rw[q1,Bool.true_and]
  have H0:=H0 (by omega)
  obtain⟨z,hz⟩: ∃z,(cs.any fun c=>decide (m<(c.length:Int)))=z:=⟨_,rfl⟩
  rw[show cs.any (fewC m)=z from hz]at H0
  rw[hz]
  have H:=Lib.hid H0
  clear H0 hz hb hW hx hcl
  go_enter Tryz.func9,Tryz.ntmps9
  go_upto_region 1 with fail
  rw[HW.out]
  go_wp2_with fail
  refine H.out.mono ?_
  rintro e w' ⟨rfl,hb'⟩
  have HB':=Lib.hid (HB.out.trans (hb'.mono HB.out.size))
  clear hb'
  go_wp2_with fail
  go_ret
  exact⟨rfl,HB'.out⟩
 ·have q1:decide ((cs.length:Int)≤n)=false:=by simpa using hl
  rw[q1,Bool.false_and]
  clear H0 hb hW hx hcl
  go_enter Tryz.func9,Tryz.ntmps9
  go_upto_region 1 with fail
  rw[HW.out]
  go_wp2_with fail
  go_ret
  exact⟨rfl,HB.out⟩
def fewS (s:EStep):Bool:=decide ((10:Int)<(s.lits.length:Int))||decide ((20:Int)<(s.hints.length:Int))
set_option maxHeartbeats 1000000 in
theorem few_one10 {O:Nat→Prop} (ul uh:Value) (s:EStep) (w:World) (h:IntsIn O w ul s.lits) (h':IntsIn O w uh s.hints):
  Calls Tryz.prog 11 #[.agg #[.bool s.del,.int .i64 s.id,ul,uh]] w fun e w'=>e= .returned (.bool (fewS s))∧Below w.heap.size w w':=by
 unfold fewS
 obtain⟨d,id,xs,hs⟩:=s
 simp only at h h'⊢
 obtain⟨A,c,rfl,_⟩:=h
 obtain⟨A',c',rfl,_⟩:=h'
 obtain⟨W,hW,hb,hx,-⟩:=al_new w #[.bool d,.int .i64 id,.slice A xs.length c,.slice A' hs.length c'] 34
 have c2:=mx_cell (j:=2) hx
 have c3:=mx_cell (j:=3) hx
 have HW:=Lib.hid hW
 have HB:=Lib.hid hb
 clear hW hb hx
 by_cases h1:(10:Int)<(xs.length:Int)
 ·have q1:decide ((10:Int)<(xs.length:Int))=true:=decide_eq_true h1
  rw[q1,Bool.true_or]
  go_enter Tryz.func11,Tryz.ntmps11
  go_upto_region 1 with fail
  rw[HW.out]
  go_wp2_with fail
  go_ret
  exact⟨rfl,HB.out⟩
 ·have q1:decide ((10:Int)<(xs.length:Int))=false:=decide_eq_false h1
  rw[q1,Bool.false_or]
  obtain⟨q,hq⟩: ∃q,decide ((20:Int)<(hs.length:Int))=q:=⟨_,rfl⟩
  rw[hq]
  go_enter Tryz.func11,Tryz.ntmps11
  go_upto_region 1 with fail
  rw[HW.out]
  go_wp2_with fail
  go_ret
  exact⟨rfl,HB.out⟩
def few10 (cs:List (List Int)) (ss:List EStep):Bool:=fewO cs 30 10&&(decide ((ss.length:Int)≤30)&& !ss.any fewS)
set_option maxHeartbeats 1000000 in
theorem few_10 {O O':Nat→Prop} (vn:Int) (u v:Value) (cs:List (List Int)) (ss:List EStep) (w:World) (h:ClsIn O w u cs) (h':StepIn O' w v ss):
  Calls Tryz.prog 5 #[.agg #[.int .i64 vn,u],v] w fun e w'=>e= .returned (.bool (few10 cs ss))∧Below w.heap.size w w':=by
 obtain⟨W,hW,hb,hx,-⟩:=al_new w #[.int .i64 vn,u] 24
 have c1:=mx_cell (j:=1) hx
 have HF:=Lib.hid (few_08 u cs 30 10 W (h.below hb) (by decide))
 have HS:=Lib.hid (fun(X:World) (hX:Below W.heap.size W X) (hl:ss.length≤140737488355328)=>contains_so 11 #[] v ss fewS X (enters_of Tryz.func11 (by kernel_rfl) rfl) ((h'.below hb).below hX) hl (fun Y hY ul uh s _ h1 h2=>few_one10 ul uh s Y h1 h2))
 obtain⟨A,c,rfl,_⟩:=h
 obtain⟨A',c',rfl,_⟩:=h'
 unfold few10
 have HW:=Lib.hid hW
 have HB:=Lib.hid hb
 obtain⟨b1,hb1⟩: ∃b,fewO cs 30 10=b:=⟨_,rfl⟩
 rw[hb1]at HF⊢
 clear hW hb hx hb1
 cases b1 with
 | false=>
  rw[Bool.false_and]
  go_enter Tryz.func5,Tryz.ntmps5
  go_upto_region 1 with fail
  rw[HW.out]
  go_wp2_with fail
  refine HF.out.mono ?_
  rintro e w' ⟨rfl,hb'⟩
  have HB':=Lib.hid (HB.out.trans (hb'.mono HB.out.size))
  clear hb'
  go_wp2_with fail
  go_ret
  exact⟨rfl,HB'.out⟩
 | true=>
  rw[Bool.true_and]
  by_cases hl:(ss.length:Int)≤30
  ·have q1:decide ((ss.length:Int)≤30)=true:=decide_eq_true hl
   rw[q1,Bool.true_and]
   have hln:ss.length≤140737488355328:=by omega
   obtain⟨z,hz⟩: ∃z,ss.any fewS=z:=⟨_,rfl⟩
   rw[hz]at HS⊢
   clear hz
   go_enter Tryz.func5,Tryz.ntmps5
   go_upto_region 1 with fail
   rw[HW.out]
   go_wp2_with fail
   refine HF.out.mono ?_
   rintro e w' ⟨rfl,hb'⟩
   have HB':=Lib.hid hb'
   clear hb'
   go_wp2_with fail
   refine(HS.out w' HB'.out hln).mono ?_
   rintro e w2 ⟨rfl,hb2⟩
   have HB2:=Lib.hid (HB.out.trans ((HB'.out.trans (hb2.mono HB'.out.size)).mono HB.out.size))
   clear hb2
   go_wp2_with fail
   go_ret
   exact⟨rfl,HB2.out⟩
  ·have q1:decide ((ss.length:Int)≤30)=false:=decide_eq_false hl
   rw[q1,Bool.false_and]
   go_enter Tryz.func5,Tryz.ntmps5
   go_upto_region 1 with fail
   rw[HW.out]
   go_wp2_with fail
   refine HF.out.mono ?_
   rintro e w' ⟨rfl,hb'⟩
   have HB':=Lib.hid (HB.out.trans (hb'.mono HB.out.size))
   clear hb'
   go_wp2_with fail
   go_ret
   exact⟨rfl,HB'.out⟩
end Go.Proofs.YtajbmjpodeilpaaGreat
namespace Go.Proofs.YtajbmjpodeilpaaGreat
open Go.RowKit
theorem few10_parts {cs:List (List Int)} {ss:List EStep} (h:few10 cs ss=true):cs.length≤30∧(∀c∈cs,c.length≤10)∧ss.length≤30∧∀s∈ss,s.lits.length≤10∧s.hints.length≤20:=by
 unfold few10 fewO at h
 simp only[Bool.and_eq_true,decide_eq_true_eq,Bool.not_eq_true',List.any_eq_false]at h
 obtain⟨⟨h1,h2⟩,h3,h4⟩:=h
 refine⟨by omega,fun c hc=>?_,by omega,fun s hs=>?_⟩
 ·have:=h2 c hc
  omega
 ·have:=h4 s hs
  unfold fewS at this
  simp only[Bool.or_eq_true,decide_eq_true_eq,not_or]at this
  omega
end Go.Proofs.YtajbmjpodeilpaaGreat
