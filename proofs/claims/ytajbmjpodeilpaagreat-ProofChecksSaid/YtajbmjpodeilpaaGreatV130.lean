/- Reference of layer 10: Trim. -/
import Derived.Test.YtajbmjpodeilpaaGreatV129
namespace Go.Proofs.YtajbmjpodeilpaaGreat
open Go.RowKit
theorem TSt.at {O:Nat→Prop} {B0 B1:Nat} {w:World} {A:Option Addr} {n c:Nat} {K:List StV} (h:TSt O B0 B1 w (.slice A n c) K) {i:Nat} {x:StV} (hx:K[i]? =some x): ∃g,A=some ⟨g,0,none⟩∧g<w.heap.size∧B1≤g∧w.cell? ⟨g,i*4,none⟩=some (.bool x.1.del)∧w.cell? ⟨g,i*4+1,none⟩=some (.int .i64 x.1.id)∧w.cell? ⟨g,i*4+2,none⟩=some (Value.slice x.2.1.1 x.1.lits.length x.2.1.2)∧w.cell? ⟨g,i*4+3,none⟩=some (Value.slice x.2.2.1 x.1.hints.length x.2.2.2):=by
 have hrow:=h.row
 obtain⟨e0,e1,e2,e3⟩:=stcell_at K i x hx
 have hil:=(List.getElem?_eq_some_iff.1 hx).1
 rcases hrow.2 with⟨h0,h1⟩|⟨g,cap,cur,hv,hb,hg,hle,_⟩
 ·omega
 ·simp only[Value.slice.injEq]at hv
  obtain⟨rfl,rfl,rfl⟩:=hv
  exact⟨g,rfl,heap_lt hg,hb,mx_at hrow e0,mx_at hrow e1,mx_at hrow e2,mx_at hrow e3⟩
theorem tab_setb {q:Nat} {b c:Bool} {t:List Bool}:((List.replicate q false++b::t).map Value.bool).set q (.bool c)=(List.replicate q false++c::t).map Value.bool:=by
 rw[List.map_append,List.map_append,List.set_append_right _ _ (by simp),List.map_replicate,List.length_replicate,Nat.sub_self]
 rfl
theorem kPick_len: ∀(K:List StV) (t:List Bool),(kPick K t).length≤K.length
 | [],t=>by cases t <;> exact Nat.le_refl _
 | x::r,[]=>Nat.zero_le _
 | x::r,b::t=>by
  rw[kPick,List.length_cons]
  split
  ·have:=kPick_len r t
   rw[List.length_cons]
   omega
  ·have:=kPick_len r t
   omega
theorem cell_eqw {X Y:World} {p:Addr} {v:Option Value} (h:X=Y) (d:Y.cell? p=v):X.cell? p=v:=by
 rw[h]
 exact d
theorem rc_agg (vn:Int) (cs:List (List Int)) (ss:List EStep): ∃(a:Bool) (b c d e:Int) (n E:Nat),rcOut vn cs ss= .tuple #[.agg #[.bool a,.int .i64 b,.int .i64 c,.int .i64 d,.int .i64 e],.int .i64 (n:Nat),.int .i64 (E:Nat)]∧
  (((fchk vn cs).2≠0∧n=0∧E=(fchk vn cs).2)∨((fchk vn cs).2=0∧n=(runGo (ckrNew cs) ss 0).2.1∧E=runE (runGo (ckrNew cs) ss 0))):=by
 unfold rcOut
 by_cases h:(fchk vn cs).2≠0
 ·rw[if_pos h]
  exact⟨_,_,_,_,_,0,_,rfl,.inl ⟨h,rfl,rfl⟩⟩
 ·rw[if_neg h]
  obtain⟨a,b,c,d,e,h1⟩:=rep_agg (runGo (ckrNew cs) ss 0)
  exact⟨a,b,c,d,e,_,_,by rw[h1],.inr ⟨by omega,rfl,rfl⟩⟩
set_option maxRecDepth 100000 in
set_option maxHeartbeats 16000000 in
theorem ref_trim10 {O O':Nat→Prop} (vn:Int) (u v:Value) (cs:List (List Int)) (ss:List EStep) (w:World) (h:ClsIn O w u cs) (h':StepIn O' w v ss) (hl:cs.length≤1000) (hcl: ∀c∈cs,c.length≤1000) (hsl:ss.length≤1000) (hss: ∀s∈ss,s.lits.length≤1000∧s.hints.length≤1000∧∀x∈s.hints,-9223372036854775808≤x∧x≤9223372036854775807):
  Calls Tryz.prog 17 #[.agg #[.int .i64 vn,u],v] w fun e w'=>RTOut vn cs ss (fun g=>O' g∨w.heap.size≤g) w' e∧Below w.heap.size w w':=by
 obtain⟨i0,hi0,iz1,iz2,iz3⟩:=info_parts oinfo_int
 obtain⟨s0,hs0,sz1,sz2,sz3⟩:=info_parts rstinfo
 obtain⟨W1,hW1,hb1,hx1,hz1⟩:=al_new w #[.int .i64 vn,u] 38
 have HX1:=Lib.hid hx1
 have HB1:=Lib.hid hb1
 have HST:=Lib.hid h'.lt
 have HSS:=Lib.hid hss
 have hrck:=ref_check10 vn u v cs ss W1 (h.below hb1) (h'.below hb1) hl hcl hsl hss
 have HNW:=Lib.hid (fun(X:World) (hX:Below W1.heap.size W1 X)=>ref_new vn u cs X ((h.ltO.below hb1).below hX) (by omega) (fun c hc=>by have:=hcl c hc;omega))
 obtain⟨ra,rb,rc,rd,re,n,E,hrc,hways⟩:=rc_agg vn cs ss
 rw[hrc]at hrck
 have HRC:=Lib.hid hrck
 obtain⟨Af,cf,rfl,hcf,_⟩:=h
 obtain⟨As,cS,rfl,hcS,_⟩:=h'
 have HW1:=Lib.hid hW1
 have c0:=mx_cell (j:=0) hx1
 have c1:=mx_cell (j:=1) hx1
 have HCL:=Lib.hid hcl
 have HWY:=Lib.hid hways
 clear hW1 hb1 hx1 hcl hss hrck hrc hways
 go_enter Tryz.func17,Tryz.ntmps17
 go_upto_region 1 with fail
 rw[HW1.out]
 go_wp2_with fail
 refine HRC.out.mono ?_
 rintro e w3 ⟨rfl,hb3⟩
 obtain⟨W4,hW4,hb4,hx4,hz4⟩:=al_new w3 #[.bool ra,.int .i64 rb,.int .i64 rc,.int .i64 rd,.int .i64 re] 47
 have HW4:=Lib.hid hW4
 have HB4:=Lib.hid (show Below W1.heap.size W1 W4 from hb3.trans (hb4.mono hb3.size))
 clear hb3 hb4 hx4 hW4 c0 c1 HRC
 go_upto_region 2 with fail
 rw[HW4.out]
 have HB4w:=Lib.hid (HB1.out.trans (HB4.out.mono HB1.out.size))
 by_cases hE0:E≠0
 ·have q0:((E:Int) != 0)=true:=bne_iff_ne.2 (by omega)
  go_wp2_with fail
  refine bodyPost_ret (res_456 rfl _ _) rfl ?_
  refine⟨?_,HB4w.out⟩
  unfold RTOut
  rcases HWY.out with⟨a1,a2,a3⟩|⟨a1,a2,a3⟩
  ·rw[if_pos a1,←a3,a2]
   rfl
  ·rw[if_neg (fun h=>h a1),if_pos (by rw[←a3];exact hE0),←a2,←a3]
   rfl
 have hE0:E=0:=by omega
 subst hE0
 obtain⟨hf0,hnR,hER⟩:(fchk vn cs).2=0∧n=(runGo (ckrNew cs) ss 0).2.1∧0=runE (runGo (ckrNew cs) ss 0):=by
  rcases HWY.out with⟨a1,a2,a3⟩|h
  ·exact absurd a3.symm a1
  ·exact h
 obtain⟨_,hcb⟩:=fchk_zero hf0
 have HF0:=Lib.hid hf0
 have HRT:=Lib.hid (show∀w' e,(if(trmGo (ckrNew cs) ss 0 []).2.2=false then e=Ending.returned (.tuple #[.slice none 0 0,.int .i64 ((trmGo (ckrNew cs) ss 0 []).2.1:Nat),.int .i64 102])else
   ∃v,e=Ending.returned (.tuple #[v,.int .i64 (-1),.int .i64 0])∧StepIn (fun g=>O' g∨w.heap.size≤g) w' v (bkL (trmGo (ckrNew cs) ss 0 []).1))→RTOut vn cs ss (fun g=>O' g∨w.heap.size≤g) w' e from fun w' e h=>by
  unfold RTOut
  rw[if_neg (fun h=>h hf0),if_neg (fun h=>h hER.symm)]
  exact h)
 obtain⟨k0,hk0⟩: ∃k0,ckrNew cs=k0:=⟨_,rfl⟩
 have HOK0:=Lib.hid (show k0.Ok 1000 from by rw[←hk0];exact ckrNew_ok hcb (by omega))
 obtain⟨R,hR⟩: ∃R,runGo k0 ss 0=R:=⟨_,rfl⟩
 obtain⟨T,hT⟩: ∃T,trmGo k0 ss 0 []=T:=⟨_,rfl⟩
 rw[hk0]at HNW HRT hnR hER
 rw[hT]at HRT
 rw[hR]at hnR hER
 have hnl:n≤ss.length:=by
  rw[hnR,←hR]
  exact run_le ss ss k0 0 (by omega)
 have HR0:=Lib.hid (show runGo k0 (ss.drop 0) 0=R from hR)
 have HT0:=Lib.hid (show trmGo k0 (ss.drop 0) 0 (([] :List StV).map Prod.fst)=T from hT)
 have HNR:=Lib.hid hnR
 have HER0:=Lib.hid hER
 unfold ckK ckV at HNW
 have hx14:=(HB4.out.block _ (heap_lt HX1.out)).trans HX1.out
 have c0:=mx_cell (j:=0) hx14
 have c1:=mx_cell (j:=1) hx14
 clear hf0 hcb hk0 hR hT hnR hER hx14
 go_wp2_with fail
 refine(HNW.out W4 HB4.out).mono ?_
 rintro e w5 ⟨v4,rfl,hE4,hb5⟩
 obtain⟨A4,c4,rfl,_⟩:=id hE4
 obtain⟨W6,hW6,hb6,hx6,hz6⟩:=al_new w5 #[.slice A4 k0.ents.length c4,.int .i64 k0.last,.bool k0.proved,.int .i64 k0.adds,.int .i64 k0.dels,.int .i64 k0.rats,.int .i64 k0.largest] 68
 have hb46:=hb5.trans (hb6.mono hb5.size)
 have HB6:=Lib.hid (HB4w.out.trans (hb46.mono HB4w.out.size))
 have hz5:=hb5.size
 have hz4w:=HB4w.out.size
 have HE6:=Lib.hid (show EntIn (fun g=>g≠w5.heap.size) W6 (.slice A4 k0.ents.length c4) k0.ents from(hE4.ltO.below hb6).mono fun g hg=>by
  have:=hg.2
  omega)
 have HX6:=Lib.hid hx6
 have HW6:=Lib.hid hW6
 clear hE4 hb5 hb6 hx6 hW6 hb46 c0 c1 HNW
 obtain⟨p10,hp10⟩: ∃p,w5.heap.size=p:=⟨_,rfl⟩
 go_upto_region 5 with fail
 rw[HW6.out]
 rw[hp10]at HE6 HX6 hz6
 have hpw:w.heap.size≤p10:=by omega
 have HTS0:=Lib.hid (TSt.nil O' w.heap.size (p10+1) W6)
 clear hp10 HW6
 go_wp2_with fail
 go_loopw [11,12] (fun ov iv wr=> ∃(j:Nat) (k:Ckr) (A:Option Addr) (c:Nat) (K:List StV),j≤n∧iv= .int .i64 j∧Hid (k.Ok (1000+j))∧Hid (runGo k (ss.drop j) j=R)∧Hid (trmGo k (ss.drop j) j (K.map Prod.fst)=T)∧Hid (wr.heap[p10]? =some (.cells #[.slice A k.ents.length c,.int .i64 k.last,.bool k.proved,.int .i64 k.adds,.int .i64 k.dels,.int .i64 k.rats,.int .i64 k.largest] 68 (0,0)))∧Hid (EntIn (fun g=>g≠p10∧ov.ownBlock≠some g) wr (.slice A k.ents.length c) k.ents)∧Hid (TSt O' w.heap.size (p10+1) wr ov K)∧Hid (K.length≤j)∧Hid (∀x∈K,x.1.hints.length≤1000)∧Hid (Below w.heap.size w wr)∧Hid (p10+1≤wr.heap.size)) (fun _ iv _=>n-(intOf iv).toNat)
 case atStart=>exact⟨0,k0,A4,c4,[],Nat.zero_le _,rfl,HOK0,HR0,HT0,HX6,Lib.hid (HE6.out.mono fun g hg=>⟨hg,fun e=>by cases e⟩),HTS0,Lib.hid (Nat.le_refl _),Lib.hid (fun x hx=>by cases hx),HB6,Lib.hid (by omega)⟩
 case round=>
  obtain⟨j,k,A,c,K,hj,rfl,HOK,HRG,HTG,HXR,HER,HTS,HKL,HKH,HBR,HPZ⟩:=hrel
  clear HX6 HE6 HB6 HTS0
  have hzr:=HBR.out.size
  have hltp:=heap_lt HXR.out
  obtain⟨Ao,co,rfl,_⟩:=mx_slice HTS.out.row
  have hkl:=HKL.out
  by_cases hjn:j<n
  ·have hjn':(j:Int)<(n:Int):=by omega
   have hjs':(j:Int)<(ss.length:Int):=by omega
   obtain⟨s,hs,hpv,hz0,hrn⟩:=run_in HRG.out (by rw[←HNR.out];exact hjn)
   have htr:=HTG.out
   rw[trm_step hs,if_neg (by rw[hpv];decide)]at htr
   obtain⟨hsl1,hsl2,hsr⟩:=HSS.out s (List.mem_of_getElem? hs)
   obtain⟨hcb,hhl,hso⟩:=stepB_three (do_right hpv hz0)
   obtain⟨A',c',hA',_,_,hx⟩:=HST.out
   simp only[Value.slice.injEq,true_and]at hA'
   obtain⟨rfl,rfl⟩:=hA'
   obtain⟨gs,os,el,eh,rfl,hgs,_,e0,e1,e2,e3,hel,heh⟩:=hx j _ hs
   obtain⟨sd,si,sl,sh⟩:=s
   simp only at hsl1 hsl2 hsr hcb hhl hso e0 e1 e2 e3 hel heh
   have HE0:=Lib.hid (fun(X:World) (hX:Below w.heap.size w X)=>And.intro ((hX.cell (p:=⟨gs,os+j*4,none⟩) hgs).trans e0) (And.intro ((hX.cell (p:=⟨gs,os+j*4+1,none⟩) hgs).trans e1) (And.intro ((hX.cell (p:=⟨gs,os+j*4+2,none⟩) hgs).trans e2) ((hX.cell (p:=⟨gs,os+j*4+3,none⟩) hgs).trans e3))))
   have HELw:=Lib.hid hel
   have HEHw:=Lib.hid heh
   obtain⟨El,ek,rfl,_⟩:=hel
   obtain⟨Eh,em,rfl,_⟩:=heh
   have HRD:=Lib.hid (fun(O1:Nat→Prop) (X:World) (ev lv hv:Value) (h1:EntIn O1 X ev k.ents) (h2:IntsIn O1 X lv sl) (h3:IntsIn O1 X hv sh)=>ref_do ev k lv hv ⟨sd,si,sl,sh⟩ X h1 h2 h3 HOK.out (by omega) (by simp only;omega) (by simp only;omega) hsr)
   unfold ckK ckV at HRD
   rw[hpv]at HRD
   have hDO2:=do_ok (s:=⟨sd,si,sl,sh⟩) HOK.out
   have HKE:=Lib.hid (named_clause (es:=k.ents) HOK.out.cls)
   have HEN:=Lib.hid HOK.out.len
   obtain⟨zk,hzk⟩: ∃zk,(k.do_ ⟨sd,si,sl,sh⟩).2.1=zk:=⟨_,rfl⟩
   obtain⟨zi,hzi⟩: ∃zi,(k.do_ ⟨sd,si,sl,sh⟩).2.2.1=zi:=⟨_,rfl⟩
   obtain⟨k2,hk2⟩: ∃k2,(k.do_ ⟨sd,si,sl,sh⟩).1=k2:=⟨_,rfl⟩
   rw[hzk,hzi,hz0,hk2]at HRD
   rw[hk2]at hDO2 hrn
   rw[hzk,hk2]at htr
   have HOK2:=Lib.hid (show k2.Ok (1000+(j+1))from hDO2)
   have HRUN:=Lib.hid hrn
   have HTR:=Lib.hid htr
   have HCB:=Lib.hid hcb
   have HSO:=Lib.hid hso
   obtain⟨h1,hh1⟩: ∃l,(splitL sh).1=l:=⟨_,rfl⟩
   have hhn:h1.length≤1000:=by
    have:=splitL_len sh
    rw[hh1]at this
    omega
   have HTS1:=Lib.hid (show trimS k ⟨sd,si,sl,sh⟩=⟨false,si,sl,(trimP sl (ckNamed k.ents h1)).map fun j=>h1.getD j.toNat 0⟩from by
    unfold trimS
    rw[hh1])
   have HSP:=ref_split09 (.slice Eh sh.length em) sh wr (HEHw.out.below HBR.out) (by omega) HSO.out
   rw[hh1]at HSP
   have HSP:=Lib.hid HSP
   have hHB:=HBR.out
   have HPV:=Lib.hid hpv
   obtain⟨e0,e1,e2,e3⟩:=HE0.out wr HBR.out
   clear hrn hDO2 hzk hzi hk2 hx hs hsr htr hcb hso hh1 hpv hz0
   go_wp2_with fail
   refine HSP.out.mono ?_
   rintro e w7 ⟨⟨ov,gv,rfl,hov,hgv⟩,hb7⟩
   have HB7:=Lib.hid (HBR.out.trans (hb7.mono hzr))
   have hz7:=hb7.size
   have HOV7:=Lib.hid (show IntsIn (fun g=>g≠p10) w7 ov h1 from hov.mono fun g hg=>by omega)
   have HX7:=Lib.hid ((hb7.block _ hltp).trans HXR.out)
   have HE7:=Lib.hid (HER.out.ltO.below hb7)
   have HTS7:=Lib.hid (HTS.out.below hb7)
   have HCO:=Lib.hid (ref_clauses10 (.slice A k.ents.length c) ov k.ents h1 w7 HE7.out hov (by have:=HEN.out;omega) (by omega))
   obtain⟨Av,cv,rfl,_⟩:=id hov
   obtain⟨Ag,cg,rfl,_⟩:=hgv
   have y0:=mx_cell (j:=0) HX7.out
   clear hb7 hov e0 e1 e2 e3 hHB
   go_wp2_with fail
   refine HCO.out.mono ?_
   rintro e w8 ⟨⟨nv,rfl,hnv⟩,hb8⟩
   have HB8:=Lib.hid (HB7.out.trans (hb8.mono (by have:=HB7.out.size;omega)))
   have hz8:=hb8.size
   have HNV8:=Lib.hid (show ClsIn (fun g=>g≠p10) w8 nv (ckNamed k.ents h1)from hnv.mono fun g hg=>by
    rcases hg with hg|hg
    ·exact hg.1.1
    ·omega)
   have HOV8:=Lib.hid (HOV7.out.below hb8)
   have HX8:=Lib.hid ((hb8.block _ (heap_lt HX7.out)).trans HX7.out)
   have HER8:=Lib.hid (show EntIn (fun g=>(g≠p10∧(Value.slice Ao K.length co).ownBlock≠some g)) w8 (.slice A k.ents.length c) k.ents from(HE7.out.below hb8).mono fun g hg=>hg.1)
   have HTS8:=Lib.hid (HTS7.out.below hb8)
   have HEL8:=Lib.hid ((HELw.out.below HB8.out).mono (O':=fun g=>(g≠p10∧(Value.slice Ao K.length co).ownBlock≠some g)∧g<w8.heap.size) (fun g hg=>by
    have h2:=hg.2
    have h3:=HB8.out.size
    exact⟨⟨by omega,fun e=>by have:=(own_lt HTS.out.row g e).1;omega⟩,by omega⟩))
   have HEH8:=Lib.hid ((HEHw.out.below HB8.out).mono (O':=fun g=>(g≠p10∧(Value.slice Ao K.length co).ownBlock≠some g)∧g<w8.heap.size) (fun g hg=>by
    have h2:=hg.2
    have h3:=HB8.out.size
    exact⟨⟨by omega,fun e=>by have:=(own_lt HTS.out.row g e).1;omega⟩,by omega⟩))
   have hlt8:=heap_lt HX8.out
   have HXO:=Lib.hid (show∀g,w8.heap.size≤g→(g≠p10∧(Value.slice Ao K.length co).ownBlock≠some g)from fun g hg=>⟨by omega,fun e=>by
    have:=(own_lt HTS8.out.row g e).2
    omega⟩)
   obtain⟨An,cn,rfl,_⟩:=id hnv
   obtain⟨e0,e1,e2,e3⟩:=HE0.out w8 HB8.out
   have hgr:gs<w8.heap.size:=by have:=HB8.out.size;omega
   have y2:=mx_cell (j:=2) HX8.out
   have hpv:=HPV.out
   rw[hpv]at HX8 y2
   clear hb8 hnv y0
   go_upto_region 11 with fail
   clear y2
   go_cut [17,18] (fun p d wx=> ∃(p17:Nat) (A2:Option Addr) (c2:Nat),p= .pointer (some ⟨p17,0,none⟩)∧d= .int .i64 (zk:Nat)∧w8.heap.size≤p17∧Hid (wx.heap[p17]? =some (.cells #[.slice A2 k2.ents.length c2,.int .i64 k2.last,.bool k2.proved,.int .i64 k2.adds,.int .i64 k2.dels,.int .i64 k2.rats,.int .i64 k2.largest] 68 (0,0)))∧Hid (EntIn (fun g=>(g≠p10∧(Value.slice Ao K.length co).ownBlock≠some g)) wx (.slice A2 k2.ents.length c2) k2.ents)∧Hid (Below w8.heap.size w8 wx))
   case first=>
    refine wp_region_held_drew (S:=fun X=>Below w8.heap.size w8 X) (by kernel_rfl) (mx_drew w8) (fun hS=>?_)
    obtain⟨xD,hxD⟩: ∃z,w8.drew=z:=⟨_,rfl⟩
    rw[hxD]at hS⊢
    clear hxD
    refine takeF 0 64 (fun wq hSw=>And.intro (mx_cell (j:=0) ((hSw.block _ hlt8).trans HX8.out)) (And.intro (mx_cell (j:=1) ((hSw.block _ hlt8).trans HX8.out)) (And.intro (mx_cell (j:=2) ((hSw.block _ hlt8).trans HX8.out)) (And.intro (mx_cell (j:=3) ((hSw.block _ hlt8).trans HX8.out)) (And.intro (mx_cell (j:=4) ((hSw.block _ hlt8).trans HX8.out)) (And.intro (mx_cell (j:=5) ((hSw.block _ hlt8).trans HX8.out)) (mx_cell (j:=6) ((hSw.block _ hlt8).trans HX8.out)))))))) ?_
    refine takeE 1 65 ?_
    refine takeE 2 66 ?_
    refine takeE 3 67 ?_
    refine takeF 4 68 (fun wq hSw=>And.intro ((hSw.cell (p:=⟨gs,os+j*4,none⟩) hgr).trans e0) (And.intro ((hSw.cell (p:=⟨gs,os+j*4+1,none⟩) hgr).trans e1) (And.intro ((hSw.cell (p:=⟨gs,os+j*4+2,none⟩) hgr).trans e2) ((hSw.cell (p:=⟨gs,os+j*4+3,none⟩) hgr).trans e3)))) ?_
    refine wpAnyH_ready (rs:= [5,11]) (by kernel_rfl) (by simp) (AllReadyH.cons rfl (fun KK hKK=>?_) (AllReadyH.cons rfl (fun KK hKK=>?_) AllReadyH.nil))
    ·go_simp
     refine(HRD.out (fun g=>(g≠p10∧(Value.slice Ao K.length co).ownBlock≠some g)∧g<w8.heap.size) xD _ _ _ (HER8.out.ltO.below hS) (HEL8.out.below hS) (HEH8.out.below hS)).mono ?_
     rintro e zw1 ⟨v2,rfl,he2,hbn⟩
     obtain⟨A2,c2,rfl,_⟩:=id he2
     have hS1:=hS.trans (hbn.mono hS.size)
     have hsz1:=hbn.size
     have hsw0:=hS.size
     refine hKK.out _ _ hS1 (fun _=>?_)
     clear hKK hbn
     refine takeE 6 63 ?_
     refine takeE 7 70 ?_
     refine takeE 8 71 ?_
     refine takeE 9 72 ?_
     refine takeE 10 73 ?_
     refine ready1 11 (fun KK hKK=>?_)
     go_simp
     obtain⟨zw2,hwa,hbn,hxf,hzn⟩:=al_new zw1 #[.slice none 0 0,.int .i64 0,.bool false,.int .i64 0,.int .i64 0,.int .i64 0,.int .i64 0] 68
     rw[hwa]
     have hS2:=hS1.trans (hbn.mono hS1.size)
     have hpf:w8.heap.size≤zw1.heap.size:=hS1.size
     have he2:=he2.ltO.below hbn
     refine hKK.out _ _ hS2 (fun _=>?_)
     clear hKK hbn hwa
     obtain⟨p17,hp22⟩: ∃p,zw1.heap.size=p:=⟨_,rfl⟩
     rw[hp22]at hxf hpf⊢
     have hEf:EntIn (fun g=>(g≠p10∧(Value.slice Ao K.length co).ownBlock≠some g)∧g≠p17) zw2 (.slice A2 k2.ents.length c2) k2.ents:=he2.mono fun g hg=>by
      obtain⟨hg1,hg2⟩:=hg
      refine⟨?_,?_⟩
      ·rcases hg1 with h|h
       ·exact h.1
       ·exact HXO.out g (by omega)
      ·rcases hg1 with h|h
       ·have:=h.2
        omega
       ·omega
     have HXF:=Lib.hid hxf
     have y0:=mx_cell (j:=0) hxf
     have y1:=mx_cell (j:=1) hxf
     have y2:=mx_cell (j:=2) hxf
     have y3:=mx_cell (j:=3) hxf
     have y4:=mx_cell (j:=4) hxf
     have y5:=mx_cell (j:=5) hxf
     have y6:=mx_cell (j:=6) hxf
     have f0:=oj_free (j:=0) hxf
     have f1:=oj_free (j:=1) hxf
     have f2:=oj_free (j:=2) hxf
     have f3:=oj_free (j:=3) hxf
     have f4:=oj_free (j:=4) hxf
     have f5:=oj_free (j:=5) hxf
     have f6:=oj_free (j:=6) hxf
     refine ready1 12 (fun KK hKK=>?_)
     go_simp
     obtain⟨WF,hWF,hrF,hbF,hkF⟩:=set7_all HXF.out (.slice A2 k2.ents.length c2) (.int .i64 k2.last) (.bool k2.proved) (.int .i64 k2.adds) (.int .i64 k2.dels) (.int .i64 k2.rats) (.int .i64 k2.largest)
     rw[hWF]
     have hSF:Below w8.heap.size w8 WF:=hS2.trans (hkF.below (fun g e=>by rw[e];exact hpf) hS2.size)
     refine hKK.out _ _ hSF (fun _=>?_)
     clear hKK hWF
     clear y0 y1 y2 y3 y4 y5 y6 f0 f1 f2 f3 f4 f5 f6
     have hEF:=(hEf.kept hkF (fun g hg e=>hg.2 e)).mono (O':=fun g=>(g≠p10∧(Value.slice Ao K.length co).ownBlock≠some g)) (fun g hg=>hg.1)
     refine takeE 13 18 ?_
     refine takeE 14 19 ?_
     refine takeE 15 20 ?_
     refine wpAnyH_done (by kernel_rfl) ?_ _
     go_wp2_with fail
     go_meet
     exact⟨p17,A2,c2,rfl,rfl,hpf,Lib.hid hrF,Lib.hid hEF,Lib.hid hSF⟩
    ·go_simp
     obtain⟨zw1,hwa,hbn,hxf,hzn⟩:=al_new xD #[.slice none 0 0,.int .i64 0,.bool false,.int .i64 0,.int .i64 0,.int .i64 0,.int .i64 0] 68
     rw[hwa]
     have hS1:=hS.trans (hbn.mono hS.size)
     have hpf:w8.heap.size≤xD.heap.size:=hS.size
     refine hKK.out _ _ hS1 (fun _=>?_)
     clear hKK hbn hwa
     obtain⟨p17,hp22⟩: ∃p,xD.heap.size=p:=⟨_,rfl⟩
     rw[hp22]at hxf hpf⊢
     refine ready1 5 (fun KK hKK=>?_)
     go_simp
     refine(HRD.out (fun g=>(g≠p10∧(Value.slice Ao K.length co).ownBlock≠some g)∧g<w8.heap.size) zw1 _ _ _ (HER8.out.ltO.below hS1) (HEL8.out.below hS1) (HEH8.out.below hS1)).mono ?_
     rintro e zw2 ⟨v2,rfl,he2,hbn⟩
     obtain⟨A2,c2,rfl,_⟩:=id he2
     have hS2:=hS1.trans (hbn.mono hS1.size)
     have hsz2:=hbn.size
     have hsw1:=hS1.size
     have hxf:=(hbn.block _ (heap_lt hxf)).trans hxf
     refine hKK.out _ _ hS2 (fun _=>?_)
     clear hKK hbn
     refine takeE 6 63 ?_
     refine takeE 7 70 ?_
     refine takeE 8 71 ?_
     refine takeE 9 72 ?_
     refine takeE 10 73 ?_
     have hEf:EntIn (fun g=>(g≠p10∧(Value.slice Ao K.length co).ownBlock≠some g)∧g≠p17) zw2 (.slice A2 k2.ents.length c2) k2.ents:=he2.mono fun g hg=>by
      refine⟨?_,?_⟩
      ·rcases hg with h|h
       ·exact h.1
       ·exact HXO.out g (by omega)
      ·rcases hg with h|h
       ·have:=h.2
        omega
       ·omega
     have HXF:=Lib.hid hxf
     have y0:=mx_cell (j:=0) hxf
     have y1:=mx_cell (j:=1) hxf
     have y2:=mx_cell (j:=2) hxf
     have y3:=mx_cell (j:=3) hxf
     have y4:=mx_cell (j:=4) hxf
     have y5:=mx_cell (j:=5) hxf
     have y6:=mx_cell (j:=6) hxf
     have f0:=oj_free (j:=0) hxf
     have f1:=oj_free (j:=1) hxf
     have f2:=oj_free (j:=2) hxf
     have f3:=oj_free (j:=3) hxf
     have f4:=oj_free (j:=4) hxf
     have f5:=oj_free (j:=5) hxf
     have f6:=oj_free (j:=6) hxf
     refine ready1 12 (fun KK hKK=>?_)
     go_simp
     obtain⟨WF,hWF,hrF,hbF,hkF⟩:=set7_all HXF.out (.slice A2 k2.ents.length c2) (.int .i64 k2.last) (.bool k2.proved) (.int .i64 k2.adds) (.int .i64 k2.dels) (.int .i64 k2.rats) (.int .i64 k2.largest)
     rw[hWF]
     have hSF:Below w8.heap.size w8 WF:=hS2.trans (hkF.below (fun g e=>by rw[e];exact hpf) hS2.size)
     refine hKK.out _ _ hSF (fun _=>?_)
     clear hKK hWF
     clear y0 y1 y2 y3 y4 y5 y6 f0 f1 f2 f3 f4 f5 f6
     have hEF:=(hEf.kept hkF (fun g hg e=>hg.2 e)).mono (O':=fun g=>(g≠p10∧(Value.slice Ao K.length co).ownBlock≠some g)) (fun g hg=>hg.1)
     refine takeE 13 18 ?_
     refine takeE 14 19 ?_
     refine takeE 15 20 ?_
     refine wpAnyH_done (by kernel_rfl) ?_ _
     go_wp2_with fail
     go_meet
     exact⟨p17,A2,c2,rfl,rfl,hpf,Lib.hid hrF,Lib.hid hEF,Lib.hid hSF⟩
   case rest=>
    obtain⟨p17,A2,c2,rfl,rfl,hp17,HX17,HE17,HB17⟩:=hcut
    have hz9:=HB17.out.size
    have HX9:=Lib.hid ((HB17.out.block _ hlt8).trans HX8.out)
    have HB9:=Lib.hid (HB8.out.trans (HB17.out.mono HB8.out.size))
    have HTS9:=Lib.hid (HTS8.out.below HB17.out)
    have HNV9:=Lib.hid (HNV8.out.below HB17.out)
    have HOV9:=Lib.hid (HOV8.out.below HB17.out)
    clear e0 e1 e2 e3
    have y0:=mx_cell (j:=0) HX17.out
    have y1:=mx_cell (j:=1) HX17.out
    have y2:=mx_cell (j:=2) HX17.out
    have y3:=mx_cell (j:=3) HX17.out
    have y4:=mx_cell (j:=4) HX17.out
    have y5:=mx_cell (j:=5) HX17.out
    have y6:=mx_cell (j:=6) HX17.out
    have z0:=mx_cell (j:=0) HX9.out
    have z1:=mx_cell (j:=1) HX9.out
    have z2:=mx_cell (j:=2) HX9.out
    have z3:=mx_cell (j:=3) HX9.out
    have z4:=mx_cell (j:=4) HX9.out
    have z5:=mx_cell (j:=5) HX9.out
    have z6:=mx_cell (j:=6) HX9.out
    have f0:=oj_free (j:=0) HX9.out
    have f1:=oj_free (j:=1) HX9.out
    have f2:=oj_free (j:=2) HX9.out
    have f3:=oj_free (j:=3) HX9.out
    have f4:=oj_free (j:=4) HX9.out
    have f5:=oj_free (j:=5) HX9.out
    have f6:=oj_free (j:=6) HX9.out
    go_upto_region 13 with fail
    obtain⟨WF,hWF,hrF,hbF,hkF⟩:=set7_all HX9.out (.slice A2 k2.ents.length c2) (.int .i64 k2.last) (.bool k2.proved) (.int .i64 k2.adds) (.int .i64 k2.dels) (.int .i64 k2.rats) (.int .i64 k2.largest)
    rw[hWF]
    clear y0 y1 y2 y3 y4 y5 y6 z0 z1 z2 z3 z4 z5 z6 f0 f1 f2 f3 f4 f5 f6 hWF
    have HXn:=Lib.hid hrF
    have HEn:=Lib.hid (HE17.out.kept hkF (fun g hg e=>hg.1 e))
    have HBn:=Lib.hid (HB9.out.trans (hkF.below (fun g e=>by rw[e];exact hpw) HB9.out.size))
    have HTSn:=Lib.hid (HTS9.out.kept hkF hpw (Nat.lt_succ_self _))
    have HNVn:=Lib.hid (HNV9.out.kept hkF (fun g hg e=>hg e))
    have HOVn:=Lib.hid (HOV9.out.kept hkF (fun g hg e=>hg e))
    have HPZn:=Lib.hid (show p10+1≤WF.heap.size from by have:=HPZ.out;have:=hkF.size;omega)
    clear hrF hbF hkF
    have hwj:IntKind.i64.wrap ((j:Int)+1)=(j:Int)+1:=IntWalk.i64_in _ (by omega)
    by_cases hk2:zk=2
    ·have HTF:=Lib.hid (show T=(K.map Prod.fst,j,false)from by have:=HTR.out;rw[if_pos hk2]at this;exact this.symm)
     subst hk2
     go_wp2_with fail
     refine bodyPost_ret (res_456 rfl _ _) rfl ?_
     refine⟨HRT.out _ _ ?_,HBn.out⟩
     rw[HTF.out,if_pos rfl]
     rfl
    have q2:((zk:Int)==2)=false:=beq_eq_false_iff_ne.2 (by omega)
    have HTR2:=Lib.hid (show trmGo k2 (ss.drop (j+1)) (j+1) (if zk=1 then K.map Prod.fst++ [trimS k ⟨sd,si,sl,sh⟩]else K.map Prod.fst)=T from by have:=HTR.out;rwa [if_neg hk2]at this)
    by_cases hk1:zk=1
    ·subst hk1
     have HTN0:=Lib.hid (show trmGo k2 (ss.drop (j+1)) (j+1) (K.map Prod.fst++ [⟨false,si,sl,(trimP sl (ckNamed k.ents h1)).map fun j=>h1.getD j.toNat 0⟩])=T from by
      have:=HTR2.out
      rwa [if_pos rfl,HTS1.out]at this)
     obtain⟨e0,e1,e2,e3⟩:=HE0.out WF HBn.out
     have hgF:gs<WF.heap.size:=by have:=HBn.out.size;omega
     go_upto_region 16 with fail
     refine wp_region_held_drew (S:=fun X=>Below WF.heap.size WF X) (by kernel_rfl) (mx_drew WF) (fun hS=>?_)
     obtain⟨xD,hxD⟩: ∃z,WF.drew=z:=⟨_,rfl⟩
     rw[hxD]at hS⊢
     clear hxD
     refine takeE 0 80 ?_
     refine takeE 1 81 ?_
     refine takeE 2 82 ?_
     refine takeE 3 83 ?_
     refine takeF 4 84 (fun wq hSw=>(hSw.cell (p:=⟨gs,os+j*4+1,none⟩) hgF).trans e1) ?_
     refine takeE 5 85 ?_
     refine takeE 6 86 ?_
     refine takeE 7 87 ?_
     refine takeE 8 88 ?_
     refine takeF 9 89 (fun wq hSw=>(hSw.cell (p:=⟨gs,os+j*4+2,none⟩) hgF).trans e2) ?_
     refine takeE 10 90 ?_
     refine ready1 11 (fun KK hKK=>?_)
     go_simp
     obtain⟨zw1,hwa,hbn,hx21,hzn⟩:=al_new xD #[.bool false,.int .i64 0,.slice none 0 0,.slice none 0 0] 78
     rw[hwa]
     have hS1:=hS.trans (hbn.mono hS.size)
     have hp21:WF.heap.size≤xD.heap.size:=hS.size
     refine hKK.out _ _ hS1 (fun _=>?_)
     clear hKK hbn hwa
     obtain⟨p21,hp⟩: ∃p,xD.heap.size=p:=⟨_,rfl⟩
     rw[hp]at hx21 hp21⊢
     have d0:=mx_cell (j:=0) hx21
     have d1:=mx_cell (j:=1) hx21
     have d2:=mx_cell (j:=2) hx21
     have d3:=mx_cell (j:=3) hx21
     have g0:=oj_free (j:=0) hx21
     have g1:=oj_free (j:=1) hx21
     have g2:=oj_free (j:=2) hx21
     have g3:=oj_free (j:=3) hx21
     refine ready1 12 (fun KK hKK=>?_)
     go_simp
     obtain⟨WS,hWS,hrS,hkS⟩:=four_setR hx21 (.bool false) (.int .i64 si) (.slice El sl.length ek) (.slice none 0 0)
     rw[hWS]
     have hSS:Below WF.heap.size WF WS:=hS1.trans (hkS.below (fun g e=>by rw[e];exact hp21) hS1.size)
     refine hKK.out _ _ hSS (fun _=>?_)
     have HX21:=Lib.hid hrS
     clear hKK hWS hrS hkS d0 d1 d2 d3 g0 g1 g2 g3 hx21 hS hS1 hp hzn e0 e1 e2 e3
     refine wpAnyH_done (by kernel_rfl) ?_ _
     have HSS:=Lib.hid hSS
     have HBS:=Lib.hid (HBn.out.trans (hSS.mono HBn.out.size))
     have HNVs:=Lib.hid (HNVn.out.below hSS)
     have hzS:=hSS.size
     obtain⟨e0,e1,e2,e3⟩:=HE0.out WS HBS.out
     have hgS:gs<WS.heap.size:=by omega
     have hnml:=named_len k.ents h1
     have HTRM:=fun(X:World) (hX:Below WS.heap.size WS X)=>ref_trim08 (.slice El sl.length ek) (.slice An (ckNamed k.ents h1).length cn) sl (ckNamed k.ents h1) X ((HELw.out.below HBS.out).below hX) (HNVs.out.below hX) (by omega) HCB.out (HKE.out h1)
     obtain⟨L,hL⟩: ∃L,trimP sl (ckNamed k.ents h1)=L:=⟨_,rfl⟩
     have HLI:=Lib.hid (show∀x∈L,0≤x∧x<(h1.length:Int)from fun x hx=>by
      have:=trim_idx sl (ckNamed k.ents h1) x (by rw[hL];exact hx)
      omega)
     have hLn:L.length≤1000:=by
      have:=trim_len sl (ckNamed k.ents h1)
      rw[hL]at this
      omega
     obtain⟨E8,hE8⟩: ∃E,(chkP sl (ckNamed k.ents h1)).2.2=E:=⟨_,rfl⟩
     rw[hL]at HTN0
     simp only[hL,hE8]at HTRM
     have HTRM:=Lib.hid HTRM
     clear hL hE8 hSS hnml
     go_wp2_with fail
     refine(HTRM.out _ (Below.refl _ _)).mono ?_
     rintro e WL ⟨⟨nl,rfl,hnl⟩,hbn⟩
     obtain⟨AL,cL,rfl,_⟩:=mx_slice hnl
     have HOL:=Lib.hid hnl
     have HSL:=Lib.hid hbn
     clear hbn hnl
     have HX21L:=Lib.hid ((HSL.out.block _ (heap_lt HX21.out)).trans HX21.out)
     have hzL:=HSL.out.size
     have h21:=heap_lt HX21L.out
     have HFL:=Lib.hid (HSS.out.trans (HSL.out.mono HSS.out.size))
     have HLL:=Lib.hid (show IntsIn (fun g=> ¬(g=p21∨WL.heap.size≤g)) WL (.slice AL L.length cL) L from(IntsIn.of_own HOL.out).lt.mono fun g hg=>by
      have h1:=hg.1.1
      have h2:=hg.2
      have h3:=heap_lt HX21.out
      omega)
     have HHL:=Lib.hid (show IntsIn (fun g=> ¬(g=p21∨WL.heap.size≤g)) WL (.slice Av h1.length cv) h1 from(HOVn.out.lt.below HFL.out).mono fun g hg=>by
      have h2:=hg.2
      have h3:=HFL.out.size
      omega)
     clear e0 e1 e2 e3
     go_wp2_with fail
     go_loopw [24] (fun iv wz=> ∃(q:Nat) (Ah:Option Addr) (ch:Nat),q≤L.length∧iv= .int .i64 q∧Hid (wz.heap[p21]? =some (.cells #[.bool false,.int .i64 si,.slice El sl.length ek,.slice Ah q ch] 78 (0,0)))∧Hid (wz.ownsRow WL.heap.size 3 1 (.slice Ah q ch) q (((L.take q).map fun j=>h1.getD j.toNat 0).map (Value.int .i64)))∧Hid (Kept (fun g=>g=p21∨WL.heap.size≤g) WL wz)) (fun iv _=>L.length-(intOf iv).toNat)
     case atStart=>exact⟨0,none,0,Nat.zero_le _,rfl,HX21L,Lib.hid (World.ownsRow_nil _ _ _ _),Lib.hid (Kept.refl _ _)⟩
     case round=>
      obtain⟨q,Ah,ch,hq,rfl,H21,HQ,HKZ⟩:=hrel
      clear HX21L
      have hzk:=HKZ.out.size
      by_cases hqL:q<L.length
      ·obtain⟨x,hx⟩:=atOf hqL
       obtain⟨hx0,hx1⟩:=HLI.out x (List.mem_of_getElem? hx)
       obtain⟨xn,rfl⟩: ∃xn:Nat,x=xn:=⟨x.toNat,by omega⟩
       obtain⟨y,hy⟩: ∃y,h1[xn]? =some y:=⟨_,List.getElem?_eq_getElem (by omega)⟩
       obtain⟨A2',c2',hA2,_,_,hxs⟩:=HLL.out.kept HKZ.out (fun g h1 h2=>h1 h2)
       simp only[Value.slice.injEq,true_and]at hA2
       obtain⟨rfl,rfl⟩:=hA2
       obtain⟨gL,oL,rfl,hgL,hgL2,dL⟩:=hxs q xn hx
       obtain⟨A3',c3',hA3,_,_,hys⟩:=HHL.out.kept HKZ.out (fun g h1 h2=>h1 h2)
       simp only[Value.slice.injEq,true_and]at hA3
       obtain⟨rfl,rfl⟩:=hA3
       obtain⟨gH,oH,rfl,hgH,hgH2,dH⟩:=hys xn y hy
       have HTK:=Lib.hid (show(L.take (q+1)).map (fun j:Int=>h1.getD j.toNat 0)=(L.take q).map (fun j:Int=>h1.getD j.toNat 0)++ [y]from by
        rw[List.take_add_one,hx,List.map_append]
        simp[hy])
       have c3:=mx_cell (j:=3) H21.out
       have hxl:(xn:Int)<(h1.length:Int):=hx1
       have h21r:=heap_lt H21.out
       clear hxs hys hx hy
       go_upto_region 21 with fail
       refine wp_region_sink_at (fun X=>X.cell? ⟨p21,3,none⟩=some (.slice Ah q ch)∧X.cell? ⟨gL,oL+q,none⟩=some (.int .i64 xn)∧X.cell? ⟨gH,oH+xn,none⟩=some (.int .i64 y)) (by kernel_rfl) rfl (by kernel_rfl) ⟨((mx_drew wr).cell (p:=⟨p21,3,none⟩) h21r).trans c3,((mx_drew wr).cell (p:=⟨gL,oL+q,none⟩) hgL).trans dL,((mx_drew wr).cell (p:=⟨gH,oH+xn,none⟩) hgH).trans dH⟩ (fun hHeld=>?_)
       obtain⟨xD,hxD⟩: ∃z,wr.drew=z:=⟨_,rfl⟩
       have hbD:=mx_drew wr
       rw[hxD]at hHeld hbD⊢
       clear hxD c3
       refine takeE 0 107 ?_
       refine takeF 1 108 (fun wq hSw=>hSw.1) ?_
       refine takeE 2 109 ?_
       refine takeE 3 110 ?_
       refine takeE 4 111 ?_
       refine takeE 5 112 ?_
       refine takeF 6 113 (fun wq hSw=>hSw.2.1) ?_
       refine takeE 7 114 ?_
       refine takeF 8 115 (fun wq hSw=>hSw.2.2) ?_
       refine ready1 9 (fun KK hKK=>?_)
       go_simp
       obtain⟨xN,hxN,hbN,hcN,hzN⟩:=al_new xD #[.int .i64 y] 3
       rw[hxN]
       have hbw:=hbD.trans (hbN.mono hbD.size)
       refine hKK.out _ _ ⟨(hbN.cell (p:=⟨p21,3,none⟩) (by have:=hbD.size;show p21<_;omega)).trans hHeld.1,(hbN.cell (p:=⟨gL,oL+q,none⟩) (by have:=hbD.size;show gL<_;omega)).trans hHeld.2.1,(hbN.cell (p:=⟨gH,oH+xn,none⟩) (by have:=hbD.size;show gH<_;omega)).trans hHeld.2.2⟩ (fun hHeld1=>?_)
       clear hKK hHeld
       have hbwz:=hbw.size
       have hzDz:=hbD.size
       refine ready1 10 (fun KK hKK=>?_)
       rw[if_pos (by rfl)]
       refine wp_append_at 117 (by rfl) _ _ 32 rfl WL.heap.size 3 i0 (.int .i64 0) 1 8 Tryz.underlying32 hi0 iz1 iz2 iz3 rfl (by decide) _ q _ (by rfl) (own_below HQ.out hbw) ⟨xD.heap.size,0,none⟩ 1 1 [.int .i64 y] (by rfl) rfl (by rw[←hxN];exact cell_one_new' _ _ _) (by simp[Value.oneCell']) (by unfold maxLen;omega) (by omega) (by omega) ?_
       intro v' w2 hown hgrow hat
       obtain⟨Aw,cw,rfl,_⟩:=mx_slice hown
       have hkg:Kept (fun g=>(Value.slice Ah q ch).ownBlock=some g) wr w2:=(Kept.of_below hbw).trans (Kept.grown hgrow) (fun i hi e=>e.symm)
       have hob: ∀g,(Value.slice Ah q ch).ownBlock=some g→WL.heap.size≤g:=fun g e=>(own_lt HQ.out g e).1
       have n21:(Value.slice Ah q ch).ownBlock≠some p21:=fun e=>by have:=hob _ e;omega
       have nL:(Value.slice Ah q ch).ownBlock≠some gL:=fun e=>hgL2 (.inr (hob _ e))
       have nH:(Value.slice Ah q ch).ownBlock≠some gH:=fun e=>hgH2 (.inr (hob _ e))
       have hb2:=(hkg.block p21 h21r n21).trans H21.out
       refine hKK.out _ _ ⟨mx_cell (j:=3) hb2,(hkg.cell (p:=⟨gL,oL+q,none⟩) hgL nL).trans dL,(hkg.cell (p:=⟨gH,oH+xn,none⟩) hgH nH).trans dH⟩ (fun hHeld2=>?_)
       clear hKK hHeld1
       refine takeE 11 118 ?_
       refine wpAnyH_done (by kernel_rfl) ?_ _
       refine lastPost_normal ?_
       have d3:=mx_cell (j:=3) hb2
       have g3:=oj_free (j:=3) hb2
       refine wpOp_step rfl (fun KK hKK=>?_)
       go_simp
       refine hKK _ _ ?_
       have hb3:=mx_set hb2 (j:=3) (.slice Aw (q+1) cw)
       have HKN:=Lib.hid (((HKZ.out.trans hkg (fun i hi e=>.inr (hob i e))).setCell ⟨p21,3,none⟩ (.slice Aw (q+1) cw) (.inl rfl)))
       have HQN:=Lib.hid (own_kept hown ((Kept.refl (fun g=>g=p21) w2).setCell ⟨p21,3,none⟩ (.slice Aw (q+1) cw) rfl) (fun g hg e=>by
        have:=(own_lt hown g hg).1
        omega))
       have H21N:=Lib.hid hb3
       clear hKK d3 g3 hHeld2 hb3 hown hgrow hat hkg hb2 dL dH
       go_wp2_with fail
       go_roundw
       case rel=>exact⟨q+1,Aw,cw,by omega,by go_num,H21N,Lib.hid (by rw[HTK.out,List.map_append];exact HQN.out),HKN⟩
       case measure=>simp[intOf];omega
      ·obtain rfl:q=L.length:=by omega
       have hBF:Below WF.heap.size WF wr:=HFL.out.trans (HKZ.out.below (fun g e=>by rcases e with e|e <;> omega) HFL.out.size)
       have hBFz:=hBF.size
       have hx10:=(hBF.block _ (heap_lt HXn.out)).trans HXn.out
       have hTSr:=HTSn.out.below hBF
       have hENr:=HEn.out.below hBF
       have HBr:=Lib.hid (HBn.out.trans (hBF.mono HBn.out.size))
       have hPr:p10+1≤wr.heap.size:=by have:=HPZn.out;omega
       have hFL1:p10+1≤WL.heap.size:=by have:=HPZn.out;have:=HFL.out.size;omega
       have hHQ:=HQ.out
       rw[List.take_length]at hHQ
       have HLIT:=Lib.hid (HELw.out.below HBr.out)
       have HTSr:=Lib.hid hTSr
       have HENr:=Lib.hid hENr
       have HX10:=Lib.hid hx10
       have HHQ:=Lib.hid (own_mono hHQ hFL1)
       have k0:=mx_cell (j:=0) H21.out
       have k1:=mx_cell (j:=1) H21.out
       have k2':=mx_cell (j:=2) H21.out
       have k3:=mx_cell (j:=3) H21.out
       clear hTSr hENr hx10 hHQ
       go_wp2_with (at_builtin;refine wpList_append_own_at _ rfl _ _ 40 rfl (p10+1) 78 s0 (.agg #[.bool false,.int .i64 0,.slice none 0 0,.slice none 0 0]) 4 64 Tryz.underlying40 hs0 sz1 sz2 sz3 rfl (by decide) _ K.length _ rfl (own_below HTSr.out.row (mx_al wr _)) ⟨wr.heap.size,0,none⟩ 1 1 [.bool false,.int .i64 si,.slice El sl.length ek,.slice Ah L.length ch] rfl rfl (fun jj uu hj=>cells_list_new wr [.bool false,.int .i64 si,.slice El sl.length ek,.slice Ah L.length ch] 78 jj uu hj) (by simp[Value.oneCell']) (by unfold maxLen;omega) (by omega) (by simp;omega) ?_;intro v' w9 hown hgrow hnl hat;obtain⟨Aw,kw,hv2,_⟩:=mx_slice hown;subst hv2;have HOWN:=Lib.hid hown;have HG:=Lib.hid hgrow;have HAT:=Lib.hid hat;clear hown hgrow hnl hat)
       clear k0 k1 k2' k3
       have hba:=mx_al wr (.cells #[.bool false,.int .i64 si,.slice El sl.length ek,.slice Ah L.length ch] 78)
       have hb8:=grow_low HTSr.out.row HG.out hPr
       have HTSN:=Lib.hid (TSt.push (HTSr.out.below hba) (by omega) HG.out (⟨false,si,sl,L.map fun j=>h1.getD j.toNat 0⟩,(El,ek),(Ah,ch)) (by simp only[stcell,List.length_map];exact HOWN.out) (HLIT.out.below hba) (by simp only[List.length_map];exact own_below HHQ.out hba))
       have HENN:=Lib.hid (show EntIn (fun g=>g≠p10∧(Value.slice Aw (K.length+1) kw).ownBlock≠some g) w9 (.slice A2 k2.ents.length c2) k2.ents from((HENr.out.ltO.below hba).kept (Kept.grown HG.out) (fun g h1 h2=>h1.1.2 h2.symm)).mono fun g hg=>⟨hg.1.1,fun e=>by
        rcases HAT.out with ha|ha
        ·rw[ha]at e
         exact hg.1.2 e
        ·rw[ha]at e
         have h2:=hg.2
         have:=Option.some.inj e
         have h3:=hba.size
         omega⟩)
       have HXN:=Lib.hid ((hb8.block _ (Nat.lt_succ_self _)).trans HX10.out)
       have HTNN:=Lib.hid (show trmGo k2 (ss.drop (j+1)) (j+1) ((K++ [((⟨false,si,sl,L.map fun j=>h1.getD j.toNat 0⟩,(El,ek),(Ah,ch)):StV)]).map Prod.fst)=T from by rw[List.map_append];exact HTN0.out)
       go_roundw
       case rel=>exact⟨j+1,k2,A2,c2,K++ [(⟨false,si,sl,L.map fun j=>h1.getD j.toNat 0⟩,(El,ek),(Ah,ch))],by omega,by go_num,HOK2,HRUN,HTNN,HXN,HENN,HTSN,Lib.hid (by rw[List.length_append,List.length_singleton];omega),Lib.hid (fun x hx=>by
        rcases List.mem_append.1 hx with hx|hx
        ·exact HKH.out x hx
        ·rw[List.mem_singleton.1 hx]
         simp only[List.length_map]
         omega),Lib.hid (HBr.out.trans (hb8.mono (by omega))),Lib.hid (by have:=hb8.size;omega)⟩
       case measure=>simp[intOf];omega
    ·have q1:((zk:Int)==1)=false:=beq_eq_false_iff_ne.2 (by omega)
     have HTN:=Lib.hid (show trmGo k2 (ss.drop (j+1)) (j+1) (K.map Prod.fst)=T from by have:=HTR2.out;rwa [if_neg hk1]at this)
     go_wp2_with fail
     go_roundw
     case rel=>exact⟨j+1,k2,A2,c2,K,by omega,by go_num,HOK2,HRUN,HTN,HXn,HEn,HTSn,Lib.hid (by omega),HKH,HBn,HPZn⟩
     case measure=>simp[intOf];omega
  ·obtain rfl:j=n:=by omega
   have HTF:=Lib.hid (HTG.out.symm.trans (run_end HRG.out HER0.out.symm HNR.out.symm _))
   obtain⟨b0,hb0,bz1,bz2,bz3⟩:=info_parts binfo_b
   obtain⟨wB,rfl⟩: ∃x:World,x=wr:=⟨_,rfl⟩
   have hkm:K.length≤1000:=by omega
   obtain⟨m,hm⟩: ∃m,K.length=m:=⟨_,rfl⟩
   rw[hm]at HTS hkm⊢
   have HKM:=Lib.hid hm
   obtain⟨ll,hll⟩: ∃l,K.map Prod.fst=l:=⟨_,rfl⟩
   have hlm:ll.length=m:=by rw[←hll,List.length_map,hm]
   have HLL:=Lib.hid (show∀(i:Nat) (x:StV),K[i]? =some x→ll[i]? =some x.1 from fun i x hx=>by rw[←hll,List.getElem?_map,hx];rfl)
   have HLM:=Lib.hid hlm
   have HLLE:=Lib.hid hll
   have HFIN:=Lib.hid (show∀(w':World) (v:Value),StepIn (fun g=>O' g∨w.heap.size≤g) w' v (rPick ll (rTn ll))→RTOut vn cs ss (fun g=>O' g∨w.heap.size≤g) w' (.returned (.tuple #[v,.int .i64 (-1),.int .i64 0]))from fun w' v h=>by
    refine HRT.out _ _ ?_
    rw[HTF.out,if_neg (by simp)]
    exact⟨v,rfl,by simp only[hll,bkL_pick];exact h⟩)
   have HLEN:=Lib.hid (fun i=>rTn_len (ll.drop i))
   have v1:IntKind.i64.wrap ((m:Int)-1)=(m:Int)-1:=IntWalk.i64_in _ (by omega)
   clear hm hll hlm
   go_wp2_with (at_make;refine wpList_make_full _ rfl _ _ 105 rfl wB.heap.size 4 b0 (.bool false) 1 Tryz.underlying105 hb0 bz1 bz2 .i64 .i64 _ _ m rfl rfl rfl rfl (by rw[bz3];omega) (by unfold maxLen;omega) (Nat.le_refl _) ?_;intro w1 hown1 hgrow1;have H1:=Lib.hid (made_b hown1);have HG1:=Lib.hid hgrow1;clear hown1 hgrow1)
   have hb1:Below wB.heap.size wB w1:=Below.grown (Below.refl _ _) HG1.out (Nat.le_refl _) (fun g e=>by cases e)
   have HB1':=Lib.hid hb1
   clear hb1 HG1
   go_loopw [26] (fun iv wr=> ∃(r:Nat) (z:Int),z=(r:Int)-1∧r≤m∧iv= .int .i64 z∧Hid (wr.ownsRow wB.heap.size 4 1 (.slice (some ⟨wB.heap.size,0,none⟩) m m) m ((List.replicate r false++rTn (ll.drop r)).map Value.bool))∧Hid (Below wB.heap.size wB wr)) (fun iv _=>(intOf iv+1).toNat)
   case atStart=>exact⟨m,_,rfl,Nat.le_refl _,rfl,Lib.hid (by rw[List.drop_of_length_le (by rw[HLM.out];exact Nat.le_refl _),rTn,List.append_nil];exact H1.out),HB1'⟩
   case round=>
    obtain⟨r,z,hz,hr,rfl,HTB,HBW⟩:=hrel
    clear v1 H1 HB1'
    have hzw:=HBW.out.size
    by_cases hr0:r=0
    ·subst hr0
     have q2:decide (0≤z)=false:=decide_eq_false (by omega)
     obtain⟨TB,hTB⟩: ∃TB,rTn ll=TB:=⟨_,rfl⟩
     have hTL:TB.length=m:=by rw[←hTB,rTn_len,HLM.out]
     have HTN:=Lib.hid (show wr.ownsRow wB.heap.size 4 1 (.slice (some ⟨wB.heap.size,0,none⟩) m m) m ((TB).map Value.bool)from by
      have:=HTB.out
      rwa [List.replicate_zero,List.nil_append,List.drop_zero,hTB]at this)
     rw[hTB]at HFIN
     have HTL:=Lib.hid hTL
     have HT2:=Lib.hid (HTS.out.below HBW.out)
     have hpz:=HPZ.out
     obtain⟨wo,rfl⟩: ∃wo:World,wo=wr:=⟨_,rfl⟩
     have HEL:=Lib.hid (show∀x∈K,IntsIn (fun g=>(O' g∨w.heap.size≤g)∧g<wo.heap.size) wo (Value.slice x.2.1.1 x.1.lits.length x.2.1.2) x.1.lits∧IntsIn (fun g=>(O' g∨w.heap.size≤g)∧g<wo.heap.size) wo (Value.slice x.2.2.1 x.1.hints.length x.2.2.2) x.1.hints from fun x hx=>⟨((HT2.out.lit x hx).lt).mono (fun g hg=>⟨.inl hg.1.1,hg.2⟩),((IntsIn.of_own (HT2.out.hnt x hx)).lt).mono (fun g hg=>⟨.inr (by have:=hg.1.1;omega),hg.2⟩)⟩)
     clear hz hTB hTL HTB
     go_wp2_with fail
     go_loopw [29,30] (fun v iv wr=> ∃k:Nat,k≤m∧iv= .int .i64 k∧Hid (PSt (fun g=>O' g∨w.heap.size≤g) wo.heap.size wr v (kPick (K.take k) (TB.take k)))∧Hid (Below wo.heap.size wo wr)) (fun _ iv _=>m-(intOf iv).toNat)
     case atStart=>exact⟨0,Nat.zero_le _,rfl,Lib.hid (PSt.nil _ _ _),Lib.hid (Below.refl _ _)⟩
     case round=>
      obtain⟨k,hk,rfl,HPS,HBK⟩:=hrel
      obtain⟨L,hL⟩: ∃L,kPick (K.take k) (TB.take k)=L:=⟨_,rfl⟩
      rw[hL]at HPS
      obtain⟨Ap,cp,rfl,hcp⟩:=mx_slice HPS.out.row
      have hLm:L.length≤1000:=by
       have:=kPick_len (K.take k) (TB.take k)
       rw[hL,List.length_take]at this
       omega
      have hzk:=HBK.out.size
      have HLE:=Lib.hid hL
      clear hL
      by_cases hlt:k<m
      ·obtain⟨x,hx⟩: ∃x,K[k]? =some x:=⟨_,List.getElem?_eq_getElem (by rw[HKM.out];exact hlt)⟩
       obtain⟨tb,htb⟩: ∃tb,TB[k]? =some tb:=⟨_,List.getElem?_eq_getElem (by rw[HTL.out];exact hlt)⟩
       have hst:=kPick_take k K TB x tb hx htb
       rw[HLE.out]at hst
       have d0:wr.cell? ⟨wB.heap.size,k,none⟩=some (.bool tb):=mx_at (own_below HTN.out HBK.out) (by rw[List.getElem?_map,htb];rfl)
       obtain⟨hxl,hxh⟩:=HEL.out x (List.mem_of_getElem? hx)
       obtain⟨gO,rfl,hgO,_,k0,k1,k2,k3⟩:=HT2.out.at hx
       have k0:=(HBK.out.cell (p:=⟨gO,k*4,none⟩) hgO).trans k0
       have k1:=(HBK.out.cell (p:=⟨gO,k*4+1,none⟩) hgO).trans k1
       have k2:=(HBK.out.cell (p:=⟨gO,k*4+2,none⟩) hgO).trans k2
       have k3:=(HBK.out.cell (p:=⟨gO,k*4+3,none⟩) hgO).trans k3
       have HXL:=Lib.hid hxl
       have HXH:=Lib.hid hxh
       have hkm2:(k:Int)<(m:Int):=by omega
       obtain⟨⟨xd,xi,xl,xh⟩,⟨xA,xc⟩,⟨yA,yc⟩⟩:=x
       simp only at k0 k1 k2 k3
       cases tb with
       | true=>
        have HST:=Lib.hid (show kPick (K.take (k+1)) (TB.take (k+1))=L++ [(⟨xd,xi,xl,xh⟩,(xA,xc),(yA,yc))]from hst)
        clear hst hx htb hxl hxh
        go_wp2_with (at_builtin;refine wpList_append_own_at _ rfl _ _ 40 rfl wo.heap.size 78 s0 (.agg #[.bool false,.int .i64 0,.slice none 0 0,.slice none 0 0]) 4 64 Tryz.underlying40 hs0 sz1 sz2 sz3 rfl (by decide) _ L.length _ rfl (own_below HPS.out.row (mx_al wr _)) ⟨wr.heap.size,0,none⟩ 1 1 [.bool xd,.int .i64 xi,.slice xA xl.length xc,.slice yA xh.length yc] rfl rfl (fun jj uu hj=>cells_list_new wr [.bool xd,.int .i64 xi,.slice xA xl.length xc,.slice yA xh.length yc] 78 jj uu hj) (by simp[Value.oneCell']) (by unfold maxLen;omega) (by omega) (by simp;omega) ?_;intro v' w9 hown hgrow hnl hat;obtain⟨Aw,kw,hv2,_⟩:=mx_slice hown;subst hv2;have HOWN:=Lib.hid hown;have HG:=Lib.hid hgrow;clear hown hgrow hnl hat)
        have hb8:=grow_low HPS.out.row HG.out hzk
        have HPN:=Lib.hid (PSt.grown (x:=(⟨xd,xi,xl,xh⟩,(xA,xc),(yA,yc))) HPS.out hb8 HOWN.out (ints_low (ints_low HXL.out HBK.out) hb8) (ints_low (ints_low HXH.out HBK.out) hb8))
        go_roundw
        case rel=>exact⟨k+1,by omega,by go_num,Lib.hid (by rw[HST.out];exact HPN.out),Lib.hid (HBK.out.trans hb8)⟩
        case measure=>simp[intOf];omega
       | false=>
        have HST:=Lib.hid (show kPick (K.take (k+1)) (TB.take (k+1))=L from by rw[hst];exact List.append_nil _)
        clear hst hx htb hxl hxh
        go_wp2_with fail
        go_roundw
        case rel=>exact⟨k+1,by omega,by go_num,Lib.hid (by rw[HST.out];exact HPS.out),HBK⟩
        case measure=>simp[intOf];omega
      ·obtain rfl:k=m:=by omega
       have HKF:=Lib.hid (show L.map Prod.fst=rPick ll TB from by
        rw[←HLE.out,List.take_of_length_le (by rw[HKM.out];exact Nat.le_refl _),List.take_of_length_le (by rw[HTL.out];exact Nat.le_refl _),kPick_fst,HLLE.out])
       have HSI:=HPS.out.stepIn
       rw[HKF.out]at HSI
       have HSI:=Lib.hid (HSI.mono (O':=fun g=>O' g∨w.heap.size≤g) fun g hg=>by
        rcases hg with hg|hg
        ·exact hg
        ·exact .inr (by have:=HBR.out.size;have:=HBW.out.size;omega))
       go_wp2_with fail
       refine bodyPost_ret (res_456 rfl _ _) rfl ?_
       exact⟨HFIN.out _ _ HSI.out,HBR.out.trans ((HBW.out.trans (HBK.out.mono HBW.out.size)).mono HBR.out.size)⟩
    obtain⟨q,rfl⟩: ∃q,r=q+1:=⟨r-1,by omega⟩
    obtain rfl:z=(q:Int):=by omega
    clear hz hr0
    have hqm:q<m:=by omega
    have hqm2:(q:Int)<(m:Int):=by omega
    have hq0:(0:Int)≤(q:Int):=by omega
    have q2:decide (0≤(q:Int))=true:=decide_eq_true hq0
    have w1':IntKind.i64.wrap ((q:Int)-1)=(q:Int)-1:=IntWalk.i64_in _ (by omega)
    obtain⟨x,hx⟩: ∃x,K[q]? =some x:=⟨_,List.getElem?_eq_getElem (by rw[HKM.out];exact hqm)⟩
    obtain⟨t,ht⟩: ∃t,rTn (ll.drop (q+1))=t:=⟨_,rfl⟩
    have htl:t.length=m-(q+1):=by rw[←ht,rTn_len,List.length_drop,HLM.out]
    have HTL:=Lib.hid htl
    have HTN:=Lib.hid (show rTn (ll.drop q)=(x.1.lits.isEmpty||((ll.drop (q+1)).zip t).any fun p=>p.2&&p.1.hints.contains x.1.id)::t from by
     rw[dropAt (HLL.out q x hx),rTn,ht]
     rfl)
    obtain⟨gO,rfl,hgO,_,_,k1,k2,_⟩:=HTS.out.at hx
    have K1:=Lib.hid k1
    have k2:=(HBW.out.cell (p:=⟨gO,q*4+2,none⟩) hgO).trans k2
    have hT0:=HTB.out
    rw[ht,List.replicate_succ',List.append_assoc,List.singleton_append]at hT0
    have d1:wr.cell? ⟨wB.heap.size,q,none⟩=some (.bool false):=mx_at hT0 (by rw[List.getElem?_map,List.getElem?_append_right (by simp),List.length_replicate,Nat.sub_self];rfl)
    have f1:=own_freew hT0 q
    obtain⟨e0,he0⟩: ∃b,x.1.lits.isEmpty=b:=⟨_,rfl⟩
    have hq1:((x.1.lits.length:Int)==0)=e0:=by
     rw[←he0,Bool.eq_iff_iff,beq_iff_eq,List.isEmpty_iff_length_eq_zero]
     omega
    rw[he0]at HTN
    have HT1:=Lib.hid (show(wr.setCell ⟨wB.heap.size,q,none⟩ (.bool e0)).ownsRow wB.heap.size 4 1 (.slice (some ⟨wB.heap.size,0,none⟩) m m) m ((List.replicate q false++e0::t).map Value.bool)from by
     have:=own_setw q hT0 (.bool e0)
     rwa [tab_setb]at this)
    have HB1:=Lib.hid (below_setw HBW.out HBW.out.size (Nat.le_refl _) q (.bool e0))
    clear ht htl hx hT0 HTB he0
    obtain⟨wo,rfl⟩: ∃wo:World,wo=wr:=⟨_,rfl⟩
    go_wp2_with fail
    go_loopw [27] (fun jv wr=> ∃(j:Nat) (b:Bool),q+1≤j∧j≤m∧jv= .int .i64 j∧Hid (b=(e0||(((ll.drop (q+1)).zip t).take (j-(q+1))).any fun p=>p.2&&p.1.hints.contains x.1.id))∧Hid (wr.ownsRow wB.heap.size 4 1 (.slice (some ⟨wB.heap.size,0,none⟩) m m) m ((List.replicate q false++b::t).map Value.bool))∧Hid (Below wB.heap.size wB wr)) (fun jv _=>m-(intOf jv).toNat)
    case atStart=>exact⟨q+1,e0,Nat.le_refl _,by omega,by go_num,Lib.hid (by rw[Nat.sub_self,List.take_zero,List.any_nil,Bool.or_false]),HT1,HB1⟩
    case round=>
     obtain⟨j,b,hj0,hj,rfl,HBV,HTJ,HBJ⟩:=hrel
     clear HT1 HB1 k2 d1 f1
     have hzj:=HBJ.out.size
     by_cases hlt:j<m
     ·obtain⟨y,hy⟩: ∃y,K[j]? =some y:=⟨_,List.getElem?_eq_getElem (by rw[HKM.out];exact hlt)⟩
      obtain⟨tb,htb⟩: ∃tb,t[j-(q+1)]? =some tb:=⟨_,List.getElem?_eq_getElem (by rw[HTL.out];omega)⟩
      have hST:=any_take (F:=fun p:EStep×Bool=>p.2&&p.1.hints.contains x.1.id) (l:=(ll.drop (q+1)).zip t) (i:=j-(q+1)) (x:=(y.1,tb)) (by
       rw[List.getElem?_zip_eq_some]
       exact⟨by rw[List.getElem?_drop,show q+1+(j-(q+1))=j by omega];exact HLL.out j y hy,htb⟩)
      rw[show j-(q+1)+1=j+1-(q+1) by omega]at hST
      have HST:=Lib.hid (show(e0||(((ll.drop (q+1)).zip t).take (j+1-(q+1))).any fun p=>p.2&&p.1.hints.contains x.1.id)=(b||(tb&&y.1.hints.contains x.1.id))from by rw[hST,←Bool.or_assoc,←HBV.out])
      obtain⟨gO2,hgO2e,hgO2,_,_,_,_,j3⟩:=HTS.out.at hy
      obtain rfl:gO=gO2:=congrArg Addr.block (Option.some.inj hgO2e)
      have hyh:=HKH.out y (List.mem_of_getElem? hy)
      have HYH:=Lib.hid (IntsIn.of_own (HTS.out.hnt y (List.mem_of_getElem? hy)))
      obtain⟨⟨yd,yi,yl,yh⟩,⟨yA,ya⟩,⟨zA,za⟩⟩:=y
      simp only at j3 hyh HYH HST
      have J3:=Lib.hid j3
      have HTB2:=Lib.hid htb
      have hjm:(j:Int)<(m:Int):=by omega
      clear hST hgO2e hy htb j3 hgO2
      obtain⟨wj,rfl⟩: ∃x:World,x=wr:=⟨_,rfl⟩
      have c3:=(HBJ.out.cell (p:=⟨gO,j*4+3,none⟩) hgO).trans J3.out
      go_wp2_with fail
      go_loopw [28] (fun kv wr=> ∃(kk:Nat) (b':Bool),kk≤yh.length∧kv= .int .i64 kk∧Hid (b'=(b||(tb&&(yh.take kk).contains x.1.id)))∧Hid (wr.ownsRow wB.heap.size 4 1 (.slice (some ⟨wB.heap.size,0,none⟩) m m) m ((List.replicate q false++b'::t).map Value.bool))∧Hid (Below wB.heap.size wB wr)) (fun kv _=>yh.length-(intOf kv).toNat)
      case atStart=>exact⟨0,b,Nat.zero_le _,rfl,Lib.hid (by simp),HTJ,HBJ⟩
      case round=>
       obtain⟨kk,b',hkk,rfl,HBC,HTC,HBK⟩:=hrel
       clear c3
       have c3:=(HBK.out.cell (p:=⟨gO,j*4+3,none⟩) hgO).trans J3.out
       by_cases hlk:kk<yh.length
       ·obtain⟨hv,hhv⟩:=atOf hlk
        have HCT:=Lib.hid (show(yh.take (kk+1)).contains x.1.id=((yh.take kk).contains x.1.id||(hv==x.1.id))from by
         rw[List.take_add_one,hhv,Bool.eq_iff_iff]
         simp only[Option.toList_some,List.contains_iff_mem,List.mem_append,List.mem_singleton,Bool.or_eq_true,beq_iff_eq]
         exact or_congr Iff.rfl eq_comm)
        obtain⟨A4',c4',hA4,_,_,hzs⟩:=HYH.out
        simp only[Value.slice.injEq,true_and]at hA4
        obtain⟨rfl,rfl⟩:=hA4
        obtain⟨gZ,oZ,rfl,hgZ,_,dX⟩:=hzs kk hv hhv
        obtain⟨eb,heb⟩: ∃e,(hv==x.1.id)=e:=⟨_,rfl⟩
        rw[heb]at HCT
        have hkl2:(kk:Int)<(yh.length:Int):=by omega
        have hbd:=mx_drew wr
        have HBD:=Lib.hid (HBK.out.trans (hbd.mono HBK.out.size))
        have HTD:=Lib.hid (own_below HTC.out hbd)
        have dH:=(HBD.out.cell (p:=⟨gO,j*4+3,none⟩) hgO).trans J3.out
        have dI:=(HBD.out.cell (p:=⟨gO,q*4+1,none⟩) hgO).trans K1.out
        have dX:=(HBD.out.cell (p:=⟨gZ,oZ+kk,none⟩) hgZ).trans dX
        have dQ:=mx_at HTD.out (j:=q) (u:=.bool b') (by rw[List.getElem?_map,List.getElem?_append_right (by simp),List.length_replicate,Nat.sub_self];rfl)
        have dJ:=mx_at HTD.out (j:=j) (u:=.bool tb) (by rw[List.getElem?_map,tab_at hj0,HTB2.out];rfl)
        have fQ:=own_freew HTD.out q
        clear hzs hhv hbd
        go_upto_region 34 with fail
        refine wp_region_sink_at (fun X=>X=wr.drew) (by kernel_rfl) rfl (by kernel_rfl) rfl (fun hS=>?_)
        obtain⟨xD,hxD⟩: ∃z,wr.drew=z:=⟨_,rfl⟩
        rw[hxD]at hS dH dI dX dQ dJ fQ HBD HTD⊢
        clear hxD
        cases b' with
        | true=>
         refine takeE 0 161 ?_
         refine takeE 1 162 ?_
         refine takeE 2 163 ?_
         refine takeE 3 164 ?_
         refine takeE 4 165 ?_
         refine takeF 5 166 (fun wq hSw=>cell_eqw hSw dQ) ?_
         refine takeE 6 167 ?_
         refine takeU 7 168 ?_
         refine takeU 8 169 ?_
         refine takeU 9 170 ?_
         refine takeU 10 171 ?_
         refine takeU 11 172 ?_
         refine takeU 12 173 ?_
         refine takeU 13 174 ?_
         refine takeU 14 175 ?_
         refine takeU 15 176 ?_
         refine takeU 16 177 ?_
         refine takeU 17 178 ?_
         refine takeU 18 179 ?_
         refine takeU 19 180 ?_
         refine takeU 20 181 ?_
         refine takeU 21 182 ?_
         refine takeU 22 183 ?_
         refine takeU 23 184 ?_
         refine takeU 24 185 ?_
         refine takeU 25 186 ?_
         refine takeU 26 187 ?_
         refine takeE 27 188 (v:=.bool true) ?_
         refine takeE 28 189 ?_
         refine wpAnyH_done (by kernel_rfl) ?_ _
         refine lastPost_normal ?_
         refine wpOp_step rfl (fun KK hKK=>?_)
         go_simp
         refine hKK _ _ ?_
         have HTN2:=Lib.hid (show(xD.setCell ⟨wB.heap.size,q,none⟩ (.bool true)).ownsRow wB.heap.size 4 1 (.slice (some ⟨wB.heap.size,0,none⟩) m m) m ((List.replicate q false++true::t).map Value.bool)from by have:=own_setw q HTD.out (.bool true);rwa [tab_setb]at this)
         have HBN2:=Lib.hid (below_setw HBD.out HBD.out.size (Nat.le_refl _) q (.bool true))
         have HBV2:=Lib.hid (show true=(b||(tb&&(yh.take (kk+1)).contains x.1.id))from by rw[HCT.out,Bool.and_or_distrib_left,←Bool.or_assoc,←HBC.out,Bool.true_or])
         clear hKK dQ dJ dI dH dX fQ hS c3
         go_wp2_with fail
         go_roundw
         case rel=>exact⟨kk+1,_,by omega,by go_num,HBV2,HTN2,HBN2⟩
         case measure=>simp[intOf];omega
        | false=>
         cases tb with
         | false=>
          refine takeE 0 161 ?_
          refine takeE 1 162 ?_
          refine takeE 2 163 ?_
          refine takeE 3 164 ?_
          refine takeE 4 165 ?_
          refine takeF 5 166 (fun wq hSw=>cell_eqw hSw dQ) ?_
          refine takeE 6 167 ?_
          refine takeE 7 168 ?_
          refine takeE 8 169 ?_
          refine takeE 9 170 ?_
          refine takeF 10 171 (fun wq hSw=>cell_eqw hSw dJ) ?_
          refine takeE 11 172 ?_
          refine takeU 12 173 ?_
          refine takeU 13 174 ?_
          refine takeU 14 175 ?_
          refine takeU 15 176 ?_
          refine takeU 16 177 ?_
          refine takeU 17 178 ?_
          refine takeU 18 179 ?_
          refine takeU 19 180 ?_
          refine takeU 20 181 ?_
          refine takeU 21 182 ?_
          refine takeU 22 183 ?_
          refine takeU 23 184 ?_
          refine takeU 24 185 ?_
          refine takeU 25 186 ?_
          refine takeE 26 187 (v:=.bool false) ?_
          refine takeE 27 188 (v:=.bool false) ?_
          refine takeE 28 189 ?_
          refine wpAnyH_done (by kernel_rfl) ?_ _
          refine lastPost_normal ?_
          refine wpOp_step rfl (fun KK hKK=>?_)
          go_simp
          refine hKK _ _ ?_
          have HTN2:=Lib.hid (show(xD.setCell ⟨wB.heap.size,q,none⟩ (.bool false)).ownsRow wB.heap.size 4 1 (.slice (some ⟨wB.heap.size,0,none⟩) m m) m ((List.replicate q false++false::t).map Value.bool)from by have:=own_setw q HTD.out (.bool false);rwa [tab_setb]at this)
          have HBN2:=Lib.hid (below_setw HBD.out HBD.out.size (Nat.le_refl _) q (.bool false))
          have HBV2:=Lib.hid (show false=(b||(false&&(yh.take (kk+1)).contains x.1.id))from by rw[Bool.false_and,Bool.or_false];have:=HBC.out;rwa [Bool.false_and,Bool.or_false]at this)
          clear hKK dQ dJ dI dH dX fQ hS c3
          go_wp2_with fail
          go_roundw
          case rel=>exact⟨kk+1,_,by omega,by go_num,HBV2,HTN2,HBN2⟩
          case measure=>simp[intOf];omega
         | true=>
          refine takeE 0 161 ?_
          refine takeE 1 162 ?_
          refine takeE 2 163 ?_
          refine takeE 3 164 ?_
          refine takeE 4 165 ?_
          refine takeF 5 166 (fun wq hSw=>cell_eqw hSw dQ) ?_
          refine takeE 6 167 ?_
          refine takeE 7 168 ?_
          refine takeE 8 169 ?_
          refine takeE 9 170 ?_
          refine takeF 10 171 (fun wq hSw=>cell_eqw hSw dJ) ?_
          refine takeE 11 172 ?_
          refine takeE 12 173 ?_
          refine takeE 13 174 ?_
          refine takeE 14 175 ?_
          refine takeE 15 176 ?_
          refine takeF 16 177 (fun wq hSw=>cell_eqw hSw dH) ?_
          refine takeE 17 178 ?_
          refine takeE 18 179 ?_
          refine takeF 19 180 (fun wq hSw=>cell_eqw hSw dX) ?_
          refine takeE 20 181 ?_
          refine takeE 21 182 ?_
          refine takeE 22 183 ?_
          refine takeE 23 184 ?_
          refine takeF 24 185 (fun wq hSw=>cell_eqw hSw dI) ?_
          refine takeE 25 186 (v:=.bool eb) ?_
          refine takeE 26 187 (v:=.bool eb) ?_
          refine takeE 27 188 (v:=.bool eb) ?_
          refine takeE 28 189 ?_
          refine wpAnyH_done (by kernel_rfl) ?_ _
          refine lastPost_normal ?_
          refine wpOp_step rfl (fun KK hKK=>?_)
          go_simp
          refine hKK _ _ ?_
          have HTN2:=Lib.hid (show(xD.setCell ⟨wB.heap.size,q,none⟩ (.bool eb)).ownsRow wB.heap.size 4 1 (.slice (some ⟨wB.heap.size,0,none⟩) m m) m ((List.replicate q false++eb::t).map Value.bool)from by have:=own_setw q HTD.out (.bool eb);rwa [tab_setb]at this)
          have HBN2:=Lib.hid (below_setw HBD.out HBD.out.size (Nat.le_refl _) q (.bool eb))
          have HBV2:=Lib.hid (show eb=(b||(true&&(yh.take (kk+1)).contains x.1.id))from by rw[HCT.out,Bool.and_or_distrib_left,←Bool.or_assoc,←HBC.out,Bool.false_or,Bool.true_and])
          clear hKK dQ dJ dI dH dX fQ hS c3
          go_wp2_with fail
          go_roundw
          case rel=>exact⟨kk+1,_,by omega,by go_num,HBV2,HTN2,HBN2⟩
          case measure=>simp[intOf];omega
       ·obtain rfl:kk=yh.length:=by omega
        have HBE:=Lib.hid (show b'=(e0||(((ll.drop (q+1)).zip t).take (j+1-(q+1))).any fun p=>p.2&&p.1.hints.contains x.1.id)from by
         rw[HST.out,HBC.out,List.take_length])
        go_wp2_with fail
        go_roundw
        case rel=>exact⟨j+1,b',by omega,by omega,by go_num,HBE,HTC,HBK⟩
        case measure=>simp[intOf];omega
     ·obtain rfl:j=m:=by omega
      have HBF:=Lib.hid (show rTn (ll.drop q)=b::t from by
       rw[HTN.out,HBV.out,List.take_of_length_le]
       rw[List.length_zip,HTL.out]
       exact Nat.min_le_right _ _)
      go_wp2_with fail
      go_roundw
      case rel=>exact⟨q,_,rfl,by omega,rfl,Lib.hid (by rw[HBF.out];exact HTJ.out),HBJ⟩
      case measure=>simp[intOf]
end Go.Proofs.YtajbmjpodeilpaaGreat
