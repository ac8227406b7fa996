/- package salvorlaw14: Good. Plain: a search learns a clause: it is unit behind the level to which it leads, and no clause lay within it. -/
import Derived.Test.YtoojmhjagipmdaaGreatV227
import Derived.Test.YtoojmhjagipmdaaGreatV225
import Derived.Test.YtoojmhjagipmdaaGreatV226
import Derived.Deep.DeepCutAuto
import Derived.Deep.CutBlock
namespace Go.Proofs.YtoojmhjagipmdaaGreat
open Go.RowKit
structure HintsAt (w0 w:World) (v:Value) (k:Nat) (hcl:List (List Int)):Prop where
 ex: ∃vs:List Value,w.ownsRow w0.heap.size 34 1 v k vs∧∀(i:Nat) (d:List Int),i<k→hcl[i]? =some d→∃u,vs[i]? =some u∧IntsIn (fun g=>g<w0.heap.size) w u d
theorem IntsIn.all {O:Nat→Prop} {w:World} {v:Value} {xs:List Int} (h:IntsIn O w v xs):IntsIn (fun _=>True) w v xs:=h.mono fun _ _=>trivial
theorem HintsAt.cls {w0 w:World} {v:Value} {hcl:List (List Int)} (h:HintsAt w0 w v hcl.length hcl):ClsIn (fun _=>True) w v hcl:=by
 obtain⟨vs,hrow,hin⟩:=h.ex
 rcases hrow.2 with⟨rfl,h0⟩|⟨g,cap,cur,rfl,_,hg,hle,_⟩
 ·exact⟨none,0,by rw[h0],by omega,fun _=>rfl,fun i xs hi=>by
   have:=(List.getElem?_eq_some_iff.1 hi).1
   omega⟩
 ·refine⟨_,cap,rfl,hle,(fun h=>by cases h),fun i xs hi=>?_⟩
  obtain⟨u,hu,ho⟩:=hin i xs (List.getElem?_eq_some_iff.1 hi).1 hi
  exact⟨g,0,u,rfl,heap_lt hg,trivial,by rw[Nat.zero_add];exact mx_at hrow hu,ho.all⟩
theorem HintsAt.nil (w0 w:World) (hcl:List (List Int)):HintsAt w0 w (.slice none 0 0) 0 hcl:=⟨[],World.ownsRow_nil _ _ _ _,fun i d h=>by omega⟩
theorem Six.lits {cs:List (List Int)} (h:Six cs):Lits6 cs:=fun c hc=>by
 obtain⟨h1,h2⟩:=h.2 c hc
 refine⟨by omega,fun y hy=>?_⟩
 obtain⟨a1,a2⟩:=h2 y hy
 have h3:=(litV_pos a1).2
 have h4:=(litB_iff y).1 a1
 omega
set_option maxRecDepth 100000 in
set_option maxHeartbeats 16000000 in
theorem law_good {w0 w:World} {lab:Nat→Nat} {sb b ab tb:Nat} {A:Arn} {T:Trl} {S:Wst} {cs:List (List Int)} {av:Value} {us:List Value} {id lv:Int} {c:List Int} {x:Lrn} {hcl:List (List Int)} {f:Int→Int} {n:Nat} (xv:Value) (h:SrAt w0 w lab sb b ab tb A T S cs av us) (h6:Six cs) (hgo:T.order.length≤6) (g:GoodF cs T id lv x hcl f) (hget:A.get id=some c) (hfm:T.failMax c 0=some lv) (hx:LrnAt n w xv x) (hmet:x.met.length≤1000):
  Calls Tryz.prog 33 #[.pointer (some ⟨sb,0,none⟩),.int .i64 id,xv] w fun e w'=>e= .returned (.bool true)∧Below w.heap.size w w':=by
 obtain⟨i0,hi,hz0,hz1,hz2⟩:=info_parts info_cls
 obtain⟨Ax,cx,Ay,cy,Az,cz,rfl,hxa,hya,hza⟩:=hx.parts
 obtain⟨xs,hxs⟩: ∃l,x.lits=l:=⟨_,rfl⟩
 obtain⟨ys,hys⟩: ∃l,x.hints=l:=⟨_,rfl⟩
 obtain⟨zs,hzs⟩: ∃l,x.met=l:=⟨_,rfl⟩
 obtain⟨BK,hbk⟩: ∃l,x.back=l:=⟨_,rfl⟩
 obtain⟨LS,hls⟩: ∃l,x.levels=l:=⟨_,rfl⟩
 obtain⟨xb,hxb⟩: ∃z,w.heap.size=z:=⟨_,rfl⟩
 obtain⟨wa,hwa⟩: ∃z,w.alloc (.cells #[.slice Ax x.lits.length cx,.int .i64 x.back,.int .i64 x.levels,.slice Ay x.hints.length cy,.slice Az x.met.length cz] 65)=z:=⟨_,rfl⟩
 have hba:Below w.heap.size w wa:=by rw[←hwa];exact mx_al _ _
 have hbn:wa.heap[xb]? =some (.cells #[.slice Ax x.lits.length cx,.int .i64 x.back,.int .i64 x.levels,.slice Ay x.hints.length cy,.slice Az x.met.length cz] 65 (0,0)):=by rw[←hwa,←hxb];exact World.alloc_heap_new _ _
 have hga:SrAt w0 wa lab sb b ab tb A T S cs av us:=h.below hba
 have hc:=g.chk
 obtain⟨u0,hck⟩: ∃u0,chkP x.lits hcl=(u0,x.hints.length,0):=⟨(chkP x.lits hcl).1,Prod.ext rfl hc⟩
 rw[hxs,hys,hzs,hbk,hls]at hwa hbn⊢
 have HG:=Lib.hid g
 have glit:=g.lit
 have ghint:=g.hint
 have glast:=g.last
 have glev:=g.lev
 have gnl:=g.nlev
 have glook:=g.look
 have gpos:=g.pos
 have gfew:=g.few
 have gl6:=g.lits6
 have glb:=g.litb
 have gcl:=g.clsb
 have gtr:=g.trm
 have gsat:=g.sat
 have gback:=g.back
 have glen:=g.len
 have glr:=g.litr
 have HXS:=Lib.hid (fun(W:World) (hb:Below wa.heap.size wa W)=>(show IntsIn (fun _=>True) W (.slice Ax xs.length cx) xs from by have:=(hxa W (hba.trans (hb.mono hba.size))).all;rwa [hxs]at this))
 have HYS:=Lib.hid (fun(W:World) (hb:Below wa.heap.size wa W)=>(show IntsIn (fun _=>True) W (.slice Ay ys.length cy) ys from by have:=(hya W (hba.trans (hb.mono hba.size))).all;rwa [hys]at this))
 have HZS:=Lib.hid (fun(W:World) (hb:Below wa.heap.size wa W)=>(show IntsIn (fun _=>True) W (.slice Az zs.length cz) zs from by have:=(hza W (hba.trans (hb.mono hba.size))).all;rwa [hzs]at this))
 rw[hxs]at glit glev gnl glook gl6 glb gtr gsat gback glr hck
 rw[hys]at ghint glast gpos gfew gtr glen hck
 rw[hzs,hbk]at glit
 rw[hzs]at hmet
 rw[hbk]at gback
 rw[hls]at glev gnl
 obtain⟨M,hM⟩: ∃M,ys.length=M:=⟨_,rfl⟩
 obtain⟨M1,hM1⟩: ∃M1,M1+1=M:=⟨M-1,by omega⟩
 obtain⟨NX,hNX⟩: ∃NX,xs.length=NX:=⟨_,rfl⟩
 rw[hM]at glast gpos gfew gtr glen hck hwa hbn HYS⊢
 rw[hNX]at glev gl6 gback hwa hbn HXS⊢
 have HBN:=Lib.hid (fun(W:World) (hb:Below wa.heap.size wa W)=>(cells5 ((hb.block xb (heap_lt hbn)).trans hbn)).1)
 have HWA:=Lib.hid hwa
 have HBA:=Lib.hid hba
 have HA:=Lib.hid hga
 have HLIT:=Lib.hid glit
 have HHINT:=Lib.hid ghint
 have HLAST:=Lib.hid (show ys[M1]? =some id from by rw[←hM1,Nat.add_sub_cancel]at glast;exact glast)
 have HLOOK:=Lib.hid glook
 have HLB:=Lib.hid glb
 have HCL:=Lib.hid gcl
 have HTR:=Lib.hid gtr
 have HSAT:=Lib.hid gsat
 have HBACK:=Lib.hid gback
 have HLEN:=Lib.hid glen
 have HCK:=Lib.hid hck
 have HNL:=Lib.hid gnl
 have HMM:=Lib.hid hM
 have HNN:=Lib.hid hNX
 have HLV:=Lib.hid (fun(W:World) (hb:Below wa.heap.size wa W)=>an_level ab tb A T id c W (hga.below hb).lw.sys.ar (hga.below hb).lw.sys.tr hget)
 rw[hfm,show levelVal (some lv)= .tuple #[.int .i64 lv,.int .i64 0]from rfl]at HLV
 have HLS:=Lib.hid (fun(W:World) (hb:Below wa.heap.size wa W)=>an_levels tb T _ xs W (hga.below hb).lw.sys.tr (HXS.out W hb) glb)
 rw[gnl]at HLS
 have hsbl:=hga.sblt
 have hxbl:=heap_lt hbn
 have hxbw:w.heap.size=xb:=hxb
 have HLR:=Lib.hid glr
 have g0:=Lib.hid HG.out.asg
 clear h g hx hxa hya hza hxs hys hzs hbk hls hba hbn hga hc hck glit ghint glast glook glb gcl gtr gsat gback glen hwa hget hfm gnl hM hNX glr hxb
 rw[hxbw]at HBA⊢
 go_enter Tryz.func33,Tryz.ntmps33
 go_wp2_with fail
 rw[HWA.out]
 go_loopw [7,32] (fun hv i wr=> ∃k:Nat,k≤M∧i= .int .i64 k∧Hid (HintsAt wa wr hv k hcl)∧Hid (Below wa.heap.size wa wr)) (fun _ i _=>M-(intOf i).toNat)
 case atStart=>exact⟨0,Nat.zero_le _,rfl,Lib.hid (HintsAt.nil _ _ _),Lib.hid (Below.refl _ _)⟩
 case round=>
  obtain⟨k,hk,rfl,HH,HB⟩:=hrel
  by_cases hlt:k<M
  ·obtain⟨hh,hhk⟩:=getElem_of (show k<ys.length by rw[HMM.out];exact hlt)
   obtain⟨i,d,hhi,hid,hcd⟩:=HHINT.out k hh hhk
   have HAR:=Lib.hid (HA.out.below HB.out)
   obtain⟨-,-,-,e3⟩:=HAR.out.cells
   obtain⟨A',c',hAc,_,_,hyc⟩:=HYS.out wr HB.out
   simp only[Value.slice.injEq]at hAc
   obtain⟨rfl,-,rfl⟩:=hAc
   obtain⟨gy,oy,rfl,hgy,_,d0⟩:=hyc k hh hhk
   obtain⟨Aa,ca,hav,hca,_,hux⟩:=HA.out.cls.lt.below HB.out
   obtain⟨ga,oa,u,rfl,hga,_,hda,hu⟩:=hux i d hid
   subst hav
   have HU:=Lib.hid hu
   obtain⟨Au,cu,rfl,_⟩:=hu
   have hil:=(List.getElem?_eq_some_iff.1 hid).1
   have hcs9:=h6.1
   have q1:decide (hh<1)=false:=by simp;omega
   have q2:decide ((cs.length:Int)<hh)=false:=by simp;omega
   have q3:IntKind.i64.wrap (hh-1)=(i:Int):=by rw[IntWalk.i64_in _ (by omega)];omega
   have q4:(i:Int)<(cs.length:Int):=by omega
   obtain⟨vs,hrow,hin⟩:=HH.out.ex
   obtain⟨Ah,ch,rfl,_⟩:=mx_slice hrow
   have HROW:=Lib.hid hrow
   have HIN:=Lib.hid hin
   have HCD:=Lib.hid hcd
   clear hhi hid hcd hyc hux hhk hrow hin HH
   go_wp2_with (at_builtin;refine wpList_append_own_at _ rfl _ _ 28 rfl wa.heap.size 34 i0 (.slice none 0 0) 1 24 Tryz.underlying28 hi hz0 hz1 hz2 rfl (by decide) _ k _ rfl (own_below HROW.out (mx_al wr _)) ⟨wr.heap.size,0,none⟩ 1 1 [.slice Au d.length cu] rfl rfl (fun i u hi=>by
    match i,hi with
    | 0,hi=>simp at hi;subst hi;simp[Addr.add]) (fun u hu=>by rw[List.mem_singleton.1 hu];rfl) (by unfold maxLen;omega) (by omega) (by have:=HB.out.size;simp;omega) ?_;intro v' w2 hown hgrow hnl2 hat)
   have hbx:=mx_al wr (.cells #[.slice Au d.length cu] 34)
   have hsz:=HB.out.size
   have hkx:Kept (fun g=>wa.heap.size≤g) wr w2:=(Kept.of_below hbx).trans (Kept.grown hgrow) (fun i _ e=>(own_lt HROW.out i e.symm).1)
   have HB2:=Lib.hid (HB.out.trans (hkx.below (fun i h=>h) hsz))
   have HH2:=Lib.hid (show HintsAt wa w2 v' (k+1) hcl from⟨_,hown,fun j d' hj hd'=>by
    have hvl:vs.length=k:=by have:=HROW.out.1;omega
    rcases Nat.lt_or_ge j k with hjk|hjk
    ·obtain⟨u',a1,a2⟩:=HIN.out j d' hjk hd'
     exact⟨u',by rw[List.getElem?_append_left (by omega)];exact a1,a2.kept hkx (fun g hg h=>by omega)⟩
    ·obtain rfl:j=k:=by omega
     rw[HCD.out]at hd'
     obtain rfl:=Option.some.inj hd'
     exact⟨_,by rw[List.getElem?_append_right (by omega),hvl,Nat.sub_self];rfl,(HU.out.mono (fun g hg=>hg.2)).kept hkx (fun g hg h=>by omega)⟩⟩)
   obtain⟨Av2,cv2,rfl,_⟩:=mx_slice hown
   clear hown hgrow hnl2 hat hbx hsz hkx
   go_wp2_with fail
   go_roundw
   case rel=>exact⟨k+1,by omega,by go_num,HH2,HB2⟩
   case measure=>simp[intOf];omega
  ·obtain rfl:k=M:=by omega
   have hcla:=(show HintsAt wa wr _ hcl.length hcl from by rw[HLEN.out];exact HH.out).cls
   have HCLA:=Lib.hid hcla
   obtain⟨Ah,ch,rfl,_⟩:=hcla
   have hcll:=HLEN.out
   have d60:=(HBN.out wr HB.out).1
   have hck:=rup_Check _ _ xs hcl wr (HXS.out wr HB.out) HCLA.out HLB.out HCL.out (by omega)
   rw[HCK.out]at hck
   have HCKW:=Lib.hid hck
   rw[hcll]at HCLA
   rw[hcll]at hck HCKW⊢
   clear hck HH hlt hk
   go_wp2_with fail
   refine HCKW.out.mono ?_
   rintro e w3 ⟨rfl,hb3⟩
   have HB3:=Lib.hid (HB.out.trans (hb3.mono HB.out.size))
   have HTRW:=Lib.hid (rup_Trim _ _ xs hcl w3 (HXS.out w3 HB3.out) (HCLA.out.below hb3) HLB.out HCL.out (by omega))
   have d61:=(HBN.out w3 HB3.out).1
   rw[HCK.out,HTR.out]at HTRW
   clear hb3 HCKW d60
   go_wp2_with fail
   refine HTRW.out.mono ?_
   rintro e w4 ⟨vt,rfl,ht4,hb4⟩
   obtain⟨At,ct,rfl,_⟩:=mx_slice ht4
   have HB4:=Lib.hid (HB3.out.trans (hb4.mono HB3.out.size))
   clear ht4 hb4 HTRW d61
   obtain⟨e0,e1,-,e3⟩:=(HA.out.below HB4.out).cells
   obtain⟨b0,b1,b2,b3,b4⟩:=HBN.out w4 HB4.out
   have hsb4:sb<w4.heap.size:=Nat.lt_of_lt_of_le hsbl HB4.out.size
   have hxb4:xb<w4.heap.size:=Nat.lt_of_lt_of_le hxbl HB4.out.size
   go_upto_region 11 with fail
   refine wp_region_held_drew (S:=fun w'=>Below w4.heap.size w4 w') (by kernel_rfl) (mx_drew w4) (fun hS=>?_)
   refine takeE 0 74 ?_
   refine takeF 1 75 (fun wq hSw=>(hSw.cell (p:=⟨xb,0,none⟩) hxb4).trans b0) ?_
   refine takeE 2 76 ?_
   refine takeE 3 77 ?_
   refine takeE 4 78 ?_
   refine takeF 5 79 (fun wq hSw=>(hSw.cell (p:=⟨sb,1,none⟩) hsb4).trans e1) ?_
   refine ready1 6 (fun K hK=>?_)
   go_simp
   refine(law_assigned14 tb T _ ((HA.out.below HB4.out).below hS).lw.sys.tr (by omega)).mono ?_
   rintro e w5 ⟨va,rfl,hra,hbN⟩
   obtain⟨Av,cv,rfl,_⟩:=mx_slice hra
   have hSN:=hS.trans (hbN.mono hS.size)
   have HRA:=Lib.hid (IntsIn.of_own hra)
   refine hK.out _ _ hSN (fun _=>?_)
   clear hK hbN hS hra
   have hS:=hSN
   clear hSN
   have HLKW:=Lib.hid (rup_Look _ _ xs T.order w5 (HXS.out w5 (HB4.out.trans (hS.mono HB4.out.size))) HRA.out HLB.out f g0.out (clause_len HLB.out) (by omega))
   rw[HLOOK.out]at HLKW
   refine ready1 7 (fun K hK=>?_)
   go_simp
   refine(HLKW.out).mono ?_
   rintro e w6 ⟨rfl,hbN⟩
   have hSN:=hS.trans (hbN.mono hS.size)
   refine hK.out _ _ hSN (fun _=>?_)
   clear hK hbN hS
   have hS:=hSN
   clear hSN
   refine takeE 8 73 ?_
   refine takeE 9 82 ?_
   refine takeE 10 83 ?_
   refine takeE 11 84 ?_
   refine takeE 12 14 ?_
   refine takeE 13 15 ?_
   refine takeE 14 16 ?_
   refine wpAnyH_done (by kernel_rfl) ?_ _
   have HB6:=Lib.hid (HB4.out.trans (hS.mono HB4.out.size))
   clear hS HLKW HRA
   clear e0 e1 e3 b0 b1 b2 b3 b4 hsb4 hxb4
   obtain⟨e0,e1,-,e3⟩:=(HA.out.below HB6.out).cells
   obtain⟨b0,b1,b2,b3,b4⟩:=HBN.out w6 HB6.out
   have hsb4:sb<w6.heap.size:=Nat.lt_of_lt_of_le hsbl HB6.out.size
   have hxb4:xb<w6.heap.size:=Nat.lt_of_lt_of_le hxbl HB6.out.size
   go_upto_region 12 with fail
   refine wp_region_held_drew (S:=fun w'=>Below w6.heap.size w6 w') (by kernel_rfl) (mx_drew w6) (fun hS=>?_)
   refine takeE 0 86 ?_
   refine takeE 1 87 ?_
   refine takeE 2 88 ?_
   refine takeF 3 89 (fun wq hSw=>(hSw.cell (p:=⟨sb,0,none⟩) hsb4).trans e0) ?_
   refine takeE 4 90 ?_
   refine takeE 5 91 ?_
   refine takeE 6 92 ?_
   refine takeF 7 93 (fun wq hSw=>(hSw.cell (p:=⟨sb,1,none⟩) hsb4).trans e1) ?_
   refine takeE 8 94 ?_
   refine ready1 9 (fun K hK=>?_)
   go_simp
   refine(HLV.out _ (HB6.out.trans (hS.mono HB6.out.size))).mono ?_
   rintro e w7 ⟨rfl,hbN⟩
   have hSN:=hS.trans (hbN.mono hS.size)
   refine hK.out _ _ hSN (fun _=>?_)
   clear hK hbN hS
   have hS:=hSN
   clear hSN
   refine takeE 10 85 ?_
   refine takeE 11 96 ?_
   refine takeE 12 97 ?_
   refine takeE 13 17 ?_
   refine takeE 14 18 ?_
   refine wpAnyH_done (by kernel_rfl) ?_ _
   have HB7:=Lib.hid (HB6.out.trans (hS.mono HB6.out.size))
   clear hS HLV
   clear e0 e1 e3 b0 b1 b2 b3 b4 hsb4 hxb4
   obtain⟨e0,e1,-,e3⟩:=(HA.out.below HB7.out).cells
   obtain⟨b0,b1,b2,b3,b4⟩:=HBN.out w7 HB7.out
   have hsb4:sb<w7.heap.size:=Nat.lt_of_lt_of_le hsbl HB7.out.size
   have hxb4:xb<w7.heap.size:=Nat.lt_of_lt_of_le hxbl HB7.out.size
   go_upto_region 13 with fail
   refine wp_region_held_drew (S:=fun w'=>Below w7.heap.size w7 w') (by kernel_rfl) (mx_drew w7) (fun hS=>?_)
   refine takeE 0 99 ?_
   refine takeE 1 100 ?_
   refine takeE 2 101 ?_
   refine takeF 3 102 (fun wq hSw=>(hSw.cell (p:=⟨sb,1,none⟩) hsb4).trans e1) ?_
   refine takeE 4 103 ?_
   refine takeF 5 104 (fun wq hSw=>(hSw.cell (p:=⟨xb,0,none⟩) hxb4).trans b0) ?_
   refine ready1 6 (fun K hK=>?_)
   go_simp
   refine(HLS.out _ (HB7.out.trans (hS.mono HB7.out.size))).mono ?_
   rintro e w8 ⟨rfl,hbN⟩
   have hSN:=hS.trans (hbN.mono hS.size)
   refine hK.out _ _ hSN (fun _=>?_)
   clear hK hbN hS
   have hS:=hSN
   clear hSN
   refine takeE 7 98 ?_
   refine takeE 8 106 ?_
   refine takeE 9 107 ?_
   refine takeE 10 19 ?_
   refine takeE 11 20 ?_
   refine wpAnyH_done (by kernel_rfl) ?_ _
   have HB8:=Lib.hid (HB7.out.trans (hS.mono HB7.out.size))
   clear hS HLS
   clear e0 e1 e3 b0 b1 b2 b3 b4 hsb4 hxb4
   obtain⟨e0,e1,-,e3⟩:=(HA.out.below HB8.out).cells
   obtain⟨b0,b1,b2,b3,b4⟩:=HBN.out w8 HB8.out
   have hsb4:sb<w8.heap.size:=Nat.lt_of_lt_of_le hsbl HB8.out.size
   have hxb4:xb<w8.heap.size:=Nat.lt_of_lt_of_le hxbl HB8.out.size
   obtain⟨A',c',hAc,_,_,hyc⟩:=HYS.out w8 HB8.out
   simp only[Value.slice.injEq]at hAc
   obtain⟨rfl,-,rfl⟩:=hAc
   obtain⟨gy,oy,rfl,hgy,_,d0⟩:=hyc M1 id HLAST.out
   have qm:((k:Int) != (k:Int))=false:=by simp
   have ql:(LS != LS)=false:=by simp
   have qi:(id != id)=false:=by simp
   have qz:((k:Int)==0)=false:=by simp;omega
   have qw:IntKind.i64.wrap ((k:Int)-1)=(M1:Int):=by rw[IntWalk.i64_in _ (by omega)];omega
   have qb:(M1:Int)<(k:Int):=by omega
   have qs:decide ((NX:Int)<LS)=false:=by simp;omega
   clear hyc
   clear HTR HCL HLAST HHINT HCK HLOOK HNL
   go_wp2_with fail
   go_loopw [21,169] (fun atv iv wr=> ∃(j:Nat) (at_:Int),j≤NX∧iv= .int .i64 j∧atv= .int .i64 at_∧Hid (∀y',0<j→xs[j-1]? =some y'→at_=T.place (litV y':Nat))∧Hid (Below wa.heap.size wa wr)) (fun _ iv _=>NX-(intOf iv).toNat)
   case atStart=>exact⟨0,0,Nat.zero_le _,rfl,rfl,Lib.hid (fun _ h=>by omega),HB8⟩
   case round=>
    clear e0 e1 e3 b0 b1 b2 b3 b4 hsb4 hxb4 d0 qm ql qi qz qw qb qs HB HB3 HB4 HB6 HB7
    obtain⟨j,at_,hj,rfl,rfl,HAT,HB⟩:=hrel
    obtain⟨e0,e1,-,e3⟩:=(HA.out.below HB.out).cells
    obtain⟨b0,b1,b2,b3,b4⟩:=HBN.out wr HB.out
    have hsb4:sb<wr.heap.size:=Nat.lt_of_lt_of_le hsbl HB.out.size
    have hxb4:xb<wr.heap.size:=Nat.lt_of_lt_of_le hxbl HB.out.size
    by_cases hlt:j<NX
    ·obtain⟨y,hyj⟩:=getElem_of (show j<xs.length by rw[HNN.out];exact hlt)
     obtain⟨N,q,g1,g2,g3,g4,g5,g6,g7,g8⟩:=HLIT.out j y hyj
     obtain⟨A2',c2',hAc,_,_,hxc⟩:=HXS.out wr HB.out
     simp only[Value.slice.injEq]at hAc
     obtain⟨rfl,-,rfl⟩:=hAc
     obtain⟨gx,ox,rfl,hgx,_,d0⟩:=hxc j y hyj
     have HTL:=Lib.hid (fun W (hb:Below wa.heap.size wa W)=>tr_level tb T ((litV y:Nat):Int) W (HA.out.below hb).lw.sys.tr)
     have HTP:=Lib.hid (fun W (hb:Below wa.heap.size wa W)=>tr_place tb T ((litV y:Nat):Int) W (HA.out.below hb).lw.sys.tr)
     rw[g1,g2]at HTL
     rw[g2,g7]at HTP
     have HCO:=Lib.hid (fun W (hb:Below wa.heap.size wa W)=>contains_i _ zs ((litV y:Nat):Int) W (HZS.out W hb) (by omega))
     rw[List.contains_iff_mem.2 g6]at HCO
     have HNX2:=Lib.hid (show∀y',0<j+1→xs[j+1-1]? =some y'→((q:Nat):Int)=T.place (litV y':Nat)from fun y' _ h=>by
      rw[Nat.add_sub_cancel,hyj]at h
      rw[←Option.some.inj h,g7])
     have HG8:=Lib.hid (show 0<j→at_<(q:Int)∨(q:Int)<at_ from fun h0=>by
      obtain⟨y',hy'⟩:=getElem_of (show j-1<xs.length by rw[HNN.out];omega)
      have h1:=HAT.out y' h0 hy'
      have h2:=g8 y' h0 hy'
      omega)
     have HG9:=Lib.hid (show 0<j→(q:Int)<at_ from fun h0=>by
      obtain⟨y',hy'⟩:=getElem_of (show j-1<xs.length by rw[HNN.out];omega)
      have h1:=HAT.out y' h0 hy'
      have h2:=g8 y' h0 hy'
      omega)
     obtain⟨V,hV⟩: ∃V:Int,((litV y:Nat):Int)=V:=⟨_,rfl⟩
     have HV:=Lib.hid (fun W=>lit_var y W)
     rw[hV]at HV HTL HTP HCO
     obtain⟨B0,hB0⟩: ∃B0,(j==0)=B0:=⟨_,rfl⟩
     rw[hB0]at g4
     have hj0:((j:Int)==0)=B0:=by
      rw[←hB0]
      cases j <;> rfl
     have qn0:(N==0)=false:=by simp;omega
     have HB0:=Lib.hid hB0
     have HG5:=Lib.hid g5
     clear hyj g1 g2 g5 g6 g7 g8 hxc hV hB0 HG8
     go_upto_region 20 with fail
     refine wp_region_held_drew (S:=fun w'=>Below wr.heap.size wr w') (by kernel_rfl) (mx_drew wr) (fun hS=>?_)
     refine takeE 0 175 ?_
     refine takeE 1 176 ?_
     refine takeE 2 177 ?_
     refine takeF 3 178 (fun wq hSw=>(hSw.cell (p:=⟨sb,1,none⟩) hsb4).trans e1) ?_
     refine takeE 4 179 ?_
     refine ready1 5 (fun K hK=>?_)
     go_simp
     refine(HV.out _).mono ?_
     rintro e w' ⟨rfl,rfl⟩
     refine hK.out _ _ hS (fun _=>?_)
     clear hK
     refine ready1 6 (fun K hK=>?_)
     go_simp
     refine(HTL.out _ (HB.out.trans (hS.mono HB.out.size))).mono ?_
     rintro e w9 ⟨rfl,hbN⟩
     have hSN:=hS.trans (hbN.mono hS.size)
     refine hK.out _ _ hSN (fun _=>?_)
     clear hK hbN hS
     have hS:=hSN
     clear hSN
     refine takeE 7 174 ?_
     refine takeE 8 182 ?_
     refine takeE 9 183 ?_
     refine takeE 10 24 ?_
     refine takeE 11 25 ?_
     refine wpAnyH_done (by kernel_rfl) ?_ _
     have HB9:=Lib.hid (HB.out.trans (hS.mono HB.out.size))
     clear hS HTL
     clear e0 e1 e3 b0 b1 b2 b3 b4 hsb4 hxb4
     obtain⟨e0,e1,-,e3⟩:=(HA.out.below HB9.out).cells
     obtain⟨b0,b1,b2,b3,b4⟩:=HBN.out w9 HB9.out
     have hsb4:sb<w9.heap.size:=Nat.lt_of_lt_of_le hsbl HB9.out.size
     have hxb4:xb<w9.heap.size:=Nat.lt_of_lt_of_le hxbl HB9.out.size
     go_upto_region 21 with fail
     go_cut [215] (fun q wx=>q= .bool false∧Hid (Below wa.heap.size wa wx))
     case first=>
      cases B0 with
      | true=>
       have j0:j=0:=by simpa using HB0.out
       have hj1:((j:Int)==1)=false:=by simp;omega
       clear j0
       refine wp_region_held_drew (S:=fun w'=>Below w9.heap.size w9 w') (by kernel_rfl) (mx_drew w9) (fun hS=>?_)
       refine takeE 0 184 ?_
       refine takeE 1 185 ?_
       refine takeE 2 186 ?_
       refine takeE 3 187 ?_
       refine takeE 4 188 ?_
       refine takeE 5 189 ?_
       refine takeE 6 190 ?_
       refine takeE 7 191 ?_
       refine takeE 8 192 ?_
       refine takeE 9 193 ?_
       refine takeE 10 194 ?_
       refine takeE 11 195 ?_
       refine takeE 12 196 ?_
       refine takeE 13 197 ?_
       refine takeE 14 198 ?_
       refine takeE 15 199 ?_
       refine takeE 16 200 ?_
       refine takeE 17 201 ?_
       refine takeU 18 202 ?_
       refine takeU 19 203 ?_
       refine takeU 20 204 ?_
       refine takeU 21 205 ?_
       refine takeE 22 206 ?_
       refine takeE 23 207 ?_
       refine takeE 24 208 ?_
       refine takeE 25 209 ?_
       refine takeF 26 210 (fun wq hSw=>(hSw.cell (p:=⟨xb,4,none⟩) hxb4).trans b4) ?_
       refine takeE 27 211 ?_
       refine ready1 28 (fun K hK=>?_)
       go_simp
       refine(HV.out _).mono ?_
       rintro e w' ⟨rfl,rfl⟩
       refine hK.out _ _ hS (fun _=>?_)
       clear hK
       refine ready1 29 (fun K hK=>?_)
       go_simp
       refine(HCO.out _ (HB9.out.trans (hS.mono HB9.out.size))).mono ?_
       rintro e w' ⟨rfl,rfl⟩
       refine hK.out _ _ hS (fun _=>?_)
       clear hK
       refine takeE 30 214 ?_
       refine takeE 31 215 ?_
       refine wpAnyH_done (by kernel_rfl) ?_ _
       go_wp2_with fail
       go_meet
       exact⟨rfl,Lib.hid (HB9.out.trans (hS.mono HB9.out.size))⟩
      | false=>
       by_cases j1:j=1
       ·have hj1:((j:Int)==1)=true:=by simp;omega
        have hnb:(N != BK)=false:=by rw[HG5.out j1];simp
        clear j1
        refine wp_region_held_drew (S:=fun w'=>Below w9.heap.size w9 w') (by kernel_rfl) (mx_drew w9) (fun hS=>?_)
        refine takeE 0 184 ?_
        refine takeE 1 185 ?_
        refine takeE 2 186 ?_
        refine takeE 3 187 ?_
        refine takeE 4 188 ?_
        refine takeE 5 189 ?_
        refine takeE 6 190 ?_
        refine takeE 7 191 ?_
        refine takeE 8 192 ?_
        refine takeE 9 193 ?_
        refine takeE 10 194 ?_
        refine takeE 11 195 ?_
        refine takeE 12 196 ?_
        refine takeE 13 197 ?_
        refine takeE 14 198 ?_
        refine takeE 15 199 ?_
        refine takeE 16 200 ?_
        refine takeE 17 201 ?_
        refine takeE 18 202 ?_
        refine takeE 19 203 ?_
        refine takeF 20 204 (fun wq hSw=>(hSw.cell (p:=⟨xb,1,none⟩) hxb4).trans b1) ?_
        refine takeE 21 205 ?_
        refine takeE 22 206 ?_
        refine takeE 23 207 ?_
        refine takeE 24 208 ?_
        refine takeE 25 209 ?_
        refine takeF 26 210 (fun wq hSw=>(hSw.cell (p:=⟨xb,4,none⟩) hxb4).trans b4) ?_
        refine takeE 27 211 ?_
        refine ready1 28 (fun K hK=>?_)
        go_simp
        refine(HV.out _).mono ?_
        rintro e w' ⟨rfl,rfl⟩
        refine hK.out _ _ hS (fun _=>?_)
        clear hK
        refine ready1 29 (fun K hK=>?_)
        go_simp
        refine(HCO.out _ (HB9.out.trans (hS.mono HB9.out.size))).mono ?_
        rintro e w' ⟨rfl,rfl⟩
        refine hK.out _ _ hS (fun _=>?_)
        clear hK
        refine takeE 30 214 ?_
        refine takeE 31 215 ?_
        refine wpAnyH_done (by kernel_rfl) ?_ _
        go_wp2_with fail
        go_meet
        exact⟨rfl,Lib.hid (HB9.out.trans (hS.mono HB9.out.size))⟩
       ·have hj1:((j:Int)==1)=false:=by simp;omega
        clear j1
        refine wp_region_held_drew (S:=fun w'=>Below w9.heap.size w9 w') (by kernel_rfl) (mx_drew w9) (fun hS=>?_)
        refine takeE 0 184 ?_
        refine takeE 1 185 ?_
        refine takeE 2 186 ?_
        refine takeE 3 187 ?_
        refine takeE 4 188 ?_
        refine takeE 5 189 ?_
        refine takeE 6 190 ?_
        refine takeE 7 191 ?_
        refine takeE 8 192 ?_
        refine takeE 9 193 ?_
        refine takeE 10 194 ?_
        refine takeE 11 195 ?_
        refine takeE 12 196 ?_
        refine takeE 13 197 ?_
        refine takeE 14 198 ?_
        refine takeE 15 199 ?_
        refine takeE 16 200 ?_
        refine takeE 17 201 ?_
        refine takeU 18 202 ?_
        refine takeU 19 203 ?_
        refine takeU 20 204 ?_
        refine takeU 21 205 ?_
        refine takeE 22 206 ?_
        refine takeE 23 207 ?_
        refine takeE 24 208 ?_
        refine takeE 25 209 ?_
        refine takeF 26 210 (fun wq hSw=>(hSw.cell (p:=⟨xb,4,none⟩) hxb4).trans b4) ?_
        refine takeE 27 211 ?_
        refine ready1 28 (fun K hK=>?_)
        go_simp
        refine(HV.out _).mono ?_
        rintro e w' ⟨rfl,rfl⟩
        refine hK.out _ _ hS (fun _=>?_)
        clear hK
        refine ready1 29 (fun K hK=>?_)
        go_simp
        refine(HCO.out _ (HB9.out.trans (hS.mono HB9.out.size))).mono ?_
        rintro e w' ⟨rfl,rfl⟩
        refine hK.out _ _ hS (fun _=>?_)
        clear hK
        refine takeE 30 214 ?_
        refine takeE 31 215 ?_
        refine wpAnyH_done (by kernel_rfl) ?_ _
        go_wp2_with fail
        go_meet
        exact⟨rfl,Lib.hid (HB9.out.trans (hS.mono HB9.out.size))⟩
     case rest=>
      obtain⟨rfl,HB10⟩:=hcut
      clear HB9 HCO
      clear e0 e1 e3 b0 b1 b2 b3 b4 hsb4 hxb4
      obtain⟨e0,e1,-,e3⟩:=(HA.out.below HB10.out).cells
      obtain⟨b0,b1,b2,b3,b4⟩:=HBN.out wc HB10.out
      have hsb4:sb<wc.heap.size:=Nat.lt_of_lt_of_le hsbl HB10.out.size
      have hxb4:xb<wc.heap.size:=Nat.lt_of_lt_of_le hxbl HB10.out.size
      go_upto_region 23 with fail
      refine wp_region_held_drew (S:=fun w'=>Below wc.heap.size wc w') (by kernel_rfl) (mx_drew wc) (fun hS=>?_)
      refine takeE 0 217 ?_
      refine takeE 1 218 ?_
      refine takeE 2 219 ?_
      refine takeF 3 220 (fun wq hSw=>(hSw.cell (p:=⟨sb,1,none⟩) hsb4).trans e1) ?_
      refine takeE 4 221 ?_
      refine ready1 5 (fun K hK=>?_)
      go_simp
      refine(HV.out _).mono ?_
      rintro e w' ⟨rfl,rfl⟩
      refine hK.out _ _ hS (fun _=>?_)
      clear hK
      refine ready1 6 (fun K hK=>?_)
      go_simp
      refine(HTP.out _ (HB10.out.trans (hS.mono HB10.out.size))).mono ?_
      rintro e w11 ⟨rfl,hbN⟩
      have hSN:=hS.trans (hbN.mono hS.size)
      refine hK.out _ _ hSN (fun _=>?_)
      clear hK hbN hS
      have hS:=hSN
      clear hSN
      refine takeE 7 216 ?_
      refine takeE 8 224 ?_
      refine takeE 9 225 ?_
      refine takeE 10 26 ?_
      refine takeE 11 27 ?_
      refine wpAnyH_done (by kernel_rfl) ?_ _
      have HB11:=Lib.hid (HB10.out.trans (hS.mono HB10.out.size))
      clear hS HTP HB10
      by_cases hj1:0<j
      ·have q1:decide ((0:Int)<(j:Int))=true:=by simp;omega
       have q2:decide (at_≤(q:Int))=false:=by
        have:=HG9.out hj1
        simp
        omega
       have hq2:(q:Int)<at_:=HG9.out hj1
       go_wp2_with fail
       go_roundw
       case rel=>exact⟨j+1,q,by omega,by go_num,rfl,HNX2,HB11⟩
       case measure=>simp[intOf];omega
      ·have q1:decide ((0:Int)<(j:Int))=false:=by simp;omega
       go_wp2_with fail
       go_roundw
       case rel=>exact⟨j+1,q,by omega,by go_num,rfl,HNX2,HB11⟩
       case measure=>simp[intOf];omega
    ·have qj:decide ((j:Int)<(NX:Int))=false:=by simp;omega
     go_wp2_with fail
     go_loopw [28] (fun iv wr=> ∃m:Nat,m≤130∧iv= .int .i64 m∧Hid (Below wa.heap.size wa wr)) (fun iv _=>200-(intOf iv).toNat)
     case atStart=>exact⟨0,by decide,rfl,HB⟩
     case round=>
      clear e0 e1 e3 b0 b1 b2 b3 b4 hsb4 hxb4 qj HAT HB
      obtain⟨m,hm,rfl,HB⟩:=hrel
      obtain⟨e0,e1,-,e3⟩:=(HA.out.below HB.out).cells
      obtain⟨b0,b1,b2,b3,b4⟩:=HBN.out wr HB.out
      have hsb4:sb<wr.heap.size:=Nat.lt_of_lt_of_le hsbl HB.out.size
      have hxb4:xb<wr.heap.size:=Nat.lt_of_lt_of_le hxbl HB.out.size
      have hcs9:=h6.1
      by_cases hm2:m<128
      ·have q1:decide ((m:Int)<128)=true:=by simp;omega
       have hm0:(m:Int)<128:=by omega
       have hwm:IntKind.i64.wrap ((m:Int)+2)=((m+2:Nat):Int):=by rw[IntWalk.i64_in _ (by omega)];omega
       have hcl9:=(HA.out.below HB.out).cls
       have HALL:=Lib.hid (law_alltrue _ cs m wr hcl9 hm2 h6.lits (by omega))
       obtain⟨Aa,ca,hav,_⟩:=hcl9
       subst hav
       obtain⟨z,hz⟩: ∃z,allT m cs=z:=⟨_,rfl⟩
       rw[hz]at HALL
       have HZ:=Lib.hid hz
       clear hz
       cases z with
       | false=>
        go_wp2_with fail
        refine HALL.out.mono ?_
        rintro e w9 ⟨rfl,hb9⟩
        have HB9:=Lib.hid (HB.out.trans (hb9.mono HB.out.size))
        clear hb9 HALL
        go_wp2_with fail
        go_roundw
        case rel=>exact⟨m+2,by omega,by go_num,HB9⟩
        case measure=>simp[intOf];omega
       | true=>
        have HTW:=Lib.hid (fun W (hb:Below wa.heap.size wa W)=>law_true _ xs m W (HXS.out W hb) (by have:=HNN.out;omega) hm2 (fun y hy=>by
         obtain⟨a1,a2⟩:=HLR.out y hy
         have h3:=(litV_pos a1).2
         have h4:=(litB_iff y).1 a1
         omega))
        rw[HSAT.out m hm2 HZ.out]at HTW
        go_wp2_with fail
        refine HALL.out.mono ?_
        rintro e w9 ⟨rfl,hb9⟩
        have HB9:=Lib.hid (HB.out.trans (hb9.mono HB.out.size))
        have HT9:=Lib.hid (HTW.out w9 HB9.out)
        have c0:=(HBN.out w9 HB9.out).1
        clear hb9 HALL HTW b0
        go_wp2_with fail
        refine HT9.out.mono ?_
        rintro e w' ⟨rfl,rfl⟩
        go_wp2_with fail
        go_roundw
        case rel=>exact⟨m+2,by omega,by go_num,HB9⟩
        case measure=>simp[intOf];omega
      ·have q1:decide ((m:Int)<128)=false:=by simp;omega
       have HBF:=Lib.hid (HBA.out.trans (HB.out.mono (by have:=HBA.out.size;omega)))
       by_cases hb:1<NX
       ·have q2:decide ((1:Int)<(NX:Int))=true:=by simp;omega
        clear hb
        go_wp2_with fail
        go_ret
        exact⟨rfl,HBF.out⟩
       ·have q2:decide ((1:Int)<(NX:Int))=false:=by simp;omega
        have q3:(BK==0)=true:=by have:=HBACK.out;simp;omega
        clear hb
        go_wp2_with fail
        go_ret
        exact⟨rfl,HBF.out⟩
end Go.Proofs.YtoojmhjagipmdaaGreat
namespace Go.Proofs.YtoojmhjagipmdaaGreat
open Go.RowKit
theorem clsC_wide {cs:List (List Int)} (L:List Int) {id:Int} {c:List Int} (h:clsC cs id=some c):clsC (cs++ [L]) id=some c:=by
 obtain⟨n,rfl,hn,hl⟩:=clsC_some h
 unfold clsC
 rw[if_pos (by omega),show((n:Int)+1-1).toNat=n by omega,List.getElem?_append_left hl]
 exact hn
theorem clsC_last (cs:List (List Int)) (L:List Int):clsC (cs++ [L]) ((cs.length:Int)+1)=some L:=by
 unfold clsC
 rw[if_pos (by omega),show((cs.length:Int)+1-1).toNat=cs.length by omega,List.getElem?_append_right (Nat.le_refl _),Nat.sub_self]
 rfl
theorem clsC_past (cs:List (List Int)):clsC cs ((cs.length:Int)+1)=none:=by
 unfold clsC
 rw[if_pos (by omega),show((cs.length:Int)+1-1).toNat=cs.length by omega,List.getElem?_eq_none (Nat.le_refl _)]
theorem clsC_some2 {cs:List (List Int)} {L:List Int} {id:Int} {c:List Int} (h:clsC (cs++ [L]) id=some c):clsC cs id=some c∨id=(cs.length:Int)+1∧c=L:=by
 obtain⟨n,rfl,hn,hl⟩:=clsC_some h
 rcases Nat.lt_or_ge n cs.length with h1|h1
 ·left
  unfold clsC
  rw[if_pos (by omega),show((n:Int)+1-1).toNat=n by omega]
  rwa [List.getElem?_append_left h1]at hn
 ·right
  rw[List.length_append,List.length_singleton]at hl
  obtain rfl:n=cs.length:=by omega
  rw[List.getElem?_append_right (Nat.le_refl _),Nat.sub_self]at hn
  exact⟨rfl,(Option.some.inj hn).symm⟩
theorem addAll_snoc (c:List Int): ∀(cs:List (List Int)) (A:Arn) (i:Nat),addAll A i (cs++ [c])=(addAll A i cs).put (((i+cs.length:Nat):Int)+1) c:=by
 intro cs
 induction cs with
 | nil=>exact fun _ _=>rfl
 | cons d cs ih=>
  intro A i
  show addAll (A.put ((i:Int)+1) d) (i+1) (cs++ [c])=(addAll (A.put ((i:Int)+1) d) (i+1) cs).put _ c
  rw[ih,List.length_cons,show i+1+cs.length=i+(cs.length+1) by omega]
theorem addAll_low2 (cs:List (List Int)) (A:Arn) (i:Nat) (h:A.Low i) (hc: ∀c∈cs,c.length≤1000):(addAll A i cs).Low (i+cs.length):=by
 induction cs generalizing A i with
 | nil=>exact h
 | cons c cs ih=>
  have:=ih _ (i+1) (h.next c (hc c (List.mem_cons_self ..))) (fun c h=>hc c (List.mem_cons_of_mem _ h))
  rw[List.length_cons,show i+(cs.length+1)=i+1+cs.length by omega]
  exact this
section
variable {C:Int→Option (List Int)} {T:Trl} {its:List RIt} {S:Wst} {cs:List (List Int)} {id lv:Int} {c:List Int} {x:Lrn} {R K:List Nat}
theorem back_keep (h:St C T its S) {j:Int} (h0:0≤j) (hj:j<T.now): ∃its1,St C (T.backed j) its1 (backS T S j)∧(backS T S j).looked=its1.length∧(T.backed j).now=j∧T.backErr j=0∧its1 <+: its∧(∀y,Has0 its y→Has0 its1 y)∧∀(p:Nat) (x:RIt),its[p]? =some x→x.level≤j→its1[p]? =some x:=by
 have hn:=now_eq (T:=T)
 have herr:T.backErr j=0:=by
  unfold Trl.backErr
  rw[if_neg (by omega)]
 obtain⟨k,rfl⟩: ∃k:Nat,j=k:=⟨j.toNat,by omega⟩
 have hlt:k+1<T.starts.length:=by omega
 obtain⟨s,hs⟩:=getElem_of hlt
 have e1:T.starts.getD (k+1) 0=s:=by rw[List.getD_eq_getElem?_getD,hs];rfl
 have eb:T.backed (k:Int)=T.back k s.toNat:=by
  unfold Trl.backed
  rw[if_pos (by omega),Int.toNat_natCast,e1]
 unfold backS
 rw[eb]
 obtain⟨h1,h2,h3,h4⟩:=h.back hlt hs
 refine⟨_,h1,h2,h4,herr,List.take_prefix _ _,h3,fun p x hp hx=>?_⟩
 obtain⟨⟨a1,_⟩,a2⟩:=h.sta (k+1) s hs
 have:=(a2 p x hp).2 (by omega)
 rw[List.getElem?_take,if_pos (by omega)]
 exact hp
theorem ConfO.parts (h:ConfO C T its id c lv x R K) (hs:Sim T its) (hlv:lv≠0): ∃(k0:Nat) (K':List Nat) (z0:RIt),K=k0::K'∧its[k0]? =some z0∧z0.level=lv∧x.lits= -z0.lit::K'.map (fun q=> -(litAt its q))∧(∀q∈K',∃z,its[q]? =some z∧z.level<lv∧0<z.level∧z.level≤x.back)∧0≤x.back∧x.back<lv∧(K'= []→x.back=0)∧(K'≠ []→∃q∈K',∃z,its[q]? =some z∧z.level=x.back):=by
 obtain⟨k0,K',hK,h1,h2⟩:=h.one hlv
 have hkin:=h.kin
 have hkd:=h.kdn
 have hl:=h.lits
 rw[hK]at hkin hkd hl
 obtain⟨z0,hz0⟩:=getElem_of (hkin k0 List.mem_cons_self).1
 rw[lvAt_eq hz0]at h1
 rw[List.map_cons,litAt_eq hz0]at hl
 have hlv0:=h.lv0
 have hat: ∀q∈K',∃z,its[q]? =some z∧z.level<lv∧0<z.level:=fun q hq=>by
  obtain⟨a1,a2,_⟩:=hkin q (List.mem_cons_of_mem _ hq)
  obtain⟨z,hz⟩:=getElem_of a1
  have:=h2 q hq
  rw[lvAt_eq hz]at this a2
  exact⟨z,hz,this,a2⟩
 cases hKK:K' with
 | nil=>
  subst hKK
  have hb:x.back=0:=by rw[h.back,hl];rfl
  refine⟨k0,[],z0,hK,hz0,h1,hl,?_,by omega,by omega,fun _=>hb,fun h=>absurd rfl h⟩
  intro q hq
  cases hq
 | cons k1 K2=>
  obtain⟨z1,hz1,b1,b2⟩:=hat k1 (by rw[hKK];exact List.mem_cons_self)
  have hb:x.back=z1.level:=by
   rw[h.back,hl,hKK,List.map_cons]
   show T.level (litV (-(litAt its k1)):Nat)=_
   rw[litAt_eq hz1,litV_negate,hs.level hz1]
  refine⟨k0,k1::K2,z0,by rw[hK,hKK],hz0,h1,by rw[hl,hKK],fun q hq=>?_,by omega,by omega,(fun h=>by cases h),fun _=>⟨k1,List.mem_cons_self,z1,hz1,hb.symm⟩⟩
  obtain⟨z,hz,a1,a2⟩:=hat q (by rw[hKK];exact hq)
  refine⟨z,hz,a1,a2,?_⟩
  rw[hb]
  rcases List.mem_cons.1 hq with e|hq
  ·subst e
   rw[hz1]at hz
   obtain rfl:=Option.some.inj hz
   exact Int.le_refl _
  ·rw[hKK,List.pairwise_cons,List.pairwise_cons]at hkd
   exact hs.mono q k1 z z1 (Nat.le_of_lt (hkd.2.1 q hq)) hz hz1
structure LearnO (cs:List (List Int)) (x:Lrn) (T:Trl) (its:List RIt) (S:Wst) (l0:Int) (its1:List RIt) (W:WRes):Prop where
 berr:T.backErr x.back=0
 head: ∃r,x.lits=l0::r
 now1:(T.backed x.back).now=x.back
 st1:St (clsC cs) (T.backed x.back) its1 (backS T S x.back)
 pre:its1 <+: its
 lvl: ∀(p:Nat) (y:RIt),its[p]? =some y→y.level≤x.back→its1[p]? =some y
 val:(T.backed x.back).val l0=0
 fal: ∀y∈x.lits,y≠l0→Has its1 (-y)
 res:W.res=2
 err:W.err=0
 tr:W.T=(T.backed x.back).assigned l0 ((cs.length:Int)+1)
 now:W.T.now=x.back
 st:St (clsC (cs++ [x.lits])) W.T (its1++ [⟨l0,(cs.length:Int)+1,x.back⟩]) W.S
 dcs:Dcs (its1++ [⟨l0,(cs.length:Int)+1,x.back⟩])
 kn: ∀j,(W.S.kn j).isSome=(clsC (cs++ [x.lits]) j).isSome
 one:One (clsC (cs++ [x.lits])) (fun _=>True) (its1++ [⟨l0,(cs.length:Int)+1,x.back⟩])
 six:Six (cs++ [x.lits])
theorem sr_learn (hr:Sr cs T its S id) (hid:id≠0) (h6:Six cs) (hlen:cs.length<900) (hc:clsC cs id=some c) (h:ConfO (clsC cs) T its id c lv x R K) (hlv:lv≠0):
  ∃its1 l0,LearnO cs x T its S l0 its1 (addW (addAll arn0 0 (cs++ [x.lits])) (T.backed x.back) (backS T S x.back) ((cs.length:Int)+1)):=by
 have hs:=hr.st.sim
 obtain⟨f,g⟩:=good_facts hs hr.st.vars h6 hc h
 obtain⟨k0,K',z0,hK,hz0,hzl,hxl,hrest,hb0,hbl,hbn,hbm⟩:=h.parts hs hlv
 have hlnow:lv≤T.now:=by
  have:=(hs.pos z0 (List.mem_of_getElem? hz0)).2
  omega
 have hlv0:=h.lv0
 obtain⟨hkn,hone⟩:=(hr.full hid).resolve_left (by omega)
 obtain⟨its1,b1,b2,b3,b4,b5,b6,b7⟩:=back_keep hr.st hb0 (show x.back<T.now by omega)
 have h6':Six (cs++ [x.lits]):=by
  refine⟨by rw[List.length_append,List.length_singleton];omega,fun d hd=>?_⟩
  rcases List.mem_append.1 hd with hd|hd
  ·exact h6.2 d hd
  ·rw[List.mem_singleton.1 hd]
   exact⟨g.lits6,g.litr⟩
 have hl0: -z0.lit∈x.lits:=by rw[hxl];exact List.mem_cons_self
 have hzb:=(hs.at_ k0 z0 hz0).1
 have hlb:litB (-z0.lit)=true:=by rw[litB_minus];exact hzb
 have hfal: ∀y∈x.lits,y≠ -z0.lit→∃(q:Nat) (z:RIt),its1[q]? =some z∧z.lit= -y∧z.level≤x.back:=fun y hy hne=>by
  rw[hxl]at hy
  rcases List.mem_cons.1 hy with e|hy
  ·exact absurd e hne
  ·obtain⟨q,hq,e⟩:=List.mem_map.1 hy
   obtain⟨z,hz,_,_,hle⟩:=hrest q hq
   exact⟨q,z,b7 q z hz hle,by rw[←e,litAt_eq hz,Int.neg_neg],hle⟩
 have hno: ∀(p:Nat) (y:RIt),its1[p]? =some y→litV y.lit≠litV z0.lit:=fun p y hp e=>by
  have:=hs.inj (pre_get b5 hp) hz0 e
  subst this
  have h1:=(b1.sim.pos y (List.mem_of_getElem? hp)).2
  have h2:=pre_get b5 hp
  rw[hz0]at h2
  obtain rfl:=Option.some.inj h2
  omega
 have hval:(T.backed x.back).val (-z0.lit)=0:=by
  refine sim_val ?_ ?_
  ·cases hf:(T.backed x.back).fal (-z0.lit)with
   | false=>rfl
   | true=>
    obtain⟨p,y,hp,e⟩:=(b1.sim.fal_iff hlb).1 hf
    exact absurd (by rw[e,Int.neg_neg]) (hno p y hp)
  ·cases hf:(T.backed x.back).tru (-z0.lit)with
   | false=>rfl
   | true=>
    obtain⟨p,y,hp,e⟩:=(b1.sim.tru_iff hlb).1 hf
    exact absurd (by rw[e,litV_negate]) (hno p y hp)
 have hno2:=h.chain.no hs
 have hal:=alwL_no hno2
 have hk0:(backS T S x.back).kn ((cs.length:Int)+1)=none:=by
  have:=hkn ((cs.length:Int)+1)
  rw[clsC_past]at this
  exact Option.isSome_eq_false_iff.1 this |> Option.isNone_iff_eq_none.1
 have hw:=b1.wide (fun i d hd=>clsC_wide x.lits hd)
 obtain⟨c1,c2,c3,c4,c5,c6⟩:=hw.learn h6'.fit b2 (clsC_last cs x.lits) hk0 hal hl0 hval (fun y hy hne=>by
  obtain⟨q,z,hz,e,_⟩:=hfal y hy hne
  exact⟨q,z,hz,e⟩) (fun hex=>by
  obtain⟨y,hy,hne⟩:=hex
  rw[hxl]at hy
  have hK':K'≠ []:=fun e=>by
   rw[e]at hy
   exact hne (by simpa using hy)
  obtain⟨q,hq,z,hz,e⟩:=hbm hK'
  have hz1:=b7 q z hz (Int.le_of_eq e)
  refine⟨-z.lit,?_,fun e2=>?_,?_⟩
  ·rw[hxl]
   exact List.mem_cons_of_mem _ (List.mem_map.2 ⟨q,hq,by rw[litAt_eq hz]⟩)
  ·exact hno q z hz1 (by rw[show z.lit=z0.lit by omega])
  ·rw[b3,litV_negate,b1.sim.level hz1]
   omega)
 have hget:(addAll arn0 0 (cs++ [x.lits])).get ((cs.length:Int)+1)=some x.lits:=(get_cls h6' _).trans (clsC_last cs x.lits)
 have haw:addW (addAll arn0 0 (cs++ [x.lits])) (T.backed x.back) (backS T S x.back) ((cs.length:Int)+1)=addOk (T.backed x.back) (backS T S x.back) ((cs.length:Int)+1) x.lits:=by
  unfold addW
  rw[hk0]
  simp only[]
  rw[hget]
  simp only[]
  rw[if_neg (by
   rw[Bool.not_eq_true,List.any_eq_false]
   intro y hy
   have h1:=(g.litr y hy).2
   have h2:=b1.vars
   rw[decide_eq_true_eq]
   omega)]
 rw[haw]
 refine⟨its1,-z0.lit,{
  berr:=b4
  head:=⟨_,hxl⟩
  now1:=b3
  st1:=b1
  pre:=b5
  lvl:=b7
  val:=hval
  fal:=fun y hy hne=>by
   obtain⟨q,z,hz,e,_⟩:=hfal y hy hne
   exact⟨q,z,hz,e⟩
  res:=c1
  err:=addOk_err _ _ _ _
  tr:=c2
  now:=by rw[c2,assigned_now];exact b3
  st:=by
   have h3:=c3
   rw[b3]at h3
   rw[c2]
   exact h3
  dcs:=(hr.dcs.pre b5).snoc fun h0=>by
   have h0:(cs.length:Int)+1=0:=h0
   omega
  kn:=fun j=>?_
  one:=fun j d _ hd hda hdl=>?_
  six:=h6' }⟩
 ·rw[c5]
  show(decide (j=(cs.length:Int)+1)||(S.kn j).isSome)=_
  rw[hkn]
  by_cases e:j=(cs.length:Int)+1
  ·rw[e,clsC_last,decide_eq_true rfl]
   rfl
  ·rw[decide_eq_false e,Bool.false_or]
   cases hd:clsC cs j with
   | some d=>rw[clsC_wide x.lits hd]
   | none=>
    cases hd2:clsC (cs++ [x.lits]) j with
    | none=>rfl
    | some d=>
     rcases clsC_some2 hd2 with h1|⟨h1,_⟩
     ·rw[hd]at h1;cases h1
     ·exact absurd h1 e
 ·rcases clsC_some2 hd with h1|⟨_,h1⟩
  ·obtain⟨y,hy,hh⟩:=hone j d trivial h1 hda hdl
   exact⟨y,hy,(b6 y hh).pre ⟨_,rfl⟩⟩
  ·subst h1
   have hK':K'= []:=by
    cases hKK:K' with
    | nil=>rfl
    | cons q K2=>
     obtain⟨z,hz,_,_,hle⟩:=hrest q (by rw[hKK];exact List.mem_cons_self)
     have hm: -z.lit∈x.lits:=by
      rw[hxl,hKK]
      exact List.mem_cons_of_mem _ (List.mem_map.2 ⟨q,List.mem_cons_self,by rw[litAt_eq hz]⟩)
     have:=lits_one hdl hm hl0
     exact absurd (by rw[show z.lit=z0.lit by omega]) (hno q z (b7 q z hz hle))
   refine⟨-z0.lit,hl0,its1.length,⟨-z0.lit,(cs.length:Int)+1,x.back⟩,by simp,rfl,hbn hK'⟩
end
end Go.Proofs.YtoojmhjagipmdaaGreat
