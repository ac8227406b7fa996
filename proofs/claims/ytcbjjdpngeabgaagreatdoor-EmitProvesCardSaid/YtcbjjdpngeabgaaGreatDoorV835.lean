/- package salvorlaw17: EmitProves. -/
import Derived.Test.YtcbjjdpngeabgaaGreatDoorV834
import Derived.Test.YtcbjjdpngeabgaaGreatDoorV803
import Derived.Test.YtcbjjdpngeabgaaGreatDoorV828
namespace Go.Proofs.YtcbjjdpngeabgaaGreatDoor
open Go.RowKit
theorem runC_ok {cs:List (List Int)} (hc: ∀c∈cs,clauseB c=true) (hn:cs.length≤1000): ∀(l:List EStep),(runC (ckrNew cs) l).Ok (1000+l.length):=by
 have key: ∀(l:List EStep) (k:Ckr) (N:Nat),k.Ok N→(runC k l).Ok (N+l.length):=by
  intro l
  induction l with
  | nil=>exact fun k N h=>h
  | cons s r ih=>
   intro k N h
   have:=ih _ _ (do_ok (s:=s) h)
   show(runC ((k.do_ s).1) r).Ok _
   rw[List.length_cons,show N+(r.length+1)=N+1+r.length by omega]
   exact this
 intro l
 exact key l _ 1000 (by rw[ckrNew_of];exact ckrOf_ok hc hn (Nat.zero_le _))
set_option maxRecDepth 100000 in
set_option maxHeartbeats 1000000 in
theorem empty_ep {O:Nat→Prop} (u:Value) (c:List Int) (w:World) (h:IntsIn O w u c):
  Calls Tryz.prog 12 #[u] w fun e w'=>e= .returned (.bool c.isEmpty)∧Below w.heap.size w w':=by
 obtain⟨A,k,rfl,_⟩:=h
 have hq:=empty_len c
 obtain⟨z,hz⟩: ∃z,c.isEmpty=z:=⟨_,rfl⟩
 rw[hz]at hq⊢
 clear hz
 go_enter Tryz.func12,Tryz.ntmps12
 go_wp2_with fail
 go_ret
 exact⟨by simp only[←hq];rfl,Below.refl _ _⟩
set_option maxRecDepth 100000 in
set_option maxHeartbeats 8000000 in
theorem emitProves_any (l x y:Value) (xss:List (List Int)) (xs ys:List Int) (w:World) (ht:TabW w) (hl:RowsAt .i8 w l xss) (hx:RowAt .u8 w x xs) (hxl:xs.length≤140737488355328) (hy:RowAt .u8 w y ys):
  Calls Tryz.prog 3 #[l,x,y] w fun e w'=>e= .returned (.bool true)∧Below w.heap.size w w':=by
 obtain⟨cs,hcs⟩: ∃cs,(xss.take 14).map madeL=cs:=⟨_,rfl⟩
 obtain⟨ss,hss⟩: ∃ss,resL cs xs 20=ss:=⟨_,rfl⟩
 have HAW:=Lib.hid (awake_any w ht)
 have HMD:=Lib.hid (fun(X:World) (hX:Below w.heap.size w X)=>made10_any l xss X (hl.below hX) hcs rfl)
 have HKE:=Lib.hid (fun(X:World) (hX:Below w.heap.size w X)=>law_kept l x y xss xs ys X (hl.below hX) (hx.below hX) hxl (hy.below hX) hcs hss)
 have h6: ∀c∈cs,Lit6 c:=by rw[←hcs];exact made_six xss
 have hcn:cs.length≤14:=by rw[←hcs,List.length_map,List.length_take];omega
 obtain⟨hrs,hsl⟩:=resL_ok h6 xs 20
 rw[hss]at hrs hsl
 have HSL:=Lib.hid hsl
 have H6:=Lib.hid h6
 obtain⟨n,hn⟩: ∃n,cs.length=n:=⟨_,rfl⟩
 have HN:=Lib.hid hn
 rw[hn]at HMD hcn
 clear hcs hl hx hy hrs hss h6 hsl hn ht
 go_enter Tryz.func3,Tryz.ntmps3
 go_wp2_with fail
 refine HAW.out.mono ?_
 rintro e w1 ⟨rfl,hb1⟩
 have HB1:=Lib.hid hb1
 clear hb1 HAW
 go_wp2_with fail
 refine(HMD.out w1 HB1.out).mono ?_
 rintro e w2 ⟨A,k,rfl,hcl,hb2⟩
 obtain⟨W3,hW3,hb3,hc3,-⟩:=al_new w2 #[.int .i64 6,.slice A n k] 27
 have HC3:=Lib.hid ((hcl.clsIn.below hb3).mono (O':=fun _=>True) fun _ _=>trivial)
 have HB3:=Lib.hid (HB1.out.trans ((hb2.trans (hb3.mono hb2.size)).mono HB1.out.size))
 have HW3:=Lib.hid hW3
 have HX3:=Lib.hid hc3
 have HKP:=Lib.hid (HKE.out W3 HB3.out)
 clear hW3 hb3 hc3 hcl hb2 HMD HKE
 go_upto_region 4 with fail
 rw[HW3.out]
 go_wp2_with fail
 refine HKP.out.mono ?_
 rintro e w4 ⟨b,i,L,B,rfl,hL,hB,hK,hi,hb4⟩
 have HX4:=Lib.hid ((hb4.block _ (heap_lt HX3.out)).trans HX3.out)
 have HC4:=Lib.hid (HC3.out.below hb4)
 have HB4:=Lib.hid (HB3.out.trans (hb4.mono HB3.out.size))
 have HL4:=Lib.hid hL
 have HK:=Lib.hid hK
 have hstl:L.steps.length≤40:=by have:=hK.len;have:=HSL.out;omega
 have HFEW:=Lib.hid hK.few
 have HI:=Lib.hid (show i≤20 from by have:=HSL.out;omega)
 have HIS:=Lib.hid hi
 have HSTP:=Lib.hid (log_steps b L w4 hL.1 hL.2.1.ok)
 obtain⟨steps,hsteps⟩: ∃s,L.steps=s:=⟨_,rfl⟩
 have HST0:=Lib.hid hsteps
 rw[hsteps]at hstl HFEW HSTP
 clear hb4 hL hK hi hB HKP hsteps HSL
 go_wp2_with fail
 refine HSTP.out.mono ?_
 rintro e w5 ⟨sv,ms,rfl,hsa,_,hb5⟩
 have hml:ms.length=steps.length:=by rw[←hsa.steps,List.length_map]
 obtain⟨As,cv,rfl,_⟩:=own_slice hsa.row
 have HSA:=Lib.hid hsa
 have HML:=Lib.hid hml
 obtain⟨NL,hNL⟩: ∃m,ms.length=m:=⟨_,rfl⟩
 have HNL:=Lib.hid (show steps.length=NL from by rw[←hml,hNL])
 have HNM:=Lib.hid hNL
 rw[hNL]
 have hnl40:NL≤40:=by rw[←hNL,hml];exact hstl
 have HL5:=Lib.hid (HL4.out.below hb5)
 have HX5:=Lib.hid ((hb5.block _ (heap_lt HX4.out)).trans HX4.out)
 have HC5:=Lib.hid (HC4.out.below hb5)
 have HB5:=Lib.hid (HB4.out.trans (hb5.mono HB4.out.size))
 have c0:=mx_cell (j:=0) HX5.out
 have c1:=mx_cell (j:=1) HX5.out
 have HNW:=Lib.hid (ck_new 6 (.slice A n k) cs w5 HC5.out (fun c hc=>(H6.out c hc).clause) (by rw[HN.out];omega) (lit6_fchk H6.out (by rw[HN.out];omega)))
 clear hsa hb5 hml hNL HSTP hstl HL4 HC3 HC4 HX3 HX4
 go_wp2_with fail
 refine HNW.out.mono ?_
 rintro e w6 ⟨bk,rfl,hck,hb6⟩
 have HCK6:=Lib.hid hck
 have HB6:=Lib.hid hb6
 have HRUN:Hid (RunOk (ckrNew cs) steps):=Lib.hid (by
  cases hz:cs.any List.isEmpty with
  | true=>exact RunOk.still (by rw[ckrNew_of];exact hz) steps
  | false=>rw[←HST0.out];exact(HK.out.lc hz).run)
 have HKOK:=Lib.hid (runC_ok (cs:=cs) (fun c hc=>(H6.out c hc).clause) (by rw[HN.out];omega))
 clear hck hb6 HNW c0 c1
 go_wp2_with fail
 go_loopw [42] (fun iv wr=> ∃j:Nat,j≤NL∧iv= .int .i64 j∧Hid (CkAt w5.heap.size wr bk (runC (ckrNew cs) (steps.take j)))∧Hid (Below w5.heap.size w5 wr)) (fun iv _=>NL-(intOf iv).toNat)
 case atStart=>exact⟨0,Nat.zero_le _,rfl,HCK6,HB6⟩
 case round=>
  obtain⟨j,hj,rfl,HCKj,HBj⟩:=hrel
  by_cases hlt:j<NL
  ·obtain⟨m,g,hm,hs,hat,⟨c',hv⟩,hg,e0,e1,e2,e3⟩:=step_cells HSA.out (k:=j) (by rw[HNM.out];exact hlt)
   rw[HNM.out]at hv
   simp only[Value.slice.injEq,true_and]at hv
   obtain⟨rfl,rfl⟩:=hv
   have hbr:=HBj.out
   have e0:=(hbr.cell (p:=⟨g,j*4,none⟩) hg).trans e0
   have e1:=(hbr.cell (p:=⟨g,j*4+1,none⟩) hg).trans e1
   have e2:=(hbr.cell (p:=⟨g,j*4+2,none⟩) hg).trans e2
   have e3:=(hbr.cell (p:=⟨g,j*4+3,none⟩) hg).trans e3
   obtain⟨vl,vh,s⟩:=m
   simp only at hs e0 e1 e2 e3
   obtain⟨V,hV,hbV,hcV,-⟩:=al_new wr #[.bool s.del,.int .i64 s.id,vl,vh] 41
   have hbW:=hbr.trans (hbV.mono hbr.size)
   have hlits:IntsIn (fun _=>True) V vl s.lits:=(IntsIn.of_own (own_below hat.lits hbW)).mono fun _ _=>trivial
   have hhnts:IntsIn (fun _=>True) V vh s.hints:=(IntsIn.of_own (own_below hat.hints hbW)).mono fun _ _=>trivial
   obtain⟨hf1,hf2⟩:=HFEW.out s (List.mem_of_getElem? hs)
   have HDO:=Lib.hid (ck_do_all bk (runC (ckrNew cs) (steps.take j)) s vl vh V (HCKj.out.below hbV) hbW.size (HKOK.out (steps.take j)) (by rw[List.length_take];omega) hlits hhnts (by omega) (by omega))
   obtain⟨hr1,hr2⟩:=HRUN.out j s hs
   have HNX:=Lib.hid (show runC (ckrNew cs) (steps.take (j+1))=((runC (ckrNew cs) (steps.take j)).do_ s).1 from by
    rw[List.take_add_one,hs]
    exact runC_snoc _ _ _)
   obtain⟨D,hD⟩: ∃D,(runC (ckrNew cs) (steps.take j)).do_ s=D:=⟨_,rfl⟩
   rw[hD]at HDO hr1 hr2 HNX
   obtain⟨Dk,Dt,Di,De⟩:=D
   simp only at hr1 hr2
   subst hr1
   have HBW:=Lib.hid hbW
   have HVW:=Lib.hid hV
   have z0:=mx_cell (j:=0) hcV
   have z1:=mx_cell (j:=1) hcV
   have z2:=mx_cell (j:=2) hcV
   have z3:=mx_cell (j:=3) hcV
   obtain⟨Bl,bl,rfl,_⟩:=hlits
   obtain⟨Bh,bh,rfl,_⟩:=hhnts
   have hkd:((Dt:Int)==2)=false:=beq_eq_false_iff_ne.2 (by omega)
   obtain⟨pd,hpd⟩: ∃p,Dk.proved=p:=⟨_,rfl⟩
   have HPD:=Lib.hid hpd
   clear hV hbV hcV hs hm hat hf1 hf2 hr2 hbW hbr hD hpd
   go_upto_region 14 with fail
   rw[HVW.out]
   go_wp2_with fail
   refine HDO.out.mono ?_
   rintro e w7 ⟨rfl,hck7,hb7,-⟩
   have HCK7:=Lib.hid hck7
   have HB7:=Lib.hid (HBW.out.trans hb7)
   have HPV:=Lib.hid (show Calls Tryz.prog 10 #[.pointer (some ⟨bk,0,none⟩)] w7 fun e w'=>e= .returned (.bool pd)∧w7=w' from HPD.out▸ck_proved bk Dk w7 hck7)
   clear hck7 hb7 z0 z1 z2 z3 e0 e1 e2 e3
   go_wp2_with fail
   refine HPV.out.mono ?_
   rintro e w' ⟨rfl,rfl⟩
   cases pd with
   | true=>
    go_wp2_with fail
    go_roundw
    case rel=>exact⟨j+1,by omega,by go_num,HNX.out▸HCK7,HB7⟩
    case measure=>simp[intOf];omega
   | false=>
    go_wp2_with fail
    go_roundw
    case rel=>exact⟨j+1,by omega,by go_num,HNX.out▸HCK7,HB7⟩
    case measure=>simp[intOf];omega
  ·obtain rfl:j=NL:=by omega
   obtain⟨KK,hKK⟩: ∃KK,runC (ckrNew cs) steps=KK:=⟨_,rfl⟩
   obtain⟨w9,hw9⟩: ∃z,wr=z:=⟨_,rfl⟩
   have HCK9:=Lib.hid (show CkAt w5.heap.size w9 bk KK from by
    have h:=HCKj.out
    rw[List.take_of_length_le (by rw[HNL.out];exact Nat.le_refl _),hKK,hw9]at h
    exact h)
   have HB9:=Lib.hid (show Below w5.heap.size w5 w9 from hw9▸HBj.out)
   rw[hw9]
   have HKO:=Lib.hid (show KK.Ok (1000+steps.length)from hKK▸HKOK.out steps)
   have HX9:=Lib.hid ((HB9.out.block _ (heap_lt HX5.out)).trans HX5.out)
   have HC9:=Lib.hid (HC5.out.below HB9.out)
   have HL9:=Lib.hid (HL5.out.below HB9.out)
   have HBB9:=Lib.hid (HB5.out.trans (HB9.out.mono HB5.out.size))
   have HKK:=Lib.hid hKK
   have c1:=mx_cell (j:=1) HX9.out
   have HANY:=Lib.hid (contains_kf 12 #[] (.slice A n k) cs List.isEmpty w9 (enters_of Tryz.func12 (by kernel_rfl) rfl) HC9.out (by rw[HN.out];omega) (fun W hW u d hd hu=>empty_ep u d W hu))
   obtain⟨z,hz⟩: ∃z,cs.any List.isEmpty=z:=⟨_,rfl⟩
   have HZ:=Lib.hid hz
   rw[hz]at HANY
   clear hKK hw9 hz hj hlt
   go_wp2_with fail
   refine HANY.out.mono ?_
   rintro e w10 ⟨rfl,hb10⟩
   have HB10:=Lib.hid hb10
   clear hb10 c1
   cases z with
   | true=>
    go_wp2_with fail
    go_ret
    exact⟨rfl,HBB9.out.trans (HB10.out.mono HBB9.out.size)⟩
   | false=>
    have hlc:=HK.out.lc HZ.out
    have hents:=hlc.ents
    have hlast:=hlc.last
    have hprv:=hlc.prv
    rw[HST0.out,HKK.out]at hents hlast hprv
    obtain⟨d,hd⟩: ∃d,L.done=d:=⟨_,rfl⟩
    obtain⟨t,ht⟩: ∃t:Int,(L.last:Int)=t:=⟨_,rfl⟩
    obtain⟨ct,hct⟩: ∃ct:Nat,L.count=ct:=⟨_,rfl⟩
    rw[hd]at hprv
    rw[ht]at hlast
    have hb510:Below w5.heap.size w5 w10:=HB9.out.trans (HB10.out.mono HB9.out.size)
    have HCK10:=Lib.hid (HCK9.out.below HB10.out)
    have HL10:=Lib.hid (HL9.out.below HB10.out)
    have HP1:=Lib.hid (show Calls Tryz.prog 10 #[.pointer (some ⟨bk,0,none⟩)] w10 fun e w'=>e= .returned (.bool d)∧w10=w' from hprv▸ck_proved bk KK w10 HCK10.out)
    have HP2:=Lib.hid (show Calls Tryz.prog 13 #[.pointer (some ⟨b,0,none⟩)] w10 fun e w'=>e= .returned (.bool d)∧w10=w' from hd▸log_done b L w10 HL10.out.1)
    have HP3:=Lib.hid (show Calls Tryz.prog 14 #[.pointer (some ⟨bk,0,none⟩)] w10 fun e w'=>e= .returned (.int .i64 t)∧w10=w' from hlast▸ck_last bk KK w10 HCK10.out)
    have HP4:=Lib.hid (show Calls Tryz.prog 15 #[.pointer (some ⟨b,0,none⟩)] w10 fun e w'=>e= .returned (.int .i64 t)∧w10=w' from ht▸log_last b L w10 HL10.out.1)
    have HEN:=Lib.hid (ck_entries bk KK w10 HCK10.out HKO.out (by rw[HNL.out];omega))
    have hdd:(d != d)=false:=bne_self_eq_false d
    have htt:(t != t)=false:=bne_self_eq_false t
    have hal:(cs++(ss.take i).map EStep.lits).length=L.last:=by
     have h1:=HK.out.last
     have h2:=HIS.out
     rw[List.length_append,List.length_map,List.length_take]
     omega
    obtain⟨es,hes⟩: ∃es,KK.ents=es:=⟨_,rfl⟩
    have HES:=Lib.hid (hents.symm.trans hes)
    rw[hes]at HEN
    have HEL:=Lib.hid (show es.length=ct from by rw[←hes,hents,keptE_len HK.out.inv hal,hct])
    have HHAS:=Lib.hid (show∀p∈es,L.has p.1=true∧(Lit.int .i64 p.1).wf=true from fun p hp=>by
     rw[←HES.out]at hp
     have h1:=keptE_has hal hp
     obtain⟨h2,h3,_⟩:=has_rng h1
     have:=HK.out.inv.last
     exact⟨h1,wf64 (by omega) (by omega)⟩)
    have HCT:=Lib.hid hct
    have hctn:ct≤1000:=by
     have h1:=HK.out.inv.cnt
     have h2:=HK.out.last
     have h3:=HI.out
     rw[HN.out]at h2
     omega
    have HBB10:=Lib.hid (HBB9.out.trans (HB10.out.mono HBB9.out.size))
    clear hlc hents hlast hprv hd ht hct hb510 hal hes
    go_wp2_with fail
    refine HP1.out.mono ?_
    rintro e w' ⟨rfl,rfl⟩
    go_wp2_with fail
    refine HP2.out.mono ?_
    rintro e w' ⟨rfl,rfl⟩
    go_wp2_with fail
    refine HP3.out.mono ?_
    rintro e w' ⟨rfl,rfl⟩
    go_wp2_with fail
    refine HP4.out.mono ?_
    rintro e w' ⟨rfl,rfl⟩
    go_wp2_with fail
    refine HEN.out.mono ?_
    rintro e w11 ⟨ev,rfl,hev,hb11⟩
    obtain⟨Ae,ce,rfl,hce,_,hxe⟩:=hev
    rw[HEL.out]
    have HXE:=Lib.hid hxe
    have HL11:=Lib.hid (HL10.out.below hb11)
    have HB11:=Lib.hid (HBB10.out.trans (hb11.mono HBB10.out.size))
    clear hxe hb11 hce
    go_wp2_with fail
    go_loopw [18,84] (fun nv iv wr=> ∃q:Nat,q≤ct∧nv= .int .i64 q∧iv= .int .i64 q∧Hid (Below w11.heap.size w11 wr)) (fun _ iv _=>ct-(intOf iv).toNat)
    case atStart=>exact⟨0,Nat.zero_le _,rfl,rfl,Lib.hid (Below.refl _ _)⟩
    case round=>
     obtain⟨q,hq,rfl,rfl,HBq⟩:=hrel
     by_cases hlq:q<ct
     ·obtain⟨p,hp⟩: ∃p,es[q]? =some p:=⟨_,List.getElem?_eq_getElem (by rw[HEL.out];exact hlq)⟩
      obtain⟨g,o,u,rfl,hg,_,f0,f1,hu⟩:=HXE.out q p hp
      have hbr:=HBq.out
      have f0:=(hbr.cell (p:=⟨g,o+q*2,none⟩) hg).trans f0
      have f1:=(hbr.cell (p:=⟨g,o+q*2+1,none⟩) hg).trans f1
      obtain⟨h1,h2⟩:=HHAS.out p (List.mem_of_getElem? hp)
      obtain⟨V,hV,hbV,hcV,-⟩:=al_new wr #[.int .i64 p.1,u] 50
      have HVW:=Lib.hid hV
      have HBV:=Lib.hid (hbr.trans (hbV.mono hbr.size))
      have z0:=mx_cell (j:=0) hcV
      have HH:=Lib.hid (show Calls Tryz.prog 17 #[.pointer (some ⟨b,0,none⟩),.int .i64 p.1] V fun e w'=>e= .returned (.bool true)∧V=w' from h1▸log_has b L p.1 V (HL11.out.below HBV.out).1 h2)
      obtain⟨Au,cu,rfl,_⟩:=hu
      clear hV hbV hcV hbr hp h1 h2
      go_upto_region 27 with fail
      rw[HVW.out]
      go_wp2_with fail
      refine HH.out.mono ?_
      rintro e w' ⟨rfl,rfl⟩
      go_wp2_with fail
      go_roundw
      case rel=>exact⟨q+1,by omega,by go_num,by go_num,HBV⟩
      case measure=>simp[intOf];omega
     ·obtain rfl:q=ct:=by omega
      obtain⟨w12,hw12⟩: ∃z,wr=z:=⟨_,rfl⟩
      have HB12:=Lib.hid (show Below w11.heap.size w11 w12 from hw12▸HBq.out)
      rw[hw12]
      have HCN:=Lib.hid (show Calls Tryz.prog 18 #[.pointer (some ⟨b,0,none⟩)] w12 fun e w'=>e= .returned (.int .i64 q)∧w12=w' from HCT.out▸log_count b L w12 (HL11.out.below HB12.out).1)
      clear hw12
      go_wp2_with fail
      refine HCN.out.mono ?_
      rintro e w' ⟨rfl,rfl⟩
      go_wp2_with fail
      go_ret
      exact⟨by simp,HB11.out.trans (HB12.out.mono HB11.out.size)⟩
end Go.Proofs.YtcbjjdpngeabgaaGreatDoor
