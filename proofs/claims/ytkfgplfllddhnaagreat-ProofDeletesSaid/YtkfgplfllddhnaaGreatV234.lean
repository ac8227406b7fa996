/- package salvorlaw10: ProofDeletes. -/
import Derived.Test.YtkfgplfllddhnaaGreatV233
namespace Go.Proofs.YtkfgplfllddhnaaGreat
open Go.RowKit
set_option maxRecDepth 100000 in
set_option maxHeartbeats 8000000 in
theorem deletes_any (q:Int) (l x:Value) (xss:List (List Int)) (xs:List Int) (w:World) (hl:RowsAt .i8 w l xss) (hx:RowAt .u8 w x xs) (hxl:xs.length≤140737488355328) (hq:(Lit.int .u8 q).wf=true):
  Calls Tryz.prog 6 #[l,x,.int .u8 q] w fun e w'=>e= .returned (.bool true)∧Below w.heap.size w w':=by
 obtain⟨cs,hcs⟩: ∃cs,(xss.take 14).map madeL=cs:=⟨_,rfl⟩
 have HAW:=Lib.hid (awake10_any w)
 have HMD:=Lib.hid (fun(X:World) (hX:Below w.heap.size w X)=>made10_any l xss X (hl.below hX) hcs rfl)
 have HX:=Lib.hid (fun(X:World) (hX:Below w.heap.size w X)=>hx.below hX)
 have h6: ∀c∈cs,Lit6 c:=by rw[←hcs];exact made_six xss
 have hcn:cs.length≤14:=by rw[←hcs,List.length_map,List.length_take];omega
 obtain⟨hrs,hsl⟩:=resL_ok h6 xs 1
 obtain⟨ss,hss⟩: ∃ss,resL cs xs 1=ss:=⟨_,rfl⟩
 rw[hss]at hrs hsl
 have hs6: ∀s∈ss,Lit6 s.lits∧s.hints.length=2:=fun s hs=>by
  obtain⟨j,hj⟩:=List.getElem?_of_mem hs
  obtain⟨_,_,_,_,_,_,_,h3,_,_,_,_,_,_,h9⟩:=hrs j s hj
  exact⟨h9,by rw[h3];rfl⟩
 obtain⟨hq0,hq1⟩:=u8_rng10 hq
 have HRS:=Lib.hid hrs
 have HSL:=Lib.hid hsl
 have H6:=Lib.hid h6
 have HS6:=Lib.hid hs6
 have HSS:=Lib.hid hss
 clear hcs hl hx hrs hss hs6 h6 hsl hq
 go_enter Tryz.func6,Tryz.ntmps6
 go_wp2_with fail
 refine HAW.out.mono ?_
 rintro e w1 ⟨rfl,hb1⟩
 have HB1:=Lib.hid hb1
 clear hb1 HAW
 go_wp2_with fail
 refine(HMD.out w1 HB1.out).mono ?_
 rintro e w2 ⟨A,k,rfl,hcl,hb2⟩
 obtain⟨W3,hW3,hb3,hc3,-⟩:=al_new w2 #[.int .i64 6,.slice A cs.length k] 26
 have HC3:=Lib.hid ((hcl.clsIn.below hb3).mono (O':=fun _=>True) fun _ _=>trivial)
 have HB3:=Lib.hid (HB1.out.trans ((hb2.trans (hb3.mono hb2.size)).mono HB1.out.size))
 have HW3:=Lib.hid hW3
 have HX3:=Lib.hid hc3
 have HRES:=Lib.hid (law_resolved 6 1 _ x cs xs W3 HC3.out H6.out (by omega) (HX.out W3 HB3.out) (by decide) hxl)
 rw[HSS.out]at HRES
 have c0:=mx_cell (j:=0) hc3
 have c1:=mx_cell (j:=1) hc3
 clear hW3 hb3 hc3 hcl hb2 HMD HX HSS
 go_upto_region 4 with fail
 rw[HW3.out]
 go_wp2_with fail
 refine HRES.out.mono ?_
 rintro e w4 ⟨v,K,rfl,hK,hst,hb4⟩
 obtain⟨Av,cv,rfl,_⟩:=mx_slice hst.row
 have hkl:K.length=ss.length:=by rw[←hK,List.length_map]
 have HST:=Lib.hid (show StepIn (fun _=>True) w4 (.slice Av K.length cv) ss from by
  rw[←hK]
  exact hst.stepIn.mono fun _ _=>trivial)
 rw[hkl]at HST
 rw[hkl]
 have HX4:=Lib.hid ((hb4.block _ (heap_lt HX3.out)).trans HX3.out)
 have HC4:=Lib.hid (HC3.out.below hb4)
 have HB4:=Lib.hid (HB3.out.trans (hb4.mono HB3.out.size))
 have HXL:=Lib.hid (heap_lt HX4.out)
 have HNEW:=Lib.hid (ck_new 6 _ cs w4 HC4.out (fun c hc=>(H6.out c hc).clause) (by omega) (lit6_fchk H6.out (by omega)))
 have c0:=mx_cell (j:=0) HX4.out
 have c1:=mx_cell (j:=1) HX4.out
 obtain⟨L,hL⟩: ∃L,ss.length=L:=⟨_,rfl⟩
 rw[hL]at HST⊢
 have HL:=Lib.hid hL
 clear hst hb4 hK hkl HRES hL
 obtain⟨n,hn⟩: ∃n,cs.length=n:=⟨_,rfl⟩
 rw[hn]at HNEW c1 HX4 HC4 hcn⊢
 go_wp2_with fail
 refine HNEW.out.mono ?_
 rintro e w5 ⟨bk,rfl,hck,hb5⟩
 have HN:=Lib.hid hn
 rw[ckrNew_of]at hck
 have HCK:=Lib.hid hck
 have HB5:=Lib.hid hb5
 have c0:=(hb5.cell (p:=⟨w2.heap.size,0,none⟩) HXL.out).trans (mx_cell (j:=0) HX4.out)
 have c1:=(hb5.cell (p:=⟨w2.heap.size,1,none⟩) HXL.out).trans (mx_cell (j:=1) HX4.out)
 clear hck hb5 HNEW hn
 rcases Nat.eq_zero_or_pos n with hn0|hn0
 ·subst hn0
  go_wp2_with fail
  go_ret
  exact⟨rfl,HB4.out.trans (HB5.out.mono HB4.out.size)⟩
 have hne:((n:Int)==0)=false:=beq_eq_false_iff_ne.2 (by omega)
 obtain⟨z,hz⟩: ∃z,cs.any List.isEmpty=z:=⟨_,rfl⟩
 have HPRV:=Lib.hid (show Calls Tryz.prog 23 #[.pointer (some ⟨bk,0,none⟩)] w5 fun e w'=>e= .returned (.bool z)∧w5=w' from hz▸ck_proved bk (ckrOf cs 0) w5 HCK.out)
 have HZ:=Lib.hid hz
 clear hz
 go_wp2_with fail
 refine HPRV.out.mono ?_
 rintro e w' ⟨rfl,rfl⟩
 clear HPRV
 cases z with
 | true=>
  go_wp2_with fail
  go_ret
  exact⟨rfl,HB4.out.trans (HB5.out.mono HB4.out.size)⟩
 | false=>
 obtain⟨m,hm⟩: ∃m:Nat,(m:Int)=q.tmod (n:Int):=⟨(q.tmod (n:Int)).toNat,by
  have:=Int.tmod_nonneg (n:Int) hq0
  omega⟩
 have hmn:m<n:=by
  have:=Int.tmod_lt_of_pos q (show(0:Int)<(n:Int) by omega)
  omega
 have hmod:=hm.symm
 have hn0':(0:Int)<(n:Int):=by omega
 have hwn:IntKind.i64.wrap (n:Int)=n:=IntWalk.i64_in _ (by omega)
 have hwm:IntKind.i64.wrap (m:Int)=m:=IntWalk.i64_in _ (by omega)
 have hwq:IntKind.i64.wrap q=q:=IntWalk.i64_in _ (by omega)
 obtain⟨id,hid⟩: ∃id:Int,(m:Int)+1=id:=⟨_,rfl⟩
 have hid1:1+(m:Int)=id:=by omega
 have hwid:IntKind.i64.wrap id=id:=IntWalk.i64_in _ (by omega)
 have hmcs:m<cs.length:=by rw[HN.out];exact hmn
 have hcs9:cs.length≤999:=by rw[HN.out];omega
 obtain⟨W5,hW5,hb5',hc5,-⟩:=al_new w5 #[.int .i64 id] 3
 have HW5:=Lib.hid hW5
 have hbw:=HB5.out.trans (hb5'.mono HB5.out.size)
 have HB5':=Lib.hid hbw
 have hstep1:(ckrOf cs 0).do_ (delS n id)=(ckDelOf cs m,0,0,0):=by
  rw[←HN.out,←hid]
  exact del_one hmcs (by omega) HZ.out
 have hstep2:(ckDelOf cs m).do_ (delS n id)=(ckDelOf cs m,0,id,91):=by
  rw[←HN.out,←hid]
  exact del_two hmcs (by omega)
 have HOK:=Lib.hid (ckDelOf_ok hmcs hcs9 HZ.out (fun c hc=>(H6.out c hc).clause))
 have HDO1:=Lib.hid (show Calls Tryz.prog 13 #[.pointer (some ⟨bk,0,none⟩),.agg #[.bool true,.int .i64 (n:Int),.slice none 0 0,.slice (some ⟨w5.heap.size,0,none⟩) 1 1]] W5 fun e w'=>e= .returned (.tuple #[.int .u8 0,.int .i64 0,.int .i64 0])∧CkAt w4.heap.size w' bk (ckDelOf cs m)∧Below w4.heap.size W5 w'∧CkF bk W5 w' from by
  have:=ck_do_all (N:=1000) (O:=fun _=>True) (Oc:=fun _=>True) bk (ckrOf cs 0) (delS n id) (.slice none 0 0) (.slice (some ⟨w5.heap.size,0,none⟩) 1 1) W5 (HCK.out.below hb5') hbw.size (ckrOf_ok (fun c hc=>(H6.out c hc).clause) (by omega) (by omega)) (by omega) (IntsIn.nil _ _) (ints_blk (xs:= [id]) hc5 trivial) (by simp[delS]) (by simp[delS])
  rw[hstep1]at this
  exact this)
 clear hm hb5' hbw hc5
 go_wp2_with fail
 refine HDO1.out.mono ?_
 rintro e w6 ⟨rfl,hck6,hb6,-⟩
 have HCK6:=Lib.hid hck6
 have HB6:=Lib.hid (HB5'.out.trans hb6)
 clear hck6 hb6 HDO1 HCK HW5 hW5
 obtain⟨W6,hW6,hb6',hc6,-⟩:=al_new w6 #[.int .i64 id] 3
 have HW6:=Lib.hid hW6
 have hbw:=HB6.out.trans (hb6'.mono HB6.out.size)
 have HB6':=Lib.hid hbw
 have HDO2:=Lib.hid (show Calls Tryz.prog 13 #[.pointer (some ⟨bk,0,none⟩),.agg #[.bool true,.int .i64 (n:Int),.slice none 0 0,.slice (some ⟨w6.heap.size,0,none⟩) 1 1]] W6 fun e w'=>e= .returned (.tuple #[.int .u8 0,.int .i64 id,.int .i64 91])∧CkAt w4.heap.size w' bk (ckDelOf cs m)∧Below w4.heap.size W6 w'∧CkF bk W6 w' from by
  have:=ck_do_all (N:=1001) (O:=fun _=>True) (Oc:=fun _=>True) bk (ckDelOf cs m) (delS n id) (.slice none 0 0) (.slice (some ⟨w6.heap.size,0,none⟩) 1 1) W6 (HCK6.out.below hb6') hbw.size HOK.out (by omega) (IntsIn.nil _ _) (ints_blk (xs:= [id]) hc6 trivial) (by simp[delS]) (by simp[delS])
  rw[hstep2]at this
  exact this)
 clear hb6' hbw hc6
 go_wp2_with fail
 refine HDO2.out.mono ?_
 rintro e w7 ⟨rfl,hck7,hb7,-⟩
 have HCK7:=Lib.hid hck7
 have HB7:=Lib.hid (HB6'.out.trans hb7)
 clear hck7 hb7 HDO2 HCK6 HW6 hW6
 have HEN:=Lib.hid (ck_entries bk (ckDelOf cs m) w7 HCK7.out HOK.out (by omega))
 go_wp2_with fail
 refine HEN.out.mono ?_
 rintro e w8 ⟨ev,rfl,hev,hb8⟩
 have hev:EntIn (fun _=>True) w8 ev ((entsFrom 0 cs).eraseIdx m):=hev
 have HCK8:=Lib.hid (HCK7.out.below hb8)
 have HB8:=Lib.hid (HB7.out.trans (hb8.mono HB7.out.size))
 have hll:=left_len hmcs
 rw[HN.out]at hll
 obtain⟨n1,hn1⟩: ∃n1,n-1=n1:=⟨_,rfl⟩
 rw[hn1]at hll
 have HEV:=Lib.hid hev
 obtain⟨Ae,ce,rfl,_,_,_⟩:=hev
 rw[hll]at HEV⊢
 have HLL:=Lib.hid hll
 have hsub:(n:Int)-1=(n1:Int):=by omega
 have hwsub:IntKind.i64.wrap (n1:Int)=n1:=IntWalk.i64_in _ (by omega)
 have HLA:=Lib.hid (show Calls Tryz.prog 14 #[.pointer (some ⟨bk,0,none⟩)] w8 fun e w'=>e= .returned (.int .i64 (n:Int))∧w8=w' from by
  have:=ck_last bk (ckDelOf cs m) w8 HCK8.out
  rw[show(ckDelOf cs m).last=(n:Int)from by show(cs.length:Int)=n;rw[HN.out]]at this
  exact this)
 have HREP:=Lib.hid (show Calls Tryz.prog 24 #[.pointer (some ⟨bk,0,none⟩)] w8 fun e w'=>e= .returned (.agg #[.bool false,.int .i64 0,.int .i64 1,.int .i64 0,.int .i64 (n:Int)])∧Below w8.heap.size w8 w' from by
  have:=ck_report bk (ckDelOf cs m) w8 HCK8.out
  rw[show(ckDelOf cs m).rep= .agg #[.bool false,.int .i64 0,.int .i64 1,.int .i64 0,.int .i64 (n:Int)]from by show Value.agg #[.bool false,.int .i64 0,.int .i64 1,.int .i64 0,.int .i64 (cs.length:Int)]=_;rw[HN.out]]at this
  exact this)
 clear hb8 HCK7 HEN hll hmod
 go_wp2_with fail
 refine HLA.out.mono ?_
 rintro e w' ⟨rfl,rfl⟩
 go_wp2_with fail
 refine HREP.out.mono ?_
 rintro e w9 ⟨rfl,hb9⟩
 have HCK9:=Lib.hid (HCK8.out.below hb9)
 have HB9:=Lib.hid (HB8.out.trans (hb9.mono HB8.out.size))
 have HEV9:=Lib.hid (HEV.out.below hb9)
 have hfld: ∀w:World,(Instr.field 50 (.agg #[.bool false,.int .i64 0,.int .i64 1,.int .i64 0,.int .i64 (n:Int)]) 2).run Tryz.prog w= .ok (.int .i64 1) w:=fun _=>by kernel_rfl
 clear hb9 HLA HREP HCK8 HEV
 go_wp2_with fail
 go_loopw [112] (fun iv wr=> ∃i:Nat,i≤n1∧iv= .int .i64 i∧Hid (Below w4.heap.size w4 wr)∧Hid (Below w9.heap.size w9 wr)) (fun iv _=>n1-(intOf iv).toNat)
 case atStart=>exact⟨0,Nat.zero_le _,rfl,HB9,Lib.hid (Below.refl _ _)⟩
 case round=>
  obtain⟨i,hi,rfl,HBr,HBr9⟩:=hrel
  by_cases hin:i<n1
  ·obtain⟨kk,hkk⟩: ∃kk:Nat,(if m≤i then i+1 else i)=kk:=⟨_,rfl⟩
   have hkn:kk<n:=by split at hkk <;> omega
   have hkcs:kk<cs.length:=by rw[HN.out];exact hkn
   obtain⟨c,hc⟩: ∃c,cs[kk]? =some c:=⟨_,List.getElem?_eq_getElem hkcs⟩
   obtain⟨ik,hik⟩: ∃ik:Int,(kk:Int)+1=ik:=⟨_,rfl⟩
   have hat:((entsFrom 0 cs).eraseIdx m)[i]? =some (ik,c):=by
    rw[left_at,hkk,hc,←hik]
    rfl
   obtain⟨A',c',hAc,_,_,hxs⟩:=HEV9.out.below HBr9.out
   simp only[Value.slice.injEq]at hAc
   obtain⟨rfl,-,rfl⟩:=hAc
   obtain⟨g,o,u,rfl,hg,_,d0,d1,hu⟩:=hxs i _ hat
   have HU:=Lib.hid hu
   obtain⟨Au,cu,rfl,_⟩:=hu
   simp only at d0 d1
   have HC:=Lib.hid hc
   clear hc hat hxs hg hkcs
   obtain⟨W1,hW1,hb1,hc1,-⟩:=al_new wr #[.int .i64 ik,.slice Au c.length cu] 65
   have HW1:=Lib.hid hW1
   have HC1:=Lib.hid hc1
   have HB1':=Lib.hid hb1
   have hwk:IntKind.i64.wrap (kk:Int)=kk:=IntWalk.i64_in _ (by omega)
   clear hW1 hb1 hc1
   go_upto_if 121 with fail
   rw[HW1.out]
   go_cut [22] (fun s wx=>s= .int .i64 (kk:Nat)∧wx=W1)
   case first=>
    by_cases hmi:m≤i
    ·have q1:decide (id≤(i:Int)+1)=true:=by rw[decide_eq_true_eq];omega
     rw[if_pos hmi]at hkk
     have hk1:(i:Int)+1=kk:=by omega
     go_wp2_with fail
     go_meet
     exact⟨rfl,rfl⟩
    ·have q1:decide (id≤(i:Int)+1)=false:=by rw[decide_eq_false_iff_not];omega
     rw[if_neg hmi]at hkk
     subst hkk
     go_wp2_with fail
     go_meet
     exact⟨rfl,rfl⟩
   case rest=>
    obtain⟨rfl,rfl⟩:=hcut
    have hbW:=HBr.out.trans (HB1'.out.mono HBr.out.size)
    have hbW9:=HBr9.out.trans (HB1'.out.mono HBr9.out.size)
    have HBW:=Lib.hid hbW
    have HBW9:=Lib.hid hbW9
    have x0:=mx_cell (j:=0) HC1.out
    have x1:=mx_cell (j:=1) HC1.out
    have hxl:=heap_lt HC1.out
    have f1:=(hbW.cell (p:=⟨w2.heap.size,1,none⟩) HXL.out).trans (mx_cell (j:=1) HX4.out)
    have hfl:w2.heap.size<wc.heap.size:=Nat.lt_of_lt_of_le HXL.out hbW.size
    obtain⟨A'',c'',hAc,_,_,hys⟩:=HC4.out
    simp only[Value.slice.injEq]at hAc
    obtain⟨rfl,-,rfl⟩:=hAc
    obtain⟨gc,oc,uc,rfl,hgc,_,dc,huc⟩:=hys kk c HC.out
    have dc:=(hbW.cell (p:=⟨gc,oc+kk,none⟩) hgc).trans dc
    have hgl:gc<wc.heap.size:=Nat.lt_of_lt_of_le hgc hbW.size
    have hcl:c.length≤13:=(H6.out c (List.mem_of_getElem? HC.out)).1
    have HEQ:=Lib.hid (fun(X:World) (hX:Below wc.heap.size wc X)=>eq_c (.slice Au c.length cu) uc c c X ((HU.out.below HB1'.out).below hX) ((huc.below hbW).below hX) (by omega))
    rw[beq_self_eq_true]at HEQ
    obtain⟨Ac',cc',rfl,_⟩:=huc
    have hwk1:IntKind.i64.wrap ik=ik:=IntWalk.i64_in _ (by omega)
    have hkI:(kk:Int)<(n:Int):=by omega
    have hkI0:decide ((kk:Int)<(n:Int))=true:=decide_eq_true hkI
    have hii:(ik != ik)=false:=bne_self_eq_false ik
    clear hys hbW hbW9 HC1 HW1 d0 d1
    go_upto_region 21 with fail
    refine wp_region_held_drew (S:=fun w'=>Below wc.heap.size wc w') (by kernel_rfl) (mx_drew wc) (fun hS=>?_)
    obtain⟨xD,hxD⟩: ∃z,wc.drew=z:=⟨_,rfl⟩
    rw[hxD]at hS⊢
    clear hxD
    refine takeE 0 124 ?_
    refine takeF 1 125 (fun wq hSw=>(hSw.cell (p:=⟨wr.heap.size,0,none⟩) hxl).trans x0) ?_
    refine takeE 2 126 ?_
    refine takeE 3 127 ?_
    refine takeE 4 128 ?_
    refine takeE 5 129 ?_
    refine takeE 6 130 ?_
    refine takeF 7 131 (fun wq hSw=>(hSw.cell (p:=⟨wr.heap.size,1,none⟩) hxl).trans x1) ?_
    refine takeE 8 132 ?_
    refine takeF 9 133 (fun wq hSw=>(hSw.cell (p:=⟨w2.heap.size,1,none⟩) hfl).trans f1) ?_
    refine takeE 10 134 ?_
    refine takeE 11 135 ?_
    refine takeF 12 136 (fun wq hSw=>(hSw.cell (p:=⟨gc,oc+kk,none⟩) hgl).trans dc) ?_
    refine ready1 13 (fun K hK=>?_)
    go_simp
    refine(HEQ.out _ hS).mono ?_
    rintro e w10 ⟨rfl,q10,hw10⟩
    have hSN:Below wc.heap.size wc w10:=by rw[hw10];exact hS.trans ((mx_drewN _ _).mono hS.size)
    refine hK.out _ _ hSN (fun _=>?_)
    clear hK
    refine takeE 14 138 ?_
    refine takeE 15 139 ?_
    refine wpAnyH_done (by kernel_rfl) ?_ _
    have HS1:=Lib.hid (HBW.out.trans (hSN.mono HBW.out.size))
    have HS2:=Lib.hid (HBW9.out.trans (hSN.mono HBW9.out.size))
    clear hSN hS x0 x1 f1 dc hw10
    go_wp2_with fail
    go_roundw
    case rel=>exact⟨i+1,by omega,by go_num,HS1,HS2⟩
    case measure=>simp[intOf];omega
  ·obtain rfl:i=n1:=by omega
   rcases ss with _|⟨s,r⟩
   ·obtain rfl:L=0:=HL.out.symm
    go_wp2_with fail
    go_ret
    exact⟨rfl,HB4.out.trans (HBr.out.mono HB4.out.size)⟩
   obtain rfl:r= []:=by
    have:=HSL.out
    rw[List.length_cons]at this
    exact List.eq_nil_of_length_eq_zero (by omega)
   obtain rfl:L=1:=HL.out.symm
   obtain⟨p,k2,hh,hp,hk,r1,r2,r3⟩:=del_step hmcs hcs9 H6.out HRS.out
   obtain⟨A',c',hAc,_,_,hxs⟩:=HST.out
   simp only[Value.slice.injEq]at hAc
   obtain⟨rfl,-,rfl⟩:=hAc
   obtain⟨g,o,ul,uh,rfl,hg,_,d0,d1,d2,d3,hul,huh⟩:=hxs 0 s rfl
   simp only[Nat.zero_mul,Nat.add_zero]at d0 d1 d2 d3
   obtain⟨hsl6,hsh⟩:=HS6.out s List.mem_cons_self
   have D3:=Lib.hid d3
   have HUH:=Lib.hid huh
   have HDO:=Lib.hid (ck_do_all (N:=1001) bk (ckDelOf cs m) s ul uh wr (HCK9.out.below HBr9.out) HBr.out.size HOK.out (by omega) (hul.below HBr.out) (huh.below HBr.out) (by have:=hsl6.1;omega) (by omega))
   have hxh0:s.hints[0]? =some ((p:Int)+1):=by rw[hh];rfl
   obtain⟨Al,cl',rfl,_⟩:=hul
   obtain⟨Ah,ch',hvh,_,_,hyh⟩:=huh
   obtain⟨g2,o2,rfl,hg2,_,dh⟩:=hyh 0 _ hxh0
   rw[hvh,hsh]at HUH HDO D3 d3
   rw[Nat.add_zero]at dh
   have DH:=Lib.hid dh
   have d0:=(HBr.out.cell (p:=⟨g,o,none⟩) hg).trans d0
   have d1:=(HBr.out.cell (p:=⟨g,o+1,none⟩) hg).trans d1
   have d2:=(HBr.out.cell (p:=⟨g,o+2,none⟩) hg).trans d2
   have d3:=(HBr.out.cell (p:=⟨g,o+3,none⟩) hg).trans d3
   have HB4r:=Lib.hid HBr.out
   clear hxs hsh hsl6 hvh hyh dh
   have hcon:s.hints.contains id=(decide (p=m)||decide (k2=m)):=by
    rw[hh,Bool.eq_iff_iff,List.contains_iff_mem,Bool.or_eq_true,decide_eq_true_eq,decide_eq_true_eq,List.mem_cons,List.mem_singleton]
    omega
   by_cases hpm:p=m
   ·have hR:((ckDelOf cs m).do_ s).2=(0,id,91):=by rw[r2 hpm,hid]
    have hDO:=HDO.out
    rw[hR]at hDO
    have HDO:=Lib.hid (show Calls Tryz.prog 13 #[.pointer (some ⟨bk,0,none⟩),.agg #[.bool s.del,.int .i64 s.id,.slice Al s.lits.length cl',.slice (some ⟨g2,o2,none⟩) 2 ch']] wr fun e w'=>e= .returned (.tuple #[.int .u8 0,.int .i64 id,.int .i64 91])∧CkAt w4.heap.size w' bk ((ckDelOf cs m).do_ s).1∧Below w4.heap.size wr w'∧CkF bk wr w' from hDO)
    have HCT:=Lib.hid (fun(X:World) (hX:Below w4.heap.size w4 X)=>contains_i (.slice (some ⟨g2,o2,none⟩) 2 ch') s.hints id X (HUH.out.below hX) (by rw[hh];show 2≤140737488355328;decide))
    rw[hcon,decide_eq_true hpm,Bool.true_or]at HCT
    clear hDO hR hcon hh
    go_wp2_with fail
    refine HDO.out.mono ?_
    rintro e w10 ⟨rfl,-,hb10,-⟩
    have HB10:=Lib.hid (HB4r.out.trans hb10)
    clear hb10 d0 d1 d2 d3
    have d3:=(HB10.out.cell (p:=⟨g,o+3,none⟩) hg).trans D3.out
    have d4:=(HB10.out.cell (p:=⟨g2,o2,none⟩) hg2).trans DH.out
    go_wp2_with fail
    refine(HCT.out w10 HB10.out).mono ?_
    rintro e w11 ⟨rfl,rfl⟩
    have hpe:(p:Int)+1=id:=by omega
    go_wp2_with fail
    go_ret
    exact⟨rfl,HB4.out.trans (HB10.out.mono HB4.out.size)⟩
   ·by_cases hkm:k2=m
    ·have hR:((ckDelOf cs m).do_ s).2=(0,id,91):=by rw[r3 hpm hkm,hid]
     have hDO:=HDO.out
     rw[hR]at hDO
     have HDO:=Lib.hid (show Calls Tryz.prog 13 #[.pointer (some ⟨bk,0,none⟩),.agg #[.bool s.del,.int .i64 s.id,.slice Al s.lits.length cl',.slice (some ⟨g2,o2,none⟩) 2 ch']] wr fun e w'=>e= .returned (.tuple #[.int .u8 0,.int .i64 id,.int .i64 91])∧CkAt w4.heap.size w' bk ((ckDelOf cs m).do_ s).1∧Below w4.heap.size wr w'∧CkF bk wr w' from hDO)
     have HCT:=Lib.hid (fun(X:World) (hX:Below w4.heap.size w4 X)=>contains_i (.slice (some ⟨g2,o2,none⟩) 2 ch') s.hints id X (HUH.out.below hX) (by rw[hh];show 2≤140737488355328;decide))
     rw[hcon,decide_eq_false hpm,decide_eq_true hkm,Bool.false_or]at HCT
     clear hDO hR hcon hh
     go_wp2_with fail
     refine HDO.out.mono ?_
     rintro e w10 ⟨rfl,-,hb10,-⟩
     have HB10:=Lib.hid (HB4r.out.trans hb10)
     clear hb10 d0 d1 d2 d3
     have d3:=(HB10.out.cell (p:=⟨g,o+3,none⟩) hg).trans D3.out
     have d4:=(HB10.out.cell (p:=⟨g2,o2,none⟩) hg2).trans DH.out
     go_wp2_with fail
     refine(HCT.out w10 HB10.out).mono ?_
     rintro e w11 ⟨rfl,rfl⟩
     have hpe:((p:Int)+1==id)=false:=beq_eq_false_iff_ne.2 (by omega)
     go_wp2_with fail
     go_ret
     exact⟨rfl,HB4.out.trans (HB10.out.mono HB4.out.size)⟩
    ·have hR:((ckDelOf cs m).do_ s).2=(1,0,0):=by rw[r1 hpm hkm]
     have hDO:=HDO.out
     rw[hR]at hDO
     have HDO:=Lib.hid (show Calls Tryz.prog 13 #[.pointer (some ⟨bk,0,none⟩),.agg #[.bool s.del,.int .i64 s.id,.slice Al s.lits.length cl',.slice (some ⟨g2,o2,none⟩) 2 ch']] wr fun e w'=>e= .returned (.tuple #[.int .u8 1,.int .i64 0,.int .i64 0])∧CkAt w4.heap.size w' bk ((ckDelOf cs m).do_ s).1∧Below w4.heap.size wr w'∧CkF bk wr w' from hDO)
     have HCT:=Lib.hid (fun(X:World) (hX:Below w4.heap.size w4 X)=>contains_i (.slice (some ⟨g2,o2,none⟩) 2 ch') s.hints id X (HUH.out.below hX) (by rw[hh];show 2≤140737488355328;decide))
     rw[hcon,decide_eq_false hpm,decide_eq_false hkm,Bool.false_or]at HCT
     clear hDO hR hcon hh
     go_wp2_with fail
     refine HDO.out.mono ?_
     rintro e w10 ⟨rfl,-,hb10,-⟩
     have HB10:=Lib.hid (HB4r.out.trans hb10)
     clear hb10 d0 d1 d2 d3
     have d3:=(HB10.out.cell (p:=⟨g,o+3,none⟩) hg).trans D3.out
     have d4:=(HB10.out.cell (p:=⟨g2,o2,none⟩) hg2).trans DH.out
     go_wp2_with fail
     refine(HCT.out w10 HB10.out).mono ?_
     rintro e w11 ⟨rfl,rfl⟩
     go_wp2_with fail
     go_ret
     exact⟨rfl,HB4.out.trans (HB10.out.mono HB4.out.size)⟩
end Go.Proofs.YtkfgplfllddhnaaGreat
