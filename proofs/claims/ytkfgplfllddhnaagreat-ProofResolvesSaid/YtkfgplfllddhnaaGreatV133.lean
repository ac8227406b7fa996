/- The examples of chapter 10: awake. IndexFunc at steps; what is resolved: plain. package salvorlaw10: ProofResolves. -/
import Derived.Test.YtkfgplfllddhnaaGreatV130
import Derived.Test.YtkfgplfllddhnaaGreatV132
import Derived.Test.YtkfgplfllddhnaaGreatV128
import Derived.Test.YtkfgplfllddhnaaGreatV129
namespace Go.Proofs.YtkfgplfllddhnaaGreat
open Go.RowKit
theorem trim_ex:TrimEx:=by
 intro O Os lv sv w h hs
 refine(proof_trim 2 _ _ fourC exM w h four_ok.1 (by decide) four_ok.2 hs (by decide) (by decide)).mono ?_
 rintro e w' ⟨ht,hb⟩
 unfold TrimOut at ht
 rw[ex_run,if_neg (fun h=>h rfl),ex_trm,if_neg (fun h=>by cases h)]at ht
 obtain⟨v,K,rfl,hK,hm⟩:=ht
 rw[ex_bk]at hK
 have hl:K.length=2:=by simpa using congrArg List.length hK
 obtain⟨x,y,rfl⟩: ∃x y,K= [x,y]:=by
  rcases K with _|⟨x,_|⟨y,_|⟨z,r⟩⟩⟩
  ·cases hl
  ·cases hl
  ·exact⟨x,y,rfl⟩
  ·simp at hl
 have hx:x.1=⟨false,6,[2],[1,2]⟩:=(List.cons.inj hK).1
 obtain⟨g,c,rfl⟩:=ownsRow_succ hm.row
 obtain⟨-,e1,-,-⟩:=stcell_at [x,y] 0 x rfl
 have:=mx_at hm.row e1
 rw[hx]at this
 exact⟨g,c,rfl,this,hb⟩
theorem awake10_any (w:World):Calls Tryz.prog 8 #[] w fun e w'=>e= .returned (.bool true)∧Below w.heap.size w w':=awake10_core trim_ex w
end Go.Proofs.YtkfgplfllddhnaaGreat
namespace Go.Proofs.YtkfgplfllddhnaaGreat
open Go.RowKit
def TellsS (O:Nat→Prop) (w:World) (F:Nat) (caps:Array Value) (ss:List EStep) (P:EStep→Bool):Prop:= ∀W,Below w.heap.size w W→∀ul uh s,s∈ss→IntsIn O W ul s.lits→IntsIn O W uh s.hints→Calls Tryz.prog F (#[.agg #[.bool s.del,.int .i64 s.id,ul,uh]]++caps) W fun e w'=>e= .returned (.bool (P s))∧Below W.heap.size W w'
set_option maxRecDepth 100000 in
set_option maxHeartbeats 1000000 in
theorem index_sf {Oc:Nat→Prop} (F:Nat) (caps:Array Value) (u:Value) (xs:List EStep) (P:EStep→Bool) (w:World) (heg: ∀args w,(callFunc F args).run Tryz.prog w= .ok (.enter F args) w) (h1:StepIn Oc w u xs) (hs:xs.length≤140737488355328) (hF:TellsS Oc w F caps xs P):
  Calls Tryz.prog 20 #[u,.func (.func F) #[] caps] w fun e w'=>(∃i:Int,e= .returned (.int .i64 i)∧FstI xs P i)∧Below w.heap.size w w':=by
 have HONE:=Lib.hid hF
 have HX:=Lib.hid h1
 obtain⟨A,c,rfl,hc,_,_⟩:=h1
 clear hF
 go_enter Tryz.func20,Tryz.ntmps20
 go_wp2
 go_loopw [8] (fun i wr=> ∃k:Nat,k≤xs.length∧i= .int .i64 k∧Hid (∀j x,j<k→xs[j]? =some x→P x=false)∧Hid (Below w.heap.size w wr)) (fun i _=>xs.length-(intOf i).toNat)
 case atStart=>exact⟨0,Nat.zero_le _,rfl,Lib.hid (fun j x hj=>by omega),Lib.hid (Below.refl _ _)⟩
 case round=>
  obtain⟨k,hk,rfl,HE,HW⟩:=hrel
  by_cases hlt:k<xs.length
  ·obtain⟨x,hxk⟩:=getElem_of hlt
   obtain⟨A',c',hAc,_,_,hxs⟩:=HX.out.below HW.out
   simp only[Value.slice.injEq,true_and]at hAc
   obtain⟨rfl,rfl⟩:=hAc
   obtain⟨g,o,ul,uh,rfl,hg,_,d0,d1,d2,d3,hul,huh⟩:=hxs k x hxk
   have HXK:=Lib.hid hxk
   have hC:=HONE.out wr HW.out ul uh x (List.mem_of_getElem? hxk) hul huh
   obtain⟨b,hb⟩: ∃b,P x=b:=⟨_,rfl⟩
   rw[hb]at hC
   have HB:=Lib.hid hb
   have HC:=Lib.hid hC
   obtain⟨Au,cu,rfl,_⟩:=hul
   obtain⟨Av,cv,rfl,_⟩:=huh
   clear hxk hxs hb hC
   go_wp2_with fail
   refine HC.out.mono ?_
   rintro e w' ⟨rfl,hbw⟩
   have HB2:=Lib.hid (HW.out.trans (hbw.mono HW.out.size))
   clear hbw d0 d1 d2 d3
   cases b with
   | true=>
    go_wp2_with fail
    go_ret
    exact⟨⟨_,rfl,.inr ⟨k,rfl,hlt,HE.out,x,HXK.out,HB.out⟩⟩,HB2.out⟩
   | false=>
    go_wp2_with fail
    go_roundw
    case rel=>exact⟨k+1,by omega,by go_num,Lib.hid (FstI.step HE.out HXK.out HB.out),HB2⟩
    case measure=>simp[intOf];omega
  ·obtain rfl:k=xs.length:=by omega
   go_wp2
   go_ret
   exact⟨⟨_,rfl,FstI.none HE.out⟩,HW.out⟩
theorem empty_len (c:List Int):((c.length:Int)==0)=c.isEmpty:=by
 cases c with
 | nil=>rfl
 | cons x r=>exact beq_eq_false_iff_ne.2 (by rw[List.length_cons];omega)
set_option maxRecDepth 100000 in
set_option maxHeartbeats 1000000 in
theorem empty_one {O:Nat→Prop} (u:Value) (c:List Int) (w:World) (h:IntsIn O w u c):
  Calls Tryz.prog 19 #[u] w fun e w'=>e= .returned (.bool c.isEmpty)∧Below w.heap.size w w':=by
 obtain⟨A,k,rfl,_⟩:=h
 have hq:=empty_len c
 obtain⟨z,hz⟩: ∃z,c.isEmpty=z:=⟨_,rfl⟩
 rw[hz]at hq⊢
 clear hz
 go_enter Tryz.func19,Tryz.ntmps19
 go_wp2_with fail
 go_ret
 exact⟨by simp only[←hq];rfl,Below.refl _ _⟩
set_option maxRecDepth 100000 in
set_option maxHeartbeats 1000000 in
theorem empty_step {O:Nat→Prop} (u v:Value) (s:EStep) (w:World) (h:IntsIn O w u s.lits) (h2:IntsIn O w v s.hints):
  Calls Tryz.prog 21 #[.agg #[.bool s.del,.int .i64 s.id,u,v]] w fun e w'=>e= .returned (.bool s.lits.isEmpty)∧Below w.heap.size w w':=by
 obtain⟨A,k,rfl,_⟩:=h
 obtain⟨A2,k2,rfl,_⟩:=h2
 obtain⟨W1,hW1,hb1,hc1,-⟩:=al_new w #[.bool s.del,.int .i64 s.id,.slice A s.lits.length k,.slice A2 s.hints.length k2] 39
 have hq:=empty_len s.lits
 obtain⟨z,hz⟩: ∃z,s.lits.isEmpty=z:=⟨_,rfl⟩
 rw[hz]at hq⊢
 have HW1:=Lib.hid hW1
 have HB1:=Lib.hid hb1
 have c2:=mx_cell (j:=2) hc1
 clear hz hW1 hb1 hc1
 go_enter Tryz.func21,Tryz.ntmps21
 go_upto_region 1 with fail
 rw[HW1.out]
 go_wp2_with fail
 go_ret
 exact⟨by simp only[←hq];rfl,HB1.out⟩
theorem made_six (xss:List (List Int)): ∀c∈(xss.take 14).map madeL,Lit6 c:=fun c hc=>by
 obtain⟨xs,_,rfl⟩:=List.mem_map.1 hc
 unfold madeL
 refine⟨?_,fun y hy=>?_⟩
 ·rw[List.length_map,List.length_take]
  omega
 ·obtain⟨x,_,rfl⟩:=List.mem_map.1 hy
  obtain⟨h1,h2⟩:=madeLit_rng x
  have hb:litB (madeLit x)=true:=(litB_iff _).2 (by omega)
  exact⟨hb,by have:=(litV_pos hb).2;omega⟩
theorem lit6_lits {cs:List (List Int)} (h: ∀c∈cs,Lit6 c):Lits6 cs:=fun c hc=>⟨by have:=(h c hc).1;omega,fun y hy=>by
 obtain⟨h1,h2⟩:=(h c hc).2 y hy
 have:=(litB_iff y).1 h1
 have:=(litV_pos h1)
 omega⟩
theorem lit6_fgo: ∀(cs:List (List Int)) (i:Nat),(∀c∈cs,Lit6 c)→fchkGo 6 i cs=(-1,0)
 | [],_,_=>rfl
 | c::r,i,h=>by
  have hc:=h c List.mem_cons_self
  unfold fchkGo
  rw[if_neg (by rw[hc.clause];decide),if_neg (by
   rw[show c.any (beyB 6)=false from List.any_eq_false.2 fun y hy=>by
    obtain⟨h1,h2⟩:=hc.2 y hy
    unfold beyB
    rw[h1,decide_eq_false (by omega)]
    decide]
   decide)]
  exact lit6_fgo r (i+1) fun d hd=>h d (List.mem_cons_of_mem _ hd)
theorem lit6_fchk {cs:List (List Int)} (h: ∀c∈cs,Lit6 c) (hn:cs.length≤1000):fchk 6 cs=(-1,0):=by
 unfold fchk
 rw[if_neg (by decide),if_neg (by omega)]
 exact lit6_fgo cs 0 h
theorem res_holds {cs:List (List Int)} {l:List EStep} (h6: ∀c∈cs,Lit6 c) (hn:cs.length≤1000) (hl: ∀s∈l,Lit6 s.lits) {m:Nat} (h:ChkR cs l m) {s:EStep} (hs:s∈l.take m) (he:s.lits= []):holdsL cs=false:=by
 cases hh:holdsL cs with
 | false=>rfl
 | true=>
  exfalso
  obtain⟨j,hj,ha⟩:=List.any_eq_true.1 hh
  have hj:=List.mem_range.1 hj
  have h0:SatN (ckrNew cs).ents:=⟨2*j,by omega,by omega,fun p hp=>by
   rw[ckrNew_of]at hp
   obtain⟨i,h1,_⟩:=entsFrom_mem.1 hp
   exact List.all_eq_true.1 ha _ (List.mem_of_getElem? h1)⟩
  have hk:(ckrNew cs).Ok 1000:=by
   rw[ckrNew_of]
   exact ckrOf_ok (fun c hc=>(h6 c hc).clause) hn (Nat.zero_le _)
  have h1:=run_sat l (ckrNew cs) 1000 0 hk (fun s hs y hy=>((hl s hs).2 y hy).2) h0
  rw[h.run]at h1
  exact satN_no h1 (p:=(s.id,s.lits)) (List.mem_append_right _ (List.mem_map.2 ⟨s,hs,rfl⟩)) he
end Go.Proofs.YtkfgplfllddhnaaGreat
namespace Go.Proofs.YtkfgplfllddhnaaGreat
open Go.RowKit
theorem rep_parts {k:Ckr} {a:Bool} {b c d e:Int} (h:k.rep= .agg #[.bool a,.int .i64 b,.int .i64 c,.int .i64 d,.int .i64 e]):a=k.proved∧b=k.adds∧c=k.dels∧d=k.rats∧e=k.largest:=by
 unfold Ckr.rep at h
 simp only[Value.agg.injEq,Array.mk.injEq,List.cons.injEq,Value.bool.injEq,Value.int.injEq,true_and,and_true]at h
 obtain⟨h1,h2,h3,h4,h5⟩:=h
 exact⟨h1.symm,h2.symm,h3.symm,h4.symm,h5.symm⟩
theorem repZ_parts {a:Bool} {b c d e:Int} (h:repZ= .agg #[.bool a,.int .i64 b,.int .i64 c,.int .i64 d,.int .i64 e]):a=false∧b=0∧c=0∧d=0∧e=0:=by
 unfold repZ at h
 simp only[Value.agg.injEq,Array.mk.injEq,List.cons.injEq,Value.bool.injEq,Value.int.injEq,true_and,and_true]at h
 obtain⟨h1,h2,h3,h4,h5⟩:=h
 exact⟨h1.symm,h2.symm,h3.symm,h4.symm,h5.symm⟩
theorem run_true {k:Ckr} {m:Nat} (hp:k.proved=true):runE (k,m,0)=0∧runRep (k,m,0)=k.rep:=by
 have e:runE (k,m,0)=0:=by
  unfold runE
  rw[if_neg (fun h=>h rfl),if_pos hp]
 exact⟨e,by unfold runRep;rw[if_pos e]⟩
theorem run_false {k:Ckr} {m:Nat} (hp:k.proved=false):runE (k,m,0)=101∧runRep (k,m,0)=repZ:=by
 have e:runE (k,m,0)=101:=by
  unfold runE
  rw[if_neg (fun h=>h rfl),if_neg (by rw[hp];decide)]
 exact⟨e,by unfold runRep;rw[if_neg (by rw[e];decide)]⟩
set_option maxRecDepth 100000 in
set_option maxHeartbeats 8000000 in
theorem resolves_any (l x:Value) (xss:List (List Int)) (xs:List Int) (w:World) (hl:RowsAt .i8 w l xss) (hx:RowAt .u8 w x xs) (hxl:xs.length≤140737488355328):
  Calls Tryz.prog 4 #[l,x] w fun e w'=>e= .returned (.bool true)∧Below w.heap.size w w':=by
 obtain⟨cs,hcs⟩: ∃cs,(xss.take 14).map madeL=cs:=⟨_,rfl⟩
 have HAW:=Lib.hid (awake10_any w)
 have HMD:=Lib.hid (fun(X:World) (hX:Below w.heap.size w X)=>made10_any l xss X (hl.below hX) hcs rfl)
 have HX:=Lib.hid (fun(X:World) (hX:Below w.heap.size w X)=>hx.below hX)
 have h6: ∀c∈cs,Lit6 c:=by rw[←hcs];exact made_six xss
 have hcn:cs.length≤14:=by rw[←hcs,List.length_map,List.length_take];omega
 obtain⟨hrs,hsl⟩:=resL_ok h6 xs 20
 obtain⟨ss,hss⟩: ∃ss,resL cs xs 20=ss:=⟨_,rfl⟩
 rw[hss]at hrs hsl
 obtain⟨m,hch⟩:=chk_rup (rupL_res hrs (fun c hc=>(h6 c hc).clause) (by omega))
 have hs6: ∀s∈ss,Lit6 s.lits∧s.hints.length=2:=fun s hs=>by
  obtain⟨j,hj⟩:=List.getElem?_of_mem hs
  obtain⟨_,_,_,_,_,_,_,h3,_,_,_,_,_,_,h9⟩:=hrs j s hj
  exact⟨h9,by rw[h3];rfl⟩
 obtain⟨R,hR⟩: ∃R,runGo (ckrNew cs) ss 0=R:=⟨_,rfl⟩
 obtain⟨a,b,c,d,e',hrv⟩:=rep_agg R
 obtain⟨i1,hi1⟩: ∃i1:Int,((R.2.1:Nat):Int)=i1:=⟨_,rfl⟩
 obtain⟨i2,hi2⟩: ∃i2:Int,((runE R:Nat):Int)=i2:=⟨_,rfl⟩
 have HRV:=Lib.hid hrv
 have HI1:=Lib.hid hi1
 have HI2:=Lib.hid hi2
 have HR:=Lib.hid (hR.symm.trans hch.run)
 have HCH:=Lib.hid hch
 have H6:=Lib.hid h6
 have HS6:=Lib.hid hs6
 have HSS:=Lib.hid hss
 have HCK:=Lib.hid (fun(X:World) (lv sv:Value) (hl:ClsIn (fun _=>True) X lv cs) (hs:StepIn (fun _=>True) X sv ss)=>proof_check 6 lv sv cs ss X hl (fun c hc=>(h6 c hc).clause) (by omega) (lit6_fchk h6 (by omega)) hs (by omega) (fun s hs=>by have:=(hs6 s hs).1.1;have:=(hs6 s hs).2;omega))
 rw[hR,hrv,hi1,hi2]at HCK
 clear hcs hl hx hrs hss hch hs6 hR hrv hi1 hi2 h6
 go_enter Tryz.func4,Tryz.ntmps4
 go_wp2_with fail
 refine HAW.out.mono ?_
 rintro e w1 ⟨rfl,hb1⟩
 have HB1:=Lib.hid hb1
 clear hb1 HAW
 go_wp2_with fail
 refine(HMD.out w1 HB1.out).mono ?_
 rintro e w2 ⟨A,k,rfl,hcl,hb2⟩
 obtain⟨W3,hW3,hb3,hc3,-⟩:=al_new w2 #[.int .i64 6,.slice A cs.length k] 26
 have HC3:=Lib.hid ((hcl.clsIn.below hb3).mono (O':=fun _=>True) fun _ _=>trivial)
 have HB3:=Lib.hid (HB1.out.trans ((hb2.trans (hb3.mono hb2.size)).mono HB1.out.size))
 have HW3:=Lib.hid hW3
 have HX3:=Lib.hid hc3
 have HRES:=Lib.hid (law_resolved 6 20 _ x cs xs W3 HC3.out H6.out (by omega) (HX.out W3 HB3.out) (by decide) hxl)
 rw[HSS.out]at HRES
 have c0:=mx_cell (j:=0) hc3
 have c1:=mx_cell (j:=1) hc3
 clear hW3 hb3 hc3 hcl hb2 HMD HX HSS
 go_upto_region 4 with fail
 rw[HW3.out]
 go_wp2_with fail
 refine HRES.out.mono ?_
 rintro e w4 ⟨v,K,rfl,hK,hst,hb4⟩
 obtain⟨Av,cv,rfl,_⟩:=mx_slice hst.row
 have hkl:K.length=ss.length:=by rw[←hK,List.length_map]
 have HST:=Lib.hid (show StepIn (fun _=>True) w4 (.slice Av K.length cv) ss from by
  rw[←hK]
  obtain⟨A1,c1,e1,e2,e3,e4⟩:=hst.stepIn
  exact⟨A1,c1,e1,e2,e3,fun i s hi=>by
   obtain⟨g,o,ul,uh,q1,q2,_,q4,q5,q6,q7,q8,q9⟩:=e4 i s hi
   exact⟨g,o,ul,uh,q1,q2,trivial,q4,q5,q6,q7,q8.mono fun _ _=>trivial,q9.mono fun _ _=>trivial⟩⟩)
 rw[hkl]at HST
 rw[hkl]
 have HX4:=Lib.hid ((hb4.block _ (heap_lt HX3.out)).trans HX3.out)
 have HC4:=Lib.hid (HC3.out.below hb4)
 have HB4:=Lib.hid (HB3.out.trans (hb4.mono HB3.out.size))
 have c0:=mx_cell (j:=0) HX4.out
 have c1:=mx_cell (j:=1) HX4.out
 clear hst hb4 hK hkl HRES
 go_wp2_with fail
 refine(HCK.out w4 _ _ HC4.out HST.out).mono ?_
 rintro e w5 ⟨rfl,hb5⟩
 obtain⟨W5,hW5,hb5',hc5,-⟩:=al_new w5 #[.bool a,.int .i64 b,.int .i64 c,.int .i64 d,.int .i64 e'] 50
 have hb45:=hb5.trans (hb5'.mono hb5.size)
 have HX5:=Lib.hid ((hb45.block _ (heap_lt HX4.out)).trans HX4.out)
 have HC5:=Lib.hid (HC4.out.below hb45)
 have HS5:=Lib.hid (HST.out.below hb45)
 have HB5:=Lib.hid (HB4.out.trans (hb45.mono HB4.out.size))
 have HW5:=Lib.hid hW5
 have HR5:=Lib.hid hc5
 have HANY:=Lib.hid (contains_kf 19 #[] _ cs List.isEmpty W5 (enters_of Tryz.func19 (by kernel_rfl) rfl) HC5.out (by omega) (fun W hW u d hd hu=>empty_one u d W hu))
 clear hW5 hb5 hb5' hc5 hb45 c0 c1 HCK HC4 HST
 go_upto_region 6 with fail
 rw[HW5.out]
 have c0:=mx_cell (j:=0) HX5.out
 have c1:=mx_cell (j:=1) HX5.out
 obtain⟨z,hz⟩: ∃z,cs.any List.isEmpty=z:=⟨_,rfl⟩
 have HZ:=Lib.hid hz
 rw[hz]at HANY
 clear hz
 go_wp2_with fail
 refine HANY.out.mono ?_
 rintro e w6 ⟨rfl,hb6⟩
 have HX6:=Lib.hid ((hb6.block _ (heap_lt HX5.out)).trans HX5.out)
 have HR6:=Lib.hid ((hb6.block _ (heap_lt HR5.out)).trans HR5.out)
 have HC6:=Lib.hid (HC5.out.below hb6)
 have HB6:=Lib.hid (HB5.out.trans (hb6.mono HB5.out.size))
 have HIX:=Lib.hid (index_sf 21 #[] _ ss (fun s=>s.lits.isEmpty) w6 (enters_of Tryz.func21 (by kernel_rfl) rfl) (HS5.out.below hb6) (by omega) (fun W hW u v s hs hu hv=>empty_step u v s W hu hv))
 clear hb6 HANY c0 c1 HS5 HC5
 go_wp2_with fail
 refine HIX.out.mono ?_
 rintro e w7 ⟨⟨i,rfl,hi⟩,hb7⟩
 have HX7:=Lib.hid ((hb7.block _ (heap_lt HX6.out)).trans HX6.out)
 have HR7:=Lib.hid ((hb7.block _ (heap_lt HR6.out)).trans HR6.out)
 have HC7:=Lib.hid (HC6.out.below hb7)
 have HB7:=Lib.hid (HB6.out.trans (hb7.mono HB6.out.size))
 have HI:=Lib.hid hi
 have r0:=mx_cell (j:=0) HR7.out
 have r1:=mx_cell (j:=1) HR7.out
 have r2:=mx_cell (j:=2) HR7.out
 have r3:=mx_cell (j:=3) HR7.out
 have r4:=mx_cell (j:=4) HR7.out
 have c0:=mx_cell (j:=0) HX7.out
 have c1:=mx_cell (j:=1) HX7.out
 clear hi hb7 HIX HC6
 cases z with
 | true=>
  have hm:=HCH.out.already HZ.out
  have hp:(ckrP cs (ss.take m)).proved=true:=by
   show(cs.any List.isEmpty||(ss.take m).any fun s=>s.lits.isEmpty)=true
   rw[HZ.out]
   rfl
  obtain⟨e1,e2⟩:=run_true (m:=m) hp
  have hrv:=HRV.out
  rw[HR.out,e2]at hrv
  obtain⟨ha,hb,-,-,-⟩:=rep_parts hrv
  rw[hp]at ha
  have hb':b=0:=by
   rw[hb,hm]
   rfl
  have hi1:i1=0:=by
   rw[←HI1.out,HR.out,hm]
   rfl
  have hi2:i2=0:=by
   rw[←HI2.out,HR.out,e1]
   rfl
  subst ha hb' hi1 hi2
  clear hrv hp hm e1 e2 hb
  go_wp2_with fail
  go_ret
  exact⟨rfl,HB7.out⟩
 | false=>
  rcases HI.out with⟨hi,hno⟩|⟨j,hi,hj,hno,s,hs,hse⟩
  ·subst hi
   obtain⟨hm,hp⟩:=HCH.out.none HZ.out (fun s hs he=>by
    have:s.lits.isEmpty=false:=hno s hs
    rw[he]at this
    cases this)
   obtain⟨e1,e2⟩:=run_false (m:=m) hp
   have hrv:=HRV.out
   rw[HR.out,e2]at hrv
   obtain⟨ha,hb,hc,hd,he⟩:=repZ_parts hrv
   have hi1:i1=(ss.length:Int):=by rw[←HI1.out,HR.out,hm]
   have hi2:i2=101:=by
    rw[←HI2.out,HR.out,e1]
    rfl
   subst ha hb hc hd he hi1 hi2
   clear hrv hp hm e1 e2 hno
   go_wp2_with fail
   go_ret
   exact⟨rfl,HB7.out⟩
  ·subst hi
   obtain⟨hm,hp⟩:=HCH.out.first HZ.out (d:=j) ⟨s,hs,List.isEmpty_iff.1 hse⟩ (fun i t hi ht he=>by
    have:t.lits.isEmpty=false:=hno i t hi ht
    rw[he]at this
    cases this)
   obtain⟨e1,e2⟩:=run_true (m:=m) hp
   have hrv:=HRV.out
   rw[HR.out,e2]at hrv
   obtain⟨ha,hb,hc,hd,he⟩:=rep_parts hrv
   rw[hp]at ha
   have hml:(ss.take m).length=j+1:=by rw[List.length_take];omega
   have hb':b=(j:Int)+1:=by
    rw[hb]
    show(((ss.take m).length:Nat):Int)=_
    rw[hml]
    rfl
   have hc':c=0:=hc
   have hd':d=0:=hd
   have he2:e'=(cs.length:Int)+(j:Int)+1:=by
    rw[he]
    show(((cs.length+(ss.take m).length:Nat)):Int)=_
    rw[hml]
    omega
   have hi1:i1=(j:Int)+1:=by
    rw[←HI1.out,HR.out,hm]
    rfl
   have hi2:i2=0:=by
    rw[←HI2.out,HR.out,e1]
    rfl
   have hho:holdsL cs=false:=res_holds H6.out (by omega) (fun s hs=>(HS6.out s hs).1) HCH.out (s:=s) (by
    rw[hm]
    exact List.mem_of_getElem? (i:=j) (by rw[List.getElem?_take_of_lt (Nat.lt_succ_self j)];exact hs)) (List.isEmpty_iff.1 hse)
   have HHO:=Lib.hid (law_holds _ cs w7 HC7.out (lit6_lits H6.out) (by omega))
   rw[hho]at HHO
   subst ha hb' hc' hd' he2 hi1 hi2
   clear hrv hp hm e1 e2 hno hs hse hml hho hb hc hd he
   go_wp2_with fail
   refine HHO.out.mono ?_
   rintro e w8 ⟨rfl,hb8⟩
   have HB8:=Lib.hid (HB7.out.trans (hb8.mono HB7.out.size))
   clear hb8
   go_wp2_with fail
   go_ret
   exact⟨rfl,HB8.out⟩
end Go.Proofs.YtkfgplfllddhnaaGreat
