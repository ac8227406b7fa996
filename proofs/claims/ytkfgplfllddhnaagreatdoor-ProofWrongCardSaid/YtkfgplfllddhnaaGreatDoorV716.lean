/- slices.Clip; package rat: follow. package rat: rest. -/
import Derived.Test.YtkfgplfllddhnaaGreatDoorV715
import Derived.Test.YtkfgplfllddhnaaGreatDoorV708
import Derived.ArgAppend
namespace Go.Proofs.YtkfgplfllddhnaaGreatDoor
open Go.RowKit Go.Maps
theorem asgGo_snoc (x:Int): ∀(xs:List Int) (f:Int→Int),asgGo f (xs++ [x])=(asgGo f xs).bind fun g=>if litB x=true∧0≤ofF g x then some (putF g x)else none
 | [],f=>rfl
 | y::r,f=>by
  show(if litB y=true∧0≤ofF f y then asgGo (putF f y) (r++ [x])else none)=(if litB y=true∧0≤ofF f y then asgGo (putF f y) r else none).bind _
  split
  ·exact asgGo_snoc x r _
  ·rfl
theorem asgF_snoc {xs:List Int} {f:Int→Int} {x:Int} (h:asgF xs=some f) (hx:litB x=true) (h0:ofF f x=0):asgF (xs++ [x])=some (putF f x):=by
 unfold asgF at h⊢
 rw[asgGo_snoc,h]
 exact if_pos ⟨hx,by omega⟩
theorem clip_any (A:Option Addr) (n c:Nat) (w:World) (hn:n≤c) (hA:A=none→c=0):
  Calls Tryz.prog 94 #[.slice A n c] w fun e w'=>e= .returned (.slice A n n)∧w=w':=by
 have hni:(n:Int)≤(c:Int):=by omega
 have hn0:(0:Int)≤(n:Int):=by omega
 cases A with
 | none=>
  obtain rfl:=hA rfl
  obtain rfl:n=0:=by omega
  go_enter Tryz.func94,Tryz.ntmps94
  go_wp2_with fail
  go_ret
  exact⟨rfl,rfl⟩
 | some a=>
  obtain⟨g,o,s⟩:=a
  go_enter Tryz.func94,Tryz.ntmps94
  go_wp2_with fail
  go_ret
  exact⟨rfl,rfl⟩
theorem ratFol_step {es:Ents} {asg hs:List Int} {f:Int→Int} {j:Nat} {id:Int} (h:hs[j]? =some id) (hf:asgF asg=some f):ratFol es asg (hs.drop j)=match getA es id with
  | none=>([],false,id,91)
  | some c=>if(lookF f c).1=2 then(asg,true,0,0)else if(lookF f c).1=3 then ratFol es (asg++ [(lookF f c).2]) (hs.drop (j+1))else([],false,id,81):=by
 have hlt:=(List.getElem?_eq_some_iff.1 h).1
 rw[List.drop_eq_getElem_cons hlt]
 rw[List.getElem?_eq_getElem hlt]at h
 rw[Option.some.inj h]
 conv=>lhs;unfold ratFol
 cases getA es id with
 | none=>rfl
 | some c=>
  simp only
  rw[hf]
set_option maxRecDepth 100000 in
set_option maxHeartbeats 4000000 in
theorem rat_follow {O Oa Oh:Nat→Prop} (v:Value) (es:Ents) (av hv:Value) (asg hs:List Int) (f:Int→Int) (w:World) (h:EntIn O w v es) (ho:EntOk es) (ha:IntsIn Oa w av asg) (hf:asgF asg=some f) (hh:IntsIn Oh w hv hs) (hal:asg.length≤100000000) (hhl:hs.length≤1000000):
  Calls Tryz.prog 70 #[v,av,hv] w fun e w'=> ∃u,e= .returned (.tuple #[u,.bool (ratFol es asg hs).2.1,.int .i64 (ratFol es asg hs).2.2.1,.int .i64 ((ratFol es asg hs).2.2.2:Nat)])∧IntsIn (fun _=>True) w' u (ratFol es asg hs).1∧Below w.heap.size w w':=by
 obtain⟨i0,hi,hz0,hz1,hz2⟩:=info_parts cinfo_lit
 have HE:=Lib.hid h
 have HO:=Lib.hid ho
 have HH:=Lib.hid hh
 obtain⟨R,hR⟩: ∃R,ratFol es asg hs=R:=⟨_,rfl⟩
 rw[hR]
 have HR:=Lib.hid (show R=ratFol es asg (hs.drop 0)from by rw[List.drop_zero];exact hR.symm)
 have HA:=Lib.hid (show IntsIn (fun _=>True) w av asg from ha.mono fun _ _=>trivial)
 have HF:=Lib.hid hf
 have hel:=ho.len
 obtain⟨Ae,ce,rfl,_⟩:=h
 obtain⟨Ah,ch,rfl,_⟩:=hh
 clear hR ho ha hf
 go_enter Tryz.func70,Tryz.ntmps70
 go_wp2_with fail
 go_loopw [1,19] (fun v i wr=> ∃(j:Nat) (ax:List Int) (f':Int→Int),j≤hs.length∧i= .int .i64 j∧Hid (IntsIn (fun _=>True) wr v ax)∧Hid (asgF ax=some f')∧ax.length≤asg.length+j∧Hid (R=ratFol es ax (hs.drop j))∧Hid (Below w.heap.size w wr)) (fun _ i _=>hs.length-(intOf i).toNat)
 case atStart=>exact⟨0,asg,f,Nat.zero_le _,rfl,HA,HF,Nat.le_refl _,HR,Lib.hid (Below.refl _ _)⟩
 case round=>
  obtain⟨j,ax,f',hj,rfl,HAs,HFs,hasl,HRs,HB⟩:=hrel
  obtain⟨Aa,ca,rfl,hac,hanone,_⟩:=HAs.out
  by_cases hlt:j<hs.length
  ·obtain⟨id,hid⟩:=getElem_of hlt
   obtain⟨A',c',hAc,_,_,hxs⟩:=HH.out.below HB.out
   simp only[Value.slice.injEq,true_and]at hAc
   obtain⟨rfl,rfl⟩:=hAc
   obtain⟨g,o,rfl,hg,_,d1⟩:=hxs j id hid
   have hst:=HRs.out.trans (ratFol_step (es:=es) hid HFs.out)
   have HFI:=Lib.hid (rat_find _ es id wr (HE.out.below HB.out) HO.out.rise (by omega))
   cases hg2:getA es id with
   | none=>
    rw[hg2]at hst
    have HST:=Lib.hid hst
    have HGN:=Lib.hid hg2
    clear hst hid hxs hg2
    go_wp2_with fail
    refine HFI.out.mono ?_
    rintro e w1 ⟨p,ok,rfl,hfo,hb1⟩
    obtain rfl:ok=false:=by rw[hfo.ok,HGN.out];rfl
    have HB1:=Lib.hid (HB.out.trans (hb1.mono HB.out.size))
    clear hfo hb1 d1
    go_wp2_with fail
    refine bodyPost_ret (v:=.tuple #[.slice none 0 0,.bool false,.int .i64 id,.int .i64 91]) (by simp[results,Tryz.results70,go_sem]) rfl ?_
    rw[HST.out]
    exact⟨_,rfl,IntsIn.nil _ _,HB1.out⟩
   | some c=>
    rw[hg2]at hst
    simp only at hst
    have HGS:=Lib.hid hg2
    have hcb:=HO.out.cls _ (getA_some hg2)
    have hcl4:=clause_len hcb
    have HCB:=Lib.hid hcb
    obtain⟨KU,hKU⟩: ∃KU,lookF f' c=KU:=⟨_,rfl⟩
    rw[hKU]at hst
    obtain⟨kd,u⟩:=KU
    simp only at hst
    have HST:=Lib.hid hst
    have HKU:=Lib.hid hKU
    clear hst hid hxs hg2 hcb hKU
    go_wp2_with fail
    refine HFI.out.mono ?_
    rintro e w1 ⟨p,ok,rfl,hfo,hb1⟩
    obtain rfl:ok=true:=by rw[hfo.ok,HGS.out];rfl
    obtain⟨i,rfl,hei⟩:=hfo.at_ c HGS.out
    have HB1:=Lib.hid (HB.out.trans (hb1.mono HB.out.size))
    have HA1:=Lib.hid (HAs.out.below hb1)
    have hil:=(List.getElem?_eq_some_iff.1 hei).1
    have hili:(i:Int)<(es.length:Int):=by omega
    obtain⟨A',c',hAc,_,_,hxs⟩:=HE.out.below HB1.out
    simp only[Value.slice.injEq,true_and]at hAc
    obtain⟨rfl,rfl⟩:=hAc
    obtain⟨ge,oe,ue,rfl,hge,_,_,de1,hue⟩:=hxs i _ hei
    have HLK:=Lib.hid (rup_Look ue (.slice Aa ax.length ca) c ax w1 hue HA1.out HCB.out f' HFs.out hcl4 (by omega))
    rw[HKU.out]at HLK
    obtain⟨Au,cu,rfl,_⟩:=hue
    clear hfo hb1 d1 hei hxs
    go_wp2_with fail
    refine HLK.out.mono ?_
    rintro e w2 ⟨rfl,hb2⟩
    have HB2:=Lib.hid (HB1.out.trans (hb2.mono HB1.out.size))
    have HA2:=Lib.hid (HA1.out.below hb2)
    clear hb2 de1
    by_cases h2:kd=2
    ·subst h2
     have HST2:=Lib.hid (HST.out.trans (if_pos rfl))
     clear HST
     go_wp2_with fail
     refine bodyPost_ret (v:=.tuple #[.slice Aa ax.length ca,.bool true,.int .i64 0,.int .i64 0]) (by simp[results,Tryz.results70,go_sem]) rfl ?_
     rw[HST2.out]
     exact⟨_,rfl,HA2.out,HB2.out⟩
    ·have hst:=HST.out.trans (if_neg h2)
     have q2:((kd:Int)==2)=false:=beq_eq_false_iff_ne.2 (by omega)
     by_cases h3:kd=3
     ·subst h3
      have HST3:=Lib.hid (hst.trans (if_pos rfl))
      obtain⟨hum,hu0⟩:=lookF_unit HKU.out
      have HFN:=Lib.hid (asgF_snoc HFs.out (clauseB_lit HCB.out hum) hu0)
      have HCP:=Lib.hid (clip_any Aa ax.length ca w2 hac hanone)
      have HNN:=Lib.hid (show Aa=none→ax.length=0∧ax.length=0 from fun e=>by
       have:=hanone e
       omega)
      have HOL:=Lib.hid (fun(Wa:World) (hb:Below w2.heap.size w2 Wa) (b:Addr) (e:Aa=some b) (jj:Nat) (z:Value) (hz:(ax.map (Value.int .i64))[jj]? =some z)=>(show Wa.cell? (b.add jj)=some z from by
       obtain⟨A',c',hAc,_,_,hxs⟩:=HA2.out
       simp only[Value.slice.injEq,true_and]at hAc
       obtain⟨rfl,rfl⟩:=hAc
       rw[List.getElem?_map]at hz
       cases hq:ax[jj]? with
       | none=>rw[hq]at hz;cases hz
       | some y=>
        rw[hq]at hz
        obtain⟨g',o',e',hg',_,d'⟩:=hxs jj y hq
        rw[e]at e'
        obtain rfl:=Option.some.inj e'
        rw[←Option.some.inj hz]
        have hq2:=(hb.cell (p:=⟨g',o'+jj,none⟩) hg').trans d'
        unfold Addr.add
        split
        ·rename_i h0
         rw[show jj=0 by simpa using h0]at hq2
         exact hq2
        ·exact hq2))
      clear HST hst h2 hum hu0 hac hanone HLK
      go_wp2_with fail
      refine HCP.out.mono ?_
      rintro e w' ⟨rfl,rfl⟩
      go_wp2_with (at_builtin;refine wpList_append_grows _ rfl _ _ 29 rfl 31 i0 (.int .i64 0) 1 8 Tryz.underlying29 hi hz0 hz1 hz2 rfl (by decide) Aa ax.length ax.length (ax.map (Value.int .i64)) rfl HNN.out (by simp) (HOL.out _ (mx_al w2 _)) ⟨w2.heap.size,0,none⟩ 1 1 [.int .i64 u] rfl rfl (cell_one_new' _ _ _) (by simp[Value.oneCell']) (by omega) (by unfold maxLen;omega) (by omega) ?_;intro v' w3 hown hgrow)
      obtain⟨Av,kv,rfl,_⟩:=mx_slice hown
      have HB3:=Lib.hid (HB2.out.trans (((mx_al w2 (.cells #[.int .i64 u] 31)).grown hgrow (by simp) (fun g e=>by cases e)).mono HB2.out.size))
      have HA3:=Lib.hid (show IntsIn (fun _=>True) w3 (.slice Av (ax++ [u]).length kv) (ax++ [u])from(IntsIn.of_own (xs:=ax++ [u]) (by
       rw[List.length_append,List.map_append]
       exact hown)).mono fun _ _=>trivial)
      have hlen3:(ax++ [u]).length=ax.length+1:=by simp
      rw[hlen3]at HA3
      clear hown hgrow HOL HNN
      go_wp2_with fail
      go_roundw
      case rel=>exact⟨j+1,ax++ [u],_,by omega,by go_num,HA3,HFN,by rw[hlen3];omega,HST3,HB3⟩
      case measure=>simp[intOf];omega
     ·have HST3:=Lib.hid (hst.trans (if_neg h3))
      have q3:((kd:Int)==3)=false:=beq_eq_false_iff_ne.2 (by omega)
      clear HST hst h2 h3 HLK
      go_wp2_with fail
      refine bodyPost_ret (v:=.tuple #[.slice none 0 0,.bool false,.int .i64 id,.int .i64 81]) (by simp[results,Tryz.results70,go_sem]) rfl ?_
      rw[HST3.out]
      exact⟨_,rfl,IntsIn.nil _ _,HB2.out⟩
  ·obtain rfl:j=hs.length:=by omega
   have HST:=Lib.hid (show R=(ax,false,0,0)from by rw[HRs.out,List.drop_length];rfl)
   go_wp2_with fail
   refine bodyPost_ret (v:=.tuple #[.slice Aa ax.length ca,.bool false,.int .i64 0,.int .i64 0]) (by simp[results,Tryz.results70,go_sem]) rfl ?_
   rw[HST.out]
   exact⟨_,rfl,HAs.out,HB.out⟩
end Go.Proofs.YtkfgplfllddhnaaGreatDoor
namespace Go.Proofs.YtkfgplfllddhnaaGreatDoor
open Go.RowKit Go.Maps
theorem restGo_step {p:Int} {asg out c:List Int} {j:Nat} {l:Int} (h:c[j]? =some l):restGo p asg out (c.drop j)=if l=litN p then restGo p asg out (c.drop (j+1))else if asg.contains l=true then([],false)else restGo p asg (out++ [litN l]) (c.drop (j+1)):=by
 have hlt:=(List.getElem?_eq_some_iff.1 h).1
 rw[List.drop_eq_getElem_cons hlt]
 rw[List.getElem?_eq_getElem hlt]at h
 rw[Option.some.inj h]
 rfl
set_option maxRecDepth 100000 in
set_option maxHeartbeats 4000000 in
theorem rat_rest {Oc Oa:Nat→Prop} (cv av:Value) (p:Int) (c asg:List Int) (w:World) (hc:IntsIn Oc w cv c) (ha:IntsIn Oa w av asg) (hcl:c.length≤10000) (hal:asg.length≤1000000):
  Calls Tryz.prog 73 #[cv,.int .i64 p,av] w fun e w'=> ∃u,e= .returned (.tuple #[u,.bool (restGo p asg [] c).2])∧w'.ownsRow w.heap.size 31 1 u (restGo p asg [] c).1.length ((restGo p asg [] c).1.map (Value.int .i64))∧Below w.heap.size w w':=by
 obtain⟨i0,hi,hz0,hz1,hz2⟩:=info_parts cinfo_lit
 have HC:=Lib.hid hc
 have HA:=Lib.hid ha
 obtain⟨R,hR⟩: ∃R,restGo p asg [] c=R:=⟨_,rfl⟩
 rw[hR]
 have HR:=Lib.hid (show R=restGo p asg [] (c.drop 0)from by rw[List.drop_zero];exact hR.symm)
 obtain⟨Ac,cc,rfl,_⟩:=hc
 obtain⟨Aa,ca,rfl,_⟩:=ha
 obtain⟨q,hq⟩: ∃q,litN p=q:=⟨_,rfl⟩
 have HNP:=Lib.hid (fun W=>lit_neg p W)
 rw[hq]at HNP
 have HQ:=Lib.hid hq
 clear hR hq
 go_enter Tryz.func73,Tryz.ntmps73
 go_wp2_with fail
 go_loopw [8,13] (fun v i wr=> ∃(j:Nat) (out:List Int),j≤c.length∧i= .int .i64 j∧out.length≤j∧Hid (wr.ownsRow w.heap.size 31 1 v out.length (out.map (Value.int .i64)))∧Hid (R=restGo p asg out (c.drop j))∧Hid (Below w.heap.size w wr)) (fun _ i _=>c.length-(intOf i).toNat)
 case atStart=>exact⟨0,[],Nat.zero_le _,rfl,Nat.le_refl _,Lib.hid (World.ownsRow_nil _ _ _ _),HR,Lib.hid (Below.refl _ _)⟩
 case round=>
  obtain⟨j,out,hj,rfl,hol,HO,HRs,HB⟩:=hrel
  obtain⟨Ao,co,rfl,_⟩:=mx_slice HO.out
  by_cases hlt:j<c.length
  ·obtain⟨l,hl⟩:=getElem_of hlt
   obtain⟨A',c',hAc,_,_,hxs⟩:=HC.out.below HB.out
   simp only[Value.slice.injEq,true_and]at hAc
   obtain⟨rfl,rfl⟩:=hAc
   obtain⟨g,o,rfl,hg,_,d1⟩:=hxs j l hl
   have hst:=HRs.out.trans (restGo_step hl)
   rw[HQ.out]at hst
   clear hl hxs
   by_cases h1:l=q
   ·have q1:(l==q)=true:=by simpa using h1
    have HST:=Lib.hid (hst.trans (if_pos h1))
    clear hst h1
    go_wp2_with fail
    refine(HNP.out _).mono ?_
    rintro e w' ⟨rfl,rfl⟩
    go_wp2_with fail
    go_roundw
    case rel=>exact⟨j+1,out,by omega,by go_num,by omega,HO,HST,HB⟩
    case measure=>simp[intOf];omega
   ·have q1:(l==q)=false:=by simpa using h1
    have hst2:=hst.trans (if_neg h1)
    have HCT:=Lib.hid (contains_l _ asg l wr (HA.out.below HB.out) (by omega))
    clear hst h1
    cases hcn:asg.contains l with
    | true=>
     have HST:=Lib.hid (hst2.trans (if_pos hcn))
     rw[hcn]at HCT
     clear hst2 hcn
     go_wp2_with fail
     refine(HNP.out _).mono ?_
     rintro e w' ⟨rfl,rfl⟩
     go_wp2_with fail
     refine HCT.out.mono ?_
     rintro e w' ⟨rfl,rfl⟩
     go_wp2_with fail
     go_ret2
     rw[HST.out]
     exact⟨_,rfl,World.ownsRow_nil _ _ _ _,HB.out⟩
    | false=>
     have HST:=Lib.hid (hst2.trans (if_neg (by rw[hcn];decide)))
     rw[hcn]at HCT
     have HNL:=Lib.hid (fun W=>lit_neg l W)
     obtain⟨m,hm⟩: ∃m,litN l=m:=⟨_,rfl⟩
     rw[hm]at HNL HST
     clear hst2 hcn hm
     go_wp2_with fail
     refine(HNP.out _).mono ?_
     rintro e w' ⟨rfl,rfl⟩
     go_wp2_with fail
     refine HCT.out.mono ?_
     rintro e w' ⟨rfl,rfl⟩
     go_wp2_with fail
     refine(HNL.out _).mono ?_
     rintro e w' ⟨rfl,rfl⟩
     go_wp2_with (at_builtin;refine wpList_append_own_at _ rfl _ _ 29 rfl w.heap.size 31 i0 (.int .i64 0) 1 8 Tryz.underlying29 hi hz0 hz1 hz2 rfl (by decide) _ out.length _ rfl (own_below HO.out (mx_al wr _)) ⟨wr.heap.size,0,none⟩ 1 1 [.int .i64 m] rfl rfl (cell_one_new' _ _ _) (by simp[Value.oneCell']) (by unfold maxLen;omega) (by omega) (by have:=HB.out.size;simp;omega) ?_;intro v' w2 hown hgrow hnl hat)
     obtain⟨Av,kv,rfl,_⟩:=mx_slice hown
     have hb2:Below w.heap.size w w2:=(HB.out.trans ((mx_al wr (.cells #[.int .i64 m] 31)).mono HB.out.size)).grown hgrow (by have:=HB.out.size;simp;omega) (fun g hg=>(own_lt HO.out g hg).1)
     have HO2:=Lib.hid (show w2.ownsRow w.heap.size 31 1 (.slice Av (out.length+1) kv) (out++ [m]).length ((out++ [m]).map (Value.int .i64))from by
      rw[List.length_append,List.map_append]
      exact hown)
     have HB2:=Lib.hid hb2
     clear hown hgrow hnl hat hb2
     go_wp2_with fail
     go_roundw
     case rel=>exact⟨j+1,out++ [m],by omega,by go_num,by simp;omega,HO2,HST,HB2⟩
     case measure=>simp[intOf];omega
  ·obtain rfl:j=c.length:=by omega
   have HST:=Lib.hid (show R=(out,true)from by rw[HRs.out,List.drop_length];rfl)
   go_wp2_with fail
   go_ret2
   rw[HST.out]
   exact⟨_,rfl,HO.out,HB.out⟩
end Go.Proofs.YtkfgplfllddhnaaGreatDoor
