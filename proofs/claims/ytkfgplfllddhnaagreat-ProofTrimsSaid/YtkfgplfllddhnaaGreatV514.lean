/- package rup: Look. slices.Clip; package rat: follow. Grow, Concat (package slices), at clauses and at literals. Plain: steps keep a checker right; as long as the formula has a model, the entries have one. -/
import Derived.Test.YtkfgplfllddhnaaGreatV507
import Derived.Test.YtkfgplfllddhnaaGreatV501
import Derived.Test.YtkfgplfllddhnaaGreatV513
import Derived.Test.YtkfgplfllddhnaaGreatV508
import Derived.ArgAppend
import Derived.Test.YtkfgplfllddhnaaGreatV503
import Derived.Lib.AppendZeros
import Derived.Test.YtkfgplfllddhnaaGreatV509
namespace Go.Proofs.YtkfgplfllddhnaaGreat
open Go.RowKit Go.Maps Go.Shelf
theorem IntsIn.take {O:Nat→Prop} {w:World} {A:Option Addr} {n c:Nat} {xs:List Int} (h:IntsIn O w (.slice A n c) xs) {k:Nat} (hk:k≤xs.length):IntsIn O w (.slice A k c) (xs.take k):=by
 obtain⟨A',c',e,hc,hn,hx⟩:=h
 cases e
 have hl:(xs.take k).length=k:=by rw[List.length_take];omega
 refine⟨A,c,by rw[hl],by omega,hn,fun i x hi=>?_⟩
 have hik:=(List.getElem?_eq_some_iff.1 hi).1
 rw[List.getElem?_take,if_pos (by omega)]at hi
 exact hx i x hi
set_option maxRecDepth 100000 in
set_option maxHeartbeats 2000000 in
theorem rup_Look {O Oc:Nat→Prop} (cv u:Value) (c xs:List Int) (w:World) (hc:IntsIn Oc w cv c) (hu:IntsIn O w u xs) (hcb:clauseB c=true) (f:Int→Int) (hf:asgF xs=some f) (hcl:c.length≤4096) (hlen:xs.length≤100000000000):
  Calls Tryz.prog 114 #[cv,u] w fun e w'=>e= .returned (.tuple #[.int .u8 ((lookF f c).1:Nat),.int .i64 (lookF f c).2,.int .i64 0])∧Below w.heap.size w w':=by
 have HA:=Lib.hid (rup_assigned u xs w hu hlen)
 have HC:=Lib.hid hc
 have HF:=Lib.hid hf
 obtain⟨A,k,rfl,_⟩:=hu
 obtain⟨Ac,kc,rfl,_⟩:=hc
 clear hf
 go_enter Tryz.func114,Tryz.ntmps114
 go_wp2_with fail
 refine HA.out.mono ?_
 rintro e w1 ⟨ho,hb1⟩
 rw[HF.out]at ho
 obtain⟨b,n,rfl,_,_,hm,hok⟩:=ho
 have hr:=right_clause _ c w1 (HC.out.below hb1) (by omega)
 rw[hcb]at hr
 have HR:=Lib.hid hr
 have HL:=Lib.hid (rup_look b n f _ c w1 hm hok (HC.out.below hb1) (by omega))
 have HB:=Lib.hid hb1
 clear hr hm hok hb1 HA
 go_wp2_with fail
 refine HR.out.mono ?_
 rintro e w' ⟨rfl,rfl⟩
 go_wp2_with fail
 refine HL.out.mono ?_
 rintro e w' ⟨rfl,rfl⟩
 go_wp2_with fail
 go_ret3
 exact⟨rfl,HB.out⟩
end Go.Proofs.YtkfgplfllddhnaaGreat
namespace Go.Proofs.YtkfgplfllddhnaaGreat
open Go.RowKit Go.Maps
theorem asgGo_snoc (x:Int): ∀(xs:List Int) (f:Int→Int),asgGo f (xs++ [x])=(asgGo f xs).bind fun g=>if litB x=true∧0≤ofF g x then some (putF g x)else none
 | [],f=>rfl
 | y::r,f=>by
  show(if litB y=true∧0≤ofF f y then asgGo (putF f y) (r++ [x])else none)=(if litB y=true∧0≤ofF f y then asgGo (putF f y) r else none).bind _
  split
  ·exact asgGo_snoc x r _
  ·rfl
theorem asgF_snoc {xs:List Int} {f:Int→Int} {x:Int} (h:asgF xs=some f) (hx:litB x=true) (h0:ofF f x=0):asgF (xs++ [x])=some (putF f x):=by
 unfold asgF at h⊢
 rw[asgGo_snoc,h]
 exact if_pos ⟨hx,by omega⟩
theorem clip_any (A:Option Addr) (n c:Nat) (w:World) (hn:n≤c) (hA:A=none→c=0):
  Calls Tryz.prog 115 #[.slice A n c] w fun e w'=>e= .returned (.slice A n n)∧w=w':=by
 have hni:(n:Int)≤(c:Int):=by omega
 have hn0:(0:Int)≤(n:Int):=by omega
 cases A with
 | none=>
  obtain rfl:=hA rfl
  obtain rfl:n=0:=by omega
  go_enter Tryz.func115,Tryz.ntmps115
  go_wp2_with fail
  go_ret
  exact⟨rfl,rfl⟩
 | some a=>
  obtain⟨g,o,s⟩:=a
  go_enter Tryz.func115,Tryz.ntmps115
  go_wp2_with fail
  go_ret
  exact⟨rfl,rfl⟩
theorem ratFol_step {es:Ents} {asg hs:List Int} {f:Int→Int} {j:Nat} {id:Int} (h:hs[j]? =some id) (hf:asgF asg=some f):ratFol es asg (hs.drop j)=match getA es id with
  | none=>([],false,id,91)
  | some c=>if(lookF f c).1=2 then(asg,true,0,0)else if(lookF f c).1=3 then ratFol es (asg++ [(lookF f c).2]) (hs.drop (j+1))else([],false,id,81):=by
 have hlt:=(List.getElem?_eq_some_iff.1 h).1
 rw[List.drop_eq_getElem_cons hlt]
 rw[List.getElem?_eq_getElem hlt]at h
 rw[Option.some.inj h]
 conv=>lhs;unfold ratFol
 cases getA es id with
 | none=>rfl
 | some c=>
  simp only
  rw[hf]
set_option maxRecDepth 100000 in
set_option maxHeartbeats 4000000 in
theorem rat_follow {O Oa Oh:Nat→Prop} (v:Value) (es:Ents) (av hv:Value) (asg hs:List Int) (f:Int→Int) (w:World) (h:EntIn O w v es) (ho:EntOk es) (ha:IntsIn Oa w av asg) (hf:asgF asg=some f) (hh:IntsIn Oh w hv hs) (hal:asg.length≤100000000) (hhl:hs.length≤1000000):
  Calls Tryz.prog 93 #[v,av,hv] w fun e w'=> ∃u,e= .returned (.tuple #[u,.bool (ratFol es asg hs).2.1,.int .i64 (ratFol es asg hs).2.2.1,.int .i64 ((ratFol es asg hs).2.2.2:Nat)])∧IntsIn (fun _=>True) w' u (ratFol es asg hs).1∧Below w.heap.size w w':=by
 obtain⟨i0,hi,hz0,hz1,hz2⟩:=info_parts cinfo_lit
 have HE:=Lib.hid h
 have HO:=Lib.hid ho
 have HH:=Lib.hid hh
 obtain⟨R,hR⟩: ∃R,ratFol es asg hs=R:=⟨_,rfl⟩
 rw[hR]
 have HR:=Lib.hid (show R=ratFol es asg (hs.drop 0)from by rw[List.drop_zero];exact hR.symm)
 have HA:=Lib.hid (show IntsIn (fun _=>True) w av asg from ha.mono fun _ _=>trivial)
 have HF:=Lib.hid hf
 have hel:=ho.len
 obtain⟨Ae,ce,rfl,_⟩:=h
 obtain⟨Ah,ch,rfl,_⟩:=hh
 clear hR ho ha hf
 go_enter Tryz.func93,Tryz.ntmps93
 go_wp2_with fail
 go_loopw [1,19] (fun v i wr=> ∃(j:Nat) (ax:List Int) (f':Int→Int),j≤hs.length∧i= .int .i64 j∧Hid (IntsIn (fun _=>True) wr v ax)∧Hid (asgF ax=some f')∧ax.length≤asg.length+j∧Hid (R=ratFol es ax (hs.drop j))∧Hid (Below w.heap.size w wr)) (fun _ i _=>hs.length-(intOf i).toNat)
 case atStart=>exact⟨0,asg,f,Nat.zero_le _,rfl,HA,HF,Nat.le_refl _,HR,Lib.hid (Below.refl _ _)⟩
 case round=>
  obtain⟨j,ax,f',hj,rfl,HAs,HFs,hasl,HRs,HB⟩:=hrel
  obtain⟨Aa,ca,rfl,hac,hanone,_⟩:=HAs.out
  by_cases hlt:j<hs.length
  ·obtain⟨id,hid⟩:=getElem_of hlt
   obtain⟨A',c',hAc,_,_,hxs⟩:=HH.out.below HB.out
   simp only[Value.slice.injEq,true_and]at hAc
   obtain⟨rfl,rfl⟩:=hAc
   obtain⟨g,o,rfl,hg,_,d1⟩:=hxs j id hid
   have hst:=HRs.out.trans (ratFol_step (es:=es) hid HFs.out)
   have HFI:=Lib.hid (rat_find _ es id wr (HE.out.below HB.out) HO.out.rise (by omega))
   cases hg2:getA es id with
   | none=>
    rw[hg2]at hst
    have HST:=Lib.hid hst
    have HGN:=Lib.hid hg2
    clear hst hid hxs hg2
    go_wp2_with fail
    refine HFI.out.mono ?_
    rintro e w1 ⟨p,ok,rfl,hfo,hb1⟩
    obtain rfl:ok=false:=by rw[hfo.ok,HGN.out];rfl
    have HB1:=Lib.hid (HB.out.trans (hb1.mono HB.out.size))
    clear hfo hb1 d1
    go_wp2_with fail
    refine bodyPost_ret (v:=.tuple #[.slice none 0 0,.bool false,.int .i64 id,.int .i64 91]) (by simp[results,Tryz.results93,go_sem]) rfl ?_
    rw[HST.out]
    exact⟨_,rfl,IntsIn.nil _ _,HB1.out⟩
   | some c=>
    rw[hg2]at hst
    simp only at hst
    have HGS:=Lib.hid hg2
    have hcb:=HO.out.cls _ (getA_some hg2)
    have hcl4:=clause_len hcb
    have HCB:=Lib.hid hcb
    obtain⟨KU,hKU⟩: ∃KU,lookF f' c=KU:=⟨_,rfl⟩
    rw[hKU]at hst
    obtain⟨kd,u⟩:=KU
    simp only at hst
    have HST:=Lib.hid hst
    have HKU:=Lib.hid hKU
    clear hst hid hxs hg2 hcb hKU
    go_wp2_with fail
    refine HFI.out.mono ?_
    rintro e w1 ⟨p,ok,rfl,hfo,hb1⟩
    obtain rfl:ok=true:=by rw[hfo.ok,HGS.out];rfl
    obtain⟨i,rfl,hei⟩:=hfo.at_ c HGS.out
    have HB1:=Lib.hid (HB.out.trans (hb1.mono HB.out.size))
    have HA1:=Lib.hid (HAs.out.below hb1)
    have hil:=(List.getElem?_eq_some_iff.1 hei).1
    have hili:(i:Int)<(es.length:Int):=by omega
    obtain⟨A',c',hAc,_,_,hxs⟩:=HE.out.below HB1.out
    simp only[Value.slice.injEq,true_and]at hAc
    obtain⟨rfl,rfl⟩:=hAc
    obtain⟨ge,oe,ue,rfl,hge,_,_,de1,hue⟩:=hxs i _ hei
    have HLK:=Lib.hid (rup_Look ue (.slice Aa ax.length ca) c ax w1 hue HA1.out HCB.out f' HFs.out hcl4 (by omega))
    rw[HKU.out]at HLK
    obtain⟨Au,cu,rfl,_⟩:=hue
    clear hfo hb1 d1 hei hxs
    go_wp2_with fail
    refine HLK.out.mono ?_
    rintro e w2 ⟨rfl,hb2⟩
    have HB2:=Lib.hid (HB1.out.trans (hb2.mono HB1.out.size))
    have HA2:=Lib.hid (HA1.out.below hb2)
    clear hb2 de1
    by_cases h2:kd=2
    ·subst h2
     have HST2:=Lib.hid (HST.out.trans (if_pos rfl))
     clear HST
     go_wp2_with fail
     refine bodyPost_ret (v:=.tuple #[.slice Aa ax.length ca,.bool true,.int .i64 0,.int .i64 0]) (by simp[results,Tryz.results93,go_sem]) rfl ?_
     rw[HST2.out]
     exact⟨_,rfl,HA2.out,HB2.out⟩
    ·have hst:=HST.out.trans (if_neg h2)
     have q2:((kd:Int)==2)=false:=beq_eq_false_iff_ne.2 (by omega)
     by_cases h3:kd=3
     ·subst h3
      have HST3:=Lib.hid (hst.trans (if_pos rfl))
      obtain⟨hum,hu0⟩:=lookF_unit HKU.out
      have HFN:=Lib.hid (asgF_snoc HFs.out (clauseB_lit HCB.out hum) hu0)
      have HCP:=Lib.hid (clip_any Aa ax.length ca w2 hac hanone)
      have HNN:=Lib.hid (show Aa=none→ax.length=0∧ax.length=0 from fun e=>by
       have:=hanone e
       omega)
      have HOL:=Lib.hid (fun(Wa:World) (hb:Below w2.heap.size w2 Wa) (b:Addr) (e:Aa=some b) (jj:Nat) (z:Value) (hz:(ax.map (Value.int .i64))[jj]? =some z)=>(show Wa.cell? (b.add jj)=some z from by
       obtain⟨A',c',hAc,_,_,hxs⟩:=HA2.out
       simp only[Value.slice.injEq,true_and]at hAc
       obtain⟨rfl,rfl⟩:=hAc
       rw[List.getElem?_map]at hz
       cases hq:ax[jj]? with
       | none=>rw[hq]at hz;cases hz
       | some y=>
        rw[hq]at hz
        obtain⟨g',o',e',hg',_,d'⟩:=hxs jj y hq
        rw[e]at e'
        obtain rfl:=Option.some.inj e'
        rw[←Option.some.inj hz]
        have hq2:=(hb.cell (p:=⟨g',o'+jj,none⟩) hg').trans d'
        unfold Addr.add
        split
        ·rename_i h0
         rw[show jj=0 by simpa using h0]at hq2
         exact hq2
        ·exact hq2))
      clear HST hst h2 hum hu0 hac hanone HLK
      go_wp2_with fail
      refine HCP.out.mono ?_
      rintro e w' ⟨rfl,rfl⟩
      go_wp2_with (at_builtin;refine wpList_append_grows _ rfl _ _ 34 rfl 58 i0 (.int .i64 0) 1 8 Tryz.underlying34 hi hz0 hz1 hz2 rfl (by decide) Aa ax.length ax.length (ax.map (Value.int .i64)) rfl HNN.out (by simp) (HOL.out _ (mx_al w2 _)) ⟨w2.heap.size,0,none⟩ 1 1 [.int .i64 u] rfl rfl (cell_one_new' _ _ _) (by simp[Value.oneCell']) (by omega) (by unfold maxLen;omega) (by omega) ?_;intro v' w3 hown hgrow)
      obtain⟨Av,kv,rfl,_⟩:=mx_slice hown
      have HB3:=Lib.hid (HB2.out.trans (((mx_al w2 (.cells #[.int .i64 u] 58)).grown hgrow (by simp) (fun g e=>by cases e)).mono HB2.out.size))
      have HA3:=Lib.hid (show IntsIn (fun _=>True) w3 (.slice Av (ax++ [u]).length kv) (ax++ [u])from(IntsIn.of_own (xs:=ax++ [u]) (by
       rw[List.length_append,List.map_append]
       exact hown)).mono fun _ _=>trivial)
      have hlen3:(ax++ [u]).length=ax.length+1:=by simp
      rw[hlen3]at HA3
      clear hown hgrow HOL HNN
      go_wp2_with fail
      go_roundw
      case rel=>exact⟨j+1,ax++ [u],_,by omega,by go_num,HA3,HFN,by rw[hlen3];omega,HST3,HB3⟩
      case measure=>simp[intOf];omega
     ·have HST3:=Lib.hid (hst.trans (if_neg h3))
      have q3:((kd:Int)==3)=false:=beq_eq_false_iff_ne.2 (by omega)
      clear HST hst h2 h3 HLK
      go_wp2_with fail
      refine bodyPost_ret (v:=.tuple #[.slice none 0 0,.bool false,.int .i64 id,.int .i64 81]) (by simp[results,Tryz.results93,go_sem]) rfl ?_
      rw[HST3.out]
      exact⟨_,rfl,IntsIn.nil _ _,HB2.out⟩
  ·obtain rfl:j=hs.length:=by omega
   have HST:=Lib.hid (show R=(ax,false,0,0)from by rw[HRs.out,List.drop_length];rfl)
   go_wp2_with fail
   refine bodyPost_ret (v:=.tuple #[.slice Aa ax.length ca,.bool false,.int .i64 0,.int .i64 0]) (by simp[results,Tryz.results93,go_sem]) rfl ?_
   rw[HST.out]
   exact⟨_,rfl,HAs.out,HB.out⟩
end Go.Proofs.YtkfgplfllddhnaaGreat
namespace Go.Proofs.YtkfgplfllddhnaaGreat
open Go.RowKit
set_option maxRecDepth 100000 in
theorem grow_c (k:Nat) (w:World) (hk:k≤1000000):
  Calls Tryz.prog 98 #[.slice none 0 0,.int .i64 (k:Int)] w fun e w'=> ∃v,e= .returned v∧w'.ownsRow w.heap.size 58 1 v 0 []∧Below w.heap.size w w':=by
 by_cases h0:k=0
 ·subst h0
  go_enter Tryz.func98,Tryz.ntmps98
  go_wp2_with fail
  go_ret
  exact⟨_,rfl,World.ownsRow_nil _ _ _ _,Below.refl _ _⟩
 ·have q0:decide ((k:Int)<0)=false:=by simp
  have q1:decide ((0:Int)<(k:Int))=true:=by simp;omega
  have q2:decide (0<k)=true:=by simp;omega
  obtain⟨i0,hi0,hz0,hz1,hz2⟩:=info_parts cinfo_lit
  have hrun:=fun ty=>Lib.run_append_nil_zeros (P:=Tryz.prog) w 35 3 ty 58 i0 (.int .i64 0) .i64 .i64 Tryz.underlying35 Tryz.underlying3 hi0 hz0 k (by omega) (by rw[hz1];omega) (by omega) (by rw[hz2];omega)
  have hge:=grownCap_ge w k 0 58
  have hle:=grownCap_le_maxLen w k 0 58 (by unfold maxLen;omega)
  obtain⟨cap,hcap⟩: ∃c,grownCap w k 0 58=c:=⟨_,rfl⟩
  rw[hcap]at hrun hge hle
  obtain⟨W1,hW1⟩: ∃x,w.drew.alloc (.cells (Builtin.zeroCells (Value.int .i64 0).cells k++Builtin.zeroCells (Value.int .i64 0).cells (cap-k)) 58)=x:=⟨_,rfl⟩
  rw[hW1]at hrun
  have hb1:Below w.heap.size w W1:=by rw[←hW1];exact(mx_drew w).trans (mx_al w.drew _)
  have hn1:W1.heap[w.heap.size]? =some (.cells (Builtin.zeroCells (Value.int .i64 0).cells k++Builtin.zeroCells (Value.int .i64 0).cells (cap-k)) 58 (0,0)):=by
   rw[←hW1]
   exact World.alloc_heap_new w.drew _
  have hown:W1.ownsRow w.heap.size 58 1 (.slice (some ⟨w.heap.size,0,none⟩) 0 cap) 0 []:=by
   refine⟨rfl,.inr ⟨w.heap.size,cap,_,rfl,Nat.le_refl _,hn1,Nat.zero_le _,hle,?_,by simp⟩⟩
   rw[Array.size_append,size_zeroCells,size_zeroCells]
   show k*1+(cap-k)*1=cap*1
   omega
  have HOWN:=Lib.hid hown
  have HB1:=Lib.hid hb1
  have HRUN:=Lib.hid hrun
  clear hrun hcap hW1 hb1 hn1 hown hi0 hz0 hz1 hz2
  go_enter Tryz.func98,Tryz.ntmps98
  go_wp2_with (at_builtin;refine Lib.wpList_append_run _ rfl _ _ 35 3 rfl _ _ rfl rfl _ _ (HRUN.out _) ?_)
  go_ret
  exact⟨_,rfl,HOWN.out,HB1.out⟩
theorem flat_take {l:List (List Int)} {k:Nat} {c:List Int} (h:l[k]? =some c):(l.take (k+1)).flatten=(l.take k).flatten++c:=by
 rw[List.take_add_one,h]
 simp
theorem flat_le (l:List (List Int)) (k:Nat):(l.take k).flatten.length≤l.flatten.length:=by
 have:l.flatten.length=(l.take k).flatten.length+(l.drop k).flatten.length:=by
  rw[←List.length_append,←List.flatten_append,List.take_append_drop]
 omega
set_option maxRecDepth 100000 in
set_option maxHeartbeats 1000000 in
theorem concat_c (u:Value) (cs:List (List Int)) (w:World) (h:ClsAt w u cs) (hl:cs.flatten.length≤1000000) (hcl:cs.length≤1000000):
  Calls Tryz.prog 75 #[u] w fun e w'=> ∃v,e= .returned v∧w'.ownsRow w.heap.size 58 1 v cs.flatten.length (cs.flatten.map (Value.int .i64))∧Below w.heap.size w w':=by
 obtain⟨A,c,rfl,hx⟩:=h
 have HX:=Lib.hid hx
 clear hx
 obtain⟨i0,hi0,hz0,hz1,hz2⟩:=info_parts cinfo_lit
 have I0:=Lib.hid hi0
 have I1:=Lib.hid hz0
 have I2:=Lib.hid hz1
 have I3:=Lib.hid hz2
 clear hi0 hz0 hz1 hz2
 go_enter Tryz.func75,Tryz.ntmps75
 go_wp2_with fail
 go_loop [3,11] (fun s i=> ∃(k z:Nat),k≤cs.length∧i= .int .i64 k∧s= .int .i64 z∧z≤1000000∧Hid (z=(cs.take k).flatten.length)) (fun _ i=>cs.length-(intOf i).toNat)
 case atStart=>exact⟨0,0,Nat.zero_le _,rfl,rfl,by omega,Lib.hid rfl⟩
 case round=>
  obtain⟨k,z,hk,rfl,rfl,hz,HZ⟩:=hrel
  by_cases hlt:k<cs.length
  ·obtain⟨xs,hxs⟩:=getElem_of hlt
   obtain⟨g,o,v,rfl,hg,d0,hv⟩:=HX.out k xs hxs
   obtain⟨Av,cv,rfl,_⟩:=hv
   have hft:=flat_take hxs
   have hfl:=flat_le cs (k+1)
   have hz2:z+xs.length≤1000000:=by
    have:=HZ.out
    rw[hft,List.length_append]at hfl
    omega
   have HZ2:=Lib.hid (show z+xs.length=(cs.take (k+1)).flatten.length from by rw[hft,List.length_append,←HZ.out])
   clear hxs hft hfl
   have q0:decide ((z:Int)+(xs.length:Int)<0)=false:=by simp;omega
   go_wp2
   go_round
   case rel=>exact⟨k+1,z+xs.length,by omega,by go_num,by go_num,hz2,HZ2⟩
   case measure=>simp[intOf];omega
  ·obtain rfl:k=cs.length:=by omega
   go_wp2_with fail
   refine(grow_c z w hz).mono ?_
   rintro e w1 ⟨v1,rfl,hown1,hb1⟩
   have HO1:=Lib.hid hown1
   have HB1:=Lib.hid hb1
   clear hown1 hb1
   go_wp2_with fail
   go_loopw [6,27] (fun s i wr=> ∃(k:Nat) (v:Value),k≤cs.length∧i= .int .i64 k∧v=s∧Hid (Below w.heap.size w wr)∧Hid (wr.ownsRow w.heap.size 58 1 v (cs.take k).flatten.length ((cs.take k).flatten.map (Value.int .i64)))) (fun _ i _=>cs.length-(intOf i).toNat)
   case atStart=>exact⟨0,v1,Nat.zero_le _,rfl,rfl,HB1,HO1⟩
   case round=>
    obtain⟨k,v,hk,rfl,rfl,HB,HO⟩:=hrel
    by_cases hlt2:k<cs.length
    ·obtain⟨xs,hxs⟩:=getElem_of hlt2
     obtain⟨g,o,v2,rfl,hg,d0',hv⟩:=HX.out k xs hxs
     have d0:=(HB.out.cell (p:=⟨g,o+k,none⟩) hg).trans d0'
     have hsrc:=(hv.below HB.out).src
     obtain⟨Av,cv,rfl,_⟩:=hv
     have hft:=flat_take hxs
     have hfl:=flat_le cs (k+1)
     rw[hft,List.length_append]at hfl
     have HFT:=Lib.hid hft
     have HSRC:=Lib.hid hsrc
     clear hxs hft hsrc d0'
     go_wp2_with (at_builtin;refine wpList_append_any rfl _ _ 35 rfl w.heap.size 58 i0 (.int .i64 0) 1 8 Tryz.underlying35 I0.out I1.out I2.out I3.out rfl (by decide) _ (cs.take k).flatten.length _ rfl HO.out _ xs.length (xs.map (Value.int .i64)) rfl HSRC.out (by simp) (by simp[Value.oneCell']) (by unfold maxLen;omega) (by omega) HB.out.size ?_;intro v' w4 hown hgrow _;have HO4:=Lib.hid hown;have HB4:=Lib.hid (below_kept HB.out (Kept.grown hgrow) (fun j hj=>(own_lt HO.out j hj.symm).1) HB.out.size);clear hown hgrow)
     go_roundw
     case rel=>exact⟨k+1,v',by omega,by go_num,rfl,HB4,Lib.hid (by rw[HFT.out,List.length_append,List.map_append];exact HO4.out)⟩
     case measure=>simp[intOf];omega
    ·obtain rfl:k=cs.length:=by omega
     go_wp2_with fail
     go_ret
     have ho:=HO.out
     rw[List.take_length]at ho
     exact⟨_,rfl,ho,HB.out⟩
set_option maxRecDepth 100000 in
theorem grow_ll (k:Nat) (w:World) (hk:k≤1000000):
  Calls Tryz.prog 123 #[.slice none 0 0,.int .i64 (k:Int)] w fun e w'=> ∃v,e= .returned v∧w'.ownsRow w.heap.size 58 1 v 0 []∧Below w.heap.size w w':=by
 by_cases h0:k=0
 ·subst h0
  go_enter Tryz.func123,Tryz.ntmps123
  go_wp2_with fail
  go_ret
  exact⟨_,rfl,World.ownsRow_nil _ _ _ _,Below.refl _ _⟩
 ·have q0:decide ((k:Int)<0)=false:=by simp
  have q1:decide ((0:Int)<(k:Int))=true:=by simp;omega
  have q2:decide (0<k)=true:=by simp;omega
  obtain⟨i0,hi0,hz0,hz1,hz2⟩:=info_parts cinfo_lit
  have hrun:=fun ty=>Lib.run_append_nil_zeros (P:=Tryz.prog) w 34 3 ty 58 i0 (.int .i64 0) .i64 .i64 Tryz.underlying34 Tryz.underlying3 hi0 hz0 k (by omega) (by rw[hz1];omega) (by omega) (by rw[hz2];omega)
  have hge:=grownCap_ge w k 0 58
  have hle:=grownCap_le_maxLen w k 0 58 (by unfold maxLen;omega)
  obtain⟨cap,hcap⟩: ∃c,grownCap w k 0 58=c:=⟨_,rfl⟩
  rw[hcap]at hrun hge hle
  obtain⟨W1,hW1⟩: ∃x,w.drew.alloc (.cells (Builtin.zeroCells (Value.int .i64 0).cells k++Builtin.zeroCells (Value.int .i64 0).cells (cap-k)) 58)=x:=⟨_,rfl⟩
  rw[hW1]at hrun
  have hb1:Below w.heap.size w W1:=by rw[←hW1];exact(mx_drew w).trans (mx_al w.drew _)
  have hn1:W1.heap[w.heap.size]? =some (.cells (Builtin.zeroCells (Value.int .i64 0).cells k++Builtin.zeroCells (Value.int .i64 0).cells (cap-k)) 58 (0,0)):=by
   rw[←hW1]
   exact World.alloc_heap_new w.drew _
  have hown:W1.ownsRow w.heap.size 58 1 (.slice (some ⟨w.heap.size,0,none⟩) 0 cap) 0 []:=by
   refine⟨rfl,.inr ⟨w.heap.size,cap,_,rfl,Nat.le_refl _,hn1,Nat.zero_le _,hle,?_,by simp⟩⟩
   rw[Array.size_append,size_zeroCells,size_zeroCells]
   show k*1+(cap-k)*1=cap*1
   omega
  have HOWN:=Lib.hid hown
  have HB1:=Lib.hid hb1
  have HRUN:=Lib.hid hrun
  clear hrun hcap hW1 hb1 hn1 hown hi0 hz0 hz1 hz2
  go_enter Tryz.func123,Tryz.ntmps123
  go_wp2_with (at_builtin;refine Lib.wpList_append_run _ rfl _ _ 34 3 rfl _ _ rfl rfl _ _ (HRUN.out _) ?_)
  go_ret
  exact⟨_,rfl,HOWN.out,HB1.out⟩
set_option maxRecDepth 100000 in
set_option maxHeartbeats 1000000 in
theorem concat_ll (u:Value) (cs:List (List Int)) (w:World) (h:ClsAt w u cs) (hl:cs.flatten.length≤1000000) (hcl:cs.length≤1000000):
  Calls Tryz.prog 97 #[u] w fun e w'=> ∃v,e= .returned v∧w'.ownsRow w.heap.size 58 1 v cs.flatten.length (cs.flatten.map (Value.int .i64))∧Below w.heap.size w w':=by
 obtain⟨A,c,rfl,hx⟩:=h
 have HX:=Lib.hid hx
 clear hx
 obtain⟨i0,hi0,hz0,hz1,hz2⟩:=info_parts cinfo_lit
 have I0:=Lib.hid hi0
 have I1:=Lib.hid hz0
 have I2:=Lib.hid hz1
 have I3:=Lib.hid hz2
 clear hi0 hz0 hz1 hz2
 go_enter Tryz.func97,Tryz.ntmps97
 go_wp2_with fail
 go_loop [3,11] (fun s i=> ∃(k z:Nat),k≤cs.length∧i= .int .i64 k∧s= .int .i64 z∧z≤1000000∧Hid (z=(cs.take k).flatten.length)) (fun _ i=>cs.length-(intOf i).toNat)
 case atStart=>exact⟨0,0,Nat.zero_le _,rfl,rfl,by omega,Lib.hid rfl⟩
 case round=>
  obtain⟨k,z,hk,rfl,rfl,hz,HZ⟩:=hrel
  by_cases hlt:k<cs.length
  ·obtain⟨xs,hxs⟩:=getElem_of hlt
   obtain⟨g,o,v,rfl,hg,d0,hv⟩:=HX.out k xs hxs
   obtain⟨Av,cv,rfl,_⟩:=hv
   have hft:=flat_take hxs
   have hfl:=flat_le cs (k+1)
   have hz2:z+xs.length≤1000000:=by
    have:=HZ.out
    rw[hft,List.length_append]at hfl
    omega
   have HZ2:=Lib.hid (show z+xs.length=(cs.take (k+1)).flatten.length from by rw[hft,List.length_append,←HZ.out])
   clear hxs hft hfl
   have q0:decide ((z:Int)+(xs.length:Int)<0)=false:=by simp;omega
   go_wp2
   go_round
   case rel=>exact⟨k+1,z+xs.length,by omega,by go_num,by go_num,hz2,HZ2⟩
   case measure=>simp[intOf];omega
  ·obtain rfl:k=cs.length:=by omega
   go_wp2_with fail
   refine(grow_ll z w hz).mono ?_
   rintro e w1 ⟨v1,rfl,hown1,hb1⟩
   have HO1:=Lib.hid hown1
   have HB1:=Lib.hid hb1
   clear hown1 hb1
   go_wp2_with fail
   go_loopw [6,27] (fun s i wr=> ∃(k:Nat) (v:Value),k≤cs.length∧i= .int .i64 k∧v=s∧Hid (Below w.heap.size w wr)∧Hid (wr.ownsRow w.heap.size 58 1 v (cs.take k).flatten.length ((cs.take k).flatten.map (Value.int .i64)))) (fun _ i _=>cs.length-(intOf i).toNat)
   case atStart=>exact⟨0,v1,Nat.zero_le _,rfl,rfl,HB1,HO1⟩
   case round=>
    obtain⟨k,v,hk,rfl,rfl,HB,HO⟩:=hrel
    by_cases hlt2:k<cs.length
    ·obtain⟨xs,hxs⟩:=getElem_of hlt2
     obtain⟨g,o,v2,rfl,hg,d0',hv⟩:=HX.out k xs hxs
     have d0:=(HB.out.cell (p:=⟨g,o+k,none⟩) hg).trans d0'
     have hsrc:=(hv.below HB.out).src
     obtain⟨Av,cv,rfl,_⟩:=hv
     have hft:=flat_take hxs
     have hfl:=flat_le cs (k+1)
     rw[hft,List.length_append]at hfl
     have HFT:=Lib.hid hft
     have HSRC:=Lib.hid hsrc
     clear hxs hft hsrc d0'
     go_wp2_with (at_builtin;refine wpList_append_any rfl _ _ 34 rfl w.heap.size 58 i0 (.int .i64 0) 1 8 Tryz.underlying34 I0.out I1.out I2.out I3.out rfl (by decide) _ (cs.take k).flatten.length _ rfl HO.out _ xs.length (xs.map (Value.int .i64)) rfl HSRC.out (by simp) (by simp[Value.oneCell']) (by unfold maxLen;omega) (by omega) HB.out.size ?_;intro v' w4 hown hgrow _;have HO4:=Lib.hid hown;have HB4:=Lib.hid (below_kept HB.out (Kept.grown hgrow) (fun j hj=>(own_lt HO.out j hj.symm).1) HB.out.size);clear hown hgrow)
     go_roundw
     case rel=>exact⟨k+1,v',by omega,by go_num,rfl,HB4,Lib.hid (by rw[HFT.out,List.length_append,List.map_append];exact HO4.out)⟩
     case measure=>simp[intOf];omega
    ·obtain rfl:k=cs.length:=by omega
     go_wp2_with fail
     go_ret
     have ho:=HO.out
     rw[List.take_length]at ho
     exact⟨_,rfl,ho,HB.out⟩
end Go.Proofs.YtkfgplfllddhnaaGreat
namespace Go.Proofs.YtkfgplfllddhnaaGreat
open Go.RowKit
theorem putA_mem {m:Ents} {x:Int} {v:List Int} {p:Int×List Int}:p∈putA m x v↔p=(x,v)∨p∈m∧p.1≠x:=by
 unfold putA
 rw[insA_mem,delA_mem]
theorem ckDel_mem: ∀(ids:List Int) (es:Ents),∀p∈(ckDel es ids).1,p∈es:=by
 intro ids
 induction ids with
 | nil=>exact fun _ _ h=>h
 | cons id r ih=>
  intro es p hp
  unfold ckDel at hp
  split at hp
  ·exact hp
  ·exact(delA_mem.1 (ih _ p hp)).1
theorem ckDel_rise: ∀(ids:List Int) (es:Ents),Rising es→Rising (ckDel es ids).1:=by
 intro ids
 induction ids with
 | nil=>exact fun _ h=>h
 | cons id r ih=>
  intro es h
  unfold ckDel
  split
  ·exact h
  ·exact ih _ (h.del id)
theorem ckDel_len: ∀(ids:List Int) (es:Ents),(ckDel es ids).1.length≤es.length:=by
 intro ids
 induction ids with
 | nil=>exact fun _=>Nat.le_refl _
 | cons id r ih=>
  intro es
  unfold ckDel
  split
  ·exact Nat.le_refl _
  ·exact Nat.le_trans (ih _) (List.length_filter_le _ _)
theorem stepB_parts {s:EStep} (h:stepB s=true):0≤s.id∧s.id≤1073741824∧(s.del=false→s.id≠0)∧(s.del=true→s.lits= [])∧clauseB s.lits=true∧s.hints.length≤65536∧∀x∈s.hints,x≠0∧x≤1073741824∧ -1073741824≤x∧(s.del=true→0<x):=by
 unfold stepB at h
 simp only[Bool.and_eq_true,Bool.not_eq_true',Bool.or_eq_false_iff,Bool.and_eq_false_iff,decide_eq_false_iff_not,decide_eq_true_eq,Bool.not_eq_false',List.any_eq_false,Bool.or_eq_true,not_or,not_and]at h
 obtain⟨⟨⟨⟨h1,h2⟩,h3⟩,h4⟩,⟨h5,h6⟩,h7⟩:=h
 refine⟨by omega,by omega,fun e=>?_,fun e=>?_,h5,h6,fun x hx=>?_⟩
 ·rcases h3 with h3|h3
  ·rw[e]at h3;cases h3
  ·exact h3
 ·rcases h4 with h4|h4
  ·rw[e]at h4;cases h4
  ·exact List.length_eq_zero_iff.1 (by omega)
 ·obtain⟨⟨⟨a,b⟩,c⟩,d⟩:=h7 x hx
  exact⟨a,by omega,by omega,fun e=>by have:=d e;omega⟩
section
variable {k:Ckr} {s:EStep} {N:Nat}
inductive DoO (k:Ckr) (s:EStep) (r:Ckr×Nat×Int×Nat):Prop
 | done (h:k.proved=true) (e:r=(k,0,0,0))
 | bad (h:k.proved=false) (h1:r.1=k) (h2:r.2.1=0) (h3:r.2.2.2≠0)
 | del (h:k.proved=false) (hs:stepB s=true) (hl:k.last≤s.id) (hd:s.del=true) (he:(ckDel k.ents s.hints).2.2=0) (e:r=({ k with ents:=(ckDel k.ents s.hints).1,last:=s.id,dels:=k.dels+1 },0,0,0))
 | add (h:k.proved=false) (hs:stepB s=true) (hl:k.last<s.id) (hd:s.del=false) (he:(ckAdd k.ents s.lits s.hints).2.2=0) (e:r=({ (k.put s.id s.lits)with adds:=k.adds+1,rats:=if(ckAdd k.ents s.lits s.hints).1=2 then k.rats+1 else k.rats },(ckAdd k.ents s.lits s.hints).1,0,0))
theorem do_or (k:Ckr) (s:EStep):DoO k s (k.do_ s):=by
 unfold Ckr.do_
 cases hp:k.proved with
 | true=>rw[if_pos rfl];exact .done hp rfl
 | false=>
  rw[if_neg (by decide)]
  cases hs:stepB s with
  | false=>rw[if_pos rfl];exact .bad hp rfl rfl (by show(70:Nat)≠0;decide)
  | true=>
   rw[if_neg (by decide)]
   split
   ·exact .bad hp rfl rfl (by show(100:Nat)≠0;decide)
   ·rename_i h1
    cases hd:s.del with
    | true=>
     rw[if_pos rfl]
     split
     ·rename_i h2
      exact .del hp hs (by omega) hd h2 (by rw[hp])
     ·rename_i h2
      exact .bad hp rfl rfl h2
    | false=>
     rw[hd]at h1
     rw[if_neg (by decide)]
     split
     ·rename_i h2
      exact .bad hp rfl rfl h2
     ·rename_i h2
      exact .add hp hs (by
       have: ¬(s.id<k.last∨s.id=k.last∧false=false):=h1
       simp only[and_true]at this
       omega) hd (Classical.byContradiction h2) rfl
theorem any_put {es:Ents} {id:Int} {c:List Int} (h: ∀p∈es,p.1≠id):(putA es id c).any (fun p=>p.2.isEmpty)=(es.any (fun p=>p.2.isEmpty)||c.isEmpty):=by
 refine Bool.eq_iff_iff.2 ?_
 rw[Bool.or_eq_true,List.any_eq_true,List.any_eq_true]
 constructor
 ·rintro ⟨p,hp,e⟩
  rcases putA_mem.1 hp with rfl|⟨hp,_⟩
  ·exact .inr e
  ·exact .inl ⟨p,hp,e⟩
 ·rintro (⟨p,hp,e⟩|e)
  ·exact⟨p,putA_mem.2 (.inr ⟨hp,h p hp⟩),e⟩
  ·exact⟨_,putA_mem.2 (.inl rfl),e⟩
theorem Ckr.Ok.put (h:k.Ok N) {id:Int} {c:List Int} (hl:k.last<id) (h1:id≤1073741824) (hc:clauseB c=true):(k.put id c).Ok (N+1) where
 rise:=h.rise.put id c
 ids:=fun p hp=>by
  show 1≤p.1∧p.1≤1073741824∧p.1≤id
  have:=h.last0
  rcases putA_mem.1 hp with rfl|⟨hp,_⟩
  ·exact⟨by show 1≤id;omega,h1,Int.le_refl _⟩
  ·obtain⟨a,b,d⟩:=h.ids p hp
   exact⟨a,b,by omega⟩
 cls:=fun p hp=>by
  rcases putA_mem.1 hp with rfl|⟨hp,_⟩
  ·exact hc
  ·exact h.cls p hp
 last0:=by show 0≤id;have:=h.last0;omega
 last1:=h1
 len:=by
  have:=putA_length_le k.ents id c
  have:=h.len
  show(putA k.ents id c).length≤_
  omega
 prv:=by
  show(k.proved||c.isEmpty)=(putA k.ents id c).any (fun p=>p.2.isEmpty)∨(k.proved||c.isEmpty)=false
  rw[any_put (fun p hp=>by have:=(h.ids p hp).2.2;omega)]
  rcases h.prv with e|e
  ·exact .inl (by rw[e])
  ·rw[e]
   cases hc:c.isEmpty with
   | false=>exact .inr rfl
   | true=>left;simp
 adds:=⟨h.adds.1,by have:=h.adds.2;show k.adds≤_;omega⟩
 dels:=⟨h.dels.1,by have:=h.dels.2;show k.dels≤_;omega⟩
 rats:=⟨h.rats.1,by have:=h.rats.2;show k.rats≤_;omega⟩
 larg:=by
  have:=putA_length_le k.ents id c
  have:=h.len
  have:=h.larg
  show 0≤max k.largest ((putA k.ents id c).length:Int)∧max k.largest ((putA k.ents id c).length:Int)≤_
  omega
theorem do_ok (h:k.Ok N):(k.do_ s).1.Ok (N+1):=by
 have hmono:k.Ok (N+1):={ h with
  len:=Nat.le_succ_of_le h.len
  adds:=⟨h.adds.1,by have:=h.adds.2;omega⟩
  dels:=⟨h.dels.1,by have:=h.dels.2;omega⟩
  rats:=⟨h.rats.1,by have:=h.rats.2;omega⟩
  larg:=⟨h.larg.1,by have:=h.larg.2;omega⟩ }
 rcases do_or k s with⟨_,e⟩|⟨_,e,_⟩|⟨hp,hs,hl,hd,he,e⟩|⟨hp,hs,hl,hd,he,e⟩
 ·rw[e];exact hmono
 ·rw[e];exact hmono
 ·rw[e]
  obtain⟨s0,s1,_⟩:=stepB_parts hs
  exact {
   rise:=ckDel_rise _ _ h.rise
   ids:=fun p hp=>by
    obtain⟨a,b,d⟩:=h.ids p (ckDel_mem _ _ p hp)
    exact⟨a,b,Int.le_trans d hl⟩
   cls:=fun p hp=>h.cls p (ckDel_mem _ _ p hp)
   last0:=s0
   last1:=s1
   len:=Nat.le_trans (ckDel_len _ _) (Nat.le_succ_of_le h.len)
   prv:=.inr hp
   adds:=hmono.adds
   dels:=by
    have:=h.dels
    show 0≤k.dels+1∧k.dels+1≤_
    omega
   rats:=hmono.rats
   larg:=hmono.larg }
 ·rw[e]
  obtain⟨s0,s1,_,_,hc,_⟩:=stepB_parts hs
  have h2:=h.put hl s1 hc
  exact { h2 with
   adds:=by
    have:=h.adds
    show 0≤k.adds+1∧k.adds+1≤_
    omega
   rats:=by
    have:=h.rats
    show 0≤(if(ckAdd k.ents s.lits s.hints).1=2 then k.rats+1 else k.rats)∧(if(ckAdd k.ents s.lits s.hints).1=2 then k.rats+1 else k.rats)≤_
    split <;> omega }
def Ckr.Exact (k:Ckr):Prop:=k.proved=k.ents.any (fun p=>p.2.isEmpty)
end
def SatE (n:Nat) (es:Ents):Prop:= ∀p∈es,p.2.any (bitT n)=true
def SatN (es:Ents):Prop:= ∃n,n<128∧n%2=0∧SatE n es
theorem ratIds_mem {want:List Int}: ∀(gs:List Int) (last:Int),(ratIds want last gs).2=0→∀g∈gs,g∈want:=by
 intro gs
 induction gs with
 | nil=>intro _ _ g hg;cases hg
 | cons x r ih=>
  intro last h g hg
  unfold ratIds at h
  split at h
  ·cases h
  ·rename_i h1
   rcases List.mem_cons.1 hg with e|hg
   ·rw[e]
    refine List.contains_iff_mem.1 ?_
    cases hx:want.contains x with
    | true=>rfl
    | false=>exact absurd (.inl hx) h1
   ·exact ih _ h g hg
end Go.Proofs.YtkfgplfllddhnaaGreat
