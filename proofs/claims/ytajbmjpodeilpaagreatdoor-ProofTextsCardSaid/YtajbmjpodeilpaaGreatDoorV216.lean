/- Reference of layer 9: Check. Reference of layer 9: Check: the walk. Reference of layer 10: rows of entries; without. -/
import Derived.Test.YtajbmjpodeilpaaGreatDoorV215
import Derived.Test.YtajbmjpodeilpaaGreatDoorV204
import Derived.Test.YtajbmjpodeilpaaGreatDoorV202
import Derived.Deep.DeepCutAuto
import Derived.Deep.CutBlock
import Derived.Test.YtajbmjpodeilpaaGreatDoorV211
namespace Go.Proofs.YtajbmjpodeilpaaGreatDoor
open Go.RowKit
theorem rFol_len (es:Ents): ∀(hs all:List Int),(rFol es all hs).1.length≤all.length+hs.length
 | [],all=>Nat.le_refl _
 | id::r,all=>by
  rw[rFol]
  split
  ·exact Nat.zero_le _
  ·split
   ·exact Nat.le_add_right _ _
   ·split
    ·have:=rFol_len es r (all++ [(rLook all (by assumption) []).2])
     rw[List.length_append,List.length_singleton]at this
     rw[List.length_cons]
     omega
    ·exact Nat.zero_le _
theorem rOpen_len (asg:List Int) (p:Int): ∀(c all:List Int),(rOpen asg p all c).1.length≤all.length+c.length
 | [],all=>Nat.le_refl _
 | x::r,all=>by
  rw[rOpen,List.length_cons]
  split
  ·have:=rOpen_len asg p r all
   omega
  ·split
   ·exact Nat.zero_le _
   ·have:=rOpen_len asg p r (all++ [-x])
    rw[List.length_append,List.length_singleton]at this
    omega
def notUp (q:Option Int) (id:Int):Bool:=match q with|none=>false|some z=>decide (id≤z)
def rIdsGo (want:List Int):Option Int→List (Int×List Int)→Option Int
 | _,[]=>none
 | q,g::r=>if want.contains g.1=false∨notUp q g.1=true then some g.1 else rIdsGo want (some g.1) r
def rLoop (es:Ents) (p:Int) (asg:List Int):List (Int×List Int)→Option (Int×Nat)
 | []=>none
 | g::r=>if(rOpen asg p asg ((getA es g.1).getD [])).2=false then rLoop es p asg r else
  if(rFol es (rOpen asg p asg ((getA es g.1).getD [])).1 g.2).2.2.2≠0 then some (rFol es (rOpen asg p asg ((getA es g.1).getD [])).1 g.2).2.2 else
  if(rFol es (rOpen asg p asg ((getA es g.1).getD [])).1 g.2).2.1=false then some (g.1,93)else rLoop es p asg r
def rFst (gs:List (Int×List Int)) (want:List Int):Option Int:=want.find? fun id=> !gs.any fun g=>g.1==id
def rChk (es:Ents) (out c hs:List Int) (gs:List (Int×List Int)):Nat×Int×Nat:=
 if alwR c=true then(1,0,0)else
 if(rFol es out hs).2.2.2≠0 then(0,(rFol es out hs).2.2)else
 if(rFol es out hs).2.1=true then(1,0,0)else
 match c with
 | []=>(0,0,82)
 | p::_=>match rFst gs (rCand p es)with
  | some id=>(0,id,92)
  | none=>match rIdsGo (rCand p es) none gs with
   | some id=>(0,id,92)
   | none=>match rLoop es p (rFol es out hs).1 gs with
    | some x=>(0,x)
    | none=>(2,0,0)
theorem rIds_mem {want:List Int}: ∀{gs:List (Int×List Int)} {q:Option Int},rIdsGo want q gs=none→∀g∈gs,g.1∈want
 | [],_,_,g,hg=>by cases hg
 | a::r,q,h,g,hg=>by
  rw[rIdsGo]at h
  split at h
  ·cases h
  ·rename_i hc
   rcases List.mem_cons.1 hg with rfl|hg
   ·rw[not_or]at hc
    have:=hc.1
    rwa [Bool.not_eq_false,List.contains_iff_mem]at this
   ·exact rIds_mem h g hg
theorem cand_get {p:Int} {es:Ents} {id:Int} (h:id∈rCand p es): ∃c,getA es id=some c:=by
 unfold rCand at h
 obtain⟨x,hx,rfl⟩:=List.mem_map.1 h
 have hm:=(List.mem_filter.1 hx).1
 cases hg:getA es x.1 with
 | some c=>exact⟨c,rfl⟩
 | none=>
  unfold getA at hg
  rw[Option.map_eq_none_iff]at hg
  have:=List.find?_eq_none.1 hg x hm
  simp at this
end Go.Proofs.YtajbmjpodeilpaaGreatDoor
namespace Go.Proofs.YtajbmjpodeilpaaGreatDoor
open Go.RowKit
theorem ox3 {w w':World} (h:Below w.heap.size w w') {b:Nat} {c0 c1 c2:Value} {t:TypeId} (hb:w.heap[b]? =some (.cells #[c0,c1,c2] t (0,0))):w'.cell? ⟨b,0,none⟩=some c0∧w'.cell? ⟨b,1,none⟩=some c1∧w'.cell? ⟨b,2,none⟩=some c2:=⟨mx_cell (j:=0) ((h.block _ (heap_lt hb)).trans hb),mx_cell (j:=1) ((h.block _ (heap_lt hb)).trans hb),mx_cell (j:=2) ((h.block _ (heap_lt hb)).trans hb)⟩
theorem rLoop_cons {es:Ents} {p:Int} {asg:List Int} {g:Int×List Int} {r:List (Int×List Int)} {d ol l:List Int} {ob b:Bool} {i:Int} {e:Nat} (hd:getA es g.1=some d) (hO:rOpen asg p asg d=(ol,ob)) (hF:rFol es ol g.2=(l,b,i,e)):
  rLoop es p asg (g::r)=if ob=false then rLoop es p asg r else if e≠0 then some (i,e)else if b=false then some (g.1,93)else rLoop es p asg r:=by
 rw[rLoop,hd]
 simp only[Option.getD_some,hO,hF]
set_option maxRecDepth 100000 in
set_option maxHeartbeats 8000000 in
theorem ref_check09 {O O':Nat→Prop} (ev lv hv gv:Value) (es:Ents) (c hs:List Int) (gs:List (Int×List Int)) (w:World) (he:EntIn O w ev es) (hl:IntsIn O' w lv c) (hh:IntsIn O' w hv hs) (hg:EntIn O' w gv gs)
  (hel:es.length≤10000000) (hec: ∀p∈es,clauseB p.2=true) (hc:clauseB c=true) (hhl:hs.length≤1000000) (hgl:gs.length≤1000000) (hgh: ∀g∈gs,g.2.length≤1000000):
  Calls Tryz.prog 66 #[ev,.agg #[lv,hv,gv]] w fun e w'=>(∃out,(alwR c=false→∀y,y∈out↔ -y∈c)∧e= .returned (.tuple #[.int .i64 ((rChk es out c hs gs).1:Nat),.int .i64 (rChk es out c hs gs).2.1,.int .i64 ((rChk es out c hs gs).2.2:Nat)]))∧Below w.heap.size w w':=by
 have hcl:c.length≤4096∧∀x∈c,litB x=true:=by
  unfold clauseB at hc
  rw[Bool.and_eq_true,decide_eq_true_eq]at hc
  exact⟨hc.1,List.all_eq_true.1 hc.2⟩
 obtain⟨W0,hW0,hb0,hx0,hz0⟩:=al_new w #[lv,hv,gv] 133
 have HE0:=Lib.hid (he.below hb0)
 have HG0:=Lib.hid (hg.below hb0)
 have HH0:=Lib.hid (hh.below hb0)
 have HEC:=Lib.hid hec
 have HGH:=Lib.hid hgh
 have HCL:=Lib.hid hcl.2
 have HAS:=Lib.hid (ref_assume08 lv c W0 (hl.below hb0) (by omega) hcl.2)
 have HL0:=Lib.hid (hl.below hb0)
 obtain⟨Ae,ce,rfl,hce,_⟩:=he
 obtain⟨Al,cl,rfl,hcl2,_⟩:=hl
 obtain⟨Ah,ch,rfl,hch,_⟩:=hh
 obtain⟨Ag,cg,rfl,hcg,_⟩:=hg
 have HBX:=Lib.hid (show∀W,Below W0.heap.size W0 W→W.cell? ⟨w.heap.size,0,none⟩=some (.slice Al c.length cl)∧W.cell? ⟨w.heap.size,1,none⟩=some (.slice Ah hs.length ch)∧W.cell? ⟨w.heap.size,2,none⟩=some (.slice Ag gs.length cg)from fun W hW=>ox3 hW hx0)
 have HW0:=Lib.hid hW0
 have HEND:=Lib.hid (show∀W,Below W0.heap.size W0 W→Below w.heap.size w W from fun W hW=>hb0.trans (hW.mono hb0.size))
 have hc12:c.length≤4096:=hcl.1
 obtain⟨B,hB⟩: ∃B,w.heap.size=B:=⟨_,rfl⟩
 have HBB:=Lib.hid hB
 rw[hB]at HBX
 obtain⟨x0,x1,x2⟩:=HBX.out W0 (Below.refl _ _)
 clear hW0 hb0 hx0 hz0 hec hgh hc hcl hB
 go_enter Tryz.func66,Tryz.ntmps66
 go_upto_region 1 with fail
 rw[HW0.out,HBB.out]
 go_wp2_with fail
 refine HAS.out.mono ?_
 rintro e w1 ⟨⟨v,out,rfl,hown,hol,ho1,ho2⟩,hb1⟩
 obtain⟨Av,cv,rfl,_⟩:=mx_slice hown
 obtain⟨R,hR⟩: ∃R,rChk es out c hs gs=R:=⟨_,rfl⟩
 have HR:=Lib.hid hR
 unfold rChk at hR
 have HO2:=Lib.hid ho2
 have HB1:=Lib.hid hb1
 have HOW:=Lib.hid hown
 have HFIN:=Lib.hid (show∀(a b d:Int),((R.1:Nat):Int)=a→R.2.1=b→((R.2.2:Nat):Int)=d→∃out',(alwR c=false→∀y,y∈out'↔ -y∈c)∧Ending.returned (.tuple #[.int .i64 a,.int .i64 b,.int .i64 d])= .returned (.tuple #[.int .i64 ((rChk es out' c hs gs).1:Nat),.int .i64 (rChk es out' c hs gs).2.1,.int .i64 ((rChk es out' c hs gs).2.2:Nat)])from fun a b d ha hb hd=>⟨out,ho2,by rw[HR.out,ha,hb,hd]⟩)
 obtain⟨y0,y1,y2⟩:=HBX.out w1 hb1
 have HFO:=Lib.hid (ref_follow09 (.slice Ae es.length ce) (.slice Av out.length cv) (.slice Ah hs.length ch) es out hs w1 (HE0.out.below hb1) (IntsIn.of_own hown) (HH0.out.below hb1) (by omega) (by omega) hhl HEC.out)
 have hfl:=rFol_len es hs out
 obtain⟨al,hal⟩: ∃b,alwR c=b:=⟨_,rfl⟩
 rw[hal]at hR⊢
 clear hown ho1 ho2 hb1 HAS x0 x1 x2
 cases al with
 | true=>
  rw[if_pos rfl]at hR
  have HN:=Lib.hid hR
  clear hR
  go_wp2_with fail
  go_ret3
  exact⟨HFIN.out _ _ _ (by rw[←HN.out];rfl) (by rw[←HN.out]) (by rw[←HN.out];rfl),HEND.out _ HB1.out⟩
 | false=>
  rw[if_neg (by decide)]at hR
  obtain⟨⟨fl,fb,fi,fe⟩,hF⟩: ∃F,rFol es out hs=F:=⟨_,rfl⟩
  rw[hF]at hR HFO hfl
  simp only at hR HFO hfl
  clear hF
  go_wp2_with fail
  refine HFO.out.mono ?_
  rintro e w2 ⟨v2,rfl,hown2,hb2⟩
  obtain⟨A2,c2,rfl,_⟩:=mx_slice hown2
  have HO:=Lib.hid hown2
  have HB2:=Lib.hid (HB1.out.trans (hb2.mono HB1.out.size))
  obtain⟨z0,z1,z2⟩:=HBX.out w2 HB2.out
  clear hown2 hb2 HFO y0 y1 y2
  by_cases e1:fe=0
  ·have q1:((fe:Int) != 0)=false:=by rw[e1];rfl
   rw[if_neg (fun h=>h e1)]at hR
   clear e1
   cases fb with
   | true=>
    rw[if_pos rfl]at hR
    have HN:=Lib.hid hR
    clear hR
    go_wp2_with fail
    go_ret3
    exact⟨HFIN.out _ _ _ (by rw[←HN.out];rfl) (by rw[←HN.out]) (by rw[←HN.out];rfl),HEND.out _ HB2.out⟩
   | false=>
    rw[if_neg (by decide)]at hR
    cases c with
    | nil=>
     have HN:=Lib.hid hR
     clear hR
     go_wp2_with fail
     go_ret3
     exact⟨HFIN.out _ _ _ (by rw[←HN.out];rfl) (by rw[←HN.out]) (by rw[←HN.out];rfl),HEND.out _ HB2.out⟩
    | cons p rest=>
     have hlit:=HCL.out p List.mem_cons_self
     obtain⟨A5,c5,hA5,_,_,hx5⟩:=HL0.out.below HB2.out
     simp only[Value.slice.injEq]at hA5
     obtain⟨rfl,-,rfl⟩:=hA5
     obtain⟨g5,o5,rfl,hg5,_,d5⟩:=hx5 0 p rfl
     rw[Nat.add_zero]at d5
     obtain⟨cn,hcn⟩: ∃n,(p::rest).length=n:=⟨_,rfl⟩
     have hcn0:0<cn:=by rw[←hcn,List.length_cons];omega
     have hcn1:((cn:Int)==0)=false:=beq_eq_false_iff_ne.2 (by omega)
     have hcn2:(0:Int)<(cn:Int):=by omega
     rw[hcn]at HBX z0
     have HCA:=Lib.hid (ref_cand09 (.slice Ae es.length ce) es p w2 (HE0.out.below HB2.out) hel HEC.out hlit)
     have HPL:=Lib.hid hlit
     have HRR:=Lib.hid hR
     clear hx5 hcn hlit hR
     go_wp2_with fail
     refine HCA.out.mono ?_
     rintro e w3 ⟨v3,rfl,hown3,hb3⟩
     have HRC:=Lib.hid (show∀id∈rCand p es,∃d,getA es id=some d from fun id h=>cand_get h)
     obtain⟨want,hwant⟩: ∃l,rCand p es=l:=⟨_,rfl⟩
     have hr2:=HRR.out
     try simp only at hr2
     rw[hwant]at hown3 hr2 HRC
     have hwl:want.length≤10000000:=by
      rw[←hwant]
      unfold rCand
      rw[List.length_map]
      exact Nat.le_trans (List.length_filter_le _ _) hel
     obtain⟨Aw,cw,rfl,_⟩:=mx_slice hown3
     have HWI:=Lib.hid (IntsIn.of_own hown3)
     have HB3:=Lib.hid (HB2.out.trans (hb3.mono HB2.out.size))
     have HO3:=Lib.hid (own_below HO.out hb3)
     have HG3:=Lib.hid (HG0.out.below HB3.out)
     have HE3:=Lib.hid (HE0.out.below HB3.out)
     have HR2:=Lib.hid hr2
     have HGC:=Lib.hid (show∀W,Below w3.heap.size w3 W→∀(k:Nat) (g:Int×List Int),gs[k]? =some g→∃gb o u,Ag=some ⟨gb,o,none⟩∧W.cell? ⟨gb,o+k*2,none⟩=some (.int .i64 g.1)∧W.cell? ⟨gb,o+k*2+1,none⟩=some u∧IntsIn O' W u g.2∧gb<w3.heap.size from fun W hW k g hk=>by
      obtain⟨Ag',cg',hA,_,_,hcs⟩:=HG3.out
      simp only[Value.slice.injEq,true_and]at hA
      obtain⟨rfl,rfl⟩:=hA
      obtain⟨gb,o,u,h1,h2,_,h3,h4,h5⟩:=hcs k g hk
      exact⟨gb,o,u,h1,(hW.cell (p:=⟨gb,o+k*2,none⟩) h2).trans h3,(hW.cell (p:=⟨gb,o+k*2+1,none⟩) h2).trans h4,h5.below hW,h2⟩)
     have HBX3:=Lib.hid (show∀W,Below w3.heap.size w3 W→W.cell? ⟨B,0,none⟩=some (.slice (some ⟨g5,o5,none⟩) cn cl)∧W.cell? ⟨B,1,none⟩=some (.slice Ah hs.length ch)∧W.cell? ⟨B,2,none⟩=some (.slice Ag gs.length cg)from fun W hW=>HBX.out W (HB3.out.trans (hW.mono HB3.out.size)))
     have HED:=Lib.hid (show∀W,Below w3.heap.size w3 W→Below w.heap.size w W from fun W hW=>HEND.out W (HB3.out.trans (hW.mono HB3.out.size)))
     obtain⟨D,hD⟩: ∃D,rFst gs want=D:=⟨_,rfl⟩
     have HDD:=Lib.hid hD
     have hr3:=HR2.out
     rw[hD]at hr3
     have HR3:=Lib.hid hr3
     clear hown3 hb3 hwant hr2 HRR HR2 HB2 HO hD hr3 d5 z0 z1 z2
     go_wp2_with fail
     go_loopw [15] (fun iv wr=> ∃i:Nat,i≤want.length∧iv= .int .i64 i∧Hid (((want.drop i).find? fun id=> !gs.any fun g=>g.1==id)=D)∧Hid (Below w3.heap.size w3 wr)) (fun iv _=>want.length-(intOf iv).toNat)
     case atStart=>exact⟨0,Nat.zero_le _,rfl,Lib.hid HDD.out,Lib.hid (Below.refl _ _)⟩
     case round=>
      obtain⟨i,hi,rfl,HFI,HBi⟩:=hrel
      obtain⟨x0,x1,x2⟩:=HBX3.out wr HBi.out
      by_cases hlt:i<want.length
      ·obtain⟨id,hid⟩:=atOf hlt
       obtain⟨A6,c6,hA6,_,_,hx6⟩:=HWI.out.below HBi.out
       simp only[Value.slice.injEq,true_and]at hA6
       obtain⟨rfl,rfl⟩:=hA6
       obtain⟨g6,o6,rfl,hg6,_,d6⟩:=hx6 i id hid
       have hE:=HFI.out
       rw[dropAt hid,List.find?_cons]at hE
       have HFJ:=Lib.hid hE
       have hil:decide ((i:Int)<(want.length:Int))=true:=decide_eq_true (by omega)
       clear hx6 hid hE HFI
       obtain⟨wo,rfl⟩: ∃wo:World,wo=wr:=⟨_,rfl⟩
       go_wp2_with fail
       go_loopw [16,17] (fun tv kv wr2=> ∃(k:Nat) (b:Bool),k≤gs.length∧kv= .int .i64 k∧tv= .bool b∧Hid (((gs.take k).any fun g=>g.1==id)=b)∧Hid (Below wo.heap.size wo wr2)) (fun _ kv _=>gs.length-(intOf kv).toNat)
       case atStart=>exact⟨0,false,Nat.zero_le _,rfl,rfl,Lib.hid rfl,Lib.hid (Below.refl _ _)⟩
       case round=>
        obtain⟨k,b,hk,rfl,rfl,HKB,HBk⟩:=hrel
        have hbk3:Below w3.heap.size w3 wr:=HBi.out.trans (HBk.out.mono HBi.out.size)
        obtain⟨x3,x4,x5⟩:=HBX3.out wr hbk3
        have d7:=(HBk.out.cell (p:=⟨g6,o6+i,none⟩) hg6).trans d6
        have HB9:=Lib.hid hbk3
        by_cases hkl:k<gs.length
        ·obtain⟨g,hgk⟩:=atOf hkl
         obtain⟨gb,og,ug,rfl,e0,e1,_,_⟩:=HGC.out wr hbk3 k g hgk
         have HTK:=Lib.hid (show((gs.take (k+1)).any fun g=>g.1==id)=(b||(g.1==id))from by
          rw[List.take_add_one,hgk,List.any_append,HKB.out]
          show(b||((g.1==id)||false))=_
          rw[Bool.or_false])
         clear hgk hbk3
         obtain⟨q,hq⟩: ∃q,(g.1==id)=q:=⟨_,rfl⟩
         rw[hq]at HTK
         cases b with
         | true=>
          clear hq
          go_upto_region 20 with fail
          go_quiet (fail)
          go_wp2_with fail
          go_roundw
          case rel=>exact⟨k+1,true,by omega,by go_num,rfl,Lib.hid (by rw[HTK.out];rfl),Lib.hid (HBk.out.trans ((mx_drewN _ _).mono HBk.out.size))⟩
          case measure=>simp[intOf];omega
         | false=>
          go_upto_region 20 with fail
          go_quiet (fail)
          go_wp2_with fail
          go_roundw
          case rel=>exact⟨k+1,q,by omega,by go_num,rfl,Lib.hid (by rw[HTK.out];rfl),Lib.hid (HBk.out.trans ((mx_drewN _ _).mono HBk.out.size))⟩
          case measure=>simp[intOf];omega
        ·have HKE:=Lib.hid (show gs.any (fun g=>g.1==id)=b from by
          have:=HKB.out
          rwa [List.take_of_length_le (by omega)]at this)
         clear hbk3
         cases b with
         | true=>
          have HN:=Lib.hid (show((want.drop (i+1)).find? fun id=> !gs.any fun g=>g.1==id)=D from by
           have:=HFJ.out
           rwa [HKE.out]at this)
          go_wp2_with fail
          go_roundw
          case rel=>exact⟨i+1,by omega,by go_num,HN,Lib.hid (by exact HB9.out)⟩
          case measure=>simp[intOf];omega
         | false=>
          have HN:=Lib.hid (show some id=D from by
           have:=HFJ.out
           rwa [HKE.out]at this)
          have HN2:=Lib.hid (show((0,id,92):Nat×Int×Nat)=R from by
           have:=HR3.out
           rw[←HN.out]at this
           exact this)
          go_upto_region 22 with fail
          go_quiet (fail)
          go_wp2_with fail
          go_ret3
          exact⟨HFIN.out _ _ _ (by rw[←HN2.out];rfl) (by rw[←HN2.out]) (by rw[←HN2.out];rfl),HED.out _ (HB9.out.trans ((mx_drewN _ _).mono HB9.out.size))⟩
      ·have hDN:D=none:=by
        have:=HFI.out
        rw[List.drop_of_length_le (by omega)]at this
        exact this.symm
       have hr4:=HR3.out
       rw[hDN]at hr4
       simp only at hr4
       obtain⟨D2,hD2⟩: ∃D,rIdsGo want none gs=D:=⟨_,rfl⟩
       rw[hD2]at hr4
       have HR4:=Lib.hid hr4
       have HD2:=Lib.hid hD2
       have HHA:=Lib.hid (show∀(y:Int) (W:World),Below w3.heap.size w3 W→_ from fun y W hW=>ref_has09 y (.slice Aw want.length cw) want W (HWI.out.below hW) (by omega))
       clear hDN hr4 HFI hD2
       go_wp2_with fail
       go_loopw [18] (fun iv wr2=> ∃(k:Nat) (q:Option Int),k≤gs.length∧iv= .int .i64 k∧Hid (rIdsGo want q (gs.drop k)=D2)∧Hid (k=0∧q=none∨∃(j:Nat) (z:Int×List Int),k=j+1∧gs[j]? =some z∧q=some z.1)∧Hid (Below w3.heap.size w3 wr2)) (fun iv _=>gs.length-(intOf iv).toNat)
       case atStart=>exact⟨0,none,Nat.zero_le _,rfl,Lib.hid HD2.out,Lib.hid (.inl ⟨rfl,rfl⟩),Lib.hid HBi.out⟩
       case round=>
        obtain⟨k,q,hk,rfl,HFK,HPV,HBk⟩:=hrel
        obtain⟨x3,x4,x5⟩:=HBX3.out wr HBk.out
        by_cases hkl:k<gs.length
        ·obtain⟨g,hgk⟩:=atOf hkl
         have hfk:=HFK.out
         rw[dropAt hgk,rIdsGo]at hfk
         obtain⟨gb,og,ug,rfl,e0,e1,_,hgb⟩:=HGC.out wr HBk.out k g hgk
         have hgb2:gb<wr.heap.size:=Nat.lt_of_lt_of_le hgb HBk.out.size
         have wk:IntKind.i64.wrap (k:Int)=(k:Int):=IntWalk.i64_in _ (by omega)
         have lk:(k:Int)<(gs.length:Int):=by omega
         obtain⟨b,hcb⟩: ∃b,want.contains g.1=b:=⟨_,rfl⟩
         have hha:=HHA.out g.1
         rw[hcb]at hha hfk
         have HHB:=Lib.hid hha
         have HXB:=Lib.hid (show∀W,Below wr.heap.size wr W→W.cell? ⟨B,2,none⟩=some (.slice (some ⟨gb,og,none⟩) gs.length cg)from fun W hW=>(HBX3.out W (HBk.out.trans (hW.mono HBk.out.size))).2.2)
         have HGK:=Lib.hid hgk
         clear hcb hha hgk
         cases b with
         | false=>
          rw[if_pos (Or.inl rfl)]at hfk
          have HN:=Lib.hid (show((0,g.1,92):Nat×Int×Nat)=R from by
           have:=HR4.out
           rw[←hfk]at this
           exact this)
          clear hfk
          go_upto_region 26 with fail
          refine wp_region_held_drew (S:=fun w'=>Below wr.heap.size wr w') (by kernel_rfl) (mx_drew wr) (fun hS=>?_)
          refine takeE 0 100 ?_
          refine takeE 1 101 ?_
          refine takeF 2 102 (fun wq hSw=>HXB.out wq hSw) ?_
          refine takeE 3 103 ?_
          refine takeE 4 104 ?_
          refine takeE 5 105 ?_
          refine takeF 6 106 (fun wq hSw=>(hSw.cell (p:=⟨gb,og+k*2,none⟩) hgb2).trans e0) ?_
          refine ready1 7 (fun K hK=>?_)
          go_simp
          refine(HHB.out _ (HBk.out.trans (hS.mono HBk.out.size))).mono ?_
          rintro e w' ⟨rfl,rfl⟩
          refine hK.out _ _ hS (fun _=>?_)
          clear hK
          refine takeE 8 108 ?_
          refine takeE 9 109 ?_
          refine takeU 10 110 ?_
          refine takeU 11 111 ?_
          refine takeU 12 112 ?_
          refine takeU 13 113 ?_
          refine takeU 14 114 ?_
          refine takeU 15 115 ?_
          refine takeU 16 116 ?_
          refine takeU 17 117 ?_
          refine takeU 18 118 ?_
          refine takeU 19 119 ?_
          refine takeU 20 120 ?_
          refine takeU 21 121 ?_
          refine takeU 22 122 ?_
          refine takeU 23 123 ?_
          refine takeU 24 124 ?_
          refine takeU 25 125 ?_
          refine takeU 26 126 ?_
          refine takeU 27 127 ?_
          refine takeE 28 128 ?_
          refine wpAnyH_done (by kernel_rfl) ?_ _
          have HBZ:=Lib.hid (HBk.out.trans (hS.mono HBk.out.size))
          go_upto_region 27 with fail
          go_quiet (fail)
          go_wp2_with fail
          go_ret3
          exact⟨HFIN.out _ _ _ (by rw[←HN.out];rfl) (by rw[←HN.out]) (by rw[←HN.out];rfl),HED.out _ (HBZ.out.trans ((mx_drewN _ _).mono HBZ.out.size))⟩
         | true=>
          simp only[Bool.true_eq_false,false_or]at hfk
          rcases HPV.out with⟨k0,q0⟩|⟨j,z,kj,hz,qz⟩
          ·subst q0
           have hfk2:rIdsGo want (some g.1) (gs.drop (k+1))=D2:=by
            rw[←hfk]
            exact(if_neg Bool.false_ne_true).symm
           have HN:=Lib.hid hfk2
           have kz:decide ((0:Int)<(k:Int))=false:=decide_eq_false (by omega)
           have kz2:decide (0<k)=false:=decide_eq_false (by omega)
           clear hfk hfk2 HPV k0
           go_upto_region 26 with fail
           refine wp_region_held_drew (S:=fun w'=>Below wr.heap.size wr w') (by kernel_rfl) (mx_drew wr) (fun hS=>?_)
           refine takeE 0 100 ?_
           refine takeE 1 101 ?_
           refine takeF 2 102 (fun wq hSw=>HXB.out wq hSw) ?_
           refine takeE 3 103 ?_
           refine takeE 4 104 ?_
           refine takeE 5 105 ?_
           refine takeF 6 106 (fun wq hSw=>(hSw.cell (p:=⟨gb,og+k*2,none⟩) hgb2).trans e0) ?_
           refine ready1 7 (fun K hK=>?_)
           go_simp
           refine(HHB.out _ (HBk.out.trans (hS.mono HBk.out.size))).mono ?_
           rintro e w' ⟨rfl,rfl⟩
           refine hK.out _ _ hS (fun _=>?_)
           clear hK
           refine takeE 8 108 ?_
           refine takeE 9 109 ?_
           refine takeE 10 110 ?_
           refine takeE 11 111 ?_
           refine takeE 12 112 ?_
           refine takeU 13 113 ?_
           refine takeU 14 114 ?_
           refine takeU 15 115 ?_
           refine takeU 16 116 ?_
           refine takeU 17 117 ?_
           refine takeU 18 118 ?_
           refine takeU 19 119 ?_
           refine takeU 20 120 ?_
           refine takeU 21 121 ?_
           refine takeU 22 122 ?_
           refine takeU 23 123 ?_
           refine takeU 24 124 ?_
           refine takeU 25 125 ?_
           refine takeU 26 126 ?_
           refine takeE 27 127 ?_
           refine takeE 28 128 ?_
           refine wpAnyH_done (by kernel_rfl) ?_ _
           have HBZ:=Lib.hid (HBk.out.trans (hS.mono HBk.out.size))
           go_wp2_with fail
           go_roundw
           case rel=>exact⟨k+1,some g.1,by omega,by go_num,Lib.hid HN.out,Lib.hid (.inr ⟨k,g,rfl,HGK.out,rfl⟩),Lib.hid HBZ.out⟩
           case measure=>simp[intOf];omega
          ·subst qz
           have hj:j<gs.length:=by omega
           obtain⟨gb',og',u',hA',f0,f1,_,_⟩:=HGC.out wr HBk.out j z hz
           simp only[Option.some.injEq,Addr.mk.injEq,and_true]at hA'
           obtain⟨rfl,rfl⟩:=hA'
           have kz:decide ((0:Int)<(k:Int))=true:=decide_eq_true (by omega)
           have kz2:decide (0<k)=true:=decide_eq_true (by omega)
           have wj:IntKind.i64.wrap ((k:Int)-1)=(j:Int):=by rw[IntWalk.i64_in _ (by omega)];omega
           have wj2:IntKind.i64.wrap (j:Int)=(j:Int):=IntWalk.i64_in _ (by omega)
           have lj:(j:Int)<(gs.length:Int):=by omega
           obtain⟨d,hd⟩: ∃d,decide (g.1≤z.1)=d:=⟨_,rfl⟩
           rw[show notUp (some z.1) g.1=d from hd]at hfk
           have HFQ:=Lib.hid hfk
           clear hfk HPV hz f1 kj
           go_upto_region 26 with fail
           refine wp_region_held_drew (S:=fun w'=>Below wr.heap.size wr w') (by kernel_rfl) (mx_drew wr) (fun hS=>?_)
           refine takeE 0 100 ?_
           refine takeE 1 101 ?_
           refine takeF 2 102 (fun wq hSw=>HXB.out wq hSw) ?_
           refine takeE 3 103 ?_
           refine takeE 4 104 ?_
           refine takeE 5 105 ?_
           refine takeF 6 106 (fun wq hSw=>(hSw.cell (p:=⟨gb,og+k*2,none⟩) hgb2).trans e0) ?_
           refine ready1 7 (fun K hK=>?_)
           go_simp
           refine(HHB.out _ (HBk.out.trans (hS.mono HBk.out.size))).mono ?_
           rintro e w' ⟨rfl,rfl⟩
           refine hK.out _ _ hS (fun _=>?_)
           clear hK
           refine takeE 8 108 ?_
           refine takeE 9 109 ?_
           refine takeE 10 110 ?_
           refine takeE 11 111 ?_
           refine takeE 12 112 ?_
           refine takeE 13 113 ?_
           refine takeF 14 114 (fun wq hSw=>HXB.out wq hSw) ?_
           refine takeE 15 115 ?_
           refine takeE 16 116 ?_
           refine takeE 17 117 ?_
           refine takeF 18 118 (fun wq hSw=>(hSw.cell (p:=⟨gb,og+k*2,none⟩) hgb2).trans e0) ?_
           refine takeE 19 119 ?_
           refine takeF 20 120 (fun wq hSw=>HXB.out wq hSw) ?_
           refine takeE 21 121 ?_
           refine takeE 22 122 ?_
           refine takeE 23 123 ?_
           refine takeE 24 124 ?_
           refine takeF 25 125 (fun wq hSw=>(hSw.cell (p:=⟨gb,og+j*2,none⟩) hgb2).trans f0) ?_
           refine takeE 26 126 ?_
           refine takeE 27 127 ?_
           refine takeE 28 128 ?_
           refine wpAnyH_done (by kernel_rfl) ?_ _
           have HBZ:=Lib.hid (HBk.out.trans (hS.mono HBk.out.size))
           cases d with
           | false=>
            have hfk2:rIdsGo want (some g.1) (gs.drop (k+1))=D2:=by
             have:=HFQ.out
             rwa [if_neg (by decide)]at this
            have HN:=Lib.hid hfk2
            clear hfk2
            go_wp2_with fail
            go_roundw
            case rel=>exact⟨k+1,some g.1,by omega,by go_num,Lib.hid HN.out,Lib.hid (.inr ⟨k,g,rfl,HGK.out,rfl⟩),Lib.hid HBZ.out⟩
            case measure=>simp[intOf];omega
           | true=>
            have HN:=Lib.hid (show((0,g.1,92):Nat×Int×Nat)=R from by
             have h1:=HFQ.out
             rw[if_pos rfl]at h1
             have:=HR4.out
             rw[←h1]at this
             exact this)
            go_upto_region 27 with fail
            go_quiet (fail)
            go_wp2_with fail
            clear wj wj2 lj kz kz2 hd f0 hj
            go_ret3
            obtain⟨o1,o2,o3⟩:=HFIN.out 0 g.1 92 (by rw[←HN.out];rfl) (by rw[←HN.out]) (by rw[←HN.out];rfl)
            exact⟨⟨o1,fun y=>by have:=o2 hal y;rwa [List.mem_cons]at this,o3⟩,HED.out _ (HBk.out.trans ((mx_drewN _ _).mono HBk.out.size))⟩
        ·have hD2n:D2=none:=by
          have:=HFK.out
          rw[List.drop_of_length_le (by omega),rIdsGo]at this
          exact this.symm
         have hr5:=HR4.out
         rw[hD2n]at hr5
         simp only at hr5
         have HMEM:=Lib.hid (show∀g∈gs,∃d,getA es g.1=some d from fun g hg=>HRC.out _ (rIds_mem (HD2.out.trans hD2n) g hg))
         obtain⟨D3,hD3⟩: ∃D,rLoop es p fl gs=D:=⟨_,rfl⟩
         rw[hD3]at hr5
         have HR5:=Lib.hid hr5
         have HD3:=Lib.hid hD3
         have HBK:=Lib.hid HBk.out
         clear hr5 hD3 hD2n HFK HPV x3 x4 HBk
         go_wp2_with fail
         go_loopw [19] (fun iv wr3=> ∃k:Nat,k≤gs.length∧iv= .int .i64 k∧Hid (rLoop es p fl (gs.drop k)=D3)∧Hid (Below w3.heap.size w3 wr3)) (fun iv _=>gs.length-(intOf iv).toNat)
         case atStart=>exact⟨0,Nat.zero_le _,rfl,Lib.hid HD3.out,Lib.hid HBK.out⟩
         case round=>
          clear hk hkl x5
          obtain⟨k,hk,rfl,HFK,HBk⟩:=hrel
          obtain⟨x3,x4,x5⟩:=HBX3.out wr HBk.out
          by_cases hkl:k<gs.length
          ·obtain⟨g,hgk⟩:=atOf hkl
           have hmem:=List.mem_of_getElem? hgk
           obtain⟨d,hd⟩:=HMEM.out g hmem
           have hfk:=HFK.out
           obtain⟨gb,og,ug,rfl,e0,e1,hu,hgb⟩:=HGC.out wr HBk.out k g hgk
           have wk:IntKind.i64.wrap (k:Int)=(k:Int):=IntWalk.i64_in _ (by omega)
           have lk:(k:Int)<(gs.length:Int):=by omega
           have HU:=Lib.hid hu
           have hgl2:=HGH.out g hmem
           obtain⟨Au,cu,rfl,hcu,_⟩:=hu
           obtain⟨wb,hwb,hbb,hxb,hzb⟩:=al_new wr #[.int .i64 g.1,.slice Au g.2.length cu] 183
           have HWB:=Lib.hid hwb
           have HBB3:=Lib.hid (HBk.out.trans (hbb.mono HBk.out.size))
           have HBXB:=Lib.hid (show∀W,Below wb.heap.size wb W→W.cell? ⟨wr.heap.size,0,none⟩=some (.int .i64 g.1)∧W.cell? ⟨wr.heap.size,1,none⟩=some (.slice Au g.2.length cu)from fun W hW=>⟨mx_cell (j:=0) ((hW.block _ (heap_lt hxb)).trans hxb),mx_cell (j:=1) ((hW.block _ (heap_lt hxb)).trans hxb)⟩)
           have HUB:=Lib.hid (HU.out.below hbb)
           obtain⟨GB,hGB⟩: ∃b,wr.heap.size=b:=⟨_,rfl⟩
           have HGB:=Lib.hid hGB
           rw[hGB]at HBXB
           obtain⟨y0,y1⟩:=HBXB.out wb (Below.refl _ _)
           obtain⟨i3,pe,hi3,hpe,hpd⟩: ∃(i:Nat) (q:Int×List Int),eIx es g.1=(i:Int)∧es[i]? =some q∧getA es g.1=some q.2:=by
            rcases eIx_get es g.1 with⟨_,h⟩|h
            ·rw[hd]at h;cases h
            ·exact h
           have hde:pe.2=d:=by
            rw[hd]at hpd
            exact(Option.some.inj hpd).symm
           have hpm:=List.mem_of_getElem? hpe
           have hcd:=HEC.out pe hpm
           have hil3:i3<es.length:=(List.getElem?_eq_some_iff.1 hpe).1
           have hcd2:d.length≤4096∧∀x∈d,litB x=true:=by
            rw[hde]at hcd
            unfold clauseB at hcd
            rw[Bool.and_eq_true,decide_eq_true_eq]at hcd
            exact⟨hcd.1,List.all_eq_true.1 hcd.2⟩
           obtain⟨A7,c7,hA7,_,_,hx7⟩:=HE3.out.below HBB3.out
           simp only[Value.slice.injEq,true_and]at hA7
           obtain⟨rfl,rfl⟩:=hA7
           obtain⟨g7,o7,u7,rfl,hg7,_,d70,d71,hu7⟩:=hx7 i3 pe hpe
           rw[hde]at hu7
           have HU7:=Lib.hid hu7
           obtain⟨A8,c8,rfl,hc8,_⟩:=hu7
           have HFD:=Lib.hid (ref_find09 g.1 (.slice (some ⟨g7,o7,none⟩) es.length ce) es wb (HE3.out.below HBB3.out) (by omega))
           rw[hi3]at HFD
           have wi3:IntKind.i64.wrap (i3:Int)=(i3:Int):=IntWalk.i64_in _ (by omega)
           have li3:(i3:Int)<(es.length:Int):=by omega
           have HOP:=Lib.hid (ref_open09 (.slice A8 d.length c8) (.slice A2 fl.length c2) d fl p wb HU7.out (IntsIn.of_own (own_below HO3.out HBB3.out)) (by omega) (by omega) hcd2.2 HPL.out)
           have hol:=rOpen_len fl p d fl
           obtain⟨⟨ol,ob⟩,hOP⟩: ∃F,rOpen fl p fl d=F:=⟨_,rfl⟩
           obtain⟨⟨fl4,fb4,fi4,fe4⟩,hFP⟩: ∃F,rFol es ol g.2=F:=⟨_,rfl⟩
           rw[hOP]at HOP hol
           rw[dropAt hgk,rLoop_cons hd hOP hFP]at hfk
           simp only at HOP hol
           have HF2:=Lib.hid (show∀(v:Value) (W:World),Below wb.heap.size wb W→W.ownsRow wb.heap.size 3 1 v ol.length (ol.map (Value.int .i64))→_ from fun v W hW hv=>ref_follow09 (.slice (some ⟨g7,o7,none⟩) es.length ce) v (.slice Au g.2.length cu) es ol g.2 W (HE3.out.below (HBB3.out.trans (hW.mono HBB3.out.size))) (IntsIn.of_own hv) (HUB.out.below hW) (by omega) (by omega) hgl2 HEC.out)
           rw[hFP]at HF2
           have HFQ:=Lib.hid hfk
           have hd4:=hcd2.1
           clear hwb hbb hxb hzb hGB hx7 hfk hcd hcd2 hpd hpe hpm hmem hd hgk hOP hFP hi3
           go_upto_region 32 with fail
           rw[HWB.out,HGB.out]
           go_wp2_with fail
           refine HFD.out.mono ?_
           rintro e w' ⟨rfl,rfl⟩
           go_wp2_with fail
           refine HOP.out.mono ?_
           rintro e w5 ⟨v5,rfl,hown5,hb5⟩
           obtain⟨A5,c5,rfl,_⟩:=mx_slice hown5
           have HB5:=Lib.hid hb5
           have HO5:=Lib.hid hown5
           have HB35:=Lib.hid (HBB3.out.trans (hb5.mono HBB3.out.size))
           have HBX5:=Lib.hid (HBXB.out w5 hb5)
           clear hb5 hown5
           cases ob with
           | false=>
            have HN:=Lib.hid (show rLoop es p fl (gs.drop (k+1))=D3 from by
             have:=HFQ.out
             rwa [if_pos rfl]at this)
            go_wp2_with fail
            go_roundw
            case rel=>exact⟨k+1,by omega,by go_num,HN,HB35⟩
            case measure=>simp[intOf];omega
           | true=>
            have hfk:=HFQ.out
            rw[if_neg (by decide)]at hfk
            obtain⟨y0,y1⟩:=HBX5.out
            clear x3 x4 x5 e0 e1 d70 d71
            go_wp2_with fail
            refine(HF2.out _ w5 HB5.out HO5.out).mono ?_
            rintro e w6 ⟨v6,rfl,hown6,hb6⟩
            obtain⟨A6,c6,rfl,_⟩:=mx_slice hown6
            have HB36:=Lib.hid (HB35.out.trans (hb6.mono HB35.out.size))
            obtain⟨y2,y3⟩:=HBXB.out w6 (HB5.out.trans (hb6.mono HB5.out.size))
            clear hown6 hb6 y0 y1
            by_cases e4:fe4=0
            ·have q4:((fe4:Int) != 0)=false:=by rw[e4];rfl
             rw[if_neg (fun h=>h e4)]at hfk
             clear e4
             cases fb4 with
             | false=>
              rw[if_pos rfl]at hfk
              have HN:=Lib.hid (show((0,g.1,93):Nat×Int×Nat)=R from by
               have:=HR5.out
               rw[←hfk]at this
               exact this)
              clear hfk
              go_upto_region 38 with fail
              go_quiet (fail)
              go_wp2_with fail
              go_ret3
              exact⟨HFIN.out _ _ _ (by rw[←HN.out];rfl) (by rw[←HN.out]) (by rw[←HN.out];rfl),HED.out _ (HB36.out.trans ((mx_drewN _ _).mono HB36.out.size))⟩
             | true=>
              rw[if_neg (by decide)]at hfk
              have HN:=Lib.hid hfk
              clear hfk
              go_wp2_with fail
              go_roundw
              case rel=>exact⟨k+1,by omega,by go_num,HN,HB36⟩
              case measure=>simp[intOf];omega
            ·have q4:((fe4:Int) != 0)=true:=bne_iff_ne.2 (by omega)
             rw[if_pos e4]at hfk
             have HN:=Lib.hid (show((0,fi4,fe4):Nat×Int×Nat)=R from by
              have:=HR5.out
              rw[←hfk]at this
              exact this)
             clear hfk e4
             go_wp2_with fail
             go_ret3
             exact⟨HFIN.out _ _ _ (by rw[←HN.out];rfl) (by rw[←HN.out]) (by rw[←HN.out]),HED.out _ HB36.out⟩
          ·have hD3n:D3=none:=by
            have:=HFK.out
            rw[List.drop_of_length_le (by omega),rLoop]at this
            exact this.symm
           have hr6:=HR5.out
           rw[hD3n]at hr6
           have HN:=Lib.hid (show((2,0,0):Nat×Int×Nat)=R from hr6)
           clear hr6 hD3n
           go_wp2_with fail
           go_ret3
           exact⟨HFIN.out _ _ _ (by rw[←HN.out];rfl) (by rw[←HN.out]) (by rw[←HN.out];rfl),HED.out _ (by exact HBk.out)⟩
  ·have q1:((fe:Int) != 0)=true:=bne_iff_ne.2 (by omega)
   rw[if_pos e1]at hR
   have HN:=Lib.hid hR
   clear hR e1
   go_wp2_with fail
   go_ret3
   exact⟨HFIN.out _ _ _ (by rw[←HN.out];rfl) (by rw[←HN.out]) (by rw[←HN.out]),HEND.out _ HB2.out⟩
end Go.Proofs.YtajbmjpodeilpaaGreatDoor
namespace Go.Proofs.YtajbmjpodeilpaaGreatDoor
open Go.RowKit
theorem oinfo_ent:(Tryz.prog.info? 179).map (fun i=>(i.zero,i.size,i.bytes))=some (some (.agg #[.int .i64 0,.slice none 0 0]),2,32):=by kernel_rfl
abbrev REn:=(Int×List Int)×Value
def REn.cells (x:REn):List Value:= [.int .i64 x.1.1,x.2]
theorem rcells_len: ∀K:List REn,(K.flatMap REn.cells).length=K.length*2
 | []=>rfl
 | x::K=>by
  rw[List.flatMap_cons,List.length_append,rcells_len K,List.length_cons]
  show 2+K.length*2=_
  omega
theorem ricell_at: ∀(K:List REn) (i:Nat) (x:REn),K[i]? =some x→(K.flatMap REn.cells)[i*2]? =some (.int .i64 x.1.1)∧(K.flatMap REn.cells)[i*2+1]? =some x.2
 | [],i,x,h=>by simp at h
 | y::K,0,x,h=>by
  obtain rfl:y=x:=by simpa using h
  exact⟨rfl,rfl⟩
 | y::K,i+1,x,h=>by
  have:=ricell_at K i x (by simpa using h)
  rw[show(i+1)*2=i*2+2 by omega]
  exact this
theorem ints_low {O:Nat→Prop} {B:Nat} {w w':World} {v:Value} {xs:List Int} (h:IntsIn (fun g=>O g∧g<B) w v xs) (k:Below B w w'):IntsIn (fun g=>O g∧g<B) w' v xs:=
 h.kept (O':=fun g=>B≤g) ⟨k.os,k.tape,k.output,k.size,fun j _ hj=>k.block j (by omega)⟩ (fun g hg=>by have:=hg.2;omega)
theorem ints_below {w w':World} {v:Value} {xs:List Int} {O:Nat→Prop} (h:IntsIn O w v xs) (k:Below w.heap.size w w'):IntsIn (fun g=>O g∧g<w.heap.size) w' v xs:=
 ints_low h.lt k
structure RE (O:Nat→Prop) (B:Nat) (w:World) (v:Value) (K:List REn):Prop where
 own:w.ownsRow B 179 2 v K.length (K.flatMap REn.cells)
 low: ∀x∈K,IntsIn (fun g=>O g∧g<B) w x.2 x.1.2
theorem RE.below {O:Nat→Prop} {B:Nat} {w w':World} {v:Value} {K:List REn} (h:RE O B w v K) (k:Below w.heap.size w w'):RE O B w' v K:=
 ⟨own_below h.own k,fun x hx=>(h.low x hx).below k⟩
theorem RE.grown {O:Nat→Prop} {B:Nat} {w w':World} {v v':Value} {K:List REn} {x:REn} (h:RE O B w v K) (k:Below B w w') (ho:w'.ownsRow B 179 2 v' (K.length+1) (K.flatMap REn.cells++ [.int .i64 x.1.1,x.2])) (hx:IntsIn (fun g=>O g∧g<B) w' x.2 x.1.2):RE O B w' v' (K++ [x]):=
 ⟨by rw[List.length_append,List.length_singleton,List.flatMap_append];exact ho,fun y hy=>by
  rcases List.mem_append.1 hy with hy|hy
  ·exact ints_low (h.low y hy) k
  ·obtain rfl:=List.mem_singleton.1 hy
   exact hx⟩
theorem RE.ents {O:Nat→Prop} {B:Nat} {w:World} {v:Value} {K:List REn} (h:RE O B w v K):EntIn (fun g=>O g∨B≤g) w v (K.map (·.1)):=by
 obtain⟨ho,hl⟩:=h
 rcases ho.2 with⟨rfl,h0⟩|⟨g,cap,cur,rfl,hBg,hg,hle,_⟩
 ·have:K= []:=List.eq_nil_of_length_eq_zero h0
  subst this
  exact⟨none,0,rfl,Nat.le_refl _,fun _=>rfl,fun i p hi=>by simp at hi⟩
 ·refine⟨_,cap,by rw[List.length_map],by rw[List.length_map];omega,(fun h=>by cases h),fun i p hi=>?_⟩
  rw[List.getElem?_map,Option.map_eq_some_iff]at hi
  obtain⟨x,hx,rfl⟩:=hi
  obtain⟨e0,e1⟩:=ricell_at K i x hx
  exact⟨g,0,x.2,rfl,heap_lt hg,.inr hBg,by rw[Nat.zero_add];exact mx_at ho e0,by rw[Nat.zero_add];exact mx_at ho e1,(hl x (List.mem_of_getElem? hx)).mono fun _ hg=>.inl hg.1⟩
theorem EntIn.list {O:Nat→Prop} {w:World} {v:Value} {es:Ents} (h:EntIn O w v es): ∃K:List REn,K.map (·.1)=es∧SrcAt w v es.length (K.flatMap REn.cells)∧∀x∈K,IntsIn (fun g=>O g∧g<w.heap.size) w x.2 x.1.2:=by
 obtain⟨A,c,rfl,hc,hn,hx⟩:=h
 have hu: ∀i:Fin es.length,∃u,∃g o,A=some ⟨g,o,none⟩∧w.cell? ⟨g,o+i.1*2,none⟩=some (.int .i64 es[i.1].1)∧w.cell? ⟨g,o+i.1*2+1,none⟩=some u∧IntsIn O w u es[i.1].2:=fun i=>by
  obtain⟨g,o,u,h1,_,_,h2,h3,h4⟩:=hx i.1 es[i.1] (List.getElem?_eq_getElem i.2)
  exact⟨u,g,o,h1,h2,h3,h4⟩
 obtain⟨f,hf⟩:=Classical.axiomOfChoice hu
 have hK: ∀(i:Nat) (x:REn),(List.ofFn fun i:Fin es.length=>((es[i.1],f i):REn))[i]? =some x→∃hi:i<es.length,x=(es[i],f ⟨i,hi⟩):=fun i x hi=>by
  rw[List.getElem?_ofFn]at hi
  split at hi
  ·rename_i h
   exact⟨h,(Option.some.inj hi).symm⟩
  ·cases hi
 refine⟨List.ofFn fun i:Fin es.length=>((es[i.1],f i):REn),?_,?_,?_⟩
 ·refine List.ext_getElem? fun i=>?_
  rw[List.getElem?_map,List.getElem?_ofFn]
  split
  ·rename_i h
   rw[List.getElem?_eq_getElem h];rfl
  ·rename_i h
   rw[List.getElem?_eq_none (by omega)];rfl
 ·cases A with
  | none=>
   have h0:=hn rfl
   have hx0:es= []:=List.eq_nil_of_length_eq_zero (by omega)
   subst hx0
   subst h0
   exact .inl ⟨rfl,rfl,by simp⟩
  | some ad=>
   refine .inr ⟨ad,c,rfl,fun j u hj=>?_⟩
   have hjl:j<es.length*2:=by
    have:=(List.getElem?_eq_some_iff.1 hj).1
    rw[rcells_len,List.length_ofFn]at this
    exact this
   obtain⟨i,hi⟩: ∃i,j/2=i:=⟨_,rfl⟩
   have hil:i<es.length:=by omega
   obtain⟨g,o,h1,h2,h3,_⟩:=hf ⟨i,hil⟩
   obtain⟨e0,e1⟩:=ricell_at (List.ofFn fun i:Fin es.length=>((es[i.1],f i):REn)) i (es[i],f ⟨i,hil⟩) (by rw[List.getElem?_ofFn,dif_pos hil])
   obtain rfl:=Option.some.inj h1
   rw[addr_add2]
   rcases Nat.mod_two_eq_zero_or_one j with hm|hm
   ·have hji:j=i*2:=by omega
    subst hji
    rw[e0]at hj
    obtain rfl:=Option.some.inj hj
    exact h2
   ·have hji:j=i*2+1:=by omega
    subst hji
    rw[e1]at hj
    obtain rfl:=Option.some.inj hj
    exact h3
 ·intro x hx
  obtain⟨i,hi⟩:=List.getElem?_of_mem hx
  obtain⟨hil,rfl⟩:=hK i x hi
  obtain⟨_,_,_,_,_,h4⟩:=hf ⟨i,hil⟩
  exact h4.lt
set_option maxRecDepth 100000 in
set_option maxHeartbeats 4000000 in
theorem ref_without10 {O:Nat→Prop} (u:Value) (es:Ents) (id:Int) (w:World) (h:EntIn O w u es) (hel:es.length≤1000000):
  Calls Tryz.prog 64 #[u,.int .i64 id] w fun e w'=>(∃v K,e= .returned (.tuple #[v,.bool (decide ((delA es id).length<es.length))])∧RE O w.heap.size w' v K∧K.map (·.1)=delA es id)∧Below w.heap.size w w':=by
 obtain⟨i0,hi0,iz1,iz2,iz3⟩:=info_parts oinfo_ent
 have HE:=Lib.hid h
 obtain⟨A,ce,rfl,hce,_⟩:=h
 go_enter Tryz.func64,Tryz.ntmps64
 go_wp2_with fail
 go_loopw [6,7] (fun v i wr=> ∃(k:Nat) (K:List REn),k≤es.length∧i= .int .i64 k∧Hid (K.map (·.1)=(es.take k).filter fun p=>decide (p.1≠id))∧Hid (K.length≤k)∧Hid (RE O w.heap.size wr v K)∧Hid (Below w.heap.size w wr)) (fun _ i _=>es.length-(intOf i).toNat)
 case atStart=>exact⟨0,[],Nat.zero_le _,rfl,Lib.hid rfl,Lib.hid (Nat.le_refl _),Lib.hid ⟨World.ownsRow_nil _ _ _ _,fun x hx=>by cases hx⟩,Lib.hid (Below.refl _ _)⟩
 case round=>
  obtain⟨k,K,hk,rfl,HK,HKL,HR,HB⟩:=hrel
  obtain⟨Af,cf,rfl,hcf⟩:=mx_slice HR.out.own
  have hkl:=HKL.out
  have hzw:=HB.out.size
  by_cases hlt:k<es.length
  ·obtain⟨p,hp⟩:=atOf hlt
   obtain⟨A2,c2,hA2,_,_,hx⟩:=HE.out.below HB.out
   simp only[Value.slice.injEq,true_and]at hA2
   obtain⟨rfl,rfl⟩:=hA2
   obtain⟨g,o,ug,rfl,hg,_,d0,d1,hug⟩:=hx k p hp
   have HTK:=Lib.hid (show(es.take (k+1)).filter (fun p=>decide (p.1≠id))=((es.take k).filter fun p=>decide (p.1≠id))++ [p].filter (fun p=>decide (p.1≠id))from by
    rw[List.take_add_one,hp,List.filter_append];rfl)
   obtain⟨A3,c3,hA3,_,_,hx3⟩:=HE.out
   simp only[Value.slice.injEq,true_and]at hA3
   obtain⟨hA3,rfl⟩:=hA3
   obtain⟨g3,o3,ug3,hA4,hg3,_,_,d13,hug3⟩:=hx3 k p hp
   rw[hA4]at hA3
   obtain⟨rfl,rfl⟩:g=g3∧o=o3:=by
    have:=Option.some.inj hA3
    exact⟨congrArg Addr.block this,congrArg Addr.off this⟩
   obtain rfl:ug=ug3:=Option.some.inj (d1.symm.trans ((HB.out.cell (p:=⟨g,o+k*2+1,none⟩) hg3).trans d13))
   have HUL:=Lib.hid (ints_below hug3 HB.out)
   obtain⟨Au,cu,rfl,_⟩:=hug
   have wk:IntKind.i64.wrap (k:Int)=(k:Int):=IntWalk.i64_in _ (by omega)
   have lk:(k:Int)<(es.length:Int):=by omega
   clear hx hx3 hp hA3 hA4 hug3 d13 hg3
   by_cases e1:p.1=id
   ·have q1:(p.1 != id)=false:=bne_eq_false_iff_eq.2 e1
    have HN:=Lib.hid (show K.map (·.1)=(es.take (k+1)).filter (fun p=>decide (p.1≠id))from by
     rw[HTK.out,List.filter_cons_of_neg (by simpa using e1),HK.out];simp)
    clear e1
    go_wp2_with fail
    go_roundw
    case rel=>exact⟨k+1,K,by omega,by go_num,HN,Lib.hid (by omega),HR,HB⟩
    case measure=>simp[intOf];omega
   ·have q1:(p.1 != id)=true:=bne_iff_ne.2 e1
    have HN:=Lib.hid (show(K++ [((p,.slice Au p.2.length cu):REn)]).map (·.1)=(es.take (k+1)).filter (fun p=>decide (p.1≠id))from by
     rw[HTK.out,List.filter_cons_of_pos (by simpa using e1),List.map_append,HK.out];rfl)
    clear e1
    go_wp2_with (at_builtin;refine wpList_append_own_at _ rfl _ _ 73 rfl w.heap.size 179 i0 (.agg #[.int .i64 0,.slice none 0 0]) 2 32 Tryz.underlying73 hi0 iz1 iz2 iz3 rfl (by decide) _ K.length _ rfl (own_below HR.out.own (mx_al wr _)) ⟨wr.heap.size,0,none⟩ 1 1 [.int .i64 p.1,.slice Au p.2.length cu] rfl rfl (fun j u hj=>cells_list_new wr [.int .i64 p.1,.slice Au p.2.length cu] 179 j u hj) (by simp[Value.oneCell']) (by unfold maxLen;omega) (by omega) (by simp;omega) ?_;intro v' w9 hown hgrow hnl hat;obtain⟨Aw,kw,hv2,_⟩:=mx_slice hown;subst hv2;have HOWN:=Lib.hid hown;have HG:=Lib.hid hgrow;clear hown hgrow hnl hat)
    have hb8:=grow_low HR.out.own HG.out hzw
    have hb9:=HB.out.trans hb8
    go_roundw
    case rel=>exact⟨k+1,K++ [(p,.slice Au p.2.length cu)],by omega,by go_num,HN,Lib.hid (by rw[List.length_append,List.length_singleton];omega),Lib.hid (HR.out.grown (x:=(p,.slice Au p.2.length cu)) hb8 HOWN.out (ints_low HUL.out hb8)),Lib.hid hb9⟩
    case measure=>simp[intOf];omega
  ·have HN:=Lib.hid (show K.map (·.1)=delA es id from by
    have:=HK.out
    rwa [List.take_of_length_le (by omega)]at this)
   have hkn:K.length=(delA es id).length:=by rw[←HN.out,List.length_map]
   have hbe:decide ((K.length:Int)<(es.length:Int))=decide ((delA es id).length<es.length):=by
    rw[←hkn];exact decide_eq_decide.2 (by omega)
   have hbf:decide (K.length<es.length)=decide ((delA es id).length<es.length):=by rw[←hkn]
   clear hkn
   go_wp2_with fail
   go_ret2
   exact⟨⟨_,K,rfl,HR.out,HN.out⟩,HB.out⟩
end Go.Proofs.YtajbmjpodeilpaaGreatDoor
