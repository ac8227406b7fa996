/- Reference of layer 10: Do. -/
import Derived.Test.YtajbmjpodeilpaaGreatDoorV219
import Derived.Test.YtajbmjpodeilpaaGreatDoorV220
import Derived.Test.YtajbmjpodeilpaaGreatDoorV223
namespace Go.Proofs.YtajbmjpodeilpaaGreatDoor
open Go.RowKit
theorem del_lt (es:Ents) (id:Int):decide ((delA es id).length<es.length)= !(getA es id).isNone:=by
 unfold delA getA
 rw[Option.isNone_map]
 cases hf:es.find? fun p=>decide (p.1=id)with
 | none=>
  refine decide_eq_false fun hl=>?_
  obtain⟨x,hx,he⟩:=List.length_filter_lt_length_iff_exists.1 hl
  exact List.find?_eq_none.1 hf x hx (by simpa using he)
 | some x=>
  refine decide_eq_true (List.length_filter_lt_length_iff_exists.2 ⟨x,List.mem_of_find?_eq_some hf,?_⟩)
  have:=List.find?_some hf
  simpa using this
def rDo (out:List Int) (k:Ckr) (s:EStep):Ckr×Nat×Int×Nat:=
 if k.proved=true then(k,0,0,0)else
 if stepB s=false then(k,0,0,70)else
 if s.id<k.last∨s.id=k.last∧s.del=false then(k,0,s.id,100)else
 if s.del=true then(if(ckDel k.ents s.hints).2.2=0 then({ k with ents:=(ckDel k.ents s.hints).1,last:=s.id,dels:=k.dels+1 },0,0,0)else(k,0,(ckDel k.ents s.hints).2))else
 if(rChk k.ents out s.lits (splitL s.hints).1 (splitL s.hints).2).2.2≠0 then(k,0,(rChk k.ents out s.lits (splitL s.hints).1 (splitL s.hints).2).2)else
 ({ (k.putR s.id s.lits)with adds:=k.adds+1,rats:=if(rChk k.ents out s.lits (splitL s.hints).1 (splitL s.hints).2).1=2 then k.rats+1 else k.rats },(rChk k.ents out s.lits (splitL s.hints).1 (splitL s.hints).2).1,0,0)
theorem stepB_addR {s:EStep} (h:stepB s=true) (hd:s.del=false):clauseB s.lits=true∧splitOk s.hints:=by
 unfold stepB at h
 rw[hd]at h
 simp only[Bool.and_eq_true,Bool.not_eq_true',List.any_eq_false,Bool.or_eq_true,decide_eq_true_eq]at h
 obtain⟨_,⟨h1,_⟩,h2⟩:=h
 exact⟨h1,fun x hx=>by have:=h2 x hx;simp at this;omega⟩
def DoPost (O:Nat→Prop) (k:Ckr) (s:EStep) (w:World) (e:Ending) (w':World):Prop:=
 (∃out v',(alwR s.lits=false→∀y,y∈out↔ -y∈s.lits)∧e= .returned (.tuple #[ckK v' (rDo out k s).1,.int .i64 ((rDo out k s).2.1:Nat),.int .i64 (rDo out k s).2.2.1,.int .i64 ((rDo out k s).2.2.2:Nat)])∧EntIn (fun g=>O g∨w.heap.size≤g) w' v' (rDo out k s).1.ents)∧Below w.heap.size w w'
theorem res_ck4 {fn:Func} (h:fn.results= #[.cell 4 75,.tmp 5,.tmp 6,.tmp 7]) {w:World} {r:Nat} {c0 c1 c2 c3 c4 c5 c6:Value} {t:TypeId} (h6:w.heap[r]? =some (.cells #[c0,c1,c2,c3,c4,c5,c6] t (0,0)))
  (tmps:Array Value) (t6:tmps[4]?.getD undef= .pointer (some ⟨r,0,none⟩)):
  (results fn tmps).run Tryz.prog w= .ok (.tuple #[.agg #[c0,c1,c2,c3,c4,c5,c6],tmps.getD 5 undef,tmps.getD 6 undef,tmps.getD 7 undef]) w:=by
 have p0:=mx_cell (j:=0) h6
 have p1:=mx_cell (j:=1) h6
 have p2:=mx_cell (j:=2) h6
 have p3:=mx_cell (j:=3) h6
 have p4:=mx_cell (j:=4) h6
 have p5:=mx_cell (j:=5) h6
 have p6:=mx_cell (j:=6) h6
 simp at p0 p1 p2 p3 p4 p5 p6
 simp[results,h,go_sem,t6,p0,p1,p2,p3,p4,p5,p6]
set_option maxRecDepth 100000 in
set_option maxHeartbeats 4000000 in
theorem ref_do10 {O:Nat→Prop} (ev:Value) (k:Ckr) (ul uh:Value) (s:EStep) (w:World) (he:EntIn O w ev k.ents) (hl:IntsIn O w ul s.lits) (hh:IntsIn O w uh s.hints) (hel:k.ents.length≤100000) (hec: ∀p∈k.ents,clauseB p.2=true)
  (hll:s.lits.length≤1000000) (hhl:s.hints.length≤100000) (hr: ∀h∈s.hints,-9223372036854775808≤h∧h≤9223372036854775807) (hk:0≤k.adds∧k.adds≤1000000∧0≤k.dels∧k.dels≤1000000∧0≤k.rats∧k.rats≤1000000):
  Calls Tryz.prog 34 #[ckK ev k,.agg #[.bool s.del,.int .i64 s.id,ul,uh]] w (DoPost O k s w):=by
 obtain⟨W1,hW1,hb1,hx1,hz1⟩:=al_new w (ckCells ev k) 75
 obtain⟨W2,hW2,hb2,hx2,hz2⟩:=al_new W1 #[.bool s.del,.int .i64 s.id,ul,uh] 83
 obtain⟨W3,hW3,hb3,hx3,hz3⟩:=al_new W2 #[.slice none 0 0,.int .i64 0,.bool false,.int .i64 0,.int .i64 0,.int .i64 0,.int .i64 0] 75
 have hw3:Below w.heap.size w W3:=(hb1.trans (hb2.mono hb1.size)).trans (hb3.mono (by omega))
 have HXC:=Lib.hid (show∀W,Below W2.heap.size W3 W→W.heap[w.heap.size]? =some (.cells (ckCells ev k) 75 (0,0))from fun W hW=>(hW.block _ (by omega)).trans ((hb3.block _ (by omega)).trans ((hb2.block _ (by omega)).trans hx1)))
 have HXS:=Lib.hid (show∀W,Below W2.heap.size W3 W→W.heap[W1.heap.size]? =some (.cells #[.bool s.del,.int .i64 s.id,ul,uh] 83 (0,0))from fun W hW=>(hW.block _ (by omega)).trans ((hb3.block _ (by omega)).trans hx2))
 have HXR:=Lib.hid (show∀W,Below W3.heap.size W3 W→W.heap[W2.heap.size]? =some (.cells #[.slice none 0 0,.int .i64 0,.bool false,.int .i64 0,.int .i64 0,.int .i64 0,.int .i64 0] 75 (0,0))from fun W hW=>(hW.block _ (by omega)).trans hx3)
 have HB3:=Lib.hid hw3
 have HZ:=Lib.hid (show w.heap.size<W1.heap.size∧W1.heap.size<W2.heap.size∧w.heap.size<W2.heap.size∧W2.heap.size<W3.heap.size by omega)
 have HE:=Lib.hid (he.below hw3)
 have HLI:=Lib.hid (hl.below hw3)
 have HHI:=Lib.hid (hh.below hw3)
 have HEC:=Lib.hid hec
 have HRG:=Lib.hid hr
 have HKB:=Lib.hid hk
 have HRT:=Lib.hid (show∀W,Below W3.heap.size W3 W→Calls Tryz.prog 63 #[.agg #[.bool s.del,.int .i64 s.id,ul,uh]] W fun e w'=>e= .returned (.bool (stepB s))∧Below W.heap.size W w' from fun W hW=>ref_right07 s.del s.id ul uh s.lits s.hints W ((hl.below hw3).below hW) ((hh.below hw3).below hW) hll (by omega) hr)
 have HENT:=Lib.hid (show∀W,Below w.heap.size w W→EntIn (fun g=>O g∨w.heap.size≤g) W ev k.ents from fun W hW=>(he.below hW).mono fun _ h=>.inl h)
 have HELO:=Lib.hid (show∀W,Below W3.heap.size W3 W→EntIn (fun g=>(O g∧g<w.heap.size)∨W3.heap.size≤g) W ev k.ents from fun W hW=>(((he.lt).below hw3).below hW).mono fun _ hg=>.inl hg)
 have HLL:=Lib.hid (show IntsIn (fun g=>O g∧g<w.heap.size) W3 ul s.lits from(hl.lt).below hw3)
 have HHL:=Lib.hid (show IntsIn (fun g=>g<w.heap.size) W3 uh s.hints from((hh.lt).below hw3).mono fun _ hg=>hg.2)
 obtain⟨Ae,ce,rfl,_⟩:=he
 obtain⟨Al,cl,rfl,_⟩:=hl
 obtain⟨Ah,ch,rfl,_⟩:=hh
 have HOUT:=Lib.hid (show∃out,alwR s.lits=false→∀y,y∈out↔ -y∈s.lits from⟨s.lits.map (-·),fun _ y=>by
  rw[List.mem_map]
  constructor
  ·rintro ⟨x,hx,rfl⟩
   rwa [Int.neg_neg]
  ·intro h
   exact⟨-y,h,Int.neg_neg y⟩⟩)
 have HFIN:=Lib.hid (show∀(W:World) (v0:Value) (k':Ckr) (pb:Bool) (a:Nat) (b:Int) (d:Nat),k'.proved=pb→(∃out,(alwR s.lits=false→∀y,y∈out↔ -y∈s.lits)∧rDo out k s=(k',a,b,d))→EntIn (fun g=>O g∨w.heap.size≤g) W v0 k'.ents→Below w.heap.size w W→DoPost O k s w (Ending.returned (.tuple #[.agg #[v0,.int .i64 k'.last,.bool pb,.int .i64 k'.adds,.int .i64 k'.dels,.int .i64 k'.rats,.int .i64 k'.largest],.int .i64 (a:Nat),.int .i64 b,.int .i64 (d:Nat)])) W from fun W v0 k' pb a b d hpv ⟨out,ho,hr⟩ he hb=>by
  subst hpv
  exact⟨⟨out,v0,ho,by rw[hr];rfl,by rw[hr];exact he⟩,hb⟩)
 unfold ckK ckV
 unfold ckCells at HXC hW1
 have y0:=mx_cell (j:=0) (HXC.out W3 (((Below.refl _ _)).mono (Nat.le_of_lt HZ.out.2.2.2)))
 have y1:=mx_cell (j:=1) (HXC.out W3 (((Below.refl _ _)).mono (Nat.le_of_lt HZ.out.2.2.2)))
 have y2:=mx_cell (j:=2) (HXC.out W3 (((Below.refl _ _)).mono (Nat.le_of_lt HZ.out.2.2.2)))
 have y3:=mx_cell (j:=3) (HXC.out W3 (((Below.refl _ _)).mono (Nat.le_of_lt HZ.out.2.2.2)))
 have y4:=mx_cell (j:=4) (HXC.out W3 (((Below.refl _ _)).mono (Nat.le_of_lt HZ.out.2.2.2)))
 have y5:=mx_cell (j:=5) (HXC.out W3 (((Below.refl _ _)).mono (Nat.le_of_lt HZ.out.2.2.2)))
 have y6:=mx_cell (j:=6) (HXC.out W3 (((Below.refl _ _)).mono (Nat.le_of_lt HZ.out.2.2.2)))
 have s0:=mx_cell (j:=0) (HXS.out W3 (((Below.refl _ _)).mono (Nat.le_of_lt HZ.out.2.2.2)))
 have s1:=mx_cell (j:=1) (HXS.out W3 (((Below.refl _ _)).mono (Nat.le_of_lt HZ.out.2.2.2)))
 have s2:=mx_cell (j:=2) (HXS.out W3 (((Below.refl _ _)).mono (Nat.le_of_lt HZ.out.2.2.2)))
 have s3:=mx_cell (j:=3) (HXS.out W3 (((Below.refl _ _)).mono (Nat.le_of_lt HZ.out.2.2.2)))
 have z0:=mx_cell (j:=0) (HXR.out W3 (Below.refl _ _))
 have z1:=mx_cell (j:=1) (HXR.out W3 (Below.refl _ _))
 have z2:=mx_cell (j:=2) (HXR.out W3 (Below.refl _ _))
 have z3:=mx_cell (j:=3) (HXR.out W3 (Below.refl _ _))
 have z4:=mx_cell (j:=4) (HXR.out W3 (Below.refl _ _))
 have z5:=mx_cell (j:=5) (HXR.out W3 (Below.refl _ _))
 have z6:=mx_cell (j:=6) (HXR.out W3 (Below.refl _ _))
 have f0:=oj_free (j:=0) (HXR.out W3 (Below.refl _ _))
 have f1:=oj_free (j:=1) (HXR.out W3 (Below.refl _ _))
 have f2:=oj_free (j:=2) (HXR.out W3 (Below.refl _ _))
 have f3:=oj_free (j:=3) (HXR.out W3 (Below.refl _ _))
 have f4:=oj_free (j:=4) (HXR.out W3 (Below.refl _ _))
 have f5:=oj_free (j:=5) (HXR.out W3 (Below.refl _ _))
 have f6:=oj_free (j:=6) (HXR.out W3 (Below.refl _ _))
 clear hx1 hx2 hx3 hb1 hb2 hb3 hz1 hz2 hz3 hw3 hec hr hk
 go_enter Tryz.func34,Tryz.ntmps34
 go_upto_region 1 with fail
 clear hW1 hW2 hW3
 obtain⟨pv,hp⟩: ∃b,k.proved=b:=⟨_,rfl⟩
 have HP:=Lib.hid hp
 cases pv with
 | true=>
  rw[hp]at y2
  clear hp
  go_wp2_with fail
  obtain⟨WF,hWF,hrF,hbF,hkF⟩:=set7_all (HXR.out W3 (Below.refl _ _)) (.slice Ae k.ents.length ce) (.int .i64 k.last) (.bool true) (.int .i64 k.adds) (.int .i64 k.dels) (.int .i64 k.rats) (.int .i64 k.largest)
  rw[hWF]
  refine bodyPost_ret (res_ck4 rfl hrF _ rfl) rfl ?_
  have hbE:Below w.heap.size w WF:=(HB3.out.trans (((Below.refl _ _)).mono HB3.out.size)).trans (hbF.mono (Nat.le_of_lt HZ.out.2.2.1))
  exact HFIN.out WF _ k true 0 0 0 HP.out (by obtain⟨out,ho⟩:=HOUT.out;exact⟨out,ho,by unfold rDo;rw[if_pos HP.out]⟩) (HENT.out WF hbE) hbE
 | false=>
  rw[hp]at y2
  clear hp
  obtain⟨sb,hsb⟩: ∃b,stepB s=b:=⟨_,rfl⟩
  have HSB:=Lib.hid hsb
  rw[hsb]at HRT
  clear hsb
  go_wp2_with fail
  refine(HRT.out W3 (Below.refl _ _)).mono ?_
  rintro e w1 ⟨rfl,hb1⟩
  have HB1:=Lib.hid hb1
  clear y0 z0 f0 y1 z1 f1 y2 z2 f2 y3 z3 f3 y4 z4 f4 y5 z5 f5 y6 z6 f6 s0 s1 s2 s3
  have y0:=mx_cell (j:=0) (HXC.out w1 ((hb1).mono (Nat.le_of_lt HZ.out.2.2.2)))
  have y1:=mx_cell (j:=1) (HXC.out w1 ((hb1).mono (Nat.le_of_lt HZ.out.2.2.2)))
  have y2:=mx_cell (j:=2) (HXC.out w1 ((hb1).mono (Nat.le_of_lt HZ.out.2.2.2)))
  have y3:=mx_cell (j:=3) (HXC.out w1 ((hb1).mono (Nat.le_of_lt HZ.out.2.2.2)))
  have y4:=mx_cell (j:=4) (HXC.out w1 ((hb1).mono (Nat.le_of_lt HZ.out.2.2.2)))
  have y5:=mx_cell (j:=5) (HXC.out w1 ((hb1).mono (Nat.le_of_lt HZ.out.2.2.2)))
  have y6:=mx_cell (j:=6) (HXC.out w1 ((hb1).mono (Nat.le_of_lt HZ.out.2.2.2)))
  have s0:=mx_cell (j:=0) (HXS.out w1 ((hb1).mono (Nat.le_of_lt HZ.out.2.2.2)))
  have s1:=mx_cell (j:=1) (HXS.out w1 ((hb1).mono (Nat.le_of_lt HZ.out.2.2.2)))
  have s2:=mx_cell (j:=2) (HXS.out w1 ((hb1).mono (Nat.le_of_lt HZ.out.2.2.2)))
  have s3:=mx_cell (j:=3) (HXS.out w1 ((hb1).mono (Nat.le_of_lt HZ.out.2.2.2)))
  have z0:=mx_cell (j:=0) (HXR.out w1 hb1)
  have z1:=mx_cell (j:=1) (HXR.out w1 hb1)
  have z2:=mx_cell (j:=2) (HXR.out w1 hb1)
  have z3:=mx_cell (j:=3) (HXR.out w1 hb1)
  have z4:=mx_cell (j:=4) (HXR.out w1 hb1)
  have z5:=mx_cell (j:=5) (HXR.out w1 hb1)
  have z6:=mx_cell (j:=6) (HXR.out w1 hb1)
  have f0:=oj_free (j:=0) (HXR.out w1 hb1)
  have f1:=oj_free (j:=1) (HXR.out w1 hb1)
  have f2:=oj_free (j:=2) (HXR.out w1 hb1)
  have f3:=oj_free (j:=3) (HXR.out w1 hb1)
  have f4:=oj_free (j:=4) (HXR.out w1 hb1)
  have f5:=oj_free (j:=5) (HXR.out w1 hb1)
  have f6:=oj_free (j:=6) (HXR.out w1 hb1)
  rw[HP.out]at y2
  clear hb1
  cases sb with
  | false=>
   go_wp2_with fail
   obtain⟨WF,hWF,hrF,hbF,hkF⟩:=set7_all (HXR.out w1 HB1.out) (.slice Ae k.ents.length ce) (.int .i64 k.last) (.bool false) (.int .i64 k.adds) (.int .i64 k.dels) (.int .i64 k.rats) (.int .i64 k.largest)
   rw[hWF]
   refine bodyPost_ret (res_ck4 rfl hrF _ rfl) rfl ?_
   have hbE:Below w.heap.size w WF:=(HB3.out.trans ((HB1.out).mono HB3.out.size)).trans (hbF.mono (Nat.le_of_lt HZ.out.2.2.1))
   exact HFIN.out WF _ k false 0 0 70 HP.out (by obtain⟨out,ho⟩:=HOUT.out;exact⟨out,ho,by unfold rDo;rw[HP.out,HSB.out];rfl⟩) (HENT.out WF hbE) hbE
  | true=>
   cases hd:s.del with
   | true=>
    rw[hd]at s0
    by_cases j1:s.id<k.last
    ·have q1:decide (s.id<k.last)=true:=decide_eq_true j1
     have HJ:=Lib.hid j1
     have HD:=Lib.hid hd
     clear j1 hd
     go_upto_region 6 with fail
     refine wp_region_held_drew (S:=fun W=>Below W2.heap.size W3 W) (by kernel_rfl) ((HB1.out.trans ((mx_drew w1).mono HB1.out.size)).mono (Nat.le_of_lt HZ.out.2.2.2)) (fun hS=>?_)
     refine takeF 0 47 (fun wq hSw=>And.intro (mx_cell (j:=0) (HXC.out wq hSw)) (And.intro (mx_cell (j:=1) (HXC.out wq hSw)) (And.intro (mx_cell (j:=2) (HXC.out wq hSw)) (And.intro (mx_cell (j:=3) (HXC.out wq hSw)) (And.intro (mx_cell (j:=4) (HXC.out wq hSw)) (And.intro (mx_cell (j:=5) (HXC.out wq hSw)) (mx_cell (j:=6) (HXC.out wq hSw)))))))) ?_
     refine takeE 1 48 ?_
     refine takeF 2 49 (fun wq hSw=>mx_cell (j:=1) (HXS.out wq hSw)) ?_
     refine ready1 3 (fun K hK=>?_)
     go_simp
     obtain⟨WF,hWF,hrF,hbF,hkF⟩:=set7_all (HXR.out w1 HB1.out) (.slice Ae k.ents.length ce) (.int .i64 k.last) (.bool k.proved) (.int .i64 k.adds) (.int .i64 k.dels) (.int .i64 k.rats) (.int .i64 k.largest)
     rw[hWF]
     have hSF:Below W2.heap.size W3 WF.drew:=((HB1.out.mono (Nat.le_of_lt HZ.out.2.2.2)).trans hbF).drew
     refine hK.out _ _ hSF (fun _=>?_)
     clear hK hWF hS
     refine takeE 4 5 ?_
     refine takeE 5 6 ?_
     refine takeE 6 7 ?_
     refine wpAnyH_done (by kernel_rfl) ?_ _
     have hbE:Below w.heap.size w WF.drew:=((HB3.out.trans ((HB1.out).mono HB3.out.size)).trans (hbF.mono (Nat.le_of_lt HZ.out.2.2.1))).drew
     go_wp2_with fail
     refine bodyPost_ret (res_ck4 rfl (w:=WF.drew) hrF _ rfl) rfl ?_
     exact HFIN.out WF.drew _ k k.proved 0 s.id 100 rfl (by obtain⟨out,ho⟩:=HOUT.out;exact⟨out,ho,by unfold rDo;rw[if_neg (by rw[HP.out];decide),if_neg (by rw[HSB.out];decide),if_pos (.inl HJ.out)]⟩) (HENT.out _ hbE) hbE
    ·have q1:decide (s.id<k.last)=false:=decide_eq_false j1
     obtain⟨D,hD⟩: ∃D,ckDel k.ents s.hints=D:=⟨_,rfl⟩
     have HD0:=Lib.hid hD
     have HJ:=Lib.hid j1
     have HD:=Lib.hid hd
     clear hD j1 hd
     go_wp2_with fail
     go_loopw [8,9] (fun lv iv wr=> ∃(i:Nat) (es:Ents),i≤s.hints.length∧iv= .int .i64 i∧Hid (ckDel es (s.hints.drop i)=D)∧Hid (es.length≤100000)∧Hid (EntIn (fun g=>(O g∧g<w.heap.size)∨W3.heap.size≤g) wr lv es)∧Hid (Below W3.heap.size W3 wr)) (fun _ iv _=>s.hints.length-(intOf iv).toNat)
     case atStart=>exact⟨0,k.ents,Nat.zero_le _,rfl,Lib.hid HD0.out,Lib.hid hel,Lib.hid (HELO.out w1 HB1.out),Lib.hid HB1.out⟩
     case round=>
      obtain⟨i,es,hi,rfl,HDI,HEL,HEI,HBW⟩:=hrel
      obtain⟨Ai,ci,rfl,_⟩:=id HEI.out
      clear y0 z0 f0 y1 z1 f1 y2 z2 f2 y3 z3 f3 y4 z4 f4 y5 z5 f5 y6 z6 f6 s0 s1 s2 s3
      have y0:=mx_cell (j:=0) (HXC.out wr ((HBW.out).mono (Nat.le_of_lt HZ.out.2.2.2)))
      have y1:=mx_cell (j:=1) (HXC.out wr ((HBW.out).mono (Nat.le_of_lt HZ.out.2.2.2)))
      have y2:=mx_cell (j:=2) (HXC.out wr ((HBW.out).mono (Nat.le_of_lt HZ.out.2.2.2)))
      have y3:=mx_cell (j:=3) (HXC.out wr ((HBW.out).mono (Nat.le_of_lt HZ.out.2.2.2)))
      have y4:=mx_cell (j:=4) (HXC.out wr ((HBW.out).mono (Nat.le_of_lt HZ.out.2.2.2)))
      have y5:=mx_cell (j:=5) (HXC.out wr ((HBW.out).mono (Nat.le_of_lt HZ.out.2.2.2)))
      have y6:=mx_cell (j:=6) (HXC.out wr ((HBW.out).mono (Nat.le_of_lt HZ.out.2.2.2)))
      have s0:=mx_cell (j:=0) (HXS.out wr ((HBW.out).mono (Nat.le_of_lt HZ.out.2.2.2)))
      have s1:=mx_cell (j:=1) (HXS.out wr ((HBW.out).mono (Nat.le_of_lt HZ.out.2.2.2)))
      have s2:=mx_cell (j:=2) (HXS.out wr ((HBW.out).mono (Nat.le_of_lt HZ.out.2.2.2)))
      have s3:=mx_cell (j:=3) (HXS.out wr ((HBW.out).mono (Nat.le_of_lt HZ.out.2.2.2)))
      have z0:=mx_cell (j:=0) (HXR.out wr HBW.out)
      have z1:=mx_cell (j:=1) (HXR.out wr HBW.out)
      have z2:=mx_cell (j:=2) (HXR.out wr HBW.out)
      have z3:=mx_cell (j:=3) (HXR.out wr HBW.out)
      have z4:=mx_cell (j:=4) (HXR.out wr HBW.out)
      have z5:=mx_cell (j:=5) (HXR.out wr HBW.out)
      have z6:=mx_cell (j:=6) (HXR.out wr HBW.out)
      have f0:=oj_free (j:=0) (HXR.out wr HBW.out)
      have f1:=oj_free (j:=1) (HXR.out wr HBW.out)
      have f2:=oj_free (j:=2) (HXR.out wr HBW.out)
      have f3:=oj_free (j:=3) (HXR.out wr HBW.out)
      have f4:=oj_free (j:=4) (HXR.out wr HBW.out)
      have f5:=oj_free (j:=5) (HXR.out wr HBW.out)
      have f6:=oj_free (j:=6) (HXR.out wr HBW.out)
      rw[HD.out]at s0
      by_cases hlt:i<s.hints.length
      ·obtain⟨h,hh⟩:=atOf hlt
       have hE:=HDI.out
       rw[dropAt hh,ckDel]at hE
       obtain⟨A2,c2,hA2,_,_,hx⟩:=HHL.out
       simp only[Value.slice.injEq,true_and]at hA2
       obtain⟨rfl,rfl⟩:=hA2
       obtain⟨g,o,rfl,hg,hgB0,d00⟩:=hx i h hh
       have hgB:g<W2.heap.size:=by have:=HZ.out;omega
       have d3:=d00
       have d0:=(HBW.out.cell (p:=⟨g,o+i,none⟩) hg).trans d00
       have wi:IntKind.i64.wrap (i:Int)=(i:Int):=IntWalk.i64_in _ (by omega)
       have li:(i:Int)<(s.hints.length:Int):=by omega
       have HWO:=Lib.hid (ref_without10 (.slice Ai es.length ci) es h wr HEI.out (by have:=HEL.out;omega))
       rw[del_lt]at HWO
       obtain⟨no,hno⟩: ∃b,(getA es h).isNone=b:=⟨_,rfl⟩
       rw[hno]at HWO hE
       have HE2:=Lib.hid hE
       have HLT:=Lib.hid (show i<s.hints.length from hlt)
       clear hx hh hno hE hlt
       cases no with
       | true=>
        go_wp2_with fail
        refine HWO.out.mono ?_
        rintro e w5 ⟨⟨v5,K5,rfl,hre5,hm5⟩,hb5⟩
        obtain⟨A5,c5,rfl,_⟩:=mx_slice hre5.own
        have HB5:=Lib.hid (HBW.out.trans (hb5.mono HBW.out.size))
        have d5:=(HB5.out.cell (p:=⟨g,o+i,none⟩) hg).trans d00
        clear hb5
        clear y0 z0 f0 y1 z1 f1 y2 z2 f2 y3 z3 f3 y4 z4 f4 y5 z5 f5 y6 z6 f6 s0 s1 s2 s3
        have y0:=mx_cell (j:=0) (HXC.out w5 ((HB5.out).mono (Nat.le_of_lt HZ.out.2.2.2)))
        have y1:=mx_cell (j:=1) (HXC.out w5 ((HB5.out).mono (Nat.le_of_lt HZ.out.2.2.2)))
        have y2:=mx_cell (j:=2) (HXC.out w5 ((HB5.out).mono (Nat.le_of_lt HZ.out.2.2.2)))
        have y3:=mx_cell (j:=3) (HXC.out w5 ((HB5.out).mono (Nat.le_of_lt HZ.out.2.2.2)))
        have y4:=mx_cell (j:=4) (HXC.out w5 ((HB5.out).mono (Nat.le_of_lt HZ.out.2.2.2)))
        have y5:=mx_cell (j:=5) (HXC.out w5 ((HB5.out).mono (Nat.le_of_lt HZ.out.2.2.2)))
        have y6:=mx_cell (j:=6) (HXC.out w5 ((HB5.out).mono (Nat.le_of_lt HZ.out.2.2.2)))
        have s0:=mx_cell (j:=0) (HXS.out w5 ((HB5.out).mono (Nat.le_of_lt HZ.out.2.2.2)))
        have s1:=mx_cell (j:=1) (HXS.out w5 ((HB5.out).mono (Nat.le_of_lt HZ.out.2.2.2)))
        have s2:=mx_cell (j:=2) (HXS.out w5 ((HB5.out).mono (Nat.le_of_lt HZ.out.2.2.2)))
        have s3:=mx_cell (j:=3) (HXS.out w5 ((HB5.out).mono (Nat.le_of_lt HZ.out.2.2.2)))
        have z0:=mx_cell (j:=0) (HXR.out w5 HB5.out)
        have z1:=mx_cell (j:=1) (HXR.out w5 HB5.out)
        have z2:=mx_cell (j:=2) (HXR.out w5 HB5.out)
        have z3:=mx_cell (j:=3) (HXR.out w5 HB5.out)
        have z4:=mx_cell (j:=4) (HXR.out w5 HB5.out)
        have z5:=mx_cell (j:=5) (HXR.out w5 HB5.out)
        have z6:=mx_cell (j:=6) (HXR.out w5 HB5.out)
        have f0:=oj_free (j:=0) (HXR.out w5 HB5.out)
        have f1:=oj_free (j:=1) (HXR.out w5 HB5.out)
        have f2:=oj_free (j:=2) (HXR.out w5 HB5.out)
        have f3:=oj_free (j:=3) (HXR.out w5 HB5.out)
        have f4:=oj_free (j:=4) (HXR.out w5 HB5.out)
        have f5:=oj_free (j:=5) (HXR.out w5 HB5.out)
        have f6:=oj_free (j:=6) (HXR.out w5 HB5.out)
        go_upto_region 14 with fail
        refine wp_region_held_drew (S:=fun W=>Below W2.heap.size W3 W) (by kernel_rfl) ((HB5.out.trans ((mx_drew w5).mono HB5.out.size)).mono (Nat.le_of_lt HZ.out.2.2.2)) (fun hS=>?_)
        refine takeF 0 73 (fun wq hSw=>And.intro (mx_cell (j:=0) (HXC.out wq hSw)) (And.intro (mx_cell (j:=1) (HXC.out wq hSw)) (And.intro (mx_cell (j:=2) (HXC.out wq hSw)) (And.intro (mx_cell (j:=3) (HXC.out wq hSw)) (And.intro (mx_cell (j:=4) (HXC.out wq hSw)) (And.intro (mx_cell (j:=5) (HXC.out wq hSw)) (mx_cell (j:=6) (HXC.out wq hSw)))))))) ?_
        refine takeE 1 74 ?_
        refine takeF 2 75 (fun wq hSw=>mx_cell (j:=3) (HXS.out wq hSw)) ?_
        refine takeE 3 76 ?_
        refine takeE 4 77 ?_
        refine takeF 5 78 (fun wq hSw=>(hSw.cell (p:=⟨g,o+i,none⟩) hgB).trans d3) ?_
        refine ready1 6 (fun K hK=>?_)
        go_simp
        obtain⟨WF,hWF,hrF,hbF,hkF⟩:=set7_all (HXR.out w5 HB5.out) (.slice Ae k.ents.length ce) (.int .i64 k.last) (.bool k.proved) (.int .i64 k.adds) (.int .i64 k.dels) (.int .i64 k.rats) (.int .i64 k.largest)
        rw[hWF]
        have hSF:Below W2.heap.size W3 WF.drew:=((HB5.out.mono (Nat.le_of_lt HZ.out.2.2.2)).trans hbF).drew
        refine hK.out _ _ hSF (fun _=>?_)
        clear hK hWF hS
        refine takeE 7 5 ?_
        refine takeE 8 6 ?_
        refine takeE 9 7 ?_
        refine wpAnyH_done (by kernel_rfl) ?_ _
        have hbE:Below w.heap.size w WF.drew:=((HB3.out.trans ((HB5.out).mono HB3.out.size)).trans (hbF.mono (Nat.le_of_lt HZ.out.2.2.1))).drew
        go_wp2_with fail
        refine bodyPost_ret (res_ck4 rfl (w:=WF.drew) hrF _ rfl) rfl ?_
        exact HFIN.out WF.drew _ k k.proved 0 h 91 rfl (by obtain⟨out,ho⟩:=HOUT.out;exact⟨out,ho,by unfold rDo;rw[if_neg (by rw[HP.out];decide),if_neg (by rw[HSB.out];decide),if_neg (by rintro (h|⟨h,h2⟩) <;> have hj:=HJ.out <;> first|omega|(rw[HD.out]at h2;cases h2)),if_pos HD.out,HD0.out,←HE2.out];rfl⟩) (HENT.out _ hbE) hbE
       | false=>
        have HN:=Lib.hid (show ckDel (delA es h) (s.hints.drop (i+1))=D from by
         have:=HE2.out
         rwa [if_neg (by decide)]at this)
        go_wp2_with fail
        refine HWO.out.mono ?_
        rintro e w5 ⟨⟨v5,K5,rfl,hre5,hm5⟩,hb5⟩
        have he5:=hre5.ents
        rw[hm5]at he5
        obtain⟨A5,c5,rfl,_⟩:=mx_slice hre5.own
        have HB5:=Lib.hid (HBW.out.trans (hb5.mono HBW.out.size))
        have HE5:=Lib.hid (show EntIn (fun g=>(O g∧g<w.heap.size)∨W3.heap.size≤g) w5 (.slice A5 K5.length c5) (delA es h)from he5.mono fun g hg=>by
         have:=HBW.out.size
         rcases hg with hg|hg
         ·exact hg
         ·exact .inr (by omega))
        have HLE:=Lib.hid (show(delA es h).length≤100000 from Nat.le_trans (List.length_filter_le _ _) HEL.out)
        clear hb5 he5 hre5 hm5
        go_wp2_with fail
        go_roundw
        case rel=>exact⟨i+1,delA es h,by have:=HLT.out;omega,by go_num,HN,HLE,HE5,HB5⟩
        case measure=>have:=HLT.out;simp[intOf];omega
      ·have hE:=HDI.out
       rw[List.drop_of_length_le (by omega),ckDel]at hE
       have HE2:=Lib.hid hE
       obtain⟨_,_,hk3,hk4,_⟩:=HKB.out
       have wd:IntKind.i64.wrap (k.dels+1)=k.dels+1:=IntWalk.i64_in _ (by omega)
       have r0:=oj_free (j:=0) (HXC.out wr (HBW.out.mono (Nat.le_of_lt HZ.out.2.2.2)))
       have r1:=oj_free (j:=1) (HXC.out wr (HBW.out.mono (Nat.le_of_lt HZ.out.2.2.2)))
       have HXCw:=Lib.hid (HXC.out wr (HBW.out.mono (Nat.le_of_lt HZ.out.2.2.2)))
       have HXSw:=Lib.hid (HXS.out wr (HBW.out.mono (Nat.le_of_lt HZ.out.2.2.2)))
       have HXRw:=Lib.hid (HXR.out wr HBW.out)
       clear hE hk3 hk4
       go_upto_region 16 with fail
       refine wp_region_held_drew (S:=fun W=>W.heap[W1.heap.size]? =some (.cells #[.bool s.del,.int .i64 s.id,.slice Al s.lits.length cl,.slice Ah s.hints.length ch] 83 (0,0))) (by kernel_rfl) HXSw.out (fun hS=>?_)
       refine takeE 0 80 ?_
       refine takeE 1 81 ?_
       refine takeF 2 82 (fun wq hSw=>mx_cell (j:=1) hSw) ?_
       refine takeE 3 83 ?_
       refine ready1 4 (fun K hK=>?_)
       go_simp
       obtain⟨Wa,hWa⟩: ∃z,wr.setCell ⟨w.heap.size,0,none⟩ (.slice Ai es.length ci)=z:=⟨_,rfl⟩
       have hxa:Wa.heap[w.heap.size]? =some (.cells #[.slice Ai es.length ci,.int .i64 k.last,.bool k.proved,.int .i64 k.adds,.int .i64 (k.dels),.int .i64 k.rats,.int .i64 k.largest] 75 (0,0)):=by rw[←hWa];exact mx_set (j:=0) HXCw.out _
       have hka:Kept (fun g=>g=w.heap.size) wr Wa:=by rw[←hWa];exact(Kept.refl _ _).setCell ⟨w.heap.size,0,none⟩ _ rfl
       have hsa:Wa.heap[W1.heap.size]? =some (.cells #[.bool s.del,.int .i64 s.id,.slice Al s.lits.length cl,.slice Ah s.hints.length ch] 83 (0,0)):=(hka.block _ (heap_lt HXSw.out) (fun e=>by have:=HZ.out;omega)).trans HXSw.out
       have hra:Wa.heap[W2.heap.size]? =some (.cells #[.slice none 0 0,.int .i64 0,.bool false,.int .i64 0,.int .i64 0,.int .i64 0,.int .i64 0] 75 (0,0)):=(hka.block _ (heap_lt HXRw.out) (fun e=>by have:=HZ.out;omega)).trans HXRw.out
       rw[hWa]
       refine hK.out _ _ (by exact hsa) (fun _=>?_)
       clear hK y0 y1 y2 y3 y4 y5 y6 r0 r1 hWa
       have t1:=mx_cell (j:=1) hxa
       have g1:=oj_free (j:=1) hxa
       have hsad:Wa.drew.heap[W1.heap.size]? =some (.cells #[.bool s.del,.int .i64 s.id,.slice Al s.lits.length cl,.slice Ah s.hints.length ch] 83 (0,0)):=hsa
       refine takeE 5 84 ?_
       refine ready1 6 (fun K hK=>?_)
       go_simp
       obtain⟨Wb,hWb⟩: ∃z,Wa.setCell ⟨w.heap.size,1,none⟩ (.int .i64 s.id)=z:=⟨_,rfl⟩
       have hxb:Wb.heap[w.heap.size]? =some (.cells #[.slice Ai es.length ci,.int .i64 s.id,.bool k.proved,.int .i64 k.adds,.int .i64 (k.dels),.int .i64 k.rats,.int .i64 k.largest] 75 (0,0)):=by rw[←hWb];exact mx_set (j:=1) hxa _
       have hkb:Kept (fun g=>g=w.heap.size) Wa Wb:=by rw[←hWb];exact(Kept.refl _ _).setCell ⟨w.heap.size,1,none⟩ _ rfl
       have hsb:Wb.heap[W1.heap.size]? =some (.cells #[.bool s.del,.int .i64 s.id,.slice Al s.lits.length cl,.slice Ah s.hints.length ch] 83 (0,0)):=(hkb.block _ (heap_lt hsa) (fun e=>by have:=HZ.out;omega)).trans hsa
       have hrb:Wb.heap[W2.heap.size]? =some (.cells #[.slice none 0 0,.int .i64 0,.bool false,.int .i64 0,.int .i64 0,.int .i64 0,.int .i64 0] 75 (0,0)):=(hkb.block _ (heap_lt hra) (fun e=>by have:=HZ.out;omega)).trans hra
       rw[hWb]
       refine hK.out _ _ (by exact hsb) (fun _=>?_)
       clear hK t1 g1 hWb
       refine wpAnyH_done (by kernel_rfl) ?_ _
       have t4:=mx_cell (j:=4) hxb
       have g4:=oj_free (j:=4) hxb
       go_upto_region 18 with fail
       obtain⟨Wc,hWc⟩: ∃z,Wb.setCell ⟨w.heap.size,4,none⟩ (.int .i64 (k.dels+1))=z:=⟨_,rfl⟩
       have hxc:Wc.heap[w.heap.size]? =some (.cells #[.slice Ai es.length ci,.int .i64 s.id,.bool k.proved,.int .i64 k.adds,.int .i64 (k.dels+1),.int .i64 k.rats,.int .i64 k.largest] 75 (0,0)):=by rw[←hWc];exact mx_set (j:=4) hxb _
       have hkc:Kept (fun g=>g=w.heap.size) Wb Wc:=by rw[←hWc];exact(Kept.refl _ _).setCell ⟨w.heap.size,4,none⟩ _ rfl
       have hsc:Wc.heap[W1.heap.size]? =some (.cells #[.bool s.del,.int .i64 s.id,.slice Al s.lits.length cl,.slice Ah s.hints.length ch] 83 (0,0)):=(hkc.block _ (heap_lt hsb) (fun e=>by have:=HZ.out;omega)).trans hsb
       have hrc:Wc.heap[W2.heap.size]? =some (.cells #[.slice none 0 0,.int .i64 0,.bool false,.int .i64 0,.int .i64 0,.int .i64 0,.int .i64 0] 75 (0,0)):=(hkc.block _ (heap_lt hrb) (fun e=>by have:=HZ.out;omega)).trans hrb
       rw[hWc]
       clear t4 g4 hWc z0 z1 z2 z3 z4 z5 z6 f0 f1 f2 f3 f4 f5 f6 s0 s1 s2 s3
       have y0:=mx_cell (j:=0) hxc
       have y1:=mx_cell (j:=1) hxc
       have y2:=mx_cell (j:=2) hxc
       have y3:=mx_cell (j:=3) hxc
       have y4:=mx_cell (j:=4) hxc
       have y5:=mx_cell (j:=5) hxc
       have y6:=mx_cell (j:=6) hxc
       have z0:=mx_cell (j:=0) hrc
       have z1:=mx_cell (j:=1) hrc
       have z2:=mx_cell (j:=2) hrc
       have z3:=mx_cell (j:=3) hrc
       have z4:=mx_cell (j:=4) hrc
       have z5:=mx_cell (j:=5) hrc
       have z6:=mx_cell (j:=6) hrc
       have f0:=oj_free (j:=0) hrc
       have f1:=oj_free (j:=1) hrc
       have f2:=oj_free (j:=2) hrc
       have f3:=oj_free (j:=3) hrc
       have f4:=oj_free (j:=4) hrc
       have f5:=oj_free (j:=5) hrc
       have f6:=oj_free (j:=6) hrc
       have hkc3:=(hka.trans hkb (fun _ _ h=>h)).trans hkc (fun _ _ h=>h)
       have HXC3:=Lib.hid hxc
       have HRC3:=Lib.hid hrc
       have HKC3:=Lib.hid hkc3
       clear hxa hxb hxc hsa hsb hsc hra hrb hrc hka hkb hkc hkc3 hsad hS
       go_wp2_with fail
       obtain⟨WF,hWF,hrF,hbF,hkF⟩:=set7_all HRC3.out (.slice Ai es.length ci) (.int .i64 s.id) (.bool k.proved) (.int .i64 k.adds) (.int .i64 (k.dels+1)) (.int .i64 k.rats) (.int .i64 k.largest)
       rw[hWF]
       refine bodyPost_ret (res_ck4 rfl (w:=WF.drew) hrF _ rfl) rfl ?_
       have hkw:Kept (fun g=>g=w.heap.size∨g=W2.heap.size) wr WF:=(HKC3.out.mono (fun g _ e=>.inl e)).trans (hkF.mono (fun g _ e=>.inr e)) (fun _ _ h=>h)
       have hbE:Below w.heap.size w WF.drew:=((HB3.out.trans (HBW.out.mono HB3.out.size)).trans (hkw.below (fun g e=>by have:=HZ.out;omega) (by have:=HZ.out;have:=HBW.out.size;omega))).drew
       have heF:EntIn (fun g=>O g∨w.heap.size≤g) WF.drew (.slice Ai es.length ci) es:=((HEI.out.kept hkw (fun g hg e=>by have:=HZ.out;omega)).below ((Below.refl _ _).drew)).mono fun g hg=>hg.elim (fun h=>.inl h.1) (fun h=>.inr (by have:=HZ.out;omega))
       exact HFIN.out WF.drew _ { k with ents:=es,last:=s.id,dels:=k.dels+1 } k.proved 0 0 0 rfl (by
        obtain⟨out,ho⟩:=HOUT.out
        refine⟨out,ho,?_⟩
        unfold rDo
        rw[if_neg (by rw[HP.out];decide),if_neg (by rw[HSB.out];decide),if_neg (by rintro (h|⟨h,h2⟩) <;> have hj:=HJ.out <;> first|omega|(rw[HD.out]at h2;cases h2)),if_pos HD.out,HD0.out,←HE2.out]
        rfl) heF hbE
   | false=>
    rw[hd]at s0
    by_cases j1:s.id≤k.last
    ·have q1:decide (s.id≤k.last)=true:=decide_eq_true j1
     have HJ:=Lib.hid j1
     have HD:=Lib.hid hd
     clear j1 hd
     go_upto_region 6 with fail
     refine wp_region_held_drew (S:=fun W=>Below W2.heap.size W3 W) (by kernel_rfl) ((HB1.out.trans ((mx_drew w1).mono HB1.out.size)).mono (Nat.le_of_lt HZ.out.2.2.2)) (fun hS=>?_)
     refine takeF 0 47 (fun wq hSw=>And.intro (mx_cell (j:=0) (HXC.out wq hSw)) (And.intro (mx_cell (j:=1) (HXC.out wq hSw)) (And.intro (mx_cell (j:=2) (HXC.out wq hSw)) (And.intro (mx_cell (j:=3) (HXC.out wq hSw)) (And.intro (mx_cell (j:=4) (HXC.out wq hSw)) (And.intro (mx_cell (j:=5) (HXC.out wq hSw)) (mx_cell (j:=6) (HXC.out wq hSw)))))))) ?_
     refine takeE 1 48 ?_
     refine takeF 2 49 (fun wq hSw=>mx_cell (j:=1) (HXS.out wq hSw)) ?_
     refine ready1 3 (fun K hK=>?_)
     go_simp
     obtain⟨WF,hWF,hrF,hbF,hkF⟩:=set7_all (HXR.out w1 HB1.out) (.slice Ae k.ents.length ce) (.int .i64 k.last) (.bool k.proved) (.int .i64 k.adds) (.int .i64 k.dels) (.int .i64 k.rats) (.int .i64 k.largest)
     rw[hWF]
     have hSF:Below W2.heap.size W3 WF.drew:=((HB1.out.mono (Nat.le_of_lt HZ.out.2.2.2)).trans hbF).drew
     refine hK.out _ _ hSF (fun _=>?_)
     clear hK hWF hS
     refine takeE 4 5 ?_
     refine takeE 5 6 ?_
     refine takeE 6 7 ?_
     refine wpAnyH_done (by kernel_rfl) ?_ _
     have hbE:Below w.heap.size w WF.drew:=((HB3.out.trans ((HB1.out).mono HB3.out.size)).trans (hbF.mono (Nat.le_of_lt HZ.out.2.2.1))).drew
     go_wp2_with fail
     refine bodyPost_ret (res_ck4 rfl (w:=WF.drew) hrF _ rfl) rfl ?_
     exact HFIN.out WF.drew _ k k.proved 0 s.id 100 rfl (by obtain⟨out,ho⟩:=HOUT.out;exact⟨out,ho,by unfold rDo;rw[if_neg (by rw[HP.out];decide),if_neg (by rw[HSB.out];decide),if_pos (by rcases Int.lt_or_eq_of_le HJ.out with h|h;exact .inl h;exact .inr ⟨h,HD.out⟩)]⟩) (HENT.out _ hbE) hbE
    ·have q1:decide (s.id≤k.last)=false:=decide_eq_false j1
     have HJ:=Lib.hid j1
     have HD:=Lib.hid hd
     obtain⟨hcb,hso⟩:=stepB_addR HSB.out hd
     have HCB:=Lib.hid hcb
     have HGL:=Lib.hid (splitGo_grp s.hints [] [] 0 (fun g hg=>by cases hg))
     have HSL:=Lib.hid (splitL_len s.hints)
     have HSP:=Lib.hid (ref_split09 (.slice Ah s.hints.length ch) s.hints w1 (HHI.out.below HB1.out) hhl hso)
     clear hd j1 hcb hso
     go_wp2_with fail
     refine HSP.out.mono ?_
     rintro e w2 ⟨⟨ov,gv,rfl,hov,hgv⟩,hb2⟩
     have HB2:=Lib.hid (HB1.out.trans (hb2.mono HB1.out.size))
     have HOV:=Lib.hid (hov.mono (O':=fun _=>True) fun _ _=>trivial)
     have HGV:=Lib.hid hgv
     obtain⟨Ao,co,rfl,_⟩:=hov
     obtain⟨Ag,cg,rfl,_⟩:=hgv
     clear hb2
     clear y0 z0 f0 y1 z1 f1 y2 z2 f2 y3 z3 f3 y4 z4 f4 y5 z5 f5 y6 z6 f6 s0 s1 s2 s3
     have y0:=mx_cell (j:=0) (HXC.out w2 ((HB2.out).mono (Nat.le_of_lt HZ.out.2.2.2)))
     have y1:=mx_cell (j:=1) (HXC.out w2 ((HB2.out).mono (Nat.le_of_lt HZ.out.2.2.2)))
     have y2:=mx_cell (j:=2) (HXC.out w2 ((HB2.out).mono (Nat.le_of_lt HZ.out.2.2.2)))
     have y3:=mx_cell (j:=3) (HXC.out w2 ((HB2.out).mono (Nat.le_of_lt HZ.out.2.2.2)))
     have y4:=mx_cell (j:=4) (HXC.out w2 ((HB2.out).mono (Nat.le_of_lt HZ.out.2.2.2)))
     have y5:=mx_cell (j:=5) (HXC.out w2 ((HB2.out).mono (Nat.le_of_lt HZ.out.2.2.2)))
     have y6:=mx_cell (j:=6) (HXC.out w2 ((HB2.out).mono (Nat.le_of_lt HZ.out.2.2.2)))
     have s0:=mx_cell (j:=0) (HXS.out w2 ((HB2.out).mono (Nat.le_of_lt HZ.out.2.2.2)))
     have s1:=mx_cell (j:=1) (HXS.out w2 ((HB2.out).mono (Nat.le_of_lt HZ.out.2.2.2)))
     have s2:=mx_cell (j:=2) (HXS.out w2 ((HB2.out).mono (Nat.le_of_lt HZ.out.2.2.2)))
     have s3:=mx_cell (j:=3) (HXS.out w2 ((HB2.out).mono (Nat.le_of_lt HZ.out.2.2.2)))
     have z0:=mx_cell (j:=0) (HXR.out w2 HB2.out)
     have z1:=mx_cell (j:=1) (HXR.out w2 HB2.out)
     have z2:=mx_cell (j:=2) (HXR.out w2 HB2.out)
     have z3:=mx_cell (j:=3) (HXR.out w2 HB2.out)
     have z4:=mx_cell (j:=4) (HXR.out w2 HB2.out)
     have z5:=mx_cell (j:=5) (HXR.out w2 HB2.out)
     have z6:=mx_cell (j:=6) (HXR.out w2 HB2.out)
     have f0:=oj_free (j:=0) (HXR.out w2 HB2.out)
     have f1:=oj_free (j:=1) (HXR.out w2 HB2.out)
     have f2:=oj_free (j:=2) (HXR.out w2 HB2.out)
     have f3:=oj_free (j:=3) (HXR.out w2 HB2.out)
     have f4:=oj_free (j:=4) (HXR.out w2 HB2.out)
     have f5:=oj_free (j:=5) (HXR.out w2 HB2.out)
     have f6:=oj_free (j:=6) (HXR.out w2 HB2.out)
     have HCK:=Lib.hid (ref_check09 (O:=O) (O':=fun _=>True) (.slice Ae k.ents.length ce) (.slice Al s.lits.length cl) (.slice Ao (splitL s.hints).1.length co) (.slice Ag (splitL s.hints).2.length cg) k.ents s.lits (splitL s.hints).1 (splitL s.hints).2 w2 (HE.out.below HB2.out) ((HLI.out.below HB2.out).mono fun _ _=>trivial) HOV.out HGV.out (by omega) HEC.out HCB.out (by have:=HSL.out;omega) (by have:=HGL.out.1;simp only[List.length_nil,Nat.zero_add]at this;exact Nat.le_trans this (by omega)) (fun g hg=>Nat.le_trans (HGL.out.2 g hg) (by omega)))
     go_wp2_with fail
     refine HCK.out.mono ?_
     rintro e w4 ⟨⟨out,ho,rfl⟩,hb4⟩
     have HO:=Lib.hid ho
     have HB4:=Lib.hid (HB2.out.trans (hb4.mono HB2.out.size))
     obtain⟨⟨ck,cid,cer⟩,hR⟩: ∃R,rChk k.ents out s.lits (splitL s.hints).1 (splitL s.hints).2=R:=⟨_,rfl⟩
     rw[hR]
     have HRK:=Lib.hid hR
     clear ho hb4 hR
     clear y0 z0 f0 y1 z1 f1 y2 z2 f2 y3 z3 f3 y4 z4 f4 y5 z5 f5 y6 z6 f6 s0 s1 s2 s3
     have y0:=mx_cell (j:=0) (HXC.out w4 ((HB4.out).mono (Nat.le_of_lt HZ.out.2.2.2)))
     have y1:=mx_cell (j:=1) (HXC.out w4 ((HB4.out).mono (Nat.le_of_lt HZ.out.2.2.2)))
     have y2:=mx_cell (j:=2) (HXC.out w4 ((HB4.out).mono (Nat.le_of_lt HZ.out.2.2.2)))
     have y3:=mx_cell (j:=3) (HXC.out w4 ((HB4.out).mono (Nat.le_of_lt HZ.out.2.2.2)))
     have y4:=mx_cell (j:=4) (HXC.out w4 ((HB4.out).mono (Nat.le_of_lt HZ.out.2.2.2)))
     have y5:=mx_cell (j:=5) (HXC.out w4 ((HB4.out).mono (Nat.le_of_lt HZ.out.2.2.2)))
     have y6:=mx_cell (j:=6) (HXC.out w4 ((HB4.out).mono (Nat.le_of_lt HZ.out.2.2.2)))
     have s0:=mx_cell (j:=0) (HXS.out w4 ((HB4.out).mono (Nat.le_of_lt HZ.out.2.2.2)))
     have s1:=mx_cell (j:=1) (HXS.out w4 ((HB4.out).mono (Nat.le_of_lt HZ.out.2.2.2)))
     have s2:=mx_cell (j:=2) (HXS.out w4 ((HB4.out).mono (Nat.le_of_lt HZ.out.2.2.2)))
     have s3:=mx_cell (j:=3) (HXS.out w4 ((HB4.out).mono (Nat.le_of_lt HZ.out.2.2.2)))
     have z0:=mx_cell (j:=0) (HXR.out w4 HB4.out)
     have z1:=mx_cell (j:=1) (HXR.out w4 HB4.out)
     have z2:=mx_cell (j:=2) (HXR.out w4 HB4.out)
     have z3:=mx_cell (j:=3) (HXR.out w4 HB4.out)
     have z4:=mx_cell (j:=4) (HXR.out w4 HB4.out)
     have z5:=mx_cell (j:=5) (HXR.out w4 HB4.out)
     have z6:=mx_cell (j:=6) (HXR.out w4 HB4.out)
     have f0:=oj_free (j:=0) (HXR.out w4 HB4.out)
     have f1:=oj_free (j:=1) (HXR.out w4 HB4.out)
     have f2:=oj_free (j:=2) (HXR.out w4 HB4.out)
     have f3:=oj_free (j:=3) (HXR.out w4 HB4.out)
     have f4:=oj_free (j:=4) (HXR.out w4 HB4.out)
     have f5:=oj_free (j:=5) (HXR.out w4 HB4.out)
     have f6:=oj_free (j:=6) (HXR.out w4 HB4.out)
     by_cases e0:cer=0
     ·have q2:((cer:Int) != 0)=false:=by rw[e0];rfl
      subst e0
      have HPU:=Lib.hid (show∀W,Below w4.heap.size w4 W→_ from fun W hW=>ref_put10 (O:=fun g=>(O g∧g<w.heap.size)∨W3.heap.size≤g) (.slice Ae k.ents.length ce) k.ents k.proved k.last k.adds k.dels k.rats k.largest s.id (.slice Al s.lits.length cl) s.lits W (HELO.out W (HB4.out.trans (hW.mono HB4.out.size))) ((HLL.out.below (HB4.out.trans (hW.mono HB4.out.size))).mono fun _ hg=>.inl hg) (by omega) (by omega))
      unfold ckV at HPU
      have hB0:w.heap.size<w4.heap.size:=by have:=HZ.out;have:=HB4.out.size;omega
      have hB1':W1.heap.size<w4.heap.size:=by have:=HZ.out;have:=HB4.out.size;omega
      go_wp2_with fail
      refine(HPU.out w4 (Below.refl _ _)).mono ?_
      rintro e W5 ⟨⟨v6,K6,rfl,hre6,hm6⟩,hSN⟩
      have hS:=Below.refl w4.heap.size w4
      have HB5:=Lib.hid (HB4.out.trans (hSN.mono HB4.out.size))
      have HE6:=Lib.hid (show EntIn (fun g=>(O g∧g<w.heap.size)∨W3.heap.size≤g) W5 v6 (k.ents++ [(s.id,s.lits)])from by
       have:=hre6.ents
       rw[hm6]at this
       refine this.mono fun g hg=>?_
       rcases hg with hg|hg
       ·exact hg
       ·have:=hS.size
        have:=HB4.out.size
        exact .inr (by omega))
      obtain⟨A6,k6,rfl,_⟩:=mx_slice hre6.own
      have HXC5:=Lib.hid (HXC.out W5 (HB5.out.mono (Nat.le_of_lt HZ.out.2.2.2)))
      have HXR5:=Lib.hid (HXR.out W5 HB5.out)
      clear hre6 hm6 hS hSN
      clear y0 y1 y2 y3 y4 y5 y6
      have y0:=mx_cell (j:=0) HXC5.out
      have y1:=mx_cell (j:=1) HXC5.out
      have y2:=mx_cell (j:=2) HXC5.out
      have y3:=mx_cell (j:=3) HXC5.out
      have y4:=mx_cell (j:=4) HXC5.out
      have y5:=mx_cell (j:=5) HXC5.out
      have y6:=mx_cell (j:=6) HXC5.out
      have r0:=oj_free (j:=0) HXC5.out
      have r1:=oj_free (j:=1) HXC5.out
      have r2:=oj_free (j:=2) HXC5.out
      have r3:=oj_free (j:=3) HXC5.out
      have r4:=oj_free (j:=4) HXC5.out
      have r5:=oj_free (j:=5) HXC5.out
      have r6:=oj_free (j:=6) HXC5.out
      go_upto_region 24 with fail
      obtain⟨W6,hW6,hx6,hb6,hk6⟩:=set7_all HXC5.out (.slice A6 K6.length k6) (.int .i64 s.id) (.bool (k.proved||s.lits.isEmpty)) (.int .i64 k.adds) (.int .i64 k.dels) (.int .i64 k.rats) (.int .i64 (max k.largest ((k.ents.length:Int)+1)))
      rw[hW6]
      have hr6:W6.heap[W2.heap.size]? =some (.cells #[.slice none 0 0,.int .i64 0,.bool false,.int .i64 0,.int .i64 0,.int .i64 0,.int .i64 0] 75 (0,0)):=(hk6.block _ (heap_lt HXR5.out) (fun e=>by have:=HZ.out;omega)).trans HXR5.out
      clear y0 z0 f0 y1 z1 f1 y2 z2 f2 y3 z3 f3 y4 z4 f4 y5 z5 f5 y6 z6 f6 s0 s1 s2 s3
      clear r0 r1 r2 r3 r4 r5 r6 hW6 hB0 hB1'
      obtain⟨hk1,hk2,_,_,hk5,hk6'⟩:=HKB.out
      have wa:IntKind.i64.wrap (k.adds+1)=k.adds+1:=IntWalk.i64_in _ (by omega)
      have wr:IntKind.i64.wrap (k.rats+1)=k.rats+1:=IntWalk.i64_in _ (by omega)
      clear hk1 hk2 hk5 hk6'
      have t3:=mx_cell (j:=3) hx6
      have g3:=oj_free (j:=3) hx6
      go_upto_region 25 with fail
      obtain⟨W7,hW7⟩: ∃z,W6.setCell ⟨w.heap.size,3,none⟩ (.int .i64 (k.adds+1))=z:=⟨_,rfl⟩
      have hx7:W7.heap[w.heap.size]? =some (.cells #[.slice A6 K6.length k6,.int .i64 s.id,.bool (k.proved||s.lits.isEmpty),.int .i64 (k.adds+1),.int .i64 k.dels,.int .i64 (k.rats),.int .i64 (max k.largest ((k.ents.length:Int)+1))] 75 (0,0)):=by rw[←hW7];exact mx_set (j:=3) hx6 _
      have hk7:Kept (fun g=>g=w.heap.size) W6 W7:=by rw[←hW7];exact(Kept.refl _ _).setCell ⟨w.heap.size,3,none⟩ _ rfl
      have hr7:W7.heap[W2.heap.size]? =some (.cells #[.slice none 0 0,.int .i64 0,.bool false,.int .i64 0,.int .i64 0,.int .i64 0,.int .i64 0] 75 (0,0)):=(hk7.block _ (heap_lt hr6) (fun e=>by have:=HZ.out;omega)).trans hr6
      rw[hW7]
      clear t3 g3 hW7
      by_cases e2:ck=2
      ·have q3:((ck:Int)==2)=true:=by rw[e2];rfl
       have HE2:=Lib.hid e2
       clear e2
       have t5:=mx_cell (j:=5) hx7
       have g5:=oj_free (j:=5) hx7
       go_upto_region 27 with fail
       obtain⟨W8,hW8⟩: ∃z,W7.setCell ⟨w.heap.size,5,none⟩ (.int .i64 (k.rats+1))=z:=⟨_,rfl⟩
       have hx8:W8.heap[w.heap.size]? =some (.cells #[.slice A6 K6.length k6,.int .i64 s.id,.bool (k.proved||s.lits.isEmpty),.int .i64 (k.adds+1),.int .i64 k.dels,.int .i64 (k.rats+1),.int .i64 (max k.largest ((k.ents.length:Int)+1))] 75 (0,0)):=by rw[←hW8];exact mx_set (j:=5) hx7 _
       have hk8:Kept (fun g=>g=w.heap.size) W7 W8:=by rw[←hW8];exact(Kept.refl _ _).setCell ⟨w.heap.size,5,none⟩ _ rfl
       have hr8:W8.heap[W2.heap.size]? =some (.cells #[.slice none 0 0,.int .i64 0,.bool false,.int .i64 0,.int .i64 0,.int .i64 0,.int .i64 0] 75 (0,0)):=(hk8.block _ (heap_lt hr7) (fun e=>by have:=HZ.out;omega)).trans hr7
       rw[hW8]
       clear t5 g5 hW8
       have y0:=mx_cell (j:=0) hx8
       have y1:=mx_cell (j:=1) hx8
       have y2:=mx_cell (j:=2) hx8
       have y3:=mx_cell (j:=3) hx8
       have y4:=mx_cell (j:=4) hx8
       have y5:=mx_cell (j:=5) hx8
       have y6:=mx_cell (j:=6) hx8
       have z0:=mx_cell (j:=0) hr8
       have z1:=mx_cell (j:=1) hr8
       have z2:=mx_cell (j:=2) hr8
       have z3:=mx_cell (j:=3) hr8
       have z4:=mx_cell (j:=4) hr8
       have z5:=mx_cell (j:=5) hr8
       have z6:=mx_cell (j:=6) hr8
       have f0:=oj_free (j:=0) hr8
       have f1:=oj_free (j:=1) hr8
       have f2:=oj_free (j:=2) hr8
       have f3:=oj_free (j:=3) hr8
       have f4:=oj_free (j:=4) hr8
       have f5:=oj_free (j:=5) hr8
       have f6:=oj_free (j:=6) hr8
       have HRX:=Lib.hid hr8
       go_wp2_with fail
       obtain⟨WF,hWF,hrF,hbF,hkF⟩:=set7_all HRX.out (.slice A6 K6.length k6) (.int .i64 s.id) (.bool (k.proved||s.lits.isEmpty)) (.int .i64 (k.adds+1)) (.int .i64 k.dels) (.int .i64 (k.rats+1)) (.int .i64 (max k.largest ((k.ents.length:Int)+1)))
       rw[hWF]
       refine bodyPost_ret (res_ck4 rfl hrF _ rfl) rfl ?_
       have hkw:Kept (fun g=>g=w.heap.size∨g=W2.heap.size) W5 WF:=(((hk6.trans hk7 (fun _ _ h=>h)).trans hk8 (fun _ _ h=>h)).mono (fun g _ e=>.inl e)).trans (hkF.mono (fun g _ e=>.inr e)) (fun _ _ h=>h)
       have hbE:Below w.heap.size w WF:=(HB3.out.trans (HB5.out.mono HB3.out.size)).trans (hkw.below (fun g e=>by have:=HZ.out;omega) (by have:=HZ.out;have:=HB5.out.size;omega))
       have heF:EntIn (fun g=>O g∨w.heap.size≤g) WF (.slice A6 K6.length k6) (k.ents++ [(s.id,s.lits)]):=(HE6.out.kept hkw (fun g hg e=>by have:=HZ.out;omega)).mono fun g hg=>hg.elim (fun h=>.inl h.1) (fun h=>.inr (by have:=HZ.out;omega))
       exact HFIN.out WF _ { (k.putR s.id s.lits)with adds:=k.adds+1,rats:=k.rats+1 } (k.proved||s.lits.isEmpty) ck 0 0 rfl ⟨out,HO.out,by
        unfold rDo
        rw[if_neg (by rw[HP.out];decide),if_neg (by rw[HSB.out];decide),if_neg (by rintro (h|⟨h,h2⟩) <;> have hj:=HJ.out <;> omega),if_neg (by rw[HD.out];decide),HRK.out,if_neg (by intro h;exact h rfl)]
        simp only[if_pos HE2.out]⟩ heF hbE
      ·have q3:((ck:Int)==2)=false:=beq_eq_false_iff_ne.2 (by omega)
       have HE2:=Lib.hid e2
       clear e2
       go_upto_region 27 with fail
       have y0:=mx_cell (j:=0) hx7
       have y1:=mx_cell (j:=1) hx7
       have y2:=mx_cell (j:=2) hx7
       have y3:=mx_cell (j:=3) hx7
       have y4:=mx_cell (j:=4) hx7
       have y5:=mx_cell (j:=5) hx7
       have y6:=mx_cell (j:=6) hx7
       have z0:=mx_cell (j:=0) hr7
       have z1:=mx_cell (j:=1) hr7
       have z2:=mx_cell (j:=2) hr7
       have z3:=mx_cell (j:=3) hr7
       have z4:=mx_cell (j:=4) hr7
       have z5:=mx_cell (j:=5) hr7
       have z6:=mx_cell (j:=6) hr7
       have f0:=oj_free (j:=0) hr7
       have f1:=oj_free (j:=1) hr7
       have f2:=oj_free (j:=2) hr7
       have f3:=oj_free (j:=3) hr7
       have f4:=oj_free (j:=4) hr7
       have f5:=oj_free (j:=5) hr7
       have f6:=oj_free (j:=6) hr7
       have HRX:=Lib.hid hr7
       go_wp2_with fail
       obtain⟨WF,hWF,hrF,hbF,hkF⟩:=set7_all HRX.out (.slice A6 K6.length k6) (.int .i64 s.id) (.bool (k.proved||s.lits.isEmpty)) (.int .i64 (k.adds+1)) (.int .i64 k.dels) (.int .i64 (k.rats)) (.int .i64 (max k.largest ((k.ents.length:Int)+1)))
       rw[hWF]
       refine bodyPost_ret (res_ck4 rfl hrF _ rfl) rfl ?_
       have hkw:Kept (fun g=>g=w.heap.size∨g=W2.heap.size) W5 WF:=((hk6.trans hk7 (fun _ _ h=>h)).mono (fun g _ e=>.inl e)).trans (hkF.mono (fun g _ e=>.inr e)) (fun _ _ h=>h)
       have hbE:Below w.heap.size w WF:=(HB3.out.trans (HB5.out.mono HB3.out.size)).trans (hkw.below (fun g e=>by have:=HZ.out;omega) (by have:=HZ.out;have:=HB5.out.size;omega))
       have heF:EntIn (fun g=>O g∨w.heap.size≤g) WF (.slice A6 K6.length k6) (k.ents++ [(s.id,s.lits)]):=(HE6.out.kept hkw (fun g hg e=>by have:=HZ.out;omega)).mono fun g hg=>hg.elim (fun h=>.inl h.1) (fun h=>.inr (by have:=HZ.out;omega))
       exact HFIN.out WF _ { (k.putR s.id s.lits)with adds:=k.adds+1,rats:=k.rats } (k.proved||s.lits.isEmpty) ck 0 0 rfl ⟨out,HO.out,by
        unfold rDo
        rw[if_neg (by rw[HP.out];decide),if_neg (by rw[HSB.out];decide),if_neg (by rintro (h|⟨h,h2⟩) <;> have hj:=HJ.out <;> omega),if_neg (by rw[HD.out];decide),HRK.out,if_neg (by intro h;exact h rfl)]
        simp only[if_neg HE2.out]⟩ heF hbE
     ·have q2:((cer:Int) != 0)=true:=bne_iff_ne.2 (by omega)
      have HE0:=Lib.hid e0
      clear e0
      go_wp2_with fail
      obtain⟨WF,hWF,hrF,hbF,hkF⟩:=set7_all (HXR.out w4 HB4.out) (.slice Ae k.ents.length ce) (.int .i64 k.last) (.bool k.proved) (.int .i64 k.adds) (.int .i64 k.dels) (.int .i64 k.rats) (.int .i64 k.largest)
      rw[hWF]
      refine bodyPost_ret (res_ck4 rfl hrF _ rfl) rfl ?_
      have hbE:Below w.heap.size w WF:=(HB3.out.trans ((HB4.out).mono HB3.out.size)).trans (hbF.mono (Nat.le_of_lt HZ.out.2.2.1))
      exact HFIN.out WF _ k k.proved 0 cid cer rfl ⟨out,HO.out,by
       unfold rDo
       rw[if_neg (by rw[HP.out];decide),if_neg (by rw[HSB.out];decide),if_neg (by rintro (h|⟨h,h2⟩) <;> have hj:=HJ.out <;> omega),if_neg (by rw[HD.out];decide),HRK.out,if_pos HE0.out]⟩ (HENT.out WF hbE) hbE
end Go.Proofs.YtajbmjpodeilpaaGreatDoor
