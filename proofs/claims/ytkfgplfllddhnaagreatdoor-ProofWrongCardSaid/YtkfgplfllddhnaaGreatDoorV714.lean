/- The table of integers. package proof: New, at a formula that is right. package proof: remove. package rat: entries in memory; Right. -/
import Derived.Test.YtkfgplfllddhnaaGreatDoorV713
import Derived.Test.YtkfgplfllddhnaaGreatDoorShelh
namespace Go.Proofs.YtkfgplfllddhnaaGreatDoor
open Go.RowKit
theorem jinfo_int:(Tryz.prog.info? 3).map (fun i=>(i.zero,i.size,i.bytes))=some (some (.int .i64 0),1,8):=by kernel_rfl
end Go.Proofs.YtkfgplfllddhnaaGreatDoor
namespace Go.Proofs.YtkfgplfllddhnaaGreatDoor
open Go.RowKit Go.Maps
theorem CkAt.lower {base base':Nat} {w:World} {b:Nat} {k:Ckr} (h:CkAt base w b k) (hl:base'≤base):CkAt base' w b k:=by
 obtain⟨mb,K,h⟩:=h
 exact⟨mb,K,{ h with
  bb:=Nat.le_trans hl h.bb
  bm:=Nat.le_trans hl h.bm
  row:=fun p hp=>own_mono (h.row p hp) hl }⟩
theorem putAll_snoc (c:List Int): ∀(cs:List (List Int)) (k:Ckr) (i:Nat),k.putAll i (cs++ [c])=(k.putAll i cs).put (((i+cs.length:Nat):Int)+1) c
 | [],k,i=>rfl
 | d::r,k,i=>by
  show(k.put ((i:Int)+1) d).putAll (i+1) (r++ [c])=((k.put ((i:Int)+1) d).putAll (i+1) r).put _ c
  rw[putAll_snoc c r _ (i+1),List.length_cons,show i+1+r.length=i+(r.length+1) by omega]
theorem putAll_len: ∀(cs:List (List Int)) (k:Ckr) (i:Nat),(k.putAll i cs).ents.length≤k.ents.length+cs.length
 | [],k,i=>Nat.le_refl _
 | d::r,k,i=>by
  have h1:=putAll_len r (k.put ((i:Int)+1) d) (i+1)
  have h2:(k.put ((i:Int)+1) d).ents.length≤k.ents.length+1:=putA_length_le k.ents _ _
  show((k.put ((i:Int)+1) d).putAll (i+1) r).ents.length≤_
  rw[List.length_cons]
  omega
set_option maxRecDepth 100000 in
set_option maxHeartbeats 4000000 in
theorem ck_new {O:Nat→Prop} (n:Int) (lv:Value) (cs:List (List Int)) (w:World) (h:ClsIn O w lv cs) (hc: ∀c∈cs,clauseB c=true) (hn:cs.length≤1000) (hf:fchk n cs=(-1,0)):
  Calls Tryz.prog 7 #[.agg #[.int .i64 n,lv]] w fun e w'=> ∃b,e= .returned (.tuple #[.pointer (some ⟨b,0,none⟩),.int .i64 0])∧CkAt w.heap.size w' b (ckrNew cs)∧Below w.heap.size w w':=by
 obtain⟨W,hW⟩: ∃W,w.alloc (.cells #[.int .i64 n,lv] 26)=W:=⟨_,rfl⟩
 have hb:Below w.heap.size w W:=by rw[←hW];exact mx_al _ _
 have hz:W.heap.size=w.heap.size+1:=by rw[←hW];simp
 have hbn:W.heap[w.heap.size]? =some (.cells #[.int .i64 n,lv] 26 (0,0)):=by rw[←hW];exact World.alloc_heap_new _ _
 have b0:W.cell? ⟨w.heap.size,0,none⟩=some (.int .i64 n):=mx_cell (j:=0) hbn
 have b1:W.cell? ⟨w.heap.size,1,none⟩=some lv:=mx_cell (j:=1) hbn
 have hlt:=heap_lt hbn
 have HC:=Lib.hid (h.below hb).lt
 have HCB:=Lib.hid hc
 have HCH:=form_check n lv cs W (h.below hb) (fun c hc2=>by
  have:=hc c hc2
  unfold clauseB at this
  rw[Bool.and_eq_true,decide_eq_true_eq]at this
  omega)
 rw[hf]at HCH
 have HCH:=Lib.hid HCH
 have HW:=Lib.hid hW
 have HB:=Lib.hid hb
 have B1:=Lib.hid b1
 obtain⟨A,c,rfl,hcc,_⟩:=h
 have hmm:=@run_makeMap Tryz.prog
 clear hb hf hbn hc
 go_enter Tryz.func7,Tryz.ntmps7
 go_wp2_with fail
 refine HCH.out.mono ?_
 rintro e w1 ⟨rfl,hb1⟩
 have HB1:=Lib.hid hb1
 have hz1:=hb1.size
 obtain⟨W2,hW2⟩: ∃x,w1.alloc (.map #[] 0)=x:=⟨_,rfl⟩
 obtain⟨W3,hW3⟩: ∃x,W2.alloc (.cells #[.map (some w1.heap.size),.int .i64 0,.bool false,.int .i64 0,.int .i64 0,.int .i64 0,.int .i64 0] 61)=x:=⟨_,rfl⟩
 have hb2:Below w1.heap.size w1 W2:=by rw[←hW2];exact mx_al _ _
 have hb3:Below W2.heap.size W2 W3:=by rw[←hW3];exact mx_al _ _
 have hz2:W2.heap.size=w1.heap.size+1:=by rw[←hW2];simp
 have hm2:MapI W2 w1.heap.size []:=by rw[←hW2];exact MapS.made w1
 have hbx:W3.heap[W2.heap.size]? =some (.cells #[.map (some w1.heap.size),.int .i64 0,.bool false,.int .i64 0,.int .i64 0,.int .i64 0,.int .i64 0] 61 (0,0)):=by rw[←hW3];exact World.alloc_heap_new _ _
 rw[hz2]at hbx
 have HCK:=Lib.hid (show CkAt (w.heap.size+1) W3 (w1.heap.size+1) ckr0 from⟨w1.heap.size,[],⟨by omega,by omega,hbx,hm2.below hb3,rfl,fun p hp=>by cases hp⟩⟩)
 have HBW3:=Lib.hid (HB1.out.trans ((hb2.trans (hb3.mono (by omega))).mono hz1))
 have hlt1:=hlt
 have d1:=(HB1.out.cell (p:=⟨w.heap.size,1,none⟩) hlt).trans B1.out
 have d3:=(HBW3.out.cell (p:=⟨w.heap.size,1,none⟩) hlt).trans B1.out
 have hzz:W.heap.size≤W3.heap.size:=HBW3.out.size
 clear hb1 hb2 hb3 hm2 hbx b1
 go_wp2_with fail
 clear hW2 hW3 d1 d3 hmm
 go_loopw [23] (fun iv wr=> ∃k:Nat,k≤cs.length∧iv= .int .i64 k∧Hid (CkAt (w.heap.size+1) wr (w1.heap.size+1) (ckr0.putAll 0 (cs.take k)))∧Hid (Below (w.heap.size+1) W3 wr)) (fun iv _=>cs.length-(intOf iv).toNat)
 case atStart=>exact⟨0,Nat.zero_le _,rfl,HCK,Lib.hid (Below.refl _ _)⟩
 case round=>
  obtain⟨k,hk,rfl,HCk,HBk⟩:=hrel
  have HBr:=Lib.hid (HBW3.out.trans (HBk.out.mono (by omega)))
  by_cases hlt2:k<cs.length
  ·obtain⟨x,hx⟩:=getElem_of hlt2
   have hbr2:Below W.heap.size W wr:=HBW3.out.trans (HBk.out.mono (by omega))
   obtain⟨A',c',hAc,_,_,hxs⟩:=HC.out.below hbr2
   simp only[Value.slice.injEq,true_and]at hAc
   obtain⟨rfl,rfl⟩:=hAc
   obtain⟨g,o,u,rfl,hg,_,d0,hu⟩:=hxs k x hx
   have hxb:=HCB.out x (List.mem_of_getElem? hx)
   have hxl:x.length≤4096:=by
    unfold clauseB at hxb
    rw[Bool.and_eq_true,decide_eq_true_eq]at hxb
    exact hxb.1
   have hel:(ckr0.putAll 0 (cs.take k)).ents.length≤1000000:=by
    have:=putAll_len (cs.take k) ckr0 0
    rw[List.length_take]at this
    have h0:ckr0.ents.length=0:=rfl
    omega
   have hbz:w.heap.size+1≤wr.heap.size:=by have:=HBk.out.size;omega
   have hwf:(Lit.int .i64 ((k:Int)+1)).wf=true:=wf64 (by omega) (by omega)
   have HPUT:=Lib.hid (ck_put (w1.heap.size+1) _ ((k:Int)+1) u x wr HCk.out hbz hwf hu hxl hel)
   have HTK:=Lib.hid (show ckr0.putAll 0 (cs.take (k+1))=(ckr0.putAll 0 (cs.take k)).put ((k:Int)+1) x from by
    rw[List.take_add_one,hx]
    show ckr0.putAll 0 (cs.take k++ [x])=_
    rw[putAll_snoc,Nat.zero_add,List.length_take,Nat.min_eq_left hk])
   have hwk:IntKind.i64.wrap ((k:Int)+1)=(k:Int)+1:=IntWalk.i64_in _ (by omega)
   obtain⟨Au,cu,rfl,_⟩:=hu
   clear hx hxs hbr2 hxb hxl hel hwf
   go_wp2_with fail
   refine HPUT.out.mono ?_
   rintro e w5 ⟨rfl,hck5,hb5,-⟩
   have HCK5:=Lib.hid (HTK.out▸hck5)
   have HB5:=Lib.hid (HBk.out.trans hb5)
   clear hck5 hb5 HPUT d0
   go_wp2_with fail
   go_roundw
   case rel=>exact⟨k+1,by omega,by go_num,HCK5,HB5⟩
   case measure=>simp[intOf];omega
  ·obtain rfl:k=cs.length:=by omega
   have hck:=HCk.out
   rw[List.take_length]at hck
   obtain⟨mb,K,hm⟩:=hck
   have c1:=hm.cells.2.1
   have f1:=hm.free 1
   have hblt:=heap_lt hm.box
   have d1:wr.cell? ⟨w.heap.size,1,none⟩=some (.slice A cs.length c):=(HBk.out.cell (p:=⟨w.heap.size,1,none⟩) (by simp only;omega)).trans ((HBW3.out.cell (p:=⟨w.heap.size,1,none⟩) hlt).trans B1.out)
   have HM:=Lib.hid hm
   clear hm
   go_wp2_with fail
   have hx:=HM.out.box
   have HSET:=Lib.hid (HM.out.set (k':=ckrNew cs) (j:=1) (v:=.int .i64 (cs.length:Nat)) (by exact mx_set hx (j:=1) _) rfl)
   refine bodyPost_ret (v:=.tuple #[.pointer (some ⟨w1.heap.size+1,0,none⟩),.int .i64 0]) (by simp[results,Tryz.results7,go_sem]) rfl ?_
   refine⟨_,rfl,CkAt.lower ⟨mb,K,HSET.out⟩ (Nat.le_succ _),?_⟩
   exact(HB.out.trans ((HBr.out.mono (by omega)).trans ((HM.out.setBelow 1 _ (by omega)).mono (by omega))))
end Go.Proofs.YtkfgplfllddhnaaGreatDoor
namespace Go.Proofs.YtkfgplfllddhnaaGreatDoor
open Go.RowKit Go.Maps
theorem ck_clone {w:World} {mb:Nat} {m:List (Int×Value)} (h:MapI w mb m):
  Calls Tryz.prog 43 #[.map (some mb)] w fun e w'=>e= .returned (.map (some w.heap.size))∧MapI w' w.heap.size m∧Below w.heap.size w w':=
 (AnyW.maps_Clone_owns Tryz.cloneM _ _ mb _ _ w h.1).mono fun _ _ ⟨h1,h2,_,h4⟩=>⟨h1,⟨h2,h.2⟩,h4⟩
theorem ckDel_step {K:List (Int×(Value×List Int))} {hs:List Int} {j:Nat} {id:Int} (h:hs[j]? =some id):ckDel (mapV Prod.snd K) (hs.drop j)=if(getA K id).isNone=true then(mapV Prod.snd K,id,91)else ckDel (mapV Prod.snd (delA K id)) (hs.drop (j+1)):=by
 have hlt:=(List.getElem?_eq_some_iff.1 h).1
 rw[List.drop_eq_getElem_cons hlt]
 rw[List.getElem?_eq_getElem hlt]at h
 rw[Option.some.inj h]
 show(if(getA (mapV Prod.snd K) id).isNone=true then _ else ckDel (delA (mapV Prod.snd K) id) _)=_
 rw[mapV_get,Option.isNone_map,mapV_del]
set_option maxRecDepth 100000 in
set_option maxHeartbeats 4000000 in
theorem ck_remove {base:Nat} {O:Nat→Prop} (b:Nat) (k:Ckr) (hv:Value) (hs:List Int) (w:World) (h:CkAt base w b k) (hbase:base≤w.heap.size) (hh:IntsIn O w hv hs) (hwf: ∀x∈hs,(Lit.int .i64 x).wf=true) (hl:hs.length≤1000000):
  Calls Tryz.prog 27 #[.pointer (some ⟨b,0,none⟩),hv] w fun e w'=>e= .returned (.tuple #[.int .i64 (ckDel k.ents hs).2.1,.int .i64 ((ckDel k.ents hs).2.2:Nat)])∧CkAt base w' b (if(ckDel k.ents hs).2.2=0 then { k with ents:=(ckDel k.ents hs).1 } else k)∧Below base w w'∧Kept (fun g=>g=b) w w':=by
 obtain⟨mb,K,h⟩:=h
 have HM:=Lib.hid h
 have HH:=Lib.hid hh
 have HWF:=Lib.hid hwf
 have c0:=h.cells.1
 have hbl:=heap_lt h.box
 have HCN:=Lib.hid (ck_clone h.map)
 obtain⟨R,hR⟩: ∃R,ckDel k.ents hs=R:=⟨_,rfl⟩
 rw[hR]
 have HR:=Lib.hid (show R=ckDel (mapV Prod.snd K) (hs.drop 0)from by rw[←hR,h.ents,List.drop_zero])
 obtain⟨k2,hk2⟩: ∃k2,(if R.2.2=0 then { k with ents:=R.1 } else k)=k2:=⟨_,rfl⟩
 rw[hk2]
 have HK2:=Lib.hid hk2
 obtain⟨A,c,rfl,hc,_,_⟩:=hh
 clear h hwf hR hk2
 go_enter Tryz.func27,Tryz.ntmps27
 go_wp2_with fail
 refine HCN.out.mono ?_
 rintro e w1 ⟨rfl,hm1,hb1⟩
 have HM1:=Lib.hid hm1
 have HB1:=Lib.hid hb1
 clear hm1 hb1 HCN c0
 go_wp2_with fail
 go_loopw [18] (fun i wr=> ∃(j:Nat) (Kc:List (Int×(Value×List Int))),j≤hs.length∧i= .int .i64 j∧Hid (R=ckDel (mapV Prod.snd Kc) (hs.drop j))∧Hid (∀p∈Kc,p∈K)∧Hid (MapI wr w.heap.size (mapV Prod.fst Kc))∧Hid (Below w.heap.size w wr)) (fun i _=>hs.length-(intOf i).toNat)
 case atStart=>exact⟨0,K,Nat.zero_le _,rfl,HR,Lib.hid (fun p hp=>hp),HM1,HB1⟩
 case round=>
  obtain⟨j,Kc,hj,rfl,HE,HS,HMc,HB⟩:=hrel
  by_cases hlt:j<hs.length
  ·obtain⟨id,hid⟩:=getElem_of hlt
   obtain⟨A',c',hAc,_,_,hxs⟩:=HH.out.below HB.out
   simp only[Value.slice.injEq,true_and]at hAc
   obtain⟨rfl,rfl⟩:=hAc
   obtain⟨g,o,rfl,hg,_,d1⟩:=hxs j id hid
   have hwf:=HWF.out id (List.mem_of_getElem? hid)
   have hlk:=HMc.out.look int_law Tryz.underlying3 Tryz.underlying59 (z:=.slice none 0 0) (by kernel_rfl) true hwf
   rw[mapV_get,Option.isSome_map]at hlk
   have hst:=ckDel_step (K:=Kc) hid
   obtain⟨q,hq⟩: ∃q,getA Kc id=q:=⟨_,rfl⟩
   rw[hq]at hlk hst
   cases q with
   | none=>
    have HE2:=Lib.hid (show R=(mapV Prod.snd Kc,id,91)from HE.out.trans (hst.trans (if_pos rfl)))
    simp only[Option.map_none,Option.getD_none,Option.isSome_none,if_true]at hlk
    clear hst hq hxs hid
    go_wp2_with fail
    go_ret2
    rw[←HK2.out,HE2.out]
    exact⟨rfl,⟨mb,K,HM.out.below HB.out⟩,HB.out.mono hbase,Kept.of_below HB.out⟩
   | some p=>
    obtain⟨u,d⟩:=p
    have HE2:=Lib.hid (show R=ckDel (mapV Prod.snd (delA Kc id)) (hs.drop (j+1))from HE.out.trans (hst.trans (if_neg (by simp))))
    simp only[Option.map_some,Option.getD_some,Option.isSome_some,if_true]at hlk
    have HWX:=Lib.hid hwf
    clear hst hq hxs hid
    go_wp2_with (at_delete;go_must (refine wpList_delS HMc.out int_law Tryz.underlying3 Tryz.underlying59 rfl _ _ rfl rfl id rfl HWX.out ?_);intro w2 hm2 hg2)
    have HM2:=Lib.hid (show MapI w2 w.heap.size (mapV Prod.fst (delA Kc id))from by rw[mapV_del];exact hm2)
    have HB2:=Lib.hid (HB.out.grown hg2 HB.out.size (fun g e=>by rw[Option.some.inj e];exact Nat.le_refl _))
    have HS2:=Lib.hid (show∀p∈delA Kc id,p∈K from fun p hp=>HS.out p (delA_mem.1 hp).1)
    clear hm2 hg2 hlk hwf
    go_wp2_with fail
    go_roundw
    case rel=>exact⟨j+1,_,by omega,by go_num,HE2,HS2,HM2,HB2⟩
    case measure=>simp[intOf];omega
  ·obtain rfl:j=hs.length:=by omega
   have HE2:=Lib.hid (show R=(mapV Prod.snd Kc,0,0)from by rw[HE.out,List.drop_length];rfl)
   have hm:=HM.out.below HB.out
   have hbx:=hm.box
   have c0:=hm.cells.1
   have f0:=hm.free 0
   clear hm
   go_wp2_with fail
   go_ret2
   rw[←HK2.out,HE2.out]
   have hk:Kept (fun g=>g=b) wr (wr.setCell ⟨b,0,none⟩ (.map (some w.heap.size))):=(Kept.refl (fun g=>g=b) wr).setCell ⟨b,0,none⟩ _ rfl
   refine⟨rfl,?_,below_kept (HB.out.mono hbase) hk (fun i e=>by rw[e];exact HM.out.bb) (Nat.le_trans hbase HB.out.size),(Kept.of_below HB.out).trans hk (fun _ _ h=>h)⟩
   rw[if_pos rfl]
   exact⟨w.heap.size,Kc,{
    bb:=HM.out.bb
    bm:=hbase
    box:=by exact mx_set hbx (j:=0) _
    map:=HMc.out.kept hk (fun e=>by omega)
    ents:=rfl
    row:=fun p hp=>by
     have hr:=own_below (HM.out.row p (HS.out p hp)) HB.out
     exact own_kept hr hk (fun _ hg e=>mx_not hr hbx (by decide) (by rw[←e];exact hg)) }⟩
end Go.Proofs.YtkfgplfllddhnaaGreatDoor
namespace Go.Proofs.YtkfgplfllddhnaaGreatDoor
open Go.RowKit Go.Maps
def EntIn (O:Nat→Prop) (w:World) (v:Value) (es:Ents):Prop:=
 ∃A c,v= .slice A es.length c∧es.length≤c∧(A=none→c=0)∧∀(i:Nat) (p:Int×List Int),es[i]? =some p→∃g o u,A=some ⟨g,o,none⟩∧g<w.heap.size∧O g∧w.cell? ⟨g,o+i*2,none⟩=some (.int .i64 p.1)∧w.cell? ⟨g,o+i*2+1,none⟩=some u∧IntsIn O w u p.2
theorem EntIn.kept {O O':Nat→Prop} {w w':World} {v:Value} {es:Ents} (h:EntIn O w v es) (k:Kept O' w w') (hO: ∀g,O g→¬O' g):EntIn O w' v es:=by
 obtain⟨A,c,hv,hc,hn,hx⟩:=h
 refine⟨A,c,hv,hc,hn,fun i p hi=>?_⟩
 obtain⟨g,o,u,h1,h2,h3,h4,h5,h6⟩:=hx i p hi
 exact⟨g,o,u,h1,Nat.lt_of_lt_of_le h2 k.size,h3,(k.cell (p:=⟨g,o+i*2,none⟩) h2 (hO g h3)).trans h4,(k.cell (p:=⟨g,o+i*2+1,none⟩) h2 (hO g h3)).trans h5,h6.kept k hO⟩
theorem EntIn.below {O:Nat→Prop} {w w':World} {v:Value} {es:Ents} (h:EntIn O w v es) (k:Below w.heap.size w w'):EntIn O w' v es:=
 h.kept (O':=fun _=>False) (Kept.of_below k) (fun _ _ h=>h)
theorem EntIn.mono {O O':Nat→Prop} {w:World} {v:Value} {es:Ents} (h:EntIn O w v es) (hO: ∀g,O g→O' g):EntIn O' w v es:=by
 obtain⟨A,c,hv,hc,hn,hx⟩:=h
 refine⟨A,c,hv,hc,hn,fun i p hi=>?_⟩
 obtain⟨g,o,u,h1,h2,h3,h4,h5,h6⟩:=hx i p hi
 exact⟨g,o,u,h1,h2,hO g h3,h4,h5,h6.mono hO⟩
structure EntOk (es:Ents):Prop where
 rise:Rising es
 ids: ∀p∈es,1≤p.1∧p.1≤1073741824
 cls: ∀p∈es,clauseB p.2=true
 len:es.length≤1048576
theorem two_new (w:World) (z0 z1 a0 a1:Value) (t:TypeId): ∃W1 W2 W3,w.alloc (.cells #[z0,z1] t)=W1∧W1.setCell ⟨w.heap.size,0,none⟩ a0=W2∧W2.setCell ⟨w.heap.size,1,none⟩ a1=W3∧
  W1.frozen? ⟨w.heap.size,0,none⟩=false∧W1.frozen? ⟨w.heap.size,1,none⟩=false∧W2.frozen? ⟨w.heap.size,1,none⟩=false∧W1.cell? ⟨w.heap.size,0,none⟩=some z0∧W1.cell? ⟨w.heap.size,1,none⟩=some z1∧W2.cell? ⟨w.heap.size,1,none⟩=some z1∧
  W3.heap[w.heap.size]? =some (.cells #[a0,a1] t (0,0))∧Below w.heap.size w W3:=by
 have h1:(w.alloc (.cells #[z0,z1] t)).heap[w.heap.size]? =some (.cells #[z0,z1] t (0,0)):=World.alloc_heap_new _ _
 have h2:=mx_set h1 (j:=0) a0
 have h3:=mx_set h2 (j:=1) a1
 refine⟨_,_,_,rfl,rfl,rfl,free_at h1,free_at h1,free_at h2,mx_cell (j:=0) h1,mx_cell (j:=1) h1,mx_cell (j:=1) h2,h3,?_⟩
 exact((mx_al w _).setCell (p:=⟨w.heap.size,0,none⟩) (Nat.le_refl _) _).setCell (p:=⟨w.heap.size,1,none⟩) (Nat.le_refl _) _
set_option maxRecDepth 100000 in
set_option maxHeartbeats 4000000 in
theorem rat_right {O:Nat→Prop} (v:Value) (es:Ents) (w:World) (h:EntIn O w v es) (ho:EntOk es):
  Calls Tryz.prog 69 #[v] w fun e w'=>e= .returned (.bool true)∧Below w.heap.size w w':=by
 have hlen:=ho.len
 have HH:=Lib.hid h
 have HO:=Lib.hid ho
 obtain⟨A,c,rfl,hc,_,_⟩:=h
 clear ho
 go_enter Tryz.func69,Tryz.ntmps69
 go_wp2_with fail
 go_loopw [3,8] (fun lv i wr=> ∃(k:Nat) (last:Int),k≤es.length∧lv= .int .i64 last∧i= .int .i64 k∧Hid (∀p∈es.drop k,last<p.1)∧Hid (Below w.heap.size w wr)) (fun _ i _=>es.length-(intOf i).toNat)
 case atStart=>exact⟨0,0,Nat.zero_le _,rfl,rfl,Lib.hid (fun p hp=>by have:=(HO.out.ids p hp).1;omega),Lib.hid (Below.refl _ _)⟩
 case round=>
  obtain⟨k,last,hk,rfl,rfl,HL,HB⟩:=hrel
  by_cases hlt:k<es.length
  ·obtain⟨p,hp⟩:=getElem_of hlt
   obtain⟨A',c',hAc,_,_,hxs⟩:=HH.out.below HB.out
   simp only[Value.slice.injEq,true_and]at hAc
   obtain⟨rfl,rfl⟩:=hAc
   obtain⟨g,o,u,rfl,hg,_,d0,d1,hu⟩:=hxs k p hp
   have hdk:es.drop k=p::es.drop (k+1):=by
    rw[List.drop_eq_getElem_cons hlt]
    rw[List.getElem?_eq_getElem hlt]at hp
    rw[Option.some.inj hp]
   have hlast:=HL.out p (by rw[hdk];exact List.mem_cons_self)
   have hpm:=List.mem_of_getElem? hp
   obtain⟨i1,i2⟩:=HO.out.ids p hpm
   have hcl:=HO.out.cls p hpm
   have hpl:p.2.length≤140737488355328:=by
    unfold clauseB at hcl
    rw[Bool.and_eq_true,decide_eq_true_eq]at hcl
    omega
   have HL2:=Lib.hid (show∀q∈es.drop (k+1),p.1<q.1 from fun q hq=>by
    have h1:(es.drop k).Pairwise fun p q=>p.1<q.1:=List.Pairwise.drop HO.out.rise
    rw[hdk,List.pairwise_cons]at h1
    exact h1.1 q hq)
   obtain⟨id,hid⟩: ∃id,p.1=id:=⟨_,rfl⟩
   obtain⟨d,hd⟩: ∃d,p.2=d:=⟨_,rfl⟩
   rw[hid]at d0 hlast i1 i2 HL2
   rw[hd]at hu hcl hpl
   obtain⟨W1,W2,W3,hW1,hW2,hW3,f0,f1,f2,y0,y1,y2,hbx,hb3⟩:=two_new wr (.int .i64 0) (.slice none 0 0) (.int .i64 id) u 144
   have z0:=mx_cell (j:=0) hbx
   have z1:=mx_cell (j:=1) hbx
   have HRC:=Lib.hid (fun W (hb:Below W3.heap.size W3 W)=>right_clause u d W ((hu.below hb3).below hb) hpl)
   rw[hcl]at HRC
   have HB3:=Lib.hid (HB.out.trans (hb3.mono HB.out.size))
   have q0:decide (id≤last)=false:=decide_eq_false (by omega)
   have q1:decide ((1073741824:Int)<id)=false:=decide_eq_false (by omega)
   obtain⟨Au,cu,rfl,_⟩:=hu
   clear hp hxs hdk hlast hpm hcl hpl hid hd hbx hb3
   go_wp2_with fail
   refine(HRC.out W3 (Below.refl _ _)).mono ?_
   rintro e w' ⟨rfl,rfl⟩
   clear f0 f1 f2 y0 y1 y2 hW1 hW2 hW3
   go_wp2_with fail
   go_roundw
   case rel=>exact⟨k+1,id,by omega,rfl,by go_num,HL2,HB3⟩
   case measure=>simp[intOf];omega
  ·obtain rfl:k=es.length:=by omega
   have q0:decide ((es.length:Int)≤1048576)=true:=decide_eq_true (by omega)
   have q0n:decide (es.length≤1048576)=true:=decide_eq_true hlen
   go_wp2_with fail
   go_ret
   exact⟨rfl,HB.out⟩
end Go.Proofs.YtkfgplfllddhnaaGreatDoor
