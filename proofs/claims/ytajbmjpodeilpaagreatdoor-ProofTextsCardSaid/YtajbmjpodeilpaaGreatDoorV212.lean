/- package proof: Report, put. package formula: Check. package proof: named; package rat: Split at hints alone. -/
import Derived.Test.YtajbmjpodeilpaaGreatDoorV211
import Derived.Test.YtajbmjpodeilpaaGreatDoorV203
import Derived.Test.YtajbmjpodeilpaaGreatDoorV202
import Derived.Deep.DeepCutAuto
import Derived.Deep.CutBlock
import Derived.Shelf.Abstract
namespace Go.Proofs.YtajbmjpodeilpaaGreatDoor
open Go.RowKit Go.Maps
theorem MapI.len {w:World} {b:Nat} {m:List (Int×Value)} (h:MapI w b m) (ty:TypeId):(Builtin.len_ #[89] ty #[.map (some b)]).run Tryz.prog w= .ok (.int .i64 (m.length:Nat)) w:=by
 have:=h.1.len Tryz.underlying89 ty
 rw[this]
 have e:Maps.size (DataW.map (encE m))=m.length:=encE_length m
 rw[e]
theorem free_at {w:World} {b j:Nat} {cs:Array Value} {t:TypeId} (h:w.heap[b]? =some (.cells cs t (0,0))):w.frozen? ⟨b,j,none⟩=false:=by
 simp[World.frozen?,h]
theorem five_setR {w5:World} {yb:Nat} {z0 z1 z2 z3 z4:Value} {t:TypeId} (hb:w5.heap[yb]? =some (.cells #[z0,z1,z2,z3,z4] t (0,0))) (a0 a1 a2 a3 a4:Value): ∃wy,(((((w5.setCell ⟨yb,0,none⟩ a0).setCell ⟨yb,1,none⟩ a1).setCell ⟨yb,2,none⟩ a2).setCell ⟨yb,3,none⟩ a3).setCell ⟨yb,4,none⟩ a4)=wy∧wy.heap[yb]? =some (.cells #[a0,a1,a2,a3,a4] t (0,0))∧Kept (fun g=>g=yb) w5 wy:=by
 refine⟨_,rfl,?_,?_⟩
 ·have h1:=mx_set hb (j:=0) a0
  have h2:=mx_set h1 (j:=1) a1
  have h3:=mx_set h2 (j:=2) a2
  have h4:=mx_set h3 (j:=3) a3
  have h5:=mx_set h4 (j:=4) a4
  exact h5
 ·exact(((((Kept.refl (fun g=>g=yb) w5).setCell ⟨yb,0,none⟩ a0 rfl).setCell ⟨yb,1,none⟩ a1 rfl).setCell ⟨yb,2,none⟩ a2 rfl).setCell ⟨yb,3,none⟩ a3 rfl).setCell ⟨yb,4,none⟩ a4 rfl
theorem res_rep {fn:Func} (h:fn.results= #[.cell 2 45]) {w:World} {r:Nat} {c0 c1 c2 c3 c4:Value} {t:TypeId} (hb:w.heap[r]? =some (.cells #[c0,c1,c2,c3,c4] t (0,0))) (tmps:Array Value) (t2:tmps[2]?.getD undef= .pointer (some ⟨r,0,none⟩)):
  (results fn tmps).run Tryz.prog w= .ok (.agg #[c0,c1,c2,c3,c4]) w:=by
 have p0:w.cell? ⟨r,0,none⟩=some c0:=mx_cell (j:=0) hb
 have p1:w.cell? ⟨r,1,none⟩=some c1:=mx_cell (j:=1) hb
 have p2:w.cell? ⟨r,2,none⟩=some c2:=mx_cell (j:=2) hb
 have p3:w.cell? ⟨r,3,none⟩=some c3:=mx_cell (j:=3) hb
 have p4:w.cell? ⟨r,4,none⟩=some c4:=mx_cell (j:=4) hb
 simp[results,h,go_sem,t2,p0,p1,p2,p3,p4]
set_option maxHeartbeats 1000000 in
theorem ck_report {base:Nat} (b:Nat) (k:Ckr) (w:World) (h:CkAt base w b k):
  Calls Tryz.prog 15 #[.pointer (some ⟨b,0,none⟩)] w fun e w'=>e= .returned k.rep∧Below w.heap.size w w':=by
 obtain⟨mb,K,h⟩:=h
 obtain⟨W,hW⟩: ∃W,w.alloc (.cells #[.bool false,.int .i64 0,.int .i64 0,.int .i64 0,.int .i64 0] 45)=W:=⟨_,rfl⟩
 have hb:Below w.heap.size w W:=by rw[←hW];exact mx_al _ _
 have hn:W.heap[w.heap.size]? =some (.cells #[.bool false,.int .i64 0,.int .i64 0,.int .i64 0,.int .i64 0] 45 (0,0)):=by rw[←hW];exact World.alloc_heap_new _ _
 obtain⟨-,-,c2,c3,c4,c5,c6⟩:=(h.below hb).cells
 have r0:W.cell? ⟨w.heap.size,0,none⟩=some (.bool false):=mx_cell (j:=0) hn
 have r1:W.cell? ⟨w.heap.size,1,none⟩=some (.int .i64 0):=mx_cell (j:=1) hn
 have r2:W.cell? ⟨w.heap.size,2,none⟩=some (.int .i64 0):=mx_cell (j:=2) hn
 have r3:W.cell? ⟨w.heap.size,3,none⟩=some (.int .i64 0):=mx_cell (j:=3) hn
 have r4:W.cell? ⟨w.heap.size,4,none⟩=some (.int .i64 0):=mx_cell (j:=4) hn
 have f0:=free_at (j:=0) hn
 have f1:=free_at (j:=1) hn
 have f2:=free_at (j:=2) hn
 have f3:=free_at (j:=3) hn
 have f4:=free_at (j:=4) hn
 obtain⟨wy,hwy,hby,hky⟩:=five_setR hn (.bool k.proved) (.int .i64 k.adds) (.int .i64 k.dels) (.int .i64 k.rats) (.int .i64 k.largest)
 have HB:=Lib.hid (hb.trans (hky.below (fun i e=>Nat.le_of_eq e.symm) hb.size))
 have HBY:=Lib.hid hby
 have HW:=Lib.hid hW
 have HWY:=Lib.hid hwy
 clear h hb hn hby hky hW hwy
 go_enter Tryz.func15,Tryz.ntmps15
 go_upto_region 1 with fail
 rw[HW.out]
 go_wp2_with fail
 rw[HWY.out]
 refine bodyPost_ret (res_rep rfl HBY.out _ rfl) rfl ?_
 exact⟨rfl,HB.out⟩
theorem CkMem.putMap {X:Nat→Prop} {base:Nat} {w w2 w3:World} {b mb:Nat} {k:Ckr} {K:List (Int×(Value×List Int))} (h:CkMem X base w b mb k K) (hbase:base≤w.heap.size) (hb:Below w.heap.size w w2) (id:Int) {c:List Int} {v:Value} (hv:w2.ownsRow w.heap.size 28 1 v c.length (c.map (Value.int .i64)))
  (hm:MapI w3 mb (putA (mapV Prod.fst K) id v)) (hg:w2.grownBy w3 (some mb)) (hX: ∀g,X g→g<w.heap.size):CkMem X base w3 b mb { k with ents:=putA k.ents id c } (putA K id (v,c)):=by
 have h2:=h.below hb
 have hk:=Kept.grown hg
 have hbl:=heap_lt h.box
 have hml:=h.map.lt
 exact {
  bb:=h.bb
  bm:=h.bm
  box:=(hk.block b (heap_lt h2.box) (fun e=>h.ne (Option.some.inj e))).trans h2.box
  map:=by rw[mapV_put];exact hm
  ents:=by
   show putA k.ents id c=_
   rw[h.ents,mapV_put]
  row:=fun p hp=>by
   rcases insA_mem.1 hp with rfl|hp
   ·exact own_mono (own_kept hv hk (fun _ hg2 e=>h2.notMap hv hg2 (Option.some.inj e))) hbase
   ·exact own_kept (h2.row p (delA_mem.1 hp).1) hk (fun _ hg2 e=>h2.notMap (h2.row p (delA_mem.1 hp).1) hg2 (Option.some.inj e))
  offb:=h.offb
  offm:=h.offm
  off:=fun p hp g hg hx=>by
   rcases insA_mem.1 hp with rfl|hp
   ·have:=hX g hx
    have:=(own_lt hv g hg).1
    omega
   ·exact h.off p (delA_mem.1 hp).1 g hg hx }
set_option maxRecDepth 100000 in
set_option maxHeartbeats 4000000 in
theorem ck_put {X:Nat→Prop} {base:Nat} {O:Nat→Prop} (b:Nat) (k:Ckr) (id:Int) (cv:Value) (c:List Int) (w:World) (h:CkAtX X base w b k) (hbase:base≤w.heap.size) (hid:(Lit.int .i64 id).wf=true) (hc:IntsIn O w cv c) (hcl:c.length≤4096) (hlen:k.ents.length≤1000000) (hX: ∀g,X g→g<w.heap.size:=by exact fun _ h=>h.elim):
  Calls Tryz.prog 41 #[.pointer (some ⟨b,0,none⟩),.int .i64 id,cv] w fun e w'=>e= .returned (.tuple #[])∧CkAtX X base w' b (k.put id c)∧Below base w w'∧CkF b w w':=by
 obtain⟨mb,K,h⟩:=h
 have HM:=Lib.hid h
 have HC:=Lib.hid hc
 have HKL:=Lib.hid h.len
 obtain⟨c0,-⟩:=h.cells
 have hbl:=heap_lt h.box
 obtain⟨Ac,cc,rfl,hcc,_⟩:=hc
 clear h
 go_enter Tryz.func41,Tryz.ntmps41
 go_upto_region 0 with fail
 refine wp_region_sink_at (fun w'=>Below w.heap.size w w') (by kernel_rfl) (by rfl) (by kernel_rfl) (mx_drew w) (fun hS=>?_)
 refine takeE 0 6 ?_
 refine takeE 1 7 ?_
 refine takeE 2 8 ?_
 refine takeF 3 9 (fun wq hSw=>(hSw.cell (p:=⟨b,0,none⟩) hbl).trans c0) ?_
 refine takeE 4 10 ?_
 refine takeE 5 11 ?_
 refine ready1 6 (fun KK hKK=>?_)
 go_simp
 refine(clone_c _ c _ (HC.out.below hS) (by omega)).mono ?_
 rintro e w2 ⟨v,rfl,hv,hb2⟩
 have hS2:=hS.trans (hb2.mono hS.size)
 have hv2:=own_mono hv hS.size
 refine hKK.out _ _ hS2 (fun _=>?_)
 clear hKK
 refine wpAnyH_done (by kernel_rfl) ?_ _
 refine lastPost_normal ?_
 refine wpOp_step rfl (fun KK hKK=>?_)
 rw[if_pos (by rfl)]
 refine wp_putK_at (HM.out.below hS2).map int_law Tryz.underlying3 Tryz.underlying89 _ _ _ rfl rfl (by rw[mapV_length,HKL.out];unfold maxLen;omega) id v rfl rfl hid ?_
 intro w3 hm3 hg3
 refine hKK _ _ ?_
 clear hKK
 have HM3:=Lib.hid (HM.out.putMap hbase hS2 id hv2 hm3 hg3 hX)
 have HF3:=Lib.hid ((CkF.of_below (b:=b) hS2).trans (CkF.map (HM.out.below hS2).map hg3))
 have HB3:=Lib.hid (below_kept (hS2.mono hbase) (Kept.grown hg3) (fun i e=>by rw[Option.some.inj e];exact HM.out.bm) (by have:=hS2.size;omega))
 clear hv hv2 hm3 hg3 hS hS2 hb2 c0 hbl HM HKL
 obtain⟨EE,hEE⟩: ∃EE,putA k.ents id c=EE:=⟨_,rfl⟩
 have HEL:=Lib.hid (show(mapV Prod.fst (putA K id (v,c))).length=EE.length from by
  have:=HM3.out.ents
  rw[mapV_length,←hEE]
  show _=(putA k.ents id c).length
  have h2:(putA k.ents id c).length=_:=congrArg List.length this
  rw[h2,mapV_length])
 have HEE:=Lib.hid hEE
 rw[hEE]at HM3
 obtain⟨KK,hKK⟩: ∃KK,putA K id (v,c)=KK:=⟨_,rfl⟩
 rw[hKK]at HM3 HEL
 clear hEE hKK
 have hx:=HM3.out.box
 have c1:=HM3.out.cells.2.1
 have f1:=HM3.out.free 1
 have hM4:CkMem X base (w3.setCell ⟨b,1,none⟩ (.int .i64 id)) b mb { k with ents:=EE,last:=id } KK:=HM3.out.set (by exact mx_set hx (j:=1) _) rfl
 have HB4:=Lib.hid (HB3.out.trans (HM3.out.setBelow 1 (.int .i64 id) (Nat.le_trans hbase (by have:=HB3.out.size;omega))))
 have HF4:=Lib.hid (HF3.out.trans (CkF.set b w3 1 (.int .i64 id)))
 obtain⟨w4,hw4⟩: ∃z,w3.setCell ⟨b,1,none⟩ (.int .i64 id)=z:=⟨_,rfl⟩
 rw[hw4]at hM4 HB4 HF4
 have HM4:=Lib.hid hM4
 have HW4:=Lib.hid hw4
 clear hM4 hw4 hx
 go_upto_region 2 with fail
 rw[HW4.out]
 clear HW4 f1 c1
 obtain⟨d0,-,-,-,-,-,d6⟩:=HM4.out.cells
 have hbl:=heap_lt HM4.out.box
 have hlen4:=HM4.out.map.len 3
 rw[HEL.out]at hlen4
 have HLEN:=Lib.hid (fun wq (hq:Below w4.heap.size w4 wq)=>show(Builtin.len_ #[89] 3 #[.map (some mb)]).run Tryz.prog wq= .ok (.int .i64 (EE.length:Nat)) wq from by
  have:=(HM4.out.below hq).map.len 3
  rwa [HEL.out]at this)
 clear hlen4
 refine wp_region_sink_at (fun w'=>Below w4.heap.size w4 w') (by kernel_rfl) (by rfl) (by kernel_rfl) (mx_drew w4) (fun hS=>?_)
 refine takeE 0 17 ?_
 refine takeE 1 18 ?_
 refine takeE 2 19 ?_
 refine takeE 3 20 ?_
 refine takeE 4 21 ?_
 refine takeF 5 22 (fun wq hSw=>(hSw.cell (p:=⟨b,6,none⟩) hbl).trans d6) ?_
 refine takeE 6 23 ?_
 refine takeE 7 24 ?_
 refine takeE 8 25 ?_
 refine takeF 9 26 (fun wq hSw=>(hSw.cell (p:=⟨b,0,none⟩) hbl).trans d0) ?_
 refine takeF 10 27 (fun wq hSw=>HLEN.out wq hSw) ?_
 refine takeE 11 28 ?_
 refine takeE 12 29 ?_
 refine takeE 13 30 ?_
 refine takeE 14 31 ?_
 obtain⟨LG,hLG⟩: ∃LG,max k.largest (EE.length:Int)=LG:=⟨_,rfl⟩
 have HLG:=Lib.hid hLG
 have HM5:=Lib.hid (HM4.out.below hS)
 have HF5:=Lib.hid (HF4.out.trans (CkF.of_below (b:=b) hS))
 have HB5:=Lib.hid (HB4.out.trans (hS.mono (Nat.le_trans hbase HB4.out.size)))
 clear hS d0 d6 hbl HM4 HB4 HB3 HM3
 refine wpAnyH_done (by kernel_rfl) ?_ _
 refine lastPost_normal ?_
 refine wpOp_step rfl (fun KX hKX=>?_)
 have c6:=HM5.out.cells.2.2.2.2.2.2
 have f6:=HM5.out.free 6
 have hx:=HM5.out.box
 have hM6:CkMem X base _ b mb { k with ents:=EE,last:=id,largest:=LG } KK:=HM5.out.set (j:=6) (v:=.int .i64 LG) (by exact mx_set hx (j:=6) _) rfl
 have hB6:=HB5.out.trans (HM5.out.setBelow 6 (.int .i64 LG) (Nat.le_trans hbase (by have:=HB5.out.size;omega)))
 have HF6:=Lib.hid (HF5.out.trans (CkF.set b w4.drew 6 (.int .i64 LG)))
 obtain⟨w6,hw6⟩: ∃z,w4.drew.setCell ⟨b,6,none⟩ (.int .i64 LG)=z:=⟨_,rfl⟩
 rw[hw6]at hM6 hB6 HF6
 have HM6:=Lib.hid hM6
 have HB6:=Lib.hid hB6
 clear hx hM6 hB6
 rw[hLG]
 go_simp
 refine hKX _ _ ?_
 clear hKX c6 f6 hLG hw6 HM5 HB5
 have c2:=HM6.out.cells.2.2.1
 have f2:=HM6.out.free 2
 have hx:=HM6.out.box
 obtain⟨pv,hpv⟩: ∃pv,k.proved=pv:=⟨_,rfl⟩
 obtain⟨ce,hce⟩: ∃ce,c.isEmpty=ce:=⟨_,rfl⟩
 have hM7:CkMem X base _ b mb { k with ents:=EE,last:=id,largest:=LG,proved:=pv||ce } KK:=HM6.out.set (j:=2) (v:=.bool (pv||ce)) (by exact mx_set hx (j:=2) _) rfl
 have hB7:=HB6.out.trans (HM6.out.setBelow 2 (.bool (pv||ce)) (Nat.le_trans hbase (by have:=HB6.out.size;omega)))
 have HFIN:=Lib.hid (show CkAtX X base (w6.setCell ⟨b,2,none⟩ (.bool (pv||ce))) b (k.put id c)∧Below base w (w6.setCell ⟨b,2,none⟩ (.bool (pv||ce)))∧CkF b w (w6.setCell ⟨b,2,none⟩ (.bool (pv||ce)))from by
  refine⟨⟨mb,KK,?_⟩,hB7,HF6.out.trans (CkF.set b w6 2 _)⟩
  have e:k.put id c= { k with ents:=EE,last:=id,largest:=LG,proved:=pv||ce }:=by
   unfold Ckr.put
   rw[HEE.out,HLG.out,hpv,hce]
  rw[e]
  exact hM7)
 simp only[hpv]at c2
 have hle:((c.length:Int)==0)=ce:=by
  rw[←hce]
  cases c with
  | nil=>rfl
  | cons a r=>simp;omega
 clear hM7 hB7 hx hpv hce HM6 HB6 HEE HLG HLEN HEL
 cases pv with
 | true=>
  go_wp2_with fail
  go_end0
  exact⟨rfl,HFIN.out⟩
 | false=>
  cases ce with
  | true=>
   go_wp2_with fail
   go_end0
   exact⟨rfl,HFIN.out⟩
  | false=>
   go_wp2_with fail
   go_end0
   exact⟨rfl,HFIN.out⟩
end Go.Proofs.YtajbmjpodeilpaaGreatDoor
namespace Go.Proofs.YtajbmjpodeilpaaGreatDoor
open Go.RowKit Go.Shelf
def beyB (n:Int) (l:Int):Bool:= !litB l||decide (n<(litV l:Nat))
def fchkGo (n:Int):Nat→List (List Int)→Int×Nat
 | _,[]=>(-1,0)
 | i,c::r=>if clauseB c=false then((i:Int),20)else if c.any (beyB n)=true then((i:Int),51)else fchkGo n (i+1) r
def fchk (n:Int) (cs:List (List Int)):Int×Nat:=if(decide (0≤n)&&decide (n≤1048576))=false then(-1,50)else if 262144<cs.length then(-1,5)else fchkGo n 0 cs
set_option maxHeartbeats 400000 in
theorem beyond_run (n:Int) (w:World):Calls Tryz.prog 88 #[.int .i64 n] w fun e w'=> ∃q,e= .returned (.func (.func 127) #[] #[.pointer (some ⟨q,0,none⟩)])∧w'.cell? ⟨q,0,none⟩=some (.int .i64 n)∧Below w.heap.size w w':=by
 go_enter Tryz.func88,Tryz.ntmps88
 go_wp2
 go_ret
 exact⟨_,rfl,cell_new _ _ _ 0,mx_al _ _⟩
set_option maxRecDepth 100000 in
set_option maxHeartbeats 1000000 in
theorem beyond_one (n:Int) (q:Nat) (x:Int) (w:World) (hq:w.cell? ⟨q,0,none⟩=some (.int .i64 n)):
  Calls Tryz.prog 127 #[.int .i64 x,.pointer (some ⟨q,0,none⟩)] w fun e w'=>e= .returned (.bool (beyB n x))∧Below w.heap.size w w':=by
 have hql:=World.block_lt_of_cell? w _ hq
 have HR:=Lib.hid (fun W=>right_lit x W)
 have HV:=Lib.hid (fun W=>lit_var x W)
 cases hb:litB x with
 | true=>
  have he:beyB n x=decide (n<(litV x:Nat)):=by unfold beyB;rw[hb];rfl
  rw[he]
  rw[hb]at HR
  obtain⟨v,hv⟩: ∃v,litV x=v:=⟨_,rfl⟩
  rw[hv]at HV⊢
  clear hb he hv
  go_enter Tryz.func127,Tryz.ntmps127
  go_upto_region 1 with fail
  refine wp_region_held_drew (S:=fun w'=>Below w.heap.size w w') (by kernel_rfl) (mx_drew w) (fun hS=>?_)
  refine takeE 0 4 ?_
  refine ready1 1 (fun K hK=>?_)
  go_simp
  refine(HR.out _).mono ?_
  rintro e w' ⟨rfl,rfl⟩
  refine hK.out _ _ hS (fun _=>?_)
  clear hK
  refine takeE 2 6 ?_
  refine takeE 3 7 ?_
  refine takeE 4 8 ?_
  refine takeF 6 10 (fun wq hSw=>(hSw.cell (p:=⟨q,0,none⟩) hql).trans hq) ?_
  refine ready1 5 (fun K hK=>?_)
  go_simp
  refine(HV.out _).mono ?_
  rintro e w' ⟨rfl,rfl⟩
  refine hK.out _ _ hS (fun _=>?_)
  clear hK
  refine takeE 7 11 ?_
  refine takeE 8 12 ?_
  refine takeE 9 3 ?_
  refine wpAnyH_done (by kernel_rfl) ?_ _
  go_wp2_with fail
  go_ret
  exact⟨rfl,hS⟩
 | false=>
  have he:beyB n x=true:=by unfold beyB;rw[hb];rfl
  rw[he]
  rw[hb]at HR
  clear hb he
  go_enter Tryz.func127,Tryz.ntmps127
  go_upto_region 1 with fail
  refine wp_region_held_drew (S:=fun w'=>Below w.heap.size w w') (by kernel_rfl) (mx_drew w) (fun hS=>?_)
  refine takeE 0 4 ?_
  refine ready1 1 (fun K hK=>?_)
  go_simp
  refine(HR.out _).mono ?_
  rintro e w' ⟨rfl,rfl⟩
  refine hK.out _ _ hS (fun _=>?_)
  clear hK
  refine takeE 2 6 ?_
  refine takeE 3 7 ?_
  refine takeU 4 8 ?_
  refine takeU 5 9 ?_
  refine takeU 6 10 ?_
  refine takeU 7 11 ?_
  refine takeE 8 12 ?_
  refine takeE 9 3 ?_
  refine wpAnyH_done (by kernel_rfl) ?_ _
  go_wp2_with fail
  go_ret
  exact⟨rfl,hS⟩
set_option maxHeartbeats 400000 in
theorem form_vars (n:Int) (w:World):Calls Tryz.prog 86 #[.int .i64 n] w fun e w'=>e= .returned (.bool (decide (0≤n)&&decide (n≤1048576)))∧w=w':=by
 cases h1:decide ((0:Int)≤n)with
 | true=>
  go_enter Tryz.func86,Tryz.ntmps86
  go_wp2
  go_ret
  exact⟨rfl,rfl⟩
 | false=>
  go_enter Tryz.func86,Tryz.ntmps86
  go_wp2
  go_ret
  exact⟨rfl,rfl⟩
set_option maxRecDepth 100000 in
set_option maxHeartbeats 2000000 in
theorem form_check {O:Nat→Prop} (n:Int) (lv:Value) (cs:List (List Int)) (w:World) (h:ClsIn O w lv cs) (hc: ∀c∈cs,c.length≤100000000000):
  Calls Tryz.prog 48 #[.agg #[.int .i64 n,lv]] w fun e w'=>e= .returned (.tuple #[.int .i64 (fchk n cs).1,.int .i64 ((fchk n cs).2:Nat)])∧Below w.heap.size w w':=by
 obtain⟨W,hW⟩: ∃W,w.alloc (.cells #[.int .i64 n,lv] 24)=W:=⟨_,rfl⟩
 have hb:Below w.heap.size w W:=by rw[←hW];exact mx_al _ _
 have hn:W.heap[w.heap.size]? =some (.cells #[.int .i64 n,lv] 24 (0,0)):=by rw[←hW];exact World.alloc_heap_new _ _
 have b0:W.cell? ⟨w.heap.size,0,none⟩=some (.int .i64 n):=mx_cell (j:=0) hn
 have b1:W.cell? ⟨w.heap.size,1,none⟩=some lv:=mx_cell (j:=1) hn
 have hlt:=heap_lt hn
 have HW:=Lib.hid hW
 have HB:=Lib.hid hb
 have HC:=Lib.hid (h.below hb)
 have HCL:=Lib.hid hc
 have HV:=Lib.hid (form_vars n W)
 obtain⟨vb,hvb⟩: ∃vb,(decide (0≤n)&&decide (n≤1048576))=vb:=⟨_,rfl⟩
 have HVB:=Lib.hid hvb
 rw[hvb]at HV
 have HF:=Lib.hid (show fchk n cs=if vb=false then(-1,50)else if 262144<cs.length then(-1,5)else fchkGo n 0 cs from by unfold fchk;rw[hvb])
 obtain⟨R,hR⟩: ∃R,fchk n cs=R:=⟨_,rfl⟩
 rw[hR]at HF⊢
 obtain⟨A,c,rfl,hcc,_,_⟩:=h
 clear hb hn hW hc hvb hR
 go_enter Tryz.func48,Tryz.ntmps48
 go_upto_region 1 with fail
 rw[HW.out]
 go_wp2_with fail
 refine HV.out.mono ?_
 rintro e w' ⟨rfl,rfl⟩
 cases vb with
 | false=>
  obtain rfl:=HF.out
  go_wp2_with fail
  go_ret2
  exact⟨rfl,HB.out⟩
 | true=>
  have HF2:=Lib.hid (HF.out.trans (if_neg (by decide)))
  clear HF
  by_cases hl:262144<cs.length
  ·have q1:decide ((262144:Int)<(cs.length:Int))=true:=decide_eq_true (by omega)
   have q1n:decide (262144<cs.length)=true:=decide_eq_true hl
   obtain rfl:=HF2.out.trans (if_pos hl)
   go_wp2_with fail
   go_ret2
   exact⟨rfl,HB.out⟩
  ·have q1:decide ((262144:Int)<(cs.length:Int))=false:=decide_eq_false (by omega)
   have q1n:decide (262144<cs.length)=false:=decide_eq_false hl
   have HF3:=Lib.hid (HF2.out.trans (if_neg hl))
   have hl2:cs.length≤262144:=by omega
   clear HF2 hl
   go_wp2_with fail
   go_loopw [19] (fun i wr=> ∃k:Nat,k≤cs.length∧i= .int .i64 k∧Hid (R=fchkGo n k (cs.drop k))∧Hid (Below W.heap.size W wr)) (fun i _=>cs.length-(intOf i).toNat)
   case atStart=>exact⟨0,Nat.zero_le _,rfl,Lib.hid (by rw[List.drop_zero];exact HF3.out),Lib.hid (Below.refl _ _)⟩
   case round=>
    obtain⟨k,hk,rfl,HE,HK⟩:=hrel
    by_cases hlt2:k<cs.length
    ·obtain⟨x,hxk⟩:=getElem_of hlt2
     obtain⟨A',c',hAc,_,_,hxs⟩:=HC.out
     simp only[Value.slice.injEq,true_and]at hAc
     obtain⟨rfl,rfl⟩:=hAc
     obtain⟨g,o,u,rfl,hg,_,d0,hu⟩:=hxs k x hxk
     have d1:=(HK.out.cell (p:=⟨g,o+k,none⟩) hg).trans d0
     have b2:=(HK.out.cell (p:=⟨w.heap.size,0,none⟩) hlt).trans b0
     have hxl:=HCL.out x (List.mem_of_getElem? hxk)
     have HR:=right_clause u x wr (hu.below HK.out) (by omega)
     have HU:=Lib.hid (hu.below HK.out)
     obtain⟨cb,hcb⟩: ∃cb,clauseB x=cb:=⟨_,rfl⟩
     rw[hcb]at HR
     have HR:=Lib.hid HR
     have hdr:cs.drop k=x::cs.drop (k+1):=by
      rw[List.drop_eq_getElem_cons hlt2]
      rw[List.getElem?_eq_getElem hlt2]at hxk
      rw[Option.some.inj hxk]
     have HE2:=Lib.hid (show R=if cb=false then((k:Int),20)else if x.any (beyB n)=true then((k:Int),51)else fchkGo n (k+1) (cs.drop (k+1))from by
      rw[HE.out,hdr,←hcb]
      rfl)
     clear hxk hxs d0 hu hcb hdr HE
     go_wp2_with fail
     refine HR.out.mono ?_
     rintro e w' ⟨rfl,rfl⟩
     cases cb with
     | false=>
      obtain rfl:=HE2.out
      go_wp2_with fail
      go_ret2
      exact⟨rfl,HB.out.trans (HK.out.mono HB.out.size)⟩
     | true=>
      have HE3:=Lib.hid (HE2.out.trans (if_neg (by decide)))
      clear HE2
      go_wp2_with fail
      refine(beyond_run n wr).mono ?_
      rintro e w2 ⟨q,rfl,hq,hb2⟩
      have HB2:=Lib.hid (HK.out.trans (hb2.mono HK.out.size))
      have hcon:=contains_cf 127 (.pointer (some ⟨q,0,none⟩)) u x (beyB n) w2 (enters_of Tryz.func127 (by kernel_rfl) rfl) (HU.out.below hb2) (by omega) (fun W hb x _=>beyond_one n q x W ((hb.cell (p:=⟨q,0,none⟩) (World.block_lt_of_cell? w2 _ hq)).trans hq))
      obtain⟨z,hz⟩: ∃z,x.any (beyB n)=z:=⟨_,rfl⟩
      rw[hz]at hcon HE3
      have HCON:=Lib.hid hcon
      clear hz hcon hq hb2
      go_wp2_with fail
      refine HCON.out.mono ?_
      rintro e w3 ⟨rfl,hb3⟩
      have HB3:=Lib.hid (HB2.out.trans (hb3.mono HB2.out.size))
      clear hb3 HCON
      cases z with
      | true=>
       obtain rfl:=HE3.out.trans (if_pos rfl)
       go_wp2_with fail
       go_ret2
       exact⟨rfl,HB.out.trans (HB3.out.mono HB.out.size)⟩
      | false=>
       have HE4:=Lib.hid (HE3.out.trans (if_neg (by decide)))
       clear HE3
       go_wp2_with fail
       go_roundw
       case rel=>exact⟨k+1,by omega,by go_num,HE4,HB3⟩
       case measure=>simp[intOf];omega
    ·obtain rfl:k=cs.length:=by omega
     obtain rfl:R=(-1,0):=by rw[HE.out,List.drop_length];rfl
     go_wp2_with fail
     go_ret2
     exact⟨rfl,HB.out.trans (HK.out.mono HB.out.size)⟩
end Go.Proofs.YtajbmjpodeilpaaGreatDoor
namespace Go.Proofs.YtajbmjpodeilpaaGreatDoor
open Go.RowKit Go.Maps
structure NamAt (n0 b:Nat) (w:World) (v:Value) (cs:List (List Int)):Prop where
 ex: ∃vs:List Value,w.ownsRow n0 30 1 v cs.length vs∧vs.length=cs.length∧∀(i:Nat) (d:List Int),cs[i]? =some d→∃u,vs[i]? =some u∧IntsIn (fun g=>g<n0∧g≠b) w u d
theorem NamAt.nil (n0 b:Nat) (w:World):NamAt n0 b w (.slice none 0 0) []:=⟨[],World.ownsRow_nil _ _ _ _,rfl,fun i d h=>by simp at h⟩
theorem NamAt.cls {n0 b:Nat} {w:World} {v:Value} {cs:List (List Int)} (h:NamAt n0 b w v cs) (hb:b<n0):ClsIn (fun g=>g≠b) w v cs:=by
 obtain⟨vs,hrow,hl,hin⟩:=h.ex
 rcases hrow.2 with⟨rfl,h0⟩|⟨g,cap,cur,rfl,hg0,hg,hle,_⟩
 ·exact⟨none,0,by rw[h0],by omega,fun _=>rfl,fun i xs hi=>by
   have:=(List.getElem?_eq_some_iff.1 hi).1
   omega⟩
 ·refine⟨_,cap,rfl,hle,(fun h=>by cases h),fun i xs hi=>?_⟩
  obtain⟨u,hu,ho⟩:=hin i xs hi
  exact⟨g,0,u,rfl,heap_lt hg,by omega,by rw[Nat.zero_add];exact mx_at hrow hu,ho.mono fun _ h=>h.2⟩
theorem NamAt.push {n0 b:Nat} {w w1 w2:World} {v v' u:Value} {cs:List (List Int)} {d:List Int} {vs:List Value} (hrow:w.ownsRow n0 30 1 v cs.length vs) (hl:vs.length=cs.length) (hin: ∀(i:Nat) (d:List Int),cs[i]? =some d→∃u,vs[i]? =some u∧IntsIn (fun g=>g<n0∧g≠b) w u d)
  (hb:Below w.heap.size w w1) (hg:w1.grownBy w2 v.ownBlock) (hu:IntsIn (fun g=>g<n0∧g≠b) w u d) (hown:w2.ownsRow n0 30 1 v' (cs.length+1) (vs++ [u])):NamAt n0 b w2 v' (cs++ [d]):=by
 have hk:Kept (fun g=>n0≤g∨w.heap.size≤g) w w2:=(Kept.of_below hb).trans (Kept.grown hg) (fun i _ e=>.inl (own_lt hrow i e.symm).1)
 have hk2:Kept (fun g=>n0≤g) w w2:=hk.mono fun i hi h=>h.resolve_right (by omega)
 refine⟨vs++ [u],by rw[List.length_append];exact hown,by rw[List.length_append,List.length_append,hl];rfl,fun i e hi=>?_⟩
 rcases Nat.lt_or_ge i cs.length with h|h
 ·rw[List.getElem?_append_left h]at hi
  obtain⟨z,a,q⟩:=hin i e hi
  exact⟨z,by rw[List.getElem?_append_left (by omega)];exact a,q.kept hk2 (fun g hg h=>by omega)⟩
 ·have h2:=(List.getElem?_eq_some_iff.1 hi).1
  rw[List.length_append,List.length_singleton]at h2
  obtain rfl:i=cs.length:=by omega
  rw[List.getElem?_append_right (Nat.le_refl _),Nat.sub_self]at hi
  obtain rfl:=Option.some.inj hi
  exact⟨u,by rw[←hl,List.getElem?_append_right (Nat.le_refl _),Nat.sub_self];rfl,hu.kept hk2 (fun g hg h=>by omega)⟩
theorem named_step {es:Ents} {hs:List Int} {k:Nat} {id:Int} (h:hs[k]? =some id):ckNamed es (hs.drop k)=match getA es id with
  | some c=>c::ckNamed es (hs.drop (k+1))
  | none=> []:=by
 have hlt:=(List.getElem?_eq_some_iff.1 h).1
 rw[List.drop_eq_getElem_cons hlt]
 rw[List.getElem?_eq_getElem hlt]at h
 rw[Option.some.inj h]
 rfl
set_option maxRecDepth 100000 in
set_option maxHeartbeats 4000000 in
theorem ck_named {base:Nat} {O:Nat→Prop} (b:Nat) (k:Ckr) (hv:Value) (hs:List Int) (w:World) (h:CkAt base w b k) (hh:IntsIn O w hv hs) (hwf: ∀x∈hs,(Lit.int .i64 x).wf=true) (hl:hs.length≤1000000):
  Calls Tryz.prog 54 #[.pointer (some ⟨b,0,none⟩),hv] w fun e w'=> ∃v,e= .returned v∧NamAt w.heap.size b w' v (ckNamed k.ents hs)∧Below w.heap.size w w':=by
 obtain⟨mb,K,h⟩:=h
 obtain⟨i0,hi,hz0,hz1,hz2⟩:=info_parts info_cls
 have HM:=Lib.hid h
 have HH:=Lib.hid hh
 have HWF:=Lib.hid hwf
 obtain⟨R,hR⟩: ∃R,ckNamed k.ents hs=R:=⟨_,rfl⟩
 rw[hR]
 have HR:=Lib.hid hR
 obtain⟨A,c,rfl,hc,_,_⟩:=hh
 clear h hwf hR
 go_enter Tryz.func54,Tryz.ntmps54
 go_wp2_with fail
 go_loopw [5,12] (fun v i wr=> ∃(j:Nat) (pre:List (List Int)),j≤hs.length∧i= .int .i64 j∧Hid (pre.length=j)∧Hid (R=pre++ckNamed k.ents (hs.drop j))∧Hid (NamAt w.heap.size b wr v pre)∧Hid (Below w.heap.size w wr)) (fun _ i _=>hs.length-(intOf i).toNat)
 case atStart=>exact⟨0,[],Nat.zero_le _,rfl,Lib.hid rfl,Lib.hid (by rw[List.drop_zero,List.nil_append];exact HR.out.symm),Lib.hid (NamAt.nil _ _ _),Lib.hid (Below.refl _ _)⟩
 case round=>
  obtain⟨j,pre,hj,rfl,HPL,HE,HN,HB⟩:=hrel
  by_cases hlt:j<hs.length
  ·obtain⟨id,hid⟩:=getElem_of hlt
   obtain⟨A',c',hAc,_,_,hxs⟩:=HH.out.below HB.out
   simp only[Value.slice.injEq,true_and]at hAc
   obtain⟨rfl,rfl⟩:=hAc
   obtain⟨g,o,rfl,hg,_,d1⟩:=hxs j id hid
   have hm:=HM.out.below HB.out
   have c0:=hm.cells.1
   have hlk:=hm.look (HWF.out id (List.mem_of_getElem? hid)) true
   have hst:=named_step (es:=k.ents) hid
   rw[hm.get]at hst
   obtain⟨q,hq⟩: ∃q,getA K id=q:=⟨_,rfl⟩
   rw[hq]at hlk hst
   cases q with
   | none=>
    have HE2:=Lib.hid (show R=pre from by rw[HE.out,hst];simp)
    simp only[Option.map_none,Option.getD_none,Option.isSome_none,if_true]at hlk
    obtain⟨vs,hrow,hvl,hin⟩:=HN.out.ex
    obtain⟨Av,cv,rfl,_⟩:=mx_slice hrow
    clear hst hq hxs hid hm hrow hvl hin
    go_wp2_with fail
    go_ret
    exact⟨_,rfl,by rw[HE2.out];exact HN.out,HB.out⟩
   | some p=>
    obtain⟨u,d⟩:=p
    have hrowd:IntsIn (fun g=>base≤g∧g≠b∧g≠mb) wr u d:=hm.rowIn (p:=(id,(u,d))) (getA_some hq)
    have hu:IntsIn (fun g=>g<w.heap.size∧g≠b) wr u d:=by
     have h0:=(HM.out.rowIn (p:=(id,(u,d))) (getA_some hq)).lt
     exact(h0.below HB.out).mono fun g hg=>⟨hg.2,hg.1.2.1⟩
    obtain⟨Au,cu,rfl,_⟩:=hrowd
    have HU:=Lib.hid hu
    have HE2:=Lib.hid (show R=(pre++ [d])++ckNamed k.ents (hs.drop (j+1))from by
     rw[HE.out,hst,List.append_assoc]
     rfl)
    simp only[Option.map_some,Option.getD_some,Option.isSome_some,if_true]at hlk
    obtain⟨vs,hrow,hvl,hin⟩:=HN.out.ex
    rw[HPL.out]at hrow
    obtain⟨Av,cv,rfl,_⟩:=mx_slice hrow
    have HROW:=Lib.hid hrow
    have HIN:=Lib.hid hin
    have HVL:=Lib.hid hvl
    clear hst hq hxs hid hm hrow hvl hin hu HE
    go_wp2_with (at_builtin;refine wpList_append_own_at _ rfl _ _ 22 rfl w.heap.size 30 i0 (.slice none 0 0) 1 24 Tryz.underlying22 hi hz0 hz1 hz2 rfl (by decide) _ j _ rfl (own_below HROW.out (mx_al wr _)) ⟨wr.heap.size,0,none⟩ 1 1 [.slice Au d.length cu] rfl rfl (fun i u hi=>by
     match i,hi with
     | 0,hi=>simp at hi;subst hi;simp[Addr.add]) (fun u hu=>by rw[List.mem_singleton.1 hu];rfl) (by unfold maxLen;omega) (by omega) (by have:=HB.out.size;simp;omega) ?_;intro v' w2 hown hgrow hnl2 hat)
    have HN2:=Lib.hid (NamAt.push (d:=d) (by rw[HPL.out];exact HROW.out) HVL.out HIN.out (mx_al wr _) hgrow HU.out (by rw[HPL.out];exact hown))
    have hkx:Kept (fun g=>w.heap.size≤g) wr w2:=(Kept.of_below (mx_al wr (.cells #[.slice Au d.length cu] 30))).trans (Kept.grown hgrow) (fun i _ e=>(own_lt HROW.out i e.symm).1)
    have HB2:=Lib.hid (HB.out.trans (hkx.below (fun i h=>h) HB.out.size))
    obtain⟨Av2,cv2,rfl,_⟩:=mx_slice hown
    have HPL2:=Lib.hid (show(pre++ [d]).length=j+1 from by rw[List.length_append,HPL.out];rfl)
    clear hown hgrow hnl2 hat hkx hlk c0
    go_wp2_with fail
    go_roundw
    case rel=>exact⟨j+1,pre++ [d],by omega,by go_num,HPL2,HE2,HN2,HB2⟩
    case measure=>simp[intOf];omega
  ·obtain rfl:j=hs.length:=by omega
   have HE2:=Lib.hid (show R=pre from by rw[HE.out,List.drop_length];simp[ckNamed])
   obtain⟨vs,hrow,hvl,hin⟩:=HN.out.ex
   obtain⟨Av,cv,rfl,_⟩:=mx_slice hrow
   clear hrow hvl hin
   go_wp2_with fail
   go_ret
   exact⟨_,rfl,by rw[HE2.out];exact HN.out,HB.out⟩
end Go.Proofs.YtajbmjpodeilpaaGreatDoor
