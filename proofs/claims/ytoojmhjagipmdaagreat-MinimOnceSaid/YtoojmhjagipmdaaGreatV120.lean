/- Levels of literals, in worlds that only grow; how literals that are false are ordered. The stable sort of literals that are false. Plain: what a clause is, by the list of what was assigned; what Add tells. Plain: what a chain of hints gives: all of them serve, and all are needed. Plain: the insertion sort keeps the order of equals: it is the insertion from the right, one after the other. Plain: what comes first among literals, by one look through the list. Plain: the reference's best, and what the watch sorts first. The trail: Lits, the literals from a place on, where a round may write the variables. The trail: Back. -/
import Derived.Test.YtoojmhjagipmdaaGreatV119
import Derived.Shelf.SlSortCmp.Insertion1
import Derived.Sort.LotD3
import Derived.Sort.LotA
import Derived.Test.YtoojmhjagipmdaaGreatV114
import Derived.Test.YtoojmhjagipmdaaGreatV117
import Derived.Test.YtoojmhjagipmdaaGreatV116
import Derived.Test.YtoojmhjagipmdaaGreatV107
import Derived.Test.YtoojmhjagipmdaaGreatV105
import Derived.Laws.EntriesVeiled
namespace Go.Proofs.YtoojmhjagipmdaaGreat
open Go.RowKit Go.Maps Go.Shelf Go.Sort Go.Lib
def Grw (w w':World):Prop:= ∃(q:Nat) (os:Array Obj),w'=grow (w.drewN q) os
theorem Grw.refl (w:World):Grw w w:=⟨0,#[],by rw[grow_empty];rfl⟩
theorem Grw.drewN {w w':World} (h:Grw w w') (n:Nat):Grw w (w'.drewN n):=by
 obtain⟨q,os,rfl⟩:=h
 exact⟨q+n,os,by rw[←World.drewN_drewN];rfl⟩
theorem Grw.drew {w w':World} (h:Grw w w'):Grw w w'.drew:=h.drewN 1
theorem Grw.alloc {w w':World} (h:Grw w w') (o:Obj):Grw w (w'.alloc o):=by
 obtain⟨q,os,rfl⟩:=h
 exact⟨q,os++ #[o],by rw[alloc_eq_grow,grow_grow]⟩
theorem Grw.setCell {w w':World} (h:Grw w w') {g:Nat} (hg:w.heap.size≤g) (o:Nat) (v:Value):Grw w (w'.setCell ⟨g,o,none⟩ v):=by
 obtain⟨q,os,rfl⟩:=h
 exact⟨q,_,by rw[setCell_eq,mapBlock_grow_new _ _ _ _ (show(w.drewN q).heap.size≤g from hg)]⟩
theorem Grw.trans {a b c:World} (h:Grw a b) (k:Grw b c):Grw a c:=by
 obtain⟨q,os,rfl⟩:=h
 obtain⟨q',os',rfl⟩:=k
 refine⟨q+q',os++os',?_⟩
 rw[←World.drewN_drewN]
 show grow (grow ((a.drewN q).drewN q') os) os'=_
 rw[grow_grow]
theorem Grw.size {w w':World} (h:Grw w w'):w.heap.size≤w'.heap.size:=by
 obtain⟨q,os,rfl⟩:=h
 rw[Sort.size_grow]
 show w.heap.size≤w.heap.size+_
 omega
theorem Grw.below {w w':World} (h:Grw w w'):Below w.heap.size w w':=by
 obtain⟨q,os,rfl⟩:=h
 refine⟨rfl,rfl,rfl,Grw.size ⟨q,os,rfl⟩,fun k hk=>?_⟩
 show(w.heap++os)[k]? =_
 rw[Array.getElem?_append_left hk]
set_option maxHeartbeats 1000000 in
theorem tr_why_g {O:Nat→Prop} (b:Nat) (T:Trl) (v:Int) (w:World) (h:TrAt O w b T):
  Calls Tryz.prog 57 #[.pointer (some ⟨b,0,none⟩),.int .i64 v] w fun e w'=>e= .returned (whyVal (T.why v))∧Grw w w':=by
 obtain⟨wa,hwa⟩: ∃x,w.alloc (.cells #[.int .i64 0,.int .i64 0,.int .i64 0] 103)=x:=⟨_,rfl⟩
 have hba:Below w.heap.size w wa:=by rw[←hwa];exact mx_al _ _
 have hga:Grw w wa:=by rw[←hwa];exact(Grw.refl w).alloc _
 have hbn:wa.heap[w.heap.size]? =some (.cells #[.int .i64 0,.int .i64 0,.int .i64 0] 103 (0,0)):=by rw[←hwa];exact World.alloc_heap_new _ _
 have h:=h.below hba
 obtain⟨hk,gv,cv,ov,sv,h⟩:=h
 have hst:=tr_state b T gv cv ov sv v wa hk h
 have e0:wa.cell? ⟨w.heap.size,0,none⟩=some (.int .i64 0):=mx_cell (j:=0) hbn
 have e1:wa.cell? ⟨w.heap.size,1,none⟩=some (.int .i64 0):=mx_cell (j:=1) hbn
 have e2:wa.cell? ⟨w.heap.size,2,none⟩=some (.int .i64 0):=mx_cell (j:=2) hbn
 have f0:=mx_free (j:=0) hbn
 have f1:=mx_free (j:=1) hbn
 have f2:=mx_free (j:=2) hbn
 have HWA:=Lib.hid hwa
 have HGA:=Lib.hid hga
 clear hwa hba hbn hga
 unfold Trl.why
 rcases hat:T.at v with _|s
 ·rw[hat,stateVal_none]at hst
  have HST:=Lib.hid hst
  clear hst hat h hk
  go_enter Tryz.func57,Tryz.ntmps57
  go_wp2_with fail
  rw[HWA.out]
  refine HST.out.mono ?_
  rintro e w' ⟨rfl,rfl⟩
  go_wp2_with fail
  refine bodyPost_ret (v:=.tuple #[.agg #[.int .i64 0,.int .i64 0,.int .i64 0],.bool false]) (by simp[results,Tryz.results57,go_sem,e0,e1,e2]) rfl ⟨rfl,((HGA.out.setCell (Nat.le_refl _) _ _).setCell (Nat.le_refl _) _ _).setCell (Nat.le_refl _) _ _⟩
 ·rw[hat,stateVal_some]at hst
  have hget:=Trl.at_get hat
  obtain⟨c0,c1,c2,c3⟩:=h.var hget
  obtain⟨n,hn⟩: ∃n,v.toNat=n:=⟨_,rfl⟩
  rw[hn]at hst c0 c1 c2 c3
  have HST:=Lib.hid hst
  clear hst hat hget h hk hn
  by_cases hz:s.value=0
  ·have q0:(s.value==0)=true:=by simpa using hz
   have HZ:=Lib.hid hz
   simp only[hz,if_true]
   clear hz
   go_enter Tryz.func57,Tryz.ntmps57
   go_wp2_with fail
   rw[HWA.out]
   refine HST.out.mono ?_
   rintro e w' ⟨rfl,rfl⟩
   go_wp2_with fail
   refine bodyPost_ret (v:=.tuple #[.agg #[.int .i64 0,.int .i64 0,.int .i64 0],.bool false]) (by simp[results,Tryz.results57,go_sem,e0,e1,e2]) rfl ⟨rfl,((HGA.out.setCell (Nat.le_refl _) _ _).setCell (Nat.le_refl _) _ _).setCell (Nat.le_refl _) _ _⟩
  ·have q0:(s.value==0)=false:=by simpa using hz
   simp only[hz,if_false]
   have HZ:=Lib.hid hz
   clear hz
   go_enter Tryz.func57,Tryz.ntmps57
   go_wp2_with fail
   rw[HWA.out]
   refine HST.out.mono ?_
   rintro e w' ⟨rfl,rfl⟩
   go_wp2_with fail
   refine bodyPost_ret (v:=.tuple #[.agg #[.int .i64 s.level,.int .i64 s.reason,.int .i64 s.place],.bool true]) (by simp[results,Tryz.results57,go_sem,e0,e1,e2]) rfl ⟨rfl,((HGA.out.setCell (Nat.le_refl _) _ _).setCell (Nat.le_refl _) _ _).setCell (Nat.le_refl _) _ _⟩
theorem tr_level_g {O:Nat→Prop} (b:Nat) (T:Trl) (v:Int) (w:World) (h:TrAt O w b T):
  Calls Tryz.prog 89 #[.pointer (some ⟨b,0,none⟩),.int .i64 v] w fun e w'=>e= .returned (.tuple #[.int .i64 (T.level v),.bool (T.why v).isSome])∧Grw w w':=by
 have hc:=tr_why_g b T v w h
 unfold Trl.level
 rcases hw:T.why v with _|s
 ·rw[hw,show whyVal none= .tuple #[.agg #[.int .i64 0,.int .i64 0,.int .i64 0],.bool false]from rfl]at hc
  have HC:=Lib.hid hc
  clear hc hw
  go_enter Tryz.func89,Tryz.ntmps89
  go_wp2_with fail
  refine HC.out.mono ?_
  rintro e w' ⟨rfl,hb'⟩
  have HB':=Lib.hid hb'
  clear hb'
  go_wp2_with fail
  go_ret2
  exact⟨rfl,HB'.out.alloc _⟩
 ·rw[hw,show whyVal (some s)= .tuple #[.agg #[.int .i64 s.level,.int .i64 s.reason,.int .i64 s.place],.bool true]from rfl]at hc
  have HC:=Lib.hid hc
  clear hc hw
  go_enter Tryz.func89,Tryz.ntmps89
  go_wp2_with fail
  refine HC.out.mono ?_
  rintro e w' ⟨rfl,hb'⟩
  have HB':=Lib.hid hb'
  clear hb'
  go_wp2_with fail
  go_ret2
  exact⟨rfl,HB'.out.alloc _⟩
theorem ord_nan (x:Int) (w:World):Calls Tryz.prog 155 #[.int .i64 x] w fun e w'=>e= .returned (.bool false)∧w=w':=by
 have hx:(x != x)=false:=by simp
 go_enter Tryz.func155,Tryz.ntmps155
 go_wp2_with fail
 go_ret
 exact⟨rfl,rfl⟩
theorem ord_int (x y:Int) (w:World):Calls Tryz.prog 121 #[.int .i64 x,.int .i64 y] w fun e w'=>e= .returned (.int .i64 (ordI x y))∧w=w':=by
 have HX:=Lib.hid (ord_nan x w)
 have HY:=Lib.hid (ord_nan y w)
 unfold ordI
 by_cases h1:x<y
 ·have q1:decide (x<y)=true:=by simpa using h1
  rw[if_pos h1]
  go_enter Tryz.func121,Tryz.ntmps121
  go_wp2_with fail
  refine HX.out.mono ?_
  rintro e w' ⟨rfl,rfl⟩
  go_wp2_with fail
  refine HY.out.mono ?_
  rintro e w' ⟨rfl,rfl⟩
  go_wp2_with fail
  go_ret
  exact⟨rfl,rfl⟩
 ·have q1:decide (x<y)=false:=by simpa using h1
  rw[if_neg h1]
  by_cases h2:y<x
  ·have q2:decide (y<x)=true:=by simpa using h2
   rw[if_pos h2]
   go_enter Tryz.func121,Tryz.ntmps121
   go_wp2_with fail
   refine HX.out.mono ?_
   rintro e w' ⟨rfl,rfl⟩
   go_wp2_with fail
   refine HY.out.mono ?_
   rintro e w' ⟨rfl,rfl⟩
   go_wp2_with fail
   go_ret
   exact⟨rfl,rfl⟩
  ·have q2:decide (y<x)=false:=by simpa using h2
   rw[if_neg h2]
   go_enter Tryz.func121,Tryz.ntmps121
   go_wp2_with fail
   refine HX.out.mono ?_
   rintro e w' ⟨rfl,rfl⟩
   go_wp2_with fail
   refine HY.out.mono ?_
   rintro e w' ⟨rfl,rfl⟩
   go_wp2_with fail
   go_ret
   exact⟨rfl,rfl⟩
set_option maxRecDepth 100000 in
set_option maxHeartbeats 2000000 in
theorem wa_level {O:Nat→Prop} (b tb:Nat) (T:Trl) (l:Int) (w:World) (h:TrAt O w tb T) (c1:w.cell? ⟨b,1,none⟩=some (.pointer (some ⟨tb,0,none⟩))):
  Calls Tryz.prog 147 #[.pointer (some ⟨b,0,none⟩),.int .i64 l] w fun e w'=>e= .returned (.int .i64 (T.level (litV l:Nat)))∧Grw w w':=by
 have hlt:b<w.heap.size:=World.block_lt_of_cell? w _ c1
 have HL:=Lib.hid (tr_level_g tb T (litV l:Nat) w.drew (h.below (mx_drew w)))
 have HV:=Lib.hid (lit_var l w.drew)
 obtain⟨v,hv⟩: ∃v:Int,((litV l:Nat):Int)=v:=⟨_,rfl⟩
 rw[hv]at HL HV⊢
 obtain⟨q,hq⟩: ∃q,(T.why v).isSome=q:=⟨_,rfl⟩
 obtain⟨y,hy⟩: ∃y,T.level v=y:=⟨_,rfl⟩
 rw[hq,hy]at HL
 rw[hy]
 have HC:=Lib.hid c1
 clear h hv hq hy c1
 go_enter Tryz.func147,Tryz.ntmps147
 go_upto_region 1 with fail
 refine wp_region_held_drew (S:=fun w'=>Below w.heap.size w w') (by kernel_rfl) (mx_drew w) (fun hS=>?_)
 refine takeE 0 8 ?_
 refine takeE 1 9 ?_
 refine takeE 2 10 ?_
 refine takeF 3 11 (fun wq hSw=>(hSw.cell (p:=⟨b,1,none⟩) hlt).trans HC.out) ?_
 refine takeE 4 12 ?_
 refine ready1 5 (fun K hK=>?_)
 go_simp
 refine HV.out.mono ?_
 rintro e w' ⟨rfl,rfl⟩
 refine hK.out _ _ hS (fun _=>?_)
 clear hK
 refine ready1 6 (fun K hK=>?_)
 go_simp
 refine HL.out.mono ?_
 rintro e w1 ⟨rfl,hg⟩
 refine hK.out _ _ (hS.trans (hg.below.mono hS.size)) (fun _=>?_)
 clear hK hS
 have HG:=Lib.hid ((Grw.refl w).drew.trans hg)
 have hS:Below w.heap.size w w1:=HG.out.below
 clear hg
 refine takeE 7 7 ?_
 refine takeE 8 15 ?_
 refine takeE 9 16 ?_
 refine takeE 10 5 ?_
 refine takeE 11 6 ?_
 refine wpAnyH_done (by kernel_rfl) ?_ _
 clear hS
 go_wp2_with fail
 go_ret
 exact⟨rfl,HG.out⟩
end Go.Proofs.YtoojmhjagipmdaaGreat
namespace Go.Proofs.YtoojmhjagipmdaaGreat
open Go.RowKit Go.Maps Go.Shelf Go.Sort Go.Lib
theorem lvOrd_lt (T:Trl) (a b:Int):ltOf T.lvOrd a b=decide (T.level (litV b:Nat)<T.level (litV a:Nat)):=by
 unfold ltOf Trl.lvOrd ordI
 split
 ·rename_i h
  simp[h]
 ·rename_i h
  split
  ·simp[h]
  ·simp[h]
theorem lvOrd_swo (T:Trl):SWO (ltOf T.lvOrd) where
 irrefl:=fun a=>by rw[lvOrd_lt];simp
 trans:=fun a b c h1 h2=>by
  rw[lvOrd_lt,decide_eq_true_eq]at *
  omega
 ntrans:=fun a b c h1 h2=>by
  rw[lvOrd_lt,decide_eq_false_iff_not]at *
  omega
theorem stab_permIn (T:Trl) (xs:List Int):PermIn 0 xs.toArray.size xs.toArray (Sort.insertionSort (ltOf T.lvOrd) xs.toArray 0 xs.length):=by
 have:=(insertionSort_holds (lvOrd_swo T) xs.toArray 0 xs.toArray.size (Nat.zero_le _) (Nat.le_refl _)).1
 simpa using this
theorem stab_length (T:Trl) (xs:List Int):(T.stab xs).length=xs.length:=by
 have:=(stab_permIn T xs).1
 unfold Trl.stab
 rw[Array.length_toList,this]
 simp
theorem stab_perm (T:Trl) (xs:List Int):(T.stab xs).Perm xs:=by
 obtain⟨h1,_,h2⟩:=stab_permIn T xs
 rw[Array.extract_eq_self_of_le (by rw[h1];exact Nat.le_refl _),Array.extract_eq_self_of_le (Nat.le_refl _)]at h2
 exact h2
theorem stab_mem {T:Trl} {xs:List Int} {x:Int}:x∈T.stab xs↔x∈xs:=(stab_perm T xs).mem_iff
set_option maxRecDepth 100000 in
set_option maxHeartbeats 2000000 in
theorem wa_cmp {O:Nat→Prop} (b tb Bw:Nat) (T:Trl) (x y:Int) (w:World) (hT:TrAt O w tb T) (c0:w.cell? ⟨Bw,0,none⟩=some (.pointer (some ⟨b,0,none⟩))) (c1:w.cell? ⟨b,1,none⟩=some (.pointer (some ⟨tb,0,none⟩))):
  Calls Tryz.prog 146 #[.int .i64 x,.int .i64 y,.pointer (some ⟨Bw,0,none⟩)] w fun e w'=>e= .returned (.int .i64 (T.lvOrd x y))∧Grw w w':=by
 have hl0:Bw<w.heap.size:=World.block_lt_of_cell? w _ c0
 have hl1:b<w.heap.size:=World.block_lt_of_cell? w _ c1
 have HX:=Lib.hid (fun(W:World) (h:Below w.heap.size w W)=>wa_level b tb T x W (hT.below h) ((h.cell (p:=⟨b,1,none⟩) hl1).trans c1))
 have HY:=Lib.hid (fun(W:World) (h:Below w.heap.size w W)=>wa_level b tb T y W (hT.below h) ((h.cell (p:=⟨b,1,none⟩) hl1).trans c1))
 unfold Trl.lvOrd
 obtain⟨p,hp⟩: ∃p,T.level (litV x:Nat)=p:=⟨_,rfl⟩
 obtain⟨q,hq⟩: ∃q,T.level (litV y:Nat)=q:=⟨_,rfl⟩
 rw[hp]at HX⊢
 rw[hq]at HY⊢
 have HC:=Lib.hid c0
 clear hT hp hq c0 c1
 go_enter Tryz.func146,Tryz.ntmps146
 go_upto_region 1 with fail
 refine wp_region_held_drew (S:=fun w'=>Below w.heap.size w w') (by kernel_rfl) (mx_drew w) (fun hS=>?_)
 refine takeF 0 6 (fun wq hSw=>(hSw.cell (p:=⟨Bw,0,none⟩) hl0).trans HC.out) ?_
 refine takeE 1 7 ?_
 refine takeF 3 9 (fun wq hSw=>(hSw.cell (p:=⟨Bw,0,none⟩) hl0).trans HC.out) ?_
 refine takeE 4 10 ?_
 refine ready1 2 (fun K hK=>?_)
 go_simp
 refine(HY.out _ hS).mono ?_
 rintro e w1 ⟨rfl,hg⟩
 refine hK.out _ _ (hS.trans (hg.below.mono hS.size)) (fun _=>?_)
 clear hK hS
 have HG:=Lib.hid ((Grw.refl w).drew.trans hg)
 have hS:Below w.heap.size w w1:=HG.out.below
 clear hg
 refine ready1 5 (fun K hK=>?_)
 go_simp
 refine(HX.out _ hS).mono ?_
 rintro e w2 ⟨rfl,hg⟩
 refine hK.out _ _ (hS.trans (hg.below.mono hS.size)) (fun _=>?_)
 clear hK hS
 have HG2:=Lib.hid (HG.out.trans hg)
 have hS:Below w.heap.size w w2:=HG2.out.below
 clear hg
 refine ready1 6 (fun K hK=>?_)
 go_simp
 refine(ord_int q p w2).mono ?_
 rintro e w' ⟨rfl,rfl⟩
 refine hK.out _ _ hS (fun _=>?_)
 clear hK
 refine takeE 7 5 ?_
 refine wpAnyH_done (by kernel_rfl) ?_ _
 clear hS
 go_wp2_with fail
 go_ret
 exact⟨rfl,HG2.out⟩
theorem wa_cmp_lays {O:Nat→Prop} (b tb Bw:Nat) (T:Trl) (w:World) (hT:TrAt O w tb T) (c0:w.cell? ⟨Bw,0,none⟩=some (.pointer (some ⟨b,0,none⟩))) (c1:w.cell? ⟨b,1,none⟩=some (.pointer (some ⟨tb,0,none⟩))) (g size:Nat) (hg: ¬O g∧Bw≠g∧b≠g):
  CmpLays1 Tryz.prog 146 #[.pointer (some ⟨Bw,0,none⟩)] (Value.int .i64) T.lvOrd g 0 size w:=by
 intro m os dk _ x y
 have hk:Kept (fun k=>some g=some k) w (sortWorld (Value.int .i64) w g 0 m dk os):=st_kept dk
 have hl0:Bw<w.heap.size:=World.block_lt_of_cell? w _ c0
 have hl1:b<w.heap.size:=World.block_lt_of_cell? w _ c1
 refine(wa_cmp b tb Bw T x y (sortWorld (Value.int .i64) w g 0 m dk os) (hT.kept hk (fun k hk e=>hg.1 ((Option.some.inj e).symm▸hk))) ((hk.cell (p:=⟨Bw,0,none⟩) hl0 (fun e=>hg.2.1 (Option.some.inj e).symm)).trans c0) ((hk.cell (p:=⟨b,1,none⟩) hl1 (fun e=>hg.2.2 (Option.some.inj e).symm)).trans c1)).mono ?_
 rintro e w' ⟨rfl,q,os',rfl⟩
 exact⟨rfl,q,os',rfl⟩
set_option maxRecDepth 100000 in
set_option maxHeartbeats 2000000 in
theorem wa_ins {O:Nat→Prop} {base:Nat} (b tb Bw:Nat) (T:Trl) (v:Value) (xs:List Int) (w:World) (hT:TrAt O w tb T) (c0:w.cell? ⟨Bw,0,none⟩=some (.pointer (some ⟨b,0,none⟩))) (c1:w.cell? ⟨b,1,none⟩=some (.pointer (some ⟨tb,0,none⟩)))
  (h:w.ownsRow base 32 1 v xs.length (xs.map (Value.int .i64))) (hv: ∀g,v.ownBlock=some g→¬O g∧Bw≠g∧b≠g) (hl:xs.length<1000000):
  Calls Tryz.prog 193 #[v,.int .i64 0,.int .i64 (xs.length:Nat),.func (.func 146) #[] #[.pointer (some ⟨Bw,0,none⟩)]] w fun e w'=>e= .returned (.tuple #[])∧w'.ownsRow base 32 1 v (T.stab xs).length ((T.stab xs).map (Value.int .i64))∧Kept (fun g=>v.ownBlock=some g) w w':=by
 rcases h.2 with⟨rfl,h0⟩|⟨g,cap,cur,rfl,hb,hg,h1,h2,h3,h4⟩
 ·obtain rfl:xs= []:=List.eq_nil_of_length_eq_zero h0
  have hs:T.stab []= []:=List.eq_nil_of_length_eq_zero (by rw[stab_length];rfl)
  rw[hs]
  have HO:=Lib.hid h
  clear h hv hT c0 c1 hl h0 hs
  show Calls Tryz.prog _ #[.slice none 0 0,.int .i64 0,.int .i64 0,_] w _
  go_enter Tryz.func193,Tryz.ntmps193
  go_wp2_with fail
  go_loopw [8] (fun iv wq=>iv= .int .i64 1∧wq=w) (fun _ _=>0)
  case atStart=>exact⟨rfl,rfl⟩
  case round=>
   obtain⟨rfl,rfl⟩:=hrel
   go_wp2_with fail
   go_end0
   exact⟨rfl,HO.out,Kept.refl _ _⟩
 ·have eg: ∀args w,(callFunc 146 args).run Tryz.prog w= .ok (.enter 146 args) w:=enters_of Tryz.func146 (by kernel_rfl) rfl
  have hH:Holds (Value.int .i64) w g 0 xs.toArray:=st_holds hg (by simpa using h4)
  have H:=Any.insertionSortCmpFunc_s Tryz.insLit (Value.int .i64) T.lvOrd 146 #[.pointer (some ⟨Bw,0,none⟩)] g 0 cap 0 xs.length xs.toArray xs.toArray w w eg (wa_cmp_lays b tb Bw T w hT c0 c1 g _ (hv g rfl)) ⟨fun _=>rfl,hH,heap_lt hg⟩ rfl (SW.start hH) (Nat.zero_le _) (by simp) (by simp;omega)
  change Calls Tryz.prog 193 _ _ _ at H
  rw[List.size_toArray]at H
  refine H.mono ?_
  rintro e w' ⟨rfl,n,os,rfl⟩
  refine⟨rfl,?_,st_kept _⟩
  have hsl:=stab_length T xs
  have e1:Sort.insertionSort (ltOf T.lvOrd) xs.toArray 0 xs.length=(T.stab xs).toArray:=by unfold Trl.stab;simp
  rw[e1,hsl]
  refine⟨by simp[hsl],.inr ⟨g,cap,_,rfl,hb,st_heap _ hg,h1,h2,by simp[putCells,h3],?_⟩⟩
  have e2:xs.length*1=(T.stab xs).length:=by rw[hsl,Nat.mul_one]
  rw[e2]
  exact st_take cur (T.stab xs) (by rw[hsl];omega)
set_option maxRecDepth 100000 in
set_option maxHeartbeats 2000000 in
theorem wa_stable {O:Nat→Prop} {base:Nat} (b tb Bw:Nat) (T:Trl) (v:Value) (xs:List Int) (w:World) (hT:TrAt O w tb T) (c0:w.cell? ⟨Bw,0,none⟩=some (.pointer (some ⟨b,0,none⟩))) (c1:w.cell? ⟨b,1,none⟩=some (.pointer (some ⟨tb,0,none⟩)))
  (h:w.ownsRow base 32 1 v xs.length (xs.map (Value.int .i64))) (hv: ∀g,v.ownBlock=some g→¬O g∧Bw≠g∧b≠g) (hl:xs.length<20):
  Calls Tryz.prog 145 #[v,.func (.func 146) #[] #[.pointer (some ⟨Bw,0,none⟩)]] w fun e w'=>e= .returned (.tuple #[])∧w'.ownsRow base 32 1 v (T.stab xs).length ((T.stab xs).map (Value.int .i64))∧Kept (fun g=>v.ownBlock=some g) w w':=by
 have HI:=Lib.hid (wa_ins b tb Bw T v xs w hT c0 c1 h hv (by omega))
 obtain⟨A,c,rfl,_⟩:=mx_slice h
 obtain⟨n,hn⟩: ∃n,xs.length=n:=⟨_,rfl⟩
 rw[hn]at HI hl⊢
 have hq1:decide ((20:Int)≤(n:Int))=false:=by simp;omega
 have hq2:decide ((20:Int)<(n:Int))=false:=by simp;omega
 have HS:=Lib.hid (show Calls Tryz.prog 179 #[.slice A n c,.int .i64 (n:Nat),.func (.func 146) #[] #[.pointer (some ⟨Bw,0,none⟩)]] w fun e w'=>e= .returned (.tuple #[])∧w'.ownsRow base 32 1 (.slice A n c) (T.stab xs).length ((T.stab xs).map (Value.int .i64))∧Kept (fun g=>(Value.slice A n c).ownBlock=some g) w w' from by
  clear hT c0 c1 h hv hn
  go_enter Tryz.func179,Tryz.ntmps179
  go_wp2_with fail
  go_loopw [7,8] (fun a i wq=>a= .int .i64 0∧i= .int .i64 20∧wq=w) (fun _ _ _=>0)
  case atStart=>exact⟨rfl,rfl,rfl⟩
  case round=>
   obtain⟨rfl,rfl,rfl⟩:=hrel
   go_wp2_with fail
   refine HI.out.mono ?_
   rintro e w1 ⟨rfl,hr,hk⟩
   have HR:=Lib.hid hr
   have HK:=Lib.hid hk
   clear hr hk
   go_wp2_with fail
   go_loopw [6] (fun s wq=>s= .int .i64 20∧wq=w1) (fun _ _=>0)
   case atStart=>exact⟨rfl,rfl⟩
   case round=>
    obtain⟨rfl,rfl⟩:=hrel
    go_wp2_with fail
    go_end0
    exact⟨rfl,HR.out,HK.out⟩)
 clear hT c0 c1 h hv hn HI hq1 hq2
 go_enter Tryz.func145,Tryz.ntmps145
 go_wp2_with fail
 refine HS.out.mono ?_
 rintro e w1 ⟨rfl,hr,hk⟩
 have HR:=Lib.hid hr
 have HK:=Lib.hid hk
 clear hr hk
 go_wp2_with fail
 go_end0
 exact⟨rfl,HR.out,HK.out⟩
end Go.Proofs.YtoojmhjagipmdaaGreat
namespace Go.Proofs.YtoojmhjagipmdaaGreat
open Go.RowKit
theorem k_inj {its:List RIt} (hn:(its.map fun x=>litV x.lit).Nodup) {p q:Nat} {x y:RIt} (hp:its[p]? =some x) (hq:its[q]? =some y) (e:litV x.lit=litV y.lit):p=q:=by
 rw[List.Nodup,List.pairwise_iff_getElem]at hn
 obtain⟨h1,h2⟩:=List.getElem?_eq_some_iff.1 hp
 obtain⟨h3,h4⟩:=List.getElem?_eq_some_iff.1 hq
 rcases Nat.lt_trichotomy p q with h|h|h
 ·refine absurd ?_ (hn p q (by simpa using h1) (by simpa using h3) h)
  rw[List.getElem_map,List.getElem_map,h2,h4,e]
 ·exact h
 ·refine absurd ?_ (hn q p (by simpa using h3) (by simpa using h1) h)
  rw[List.getElem_map,List.getElem_map,h2,h4,e]
theorem k_its {its:List RIt} (hl: ∀x∈its,litB x.lit=true) (hn:(its.map fun x=>litV x.lit).Nodup): ∃f,asgF (its.map RIt.lit)=some f∧∀y,litB y=true→((0<ofF f y↔Has its y)∧(ofF f y<0↔Has its (-y))):=by
 obtain⟨f,e,h1,h2⟩:=k_asg (its.map RIt.lit) (fun _=>0) (fun x hx=>by
  obtain⟨z,hz,rfl⟩:=List.mem_map.1 hx
  exact hl z hz) (by rw[List.map_map];exact hn) (fun _ _=>rfl)
 refine⟨f,e,fun y hy=>?_⟩
 have hb:=(litB_iff y).1 hy
 by_cases hex: ∃(p:Nat) (x:RIt),its[p]? =some x∧litV x.lit=litV y
 ·obtain⟨p,x,hp,hv⟩:=hex
  have hx:=List.mem_of_getElem? hp
  obtain⟨a1,a2⟩:=h2 x.lit (List.mem_map_of_mem hx)
  have one: ∀z,litV z=litV y→Has its z→x.lit=z:=fun z hz ⟨q,w,hq,hw⟩=>by
   have:=k_inj hn hp hq (by rw[hv,hw,hz])
   subst this
   rw[hp]at hq
   obtain rfl:=Option.some.inj hq
   exact hw
  rcases litV_two (hl x hx) hv with e2|e2
  ·rw[←e2]at a1
   constructor
   ·exact⟨fun _=>⟨p,x,hp,e2.symm⟩,fun _=>by omega⟩
   ·refine⟨fun h=>by omega,fun h=>?_⟩
    have:=one (-y) (litV_negate y) h
    omega
  ·rw[←e2]at a2
   constructor
   ·refine⟨fun h=>by omega,fun h=>?_⟩
    have:=one y rfl h
    omega
   ·exact⟨fun _=>⟨p,x,hp,by omega⟩,fun _=>by omega⟩
 ·have h0:ofF f y=0:=by
   rw[h1 y (fun x hx=>by
    obtain⟨z,hz,rfl⟩:=List.mem_map.1 hx
    obtain⟨p,hp,e3⟩:=List.getElem_of_mem hz
    exact fun e4=>hex ⟨p,z,by rw[List.getElem?_eq_getElem hp,e3],e4⟩)]
   unfold ofF
   split <;> rfl
  constructor
  ·exact⟨fun h=>by omega,fun⟨p,x,hp,hx⟩=>absurd ⟨p,x,hp,by rw[hx]⟩ hex⟩
  ·exact⟨fun h=>by omega,fun⟨p,x,hp,hx⟩=>absurd ⟨p,x,hp,by rw[hx,litV_negate]⟩ hex⟩
inductive AddK (T:Trl) (c:List Int) (f:Int→Int):Prop
 | fails (hk:addKind T (addTwo T c)=3) (hl:lookF f c=(2,0)) (hall: ∀y∈c,T.fal y=true)
 | unit (a:Int) (hk:addKind T (addTwo T c)=2) (hl:lookF f c=(3,a)) (ha:a∈c) (hf:T.fal a=false) (ht:T.tru a=false) (hh:(addTwo T c).headD 0=a) (ho: ∀y∈c,y≠a→T.fal y=true)
 | holds (hk:addKind T (addTwo T c)=1) (hl:lookF f c=(1,0)) (ht: ∃y∈c,T.tru y=true)
 | opens (hk:addKind T (addTwo T c)=1) (hl:lookF f c=(4,0)) (ht: ∀y∈c,T.tru y=false)
theorem add_kind {T:Trl} {its:List RIt} {c:List Int} {f:Int→Int} (hs:Sim T its) (hc: ∀y∈c,litB y=true) (hf: ∀y,litB y=true→((0<ofF f y↔Has its y)∧(ofF f y<0↔Has its (-y)))):AddK T c f:=by
 have tr: ∀y∈c,(0<ofF f y↔T.tru y=true):=fun y hy=>(hf y (hc y hy)).1.trans (hs.tru_iff (hc y hy)).symm
 have fa: ∀y∈c,(ofF f y<0↔T.fal y=true):=fun y hy=>(hf y (hc y hy)).2.trans (hs.fal_iff (hc y hy)).symm
 have fz: ∀y∈c,T.fal y=false→T.tru y=false→ofF f y=0:=fun y hy h1 h2=>by
  have a1: ¬0<ofF f y:=fun h=>by rw[(tr y hy).1 h]at h2;cases h2
  have a2: ¬ofF f y<0:=fun h=>by rw[(fa y hy).1 h]at h1;cases h1
  omega
 have nz: ∀y∈c,y≠0:=fun y hy=>by
  have:=(litB_iff y).1 (hc y hy)
  omega
 have hin: ∀y,y∈(eachL c).filter (fun x=> !T.fal x)↔y∈c∧T.fal y=false:=fun y=>by
  rw[List.mem_filter,eachL_mem,Bool.not_eq_true']
 have hst: ∀y,y∈T.stab ((eachL c).filter T.fal)→T.fal y=true:=fun y hy=>(List.mem_filter.1 (stab_mem.1 hy)).2
 have htwo:addTwo T c=((eachL c).filter (fun x=> !T.fal x)++T.stab ((eachL c).filter T.fal)).take 2:=rfl
 have hnd:((eachL c).filter (fun x=> !T.fal x)).Nodup:=(eachL_nodup c).filter _
 cases hnf:(eachL c).filter (fun x=> !T.fal x)with
 | nil=>
  rw[hnf]at hin htwo
  have hall: ∀y∈c,T.fal y=true:=fun y hy=>by
   cases h:T.fal y with
   | true=>rfl
   | false=>cases (hin y).2 ⟨hy,h⟩
  refine .fails ?_ (k_fail fun y hy=>(fa y hy).2 (hall y hy)) hall
  rw[htwo,List.nil_append]
  cases hs2:T.stab ((eachL c).filter T.fal)with
  | nil=>rfl
  | cons s r=>
   rw[hs2]at hst
   have:=hst s List.mem_cons_self
   cases r with
   | nil=>show(if T.fal s=true then 3 else _)=3;rw[if_pos this]
   | cons s2 r=>show(if T.fal s=true then 3 else _)=3;rw[if_pos this]
 | cons a r=>
  rw[hnf]at hin htwo hnd
  have ha:=(hin a).1 List.mem_cons_self
  cases r with
  | nil=>
   have ho: ∀y∈c,y≠a→T.fal y=true:=fun y hy hne=>by
    cases h:T.fal y with
    | true=>rfl
    | false=>exact absurd (List.mem_singleton.1 ((hin y).2 ⟨hy,h⟩)) hne
   have hkind:addKind T (addTwo T c)=if T.tru a=true then 1 else 2:=by
    rw[htwo]
    cases hs2:T.stab ((eachL c).filter T.fal)with
    | nil=>
     show(if T.fal a=true then 3 else if T.tru a=true then 1 else 2)=_
     rw[ha.2]
     rfl
    | cons s r=>
     rw[hs2]at hst
     have hfs:=hst s List.mem_cons_self
     show(if T.fal a=true then 3 else if T.tru a=true∨T.fal s=false then 1 else 2)=_
     rw[ha.2,hfs]
     simp
   have hhd:(addTwo T c).headD 0=a:=by rw[htwo];rfl
   cases ht:T.tru a with
   | true=>
    rw[ht]at hkind
    exact .holds hkind (k_hold ⟨a,ha.1,(tr a ha.1).2 ht⟩ _ _) ⟨a,ha.1,ht⟩
   | false=>
    rw[ht]at hkind
    exact .unit a hkind (k_unit ha.1 (fz a ha.1 ha.2 ht) (fun y hy hne=>(fa y hy).2 (ho y hy hne)) nz) ha.1 ha.2 ht hhd ho
  | cons b r=>
   have hb:=(hin b).1 (List.mem_cons_of_mem _ List.mem_cons_self)
   have hab:a≠b:=fun e=>(List.nodup_cons.1 hnd).1 (e▸List.mem_cons_self)
   have hkind:addKind T (addTwo T c)=1:=by
    rw[htwo]
    show(if T.fal a=true then 3 else if T.tru a=true∨T.fal b=false then 1 else 2)=_
    rw[ha.2,hb.2]
    simp
   by_cases hex: ∃y∈c,T.tru y=true
   ·obtain⟨y,hy,ht⟩:=hex
    exact .holds hkind (k_hold ⟨y,hy,(tr y hy).2 ht⟩ _ _) ⟨y,hy,ht⟩
   ·have hno: ∀y∈c,T.tru y=false:=fun y hy=>by
     cases h:T.tru y with
     | true=>exact absurd ⟨y,hy,h⟩ hex
     | false=>rfl
    refine .opens hkind (k_open hab ha.1 hb.1 (fz a ha.1 ha.2 (hno a ha.1)) (fz b hb.1 hb.2 (hno b hb.1)) (fun y hy h=>?_) nz) hno
    have:=hno y hy
    rw[(tr y hy).1 h]at this
    cases this
end Go.Proofs.YtoojmhjagipmdaaGreat
namespace Go.Proofs.YtoojmhjagipmdaaGreat
open Go.RowKit
theorem has_two {T:Trl} {its:List RIt} (h:Sim T its) {y:Int} (hy:litB y=true) (h1:Has its y) (h2:Has its (-y)):False:=by
 obtain⟨p,x,hp,e⟩:=h1
 obtain⟨q,z,hq,e2⟩:=h2
 have:=h.inj hp hq (by rw[e,e2,litV_negate])
 subst this
 rw[hp]at hq
 obtain rfl:=Option.some.inj hq
 have:=(litB_iff y).1 hy
 omega
def rcAt (C:Int→Option (List Int)) (its:List RIt) (r:Nat):List Int:=(C (rsAt its r)).getD []
def FitB (C:Int→Option (List Int)):Prop:= ∀id c,C id=some c→clauseB c=true
theorem FitB.lit {C:Int→Option (List Int)} (h:FitB C) {id:Int} {c:List Int} (hc:C id=some c) {y:Int} (hy:y∈c):litB y=true:=by
 have:=h id c hc
 unfold clauseB at this
 rw[Bool.and_eq_true]at this
 exact List.all_eq_true.1 this.2 y hy
section
variable {C:Int→Option (List Int)} {T:Trl} {its:List RIt} {L c:List Int} {R:List Nat}
theorem Chain.at (h:Chain C its L c R) {r:Nat} (hr:r∈R): ∃(z:RIt) (d:List Int),its[r]? =some z∧litAt its r=z.lit∧rcAt C its r=d∧C (rsAt its r)=some d∧z.lit∈d∧∀y∈d,y≠z.lit→∃q,q<r∧litAt its q= -y∧(q∈R∨y∈L):=by
 obtain⟨z,d,h1,h2,h3,h4⟩:=h.rs r hr
 refine⟨z,d,h1,litAt_eq h1,by unfold rcAt;rw[rsAt_eq h1,h2];rfl,by rw[rsAt_eq h1,h2],h3,fun y hy hne=>?_⟩
 obtain⟨q,x,a1,a2,a3,a4⟩:=h4 y hy hne
 exact⟨q,a1,by rw[litAt_eq a2,a3],a4⟩
theorem Chain.no (h:Chain C its L c R) (hs:Sim T its): ∀y∈L,-y∉L:=fun y hy hn=>by
 obtain⟨p,x,hp,e⟩:=h.fal y hy
 have hb:=(at_fal hs hp e).1
 refine has_two hs hb ?_ (h.fal y hy)
 have:=h.fal _ hn
 rwa [Int.neg_neg]at this
end
end Go.Proofs.YtoojmhjagipmdaaGreat
namespace Go.Proofs.YtoojmhjagipmdaaGreat
open Go.RowKit Go.Sort
def insRev (lt:Int→Int→Bool) (x:Int):List Int→List Int
 | []=> [x]
 | y::r=>if lt x y=true then y::insRev lt x r else x::y::r
end Go.Proofs.YtoojmhjagipmdaaGreat
namespace Go.Proofs.YtoojmhjagipmdaaGreat
open Go.RowKit
section
variable (lv:Int→Int)
def insL (x:Int) (r:List Int):List Int:=insRev (fun x y=>decide (lv y<lv x)) x r
def SrtL (r:List Int):Prop:=r.Pairwise fun a b=>lv a≤lv b
end
end Go.Proofs.YtoojmhjagipmdaaGreat
namespace Go.Proofs.YtoojmhjagipmdaaGreat
open Go.RowKit
section
variable (lv:Int→Int)
def rMx (out:Int):List Int→Int
 | []=>out
 | x::r=>rMx (if out=0∨lv out<lv x then x else out) r
def rMaxGo (wo out:Int):List Int→Int
 | []=>out
 | x::r=>rMaxGo wo (if x≠wo∧(out=0∨lv out<lv x)then x else out) r
def foldL (r xs:List Int):List Int:=xs.foldl (fun r x=>insL lv x r) r
end
end Go.Proofs.YtoojmhjagipmdaaGreat
namespace Go.Proofs.YtoojmhjagipmdaaGreat
open Go.RowKit Go.Shelf Go.Maps
attribute [local go_sem] Oper.semAt_some
theorem TrAt.cells {O:Nat→Prop} {w:World} {b:Nat} {T:Trl} (h:TrAt O w b T):TrAt (fun g=>O g∧∃c t f,w.heap[g]? =some (.cells c t f)) w b T:=by
 obtain⟨hk,gv,cv,ov,sv,h⟩:=h
 have hc: ∀{base size n:Nat} {e:TypeId} {v:Value} {xs:List Value},w.ownsRow base e size v n xs→∀g,v.ownBlock=some g→∃c t f,w.heap[g]? =some (.cells c t f):=fun h g hg=>by
  obtain⟨c,hc⟩:=own_type h g hg
  exact⟨c,_,_,hc⟩
 exact⟨hk,gv,cv,ov,sv,⟨fun g hg=>h.own g hg.1,⟨h.inb,_,_,_,h.block⟩,⟨h.invs,hc h.vars gv rfl⟩,h.block,h.vars,h.order,fun g hg=>⟨h.orderb g hg,hc h.order g hg⟩,h.starts,fun g hg=>⟨h.startsb g hg,hc h.starts g hg⟩⟩⟩
def TrX (w:World) (b:Nat) (T:Trl):Prop:= ∃O:Nat→Prop,TrAt O w b T
def KpB (X:Nat→Prop) (b:Nat) (A B:World):Prop:=KpC X A B∧∀T,TrX A b T→∃T',TrX B b T'∧T'.order=T.order
theorem KpB.refl (X:Nat→Prop) (b:Nat) (A:World):KpB X b A A:=⟨KpC.refl _ _,fun T h=>⟨T,h,rfl⟩⟩
theorem KpB.trans {X:Nat→Prop} {b:Nat} {A B C:World} (h:KpB X b A B) (k:KpB X b B C):KpB X b A C:=⟨h.1.trans k.1,fun T hT=>by
 obtain⟨T1,h1,e1⟩:=h.2 T hT
 obtain⟨T2,h2,e2⟩:=k.2 T1 h1
 exact⟨T2,h2,e2.trans e1⟩⟩
theorem KpB.putObj {X:Nat→Prop} {b:Nat} (W:World) (l:Nat) (o o':Obj) (h:W.heap[l]? =some o) (hc:o.isCells=false) (hw:o.isWalk=false):KpB X b W (W.putObj l o'):=by
 have hk:=KpC.putObj W l o o' h hc hw
 refine⟨hk.mono (fun _ _ e=>e.elim),fun T hT=>⟨T,?_,rfl⟩⟩
 obtain⟨O,hT⟩:=hT
 refine⟨_,hT.cells.kept hk.kept (fun g hg e=>?_)⟩
 obtain⟨_,c,t,f,hg⟩:=hg
 exact e.elim (fun e=>e.elim) (xo_cells hg)
abbrev UpX (o:List Int):Type:={x:Nat×Int // x.2∈o}
def upS (o:List Int):Nat→Nat→List (UpX o)
 | _,0=> []
 | k,n+1=>if h:k<o.length then⟨(k,o[k]),List.getElem_mem h⟩::upS o (k+1) n else []
def dvS {o:List Int} (x:UpX o):Array Value:= #[.int .i64 (x.1.1:Int),.int .i64 x.1.2]
end Go.Proofs.YtoojmhjagipmdaaGreat
namespace Go.Proofs.YtoojmhjagipmdaaGreat
open Go.RowKit Go.Shelf Go.Maps
attribute [local go_sem] Oper.semAt_some
def clr:List TV→List Int→List TV
 | vs,[]=>vs
 | vs,l::r=>clr (vs.set (litV l) ⟨0,0,0,0⟩) r
theorem clr_len (vs:List TV) (ls:List Int):(clr vs ls).length=vs.length:=by
 induction ls generalizing vs with
 | nil=>rfl
 | cons l ls ih=>simp only[clr,ih,List.length_set]
theorem clr_mem {vs:List TV} {ls:List Int} {s:TV} (h:s∈clr vs ls):s∈vs∨s=⟨0,0,0,0⟩:=by
 induction ls generalizing vs with
 | nil=>exact .inl h
 | cons l ls ih=>
  rcases ih h with h|h
  ·rcases List.mem_or_eq_of_mem_set h with h|h
   ·exact .inl h
   ·exact .inr h
  ·exact .inr h
def Trl.clear (T:Trl) (ls:List Int):Trl:=⟨clr T.vars ls,T.order,T.starts⟩
def Trl.back (T:Trl) (k e:Nat):Trl:=⟨clr T.vars (T.order.drop e),T.order.take e,T.starts.take (k+1)⟩
theorem Trl.Ok.clear {T:Trl} (h:T.Ok) (ls:List Int):(T.clear ls).Ok:=
 ⟨by show 1≤(clr T.vars ls).length∧(clr T.vars ls).length≤1048577;rw[clr_len];exact h.vars,h.order,h.starts,fun s hs=>(clr_mem hs).elim (h.each s) (fun e=>.inl (by rw[e]))⟩
theorem own_uniq {w:World} {base base' size n:Nat} {e e':TypeId} {v:Value} {xs ys:List Value} (h:w.ownsRow base e size v n xs) (h':w.ownsRow base' e' size v n ys):xs=ys:=by
 obtain⟨h0,h1⟩:=h
 obtain⟨k0,k1⟩:=h'
 rcases h1 with⟨hv,hn⟩|⟨g,cap,cur,hv,_,hg,_,_,_,hx⟩
 ·rcases k1 with⟨_,hn'⟩|⟨g,cap,cur,hv',_⟩
  ·subst hn
   rw[Nat.zero_mul]at h0 k0
   rw[List.eq_nil_of_length_eq_zero h0,List.eq_nil_of_length_eq_zero k0]
  ·rw[hv]at hv'
   cases hv'
 ·rcases k1 with⟨hv',_⟩|⟨g',cap',cur',hv',_,hg',_,_,_,hx'⟩
  ·rw[hv]at hv'
   cases hv'
  ·rw[hv]at hv'
   cases hv'
   rw[hg]at hg'
   cases hg'
   rw[←hx,←hx']
theorem TrX.order {w:World} {b:Nat} {T T':Trl} (h:TrX w b T) (h':TrX w b T'):T.order=T'.order:=by
 obtain⟨O,_,gv,cv,ov,sv,h⟩:=h
 obtain⟨O',_,gv',cv',ov',sv',h'⟩:=h'
 have hb:=h.block.symm.trans h'.block
 simp only[Option.some.injEq,Obj.cells.injEq,Array.mk.injEq,List.cons.injEq]at hb
 obtain⟨⟨_,ho,_⟩,_⟩:=hb
 subst ho
 have h1:=h.order
 have h2:=h'.order
 obtain⟨A,c,e1,_⟩:=mx_slice h1
 obtain⟨A',c',e2,_⟩:=mx_slice h2
 rw[e1]at e2
 simp only[Value.slice.injEq]at e2
 rw[e2.2.1]at h1
 have e3:=own_uniq h1 h2
 exact(List.map_inj_right (fun x y h=>by cases h;rfl)).1 e3
theorem Trl.Ok.back {T:Trl} (h:T.Ok) {k:Nat} (e:Nat) (hk:k<T.starts.length):(T.back k e).Ok:=by
 refine⟨?_,?_,⟨?_,?_⟩,fun s hs=>(clr_mem hs).elim (h.each s) (fun e=>.inl (by rw[e]))⟩
 ·show 1≤(clr T.vars (T.order.drop e)).length∧(clr T.vars (T.order.drop e)).length≤1048577
  rw[clr_len]
  exact h.vars
 ·show(T.order.take e).length≤_
  have:=h.order
  rw[List.length_take]
  omega
 ·show 1≤(T.starts.take (k+1)).length
  rw[List.length_take]
  omega
 ·show(T.starts.take (k+1)).length≤_
  have:=h.starts
  rw[List.length_take]
  omega
end Go.Proofs.YtoojmhjagipmdaaGreat
