/- analyze: Conflict. Rows that a sort has written (some laws turned from a worked proof of the kit). Reverse at rows that are owned. Sort at rows that are owned (some laws turned from a worked proof of the kit). Sort, Compact at rows that are owned. analyze: Levels. -/
import Derived.Test.YtoojmhjagipmdaaGreatV306
import Derived.Test.YtoojmhjagipmdaaGreatV301
import Derived.Sort.OwnSorted
import Derived.Test.YtoojmhjagipmdaaGreatShelf
import Derived.Test.YtoojmhjagipmdaaGreatV305
namespace Go.Proofs.YtoojmhjagipmdaaGreat
open Go.RowKit Go.Shelf Go.Maps
attribute [local go_sem] Oper.semAt_some
structure CfStart (a b:Nat) (w W0:World):Prop where
 size:W0.heap.size=w.heap.size+4
 res:W0.heap[w.heap.size]? =some (.cells #[.slice none 0 0,.int .i64 0,.int .i64 0,.slice none 0 0,.slice none 0 0] 65 (0,0))
 err:W0.heap[w.heap.size+1]? =some (.cells #[.int .i64 0] 44 (0,0))
 map:MapAt W0 (w.heap.size+1+1) 0 (metF [])
 wk:W0.heap[w.heap.size+1+1+1]? =some (.cells #[.pointer (some ⟨a,0,none⟩),.pointer (some ⟨b,0,none⟩),.map (some (w.heap.size+1+1))] 111 (0,0))
theorem cf_start (a b:Nat) (w:World): ∃W0,((((w.alloc (.cells #[.slice none 0 0,.int .i64 0,.int .i64 0,.slice none 0 0,.slice none 0 0] 65)).alloc (.cells #[.int .i64 0] 44)).alloc (.map #[] 0)).alloc (.cells #[.pointer (some ⟨a,0,none⟩),.pointer (some ⟨b,0,none⟩),.map (some (w.heap.size+1+1))] 111))=W0∧Below w.heap.size w W0∧CfStart a b w W0:=by
 refine⟨_,rfl,(((mx_al _ _).alloc (by simp) _).alloc (by simp;omega) _).alloc (by simp;omega) _,?_,?_,?_,?_,?_⟩
 ·simp
 ·rw[Below.heap_alloc _ _ _ (by simp;omega),Below.heap_alloc _ _ _ (by simp;omega),Below.heap_alloc _ _ _ (by simp)]
  exact World.alloc_heap_new _ _
 ·rw[Below.heap_alloc _ _ _ (by simp),Below.heap_alloc _ _ _ (by simp)]
  have:=World.alloc_heap_new (w.alloc (.cells #[.slice none 0 0,.int .i64 0,.int .i64 0,.slice none 0 0,.slice none 0 0] 65)) (.cells #[.int .i64 0] 44)
  rwa [World.size_alloc]at this
 ·have:=MapAt.made ((w.alloc (.cells #[.slice none 0 0,.int .i64 0,.int .i64 0,.slice none 0 0,.slice none 0 0] 65)).alloc (.cells #[.int .i64 0] 44))
  rw[World.size_alloc,World.size_alloc]at this
  exact this.below (mx_al _ _)
 ·have:=World.alloc_heap_new (((w.alloc (.cells #[.slice none 0 0,.int .i64 0,.int .i64 0,.slice none 0 0,.slice none 0 0] 65)).alloc (.cells #[.int .i64 0] 44)).alloc (.map #[] 0)) (.cells #[.pointer (some ⟨a,0,none⟩),.pointer (some ⟨b,0,none⟩),.map (some (w.heap.size+1+1))] 111)
  rwa [World.size_alloc,World.size_alloc,World.size_alloc]at this
theorem cells5 {w:World} {b:Nat} {c0 c1 c2 c3 c4:Value} {t:TypeId} (h:w.heap[b]? =some (.cells #[c0,c1,c2,c3,c4] t (0,0))):
  (w.cell? ⟨b,0,none⟩=some c0∧w.cell? ⟨b,1,none⟩=some c1∧w.cell? ⟨b,2,none⟩=some c2∧w.cell? ⟨b,3,none⟩=some c3∧w.cell? ⟨b,4,none⟩=some c4)∧w.frozen? ⟨b,0,none⟩=false∧w.frozen? ⟨b,1,none⟩=false∧w.frozen? ⟨b,2,none⟩=false∧w.frozen? ⟨b,3,none⟩=false∧w.frozen? ⟨b,4,none⟩=false:=
 ⟨⟨mx_cell (j:=0) h,mx_cell (j:=1) h,mx_cell (j:=2) h,mx_cell (j:=3) h,mx_cell (j:=4) h⟩,mx_free h,mx_free h,mx_free h,mx_free h,mx_free h⟩
theorem cells4 {w:World} {b:Nat} {c0 c1 c2 c3:Value} {t:TypeId} (h:w.heap[b]? =some (.cells #[c0,c1,c2,c3] t (0,0))):
  (w.cell? ⟨b,0,none⟩=some c0∧w.cell? ⟨b,1,none⟩=some c1∧w.cell? ⟨b,2,none⟩=some c2∧w.cell? ⟨b,3,none⟩=some c3)∧w.frozen? ⟨b,0,none⟩=false∧w.frozen? ⟨b,1,none⟩=false∧w.frozen? ⟨b,2,none⟩=false∧w.frozen? ⟨b,3,none⟩=false:=
 ⟨⟨mx_cell (j:=0) h,mx_cell (j:=1) h,mx_cell (j:=2) h,mx_cell (j:=3) h⟩,mx_free h,mx_free h,mx_free h,mx_free h⟩
theorem res_learned {fn:Func} (h:fn.results= #[.cell 6 65,.cell 7 44]) {w:World} {r q:Nat} {c0 c1 c2 c3 c4 v:Value} {t t':TypeId} (h6:w.heap[r]? =some (.cells #[c0,c1,c2,c3,c4] t (0,0))) (h7:w.heap[q]? =some (.cells #[v] t' (0,0)))
  (tmps:Array Value) (t6:tmps[6]?.getD undef= .pointer (some ⟨r,0,none⟩)) (t7:tmps[7]?.getD undef= .pointer (some ⟨q,0,none⟩)):
  (results fn tmps).run Tryz.prog w= .ok (.tuple #[.agg #[c0,c1,c2,c3,c4],v]) w:=by
 obtain⟨⟨p0,p1,p2,p3,p4⟩,_⟩:=cells5 h6
 have p7:=mx_cell (j:=0) h7
 simp[results,h,go_sem,t6,t7,p0,p1,p2,p3,p4,p7]
set_option maxRecDepth 100000 in
set_option maxHeartbeats 4000000 in
theorem conf_none {Oa:Nat→Prop} (a b:Nat) (A:Arn) (id:Int) (w:World) (ha:ArAt Oa w a A) (hg:A.get id=none):
  Calls Tryz.prog 32 #[.pointer (some ⟨a,0,none⟩),.pointer (some ⟨b,0,none⟩),.int .i64 id] w fun e w'=>e= .returned (.tuple #[.agg #[.slice none 0 0,.int .i64 0,.int .i64 0,.slice none 0 0,.slice none 0 0],.int .i64 30])∧Below w.heap.size w w':=by
 have HA:=Lib.hid ha
 have HG:=Lib.hid hg
 clear ha hg
 have hmm:=@run_makeMap Tryz.prog
 obtain⟨W0,hW0,hb0,hs0⟩:=cf_start a b w
 have HW0:=Lib.hid hW0
 have HB0:=Lib.hid hb0
 have HS0:=Lib.hid hs0
 clear hW0 hb0 hs0
 refine(callsIn_wide (n:=9)).1 ?_
 refine callsIn_of_wp_marks Tryz.func32 rfl trivial ?_ rfl
 simp only[Tryz.ntmps32,List.size_toArray,List.length_cons,List.length_nil,Nat.reduceAdd,Nat.reduceSub,Array.replicate_succ,Array.replicate_zero,List.push_toArray,List.append_toArray,List.nil_append,List.cons_append]
 gi_wp2
 refine wpIn_wide.2 (wp_scope_straight ((wpIn_wide (n:=9)).1 ?_))
 gi_wp2_with fail
 rw[HW0.out]
 refine⟨trivial,?_⟩
 refine(callsIn_wide.2 (wk_fails_none a b _ A id _ (HA.out.below HB0.out) HG.out)).mono ?_
 rintro e w1 ⟨rfl,hb1⟩
 have k6:=(hb1.block w.heap.size (by have:=HS0.out.size;omega)).trans HS0.out.res
 have k7:=(hb1.block (w.heap.size+1) (by have:=HS0.out.size;omega)).trans HS0.out.err
 have HB1:=Lib.hid (HB0.out.trans (hb1.mono HB0.out.size))
 have hz6:w.heap.size<w1.heap.size:=heap_lt k6
 have hz7:w.heap.size+1<w1.heap.size:=heap_lt k7
 obtain⟨⟨p0,p1,p2,p3,p4⟩,f0,f1,f2,f3,f4⟩:=cells5 k6
 have p7:=mx_cell (j:=0) k7
 have f7:=mx_free (j:=0) k7
 have K6:=Lib.hid k6
 have K7:=Lib.hid k7
 clear k6 k7 hb1
 gi_wp2_with fail
 rw[Exit.noGoto_ret]
 obtain⟨Wf,hWf⟩: ∃x,((((((w1.setCell ⟨w.heap.size,0,none⟩ (.slice none 0 0)).setCell ⟨w.heap.size,1,none⟩ (.int .i64 0)).setCell ⟨w.heap.size,2,none⟩ (.int .i64 0)).setCell ⟨w.heap.size,3,none⟩ (.slice none 0 0)).setCell ⟨w.heap.size,4,none⟩ (.slice none 0 0)).setCell ⟨w.heap.size+1,0,none⟩ (.int .i64 30)).alloc (.cells #[.int .i64 0] 3)=x:=⟨_,rfl⟩
 rw[hWf]
 have r6:Wf.heap[w.heap.size]? =some (.cells #[.slice none 0 0,.int .i64 0,.int .i64 0,.slice none 0 0,.slice none 0 0] 65 (0,0)):=by
  rw[←hWf,Below.heap_alloc _ _ _ (by simp[World.setCell];omega),Below.heap_setCell _ _ _ _ (by simp)]
  exact mx_set (j:=4) (mx_set (j:=3) (mx_set (j:=2) (mx_set (j:=1) (mx_set (j:=0) K6.out _) _) _) _) _
 have r7:Wf.heap[w.heap.size+1]? =some (.cells #[.int .i64 30] 44 (0,0)):=by
  rw[←hWf,Below.heap_alloc _ _ _ (by simp[World.setCell];omega)]
  exact mx_set (j:=0) ((Below.heap_setCell _ _ _ _ (by simp)).trans ((Below.heap_setCell _ _ _ _ (by simp)).trans ((Below.heap_setCell _ _ _ _ (by simp)).trans ((Below.heap_setCell _ _ _ _ (by simp)).trans ((Below.heap_setCell _ _ _ _ (by simp)).trans K7.out))))) _
 have hbf:Below w.heap.size w Wf:=by
  rw[←hWf]
  exact((((((HB1.out.setCell (Nat.le_refl _) _).setCell (Nat.le_refl _) _).setCell (Nat.le_refl _) _).setCell (Nat.le_refl _) _).setCell (Nat.le_refl _) _).setCell (Nat.le_succ _) _).alloc (by simp[World.setCell];omega) _
 clear hWf p0 p1 p2 p3 p4 f0 f1 f2 f3 f4 p7 f7
 exact⟨_,res_learned rfl r6 r7 _ rfl rfl,rfl,hbf⟩
set_option maxRecDepth 100000 in
set_option maxHeartbeats 4000000 in
theorem conf_holds {O Oa:Nat→Prop} (a b:Nat) (A:Arn) (T:Trl) (id:Int) (w:World) (ha:ArAt Oa w a A) {c:List Int} (h:TrAt O w b T) (hg:A.get id=some c) (hcl:c.length≤4194304) (hf:T.failMax c 0=none):
  Calls Tryz.prog 32 #[.pointer (some ⟨a,0,none⟩),.pointer (some ⟨b,0,none⟩),.int .i64 id] w fun e w'=>e= .returned (.tuple #[.agg #[.slice none 0 0,.int .i64 0,.int .i64 0,.slice none 0 0,.slice none 0 0],.int .i64 140])∧Below w.heap.size w w':=by
 have HA:=Lib.hid ha
 have HG:=Lib.hid hg
 have HT:=Lib.hid h
 have HF:=Lib.hid hf
 clear ha hg h hf
 have hmm:=@run_makeMap Tryz.prog
 obtain⟨W0,hW0,hb0,hs0⟩:=cf_start a b w
 have HW0:=Lib.hid hW0
 have HB0:=Lib.hid hb0
 have HS0:=Lib.hid hs0
 clear hW0 hb0 hs0
 refine(callsIn_wide (n:=9)).1 ?_
 refine callsIn_of_wp_marks Tryz.func32 rfl trivial ?_ rfl
 simp only[Tryz.ntmps32,List.size_toArray,List.length_cons,List.length_nil,Nat.reduceAdd,Nat.reduceSub,Array.replicate_succ,Array.replicate_zero,List.push_toArray,List.append_toArray,List.nil_append,List.cons_append]
 gi_wp2
 refine wpIn_wide.2 (wp_scope_straight ((wpIn_wide (n:=9)).1 ?_))
 gi_wp2_with fail
 rw[HW0.out]
 refine⟨trivial,?_⟩
 refine(callsIn_wide.2 (wk_fails a b _ A T id c _ (HA.out.below HB0.out) (HT.out.below HB0.out) HG.out hcl)).mono ?_
 rintro e w1 ⟨hor,hb1⟩
 rcases hor with⟨v,n,hn,_⟩|⟨_,rfl⟩
 ·rw[HF.out]at hn
  cases hn
 have k6:=(hb1.block w.heap.size (by have:=HS0.out.size;omega)).trans HS0.out.res
 have k7:=(hb1.block (w.heap.size+1) (by have:=HS0.out.size;omega)).trans HS0.out.err
 have HB1:=Lib.hid (HB0.out.trans (hb1.mono HB0.out.size))
 have hz6:w.heap.size<w1.heap.size:=heap_lt k6
 have hz7:w.heap.size+1<w1.heap.size:=heap_lt k7
 obtain⟨⟨p0,p1,p2,p3,p4⟩,f0,f1,f2,f3,f4⟩:=cells5 k6
 have p7:=mx_cell (j:=0) k7
 have f7:=mx_free (j:=0) k7
 have K6:=Lib.hid k6
 have K7:=Lib.hid k7
 clear k6 k7 hb1
 gi_wp2_with fail
 rw[Exit.noGoto_ret]
 obtain⟨Wf,hWf⟩: ∃x,((((((w1.setCell ⟨w.heap.size,0,none⟩ (.slice none 0 0)).setCell ⟨w.heap.size,1,none⟩ (.int .i64 0)).setCell ⟨w.heap.size,2,none⟩ (.int .i64 0)).setCell ⟨w.heap.size,3,none⟩ (.slice none 0 0)).setCell ⟨w.heap.size,4,none⟩ (.slice none 0 0)).setCell ⟨w.heap.size+1,0,none⟩ (.int .i64 140)).alloc (.cells #[.int .i64 0] 3)=x:=⟨_,rfl⟩
 rw[hWf]
 have r6:Wf.heap[w.heap.size]? =some (.cells #[.slice none 0 0,.int .i64 0,.int .i64 0,.slice none 0 0,.slice none 0 0] 65 (0,0)):=by
  rw[←hWf,Below.heap_alloc _ _ _ (by simp[World.setCell];omega),Below.heap_setCell _ _ _ _ (by simp)]
  exact mx_set (j:=4) (mx_set (j:=3) (mx_set (j:=2) (mx_set (j:=1) (mx_set (j:=0) K6.out _) _) _) _) _
 have r7:Wf.heap[w.heap.size+1]? =some (.cells #[.int .i64 140] 44 (0,0)):=by
  rw[←hWf,Below.heap_alloc _ _ _ (by simp[World.setCell];omega)]
  exact mx_set (j:=0) ((Below.heap_setCell _ _ _ _ (by simp)).trans ((Below.heap_setCell _ _ _ _ (by simp)).trans ((Below.heap_setCell _ _ _ _ (by simp)).trans ((Below.heap_setCell _ _ _ _ (by simp)).trans ((Below.heap_setCell _ _ _ _ (by simp)).trans K7.out))))) _
 have hbf:Below w.heap.size w Wf:=by
  rw[←hWf]
  exact((((((HB1.out.setCell (Nat.le_refl _) _).setCell (Nat.le_refl _) _).setCell (Nat.le_refl _) _).setCell (Nat.le_refl _) _).setCell (Nat.le_refl _) _).setCell (Nat.le_succ _) _).alloc (by simp[World.setCell];omega) _
 clear hWf p0 p1 p2 p3 p4 f0 f1 f2 f3 f4 p7 f7
 exact⟨_,res_learned rfl r6 r7 _ rfl rfl,rfl,hbf⟩
end Go.Proofs.YtoojmhjagipmdaaGreat
namespace Go.Proofs.YtoojmhjagipmdaaGreat
open Go.RowKit Go.Sort
theorem st_holds {w:World} {g:Nat} {cur:Array Value} {e:TypeId} {ss:List Int} (hb:w.heap[g]? =some (.cells cur e (0,0))) (ht:cur.toList.take ss.length=ss.map (Value.int .i64)):Holds (Value.int .i64) w g 0 ss.toArray:=by
 intro j hj
 have hj':j<ss.length:=by simpa using hj
 refine⟨?_,by simp[World.frozen?,hb]⟩
 have h1:(cur.toList.take ss.length)[j]? =(ss.map (Value.int .i64))[j]? :=by rw[ht]
 rw[List.getElem?_take_of_lt hj']at h1
 simp only[World.cell?,hb,Nat.zero_add]
 simp only[Option.isSome_none,Bool.false_eq_true,if_false]
 rw[←Array.getElem?_toList,h1]
 simp[hj']
theorem st_heap {w:World} {g n:Nat} {os:Array Obj} {cur:Array Value} {e:TypeId} {fr:Nat×Nat} (d:Array Int) (hb:w.heap[g]? =some (.cells cur e fr)):
  (grow (putRow (Value.int .i64) (Sort.ahead w n) g 0 d) os).heap[g]? =some (.cells (putCells (Value.int .i64) 0 d cur) e fr):=by
 have hg:g<w.heap.size:=(Array.getElem?_eq_some_iff.1 hb).1
 rw[heap_grow_old _ _ (by simpa using hg)]
 simp[putRow,mapBlock,Sort.ahead,Array.getElem?_modify,hb,onCells]
theorem st_heap1 {w:World} {g n:Nat} {cur:Array Value} {e:TypeId} {fr:Nat×Nat} (d:Array Int) (hb:w.heap[g]? =some (.cells cur e fr)):
  (putRow (Value.int .i64) (Sort.ahead w n) g 0 d).heap[g]? =some (.cells (putCells (Value.int .i64) 0 d cur) e fr):=by
 simp[putRow,mapBlock,Sort.ahead,Array.getElem?_modify,hb,onCells]
theorem st_kept {w:World} {g n:Nat} {os:Array Obj} (d:Array Int):Kept (fun k=>some g=some k) w (grow (putRow (Value.int .i64) (Sort.ahead w n) g 0 d) os):=by
 refine⟨rfl,rfl,rfl,by simp,fun k hk hne=>?_⟩
 rw[heap_grow_old _ _ (by simpa using hk)]
 have:g≠k:=fun e=>hne (by rw[e])
 simp[putRow,mapBlock,Sort.ahead,Array.getElem?_modify,this]
theorem st_kept1 {w:World} {g n:Nat} (d:Array Int):Kept (fun k=>some g=some k) w (putRow (Value.int .i64) (Sort.ahead w n) g 0 d):=by
 refine⟨rfl,rfl,rfl,by simp,fun k hk hne=>?_⟩
 have:g≠k:=fun e=>hne (by rw[e])
 simp[putRow,mapBlock,Sort.ahead,Array.getElem?_modify,this]
theorem st_take (cur:Array Value) (ts:List Int) (h:ts.length≤cur.size):(putCells (Value.int .i64) 0 ts.toArray cur).toList.take ts.length=ts.map (Value.int .i64):=by
 apply List.ext_getElem?
 intro j
 by_cases hj:j<ts.length
 ·rw[List.getElem?_take_of_lt hj,Array.getElem?_toList]
  simp[putCells,hj,show j<cur.size by omega]
 ·rw[List.getElem?_take_eq_none (by omega),List.getElem?_eq_none (by simp;omega)]
end Go.Proofs.YtoojmhjagipmdaaGreat
namespace Go.Proofs.YtoojmhjagipmdaaGreat
open Go.RowKit Go.Sort
theorem own_reverse {base:Nat} (v:Value) (xs:List Int) (w:World) (h:w.ownsRow base 3 1 v xs.length (xs.map (Value.int .i64))) (hl:xs.length<4611686018427387904):
  Calls Tryz.prog 84 #[v] w fun e w'=>e= .returned (.tuple #[])∧w'.ownsRow base 3 1 v xs.reverse.length (xs.reverse.map (Value.int .i64))∧Kept (fun g=>v.ownBlock=some g) w w':=by
 rcases h.2 with⟨rfl,h0⟩|⟨g,cap,cur,rfl,hb,hg,h1,h2,h3,h4⟩
 ·obtain rfl:xs= []:=List.eq_nil_of_length_eq_zero h0
  refine(Tryz.slices_Reverse_int_empty none 0 w).mono ?_
  rintro e w' ⟨rfl,rfl⟩
  exact⟨rfl,h,Kept.refl _ _⟩
 ·refine(Tryz.slices_Reverse_int g 0 cap xs w (st_holds hg (by simpa using h4)) (by omega)).mono ?_
  rintro e w' ⟨rfl,n,rfl⟩
  refine⟨rfl,?_,st_kept1 _⟩
  rw[List.length_reverse]
  refine⟨by simp,.inr ⟨g,cap,_,rfl,hb,st_heap1 _ hg,h1,h2,by simp[putCells,h3],?_⟩⟩
  have e:xs.length*1=xs.reverse.length:=by simp
  rw[e]
  exact st_take cur xs.reverse (by rw[List.length_reverse];omega)
end Go.Proofs.YtoojmhjagipmdaaGreat
namespace Go.Proofs.YtoojmhjagipmdaaGreat
open Go.RowKit Go.Sort
def sortI (xs:List Int):List Int:=xs.mergeSort fun x y=>decide (x≤y)
theorem sortI_length (xs:List Int):(sortI xs).length=xs.length:=by simp[sortI]
theorem own_sort {base:Nat} (v:Value) (xs:List Int) (w:World) (h:w.ownsRow base 3 1 v xs.length (xs.map (Value.int .i64))) (hl:xs.length<4611686018427387904):
  Calls Tryz.prog 85 #[v] w fun e w'=>e= .returned (.tuple #[])∧w'.ownsRow base 3 1 v (sortI xs).length ((sortI xs).map (Value.int .i64))∧Kept (fun g=>v.ownBlock=some g) w w':=by
 rcases h.2 with⟨rfl,h0⟩|⟨g,cap,cur,rfl,hb,hg,h1,h2,h3,h4⟩
 ·obtain rfl:xs= []:=List.eq_nil_of_length_eq_zero h0
  refine(Tryz.slices_Sort_int_none none 0 w).mono ?_
  rintro e w' ⟨rfl,rfl⟩
  have hs:sortI []= []:=by simp[sortI]
  rw[hs]
  exact⟨rfl,h,Kept.refl _ _⟩
 ·refine(Tryz.slices_Sort_int g 0 cap xs w (st_holds hg (by simpa using h4)) (heap_lt hg) hl).mono ?_
  rintro e w' ⟨rfl,n,os,rfl⟩
  refine⟨rfl,?_,st_kept _⟩
  rw[sortI_length]
  refine⟨by simp[sortI],.inr ⟨g,cap,_,rfl,hb,st_heap _ hg,h1,h2,by simp[putCells,h3],?_⟩⟩
  have e:xs.length*1=(sortI xs).length:=by rw[sortI_length,Nat.mul_one]
  rw[e]
  exact st_take cur (sortI xs) (by rw[sortI_length];omega)
end Go.Proofs.YtoojmhjagipmdaaGreat
namespace Go.Proofs.YtoojmhjagipmdaaGreat
open Go.RowKit Go.Sort
theorem own_compact {base:Nat} (v:Value) (xs:List Int) (w:World) (h:w.ownsRow base 3 1 v xs.length (xs.map (Value.int .i64))) (hl:xs.length<4611686018427387904):
  Calls Tryz.prog 128 #[v] w fun e w'=> ∃a c,e= .returned (.slice a (Lib.compact xs).length c)∧Kept (fun g=>v.ownBlock=some g) w w':=by
 rcases h.2 with⟨rfl,h0⟩|⟨g,cap,cur,rfl,hb,hg,h1,h2,h3,h4⟩
 ·obtain rfl:xs= []:=List.eq_nil_of_length_eq_zero h0
  refine(Tryz.slices_Compact_int_empty none 0 w).mono ?_
  rintro e w' ⟨rfl,rfl⟩
  exact⟨_,_,rfl,Kept.refl _ _⟩
 ·refine(Tryz.slices_Compact_int g 0 cap xs w (st_holds hg (by simpa using h4)) (by omega) h1).mono ?_
  rintro e w' ⟨rfl,n,rfl⟩
  exact⟨_,_,rfl,st_kept1 _⟩
end Go.Proofs.YtoojmhjagipmdaaGreat
namespace Go.Proofs.YtoojmhjagipmdaaGreat
open Go.RowKit
def Trl.lvls (T:Trl):List Int→List Int
 | []=> []
 | l::c=>if 0<T.level (litV l:Nat)then T.level (litV l:Nat)::T.lvls c else T.lvls c
theorem Trl.level_none {T:Trl} {v:Int} (h:T.why v=none):T.level v=0:=by unfold Trl.level;rw[h]
def Trl.nLevels (T:Trl) (c:List Int):Nat:=(Lib.compact (sortI (T.lvls c))).length
theorem an_levels_bad {Oc:Nat→Prop} (b:Nat) (cv:Value) (c:List Int) (w:World) (hc:IntsIn Oc w cv c) (hr:clauseB c=false) (hcl:c.length≤140737488355328):
  Calls Tryz.prog 86 #[.pointer (some ⟨b,0,none⟩),cv] w fun e w'=>e= .returned (.tuple #[.int .i64 0,.int .i64 20])∧w=w':=by
 have hrc:=right_clause cv c w hc hcl
 rw[hr]at hrc
 have HRC:=Lib.hid hrc
 obtain⟨Ac,cc,rfl,hcc,_,_⟩:=hc
 clear hrc
 go_enter Tryz.func86,Tryz.ntmps86
 go_wp2_with fail
 refine HRC.out.mono ?_
 rintro e w' ⟨rfl,rfl⟩
 go_wp2_with fail
 go_ret2
 exact⟨rfl,rfl⟩
set_option maxRecDepth 100000 in
set_option maxHeartbeats 2000000 in
theorem an_levels {O Oc:Nat→Prop} (b:Nat) (T:Trl) (cv:Value) (c:List Int) (w:World) (h:TrAt O w b T) (hc:IntsIn Oc w cv c) (hr:clauseB c=true):
  Calls Tryz.prog 86 #[.pointer (some ⟨b,0,none⟩),cv] w fun e w'=>e= .returned (.tuple #[.int .i64 (T.nLevels c:Nat),.int .i64 0])∧Below w.heap.size w w':=by
 have hcl:c.length≤4096:=by
  unfold clauseB at hr
  simp only[Bool.and_eq_true,decide_eq_true_eq]at hr
  exact hr.1
 have hrc:=right_clause cv c w hc (by omega)
 rw[hr]at hrc
 have HRC:=Lib.hid hrc
 have HT:=Lib.hid h
 have HCI:=Lib.hid hc
 obtain⟨Ac,cc,rfl,hcc,_,_⟩:=hc
 clear hrc h hr
 go_enter Tryz.func86,Tryz.ntmps86
 go_wp2_with fail
 refine HRC.out.mono ?_
 rintro e w' ⟨rfl,rfl⟩
 go_wp2_with fail
 go_loopw [20,6] (fun i x wr=> ∃(k:Nat) (av:Value) (ns:List Int),k≤c.length∧ns.length≤k∧i= .int .i64 k∧av=x∧Hid (T.lvls c=ns++T.lvls (c.drop k))∧Hid (Below w.heap.size w wr)∧Hid (wr.ownsRow w.heap.size 3 1 av ns.length (ns.map (Value.int .i64)))) (fun i _ _=>c.length-(intOf i).toNat)
 case atStart=>exact⟨0,.slice none 0 0,[],Nat.zero_le _,Nat.le_refl _,rfl,rfl,Lib.hid rfl,Lib.hid (Below.refl _ _),Lib.hid (World.ownsRow_nil _ _ _ _)⟩
 case round=>
  obtain⟨k,av,ns,hk,hnk,rfl,rfl,HF,HW,HO⟩:=hrel
  by_cases hlt:k<c.length
  ·obtain⟨l,hl⟩:=getElem_of hlt
   obtain⟨A',c',hAc,_,_,hxs⟩:=HCI.out
   simp only[Value.slice.injEq,true_and]at hAc
   obtain⟨rfl,rfl⟩:=hAc
   obtain⟨g,o,rfl,hg,hgo,d0'⟩:=hxs k l hl
   have d0:wr.cell? ⟨g,o+k,none⟩=some (.int .i64 l):=(HW.out.cell (p:=⟨g,o+k,none⟩) hg).trans d0'
   have hdk:c.drop k=l::c.drop (k+1):=by
    rw[List.drop_eq_getElem_cons hlt]
    rw[List.getElem?_eq_getElem hlt]at hl
    rw[Option.some.inj hl]
   obtain⟨y,hy⟩: ∃y,T.level (litV l:Nat)=y:=⟨_,rfl⟩
   obtain⟨th,hth⟩: ∃t,(T.why (litV l:Nat)).isSome=t:=⟨_,rfl⟩
   have HL:=tr_level b T (litV l:Nat) wr (HT.out.below HW.out)
   rw[hy,hth]at HL
   have HL:=Lib.hid HL
   clear hl d0' hgo hxs
   by_cases hy0:0<y
   ·have q0:decide (0<y)=true:=by simpa using hy0
    have hth1:th=true:=by
     rw[←hth]
     cases hw:T.why (litV l:Nat)with
     | none=>
      have:=Trl.level_none hw
      omega
     | some s=>rfl
    have HN:=Lib.hid (show T.lvls c=(ns++ [y])++T.lvls (c.drop (k+1))from by
     rw[HF.out,hdk,show T.lvls (l::c.drop (k+1))=y::T.lvls (c.drop (k+1))from by rw[Trl.lvls,hy];exact if_pos hy0]
     simp)
    clear hth hy hdk hy0
    subst hth1
    obtain⟨Aa,ka,rfl,hka⟩:=mx_slice HO.out
    obtain⟨i0,hi0,hz0,hz1,hz2⟩:=info_parts tinfo_int
    go_wp2_with fail
    refine(lit_var l wr).mono ?_
    rintro e w2 ⟨rfl,rfl⟩
    go_wp2_with fail
    refine HL.out.mono ?_
    rintro e w3 ⟨rfl,hb3⟩
    have HB3:=Lib.hid (HW.out.trans (hb3.mono HW.out.size))
    have HO3:=Lib.hid (own_kept HO.out (Kept.of_below (O:=fun _=>False) hb3) (fun _ _ h=>h))
    clear hb3 d0
    go_wp2_with (at_builtin;refine wpList_append_any rfl _ _ 63 rfl w.heap.size 3 i0 (.int .i64 0) 1 8 Tryz.underlying63 hi0 hz0 hz1 hz2 rfl (by decide) _ ns.length _ rfl (own_below HO3.out (mx_al w3 (.cells #[.int .i64 y] 3))) (.slice (some ⟨w3.heap.size,0,none⟩) 1 1) 1 [.int .i64 y] rfl (mx_src w3 3 [.int .i64 y]) rfl (by simp[Value.oneCell']) (by unfold maxLen;omega) (by omega) (by have:=HB3.out.size;simp;omega) ?_;intro v' w4 hown hgrow hat;have HO4:=Lib.hid hown;have HB4:=Lib.hid (below_kept (HB3.out.trans ((mx_al w3 (.cells #[.int .i64 y] 3)).mono HB3.out.size)) (Kept.grown hgrow) (fun j hj=>(own_lt HO3.out j hj.symm).1) (by have:=HB3.out.size;simp;omega));clear hown hgrow hat)
    go_roundw
    case rel=>exact⟨k+1,v',ns++ [y],by omega,by simp;omega,by go_num,rfl,HN,HB4,Lib.hid (by have:=HO4.out;simpa using this)⟩
    case measure=>simp[intOf];omega
   ·have q0:decide (0<y)=false:=by simpa using hy0
    have HN:=Lib.hid (show T.lvls c=ns++T.lvls (c.drop (k+1))from by
     rw[HF.out,hdk,show T.lvls (l::c.drop (k+1))=T.lvls (c.drop (k+1))from by rw[Trl.lvls,hy];exact if_neg hy0])
    clear hth hy hdk hy0
    cases th
    ·go_wp2_with fail
     refine(lit_var l wr).mono ?_
     rintro e w2 ⟨rfl,rfl⟩
     go_wp2_with fail
     refine HL.out.mono ?_
     rintro e w3 ⟨rfl,hb3⟩
     have HB3:=Lib.hid (HW.out.trans (hb3.mono HW.out.size))
     have HO3:=Lib.hid (own_kept HO.out (Kept.of_below (O:=fun _=>False) hb3) (fun _ _ h=>h))
     clear hb3 d0
     go_wp2_with fail
     go_roundw
     case rel=>exact⟨k+1,av,ns,by omega,by omega,by go_num,rfl,HN,HB3,HO3⟩
     case measure=>simp[intOf];omega
    ·go_wp2_with fail
     refine(lit_var l wr).mono ?_
     rintro e w2 ⟨rfl,rfl⟩
     go_wp2_with fail
     refine HL.out.mono ?_
     rintro e w3 ⟨rfl,hb3⟩
     have HB3:=Lib.hid (HW.out.trans (hb3.mono HW.out.size))
     have HO3:=Lib.hid (own_kept HO.out (Kept.of_below (O:=fun _=>False) hb3) (fun _ _ h=>h))
     clear hb3 d0
     go_wp2_with fail
     go_roundw
     case rel=>exact⟨k+1,av,ns,by omega,by omega,by go_num,rfl,HN,HB3,HO3⟩
     case measure=>simp[intOf];omega
  ·obtain rfl:k=c.length:=by omega
   have hF:=HF.out
   rw[List.drop_length,show T.lvls []= []from rfl,List.append_nil]at hF
   have HN:=Lib.hid hF
   clear hF
   go_wp2_with fail
   refine(own_sort av ns wr HO.out (by omega)).mono ?_
   rintro e w2 ⟨rfl,hown2,hk2⟩
   have HC:=Lib.hid (own_compact av (sortI ns) w2 hown2 (by rw[sortI_length];omega))
   have HB2:=Lib.hid (below_kept HW.out hk2 (fun g hg=>(own_lt HO.out g hg).1) HW.out.size)
   have HO2:=Lib.hid hown2
   clear hown2 hk2
   go_wp2_with fail
   refine HC.out.mono ?_
   rintro e w3 ⟨a3,c3,rfl,hk3⟩
   have HB3:=Lib.hid (below_kept HB2.out hk3 (fun g hg=>(own_lt HO2.out g hg).1) HB2.out.size)
   clear hk3
   go_wp2_with fail
   go_ret2
   refine⟨?_,HB3.out⟩
   unfold Trl.nLevels
   rw[HN.out]
   rfl
end Go.Proofs.YtoojmhjagipmdaaGreat
