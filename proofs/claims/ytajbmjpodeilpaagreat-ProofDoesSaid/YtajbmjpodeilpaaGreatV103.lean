/- What a range over a function keeps: all cells and walks but some. slices.Values, AppendSeq, Collect, SortFunc, SortedFunc at literals. Rows that a sort has written (some laws turned from a worked proof of the kit). slices.SortFunc and SortedFunc at literals, with lits.Compare. A range over a function whose rounds are told something, and pay something. -/
import Derived.Test.YtajbmjpodeilpaaGreatV101
import Derived.RangeFuncNested
import Derived.RangeFuncBound
import Derived.RangeFuncCalls
import Derived.RangeFuncLeaves
import Derived.RangeFuncBox
import Derived.Shelf.Abstract
import Derived.Shelf.RegionOpen
import Derived.OwnWalkIn
import Derived.TacticsInMore
import Derived.LoopNIn
import Derived.LoopIn
import Derived.Maps.OwnIn
import Derived.Test.YtajbmjpodeilpaaGreatV102
import Derived.Sort.OwnSorted
import Derived.Test.YtajbmjpodeilpaaGreatShelf
import Derived.Shelf.SlSortCmp.NoneTotal
namespace Go.Proofs.YtajbmjpodeilpaaGreat
open Go.RowKit Go.Shelf Go.Maps
attribute [local go_sem] Oper.semAt_some
def XO (W:World) (g:Nat):Prop:= ∃o,W.heap[g]? =some o∧o.isCells=false∧o.isWalk=false
structure KpC (X:Nat→Prop) (W W':World):Prop where
 os:W'.os=W.os
 tape:W'.tape=W.tape
 output:W'.output=W.output
 size:W.heap.size≤W'.heap.size
 same: ∀k o,W.heap[k]? =some o→¬X k→(o.isCells=true∨o.isWalk=true)→W'.heap[k]? =some o
theorem KpC.kept {X:Nat→Prop} {W W':World} (h:KpC X W W'):Kept (fun g=>X g∨XO W g) W W':=
 ⟨h.os,h.tape,h.output,h.size,fun k hk hn=>by
  have hg:W.heap[k]? =some W.heap[k]:=Array.getElem?_eq_getElem hk
  rw[hg]
  refine h.same k _ hg (fun hx=>hn (.inl hx)) ?_
  apply Classical.byContradiction
  intro hc
  simp only[not_or,Bool.not_eq_true]at hc
  exact hn (.inr ⟨_,hg,hc.1,hc.2⟩)⟩
theorem KpC.trans {X:Nat→Prop} {A B C:World} (h:KpC X A B) (k:KpC X B C):KpC X A C:=
 ⟨k.os.trans h.os,k.tape.trans h.tape,k.output.trans h.output,Nat.le_trans h.size k.size,fun i o hi hx ho=>k.same i o (h.same i o hi hx ho) hx ho⟩
theorem KpC.mono {X X':Nat→Prop} {A B:World} (h:KpC X A B) (hX: ∀g,g<A.heap.size→X g→X' g):KpC X' A B:=
 ⟨h.os,h.tape,h.output,h.size,fun i o hi hx ho=>h.same i o hi (fun h'=>hx (hX i (heap_lt hi) h')) ho⟩
theorem KpC.of_grown {A B:World} {row:Option Nat} (h:A.grownBy B row):KpC (fun g=>some g=row) A B:=
 ⟨h.os,h.tape,h.output,h.size,fun k _ hk hn _=>(h.block k (heap_lt hk) hn).trans hk⟩
theorem KpC.refl (X:Nat→Prop) (A:World):KpC X A A:=⟨rfl,rfl,rfl,Nat.le_refl _,fun _ _ h _ _=>h⟩
theorem KpC.of_below {X:Nat→Prop} {A B:World} (h:Below A.heap.size A B):KpC X A B:=⟨h.os,h.tape,h.output,h.size,fun k _ hk _ _=>(h.block k (heap_lt hk)).trans hk⟩
theorem KpC.putObj (W:World) (l:Nat) (o o':Obj) (h:W.heap[l]? =some o) (hc:o.isCells=false) (hw:o.isWalk=false):KpC (fun _=>False) W (W.putObj l o'):=by
 have hg:=grownBy_putObj' W l o'
 refine⟨hg.os,hg.tape,hg.output,hg.size,fun k x hk _ hx=>?_⟩
 rw[hg.block k (heap_lt hk) (fun e=>by
  cases e
  rw[h]at hk
  cases hk
  rw[hc,hw]at hx
  simp at hx)]
 exact hk
theorem xo_cells {W:World} {g:Nat} {c:Array Value} {t:TypeId} {f:Nat×Nat} (h:W.heap[g]? =some (.cells c t f)): ¬XO W g:=by
 rintro ⟨o,ho,hc,_⟩
 rw[h]at ho
 cases ho
 cases hc
theorem xo_cell {W:World} {p:Addr} {v:Value} (h:W.cell? p=some v): ¬XO W p.block:=by
 rintro ⟨o,ho,hc,_⟩
 unfold World.cell? at h
 rw[ho]at h
 cases o <;> simp_all [Obj.isCells]
theorem IntsIn.narrow {O:Nat→Prop} {w:World} {v:Value} {xs:List Int} (h:IntsIn O w v xs):IntsIn (fun g=>O g∧¬XO w g) w v xs:=by
 obtain⟨A,c,hv,hc,hn,hx⟩:=h
 refine⟨A,c,hv,hc,hn,fun i x hi=>?_⟩
 obtain⟨g,o,h1,h2,h3,h4⟩:=hx i x hi
 exact⟨g,o,h1,h2,⟨h3,xo_cell h4⟩,h4⟩
theorem wpListIn_put {F:Fence} {n:Nat} {w:World} {ops:Array Oper} {rest:List Oper} {o:Oper} {a:Act} {Q:Exit→Act→World→Prop} {b k:Nat} {f:Int→Int} (hown:MapAt w b k f)
  (hg:o.guard=none) (m x v:Operand) (hop:o.op=Op.mapUpdate 94 m x v) (hm:a.eval m= .map (some b)) (hn:k<maxLen) (i y:Int) (hx:a.eval x= .int .i64 i) (hv:a.eval v= .int .i64 y)
  (hi:(Lit.int .i64 i).wf=true) (hy:(Lit.int .i64 y).wf=true)
  (hK: ∀w',MapAt w' b (k+1) (fun z=>if z=i then y else f z)→w.grownBy w' (some b)→wpListIn F n Tryz.prog ops Q rest (a.put o.dst undef) w'):wpListIn F n Tryz.prog ops Q (o::rest) a w:=by
 obtain⟨D,ho,hmap,hf⟩:=hown
 exact wpListIn_mapUpdate_own w hg m x v _ hop 3 3 int_law Tryz.underlying94 _ b k D hm ho hn _ _ _ hx hv (keyOf_int_mk Tryz.underlying3 hi) _ [] (plainElem_int Tryz.underlying3 hy)
  (fun w' h1 h2=>hK w' (MapAt.put hmap hf h1) h2)
end Go.Proofs.YtajbmjpodeilpaaGreat
namespace Go.Proofs.YtajbmjpodeilpaaGreat
open Go.RowKit Go.Shelf Go.Sort
attribute [local go_sem] Oper.semAt_some
theorem cinfo_lit:(Tryz.prog.info? 55).map (fun i=>(i.zero,i.size,i.bytes))=some (some (.int .i64 0),1,8):=by kernel_rfl
set_option maxRecDepth 100000 in
set_option maxHeartbeats 2000000 in
theorem values1_in {O X:Nat→Prop} (l Bb:Nat) (u:Value) (xs:List Int) (J Jx:List Int→World→Prop) (W:World)
  (hY: ∀pre x W1,J pre W1→pre.length<xs.length→YieldAt Fence.wide 7 Tryz.prog l #[.int .i64 x] W1 fun e W'=>
   (e= .returned (.bool true)∧J (pre++ [x]) W'∧KpC X W1 W')∨(e= .returned (.bool false)∧Jx (pre++ [x]) W'))
  (hB:W.cell? ⟨Bb,0,none⟩=some u) (hX: ¬X Bb) (hu:IntsIn O W u xs) (hOX: ∀g,O g→¬X g) (hlen:xs.length≤140737488355328) (h0:J [] W):
  CallsIn Fence.wide 8 Tryz.prog 201 #[.func (.yield l) #[] #[],.pointer (some ⟨Bb,0,none⟩)] W fun e W'=>(∃v,e= .returned v)∧
   ((∃ys,ys=xs∧J ys W')∨(∃pre,(pre <+: xs∧pre≠ [])∧Jx pre W')):=by
 have hB':=World.block_lt_of_cell? W _ hB
 have HN:=Lib.hid hu.narrow
 have HB:=Lib.hid hB
 have HY:=Lib.hid hY
 have HX:=Lib.hid hX
 have HOX:=Lib.hid hOX
 have H0:=Lib.hid h0
 obtain⟨A,c,rfl,hc,_,_⟩:=hu
 clear hY hX hOX h0
 refine callsIn_of_wp Tryz.func201 rfl trivial ?_ rfl
 simp only[Tryz.ntmps201,List.size_toArray,List.length_cons,List.length_nil,Nat.reduceAdd,Nat.reduceSub,Array.replicate_succ,Array.replicate_zero,List.push_toArray,List.append_toArray,List.nil_append,List.cons_append]
 gi_wp2
 gi_loopw [7] (fun i wr=> ∃k:Nat,k≤xs.length∧i= .int .i64 k∧Hid (KpC X W wr)∧Hid (J (xs.take k) wr)) (fun i _=>xs.length-(intOf i).toNat)
 case atStart=>exact⟨0,Nat.zero_le _,rfl,Lib.hid (KpC.refl _ _),H0⟩
 case round=>
  obtain⟨k,hk,rfl,HK,HJ⟩:=hrel
  by_cases hlt:k<xs.length
  ·obtain⟨x,hxk⟩:=getElem_of hlt
   obtain⟨A',c',hAc,_,_,hxs⟩:=HN.out
   simp only[Value.slice.injEq,true_and]at hAc
   obtain⟨rfl,rfl⟩:=hAc
   obtain⟨g,o,rfl,hg,hgo,d0⟩:=hxs k x hxk
   have d1:wr.cell? ⟨g,o+k,none⟩=some (.int .i64 x):=(HK.out.kept.cell (p:=⟨g,o+k,none⟩) hg (fun h=>h.elim (HOX.out g hgo.1) hgo.2)).trans d0
   have HTK:=Lib.hid (show xs.take (k+1)=xs.take k++ [x]from by rw[List.take_add_one,hxk];rfl)
   obtain⟨fn,tmps,assign,body,hy,hR⟩:=HY.out (xs.take k) x wr HJ.out (by rw[List.length_take];omega)
   have HR:=Lib.hid hR
   clear hxk hxs hgo d0 hR
   gi_wp2_with fail
   refine HR.out.mono ?_
   rintro e W3 (⟨rfl,hJ3,hk3⟩|⟨rfl,hJx3⟩)
   ·have HJ3:=Lib.hid hJ3
    have HK3:=Lib.hid (HK.out.trans hk3)
    clear hJ3 hk3 hy d1
    gi_wp2_with fail
    go_roundw
    case rel=>exact⟨k+1,by omega,by go_num,HK3,Lib.hid (by rw[HTK.out];exact HJ3.out)⟩
    case measure=>simp[intOf];omega
   ·gi_wp2
    refine bodyPost_ret (results_none rfl _ _ _) rfl ?_
    exact⟨⟨_,rfl⟩,.inr ⟨xs.take k++ [x],⟨by rw[←HTK.out];exact List.take_prefix _ _,by simp⟩,hJx3⟩⟩
  ·obtain rfl:k=xs.length:=by omega
   gi_wp2
   go_end0
   refine⟨⟨_,rfl⟩,.inl ⟨xs,rfl,?_⟩⟩
   have:=HJ.out
   rwa [List.take_length]at this
theorem values_stops {O X:Nat→Prop} (Bb:Nat) (u:Value) (xs:List Int) (w:World) (hB:w.cell? ⟨Bb,0,none⟩=some u) (hX: ¬X Bb) (hu:IntsIn O w u xs) (hOX: ∀g,O g→¬X g) (hlen:xs.length≤140737488355328):
  SeqStopsK Fence.wide 8 Tryz.prog 201 #[.pointer (some ⟨Bb,0,none⟩)] (fun x:Int=> #[Value.int .i64 x]) (KpC X) (fun ys=>ys=xs) (fun pre=>pre <+: xs∧pre≠ []) xs.length w:=fun l J Jx W hW _ _ hY h0=>
 values1_in l Bb u xs J Jx W hY ((hW.cell (p:=⟨Bb,0,none⟩) (World.block_lt_of_cell? w _ hB)).trans hB) hX (hu.below hW) hOX hlen h0
theorem values_run (A:Option Addr) (n c:Nat) (w:World):Calls Tryz.prog 195 #[.slice A n c] w fun e w'=>e= .returned (.func (.func 201) #[] #[.pointer (some ⟨w.heap.size,0,none⟩)])∧w.alloc (.cells #[.slice A n c] 31)=w':=by
 go_enter Tryz.func195,Tryz.ntmps195
 go_wp2
 go_ret
 exact⟨rfl,rfl⟩
set_option maxRecDepth 100000 in
set_option maxHeartbeats 4000000 in
theorem append_values {O:Nat→Prop} (Bb:Nat) (u:Value) (xs:List Int) (w:World) (hB:w.cell? ⟨Bb,0,none⟩=some u) (hu:IntsIn O w u xs) (hlen:xs.length≤1000000000000):
  Calls Tryz.prog 203 #[.slice none 0 0,.func (.func 201) #[] #[.pointer (some ⟨Bb,0,none⟩)]] w fun e w'=> ∃v,e= .returned v∧w'.ownsRow w.heap.size 55 1 v xs.length (xs.map (Value.int .i64))∧Below w.heap.size w w':=by
 have hB':=World.block_lt_of_cell? w _ hB
 obtain⟨i0,hi,iz0,iz1,iz2⟩:=info_parts cinfo_lit
 obtain⟨WR,hWR⟩: ∃x,w.alloc (.cells #[.slice none 0 0] 30)=x:=⟨_,rfl⟩
 have hbR:Below w.heap.size w WR:=by rw[←hWR];exact mx_al _ _
 have hcR:Boxed WR w.heap.size 30 (.slice none 0 0):=by rw[←hWR];exact Boxed.new _ _ _
 have hzR:=hcR.lt
 have HST:=Lib.hid (values_stops (X:=fun g=>w.heap.size≤g) Bb u xs WR ((hbR.cell (p:=⟨Bb,0,none⟩) hB').trans hB) (fun h=>by simp only at h hB';omega) (hu.lt.below hbR) (fun g h=>by omega) (by omega))
 have HWR:=Lib.hid hWR
 have HBR:=Lib.hid hbR
 have HCR:=Lib.hid hcR
 clear hB hu hWR hbR hcR
 refine(callsIn_wide (n:=9)).1 ?_
 refine callsIn_of_wp_marks Tryz.func203 rfl trivial ?_ rfl
 simp only[Tryz.ntmps203,List.size_toArray,List.length_cons,List.length_nil,Nat.reduceAdd,Nat.reduceSub,Array.replicate_succ,Array.replicate_zero,List.push_toArray,List.append_toArray,List.nil_append,List.cons_append]
 gi_wp2
 rw[HWR.out]
 refine wpIn_rangeFunc_ownG rfl (by omega) (gf:=201) (lb:= #[.pointer (some ⟨Bb,0,none⟩)]) rfl trivial (enters_of Tryz.func201 (by kernel_rfl) rfl)
  HST.out (fun h k=>h.trans k) (fun W l o o' _ h hc hw=>(KpC.putObj W l o o' h hc hw).mono (fun _ _ h=>h.elim)) (Below.refl _ _) (fun _=>rfl)
  (fun pre W=>(∃v,Boxed W w.heap.size 30 v∧W.ownsRow w.heap.size 55 1 v pre.length (pre.map (Value.int .i64))∧True)∧Below w.heap.size w W∧w.heap.size<W.heap.size) (fun _ _ _=>False) ?own ?ownx ⟨⟨_,HCR.out,World.ownsRow_nil _ _ _ _,trivial⟩,HBR.out,hzR⟩
  ?frame ?assign ?body ?done ?stop
 case own=>
  exact OwnFrom.and (Own.from (holdsRow_own _ _ _ _ 1 (fun pre:List Int=>pre.length) (fun pre=>pre.map (Value.int .i64)) (fun _ _=>True)) _) (OwnFrom.and (ownFrom_below (Nat.le_refl _) (by omega)) (fun _ X Y row h hg _=>Nat.lt_of_lt_of_le h hg.size))
 case ownx=>exact fun c pre W W' row h _ _=>h
 case assign=>
  intro l x W K hK
  dsimp only
  gi_wp2
  exact hK
 case body=>
  rintro l pre x W ⟨⟨v,hv,hr,-⟩,hb,hz⟩ hlt
  have q1:=hv.cell
  have q2:=hv.frozen
  obtain⟨A,c,rfl,hc⟩:=mx_slice hr
  have HV:=Lib.hid hv
  have HR:=Lib.hid hr
  have HB:=Lib.hid hb
  clear hv hr hb
  gi_wp2_with (gi_at_builtin;refine wpListIn_append_own _ rfl _ _ 30 rfl w.heap.size 55 i0 (.int .i64 0) 1 8 Tryz.underlying30 hi iz0 iz1 iz2 rfl (by decide) _ _ _ rfl (HR.out.alloc _) ⟨W.heap.size,0,none⟩ 1 1 [.int .i64 x] rfl rfl ?c1 ?c2 ?c3 ?c4 ?c5 ?_)
  case c1=>
   intro j u hj
   match j,hj with
   | 0,hj=>simp at hj;subst hj;simp[Addr.add]
  case c2=>intro u hu;simp at hu;subst hu;rfl
  case c3=>unfold maxLen;omega
  case c4=>omega
  case c5=>simp;omega
  ·intro v' w1 hown' hgrow _
   have hA:=Boxed.appended HV.out (by decide) HR.out (Nat.le_of_lt hz) (Nat.le_refl _) hown' hgrow
   obtain⟨g1,cap,rfl⟩:=ownsRow_succ hown'
   obtain⟨a1,a2,a3,a4,a5⟩:=hA
   have q3:=a1.cell
   have q4:=a1.frozen
   have A2:=Lib.hid a2
   have A3:=Lib.hid a3
   have A4:=Lib.hid a4
   have A5:=Lib.hid a5
   clear a1 a2 a3 a4 a5 hown' hgrow
   gi_wp2
   refine⟨A4.out.from _,⟨A5.out.os,A5.out.tape,A5.out.output,A5.out.size,fun k o hk hX _=>(A5.out.block k (by omega)).trans hk⟩,⟨_,A2.out,?_,trivial⟩,HB.out.trans A5.out,Nat.lt_of_lt_of_le hz A5.out.size⟩
   simpa using A3.out
 case done=>
  rintro D ys W hD rfl ⟨⟨v,hv,hr,-⟩,hb,hz⟩ hDf
  have q1:=hv.cell
  have HR:=Lib.hid hr
  have HB:=Lib.hid hb
  have HD:=Lib.hid hDf
  obtain⟨A,c,rfl,hc⟩:=mx_slice hr
  clear hv hr hb hDf
  gi_wp2
  refine⟨by simp,.inl ⟨_,_,rfl,run_takeDeferred HD.out,?_⟩⟩
  have hD0:w.heap.size≤D:=Nat.le_trans (Nat.le_of_lt hzR) hD
  refine⟨_,results_tmp rfl _ _ _,_,rfl,ownsRow_putObj HR.out _ HD.out rfl,HB.out.trans ?_⟩
  exact(Below.refl _ _).grown (grownBy_putObj' W D _) (Nat.le_of_lt hz) (fun g e=>by cases e;exact hD0)
 case stop=>
  rintro D c pre W hD _ hf _
  exact hf.elim
theorem collect_values {O:Nat→Prop} (Bb:Nat) (u:Value) (xs:List Int) (w:World) (hB:w.cell? ⟨Bb,0,none⟩=some u) (hu:IntsIn O w u xs) (hlen:xs.length≤1000000000000):
  Calls Tryz.prog 200 #[.func (.func 201) #[] #[.pointer (some ⟨Bb,0,none⟩)]] w fun e w'=> ∃v,e= .returned v∧w'.ownsRow w.heap.size 55 1 v xs.length (xs.map (Value.int .i64))∧Below w.heap.size w w':=by
 have H:=Lib.hid (append_values Bb u xs w hB hu hlen)
 clear hB hu
 go_enter Tryz.func200,Tryz.ntmps200
 go_wp2_with fail
 refine H.out.mono ?_
 rintro e w' ⟨v,rfl,hr,hb⟩
 have HR:=Lib.hid hr
 have HB:=Lib.hid hb
 clear hr hb
 go_wp2_with fail
 go_ret
 exact⟨_,rfl,HR.out,HB.out⟩
end Go.Proofs.YtajbmjpodeilpaaGreat
namespace Go.Proofs.YtajbmjpodeilpaaGreat
open Go.RowKit Go.Sort
theorem st_holds {w:World} {g:Nat} {cur:Array Value} {e:TypeId} {ss:List Int} (hb:w.heap[g]? =some (.cells cur e (0,0))) (ht:cur.toList.take ss.length=ss.map (Value.int .i64)):Holds (Value.int .i64) w g 0 ss.toArray:=by
 intro j hj
 have hj':j<ss.length:=by simpa using hj
 refine⟨?_,by simp[World.frozen?,hb]⟩
 have h1:(cur.toList.take ss.length)[j]? =(ss.map (Value.int .i64))[j]? :=by rw[ht]
 rw[List.getElem?_take_of_lt hj']at h1
 simp only[World.cell?,hb,Nat.zero_add]
 simp only[Option.isSome_none,Bool.false_eq_true,if_false]
 rw[←Array.getElem?_toList,h1]
 simp[hj']
theorem st_heap {w:World} {g n:Nat} {os:Array Obj} {cur:Array Value} {e:TypeId} {fr:Nat×Nat} (d:Array Int) (hb:w.heap[g]? =some (.cells cur e fr)):
  (grow (putRow (Value.int .i64) (Sort.ahead w n) g 0 d) os).heap[g]? =some (.cells (putCells (Value.int .i64) 0 d cur) e fr):=by
 have hg:g<w.heap.size:=(Array.getElem?_eq_some_iff.1 hb).1
 rw[heap_grow_old _ _ (by simpa using hg)]
 simp[putRow,mapBlock,Sort.ahead,Array.getElem?_modify,hb,onCells]
theorem st_heap1 {w:World} {g n:Nat} {cur:Array Value} {e:TypeId} {fr:Nat×Nat} (d:Array Int) (hb:w.heap[g]? =some (.cells cur e fr)):
  (putRow (Value.int .i64) (Sort.ahead w n) g 0 d).heap[g]? =some (.cells (putCells (Value.int .i64) 0 d cur) e fr):=by
 simp[putRow,mapBlock,Sort.ahead,Array.getElem?_modify,hb,onCells]
theorem st_kept {w:World} {g n:Nat} {os:Array Obj} (d:Array Int):Kept (fun k=>some g=some k) w (grow (putRow (Value.int .i64) (Sort.ahead w n) g 0 d) os):=by
 refine⟨rfl,rfl,rfl,by simp,fun k hk hne=>?_⟩
 rw[heap_grow_old _ _ (by simpa using hk)]
 have:g≠k:=fun e=>hne (by rw[e])
 simp[putRow,mapBlock,Sort.ahead,Array.getElem?_modify,this]
theorem st_kept1 {w:World} {g n:Nat} (d:Array Int):Kept (fun k=>some g=some k) w (putRow (Value.int .i64) (Sort.ahead w n) g 0 d):=by
 refine⟨rfl,rfl,rfl,by simp,fun k hk hne=>?_⟩
 have:g≠k:=fun e=>hne (by rw[e])
 simp[putRow,mapBlock,Sort.ahead,Array.getElem?_modify,this]
theorem st_take (cur:Array Value) (ts:List Int) (h:ts.length≤cur.size):(putCells (Value.int .i64) 0 ts.toArray cur).toList.take ts.length=ts.map (Value.int .i64):=by
 apply List.ext_getElem?
 intro j
 by_cases hj:j<ts.length
 ·rw[List.getElem?_take_of_lt hj,Array.getElem?_toList]
  simp[putCells,hj,show j<cur.size by omega]
 ·rw[List.getElem?_take_eq_none (by omega),List.getElem?_eq_none (by simp;omega)]
end Go.Proofs.YtajbmjpodeilpaaGreat
namespace Go.Proofs.YtajbmjpodeilpaaGreat
open Go.RowKit Go.Shelf Go.Sort
def sortL (xs:List Int):List Int:=xs.mergeSort fun x y=> !(ltOf litC) y x
theorem sortL_length (xs:List Int):(sortL xs).length=xs.length:=by simp[sortL]
theorem sortL_perm (xs:List Int):(sortL xs).Perm xs:=List.mergeSort_perm _ _
theorem sortL_mem {xs:List Int} {x:Int}:x∈sortL xs↔x∈xs:=(sortL_perm xs).mem_iff
theorem compare_reads (blk off size:Nat) (w:World):CmpReads Tryz.prog 136 #[] (Value.int .i64) litC blk off size w:=
 fun _ _ _ _ x y=>(lit_compare x y _).mono fun _ _ ⟨he,hw⟩=>⟨he,0,hw.symm⟩
theorem own_sortL {base:Nat} (v:Value) (xs:List Int) (w:World) (h:w.ownsRow base 55 1 v xs.length (xs.map (Value.int .i64))) (hl:xs.length<4611686018427387904):
  Calls Tryz.prog 135 #[v,.func (.func 136) #[] #[]] w fun e w'=>e= .returned (.tuple #[])∧w'.ownsRow base 55 1 v (sortL xs).length ((sortL xs).map (Value.int .i64))∧Kept (fun g=>v.ownBlock=some g) w w':=by
 rcases h.2 with⟨rfl,h0⟩|⟨g,cap,cur,rfl,hb,hg,h1,h2,h3,h4⟩
 ·obtain rfl:xs= []:=List.eq_nil_of_length_eq_zero h0
  have hs:sortL []= []:=by simp[sortL]
  have H:=AnyF.slices_SortFunc_none (P:=Tryz.prog) (ρ:=Tryz.sortLit_ren) { Tryz.sortLit with } none 0 (.func (.func 136) #[] #[]) w
  change Calls Tryz.prog 135 _ _ _ at H
  refine H.mono ?_
  rintro e w' ⟨rfl,rfl⟩
  rw[hs]
  exact⟨rfl,h,Kept.refl _ _⟩
 ·have eg: ∀args w,(callFunc 136 args).run Tryz.prog w= .ok (.enter 136 args) w:=enters_of Tryz.func136 (by kernel_rfl) rfl
  have H:=Any.slices_SortFunc_total Tryz.sortLit (Value.int .i64) (fun _=>rfl) litC ltC_swo 136 #[] g 0 cap xs.toArray w eg (compare_reads g 0 _ w).lays (st_holds hg (by simpa using h4)) (heap_lt hg) (by simpa using hl) ltC_total
  change Calls Tryz.prog 135 _ _ _ at H
  rw[List.size_toArray]at H
  refine H.mono ?_
  rintro e w' ⟨rfl,n,os,rfl⟩
  refine⟨rfl,?_,st_kept _⟩
  rw[sortL_length]
  refine⟨by simp[sortL],.inr ⟨g,cap,_,rfl,hb,st_heap _ hg,h1,h2,by simp[putCells,h3],?_⟩⟩
  have e:xs.length*1=(sortL xs).length:=by rw[sortL_length,Nat.mul_one]
  rw[e]
  exact st_take cur (sortL xs) (by rw[sortL_length];omega)
theorem sorted_values {O:Nat→Prop} (Bb:Nat) (u:Value) (xs:List Int) (w:World) (hB:w.cell? ⟨Bb,0,none⟩=some u) (hu:IntsIn O w u xs) (hlen:xs.length≤1000000000000):
  Calls Tryz.prog 194 #[.func (.func 201) #[] #[.pointer (some ⟨Bb,0,none⟩)],.func (.func 136) #[] #[]] w fun e w'=> ∃v,e= .returned v∧w'.ownsRow w.heap.size 55 1 v (sortL xs).length ((sortL xs).map (Value.int .i64))∧Below w.heap.size w w':=by
 have H:=Lib.hid (collect_values Bb u xs w hB hu hlen)
 clear hB hu
 go_enter Tryz.func194,Tryz.ntmps194
 go_wp2_with fail
 refine H.out.mono ?_
 rintro e w1 ⟨v,rfl,hr,hb⟩
 have HS:=Lib.hid (own_sortL v xs w1 hr (by omega))
 have HR:=Lib.hid hr
 have HB:=Lib.hid hb
 clear hr hb
 go_wp2_with fail
 refine HS.out.mono ?_
 rintro e w2 ⟨rfl,hr,hk⟩
 have HR2:=Lib.hid hr
 have HB2:=Lib.hid (HB.out.trans (hk.below (fun g hg=>(own_lt HR.out g hg).1) HB.out.size))
 clear hr hk
 go_wp2_with fail
 go_ret
 exact⟨_,rfl,HR2.out,HB2.out⟩
end Go.Proofs.YtajbmjpodeilpaaGreat
namespace Go.Proofs.YtajbmjpodeilpaaGreat
open Go.RowKit Go.Shelf
theorem yield_any {m:Nat} (m':Nat) {P:Program} {l:Nat} {args:Array Value} {W:World} {R:Ending→World→Prop} (h:YieldAt Fence.wide m P l args W R):YieldAt Fence.wide m' P l args W R:=by
 obtain⟨fn,tmps,assign,body,hy,hR⟩:=h
 exact⟨fn,tmps,assign,body,hy,hR.1,fun c cs _=>hR.2 c cs (room_wide _)⟩
def SeqM {α:Type} (P:Program) (g:Nat) (lb:Array Value) (encs:α→Array Value) (Pre:Nat→List α→α→World→Prop) (Post Out:α→World→World→Prop) (S Sp:List α→Prop) (w:World):Prop:=
 ∀(l:Nat) (J Jx:List α→World→Prop) (W:World),Below w.heap.size w W→OwnFrom W.heap.size J→OwnFrom W.heap.size Jx→
  (∀pre x W1,J pre W1→Pre W.heap.size pre x W1→YieldAt Fence.wide 7 P l (encs x) W1 fun e W'=>
   (e= .returned (.bool true)∧J (pre++ [x]) W'∧Post x W1 W')∨(e= .returned (.bool false)∧Jx (pre++ [x]) W'∧Out x W1 W'))→
  J [] W→
  CallsIn Fence.wide 9 P g (#[.func (.yield l) #[] #[]]++lb) W fun e W'=>(∃v,e= .returned v)∧((∃xs,S xs∧J xs W')∨(∃pre,Sp pre∧Jx pre W'))
def KeepsRec (W W':World):Prop:= ∀(k:Nat) (o:Obj),W.heap[k]? =some o→o.isCells=false→o.isWalk=false→W'.heap[k]? =some o
theorem KeepsRec.refl (W:World):KeepsRec W W:=fun _ _ h _ _=>h
theorem KeepsRec.trans {A B C:World} (h:KeepsRec A B) (k:KeepsRec B C):KeepsRec A C:=fun i o hi h1 h2=>k i o (h i o hi h1 h2) h1 h2
theorem KeepsRec.of_below {A B:World} (h:Below A.heap.size A B):KeepsRec A B:=fun k _ hk _ _=>(h.block k (heap_lt hk)).trans hk
theorem KeepsRec.of_kept {O:Nat→Prop} {A B:World} (h:Kept O A B) (hO: ∀k o,O k→A.heap[k]? =some o→o.isCells=true∨o.isWalk=true):KeepsRec A B:=fun k o hk h1 h2=>
 (h.block k (heap_lt hk) (fun e=>by
  have:=hO k o e hk
  rw[h1,h2]at this
  simp at this)).trans hk
def mPost {α:Type} (I Ix:List α→World→Prop) (Post Out:α→World→World→Prop) (pre:List α) (x:α) (W W':World):Exit→Act→World→Prop
 | .normal,_,W3=>KeepsRec W' W3∧I (pre++ [x]) W3∧Post x W W3
 | .ret,_,W3=>KeepsRec W' W3∧Ix (pre++ [x]) W3∧Out x W W3
 | .exit _,_,_=>False
 | .goto _,_,_=>False
 | .panic _,_,_=>False
 | .outgrown,_,_=>False
theorem own_rec {α:Type} {B:Nat} {I:List α→World→Prop} (hI:OwnFrom B I) {L D:Nat} {o d:Obj} {B':Nat} (hB:B≤B') (hL:L<B') (hD:D<B'):OwnFrom B' (fun pre W=>I pre W∧W.heap[L]? =some o∧W.heap[D]? =some d):=by
 rintro pre W W' row ⟨h1,h2,h3⟩ hg hr
 refine⟨hI pre W W' row h1 hg (fun r e=>⟨Nat.le_trans hB (hr r e).1,(hr r e).2⟩),(hg.block L (heap_lt h2) (fun e=>?_)).trans h2,(hg.block D (heap_lt h3) (fun e=>?_)).trans h3⟩
 ·have:=(hr L e.symm).1
  omega
 ·have:=(hr D e.symm).1
  omega
set_option maxHeartbeats 1000000 in
theorem wpIn_range_M {α:Type} {P:Program} {g:Operand} {ps:Array Tmp} {assign body:Code} {Q:Exit→Act→World→Prop} {a:Act} {w:World} {gf:Nat} {lb:Array Value}
  (hg:a.eval g= .func (.func gf) #[] lb) (eg: ∀args w,(callFunc gf args).run P w= .ok (.enter gf args) w)
  {encs:α→Array Value} {Pre:Nat→List α→α→World→Prop} {Post Out:α→World→World→Prop} {S Sp:List α→Prop} {w0:World} (hseq:SeqM P gf lb encs Pre Post Out S Sp w0) (hb0:Below w0.heap.size w0 w) (hps: ∀x,(encs x).size=ps.size)
  (hPost: ∀pre x (W W3:World) l r r',l<w.heap.size+2→Pre (w.heap.size+2) pre x W→W3.heap[l]? =some (.loop r)→Post x W W3→Post x W (W3.putObj l (.loop r')))
  (hOut: ∀pre x (W W3:World) l r r',l<w.heap.size+2→Pre (w.heap.size+2) pre x W→W3.heap[l]? =some (.loop r)→Out x W W3→Out x W (W3.putObj l (.loop r')))
  (I Ix:List α→World→Prop) (hI:OwnFrom w.heap.size I) (hIx:OwnFrom w.heap.size Ix) (h0:I [] w)
  (Fr:α→Nat→Act) (Mid:List α→α→World→Nat→World→Prop) (hMid: ∀pre x W B (W':World) l r r',w.heap.size≤l→l<w.heap.size+2→W'.heap[l]? =some (.loop r)→Mid pre x W B W'→Mid pre x W B (W'.putObj l (.loop r')))
  (hassign: ∀(l:Nat) (pre:List α) (x:α) (W:World) (K:Act→World→Prop),I pre W→Pre (w.heap.size+2) pre x W→(∀B W',KeepsRec W W'→Mid pre x W B W'→K (Fr x B) W')→
   assign.wpIn (Fence.wide.inRound l) 7 P (Exit.then K (fun _ _ _=>False)) { tmps:=(ps.zip (encs x)).foldl (fun t (p,v)=>t.setIfInBounds p v) a.tmps,defers:= [] } W)
  (hbody: ∀(l:Nat) (pre:List α) (x:α) (W:World) (B:Nat) (W':World),Mid pre x W B W'→body.wpIn (Fence.wide.inRound l) 7 P (mPost I Ix Post Out pre x W W') (Fr x B) W')
  (hdone: ∀(D:Nat) (xs:List α) (W:World),w.heap.size≤D→S xs→I xs W→W.heap[D]? =some (.deferred (some []))→Q .normal { a with defers:={ target:=.collected D,args:= #[] }::a.defers } W)
  (hstop: ∀(D:Nat) (pre:List α) (W:World),w.heap.size≤D→Sp pre→Ix pre W→W.heap[D]? =some (.deferred (some []))→Code.ret.wpIn Fence.wide 10 P Q { a with defers:={ target:=.collected D,args:= #[] }::a.defers } W):
  (Code.rangeFunc g ps assign body).wpIn Fence.wide 10 P Q a w:=by
 refine wpIn_rangeFunc (fun fn hfn=>?_)
 obtain⟨rec,hrec⟩: ∃rec:LoopState→Option Code→Loop,rec=fun st pe=>{ state:=st,pending:=pe,fn,tmps:=a.tmps,params:=ps,assign,body,defers:=w.heap.size }:=⟨_,rfl⟩
 obtain⟨W1,hW1⟩: ∃W1,(w.alloc (.deferred (some []))).alloc (.loop (rec .ready none))=W1:=⟨_,rfl⟩
 have hz1:W1.heap.size=w.heap.size+2:=by rw[←hW1];simp
 have hL1:W1.heap[w.heap.size+1]? =some (.loop (rec .ready none)):=by
  have:=World.alloc_heap_new (w.alloc (.deferred (some []))) (.loop (rec .ready none))
  rwa [hW1,World.size_alloc]at this
 have hD1:W1.heap[w.heap.size]? =some (.deferred (some [])):=by
  rw[←hW1,Below.heap_alloc _ _ _ (by simp)]
  exact World.alloc_heap_new w _
 have hb1:Below w.heap.size w W1:=by rw[←hW1];exact(mx_al w _).alloc (by simp) _
 have hI1:I [] W1:=by rw[←hW1];exact hI.alloc _ (hI.alloc _ h0)
 have turn: ∀(W3:World) (r r':Loop),W3.heap[w.heap.size+1]? =some (.loop r)→W3.heap[w.heap.size]? =some (.deferred (some []))→(W3.putObj (w.heap.size+1) (.loop r')).heap[w.heap.size+1]? =some (.loop r')∧(W3.putObj (w.heap.size+1) (.loop r')).heap[w.heap.size]? =some (.deferred (some [])):=fun W3 r r' h1 h2=>
  ⟨World.putObj_heap_same (heap_lt h1),(World.putObj_heap_other (by omega)).trans h2⟩
 refine⟨w.heap.size+1,[{ target:=.collected w.heap.size,args:= #[] }],W1,{ target:=.fn (.func gf) lb,args:= #[.func (.yield (w.heap.size+1)) #[] #[]] },W1,gf,#[.func (.yield (w.heap.size+1)) #[] #[]]++lb,W1,?_,?_,fun _ _=>trivial,?_,fun h=>(by cases h),?_⟩
 ·rw[←hW1,hrec]
  exact run_enterLoop_outer _ _ _ _ _
 ·simp only[resolve,hg]
  simp[go_sem]
 ·simp[invoke,go_sem,eg]
 refine(hseq (w.heap.size+1) (fun pre W=>I pre W∧W.heap[w.heap.size+1]? =some (.loop (rec .ready none))∧W.heap[w.heap.size]? =some (.deferred (some [])))
  (fun pre W=>Ix pre W∧W.heap[w.heap.size+1]? =some (.loop (rec .done (some .ret)))∧W.heap[w.heap.size]? =some (.deferred (some []))) W1 (hb0.trans (hb1.mono hb0.size))
  (own_rec hI (by omega) (by omega) (by omega)) (own_rec hIx (by omega) (by omega) (by omega)) ?_ ⟨hI1,hL1,hD1⟩).mono ?_
 ·rintro pre x W ⟨hi,hl,hd⟩ hp
  have hy:=run_yield (P:=P) (args:=encs x) hl (by rw[hrec];exact hps x)
  rw[hrec]at hy
  refine⟨fn,_,assign,body,hy,roundIn_of_wpIn hfn (hassign _ pre x W _ hi (hz1▸hp) ?_)⟩
  intro B W' hk hm
  have hl':=hk _ _ hl rfl rfl
  have hd':=hk _ _ hd rfl rfl
  refine⟨_,run_beginRound hl' (by rw[hrec]),?_⟩
  obtain⟨hl2,hd2⟩:=turn W' _ { rec .ready none with state:=.busy } hl' hd'
  refine wpIn_mono (hbody _ pre x W B _ (hMid pre x W B W' _ _ _ (by omega) (by omega) hl' hm)) ?_
  rintro e a3 W3 hq
  cases e with
  | normal=>
   obtain⟨hk3,hi3,hp3⟩:=hq
   have hl3:=hk3 _ _ hl2 rfl rfl
   have hd3:=hk3 _ _ hd2 rfl rfl
   have he:=run_endRound (P:=P) none hl3
   obtain⟨hl4,hd4⟩:=turn W3 _ (rec .ready none) hl3 hd3
   refine⟨_,_,he,.inl ⟨rfl,?_⟩⟩
   rw[hrec]at hl3 hl4 hd4⊢
   exact⟨⟨hI.putObj _ hi3 (by omega) hl3 rfl,hl4,hd4⟩,hPost pre _ _ _ _ _ _ (by omega) (hz1▸hp) hl3 hp3⟩
  | ret=>
   obtain⟨hk3,hi3,hp3⟩:=hq
   have hl3:=hk3 _ _ hl2 rfl rfl
   have hd3:=hk3 _ _ hd2 rfl rfl
   have he:=run_endRound (P:=P) (some .ret) hl3
   obtain⟨hl4,hd4⟩:=turn W3 _ (rec .done (some .ret)) hl3 hd3
   refine⟨_,_,he,.inr ⟨rfl,?_⟩⟩
   rw[hrec]at hl3 hl4 hd4⊢
   exact⟨⟨hIx.putObj _ hi3 (by omega) hl3 rfl,hl4,hd4⟩,hOut pre _ _ _ _ _ _ (by omega) (hz1▸hp) hl3 hp3⟩
  | exit id=>exact hq.elim
  | goto t=>exact hq.elim
  | panic c=>exact hq.elim
  | outgrown=>exact hq.elim
 ·rintro e W2 ⟨⟨v,rfl⟩,⟨xs,hS,hi,hl,hd⟩|⟨pre,hS,hi,hl,hd⟩⟩
  ·have he:=run_endLoop (P:=P) hl (by rw[hrec];simp)
   obtain⟨_,hd4⟩:=turn W2 _ { rec .ready none with state:=.exhausted } hl hd
   refine⟨none,_,?_,hdone _ xs _ (Nat.le_refl _) hS (hI.putObj _ hi (by omega) hl rfl) hd4⟩
   rw[hrec]at he⊢
   exact he
  ·have he:=run_endLoop (P:=P) hl (by rw[hrec];simp)
   obtain⟨_,hd4⟩:=turn W2 _ { rec .done (some .ret)with state:=.exhausted } hl hd
   refine⟨some .ret,_,?_,hstop _ pre _ (Nat.le_refl _) hS (hIx.putObj _ hi (by omega) hl rfl) hd4⟩
   rw[hrec]at he⊢
   exact he
end Go.Proofs.YtajbmjpodeilpaaGreat
