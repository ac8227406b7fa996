/- What a range over a function keeps: all cells and walks but some. The trail from its last literal on: Down. A region that draws its order, in a round of a range over a function. analyze: Conflict's inner function; what the loop keeps. analyze: what Conflict's loop keeps. -/
import Derived.Test.YtoojmhjagipmdaaGreatV301
import Derived.RangeFuncNested
import Derived.RangeFuncBound
import Derived.RangeFuncCalls
import Derived.RangeFuncLeaves
import Derived.RangeFuncBox
import Derived.Shelf.Abstract
import Derived.Shelf.RegionOpen
import Derived.OwnWalkIn
import Derived.TacticsInMore
import Derived.LoopNIn
import Derived.LoopIn
import Derived.Maps.OwnIn
import Derived.Test.YtoojmhjagipmdaaGreatV302
import Derived.Test.YtoojmhjagipmdaaGreatV300
import Derived.OrdersIn
import Derived.Test.YtoojmhjagipmdaaGreatV305
namespace Go.Proofs.YtoojmhjagipmdaaGreat
open Go.RowKit Go.Shelf Go.Maps
attribute [local go_sem] Oper.semAt_some
def XO (W:World) (g:Nat):Prop:= ∃o,W.heap[g]? =some o∧o.isCells=false∧o.isWalk=false
structure KpC (X:Nat→Prop) (W W':World):Prop where
 os:W'.os=W.os
 tape:W'.tape=W.tape
 output:W'.output=W.output
 size:W.heap.size≤W'.heap.size
 same: ∀k o,W.heap[k]? =some o→¬X k→(o.isCells=true∨o.isWalk=true)→W'.heap[k]? =some o
theorem KpC.kept {X:Nat→Prop} {W W':World} (h:KpC X W W'):Kept (fun g=>X g∨XO W g) W W':=
 ⟨h.os,h.tape,h.output,h.size,fun k hk hn=>by
  have hg:W.heap[k]? =some W.heap[k]:=Array.getElem?_eq_getElem hk
  rw[hg]
  refine h.same k _ hg (fun hx=>hn (.inl hx)) ?_
  apply Classical.byContradiction
  intro hc
  simp only[not_or,Bool.not_eq_true]at hc
  exact hn (.inr ⟨_,hg,hc.1,hc.2⟩)⟩
theorem KpC.trans {X:Nat→Prop} {A B C:World} (h:KpC X A B) (k:KpC X B C):KpC X A C:=
 ⟨k.os.trans h.os,k.tape.trans h.tape,k.output.trans h.output,Nat.le_trans h.size k.size,fun i o hi hx ho=>k.same i o (h.same i o hi hx ho) hx ho⟩
theorem KpC.mono {X X':Nat→Prop} {A B:World} (h:KpC X A B) (hX: ∀g,g<A.heap.size→X g→X' g):KpC X' A B:=
 ⟨h.os,h.tape,h.output,h.size,fun i o hi hx ho=>h.same i o hi (fun h'=>hx (hX i (heap_lt hi) h')) ho⟩
theorem KpC.of_grown {A B:World} {row:Option Nat} (h:A.grownBy B row):KpC (fun g=>some g=row) A B:=
 ⟨h.os,h.tape,h.output,h.size,fun k _ hk hn _=>(h.block k (heap_lt hk) hn).trans hk⟩
theorem KpC.refl (X:Nat→Prop) (A:World):KpC X A A:=⟨rfl,rfl,rfl,Nat.le_refl _,fun _ _ h _ _=>h⟩
theorem KpC.of_below {X:Nat→Prop} {A B:World} (h:Below A.heap.size A B):KpC X A B:=⟨h.os,h.tape,h.output,h.size,fun k _ hk _ _=>(h.block k (heap_lt hk)).trans hk⟩
theorem KpC.putObj (W:World) (l:Nat) (o o':Obj) (h:W.heap[l]? =some o) (hc:o.isCells=false) (hw:o.isWalk=false):KpC (fun _=>False) W (W.putObj l o'):=by
 have hg:=grownBy_putObj' W l o'
 refine⟨hg.os,hg.tape,hg.output,hg.size,fun k x hk _ hx=>?_⟩
 rw[hg.block k (heap_lt hk) (fun e=>by
  cases e
  rw[h]at hk
  cases hk
  rw[hc,hw]at hx
  simp at hx)]
 exact hk
theorem xo_cells {W:World} {g:Nat} {c:Array Value} {t:TypeId} {f:Nat×Nat} (h:W.heap[g]? =some (.cells c t f)): ¬XO W g:=by
 rintro ⟨o,ho,hc,_⟩
 rw[h]at ho
 cases ho
 cases hc
theorem xo_cell {W:World} {p:Addr} {v:Value} (h:W.cell? p=some v): ¬XO W p.block:=by
 rintro ⟨o,ho,hc,_⟩
 unfold World.cell? at h
 rw[ho]at h
 cases o <;> simp_all [Obj.isCells]
theorem IntsIn.narrow {O:Nat→Prop} {w:World} {v:Value} {xs:List Int} (h:IntsIn O w v xs):IntsIn (fun g=>O g∧¬XO w g) w v xs:=by
 obtain⟨A,c,hv,hc,hn,hx⟩:=h
 refine⟨A,c,hv,hc,hn,fun i x hi=>?_⟩
 obtain⟨g,o,h1,h2,h3,h4⟩:=hx i x hi
 exact⟨g,o,h1,h2,⟨h3,xo_cell h4⟩,h4⟩
end Go.Proofs.YtoojmhjagipmdaaGreat
namespace Go.Proofs.YtoojmhjagipmdaaGreat
open Go.RowKit Go.Shelf Go.Maps
attribute [local go_sem] Oper.semAt_some
theorem TrAt.narrow {O:Nat→Prop} {w:World} {b:Nat} {T:Trl} (h:TrAt O w b T):TrAt (fun g=>O g∧¬XO w g) w b T:=by
 obtain⟨hk,gv,cv,ov,sv,h⟩:=h
 refine⟨hk,gv,cv,ov,sv,fun g hg=>h.own g hg.1,⟨h.inb,xo_cells h.block⟩,⟨h.invs,?_⟩,h.block,h.vars,h.order,fun g hg=>⟨h.orderb g hg,?_⟩,h.starts,fun g hg=>⟨h.startsb g hg,?_⟩⟩
 ·obtain⟨c,hc⟩:=own_type h.vars gv rfl
  exact xo_cells hc
 ·obtain⟨c,hc⟩:=own_type h.order g hg
  exact xo_cells hc
 ·obtain⟨c,hc⟩:=own_type h.starts g hg
  exact xo_cells hc
theorem TrAt.rounds {O X:Nat→Prop} {W w:World} {b:Nat} {T:Trl} (h:TrAt O W b T) (k:KpC X W w) (hX: ∀g,O g→¬X g):TrAt (fun g=>O g∧¬XO W g) w b T:=
 h.narrow.kept k.kept (fun g hg ho=>ho.elim (hX g hg.1) hg.2)
def downL (o:List Int):Nat→List (Nat×Int)
 | 0=> []
 | k+1=>match o[k]? with
  | some l=>(k,l)::downL o k
  | none=> []
def dv (x:Nat×Int):Array Value:= #[.int .i64 (x.1:Int),.int .i64 x.2]
theorem tr_cells {O:Nat→Prop} {w:World} {b m:Nat} {T:Trl} {l:Int} (h:TrAt O w b T) (hl:T.order[m]? =some l):
  ∃g c,w.cell? ⟨b,1,none⟩=some (.slice (some ⟨g,0,none⟩) T.order.length c)∧w.cell? ⟨g,m,none⟩=some (.int .i64 l):=by
 obtain⟨hk,gv,cv,ov,sv,h⟩:=h
 have hm:m<T.order.length:=(List.getElem?_eq_some_iff.1 hl).1
 obtain⟨g,c,cs,hv,_⟩:=mx_some h.order (by omega)
 refine⟨g,c,?_,?_⟩
 ·rw[mx_cell h.block,hv]
  rfl
 ·have ho:=h.order
  rw[hv]at ho
  exact mx_at ho (by rw[List.getElem?_map,hl];rfl)
set_option maxRecDepth 100000 in
set_option maxHeartbeats 2000000 in
theorem down1_in {O X:Nat→Prop} (l Bt b:Nat) (T:Trl) (J Jx:List (Nat×Int)→World→Prop) (W:World)
  (hY: ∀pre x W1,J pre W1→pre.length<T.order.length→YieldAt Fence.wide 7 Tryz.prog l (dv x) W1 fun e W'=>
   (e= .returned (.bool true)∧J (pre++ [x]) W'∧KpC X W1 W')∨(e= .returned (.bool false)∧Jx (pre++ [x]) W'))
  (hBt:W.cell? ⟨Bt,0,none⟩=some (.pointer (some ⟨b,0,none⟩))) (hX: ¬X Bt) (hT:TrAt O W b T) (hOX: ∀g,O g→¬X g) (h0:J [] W):
  CallsIn Fence.wide 8 Tryz.prog 125 #[.func (.yield l) #[] #[],.pointer (some ⟨Bt,0,none⟩)] W fun e W'=>(∃v,e= .returned v)∧
   ((∃ys,ys=downL T.order T.order.length∧J ys W')∨(∃pre,(pre <+: downL T.order T.order.length∧pre≠ [])∧Jx pre W')):=by
 have hBt':=World.block_lt_of_cell? W _ hBt
 have hno:=hT.1.order
 have HBT:=Lib.hid hBt
 have HT:=Lib.hid hT
 have HY:=Lib.hid hY
 have H0:=Lib.hid h0
 have HX:=Lib.hid hX
 have HOX:=Lib.hid hOX
 have HLEN:=Lib.hid (tr_len b T W hT)
 clear hT hY h0 hX hOX
 refine callsIn_of_wp Tryz.func125 rfl trivial ?_ rfl
 simp only[Tryz.ntmps125,List.size_toArray,List.length_cons,List.length_nil,Nat.reduceAdd,Nat.reduceSub,Array.replicate_succ,Array.replicate_zero,List.push_toArray,List.append_toArray,List.nil_append,List.cons_append]
 refine wpIn_wide.2 (wp_scope_straight ((wpIn_wide (n:=8)).1 ?_))
 refine wpIn_seq ?_
 refine wpIn_label ?_
 gi_wp2_with fail
 refine⟨trivial,?_⟩
 refine(callsIn_wide.2 HLEN.out).mono ?_
 rintro e wy ⟨rfl,rfl⟩
 gi_wp2_with fail
 clear hBt
 gi_loopw [3] (fun i wr=> ∃(z:Int) (k:Nat) (pre:List (Nat×Int)),i= .int .i64 z∧ -1≤z∧z<1048576∧Hid (z+1=k)∧Hid (pre.length+k=T.order.length)∧Hid (pre++downL T.order k=downL T.order T.order.length)∧Hid (KpC X W wr)∧Hid (J pre wr))
  (fun i _=>(intOf i+1).toNat)
 case atStart=>
  exact⟨(T.order.length:Int)-1,T.order.length,[],rfl,by omega,by omega,Lib.hid (by omega),Lib.hid (by simp),Lib.hid rfl,Lib.hid (KpC.refl _ _),H0⟩
 case round=>
  obtain⟨z,k,pre,rfl,hz1,hz2,HZ,HPL,HPE,HK,HJS⟩:=hrel
  have HTR:=Lib.hid (HT.out.rounds HK.out HOX.out)
  have d0:wr.cell? ⟨Bt,0,none⟩=some (.pointer (some ⟨b,0,none⟩)):=(HK.out.kept.cell (p:=⟨Bt,0,none⟩) hBt' (fun h=>h.elim HX.out (xo_cell HBT.out))).trans HBT.out
  have HLR:=Lib.hid (tr_len b T wr HTR.out)
  by_cases hz0:0≤z
  ·obtain⟨m,rfl⟩: ∃m:Nat,z=(m:Int):=⟨z.toNat,by omega⟩
   obtain rfl:k=m+1:=by have:=HZ.out;omega
   have hm:m<T.order.length:=by have:=HPL.out;omega
   have hq:decide ((T.order.length:Int)≤(m:Int))=false:=by simp;omega
   have hq2:decide (T.order.length≤m)=false:=by simp;omega
   obtain⟨x,hx⟩:=getElem_of hm
   obtain⟨g,c,c1,d1⟩:=tr_cells HTR.out hx
   have HD:=Lib.hid (show downL T.order (m+1)=(m,x)::downL T.order m from by simp only[downL];rw[hx])
   obtain⟨fn,tmps,assign,body,hy,hR⟩:=HY.out pre (m,x) wr HJS.out (by have:=HPL.out;omega)
   dsimp only[dv]at hy
   have HR:=Lib.hid hR
   clear hx hR
   gi_wp2_with fail
   refine⟨trivial,?_⟩
   refine(callsIn_wide.2 HLR.out).mono ?_
   rintro e wy ⟨rfl,rfl⟩
   gi_wp2_with fail
   refine HR.out.mono ?_
   rintro e W3 (⟨rfl,hJ3,hk3⟩|⟨rfl,hJx3⟩)
   ·have HJ3:=Lib.hid hJ3
    have HK3:=Lib.hid (HK.out.trans hk3)
    clear hJ3 hk3 hy d0 c1 d1
    gi_wp2_with fail
    go_roundw
    case rel=>exact⟨(m:Int)-1,m,pre++ [(m,x)],rfl,by omega,by omega,Lib.hid (by omega),Lib.hid (by have:=HPL.out;simp;omega),Lib.hid (by rw[←HPE.out,HD.out];simp),HK3,HJ3⟩
    case measure=>simp[intOf]
   ·gi_wp2_with fail
    rw[Exit.noGoto_ret]
    refine bodyPost_ret (results_none rfl _ _ _) rfl ?_
    refine⟨⟨_,rfl⟩,.inr ⟨pre++ [(m,x)],⟨?_,by simp⟩,hJx3⟩⟩
    rw[←HPE.out,HD.out]
    exact⟨_,by rw[List.append_assoc];rfl⟩
  ·have hq:decide ((0:Int)≤z)=false:=by simpa using hz0
   obtain rfl:k=0:=by have:=HZ.out;omega
   gi_wp2_with fail
   go_end0
   have he:pre=downL T.order T.order.length:=by simpa [downL] using HPE.out
   exact⟨⟨_,rfl⟩,.inl (he▸HJS.out)⟩
theorem down_in (b:Nat) (w:World):
  CallsIn Fence.wide 8 Tryz.prog 83 #[.pointer (some ⟨b,0,none⟩)] w fun e w'=>e= .returned (.func (.func 125) #[] #[.pointer (some ⟨w.heap.size,0,none⟩)])∧w.alloc (.cells #[.pointer (some ⟨b,0,none⟩)] 38)=w':=by
 refine callsIn_of_wp Tryz.func83 rfl trivial ?_ rfl
 simp only[Tryz.ntmps83,List.size_toArray,List.length_cons,List.length_nil,Nat.reduceAdd,Nat.reduceSub,Array.replicate_succ,Array.replicate_zero,List.push_toArray,List.append_toArray,List.nil_append,List.cons_append]
 gi_wp2
 go_ret
 exact⟨rfl,rfl⟩
theorem down_stops {O X:Nat→Prop} (Bt b:Nat) (T:Trl) (w:World) (hBt:w.cell? ⟨Bt,0,none⟩=some (.pointer (some ⟨b,0,none⟩))) (hX: ¬X Bt) (hT:TrAt O w b T) (hOX: ∀g,O g→¬X g):
  SeqStopsK Fence.wide 8 Tryz.prog 125 #[.pointer (some ⟨Bt,0,none⟩)] dv (KpC X) (fun ys=>ys=downL T.order T.order.length) (fun pre=>pre <+: downL T.order T.order.length∧pre≠ []) T.order.length w:=fun l J Jx W hW _ _ hY h0=>
 down1_in l Bt b T J Jx W hY ((hW.cell (p:=⟨Bt,0,none⟩) (World.block_lt_of_cell? w _ hBt)).trans hBt) hX (hT.below hW) hOX h0
end Go.Proofs.YtoojmhjagipmdaaGreat
namespace Go.Proofs.YtoojmhjagipmdaaGreat
open Go.RowKit Go.Shelf Go.Maps
def noDefer (ops:Array Oper):Bool:=ops.all fun o=>match o.op with
 | .defer _=>false
 | _=>true
theorem noDefer_at {ops:Array Oper} (h:noDefer ops=true) {i:Nat} {o:Oper} (ho:ops[i]? =some o): ∀c,o.op≠.defer c:=by
 intro c hc
 obtain⟨hi,he⟩:=Array.getElem?_eq_some_iff.1 ho
 have:=(Array.all_eq_true.1 h) i hi
 rw[he,hc]at this
 cases this
theorem rows_round {l n:Nat} {P:Program} {row:String} {args:Array Value} {w:World} {R:Value→World→Prop} (h:Rows P row args w R):RowsIn (Fence.wide.inRound l) n P row args w R:=
 fun c cs _=>let ⟨v,w',r,s⟩:=h c cs;⟨v,w',r,stepsIn_wide.2 s⟩
theorem oper_round {l n:Nat} {P:Program} {o:Oper} {a:Act} {w:World} {K:Act→World→Prop} {Q:Exit→Act→World→Prop} (hd: ∀c,o.op≠.defer c) (h:o.wp P a w K Q):o.wpIn (Fence.wide.inRound l) n P a w K Q:=by
 unfold Oper.wpIn
 refine⟨fun _ _=>trivial,?_⟩
 rw[Fence.inRound_round,Oper.semAt_some l a.eval o hd]
 unfold Oper.wp at h
 generalize (execOp a.eval o).run P w=r at *
 cases r with
 | ok x w'=>
  cases x with
  | value v=>exact h
  | skip=>exact h
  | defer d=>exact h
  | enter f args=>exact⟨(fun hh=>by cases hh),CallsIn.inRound l (callsIn_wide.2 h)⟩
  | row row args=>exact⟨(fun hh=>by cases hh),rows_round h⟩
  | round=>exact(h:False).elim
  | _=>exact h
 | halt x w'=>
  cases x <;> exact h
theorem wpOp_round {l n:Nat} {P:Program} {ops:Array Oper} {Q:Exit→Act→World→Prop} {i:Nat} {K:Act→World→Prop} {a:Act} {w:World} (hL: ¬LetsOut Q) (hd:noDefer ops=true) (h:wpOp P ops Q i K a w):wpOpIn (Fence.wide.inRound l) n P ops Q i K a w:=by
 unfold wpOp at h
 unfold wpOpIn
 cases ho:ops[i]? with
 | none=>
  rw[ho]at h
  exact h
 | some o=>
  rw[ho]at h
  simp only at h⊢
  split
  ·rename_i hw
   rw[if_pos hw]at h
   rcases h with h|h
   ·exact oper_round (noDefer_at hd ho) h
   ·exact absurd h.2 hL
  ·rename_i hw
   rw[if_neg hw]at h
   exact⟨fun _ _=>trivial,h⟩
theorem wpAny_round {l n:Nat} {P:Program} {md:Region.Mode} {ops:Array Oper} {Q:Exit→Act→World→Prop} (hL: ¬LetsOut Q) (hd:noDefer ops=true): ∀(fuel:Nat) (listed:Array Bool) (a:Act) (w:World),wpAny P md ops Q fuel listed a w→wpAnyIn (Fence.wide.inRound l) n P md ops Q fuel listed a w
 | 0,_,_,_,h=>h
 | fuel+1,_,_,_,h=>⟨h.1,fun i hi=>wpOpIn_mono (fun a w h'=>wpAny_round hL hd fuel _ a w h') (wpOp_round hL hd (h.2 i hi))⟩
theorem wpIn_round_region {l n id:Nat} {P:Program} {ops:Array Oper} {Q:Exit→Act→World→Prop} {a:Act} {w:World} (S:World→Prop) (hm:P.follows .mixedOrders=true) (hd:noDefer ops=true) (hL: ¬LetsOut Q) (hS:S w.drew)
  (h:S w.drew→wpAnyH P .any ops Q S ops.size (Array.replicate ops.size false) a w.drew):(Code.region id ops true).wpIn (Fence.wide.inRound l) n P Q a w:=
 wpIn_region_any hm (wpAny_round hL hd _ _ _ _ (wpAny_of_held _ _ _ _ (h hS)))
theorem wpIn_round_sink {l n id:Nat} {P:Program} {lo:List Oper} {o:Oper} (S:World→Prop) {Q:Exit→Act→World→Prop} {a:Act} {w:World} (hm:P.follows .mixedOrders=true) (hl:lo=lo.dropLast++ [o]) (hk:sinkOk .any lo.dropLast.toArray o=true) (hd:noDefer lo.toArray=true) (hL: ¬LetsOut Q) (hS:S w.drew)
  (h:S w.drew→wpAnyH P .any lo.dropLast.toArray (lastPost P lo.dropLast.toArray o Q) S lo.dropLast.toArray.size (Array.replicate lo.dropLast.toArray.size false) a w.drew):(Code.region id lo.toArray true).wpIn (Fence.wide.inRound l) n P Q a w:=by
 have e:lo.toArray=lo.dropLast.toArray.push o:=by
  rw[List.push_toArray,←hl]
 rw[e]at hd⊢
 refine wpIn_region_any hm (wpAny_round hL hd _ _ _ _ ?_)
 have:=wpAny_sink (P:=P) (sink_of hk) lo.dropLast.toArray.size (Array.replicate lo.dropLast.toArray.size false) a w.drew (by simp) (fun j x _ hj=>by
  have:(Array.replicate lo.dropLast.toArray.size false).getD j false=false:=by
   simp only[Array.getD_eq_getD_getElem?,Array.getElem?_replicate]
   split <;> rfl
  rw[this]at hj
  cases hj) (wpAny_of_held _ _ _ _ (h hS))
 rw[Array.size_push,show Array.replicate (lo.dropLast.toArray.size+1) false=(Array.replicate lo.dropLast.toArray.size false).push false by rw[Array.replicate_succ]]
 exact this
end Go.Proofs.YtoojmhjagipmdaaGreat
namespace Go.Proofs.YtoojmhjagipmdaaGreat
open Go.RowKit Go.Shelf Go.Maps
def Trl.goes (T:Trl) (lv op v:Int):Bool:=T.level v==0||(T.level v==lv&&decide (1<op))
set_option maxRecDepth 100000 in
set_option maxHeartbeats 2000000 in
theorem goes_zero {O:Nat→Prop} (a b mb wb lb ob:Nat) (T:Trl) (lv op v:Int) (w:World) (h:TrAt O w b T) (hw:w.heap[wb]? =some (.cells #[.pointer (some ⟨a,0,none⟩),.pointer (some ⟨b,0,none⟩),.map (some mb)] 111 (0,0)))
  (hl:w.cell? ⟨lb,0,none⟩=some (.int .i64 lv)) (ho:w.cell? ⟨ob,0,none⟩=some (.int .i64 op)) (hv:T.level v=0):
  Calls Tryz.prog 81 #[.int .i64 v,.pointer (some ⟨wb,0,none⟩),.pointer (some ⟨lb,0,none⟩),.pointer (some ⟨ob,0,none⟩)] w fun e w'=>e= .returned (.bool (true))∧Below w.heap.size w w':=by
 have HT:=Lib.hid h
 have HL:=Lib.hid hv
 have hwb:=heap_lt hw
 have hlb:=World.block_lt_of_cell? w _ hl
 have hob:=World.block_lt_of_cell? w _ ho
 have C0:=Lib.hid (mx_cell (j:=0) hw)
 have C1:=Lib.hid (mx_cell (j:=1) hw)
 have C2:=Lib.hid (mx_cell (j:=2) hw)
 have CL:=Lib.hid hl
 have CO:=Lib.hid ho
 clear h hv hw hl ho
 go_enter Tryz.func81,Tryz.ntmps81
 go_upto_region 1 with fail
 refine wp_region_held_drew (S:=fun w'=>Below w.heap.size w w') (by kernel_rfl) (mx_drew w) (fun hS=>?_)
 refine takeF 0 6 (fun w hSw=>And.intro ((hSw.cell (p:=⟨wb,0,none⟩) hwb).trans C0.out) (And.intro ((hSw.cell (p:=⟨wb,1,none⟩) hwb).trans C1.out) ((hSw.cell (p:=⟨wb,2,none⟩) hwb).trans C2.out))) ?_
 refine takeE 1 7 ?_
 refine ready1 2 (fun K hK=>?_)
 go_simp
 refine(wk_level a b (some mb) T v _ (HT.out.below hS)).mono ?_
 rintro e w3 ⟨rfl,hb3⟩
 rw[HL.out]
 have hS3:=hS.trans (hb3.mono hS.size)
 refine hK.out _ _ hS3 (fun _=>?_)
 clear hK hb3 hS
 rename Below w.heap.size w w3=>hS
 refine takeE 3 9 ?_
 refine takeE 4 10 ?_
 refine takeU 5 11 ?_
 refine takeU 6 12 ?_
 refine takeU 7 13 ?_
 refine takeU 8 14 ?_
 refine takeU 9 15 ?_
 refine takeU 10 16 ?_
 refine takeU 11 17 ?_
 refine takeU 12 18 ?_
 refine takeU 13 19 ?_
 refine takeE 14 20 ?_
 refine takeE 15 5 ?_
 refine wpAnyH_done (by kernel_rfl) ?_ _
 go_wp2_with fail
 go_ret
 exact⟨rfl,hS⟩
set_option maxRecDepth 100000 in
set_option maxHeartbeats 2000000 in
theorem goes_top {O:Nat→Prop} (a b mb wb lb ob:Nat) (T:Trl) (lv op v:Int) (w:World) (h:TrAt O w b T) (hw:w.heap[wb]? =some (.cells #[.pointer (some ⟨a,0,none⟩),.pointer (some ⟨b,0,none⟩),.map (some mb)] 111 (0,0)))
  (hl:w.cell? ⟨lb,0,none⟩=some (.int .i64 lv)) (ho:w.cell? ⟨ob,0,none⟩=some (.int .i64 op)) (hv:T.level v=lv) (hq:(lv==0)=false):
  Calls Tryz.prog 81 #[.int .i64 v,.pointer (some ⟨wb,0,none⟩),.pointer (some ⟨lb,0,none⟩),.pointer (some ⟨ob,0,none⟩)] w fun e w'=>e= .returned (.bool (decide (1<op)))∧Below w.heap.size w w':=by
 have HT:=Lib.hid h
 have HL:=Lib.hid hv
 have hwb:=heap_lt hw
 have hlb:=World.block_lt_of_cell? w _ hl
 have hob:=World.block_lt_of_cell? w _ ho
 have C0:=Lib.hid (mx_cell (j:=0) hw)
 have C1:=Lib.hid (mx_cell (j:=1) hw)
 have C2:=Lib.hid (mx_cell (j:=2) hw)
 have CL:=Lib.hid hl
 have CO:=Lib.hid ho
 clear h hv hw hl ho
 go_enter Tryz.func81,Tryz.ntmps81
 go_upto_region 1 with fail
 refine wp_region_held_drew (S:=fun w'=>Below w.heap.size w w') (by kernel_rfl) (mx_drew w) (fun hS=>?_)
 refine takeF 0 6 (fun w hSw=>And.intro ((hSw.cell (p:=⟨wb,0,none⟩) hwb).trans C0.out) (And.intro ((hSw.cell (p:=⟨wb,1,none⟩) hwb).trans C1.out) ((hSw.cell (p:=⟨wb,2,none⟩) hwb).trans C2.out))) ?_
 refine takeE 1 7 ?_
 refine ready1 2 (fun K hK=>?_)
 go_simp
 refine(wk_level a b (some mb) T v _ (HT.out.below hS)).mono ?_
 rintro e w3 ⟨rfl,hb3⟩
 rw[HL.out]
 have hS3:=hS.trans (hb3.mono hS.size)
 refine hK.out _ _ hS3 (fun _=>?_)
 clear hK hb3 hS
 rename Below w.heap.size w w3=>hS
 refine takeE 3 9 ?_
 refine takeE 4 10 ?_
 refine takeF 5 11 (fun w hSw=>And.intro ((hSw.cell (p:=⟨wb,0,none⟩) hwb).trans C0.out) (And.intro ((hSw.cell (p:=⟨wb,1,none⟩) hwb).trans C1.out) ((hSw.cell (p:=⟨wb,2,none⟩) hwb).trans C2.out))) ?_
 refine takeE 6 12 ?_
 refine takeF 8 14 (fun w hSw=>(hSw.cell (p:=⟨lb,0,none⟩) hlb).trans CL.out) ?_
 refine ready1 7 (fun K hK=>?_)
 go_simp
 refine(wk_level a b (some mb) T v _ (HT.out.below hS)).mono ?_
 rintro e w3 ⟨rfl,hb3⟩
 rw[HL.out]
 have hS3:=hS.trans (hb3.mono hS.size)
 refine hK.out _ _ hS3 (fun _=>?_)
 clear hK hb3 hS
 rename Below w.heap.size w w3=>hS
 refine takeE 9 15 ?_
 refine takeE 10 16 ?_
 refine takeF 11 17 (fun w hSw=>(hSw.cell (p:=⟨ob,0,none⟩) hob).trans CO.out) ?_
 refine takeE 12 18 ?_
 refine takeE 13 19 ?_
 refine takeE 14 20 ?_
 refine takeE 15 5 ?_
 refine wpAnyH_done (by kernel_rfl) ?_ _
 go_wp2_with fail
 go_ret
 exact⟨rfl,hS⟩
set_option maxRecDepth 100000 in
set_option maxHeartbeats 2000000 in
theorem goes_low {O:Nat→Prop} (a b mb wb lb ob:Nat) (T:Trl) (lv op v:Int) (w:World) (h:TrAt O w b T) (hw:w.heap[wb]? =some (.cells #[.pointer (some ⟨a,0,none⟩),.pointer (some ⟨b,0,none⟩),.map (some mb)] 111 (0,0)))
  (hl:w.cell? ⟨lb,0,none⟩=some (.int .i64 lv)) (ho:w.cell? ⟨ob,0,none⟩=some (.int .i64 op)) (y:Int) (hv:T.level v=y) (hq:(y==0)=false) (hq2:(y==lv)=false):
  Calls Tryz.prog 81 #[.int .i64 v,.pointer (some ⟨wb,0,none⟩),.pointer (some ⟨lb,0,none⟩),.pointer (some ⟨ob,0,none⟩)] w fun e w'=>e= .returned (.bool (false))∧Below w.heap.size w w':=by
 have HT:=Lib.hid h
 have HL:=Lib.hid hv
 have hwb:=heap_lt hw
 have hlb:=World.block_lt_of_cell? w _ hl
 have hob:=World.block_lt_of_cell? w _ ho
 have C0:=Lib.hid (mx_cell (j:=0) hw)
 have C1:=Lib.hid (mx_cell (j:=1) hw)
 have C2:=Lib.hid (mx_cell (j:=2) hw)
 have CL:=Lib.hid hl
 have CO:=Lib.hid ho
 clear h hv hw hl ho
 go_enter Tryz.func81,Tryz.ntmps81
 go_upto_region 1 with fail
 refine wp_region_held_drew (S:=fun w'=>Below w.heap.size w w') (by kernel_rfl) (mx_drew w) (fun hS=>?_)
 refine takeF 0 6 (fun w hSw=>And.intro ((hSw.cell (p:=⟨wb,0,none⟩) hwb).trans C0.out) (And.intro ((hSw.cell (p:=⟨wb,1,none⟩) hwb).trans C1.out) ((hSw.cell (p:=⟨wb,2,none⟩) hwb).trans C2.out))) ?_
 refine takeE 1 7 ?_
 refine ready1 2 (fun K hK=>?_)
 go_simp
 refine(wk_level a b (some mb) T v _ (HT.out.below hS)).mono ?_
 rintro e w3 ⟨rfl,hb3⟩
 rw[HL.out]
 have hS3:=hS.trans (hb3.mono hS.size)
 refine hK.out _ _ hS3 (fun _=>?_)
 clear hK hb3 hS
 rename Below w.heap.size w w3=>hS
 refine takeE 3 9 ?_
 refine takeE 4 10 ?_
 refine takeF 5 11 (fun w hSw=>And.intro ((hSw.cell (p:=⟨wb,0,none⟩) hwb).trans C0.out) (And.intro ((hSw.cell (p:=⟨wb,1,none⟩) hwb).trans C1.out) ((hSw.cell (p:=⟨wb,2,none⟩) hwb).trans C2.out))) ?_
 refine takeE 6 12 ?_
 refine takeF 8 14 (fun w hSw=>(hSw.cell (p:=⟨lb,0,none⟩) hlb).trans CL.out) ?_
 refine ready1 7 (fun K hK=>?_)
 go_simp
 refine(wk_level a b (some mb) T v _ (HT.out.below hS)).mono ?_
 rintro e w3 ⟨rfl,hb3⟩
 rw[HL.out]
 have hS3:=hS.trans (hb3.mono hS.size)
 refine hK.out _ _ hS3 (fun _=>?_)
 clear hK hb3 hS
 rename Below w.heap.size w w3=>hS
 refine takeE 9 15 ?_
 refine takeE 10 16 ?_
 refine takeU 11 17 ?_
 refine takeU 12 18 ?_
 refine takeE 13 19 ?_
 refine takeE 14 20 ?_
 refine takeE 15 5 ?_
 refine wpAnyH_done (by kernel_rfl) ?_ _
 go_wp2_with fail
 go_ret
 exact⟨rfl,hS⟩
theorem goes_any {O:Nat→Prop} (a b mb wb lb ob:Nat) (T:Trl) (lv op v:Int) (w:World) (h:TrAt O w b T) (hw:w.heap[wb]? =some (.cells #[.pointer (some ⟨a,0,none⟩),.pointer (some ⟨b,0,none⟩),.map (some mb)] 111 (0,0)))
  (hl:w.cell? ⟨lb,0,none⟩=some (.int .i64 lv)) (ho:w.cell? ⟨ob,0,none⟩=some (.int .i64 op)):
  Calls Tryz.prog 81 #[.int .i64 v,.pointer (some ⟨wb,0,none⟩),.pointer (some ⟨lb,0,none⟩),.pointer (some ⟨ob,0,none⟩)] w fun e w'=>e= .returned (.bool (T.goes lv op v))∧Below w.heap.size w w':=by
 unfold Trl.goes
 by_cases h0:T.level v=0
 ·
  rw[h0]
  exact goes_zero a b mb wb lb ob T lv op v w h hw hl ho h0
 ·
  have q0:(T.level v==0)=false:=by simpa using h0
  rw[q0]
  by_cases h1:T.level v=lv
  ·
   rw[h1,beq_self_eq_true]
   rw[h1]at q0
   exact goes_top a b mb wb lb ob T lv op v w h hw hl ho h1 q0
  ·
   have q1:(T.level v==lv)=false:=by simpa using h1
   rw[q1]
   exact goes_low a b mb wb lb ob T lv op v w h hw hl ho _ rfl q0 q1
end Go.Proofs.YtoojmhjagipmdaaGreat
namespace Go.Proofs.YtoojmhjagipmdaaGreat
open Go.RowKit Go.Shelf Go.Maps
attribute [local go_sem] Oper.semAt_some
theorem wpListIn_append_any {F:Fence} {n0:Nat} {P:Program} {w:World} {ops:Array Oper} {rest:List Oper} {o:Oper} {a:Act} {Q:Exit→Act→World→Prop} (hg:o.guard=none) (s x:Operand) (t:TypeId) (ho:o.op= .call { callee:=.builtin .append,args:= #[s,x],argTypes:= #[t,t] })
  (base:Nat) (e:TypeId) (i:TypeInfo) (z:Value) (size bytes:Nat) (ht:P.underlying t=some (.slice e)) (hi:P.info? e=some i) (hz:i.zero=some z) (hsize:i.size=size) (hby:i.bytes=bytes) (hzs:z.cells.size=size) (hsz:0<size)
  (v:Value) (n:Nat) (xs:List Value) (hs:a.eval s=v) (hown:w.ownsRow base e size v n xs)
  (y:Value) (m:Nat) (news:List Value) (hx:a.eval x=y) (hy:SrcAt w y m news) (hl:news.length=m*size) (h1: ∀u∈news,u.oneCell'=true)
  (h63:n+m≤maxLen) (hbytes:(n+m)*bytes≤140737488355328) (hbase:base≤w.heap.size)
  (h: ∀v' w',w'.ownsRow base e size v' (n+m) (xs++news)→w.grownBy w' v.ownBlock→(v'.ownBlock=v.ownBlock∨v'.ownBlock=some w.heap.size)→wpListIn F n0 P ops Q rest (a.put o.dst v') w'):wpListIn F n0 P ops Q (o::rest) a w:=by
 refine wpListIn_plain hg fun K hK=>?_
 obtain⟨v',w',hr,h2,h3,h5⟩:=run_append_any (P:=P) w base t o.type e i z size bytes ht hi hz hsize hby hzs hsz v n xs hown y m news hy hl h1 h63 hbytes hbase
 unfold Oper.wpIn
 refine⟨by simp[Oper.about,ho,resolve,Target.leads,Sem.run_pure],?_⟩
 rw[Oper.semAt_plain F _ _ (by rw[ho];intro c hc';cases hc')]
 simp only[execOp,ho,resolve,invoke,builtin,Sem.run_bind,Sem.run_pure,Result.andThen_ok,List.map_toArray,List.map_cons,List.map_nil,hs,hx,hr]
 exact hK _ _ (h v' w' h2 h3 h5)
structure CSt where
 ms:List Int
 op:Int
 lits:List Int
 hints:List Int
 met:List Int
def cfStep (A:Arn) (T:Trl) (lv:Int) (s:CSt) (l:Int):Option CSt:=
 if s.ms.contains (litV l:Int)=false then some s
 else if T.goes lv s.op (litV l:Int)=false then some ⟨s.ms,s.op,s.lits++ [litN l],s.hints,if 0<T.level (litV l:Nat)then s.met++ [(litV l:Int)]else s.met⟩
 else match rightP A T l with
  | none=>none
  | some (id,c)=>some ⟨(T.meetGo (litV l:Int) lv c s.ms 0).1,if T.level (litV l:Nat)=lv then s.op+(((T.meetGo (litV l:Int) lv c s.ms 0).2:Int)-1)else s.op,s.lits,s.hints++ [id],if 0<T.level (litV l:Nat)then s.met++ [(litV l:Int)]else s.met⟩
def cfRun (A:Arn) (T:Trl) (lv:Int):CSt→List Int→Option CSt
 | s,[]=>some s
 | s,l::r=>match cfStep A T lv s l with
  | none=>none
  | some s'=>cfRun A T lv s' r
theorem cfRun_snoc {A:Arn} {T:Trl} {lv:Int} {s s1:CSt} {ls:List Int} (x:Int) (h:cfRun A T lv s ls=some s1):cfRun A T lv s (ls++ [x])=cfStep A T lv s1 x:=by
 induction ls generalizing s with
 | nil=>
  obtain rfl:=Option.some.inj h
  simp only[List.nil_append,cfRun]
  cases cfStep A T lv s x <;> rfl
 | cons l r ih=>
  simp only[cfRun,List.cons_append]at h⊢
  cases hs:cfStep A T lv s l with
  | none=>rw[hs]at h;cases h
  | some s'=>
   rw[hs]at h
   exact ih h
theorem cfRun_pre {A:Arn} {T:Trl} {lv:Int} {s:CSt} {ls ks:List Int} (h:ls <+: ks) (hn:cfRun A T lv s ls=none):cfRun A T lv s ks=none:=by
 obtain⟨t,rfl⟩:=h
 induction ls generalizing s with
 | nil=>cases hn
 | cons l r ih=>
  simp only[cfRun,List.cons_append]at hn⊢
  cases hs:cfStep A T lv s l with
  | none=>rfl
  | some s'=>
   rw[hs]at hn
   exact ih hn
theorem meetGo_le (T:Trl) (wo lv:Int) (c ms:List Int) (n:Nat):(T.meetGo wo lv c ms n).2≤n+c.length:=by
 induction c generalizing ms n with
 | nil=>exact Nat.le_refl _
 | cons l c ih=>
  unfold Trl.meetGo
  split
  ·refine Nat.le_trans (ih _ _) ?_
   simp only[List.length_cons]
   split <;> omega
  ·refine Nat.le_trans (ih _ _) ?_
   simp only[List.length_cons]
   omega
def CfR (R mb ob sb:Nat) (W W':World):Prop:=Kept (fun g=>g=mb∨g=ob∨g=sb∨R≤g∧∃c t f,W.heap[g]? =some (.cells c t f)) W W'
theorem CfR.refl (R mb ob sb:Nat) (W:World):CfR R mb ob sb W W:=Kept.refl _ _
theorem CfR.trans {R mb ob sb:Nat} {A B C:World} (h:CfR R mb ob sb A B) (k:CfR R mb ob sb B C):CfR R mb ob sb A C:=by
 refine Kept.trans h k (fun i hi ho=>?_)
 rcases ho with h1|h1|h1|⟨h1,h2⟩
 ·exact .inl h1
 ·exact .inr (.inl h1)
 ·exact .inr (.inr (.inl h1))
 ·apply Classical.byContradiction
  intro hn
  have hb:=h.block i hi hn
  obtain⟨c,t,f,hc⟩:=h2
  exact hn (.inr (.inr (.inr ⟨h1,c,t,f,hb.symm.trans hc⟩)))
theorem CfR.keeps {R mb ob sb:Nat} {A B:World} (h:CfR R mb ob sb A B) (hm:mb<R) (ho:ob<R) (hs:sb<R):KeepsFrom R A B:=
 ⟨h.size,fun k o hk hg hc=>(h.block k (heap_lt hg) (fun hn=>by
  rcases hn with h1|h1|h1|⟨_,c,t,f,h2⟩
  ·omega
  ·omega
  ·omega
  ·rw[hg]at h2
   cases h2
   cases hc)).trans hg⟩
theorem CfR.kpc {R mb ob sb:Nat} {A B:World} (h:CfR R mb ob sb A B):KpC (fun g=>g=mb∨g=ob∨g=sb∨R≤g) A B:=
 ⟨h.os,h.tape,h.output,h.size,fun k o hg hX _=>(h.block k (heap_lt hg) (fun hn=>hX (by
  rcases hn with h1|h1|h1|⟨h1,_⟩
  ·exact .inl h1
  ·exact .inr (.inl h1)
  ·exact .inr (.inr (.inl h1))
  ·exact .inr (.inr (.inr h1))))).trans hg⟩
theorem CfR.below {R mb ob sb:Nat} {A B:World} (h:Below A.heap.size A B):CfR R mb ob sb A B:=Kept.of_below h
structure CfMem (WR W:World) (mb ob sb:Nat) (s:CSt) (kk:Nat) (x y z:Value):Prop where
 kept:Kept (fun g=>g=mb∨g=ob∨g=sb) WR W
 map:MapAt W mb kk (metF s.ms)
 op:W.heap[ob]? =some (.cells #[.int .i64 s.op] 3 (0,0))
 out:W.heap[sb]? =some (.cells #[x,.int .i64 0,.int .i64 0,y,z] 65 (0,0))
 lits:W.ownsRow WR.heap.size 32 1 x s.lits.length (s.lits.map (Value.int .i64))
 hints:W.ownsRow WR.heap.size 3 1 y s.hints.length (s.hints.map (Value.int .i64))
 met:W.ownsRow WR.heap.size 3 1 z s.met.length (s.met.map (Value.int .i64))
 apart: ∀g,y.ownBlock=some g→z.ownBlock≠some g
theorem cf_mne {W:World} {mb kk b:Nat} {f:Int→Int} {c:Array Value} {t:TypeId} {fz:Nat×Nat} (h:MapAt W mb kk f) (hb:W.heap[b]? =some (.cells c t fz)):mb≠b:=by
 rintro rfl
 obtain⟨D,⟨es,cl,hb',_⟩,_⟩:=h
 rw[hb]at hb'
 cases hb'
theorem CfMem.after {WR W W':World} {mb ob sb kk:Nat} {s:CSt} {x y z:Value} (h:CfMem WR W mb ob sb s kk x y z) (O:Nat→Prop) (k:Kept O W W') (h1: ¬O mb) (h2: ¬O ob) (h3: ¬O sb) (h4: ∀g,O g→WR.heap.size≤g) (h5: ∀g,(x.ownBlock=some g∨y.ownBlock=some g∨z.ownBlock=some g)→¬O g):CfMem WR W' mb ob sb s kk x y z where
 kept:=h.kept.trans k (fun i hi ho=>by have:=h4 i ho;omega)
 map:=h.map.kept k h1
 op:=(k.block ob (heap_lt h.op) h2).trans h.op
 out:=(k.block sb (heap_lt h.out) h3).trans h.out
 lits:=own_kept h.lits k (fun g hg=>h5 g (.inl hg))
 hints:=own_kept h.hints k (fun g hg=>h5 g (.inr (.inl hg)))
 met:=own_kept h.met k (fun g hg=>h5 g (.inr (.inr hg)))
 apart:=h.apart
theorem CfMem.size {WR W:World} {mb ob sb kk:Nat} {s:CSt} {x y z:Value} (h:CfMem WR W mb ob sb s kk x y z):WR.heap.size≤W.heap.size:=h.kept.size
theorem CfMem.below {WR W W':World} {mb ob sb kk:Nat} {s:CSt} {x y z:Value} (h:CfMem WR W mb ob sb s kk x y z) (k:Below W.heap.size W W'):CfMem WR W' mb ob sb s kk x y z:=
 h.after (fun _=>False) (Kept.of_below k) (fun h=>h) (fun h=>h) (fun h=>h) (fun _ h=>h.elim) (fun _ _ h=>h)
theorem CfMem.grown {WR W W':World} {mb ob sb kk:Nat} {s:CSt} {x y z:Value} (h:CfMem WR W mb ob sb s kk x y z) (hm:mb<WR.heap.size) (ho:ob<WR.heap.size) (hs:sb<WR.heap.size) {row:Option Nat} (hg:W.grownBy W' row) (hr: ∀r,row=some r→WR.heap.size≤r∧∃o:Obj,W.heap[r]? =some o∧o.isCells=false):CfMem WR W' mb ob sb s kk x y z:=by
 have hne: ∀g,g<WR.heap.size→some g≠row:=fun g hg e=>by have:=(hr g e.symm).1;omega
 refine h.after (fun g=>some g=row) (Kept.grown hg) (hne mb hm) (hne ob ho) (hne sb hs) (fun g e=>(hr g e.symm).1) (fun g hx e=>?_)
 obtain⟨_,o,h1,h2⟩:=hr g e.symm
 have hc: ∃c t,W.heap[g]? =some (.cells c t (0,0)):=by
  rcases hx with hx|hx|hx
  ·obtain⟨c,hc⟩:=own_type h.lits g hx
   exact⟨c,_,hc⟩
  ·obtain⟨c,hc⟩:=own_type h.hints g hx
   exact⟨c,_,hc⟩
  ·obtain⟨c,hc⟩:=own_type h.met g hx
   exact⟨c,_,hc⟩
 obtain⟨c,t,hc⟩:=hc
 rw[h1]at hc
 cases hc
 cases h2
theorem CfMem.setop {WR W:World} {mb ob sb kk:Nat} {s:CSt} {x y z:Value} (h:CfMem WR W mb ob sb s kk x y z) (ho:ob<WR.heap.size) (v:Int):CfMem WR (W.setCell ⟨ob,0,none⟩ (.int .i64 v)) mb ob sb { s with op:=v } kk x y z∧CfR WR.heap.size mb ob sb W (W.setCell ⟨ob,0,none⟩ (.int .i64 v)):=by
 have k:Kept (fun g=>g=ob) W (W.setCell ⟨ob,0,none⟩ (.int .i64 v)):=(Kept.refl (fun g=>g=ob) W).setCell ⟨ob,0,none⟩ _ rfl
 have hb:=mx_set (j:=0) h.op (.int .i64 v)
 have hso:sb≠ob:=fun e=>by
  have:=h.out
  rw[e,h.op]at this
  simp at this
 have hrow: ∀{t:TypeId} {u:Value} {n:Nat} {l:List Value},W.ownsRow WR.heap.size t 1 u n l→(W.setCell ⟨ob,0,none⟩ (.int .i64 v)).ownsRow WR.heap.size t 1 u n l:=fun hh=>own_kept hh k (fun g hg e=>by
  have:=(own_lt hh g hg).1
  omega)
 exact⟨⟨h.kept.trans k (fun i _ e=>.inr (.inl e)),h.map.kept k (cf_mne h.map h.op),hb,(k.block sb (heap_lt h.out) hso).trans h.out,hrow h.lits,hrow h.hints,hrow h.met,h.apart⟩,k.mono (fun g _ e=>.inr (.inl e))⟩
theorem CfMem.meet {WR W W':World} {mb ob sb kk kk':Nat} {s:CSt} {x y z:Value} (h:CfMem WR W mb ob sb s kk x y z) (k:Kept (fun g=>g=mb) W W') (ms':List Int) (hm:MapAt W' mb kk' (metF ms')):CfMem WR W' mb ob sb { s with ms:=ms' } kk' x y z∧CfR WR.heap.size mb ob sb W W':=by
 have hrow: ∀{t:TypeId} {u:Value} {n:Nat} {l:List Value},W.ownsRow WR.heap.size t 1 u n l→W'.ownsRow WR.heap.size t 1 u n l:=fun hh=>own_kept hh k (fun g hg e=>by
  obtain⟨c,hc⟩:=own_type hh g hg
  exact cf_mne h.map hc e.symm)
 exact⟨⟨h.kept.trans k (fun i _ e=>.inl e),hm,(k.block ob (heap_lt h.op) (Ne.symm (cf_mne h.map h.op))).trans h.op,(k.block sb (heap_lt h.out) (Ne.symm (cf_mne h.map h.out))).trans h.out,hrow h.lits,hrow h.hints,hrow h.met,h.apart⟩,k.mono (fun g _ e=>.inl e)⟩
theorem CfMem.pushLits {WR W W1 W2:World} {mb ob sb kk:Nat} {s:CSt} {x y z v':Value} (h:CfMem WR W mb ob sb s kk x y z) (hmR:mb<WR.heap.size) (hoR:ob<WR.heap.size) (hsR:sb<WR.heap.size) (u:Int) (hb:Below W.heap.size W W1) (hg:W1.grownBy W2 x.ownBlock) (hown:W2.ownsRow WR.heap.size 32 1 v' (s.lits.length+1) (s.lits.map (Value.int .i64)++ [.int .i64 u])):
  CfMem WR (W2.setCell ⟨sb,0,none⟩ v') mb ob sb { s with lits:=s.lits++ [u] } kk v' y z∧CfR WR.heap.size mb ob sb W (W2.setCell ⟨sb,0,none⟩ v')∧W2.heap[sb]? =some (.cells #[x,.int .i64 0,.int .i64 0,y,z] 65 (0,0))∧Kept (fun g=>WR.heap.size≤g) W W2∧Kept (fun g=>g=sb∨some g=x.ownBlock) W (W2.setCell ⟨sb,0,none⟩ v'):=by
 have hge: ∀g,some g=x.ownBlock→WR.heap.size≤g:=fun g hg=>(own_lt h.lits g hg.symm).1
 have k2:Kept (fun g=>some g=x.ownBlock) W W2:=(Kept.of_below (O:=fun g=>some g=x.ownBlock) hb).trans (Kept.grown hg) (fun _ _ h=>h)
 have k3:Kept (fun g=>g=sb∨some g=x.ownBlock) W (W2.setCell ⟨sb,0,none⟩ v'):=(k2.mono (O':=fun g=>g=sb∨some g=x.ownBlock) (fun g _ h=>.inr h)).setCell ⟨sb,0,none⟩ _ (.inl rfl)
 have hs2:=(k2.block sb (heap_lt h.out) (fun e=>by have:=hge sb e;omega)).trans h.out
 have hso:ob≠sb:=fun e=>by
  have:=h.out
  rw[←e,h.op]at this
  simp at this
 have hhints:(W2.setCell ⟨sb,0,none⟩ v').ownsRow WR.heap.size 3 1 y s.hints.length (s.hints.map (Value.int .i64)):=own_kept h.hints k3 (fun g hg e=>by
  rcases e with e|e
  ·have:=(own_lt h.hints g hg).1
   omega
  ·exact mx_apart h.hints h.lits (by decide) hg e.symm)
 have hmet:(W2.setCell ⟨sb,0,none⟩ v').ownsRow WR.heap.size 3 1 z s.met.length (s.met.map (Value.int .i64)):=own_kept h.met k3 (fun g hg e=>by
  rcases e with e|e
  ·have:=(own_lt h.met g hg).1
   omega
  ·exact mx_apart h.met h.lits (by decide) hg e.symm)
 have hlits:(W2.setCell ⟨sb,0,none⟩ v').ownsRow WR.heap.size 32 1 v' (s.lits++ [u]).length ((s.lits++ [u]).map (Value.int .i64)):=by
  rw[List.length_append,List.map_append]
  exact own_kept (O:=fun g=>g=sb) hown ((Kept.refl (fun g=>g=sb) W2).setCell ⟨sb,0,none⟩ _ rfl) (fun g hg e=>by have:=(own_lt hown g hg).1;omega)
 have hout:(W2.setCell ⟨sb,0,none⟩ v').heap[sb]? =some (.cells #[v',.int .i64 0,.int .i64 0,y,z] 65 (0,0)):=mx_set (j:=0) hs2 v'
 refine⟨⟨h.kept.trans k3 (fun i hi e=>e.elim (fun e=>.inr (.inr e)) (fun e=>by have:=hge i e;omega)),h.map.kept k3 (fun e=>e.elim (cf_mne h.map h.out) (fun e=>by have:=hge mb e;omega)),(k3.block ob (heap_lt h.op) (fun e=>e.elim hso (fun e=>by have:=hge ob e;omega))).trans h.op,hout,hlits,hhints,hmet,h.apart⟩,k3.mono (fun g _ e=>e.elim (fun e=>.inr (.inr (.inl e))) (fun e=>.inr (.inr (.inr ⟨hge g e,by obtain⟨c,hc⟩:=own_type h.lits g e.symm;exact⟨c,_,_,hc⟩⟩)))),hs2,k2.mono (fun g _ e=>hge g e),k3⟩
theorem CfMem.pushHints {WR W W1 W2:World} {mb ob sb kk:Nat} {s:CSt} {x y z v':Value} (h:CfMem WR W mb ob sb s kk x y z) (hmR:mb<WR.heap.size) (hoR:ob<WR.heap.size) (hsR:sb<WR.heap.size) (u:Int) (hb:Below W.heap.size W W1) (hg:W1.grownBy W2 y.ownBlock) (hown:W2.ownsRow WR.heap.size 3 1 v' (s.hints.length+1) (s.hints.map (Value.int .i64)++ [.int .i64 u])) (hv:v'.ownBlock=y.ownBlock∨v'.ownBlock=some W1.heap.size):
  CfMem WR (W2.setCell ⟨sb,3,none⟩ v') mb ob sb { s with hints:=s.hints++ [u] } kk x v' z∧CfR WR.heap.size mb ob sb W (W2.setCell ⟨sb,3,none⟩ v')∧W2.heap[sb]? =some (.cells #[x,.int .i64 0,.int .i64 0,y,z] 65 (0,0))∧Kept (fun g=>WR.heap.size≤g) W W2∧Kept (fun g=>g=sb∨some g=y.ownBlock) W (W2.setCell ⟨sb,3,none⟩ v'):=by
 have hge: ∀g,some g=y.ownBlock→WR.heap.size≤g:=fun g hg=>(own_lt h.hints g hg.symm).1
 have k2:Kept (fun g=>some g=y.ownBlock) W W2:=(Kept.of_below (O:=fun g=>some g=y.ownBlock) hb).trans (Kept.grown hg) (fun _ _ h=>h)
 have k3:Kept (fun g=>g=sb∨some g=y.ownBlock) W (W2.setCell ⟨sb,3,none⟩ v'):=(k2.mono (O':=fun g=>g=sb∨some g=y.ownBlock) (fun g _ h=>.inr h)).setCell ⟨sb,3,none⟩ _ (.inl rfl)
 have hs2:=(k2.block sb (heap_lt h.out) (fun e=>by have:=hge sb e;omega)).trans h.out
 have hso:ob≠sb:=fun e=>by
  have:=h.out
  rw[←e,h.op]at this
  simp at this
 have hlits:(W2.setCell ⟨sb,3,none⟩ v').ownsRow WR.heap.size 32 1 x s.lits.length (s.lits.map (Value.int .i64)):=own_kept h.lits k3 (fun g hg e=>by
  rcases e with e|e
  ·have:=(own_lt h.lits g hg).1
   omega
  ·exact mx_apart h.lits h.hints (by decide) hg e.symm)
 have hmet:(W2.setCell ⟨sb,3,none⟩ v').ownsRow WR.heap.size 3 1 z s.met.length (s.met.map (Value.int .i64)):=own_kept h.met k3 (fun g hg e=>by
  rcases e with e|e
  ·have:=(own_lt h.met g hg).1
   omega
  ·exact h.apart g e.symm hg)
 have hhints:(W2.setCell ⟨sb,3,none⟩ v').ownsRow WR.heap.size 3 1 v' (s.hints++ [u]).length ((s.hints++ [u]).map (Value.int .i64)):=by
  rw[List.length_append,List.map_append]
  exact own_kept (O:=fun g=>g=sb) hown ((Kept.refl (fun g=>g=sb) W2).setCell ⟨sb,3,none⟩ _ rfl) (fun g hg e=>by have:=(own_lt hown g hg).1;omega)
 have hout:(W2.setCell ⟨sb,3,none⟩ v').heap[sb]? =some (.cells #[x,.int .i64 0,.int .i64 0,v',z] 65 (0,0)):=mx_set (j:=3) hs2 v'
 refine⟨⟨h.kept.trans k3 (fun i hi e=>e.elim (fun e=>.inr (.inr e)) (fun e=>by have:=hge i e;omega)),h.map.kept k3 (fun e=>e.elim (cf_mne h.map h.out) (fun e=>by have:=hge mb e;omega)),(k3.block ob (heap_lt h.op) (fun e=>e.elim hso (fun e=>by have:=hge ob e;omega))).trans h.op,hout,hlits,hhints,hmet,?_⟩,k3.mono (fun g _ e=>e.elim (fun e=>.inr (.inr (.inl e))) (fun e=>.inr (.inr (.inr ⟨hge g e,by obtain⟨c,hc⟩:=own_type h.hints g e.symm;exact⟨c,_,_,hc⟩⟩)))),hs2,k2.mono (fun g _ e=>hge g e),k3⟩
 intro g hg' e
 rcases hv with hv|hv
 ·exact h.apart g (hv▸hg') e
 ·have h1:=(own_lt h.met g e).2
  rw[hv]at hg'
  have:=hb.size
  cases hg'
  omega
theorem CfMem.pushMet {WR W W1 W2:World} {mb ob sb kk:Nat} {s:CSt} {x y z v':Value} (h:CfMem WR W mb ob sb s kk x y z) (hmR:mb<WR.heap.size) (hoR:ob<WR.heap.size) (hsR:sb<WR.heap.size) (u:Int) (hb:Below W.heap.size W W1) (hg:W1.grownBy W2 z.ownBlock) (hown:W2.ownsRow WR.heap.size 3 1 v' (s.met.length+1) (s.met.map (Value.int .i64)++ [.int .i64 u])) (hv:v'.ownBlock=z.ownBlock∨v'.ownBlock=some W1.heap.size):
  CfMem WR (W2.setCell ⟨sb,4,none⟩ v') mb ob sb { s with met:=s.met++ [u] } kk x y v'∧CfR WR.heap.size mb ob sb W (W2.setCell ⟨sb,4,none⟩ v')∧W2.heap[sb]? =some (.cells #[x,.int .i64 0,.int .i64 0,y,z] 65 (0,0))∧Kept (fun g=>WR.heap.size≤g) W W2∧Kept (fun g=>g=sb∨some g=z.ownBlock) W (W2.setCell ⟨sb,4,none⟩ v'):=by
 have hge: ∀g,some g=z.ownBlock→WR.heap.size≤g:=fun g hg=>(own_lt h.met g hg.symm).1
 have k2:Kept (fun g=>some g=z.ownBlock) W W2:=(Kept.of_below (O:=fun g=>some g=z.ownBlock) hb).trans (Kept.grown hg) (fun _ _ h=>h)
 have k3:Kept (fun g=>g=sb∨some g=z.ownBlock) W (W2.setCell ⟨sb,4,none⟩ v'):=(k2.mono (O':=fun g=>g=sb∨some g=z.ownBlock) (fun g _ h=>.inr h)).setCell ⟨sb,4,none⟩ _ (.inl rfl)
 have hs2:=(k2.block sb (heap_lt h.out) (fun e=>by have:=hge sb e;omega)).trans h.out
 have hso:ob≠sb:=fun e=>by
  have:=h.out
  rw[←e,h.op]at this
  simp at this
 have hlits:(W2.setCell ⟨sb,4,none⟩ v').ownsRow WR.heap.size 32 1 x s.lits.length (s.lits.map (Value.int .i64)):=own_kept h.lits k3 (fun g hg e=>by
  rcases e with e|e
  ·have:=(own_lt h.lits g hg).1
   omega
  ·exact mx_apart h.lits h.met (by decide) hg e.symm)
 have hhints:(W2.setCell ⟨sb,4,none⟩ v').ownsRow WR.heap.size 3 1 y s.hints.length (s.hints.map (Value.int .i64)):=own_kept h.hints k3 (fun g hg e=>by
  rcases e with e|e
  ·have:=(own_lt h.hints g hg).1
   omega
  ·exact h.apart g hg e.symm)
 have hmet:(W2.setCell ⟨sb,4,none⟩ v').ownsRow WR.heap.size 3 1 v' (s.met++ [u]).length ((s.met++ [u]).map (Value.int .i64)):=by
  rw[List.length_append,List.map_append]
  exact own_kept (O:=fun g=>g=sb) hown ((Kept.refl (fun g=>g=sb) W2).setCell ⟨sb,4,none⟩ _ rfl) (fun g hg e=>by have:=(own_lt hown g hg).1;omega)
 have hout:(W2.setCell ⟨sb,4,none⟩ v').heap[sb]? =some (.cells #[x,.int .i64 0,.int .i64 0,y,v'] 65 (0,0)):=mx_set (j:=4) hs2 v'
 refine⟨⟨h.kept.trans k3 (fun i hi e=>e.elim (fun e=>.inr (.inr e)) (fun e=>by have:=hge i e;omega)),h.map.kept k3 (fun e=>e.elim (cf_mne h.map h.out) (fun e=>by have:=hge mb e;omega)),(k3.block ob (heap_lt h.op) (fun e=>e.elim hso (fun e=>by have:=hge ob e;omega))).trans h.op,hout,hlits,hhints,hmet,?_⟩,k3.mono (fun g _ e=>e.elim (fun e=>.inr (.inr (.inl e))) (fun e=>.inr (.inr (.inr ⟨hge g e,by obtain⟨c,hc⟩:=own_type h.met g e.symm;exact⟨c,_,_,hc⟩⟩)))),hs2,k2.mono (fun g _ e=>hge g e),k3⟩
 intro g hg' e
 rcases hv with hv|hv
 ·exact h.apart g hg' (hv▸e)
 ·have h1:=(own_lt h.hints g hg').2
  rw[hv]at e
  have:=hb.size
  cases e
  omega
theorem CfMem.rehints {WR W W':World} {mb ob sb kk:Nat} {s:CSt} {x y z:Value} (h:CfMem WR W mb ob sb s kk x y z) (hmR:mb<WR.heap.size) (hoR:ob<WR.heap.size) (hsR:sb<WR.heap.size) (k:Kept (fun g=>y.ownBlock=some g) W W') (hs:List Int) (hown:W'.ownsRow WR.heap.size 3 1 y hs.length (hs.map (Value.int .i64))):CfMem WR W' mb ob sb { s with hints:=hs } kk x y z:=by
 have hge: ∀g,y.ownBlock=some g→WR.heap.size≤g:=fun g hg=>(own_lt h.hints g hg).1
 exact⟨h.kept.trans k (fun i hi e=>by have:=hge i e;omega),h.map.kept k (fun e=>by have:=hge mb e;omega),(k.block ob (heap_lt h.op) (fun e=>by have:=hge ob e;omega)).trans h.op,(k.block sb (heap_lt h.out) (fun e=>by have:=hge sb e;omega)).trans h.out,own_kept h.lits k (fun g hg e=>mx_apart h.lits h.hints (by decide) hg e),hown,own_kept h.met k (fun g hg e=>h.apart g e hg),h.apart⟩
theorem CfMem.remet {WR W W':World} {mb ob sb kk:Nat} {s:CSt} {x y z:Value} (h:CfMem WR W mb ob sb s kk x y z) (hmR:mb<WR.heap.size) (hoR:ob<WR.heap.size) (hsR:sb<WR.heap.size) (k:Kept (fun g=>z.ownBlock=some g) W W') (hs:List Int) (hown:W'.ownsRow WR.heap.size 3 1 z hs.length (hs.map (Value.int .i64))):CfMem WR W' mb ob sb { s with met:=hs } kk x y z:=by
 have hge: ∀g,z.ownBlock=some g→WR.heap.size≤g:=fun g hg=>(own_lt h.met g hg).1
 exact⟨h.kept.trans k (fun i hi e=>by have:=hge i e;omega),h.map.kept k (fun e=>by have:=hge mb e;omega),(k.block ob (heap_lt h.op) (fun e=>by have:=hge ob e;omega)).trans h.op,(k.block sb (heap_lt h.out) (fun e=>by have:=hge sb e;omega)).trans h.out,own_kept h.lits k (fun g hg e=>mx_apart h.lits h.met (by decide) hg e),own_kept h.hints k (fun g hg e=>h.apart g hg e),hown,h.apart⟩
structure CfFin (R D r6 sb:Nat) (w W:World) (back lvls:Int) (ls hs ms:List Int) (x y z:Value):Prop where
 below:Below w.heap.size w W
 out:W.heap[sb]? =some (.cells #[x,.int .i64 back,.int .i64 lvls,y,z] 65 (0,0))
 res:W.heap[r6]? =some (.cells #[.slice none 0 0,.int .i64 0,.int .i64 0,.slice none 0 0,.slice none 0 0] 65 (0,0))
 err:W.heap[r6+1]? =some (.cells #[.int .i64 0] 44 (0,0))
 dfr:W.heap[D]? =some (.deferred (some []))
 lits:W.ownsRow R 32 1 x ls.length (ls.map (Value.int .i64))
 hints:W.ownsRow R 3 1 y hs.length (hs.map (Value.int .i64))
 met:W.ownsRow R 3 1 z ms.length (ms.map (Value.int .i64))
theorem CfFin.after {R D r6 sb:Nat} {w W W':World} {back lvls:Int} {ls hs ms:List Int} {x y z:Value} (h:CfFin R D r6 sb w W back lvls ls hs ms x y z) (k:Below W.heap.size W W'):CfFin R D r6 sb w W' back lvls ls hs ms x y z:=
 ⟨h.below.trans (k.mono h.below.size),(k.block sb (heap_lt h.out)).trans h.out,(k.block r6 (heap_lt h.res)).trans h.res,(k.block (r6+1) (heap_lt h.err)).trans h.err,(k.block D (heap_lt h.dfr)).trans h.dfr,own_below h.lits k,own_below h.hints k,own_below h.met k⟩
theorem CfFin.set {R D r6 sb:Nat} {w W:World} {back lvls:Int} {ls hs ms:List Int} {x y z:Value} (h:CfFin R D r6 sb w W back lvls ls hs ms x y z) (hs1:sb<R) (hsw:w.heap.size≤sb) (hsr:sb≠r6) (hsr2:sb≠r6+1) (j:Nat) (v:Value) (back' lvls':Int) (hv:(#[x,Value.int .i64 back,.int .i64 lvls,y,z]).setIfInBounds j v= #[x,.int .i64 back',.int .i64 lvls',y,z]):CfFin R D r6 sb w (W.setCell ⟨sb,j,none⟩ v) back' lvls' ls hs ms x y z:=by
 have k:Kept (fun g=>g=sb) W (W.setCell ⟨sb,j,none⟩ v):=(Kept.refl (fun g=>g=sb) W).setCell ⟨sb,j,none⟩ _ rfl
 have hD:D≠sb:=fun e=>by
  have:=h.dfr
  rw[e,h.out]at this
  cases this
 have hrow: ∀{t:TypeId} {u:Value} {n:Nat} {l:List Value},W.ownsRow R t 1 u n l→(W.setCell ⟨sb,j,none⟩ v).ownsRow R t 1 u n l:=fun hh=>own_kept hh k (fun g hg e=>by
  have:=(own_lt hh g hg).1
  omega)
 refine⟨below_kept h.below k (fun i e=>by omega) h.below.size,?_,(k.block r6 (heap_lt h.res) (Ne.symm hsr)).trans h.res,(k.block (r6+1) (heap_lt h.err) (Ne.symm hsr2)).trans h.err,(k.block D (heap_lt h.dfr) hD).trans h.dfr,hrow h.lits,hrow h.hints,hrow h.met⟩
 rw[mx_set h.out v,hv]
end Go.Proofs.YtoojmhjagipmdaaGreat
