/- The trail from its last literal on: Down. A region that draws its order, in a round of a range over a function. analyze: Conflict's inner function; what the loop keeps. -/
import Derived.Test.YtoojmhjagipmdaaGreatV102
import Derived.Test.YtoojmhjagipmdaaGreatV106
import Derived.Test.YtoojmhjagipmdaaGreatV100
import Derived.OrdersIn
namespace Go.Proofs.YtoojmhjagipmdaaGreat
open Go.RowKit Go.Shelf Go.Maps
attribute [local go_sem] Oper.semAt_some
theorem TrAt.narrow {O:Nat→Prop} {w:World} {b:Nat} {T:Trl} (h:TrAt O w b T):TrAt (fun g=>O g∧¬XO w g) w b T:=by
 obtain⟨hk,gv,cv,ov,sv,h⟩:=h
 refine⟨hk,gv,cv,ov,sv,fun g hg=>h.own g hg.1,⟨h.inb,xo_cells h.block⟩,⟨h.invs,?_⟩,h.block,h.vars,h.order,fun g hg=>⟨h.orderb g hg,?_⟩,h.starts,fun g hg=>⟨h.startsb g hg,?_⟩⟩
 ·obtain⟨c,hc⟩:=own_type h.vars gv rfl
  exact xo_cells hc
 ·obtain⟨c,hc⟩:=own_type h.order g hg
  exact xo_cells hc
 ·obtain⟨c,hc⟩:=own_type h.starts g hg
  exact xo_cells hc
theorem TrAt.rounds {O X:Nat→Prop} {W w:World} {b:Nat} {T:Trl} (h:TrAt O W b T) (k:KpC X W w) (hX: ∀g,O g→¬X g):TrAt (fun g=>O g∧¬XO W g) w b T:=
 h.narrow.kept k.kept (fun g hg ho=>ho.elim (hX g hg.1) hg.2)
def downL (o:List Int):Nat→List (Nat×Int)
 | 0=> []
 | k+1=>match o[k]? with
  | some l=>(k,l)::downL o k
  | none=> []
def dv (x:Nat×Int):Array Value:= #[.int .i64 (x.1:Int),.int .i64 x.2]
theorem tr_cells {O:Nat→Prop} {w:World} {b m:Nat} {T:Trl} {l:Int} (h:TrAt O w b T) (hl:T.order[m]? =some l):
  ∃g c,w.cell? ⟨b,1,none⟩=some (.slice (some ⟨g,0,none⟩) T.order.length c)∧w.cell? ⟨g,m,none⟩=some (.int .i64 l):=by
 obtain⟨hk,gv,cv,ov,sv,h⟩:=h
 have hm:m<T.order.length:=(List.getElem?_eq_some_iff.1 hl).1
 obtain⟨g,c,cs,hv,_⟩:=mx_some h.order (by omega)
 refine⟨g,c,?_,?_⟩
 ·rw[mx_cell h.block,hv]
  rfl
 ·have ho:=h.order
  rw[hv]at ho
  exact mx_at ho (by rw[List.getElem?_map,hl];rfl)
set_option maxRecDepth 100000 in
set_option maxHeartbeats 2000000 in
theorem down1_in {O X:Nat→Prop} (l Bt b:Nat) (T:Trl) (J Jx:List (Nat×Int)→World→Prop) (W:World)
  (hY: ∀pre x W1,J pre W1→pre.length<T.order.length→YieldAt Fence.wide 7 Tryz.prog l (dv x) W1 fun e W'=>
   (e= .returned (.bool true)∧J (pre++ [x]) W'∧KpC X W1 W')∨(e= .returned (.bool false)∧Jx (pre++ [x]) W'))
  (hBt:W.cell? ⟨Bt,0,none⟩=some (.pointer (some ⟨b,0,none⟩))) (hX: ¬X Bt) (hT:TrAt O W b T) (hOX: ∀g,O g→¬X g) (h0:J [] W):
  CallsIn Fence.wide 8 Tryz.prog 125 #[.func (.yield l) #[] #[],.pointer (some ⟨Bt,0,none⟩)] W fun e W'=>(∃v,e= .returned v)∧
   ((∃ys,ys=downL T.order T.order.length∧J ys W')∨(∃pre,(pre <+: downL T.order T.order.length∧pre≠ [])∧Jx pre W')):=by
 have hBt':=World.block_lt_of_cell? W _ hBt
 have hno:=hT.1.order
 have HBT:=Lib.hid hBt
 have HT:=Lib.hid hT
 have HY:=Lib.hid hY
 have H0:=Lib.hid h0
 have HX:=Lib.hid hX
 have HOX:=Lib.hid hOX
 have HLEN:=Lib.hid (tr_len b T W hT)
 clear hT hY h0 hX hOX
 refine callsIn_of_wp Tryz.func125 rfl trivial ?_ rfl
 simp only[Tryz.ntmps125,List.size_toArray,List.length_cons,List.length_nil,Nat.reduceAdd,Nat.reduceSub,Array.replicate_succ,Array.replicate_zero,List.push_toArray,List.append_toArray,List.nil_append,List.cons_append]
 refine wpIn_wide.2 (wp_scope_straight ((wpIn_wide (n:=8)).1 ?_))
 refine wpIn_seq ?_
 refine wpIn_label ?_
 gi_wp2_with fail
 refine⟨trivial,?_⟩
 refine(callsIn_wide.2 HLEN.out).mono ?_
 rintro e wy ⟨rfl,rfl⟩
 gi_wp2_with fail
 clear hBt
 gi_loopw [3] (fun i wr=> ∃(z:Int) (k:Nat) (pre:List (Nat×Int)),i= .int .i64 z∧ -1≤z∧z<1048576∧Hid (z+1=k)∧Hid (pre.length+k=T.order.length)∧Hid (pre++downL T.order k=downL T.order T.order.length)∧Hid (KpC X W wr)∧Hid (J pre wr))
  (fun i _=>(intOf i+1).toNat)
 case atStart=>
  exact⟨(T.order.length:Int)-1,T.order.length,[],rfl,by omega,by omega,Lib.hid (by omega),Lib.hid (by simp),Lib.hid rfl,Lib.hid (KpC.refl _ _),H0⟩
 case round=>
  obtain⟨z,k,pre,rfl,hz1,hz2,HZ,HPL,HPE,HK,HJS⟩:=hrel
  have HTR:=Lib.hid (HT.out.rounds HK.out HOX.out)
  have d0:wr.cell? ⟨Bt,0,none⟩=some (.pointer (some ⟨b,0,none⟩)):=(HK.out.kept.cell (p:=⟨Bt,0,none⟩) hBt' (fun h=>h.elim HX.out (xo_cell HBT.out))).trans HBT.out
  have HLR:=Lib.hid (tr_len b T wr HTR.out)
  by_cases hz0:0≤z
  ·obtain⟨m,rfl⟩: ∃m:Nat,z=(m:Int):=⟨z.toNat,by omega⟩
   obtain rfl:k=m+1:=by have:=HZ.out;omega
   have hm:m<T.order.length:=by have:=HPL.out;omega
   have hq:decide ((T.order.length:Int)≤(m:Int))=false:=by simp;omega
   have hq2:decide (T.order.length≤m)=false:=by simp;omega
   obtain⟨x,hx⟩:=getElem_of hm
   obtain⟨g,c,c1,d1⟩:=tr_cells HTR.out hx
   have HD:=Lib.hid (show downL T.order (m+1)=(m,x)::downL T.order m from by simp only[downL];rw[hx])
   obtain⟨fn,tmps,assign,body,hy,hR⟩:=HY.out pre (m,x) wr HJS.out (by have:=HPL.out;omega)
   dsimp only[dv]at hy
   have HR:=Lib.hid hR
   clear hx hR
   gi_wp2_with fail
   refine⟨trivial,?_⟩
   refine(callsIn_wide.2 HLR.out).mono ?_
   rintro e wy ⟨rfl,rfl⟩
   gi_wp2_with fail
   refine HR.out.mono ?_
   rintro e W3 (⟨rfl,hJ3,hk3⟩|⟨rfl,hJx3⟩)
   ·have HJ3:=Lib.hid hJ3
    have HK3:=Lib.hid (HK.out.trans hk3)
    clear hJ3 hk3 hy d0 c1 d1
    gi_wp2_with fail
    go_roundw
    case rel=>exact⟨(m:Int)-1,m,pre++ [(m,x)],rfl,by omega,by omega,Lib.hid (by omega),Lib.hid (by have:=HPL.out;simp;omega),Lib.hid (by rw[←HPE.out,HD.out];simp),HK3,HJ3⟩
    case measure=>simp[intOf]
   ·gi_wp2_with fail
    rw[Exit.noGoto_ret]
    refine bodyPost_ret (results_none rfl _ _ _) rfl ?_
    refine⟨⟨_,rfl⟩,.inr ⟨pre++ [(m,x)],⟨?_,by simp⟩,hJx3⟩⟩
    rw[←HPE.out,HD.out]
    exact⟨_,by rw[List.append_assoc];rfl⟩
  ·have hq:decide ((0:Int)≤z)=false:=by simpa using hz0
   obtain rfl:k=0:=by have:=HZ.out;omega
   gi_wp2_with fail
   go_end0
   have he:pre=downL T.order T.order.length:=by simpa [downL] using HPE.out
   exact⟨⟨_,rfl⟩,.inl (he▸HJS.out)⟩
theorem down_in (b:Nat) (w:World):
  CallsIn Fence.wide 8 Tryz.prog 83 #[.pointer (some ⟨b,0,none⟩)] w fun e w'=>e= .returned (.func (.func 125) #[] #[.pointer (some ⟨w.heap.size,0,none⟩)])∧w.alloc (.cells #[.pointer (some ⟨b,0,none⟩)] 38)=w':=by
 refine callsIn_of_wp Tryz.func83 rfl trivial ?_ rfl
 simp only[Tryz.ntmps83,List.size_toArray,List.length_cons,List.length_nil,Nat.reduceAdd,Nat.reduceSub,Array.replicate_succ,Array.replicate_zero,List.push_toArray,List.append_toArray,List.nil_append,List.cons_append]
 gi_wp2
 go_ret
 exact⟨rfl,rfl⟩
theorem down_stops {O X:Nat→Prop} (Bt b:Nat) (T:Trl) (w:World) (hBt:w.cell? ⟨Bt,0,none⟩=some (.pointer (some ⟨b,0,none⟩))) (hX: ¬X Bt) (hT:TrAt O w b T) (hOX: ∀g,O g→¬X g):
  SeqStopsK Fence.wide 8 Tryz.prog 125 #[.pointer (some ⟨Bt,0,none⟩)] dv (KpC X) (fun ys=>ys=downL T.order T.order.length) (fun pre=>pre <+: downL T.order T.order.length∧pre≠ []) T.order.length w:=fun l J Jx W hW _ _ hY h0=>
 down1_in l Bt b T J Jx W hY ((hW.cell (p:=⟨Bt,0,none⟩) (World.block_lt_of_cell? w _ hBt)).trans hBt) hX (hT.below hW) hOX h0
end Go.Proofs.YtoojmhjagipmdaaGreat
namespace Go.Proofs.YtoojmhjagipmdaaGreat
open Go.RowKit Go.Shelf Go.Maps
def noDefer (ops:Array Oper):Bool:=ops.all fun o=>match o.op with
 | .defer _=>false
 | _=>true
theorem noDefer_at {ops:Array Oper} (h:noDefer ops=true) {i:Nat} {o:Oper} (ho:ops[i]? =some o): ∀c,o.op≠.defer c:=by
 intro c hc
 obtain⟨hi,he⟩:=Array.getElem?_eq_some_iff.1 ho
 have:=(Array.all_eq_true.1 h) i hi
 rw[he,hc]at this
 cases this
theorem rows_round {l n:Nat} {P:Program} {row:String} {args:Array Value} {w:World} {R:Value→World→Prop} (h:Rows P row args w R):RowsIn (Fence.wide.inRound l) n P row args w R:=
 fun c cs _=>let ⟨v,w',r,s⟩:=h c cs;⟨v,w',r,stepsIn_wide.2 s⟩
theorem oper_round {l n:Nat} {P:Program} {o:Oper} {a:Act} {w:World} {K:Act→World→Prop} {Q:Exit→Act→World→Prop} (hd: ∀c,o.op≠.defer c) (h:o.wp P a w K Q):o.wpIn (Fence.wide.inRound l) n P a w K Q:=by
 unfold Oper.wpIn
 refine⟨fun _ _=>trivial,?_⟩
 rw[Fence.inRound_round,Oper.semAt_some l a.eval o hd]
 unfold Oper.wp at h
 generalize (execOp a.eval o).run P w=r at *
 cases r with
 | ok x w'=>
  cases x with
  | value v=>exact h
  | skip=>exact h
  | defer d=>exact h
  | enter f args=>exact⟨(fun hh=>by cases hh),CallsIn.inRound l (callsIn_wide.2 h)⟩
  | row row args=>exact⟨(fun hh=>by cases hh),rows_round h⟩
  | round=>exact(h:False).elim
  | _=>exact h
 | halt x w'=>
  cases x <;> exact h
theorem wpOp_round {l n:Nat} {P:Program} {ops:Array Oper} {Q:Exit→Act→World→Prop} {i:Nat} {K:Act→World→Prop} {a:Act} {w:World} (hL: ¬LetsOut Q) (hd:noDefer ops=true) (h:wpOp P ops Q i K a w):wpOpIn (Fence.wide.inRound l) n P ops Q i K a w:=by
 unfold wpOp at h
 unfold wpOpIn
 cases ho:ops[i]? with
 | none=>
  rw[ho]at h
  exact h
 | some o=>
  rw[ho]at h
  simp only at h⊢
  split
  ·rename_i hw
   rw[if_pos hw]at h
   rcases h with h|h
   ·exact oper_round (noDefer_at hd ho) h
   ·exact absurd h.2 hL
  ·rename_i hw
   rw[if_neg hw]at h
   exact⟨fun _ _=>trivial,h⟩
theorem wpAny_round {l n:Nat} {P:Program} {md:Region.Mode} {ops:Array Oper} {Q:Exit→Act→World→Prop} (hL: ¬LetsOut Q) (hd:noDefer ops=true): ∀(fuel:Nat) (listed:Array Bool) (a:Act) (w:World),wpAny P md ops Q fuel listed a w→wpAnyIn (Fence.wide.inRound l) n P md ops Q fuel listed a w
 | 0,_,_,_,h=>h
 | fuel+1,_,_,_,h=>⟨h.1,fun i hi=>wpOpIn_mono (fun a w h'=>wpAny_round hL hd fuel _ a w h') (wpOp_round hL hd (h.2 i hi))⟩
theorem wpIn_round_region {l n id:Nat} {P:Program} {ops:Array Oper} {Q:Exit→Act→World→Prop} {a:Act} {w:World} (S:World→Prop) (hm:P.follows .mixedOrders=true) (hd:noDefer ops=true) (hL: ¬LetsOut Q) (hS:S w.drew)
  (h:S w.drew→wpAnyH P .any ops Q S ops.size (Array.replicate ops.size false) a w.drew):(Code.region id ops true).wpIn (Fence.wide.inRound l) n P Q a w:=
 wpIn_region_any hm (wpAny_round hL hd _ _ _ _ (wpAny_of_held _ _ _ _ (h hS)))
theorem wpIn_round_sink {l n id:Nat} {P:Program} {lo:List Oper} {o:Oper} (S:World→Prop) {Q:Exit→Act→World→Prop} {a:Act} {w:World} (hm:P.follows .mixedOrders=true) (hl:lo=lo.dropLast++ [o]) (hk:sinkOk .any lo.dropLast.toArray o=true) (hd:noDefer lo.toArray=true) (hL: ¬LetsOut Q) (hS:S w.drew)
  (h:S w.drew→wpAnyH P .any lo.dropLast.toArray (lastPost P lo.dropLast.toArray o Q) S lo.dropLast.toArray.size (Array.replicate lo.dropLast.toArray.size false) a w.drew):(Code.region id lo.toArray true).wpIn (Fence.wide.inRound l) n P Q a w:=by
 have e:lo.toArray=lo.dropLast.toArray.push o:=by
  rw[List.push_toArray,←hl]
 rw[e]at hd⊢
 refine wpIn_region_any hm (wpAny_round hL hd _ _ _ _ ?_)
 have:=wpAny_sink (P:=P) (sink_of hk) lo.dropLast.toArray.size (Array.replicate lo.dropLast.toArray.size false) a w.drew (by simp) (fun j x _ hj=>by
  have:(Array.replicate lo.dropLast.toArray.size false).getD j false=false:=by
   simp only[Array.getD_eq_getD_getElem?,Array.getElem?_replicate]
   split <;> rfl
  rw[this]at hj
  cases hj) (wpAny_of_held _ _ _ _ (h hS))
 rw[Array.size_push,show Array.replicate (lo.dropLast.toArray.size+1) false=(Array.replicate lo.dropLast.toArray.size false).push false by rw[Array.replicate_succ]]
 exact this
end Go.Proofs.YtoojmhjagipmdaaGreat
namespace Go.Proofs.YtoojmhjagipmdaaGreat
open Go.RowKit Go.Shelf Go.Maps
def Trl.goes (T:Trl) (lv op v:Int):Bool:=T.level v==0||(T.level v==lv&&decide (1<op))
set_option maxRecDepth 100000 in
set_option maxHeartbeats 2000000 in
theorem goes_zero {O:Nat→Prop} (a b mb wb lb ob:Nat) (T:Trl) (lv op v:Int) (w:World) (h:TrAt O w b T) (hw:w.heap[wb]? =some (.cells #[.pointer (some ⟨a,0,none⟩),.pointer (some ⟨b,0,none⟩),.map (some mb)] 111 (0,0)))
  (hl:w.cell? ⟨lb,0,none⟩=some (.int .i64 lv)) (ho:w.cell? ⟨ob,0,none⟩=some (.int .i64 op)) (hv:T.level v=0):
  Calls Tryz.prog 81 #[.int .i64 v,.pointer (some ⟨wb,0,none⟩),.pointer (some ⟨lb,0,none⟩),.pointer (some ⟨ob,0,none⟩)] w fun e w'=>e= .returned (.bool (true))∧Below w.heap.size w w':=by
 have HT:=Lib.hid h
 have HL:=Lib.hid hv
 have hwb:=heap_lt hw
 have hlb:=World.block_lt_of_cell? w _ hl
 have hob:=World.block_lt_of_cell? w _ ho
 have C0:=Lib.hid (mx_cell (j:=0) hw)
 have C1:=Lib.hid (mx_cell (j:=1) hw)
 have C2:=Lib.hid (mx_cell (j:=2) hw)
 have CL:=Lib.hid hl
 have CO:=Lib.hid ho
 clear h hv hw hl ho
 go_enter Tryz.func81,Tryz.ntmps81
 go_upto_region 1 with fail
 refine wp_region_held_drew (S:=fun w'=>Below w.heap.size w w') (by kernel_rfl) (mx_drew w) (fun hS=>?_)
 refine takeF 0 6 (fun w hSw=>And.intro ((hSw.cell (p:=⟨wb,0,none⟩) hwb).trans C0.out) (And.intro ((hSw.cell (p:=⟨wb,1,none⟩) hwb).trans C1.out) ((hSw.cell (p:=⟨wb,2,none⟩) hwb).trans C2.out))) ?_
 refine takeE 1 7 ?_
 refine ready1 2 (fun K hK=>?_)
 go_simp
 refine(wk_level a b (some mb) T v _ (HT.out.below hS)).mono ?_
 rintro e w3 ⟨rfl,hb3⟩
 rw[HL.out]
 have hS3:=hS.trans (hb3.mono hS.size)
 refine hK.out _ _ hS3 (fun _=>?_)
 clear hK hb3 hS
 rename Below w.heap.size w w3=>hS
 refine takeE 3 9 ?_
 refine takeE 4 10 ?_
 refine takeU 5 11 ?_
 refine takeU 6 12 ?_
 refine takeU 7 13 ?_
 refine takeU 8 14 ?_
 refine takeU 9 15 ?_
 refine takeU 10 16 ?_
 refine takeU 11 17 ?_
 refine takeU 12 18 ?_
 refine takeU 13 19 ?_
 refine takeE 14 20 ?_
 refine takeE 15 5 ?_
 refine wpAnyH_done (by kernel_rfl) ?_ _
 go_wp2_with fail
 go_ret
 exact⟨rfl,hS⟩
set_option maxRecDepth 100000 in
set_option maxHeartbeats 2000000 in
theorem goes_top {O:Nat→Prop} (a b mb wb lb ob:Nat) (T:Trl) (lv op v:Int) (w:World) (h:TrAt O w b T) (hw:w.heap[wb]? =some (.cells #[.pointer (some ⟨a,0,none⟩),.pointer (some ⟨b,0,none⟩),.map (some mb)] 111 (0,0)))
  (hl:w.cell? ⟨lb,0,none⟩=some (.int .i64 lv)) (ho:w.cell? ⟨ob,0,none⟩=some (.int .i64 op)) (hv:T.level v=lv) (hq:(lv==0)=false):
  Calls Tryz.prog 81 #[.int .i64 v,.pointer (some ⟨wb,0,none⟩),.pointer (some ⟨lb,0,none⟩),.pointer (some ⟨ob,0,none⟩)] w fun e w'=>e= .returned (.bool (decide (1<op)))∧Below w.heap.size w w':=by
 have HT:=Lib.hid h
 have HL:=Lib.hid hv
 have hwb:=heap_lt hw
 have hlb:=World.block_lt_of_cell? w _ hl
 have hob:=World.block_lt_of_cell? w _ ho
 have C0:=Lib.hid (mx_cell (j:=0) hw)
 have C1:=Lib.hid (mx_cell (j:=1) hw)
 have C2:=Lib.hid (mx_cell (j:=2) hw)
 have CL:=Lib.hid hl
 have CO:=Lib.hid ho
 clear h hv hw hl ho
 go_enter Tryz.func81,Tryz.ntmps81
 go_upto_region 1 with fail
 refine wp_region_held_drew (S:=fun w'=>Below w.heap.size w w') (by kernel_rfl) (mx_drew w) (fun hS=>?_)
 refine takeF 0 6 (fun w hSw=>And.intro ((hSw.cell (p:=⟨wb,0,none⟩) hwb).trans C0.out) (And.intro ((hSw.cell (p:=⟨wb,1,none⟩) hwb).trans C1.out) ((hSw.cell (p:=⟨wb,2,none⟩) hwb).trans C2.out))) ?_
 refine takeE 1 7 ?_
 refine ready1 2 (fun K hK=>?_)
 go_simp
 refine(wk_level a b (some mb) T v _ (HT.out.below hS)).mono ?_
 rintro e w3 ⟨rfl,hb3⟩
 rw[HL.out]
 have hS3:=hS.trans (hb3.mono hS.size)
 refine hK.out _ _ hS3 (fun _=>?_)
 clear hK hb3 hS
 rename Below w.heap.size w w3=>hS
 refine takeE 3 9 ?_
 refine takeE 4 10 ?_
 refine takeF 5 11 (fun w hSw=>And.intro ((hSw.cell (p:=⟨wb,0,none⟩) hwb).trans C0.out) (And.intro ((hSw.cell (p:=⟨wb,1,none⟩) hwb).trans C1.out) ((hSw.cell (p:=⟨wb,2,none⟩) hwb).trans C2.out))) ?_
 refine takeE 6 12 ?_
 refine takeF 8 14 (fun w hSw=>(hSw.cell (p:=⟨lb,0,none⟩) hlb).trans CL.out) ?_
 refine ready1 7 (fun K hK=>?_)
 go_simp
 refine(wk_level a b (some mb) T v _ (HT.out.below hS)).mono ?_
 rintro e w3 ⟨rfl,hb3⟩
 rw[HL.out]
 have hS3:=hS.trans (hb3.mono hS.size)
 refine hK.out _ _ hS3 (fun _=>?_)
 clear hK hb3 hS
 rename Below w.heap.size w w3=>hS
 refine takeE 9 15 ?_
 refine takeE 10 16 ?_
 refine takeF 11 17 (fun w hSw=>(hSw.cell (p:=⟨ob,0,none⟩) hob).trans CO.out) ?_
 refine takeE 12 18 ?_
 refine takeE 13 19 ?_
 refine takeE 14 20 ?_
 refine takeE 15 5 ?_
 refine wpAnyH_done (by kernel_rfl) ?_ _
 go_wp2_with fail
 go_ret
 exact⟨rfl,hS⟩
set_option maxRecDepth 100000 in
set_option maxHeartbeats 2000000 in
theorem goes_low {O:Nat→Prop} (a b mb wb lb ob:Nat) (T:Trl) (lv op v:Int) (w:World) (h:TrAt O w b T) (hw:w.heap[wb]? =some (.cells #[.pointer (some ⟨a,0,none⟩),.pointer (some ⟨b,0,none⟩),.map (some mb)] 111 (0,0)))
  (hl:w.cell? ⟨lb,0,none⟩=some (.int .i64 lv)) (ho:w.cell? ⟨ob,0,none⟩=some (.int .i64 op)) (y:Int) (hv:T.level v=y) (hq:(y==0)=false) (hq2:(y==lv)=false):
  Calls Tryz.prog 81 #[.int .i64 v,.pointer (some ⟨wb,0,none⟩),.pointer (some ⟨lb,0,none⟩),.pointer (some ⟨ob,0,none⟩)] w fun e w'=>e= .returned (.bool (false))∧Below w.heap.size w w':=by
 have HT:=Lib.hid h
 have HL:=Lib.hid hv
 have hwb:=heap_lt hw
 have hlb:=World.block_lt_of_cell? w _ hl
 have hob:=World.block_lt_of_cell? w _ ho
 have C0:=Lib.hid (mx_cell (j:=0) hw)
 have C1:=Lib.hid (mx_cell (j:=1) hw)
 have C2:=Lib.hid (mx_cell (j:=2) hw)
 have CL:=Lib.hid hl
 have CO:=Lib.hid ho
 clear h hv hw hl ho
 go_enter Tryz.func81,Tryz.ntmps81
 go_upto_region 1 with fail
 refine wp_region_held_drew (S:=fun w'=>Below w.heap.size w w') (by kernel_rfl) (mx_drew w) (fun hS=>?_)
 refine takeF 0 6 (fun w hSw=>And.intro ((hSw.cell (p:=⟨wb,0,none⟩) hwb).trans C0.out) (And.intro ((hSw.cell (p:=⟨wb,1,none⟩) hwb).trans C1.out) ((hSw.cell (p:=⟨wb,2,none⟩) hwb).trans C2.out))) ?_
 refine takeE 1 7 ?_
 refine ready1 2 (fun K hK=>?_)
 go_simp
 refine(wk_level a b (some mb) T v _ (HT.out.below hS)).mono ?_
 rintro e w3 ⟨rfl,hb3⟩
 rw[HL.out]
 have hS3:=hS.trans (hb3.mono hS.size)
 refine hK.out _ _ hS3 (fun _=>?_)
 clear hK hb3 hS
 rename Below w.heap.size w w3=>hS
 refine takeE 3 9 ?_
 refine takeE 4 10 ?_
 refine takeF 5 11 (fun w hSw=>And.intro ((hSw.cell (p:=⟨wb,0,none⟩) hwb).trans C0.out) (And.intro ((hSw.cell (p:=⟨wb,1,none⟩) hwb).trans C1.out) ((hSw.cell (p:=⟨wb,2,none⟩) hwb).trans C2.out))) ?_
 refine takeE 6 12 ?_
 refine takeF 8 14 (fun w hSw=>(hSw.cell (p:=⟨lb,0,none⟩) hlb).trans CL.out) ?_
 refine ready1 7 (fun K hK=>?_)
 go_simp
 refine(wk_level a b (some mb) T v _ (HT.out.below hS)).mono ?_
 rintro e w3 ⟨rfl,hb3⟩
 rw[HL.out]
 have hS3:=hS.trans (hb3.mono hS.size)
 refine hK.out _ _ hS3 (fun _=>?_)
 clear hK hb3 hS
 rename Below w.heap.size w w3=>hS
 refine takeE 9 15 ?_
 refine takeE 10 16 ?_
 refine takeU 11 17 ?_
 refine takeU 12 18 ?_
 refine takeE 13 19 ?_
 refine takeE 14 20 ?_
 refine takeE 15 5 ?_
 refine wpAnyH_done (by kernel_rfl) ?_ _
 go_wp2_with fail
 go_ret
 exact⟨rfl,hS⟩
theorem goes_any {O:Nat→Prop} (a b mb wb lb ob:Nat) (T:Trl) (lv op v:Int) (w:World) (h:TrAt O w b T) (hw:w.heap[wb]? =some (.cells #[.pointer (some ⟨a,0,none⟩),.pointer (some ⟨b,0,none⟩),.map (some mb)] 111 (0,0)))
  (hl:w.cell? ⟨lb,0,none⟩=some (.int .i64 lv)) (ho:w.cell? ⟨ob,0,none⟩=some (.int .i64 op)):
  Calls Tryz.prog 81 #[.int .i64 v,.pointer (some ⟨wb,0,none⟩),.pointer (some ⟨lb,0,none⟩),.pointer (some ⟨ob,0,none⟩)] w fun e w'=>e= .returned (.bool (T.goes lv op v))∧Below w.heap.size w w':=by
 unfold Trl.goes
 by_cases h0:T.level v=0
 ·
  rw[h0]
  exact goes_zero a b mb wb lb ob T lv op v w h hw hl ho h0
 ·
  have q0:(T.level v==0)=false:=by simpa using h0
  rw[q0]
  by_cases h1:T.level v=lv
  ·
   rw[h1,beq_self_eq_true]
   rw[h1]at q0
   exact goes_top a b mb wb lb ob T lv op v w h hw hl ho h1 q0
  ·
   have q1:(T.level v==lv)=false:=by simpa using h1
   rw[q1]
   exact goes_low a b mb wb lb ob T lv op v w h hw hl ho _ rfl q0 q1
end Go.Proofs.YtoojmhjagipmdaaGreat
