/- A map of integers to integers that the program made. What a range over a function keeps: all cells and walks but some. A range over a function whose rounds are told something, and pay something. -/
import Derived.Test.YtkfgplfllddhnaaGreatDoorV700
import Derived.RangeFuncNested
import Derived.RangeFuncBound
import Derived.RangeFuncCalls
import Derived.RangeFuncLeaves
import Derived.RangeFuncBox
import Derived.Shelf.Abstract
import Derived.Shelf.RegionOpen
import Derived.OwnWalkIn
import Derived.TacticsInMore
import Derived.LoopNIn
import Derived.LoopIn
import Derived.Maps.OwnIn
namespace Go.Proofs.YtkfgplfllddhnaaGreatDoor
open Go.RowKit Go.Maps
theorem int_law:Keyed Tryz.prog 3:=int_keyed Tryz.underlying3
theorem int_zero (w:World):(zeroValue 3).run Tryz.prog w= .ok (.int .i64 0) w:=by kernel_rfl
theorem wf64 {x:Int} (h0: -9223372036854775808≤x) (h1:x≤9223372036854775807):(Lit.int .i64 x).wf=true:=by
 refine WalkArith.wf_i64 ?_
 omega
def MapAt (w:World) (b n:Nat) (f:Int→Int):Prop:=
 ∃D:DataW Unit,w.ownsMap Tryz.prog 3 (plainElem Tryz.prog 3) b n D∧IsMap D∧∀x:Int,(Lit.int .i64 x).wf=true→D.atKey (.int .i64 x) (.lit (.int .i64 0))= .lit (.int .i64 (f x))
theorem MapAt.lt {w:World} {b n:Nat} {f:Int→Int} (h:MapAt w b n f):b<w.heap.size:=by
 obtain⟨D,⟨es,cl,hb,_⟩,_⟩:=h
 exact heap_lt hb
theorem MapAt.kept {O:Nat→Prop} {w w':World} {b n:Nat} {f:Int→Int} (h:MapAt w b n f) (k:Kept O w w') (hO: ¬O b):MapAt w' b n f:=by
 obtain⟨D,⟨es,cl,hb,rest⟩,h2⟩:=h
 exact⟨D,⟨es,cl,(k.block b (heap_lt hb) hO).trans hb,rest⟩,h2⟩
theorem MapAt.below {w w':World} {b n:Nat} {f:Int→Int} (h:MapAt w b n f) (k:Below w.heap.size w w'):MapAt w' b n f:=
 h.kept (O:=fun _=>False) (Kept.of_below k) (fun h=>h)
theorem MapAt.made (w:World):MapAt (w.alloc (.map #[] 0)) w.heap.size 0 (fun _=>0):=
 ⟨.map [],World.ownsMap_made _ _ _ _,isMap_empty,fun _ _=>rfl⟩
theorem MapAt.lookup {w:World} {b n:Nat} {f:Int→Int} (h:MapAt w b n f) {x:Int} (hx:(Lit.int .i64 x).wf=true):
  (Instr.lookup 71 (.map (some b)) (.int .i64 x) false).run Tryz.prog w= .ok (.int .i64 (f x)) w:=by
 obtain⟨D,ho,hm,hf⟩:=h
 obtain⟨c,hrun,hat,_⟩:=ho.lookup_int int_law Tryz.underlying71 Tryz.underlying3 (int_zero _) (keyOf_int_mk Tryz.underlying3 hx)
 have:=hf x hx
 rw[hat]at this
 have hc:c=f x:=by simpa using this
 rw[hrun,hc]
theorem MapAt.put {w':World} {b n:Nat} {f:Int→Int} {D:DataW Unit} {x y:Int} (hm:IsMap D) (hf: ∀x:Int,(Lit.int .i64 x).wf=true→D.atKey (.int .i64 x) (.lit (.int .i64 0))= .lit (.int .i64 (f x)))
  (h:w'.ownsMap Tryz.prog 3 (plainElem Tryz.prog 3) b (n+1) (D.put (.int .i64 x) (.lit (.int .i64 y)))):MapAt w' b (n+1) (fun z=>if z=x then y else f z):=by
 refine⟨_,h,hm.put _ _,fun z hz=>?_⟩
 show _=DataW.lit (Lit.int .i64 (if z=x then y else f z))
 by_cases hzx:z=x
 ·subst hzx
  rw[if_pos rfl,atKey_put_same hm (by simp[WideAt.IsKeyLit])]
 ·rw[if_neg hzx,atKey_put_other (by simpa using hzx),hf z hz]
end Go.Proofs.YtkfgplfllddhnaaGreatDoor
namespace Go.Proofs.YtkfgplfllddhnaaGreatDoor
open Go.RowKit Go.Shelf Go.Maps
attribute [local go_sem] Oper.semAt_some
def XO (W:World) (g:Nat):Prop:= ∃o,W.heap[g]? =some o∧o.isCells=false∧o.isWalk=false
structure KpC (X:Nat→Prop) (W W':World):Prop where
 os:W'.os=W.os
 tape:W'.tape=W.tape
 output:W'.output=W.output
 size:W.heap.size≤W'.heap.size
 same: ∀k o,W.heap[k]? =some o→¬X k→(o.isCells=true∨o.isWalk=true)→W'.heap[k]? =some o
theorem KpC.kept {X:Nat→Prop} {W W':World} (h:KpC X W W'):Kept (fun g=>X g∨XO W g) W W':=
 ⟨h.os,h.tape,h.output,h.size,fun k hk hn=>by
  have hg:W.heap[k]? =some W.heap[k]:=Array.getElem?_eq_getElem hk
  rw[hg]
  refine h.same k _ hg (fun hx=>hn (.inl hx)) ?_
  apply Classical.byContradiction
  intro hc
  simp only[not_or,Bool.not_eq_true]at hc
  exact hn (.inr ⟨_,hg,hc.1,hc.2⟩)⟩
theorem KpC.trans {X:Nat→Prop} {A B C:World} (h:KpC X A B) (k:KpC X B C):KpC X A C:=
 ⟨k.os.trans h.os,k.tape.trans h.tape,k.output.trans h.output,Nat.le_trans h.size k.size,fun i o hi hx ho=>k.same i o (h.same i o hi hx ho) hx ho⟩
theorem KpC.mono {X X':Nat→Prop} {A B:World} (h:KpC X A B) (hX: ∀g,g<A.heap.size→X g→X' g):KpC X' A B:=
 ⟨h.os,h.tape,h.output,h.size,fun i o hi hx ho=>h.same i o hi (fun h'=>hx (hX i (heap_lt hi) h')) ho⟩
theorem KpC.of_grown {A B:World} {row:Option Nat} (h:A.grownBy B row):KpC (fun g=>some g=row) A B:=
 ⟨h.os,h.tape,h.output,h.size,fun k _ hk hn _=>(h.block k (heap_lt hk) hn).trans hk⟩
theorem KpC.refl (X:Nat→Prop) (A:World):KpC X A A:=⟨rfl,rfl,rfl,Nat.le_refl _,fun _ _ h _ _=>h⟩
theorem KpC.of_below {X:Nat→Prop} {A B:World} (h:Below A.heap.size A B):KpC X A B:=⟨h.os,h.tape,h.output,h.size,fun k _ hk _ _=>(h.block k (heap_lt hk)).trans hk⟩
theorem KpC.putObj (W:World) (l:Nat) (o o':Obj) (h:W.heap[l]? =some o) (hc:o.isCells=false) (hw:o.isWalk=false):KpC (fun _=>False) W (W.putObj l o'):=by
 have hg:=grownBy_putObj' W l o'
 refine⟨hg.os,hg.tape,hg.output,hg.size,fun k x hk _ hx=>?_⟩
 rw[hg.block k (heap_lt hk) (fun e=>by
  cases e
  rw[h]at hk
  cases hk
  rw[hc,hw]at hx
  simp at hx)]
 exact hk
theorem xo_cells {W:World} {g:Nat} {c:Array Value} {t:TypeId} {f:Nat×Nat} (h:W.heap[g]? =some (.cells c t f)): ¬XO W g:=by
 rintro ⟨o,ho,hc,_⟩
 rw[h]at ho
 cases ho
 cases hc
theorem xo_cell {W:World} {p:Addr} {v:Value} (h:W.cell? p=some v): ¬XO W p.block:=by
 rintro ⟨o,ho,hc,_⟩
 unfold World.cell? at h
 rw[ho]at h
 cases o <;> simp_all [Obj.isCells]
theorem IntsIn.narrow {O:Nat→Prop} {w:World} {v:Value} {xs:List Int} (h:IntsIn O w v xs):IntsIn (fun g=>O g∧¬XO w g) w v xs:=by
 obtain⟨A,c,hv,hc,hn,hx⟩:=h
 refine⟨A,c,hv,hc,hn,fun i x hi=>?_⟩
 obtain⟨g,o,h1,h2,h3,h4⟩:=hx i x hi
 exact⟨g,o,h1,h2,⟨h3,xo_cell h4⟩,h4⟩
theorem wpListIn_put {F:Fence} {n:Nat} {w:World} {ops:Array Oper} {rest:List Oper} {o:Oper} {a:Act} {Q:Exit→Act→World→Prop} {b k:Nat} {f:Int→Int} (hown:MapAt w b k f)
  (hg:o.guard=none) (m x v:Operand) (hop:o.op=Op.mapUpdate 71 m x v) (hm:a.eval m= .map (some b)) (hn:k<maxLen) (i y:Int) (hx:a.eval x= .int .i64 i) (hv:a.eval v= .int .i64 y)
  (hi:(Lit.int .i64 i).wf=true) (hy:(Lit.int .i64 y).wf=true)
  (hK: ∀w',MapAt w' b (k+1) (fun z=>if z=i then y else f z)→w.grownBy w' (some b)→wpListIn F n Tryz.prog ops Q rest (a.put o.dst undef) w'):wpListIn F n Tryz.prog ops Q (o::rest) a w:=by
 obtain⟨D,ho,hmap,hf⟩:=hown
 exact wpListIn_mapUpdate_own w hg m x v _ hop 3 3 int_law Tryz.underlying71 _ b k D hm ho hn _ _ _ hx hv (keyOf_int_mk Tryz.underlying3 hi) _ [] (plainElem_int Tryz.underlying3 hy)
  (fun w' h1 h2=>hK w' (MapAt.put hmap hf h1) h2)
end Go.Proofs.YtkfgplfllddhnaaGreatDoor
namespace Go.Proofs.YtkfgplfllddhnaaGreatDoor
open Go.RowKit Go.Shelf
theorem yield_any {m:Nat} (m':Nat) {P:Program} {l:Nat} {args:Array Value} {W:World} {R:Ending→World→Prop} (h:YieldAt Fence.wide m P l args W R):YieldAt Fence.wide m' P l args W R:=by
 obtain⟨fn,tmps,assign,body,hy,hR⟩:=h
 exact⟨fn,tmps,assign,body,hy,hR.1,fun c cs _=>hR.2 c cs (room_wide _)⟩
def SeqM {α:Type} (P:Program) (g:Nat) (lb:Array Value) (encs:α→Array Value) (Pre:Nat→List α→α→World→Prop) (Post Out:α→World→World→Prop) (S Sp:List α→Prop) (w:World):Prop:=
 ∀(l:Nat) (J Jx:List α→World→Prop) (W:World),Below w.heap.size w W→OwnFrom W.heap.size J→OwnFrom W.heap.size Jx→
  (∀pre x W1,J pre W1→Pre W.heap.size pre x W1→YieldAt Fence.wide 7 P l (encs x) W1 fun e W'=>
   (e= .returned (.bool true)∧J (pre++ [x]) W'∧Post x W1 W')∨(e= .returned (.bool false)∧Jx (pre++ [x]) W'∧Out x W1 W'))→
  J [] W→
  CallsIn Fence.wide 9 P g (#[.func (.yield l) #[] #[]]++lb) W fun e W'=>(∃v,e= .returned v)∧((∃xs,S xs∧J xs W')∨(∃pre,Sp pre∧Jx pre W'))
def KeepsRec (W W':World):Prop:= ∀(k:Nat) (o:Obj),W.heap[k]? =some o→o.isCells=false→o.isWalk=false→W'.heap[k]? =some o
theorem KeepsRec.refl (W:World):KeepsRec W W:=fun _ _ h _ _=>h
theorem KeepsRec.trans {A B C:World} (h:KeepsRec A B) (k:KeepsRec B C):KeepsRec A C:=fun i o hi h1 h2=>k i o (h i o hi h1 h2) h1 h2
theorem KeepsRec.of_below {A B:World} (h:Below A.heap.size A B):KeepsRec A B:=fun k _ hk _ _=>(h.block k (heap_lt hk)).trans hk
theorem KeepsRec.of_kept {O:Nat→Prop} {A B:World} (h:Kept O A B) (hO: ∀k o,O k→A.heap[k]? =some o→o.isCells=true∨o.isWalk=true):KeepsRec A B:=fun k o hk h1 h2=>
 (h.block k (heap_lt hk) (fun e=>by
  have:=hO k o e hk
  rw[h1,h2]at this
  simp at this)).trans hk
def mPost {α:Type} (I Ix:List α→World→Prop) (Post Out:α→World→World→Prop) (pre:List α) (x:α) (W W':World):Exit→Act→World→Prop
 | .normal,_,W3=>KeepsRec W' W3∧I (pre++ [x]) W3∧Post x W W3
 | .ret,_,W3=>KeepsRec W' W3∧Ix (pre++ [x]) W3∧Out x W W3
 | .exit _,_,_=>False
 | .goto _,_,_=>False
 | .panic _,_,_=>False
 | .outgrown,_,_=>False
theorem own_rec {α:Type} {B:Nat} {I:List α→World→Prop} (hI:OwnFrom B I) {L D:Nat} {o d:Obj} {B':Nat} (hB:B≤B') (hL:L<B') (hD:D<B'):OwnFrom B' (fun pre W=>I pre W∧W.heap[L]? =some o∧W.heap[D]? =some d):=by
 rintro pre W W' row ⟨h1,h2,h3⟩ hg hr
 refine⟨hI pre W W' row h1 hg (fun r e=>⟨Nat.le_trans hB (hr r e).1,(hr r e).2⟩),(hg.block L (heap_lt h2) (fun e=>?_)).trans h2,(hg.block D (heap_lt h3) (fun e=>?_)).trans h3⟩
 ·have:=(hr L e.symm).1
  omega
 ·have:=(hr D e.symm).1
  omega
set_option maxHeartbeats 1000000 in
theorem wpIn_range_M {α:Type} {P:Program} {g:Operand} {ps:Array Tmp} {assign body:Code} {Q:Exit→Act→World→Prop} {a:Act} {w:World} {gf:Nat} {lb:Array Value}
  (hg:a.eval g= .func (.func gf) #[] lb) (eg: ∀args w,(callFunc gf args).run P w= .ok (.enter gf args) w)
  {encs:α→Array Value} {Pre:Nat→List α→α→World→Prop} {Post Out:α→World→World→Prop} {S Sp:List α→Prop} {w0:World} (hseq:SeqM P gf lb encs Pre Post Out S Sp w0) (hb0:Below w0.heap.size w0 w) (hps: ∀x,(encs x).size=ps.size)
  (hPost: ∀pre x (W W3:World) l r r',l<w.heap.size+2→Pre (w.heap.size+2) pre x W→W3.heap[l]? =some (.loop r)→Post x W W3→Post x W (W3.putObj l (.loop r')))
  (hOut: ∀pre x (W W3:World) l r r',l<w.heap.size+2→Pre (w.heap.size+2) pre x W→W3.heap[l]? =some (.loop r)→Out x W W3→Out x W (W3.putObj l (.loop r')))
  (I Ix:List α→World→Prop) (hI:OwnFrom w.heap.size I) (hIx:OwnFrom w.heap.size Ix) (h0:I [] w)
  (Fr:α→Nat→Act) (Mid:List α→α→World→Nat→World→Prop) (hMid: ∀pre x W B (W':World) l r r',w.heap.size≤l→l<w.heap.size+2→W'.heap[l]? =some (.loop r)→Mid pre x W B W'→Mid pre x W B (W'.putObj l (.loop r')))
  (hassign: ∀(l:Nat) (pre:List α) (x:α) (W:World) (K:Act→World→Prop),I pre W→Pre (w.heap.size+2) pre x W→(∀B W',KeepsRec W W'→Mid pre x W B W'→K (Fr x B) W')→
   assign.wpIn (Fence.wide.inRound l) 7 P (Exit.then K (fun _ _ _=>False)) { tmps:=(ps.zip (encs x)).foldl (fun t (p,v)=>t.setIfInBounds p v) a.tmps,defers:= [] } W)
  (hbody: ∀(l:Nat) (pre:List α) (x:α) (W:World) (B:Nat) (W':World),Mid pre x W B W'→body.wpIn (Fence.wide.inRound l) 7 P (mPost I Ix Post Out pre x W W') (Fr x B) W')
  (hdone: ∀(D:Nat) (xs:List α) (W:World),w.heap.size≤D→S xs→I xs W→W.heap[D]? =some (.deferred (some []))→Q .normal { a with defers:={ target:=.collected D,args:= #[] }::a.defers } W)
  (hstop: ∀(D:Nat) (pre:List α) (W:World),w.heap.size≤D→Sp pre→Ix pre W→W.heap[D]? =some (.deferred (some []))→Code.ret.wpIn Fence.wide 10 P Q { a with defers:={ target:=.collected D,args:= #[] }::a.defers } W):
  (Code.rangeFunc g ps assign body).wpIn Fence.wide 10 P Q a w:=by
 refine wpIn_rangeFunc (fun fn hfn=>?_)
 obtain⟨rec,hrec⟩: ∃rec:LoopState→Option Code→Loop,rec=fun st pe=>{ state:=st,pending:=pe,fn,tmps:=a.tmps,params:=ps,assign,body,defers:=w.heap.size }:=⟨_,rfl⟩
 obtain⟨W1,hW1⟩: ∃W1,(w.alloc (.deferred (some []))).alloc (.loop (rec .ready none))=W1:=⟨_,rfl⟩
 have hz1:W1.heap.size=w.heap.size+2:=by rw[←hW1];simp
 have hL1:W1.heap[w.heap.size+1]? =some (.loop (rec .ready none)):=by
  have:=World.alloc_heap_new (w.alloc (.deferred (some []))) (.loop (rec .ready none))
  rwa [hW1,World.size_alloc]at this
 have hD1:W1.heap[w.heap.size]? =some (.deferred (some [])):=by
  rw[←hW1,Below.heap_alloc _ _ _ (by simp)]
  exact World.alloc_heap_new w _
 have hb1:Below w.heap.size w W1:=by rw[←hW1];exact(mx_al w _).alloc (by simp) _
 have hI1:I [] W1:=by rw[←hW1];exact hI.alloc _ (hI.alloc _ h0)
 have turn: ∀(W3:World) (r r':Loop),W3.heap[w.heap.size+1]? =some (.loop r)→W3.heap[w.heap.size]? =some (.deferred (some []))→(W3.putObj (w.heap.size+1) (.loop r')).heap[w.heap.size+1]? =some (.loop r')∧(W3.putObj (w.heap.size+1) (.loop r')).heap[w.heap.size]? =some (.deferred (some [])):=fun W3 r r' h1 h2=>
  ⟨World.putObj_heap_same (heap_lt h1),(World.putObj_heap_other (by omega)).trans h2⟩
 refine⟨w.heap.size+1,[{ target:=.collected w.heap.size,args:= #[] }],W1,{ target:=.fn (.func gf) lb,args:= #[.func (.yield (w.heap.size+1)) #[] #[]] },W1,gf,#[.func (.yield (w.heap.size+1)) #[] #[]]++lb,W1,?_,?_,fun _ _=>trivial,?_,fun h=>(by cases h),?_⟩
 ·rw[←hW1,hrec]
  exact run_enterLoop_outer _ _ _ _ _
 ·simp only[resolve,hg]
  simp[go_sem]
 ·simp[invoke,go_sem,eg]
 refine(hseq (w.heap.size+1) (fun pre W=>I pre W∧W.heap[w.heap.size+1]? =some (.loop (rec .ready none))∧W.heap[w.heap.size]? =some (.deferred (some [])))
  (fun pre W=>Ix pre W∧W.heap[w.heap.size+1]? =some (.loop (rec .done (some .ret)))∧W.heap[w.heap.size]? =some (.deferred (some []))) W1 (hb0.trans (hb1.mono hb0.size))
  (own_rec hI (by omega) (by omega) (by omega)) (own_rec hIx (by omega) (by omega) (by omega)) ?_ ⟨hI1,hL1,hD1⟩).mono ?_
 ·rintro pre x W ⟨hi,hl,hd⟩ hp
  have hy:=run_yield (P:=P) (args:=encs x) hl (by rw[hrec];exact hps x)
  rw[hrec]at hy
  refine⟨fn,_,assign,body,hy,roundIn_of_wpIn hfn (hassign _ pre x W _ hi (hz1▸hp) ?_)⟩
  intro B W' hk hm
  have hl':=hk _ _ hl rfl rfl
  have hd':=hk _ _ hd rfl rfl
  refine⟨_,run_beginRound hl' (by rw[hrec]),?_⟩
  obtain⟨hl2,hd2⟩:=turn W' _ { rec .ready none with state:=.busy } hl' hd'
  refine wpIn_mono (hbody _ pre x W B _ (hMid pre x W B W' _ _ _ (by omega) (by omega) hl' hm)) ?_
  rintro e a3 W3 hq
  cases e with
  | normal=>
   obtain⟨hk3,hi3,hp3⟩:=hq
   have hl3:=hk3 _ _ hl2 rfl rfl
   have hd3:=hk3 _ _ hd2 rfl rfl
   have he:=run_endRound (P:=P) none hl3
   obtain⟨hl4,hd4⟩:=turn W3 _ (rec .ready none) hl3 hd3
   refine⟨_,_,he,.inl ⟨rfl,?_⟩⟩
   rw[hrec]at hl3 hl4 hd4⊢
   exact⟨⟨hI.putObj _ hi3 (by omega) hl3 rfl,hl4,hd4⟩,hPost pre _ _ _ _ _ _ (by omega) (hz1▸hp) hl3 hp3⟩
  | ret=>
   obtain⟨hk3,hi3,hp3⟩:=hq
   have hl3:=hk3 _ _ hl2 rfl rfl
   have hd3:=hk3 _ _ hd2 rfl rfl
   have he:=run_endRound (P:=P) (some .ret) hl3
   obtain⟨hl4,hd4⟩:=turn W3 _ (rec .done (some .ret)) hl3 hd3
   refine⟨_,_,he,.inr ⟨rfl,?_⟩⟩
   rw[hrec]at hl3 hl4 hd4⊢
   exact⟨⟨hIx.putObj _ hi3 (by omega) hl3 rfl,hl4,hd4⟩,hOut pre _ _ _ _ _ _ (by omega) (hz1▸hp) hl3 hp3⟩
  | exit id=>exact hq.elim
  | goto t=>exact hq.elim
  | panic c=>exact hq.elim
  | outgrown=>exact hq.elim
 ·rintro e W2 ⟨⟨v,rfl⟩,⟨xs,hS,hi,hl,hd⟩|⟨pre,hS,hi,hl,hd⟩⟩
  ·have he:=run_endLoop (P:=P) hl (by rw[hrec];simp)
   obtain⟨_,hd4⟩:=turn W2 _ { rec .ready none with state:=.exhausted } hl hd
   refine⟨none,_,?_,hdone _ xs _ (Nat.le_refl _) hS (hI.putObj _ hi (by omega) hl rfl) hd4⟩
   rw[hrec]at he⊢
   exact he
  ·have he:=run_endLoop (P:=P) hl (by rw[hrec];simp)
   obtain⟨_,hd4⟩:=turn W2 _ { rec .done (some .ret)with state:=.exhausted } hl hd
   refine⟨some .ret,_,?_,hstop _ pre _ (Nat.le_refl _) hS (hIx.putObj _ hi (by omega) hl rfl) hd4⟩
   rw[hrec]at he⊢
   exact he
end Go.Proofs.YtkfgplfllddhnaaGreatDoor
