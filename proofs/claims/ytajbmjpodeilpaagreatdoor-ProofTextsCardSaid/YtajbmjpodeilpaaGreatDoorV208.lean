/- slices.SortFunc and SortedFunc at literals, with lits.Compare. A range over a function whose rounds are told something, and pay something. package clauses: normal, Always, Norm. Plain: a clause in normal form. -/
import Derived.Test.YtajbmjpodeilpaaGreatDoorV207
import Derived.Test.YtajbmjpodeilpaaGreatDoorShelf
import Derived.Shelf.SlSortCmp.NoneTotal
import Derived.Test.YtajbmjpodeilpaaGreatDoorV201
import Derived.RangeFuncNested
namespace Go.Proofs.YtajbmjpodeilpaaGreatDoor
open Go.RowKit Go.Shelf Go.Sort
def sortL (xs:List Int):List Int:=xs.mergeSort fun x y=> !(ltOf litC) y x
theorem sortL_length (xs:List Int):(sortL xs).length=xs.length:=by simp[sortL]
theorem sortL_perm (xs:List Int):(sortL xs).Perm xs:=List.mergeSort_perm _ _
theorem sortL_mem {xs:List Int} {x:Int}:x∈sortL xs↔x∈xs:=(sortL_perm xs).mem_iff
theorem compare_reads (blk off size:Nat) (w:World):CmpReads Tryz.prog 151 #[] (Value.int .i64) litC blk off size w:=
 fun _ _ _ _ x y=>(lit_compare x y _).mono fun _ _ ⟨he,hw⟩=>⟨he,0,hw.symm⟩
theorem own_sortL {base:Nat} (v:Value) (xs:List Int) (w:World) (h:w.ownsRow base 28 1 v xs.length (xs.map (Value.int .i64))) (hl:xs.length<4611686018427387904):
  Calls Tryz.prog 150 #[v,.func (.func 151) #[] #[]] w fun e w'=>e= .returned (.tuple #[])∧w'.ownsRow base 28 1 v (sortL xs).length ((sortL xs).map (Value.int .i64))∧Kept (fun g=>v.ownBlock=some g) w w':=by
 rcases h.2 with⟨rfl,h0⟩|⟨g,cap,cur,rfl,hb,hg,h1,h2,h3,h4⟩
 ·obtain rfl:xs= []:=List.eq_nil_of_length_eq_zero h0
  have hs:sortL []= []:=by simp[sortL]
  have H:=AnyF.slices_SortFunc_none (P:=Tryz.prog) (ρ:=Tryz.sortLit_ren) { Tryz.sortLit with } none 0 (.func (.func 151) #[] #[]) w
  change Calls Tryz.prog 150 _ _ _ at H
  refine H.mono ?_
  rintro e w' ⟨rfl,rfl⟩
  rw[hs]
  exact⟨rfl,h,Kept.refl _ _⟩
 ·have eg: ∀args w,(callFunc 151 args).run Tryz.prog w= .ok (.enter 151 args) w:=enters_of Tryz.func151 (by kernel_rfl) rfl
  have H:=Any.slices_SortFunc_total Tryz.sortLit (Value.int .i64) (fun _=>rfl) litC ltC_swo 151 #[] g 0 cap xs.toArray w eg (compare_reads g 0 _ w).lays (st_holds hg (by simpa using h4)) (heap_lt hg) (by simpa using hl) ltC_total
  change Calls Tryz.prog 150 _ _ _ at H
  rw[List.size_toArray]at H
  refine H.mono ?_
  rintro e w' ⟨rfl,n,os,rfl⟩
  refine⟨rfl,?_,st_kept _⟩
  rw[sortL_length]
  refine⟨by simp[sortL],.inr ⟨g,cap,_,rfl,hb,st_heap _ hg,h1,h2,by simp[putCells,h3],?_⟩⟩
  have e:xs.length*1=(sortL xs).length:=by rw[sortL_length,Nat.mul_one]
  rw[e]
  exact st_take cur (sortL xs) (by rw[sortL_length];omega)
theorem sorted_values {O:Nat→Prop} (Bb:Nat) (u:Value) (xs:List Int) (w:World) (hB:w.cell? ⟨Bb,0,none⟩=some u) (hu:IntsIn O w u xs) (hlen:xs.length≤1000000000000):
  Calls Tryz.prog 240 #[.func (.func 256) #[] #[.pointer (some ⟨Bb,0,none⟩)],.func (.func 151) #[] #[]] w fun e w'=> ∃v,e= .returned v∧w'.ownsRow w.heap.size 28 1 v (sortL xs).length ((sortL xs).map (Value.int .i64))∧Below w.heap.size w w':=by
 have H:=Lib.hid (collect_values Bb u xs w hB hu hlen)
 clear hB hu
 go_enter Tryz.func240,Tryz.ntmps240
 go_wp2_with fail
 refine H.out.mono ?_
 rintro e w1 ⟨v,rfl,hr,hb⟩
 have HS:=Lib.hid (own_sortL v xs w1 hr (by omega))
 have HR:=Lib.hid hr
 have HB:=Lib.hid hb
 clear hr hb
 go_wp2_with fail
 refine HS.out.mono ?_
 rintro e w2 ⟨rfl,hr,hk⟩
 have HR2:=Lib.hid hr
 have HB2:=Lib.hid (HB.out.trans (hk.below (fun g hg=>(own_lt HR.out g hg).1) HB.out.size))
 clear hr hk
 go_wp2_with fail
 go_ret
 exact⟨_,rfl,HR2.out,HB2.out⟩
end Go.Proofs.YtajbmjpodeilpaaGreatDoor
namespace Go.Proofs.YtajbmjpodeilpaaGreatDoor
open Go.RowKit Go.Shelf
theorem yield_any {m:Nat} (m':Nat) {P:Program} {l:Nat} {args:Array Value} {W:World} {R:Ending→World→Prop} (h:YieldAt Fence.wide m P l args W R):YieldAt Fence.wide m' P l args W R:=by
 obtain⟨fn,tmps,assign,body,hy,hR⟩:=h
 exact⟨fn,tmps,assign,body,hy,hR.1,fun c cs _=>hR.2 c cs (room_wide _)⟩
def SeqM {α:Type} (P:Program) (g:Nat) (lb:Array Value) (encs:α→Array Value) (Pre:Nat→List α→α→World→Prop) (Post Out:α→World→World→Prop) (S Sp:List α→Prop) (w:World):Prop:=
 ∀(l:Nat) (J Jx:List α→World→Prop) (W:World),Below w.heap.size w W→OwnFrom W.heap.size J→OwnFrom W.heap.size Jx→
  (∀pre x W1,J pre W1→Pre W.heap.size pre x W1→YieldAt Fence.wide 7 P l (encs x) W1 fun e W'=>
   (e= .returned (.bool true)∧J (pre++ [x]) W'∧Post x W1 W')∨(e= .returned (.bool false)∧Jx (pre++ [x]) W'∧Out x W1 W'))→
  J [] W→
  CallsIn Fence.wide 9 P g (#[.func (.yield l) #[] #[]]++lb) W fun e W'=>(∃v,e= .returned v)∧((∃xs,S xs∧J xs W')∨(∃pre,Sp pre∧Jx pre W'))
def KeepsRec (W W':World):Prop:= ∀(k:Nat) (o:Obj),W.heap[k]? =some o→o.isCells=false→o.isWalk=false→W'.heap[k]? =some o
theorem KeepsRec.refl (W:World):KeepsRec W W:=fun _ _ h _ _=>h
theorem KeepsRec.trans {A B C:World} (h:KeepsRec A B) (k:KeepsRec B C):KeepsRec A C:=fun i o hi h1 h2=>k i o (h i o hi h1 h2) h1 h2
theorem KeepsRec.of_below {A B:World} (h:Below A.heap.size A B):KeepsRec A B:=fun k _ hk _ _=>(h.block k (heap_lt hk)).trans hk
theorem KeepsRec.of_kept {O:Nat→Prop} {A B:World} (h:Kept O A B) (hO: ∀k o,O k→A.heap[k]? =some o→o.isCells=true∨o.isWalk=true):KeepsRec A B:=fun k o hk h1 h2=>
 (h.block k (heap_lt hk) (fun e=>by
  have:=hO k o e hk
  rw[h1,h2]at this
  simp at this)).trans hk
def mPost {α:Type} (I Ix:List α→World→Prop) (Post Out:α→World→World→Prop) (pre:List α) (x:α) (W W':World):Exit→Act→World→Prop
 | .normal,_,W3=>KeepsRec W' W3∧I (pre++ [x]) W3∧Post x W W3
 | .ret,_,W3=>KeepsRec W' W3∧Ix (pre++ [x]) W3∧Out x W W3
 | .exit _,_,_=>False
 | .goto _,_,_=>False
 | .panic _,_,_=>False
 | .outgrown,_,_=>False
theorem own_rec {α:Type} {B:Nat} {I:List α→World→Prop} (hI:OwnFrom B I) {L D:Nat} {o d:Obj} {B':Nat} (hB:B≤B') (hL:L<B') (hD:D<B'):OwnFrom B' (fun pre W=>I pre W∧W.heap[L]? =some o∧W.heap[D]? =some d):=by
 rintro pre W W' row ⟨h1,h2,h3⟩ hg hr
 refine⟨hI pre W W' row h1 hg (fun r e=>⟨Nat.le_trans hB (hr r e).1,(hr r e).2⟩),(hg.block L (heap_lt h2) (fun e=>?_)).trans h2,(hg.block D (heap_lt h3) (fun e=>?_)).trans h3⟩
 ·have:=(hr L e.symm).1
  omega
 ·have:=(hr D e.symm).1
  omega
set_option maxHeartbeats 1000000 in
theorem wpIn_range_M {α:Type} {P:Program} {g:Operand} {ps:Array Tmp} {assign body:Code} {Q:Exit→Act→World→Prop} {a:Act} {w:World} {gf:Nat} {lb:Array Value}
  (hg:a.eval g= .func (.func gf) #[] lb) (eg: ∀args w,(callFunc gf args).run P w= .ok (.enter gf args) w)
  {encs:α→Array Value} {Pre:Nat→List α→α→World→Prop} {Post Out:α→World→World→Prop} {S Sp:List α→Prop} {w0:World} (hseq:SeqM P gf lb encs Pre Post Out S Sp w0) (hb0:Below w0.heap.size w0 w) (hps: ∀x,(encs x).size=ps.size)
  (hPost: ∀pre x (W W3:World) l r r',l<w.heap.size+2→Pre (w.heap.size+2) pre x W→W3.heap[l]? =some (.loop r)→Post x W W3→Post x W (W3.putObj l (.loop r')))
  (hOut: ∀pre x (W W3:World) l r r',l<w.heap.size+2→Pre (w.heap.size+2) pre x W→W3.heap[l]? =some (.loop r)→Out x W W3→Out x W (W3.putObj l (.loop r')))
  (I Ix:List α→World→Prop) (hI:OwnFrom w.heap.size I) (hIx:OwnFrom w.heap.size Ix) (h0:I [] w)
  (Fr:α→Nat→Act) (Mid:List α→α→World→Nat→World→Prop) (hMid: ∀pre x W B (W':World) l r r',w.heap.size≤l→l<w.heap.size+2→W'.heap[l]? =some (.loop r)→Mid pre x W B W'→Mid pre x W B (W'.putObj l (.loop r')))
  (hassign: ∀(l:Nat) (pre:List α) (x:α) (W:World) (K:Act→World→Prop),I pre W→Pre (w.heap.size+2) pre x W→(∀B W',KeepsRec W W'→Mid pre x W B W'→K (Fr x B) W')→
   assign.wpIn (Fence.wide.inRound l) 7 P (Exit.then K (fun _ _ _=>False)) { tmps:=(ps.zip (encs x)).foldl (fun t (p,v)=>t.setIfInBounds p v) a.tmps,defers:= [] } W)
  (hbody: ∀(l:Nat) (pre:List α) (x:α) (W:World) (B:Nat) (W':World),Mid pre x W B W'→body.wpIn (Fence.wide.inRound l) 7 P (mPost I Ix Post Out pre x W W') (Fr x B) W')
  (hdone: ∀(D:Nat) (xs:List α) (W:World),w.heap.size≤D→S xs→I xs W→W.heap[D]? =some (.deferred (some []))→Q .normal { a with defers:={ target:=.collected D,args:= #[] }::a.defers } W)
  (hstop: ∀(D:Nat) (pre:List α) (W:World),w.heap.size≤D→Sp pre→Ix pre W→W.heap[D]? =some (.deferred (some []))→Code.ret.wpIn Fence.wide 10 P Q { a with defers:={ target:=.collected D,args:= #[] }::a.defers } W):
  (Code.rangeFunc g ps assign body).wpIn Fence.wide 10 P Q a w:=by
 refine wpIn_rangeFunc (fun fn hfn=>?_)
 obtain⟨rec,hrec⟩: ∃rec:LoopState→Option Code→Loop,rec=fun st pe=>{ state:=st,pending:=pe,fn,tmps:=a.tmps,params:=ps,assign,body,defers:=w.heap.size }:=⟨_,rfl⟩
 obtain⟨W1,hW1⟩: ∃W1,(w.alloc (.deferred (some []))).alloc (.loop (rec .ready none))=W1:=⟨_,rfl⟩
 have hz1:W1.heap.size=w.heap.size+2:=by rw[←hW1];simp
 have hL1:W1.heap[w.heap.size+1]? =some (.loop (rec .ready none)):=by
  have:=World.alloc_heap_new (w.alloc (.deferred (some []))) (.loop (rec .ready none))
  rwa [hW1,World.size_alloc]at this
 have hD1:W1.heap[w.heap.size]? =some (.deferred (some [])):=by
  rw[←hW1,Below.heap_alloc _ _ _ (by simp)]
  exact World.alloc_heap_new w _
 have hb1:Below w.heap.size w W1:=by rw[←hW1];exact(mx_al w _).alloc (by simp) _
 have hI1:I [] W1:=by rw[←hW1];exact hI.alloc _ (hI.alloc _ h0)
 have turn: ∀(W3:World) (r r':Loop),W3.heap[w.heap.size+1]? =some (.loop r)→W3.heap[w.heap.size]? =some (.deferred (some []))→(W3.putObj (w.heap.size+1) (.loop r')).heap[w.heap.size+1]? =some (.loop r')∧(W3.putObj (w.heap.size+1) (.loop r')).heap[w.heap.size]? =some (.deferred (some [])):=fun W3 r r' h1 h2=>
  ⟨World.putObj_heap_same (heap_lt h1),(World.putObj_heap_other (by omega)).trans h2⟩
 refine⟨w.heap.size+1,[{ target:=.collected w.heap.size,args:= #[] }],W1,{ target:=.fn (.func gf) lb,args:= #[.func (.yield (w.heap.size+1)) #[] #[]] },W1,gf,#[.func (.yield (w.heap.size+1)) #[] #[]]++lb,W1,?_,?_,fun _ _=>trivial,?_,fun h=>(by cases h),?_⟩
 ·rw[←hW1,hrec]
  exact run_enterLoop_outer _ _ _ _ _
 ·simp only[resolve,hg]
  simp[go_sem]
 ·simp[invoke,go_sem,eg]
 refine(hseq (w.heap.size+1) (fun pre W=>I pre W∧W.heap[w.heap.size+1]? =some (.loop (rec .ready none))∧W.heap[w.heap.size]? =some (.deferred (some [])))
  (fun pre W=>Ix pre W∧W.heap[w.heap.size+1]? =some (.loop (rec .done (some .ret)))∧W.heap[w.heap.size]? =some (.deferred (some []))) W1 (hb0.trans (hb1.mono hb0.size))
  (own_rec hI (by omega) (by omega) (by omega)) (own_rec hIx (by omega) (by omega) (by omega)) ?_ ⟨hI1,hL1,hD1⟩).mono ?_
 ·rintro pre x W ⟨hi,hl,hd⟩ hp
  have hy:=run_yield (P:=P) (args:=encs x) hl (by rw[hrec];exact hps x)
  rw[hrec]at hy
  refine⟨fn,_,assign,body,hy,roundIn_of_wpIn hfn (hassign _ pre x W _ hi (hz1▸hp) ?_)⟩
  intro B W' hk hm
  have hl':=hk _ _ hl rfl rfl
  have hd':=hk _ _ hd rfl rfl
  refine⟨_,run_beginRound hl' (by rw[hrec]),?_⟩
  obtain⟨hl2,hd2⟩:=turn W' _ { rec .ready none with state:=.busy } hl' hd'
  refine wpIn_mono (hbody _ pre x W B _ (hMid pre x W B W' _ _ _ (by omega) (by omega) hl' hm)) ?_
  rintro e a3 W3 hq
  cases e with
  | normal=>
   obtain⟨hk3,hi3,hp3⟩:=hq
   have hl3:=hk3 _ _ hl2 rfl rfl
   have hd3:=hk3 _ _ hd2 rfl rfl
   have he:=run_endRound (P:=P) none hl3
   obtain⟨hl4,hd4⟩:=turn W3 _ (rec .ready none) hl3 hd3
   refine⟨_,_,he,.inl ⟨rfl,?_⟩⟩
   rw[hrec]at hl3 hl4 hd4⊢
   exact⟨⟨hI.putObj _ hi3 (by omega) hl3 rfl,hl4,hd4⟩,hPost pre _ _ _ _ _ _ (by omega) (hz1▸hp) hl3 hp3⟩
  | ret=>
   obtain⟨hk3,hi3,hp3⟩:=hq
   have hl3:=hk3 _ _ hl2 rfl rfl
   have hd3:=hk3 _ _ hd2 rfl rfl
   have he:=run_endRound (P:=P) (some .ret) hl3
   obtain⟨hl4,hd4⟩:=turn W3 _ (rec .done (some .ret)) hl3 hd3
   refine⟨_,_,he,.inr ⟨rfl,?_⟩⟩
   rw[hrec]at hl3 hl4 hd4⊢
   exact⟨⟨hIx.putObj _ hi3 (by omega) hl3 rfl,hl4,hd4⟩,hOut pre _ _ _ _ _ _ (by omega) (hz1▸hp) hl3 hp3⟩
  | exit id=>exact hq.elim
  | goto t=>exact hq.elim
  | panic c=>exact hq.elim
  | outgrown=>exact hq.elim
 ·rintro e W2 ⟨⟨v,rfl⟩,⟨xs,hS,hi,hl,hd⟩|⟨pre,hS,hi,hl,hd⟩⟩
  ·have he:=run_endLoop (P:=P) hl (by rw[hrec];simp)
   obtain⟨_,hd4⟩:=turn W2 _ { rec .ready none with state:=.exhausted } hl hd
   refine⟨none,_,?_,hdone _ xs _ (Nat.le_refl _) hS (hI.putObj _ hi (by omega) hl rfl) hd4⟩
   rw[hrec]at he⊢
   exact he
  ·have he:=run_endLoop (P:=P) hl (by rw[hrec];simp)
   obtain⟨_,hd4⟩:=turn W2 _ { rec .done (some .ret)with state:=.exhausted } hl hd
   refine⟨some .ret,_,?_,hstop _ pre _ (Nat.le_refl _) hS (hIx.putObj _ hi (by omega) hl rfl) hd4⟩
   rw[hrec]at he⊢
   exact he
end Go.Proofs.YtajbmjpodeilpaaGreatDoor
namespace Go.Proofs.YtajbmjpodeilpaaGreatDoor
open Go.RowKit Go.Shelf Go.Sort
attribute [local go_sem] Oper.semAt_some
def onceL:Int→List Int→List Int
 | _,[]=> []
 | last,x::r=>if x=last then onceL last r else x::onceL x r
def normL (xs:List Int):List Int:=onceL 0 (sortL xs)
structure SPre (ys:List Int) (n:Nat) (pre:List (Int×Nat)) (x:Int×Nat) (W:World):Prop where
 lon:n≤x.2
 size:x.2≤W.heap.size
 same: ∀y∈pre,y.2=x.2
 run:pre.map Prod.fst++ [x.1] <+: ys
def SPost (X0:Nat→Prop) (x:Int×Nat) (W W':World):Prop:=KpC (fun g=>x.2≤g∨X0 g) W W'
theorem SPost.turn {X0:Nat→Prop} {x:Int×Nat} {W W3:World} {l:Nat} {r r':Loop} (h:SPost X0 x W W3) (hl:W3.heap[l]? =some (.loop r)):SPost X0 x W (W3.putObj l (.loop r')):=
 KpC.trans h ((KpC.putObj W3 l _ _ hl rfl rfl).mono (fun _ _ e=>e.elim))
def sv (x:Int×Nat):Array Value:= #[.int .i64 x.1]
theorem own_from_below' {α:Type} {B:Nat} {I:α→World→Prop} (h:OwnFrom B I) {s:α} {W W':World} (hs:I s W) (hb:Below W.heap.size W W'):I s W':=
 h s W W' none hs ⟨hb.os,hb.tape,hb.output,hb.size,fun k hk _=>hb.block k hk⟩ (fun r e=>by cases e)
theorem own_cell {w:World} {base:Nat} {t:TypeId} {v:Value} {xs:List Int} {k:Nat} {x:Int} (h:w.ownsRow base t 1 v xs.length (xs.map (Value.int .i64))) (hx:xs[k]? =some x):
  ∃g c,v= .slice (some ⟨g,0,none⟩) xs.length c∧base≤g∧g<w.heap.size∧w.cell? ⟨g,k,none⟩=some (.int .i64 x):=by
 obtain⟨g,c,cs,rfl,h1,h2,h3,_⟩:=mx_some h (by have:=(List.getElem?_eq_some_iff.1 hx).1;omega)
 exact⟨g,c,rfl,h2,h3,mx_at h (by rw[List.getElem?_map,hx];rfl)⟩
theorem sorted_run (A:Option Addr) (n c:Nat) (w:World):Calls Tryz.prog 210 #[.slice A n c] w fun e w'=>e= .returned (.func (.func 239) #[] #[.pointer (some ⟨w.heap.size,0,none⟩)])∧w.alloc (.cells #[.slice A n c] 30)=w':=by
 go_enter Tryz.func210,Tryz.ntmps210
 go_wp2
 go_ret
 exact⟨rfl,rfl⟩
set_option maxRecDepth 100000 in
set_option maxHeartbeats 4000000 in
theorem sorted_stops {O:Nat→Prop} (X0:Nat→Prop) (Bb:Nat) (u:Value) (xs:List Int) (w:World) (hB:w.cell? ⟨Bb,0,none⟩=some u) (hu:IntsIn O w u xs) (hlen:xs.length≤1000000000000) (hX0: ∀g,X0 g→g<w.heap.size):
  SeqM Tryz.prog 239 #[.pointer (some ⟨Bb,0,none⟩)] sv (SPre (normL xs)) (SPost X0) (fun _ _ _=>True) (fun ys=>ys.map Prod.fst=normL xs) (fun pre=>pre.map Prod.fst <+: normL xs∧pre≠ []) w:=by
 intro l J Jx W hW hJ hJx hY h0
 have hB':=World.block_lt_of_cell? w _ hB
 have d0:W.cell? ⟨Bb,0,none⟩=some u:=(hW.cell (p:=⟨Bb,0,none⟩) hB').trans hB
 have hzW:=hW.size
 have HU:=Lib.hid (hu.below hW)
 obtain⟨A,c,rfl,hc,_,_⟩:=hu
 obtain⟨W1,hW1⟩: ∃x,W.alloc (.cells #[.slice A xs.length c] 30)=x:=⟨_,rfl⟩
 have hb1:Below W.heap.size W W1:=by rw[←hW1];exact mx_al _ _
 have hc1:W1.cell? ⟨W.heap.size,0,none⟩=some (.slice A xs.length c):=by rw[←hW1];exact mx_cell (j:=0) (World.alloc_heap_new _ _)
 have hz1:W1.heap.size=W.heap.size+1:=by rw[←hW1];simp
 have HSV:=Lib.hid (sorted_values W.heap.size _ xs W1 hc1 (HU.out.below hb1) hlen)
 have HW1:=Lib.hid hW1
 have HB1:=Lib.hid hb1
 have HJ:=Lib.hid hJ
 have HY:=Lib.hid hY
 have HX0:=Lib.hid hX0
 have H0:=Lib.hid h0
 have HSL:=Lib.hid (show(sortL xs).length≤1000000000000 by rw[sortL_length];exact hlen)
 obtain⟨s,hs⟩: ∃s,sortL xs=s:=⟨_,rfl⟩
 have HN:=Lib.hid (show normL xs=onceL 0 s by unfold normL;rw[hs])
 rw[hs]at HSV HSL
 clear hB hW hc1 hW1 hb1 hJ hJx hY hX0 h0 hs hlen
 refine callsIn_of_wp Tryz.func239 rfl trivial ?_ rfl
 simp only[Tryz.ntmps239,List.size_toArray,List.length_cons,List.length_nil,Nat.reduceAdd,Nat.reduceSub,Array.replicate_succ,Array.replicate_zero,List.push_toArray,List.append_toArray,List.nil_append,List.cons_append]
 gi_wp2_with fail
 refine⟨trivial,?_⟩
 refine(callsIn_wide.2 (values_run A xs.length c W)).mono ?_
 rintro e W' ⟨rfl,rfl⟩
 gi_wp2_with fail
 refine⟨trivial,?_⟩
 rw[HW1.out]
 refine(callsIn_wide.2 HSV.out).mono ?_
 rintro e W2 ⟨v,rfl,hr,hb2⟩
 obtain⟨Av,cv,rfl,hcv⟩:=mx_slice hr
 have HR:=Lib.hid hr
 have HB2:=Lib.hid (HB1.out.trans (hb2.mono (by omega)))
 have hz2:=hb2.size
 have HJ2:=Lib.hid (own_from_below' HJ.out H0.out HB2.out)
 clear hr hb2 d0
 have hsl:=HSL.out
 gi_wp2
 gi_loopw [3,10] (fun la i wr=> ∃(k:Nat) (last:Int) (pre:List (Int×Nat)),k≤s.length∧i= .int .i64 k∧la= .int .i64 last∧Hid (pre.map Prod.fst++onceL last (s.drop k)=normL xs)∧Hid (∀y∈pre,y.2=W2.heap.size)∧Hid (KpC (fun g=>W2.heap.size≤g∨X0 g) W2 wr)∧Hid (J pre wr)) (fun _ i _=>s.length-(intOf i).toNat)
 case atStart=>exact⟨0,0,[],Nat.zero_le _,rfl,rfl,Lib.hid (by rw[HN.out];rfl),Lib.hid (fun y hy=>by cases hy),Lib.hid (KpC.refl _ _),HJ2⟩
 case round=>
  obtain⟨k,last,pre,hk,rfl,rfl,HP,HSM,HK,HJS⟩:=hrel
  by_cases hlt:k<s.length
  ·obtain⟨x,hxk⟩:=getElem_of hlt
   obtain⟨g,c',hv,hg0,hg,e0⟩:=own_cell HR.out hxk
   simp only[Value.slice.injEq,true_and]at hv
   obtain⟨rfl,rfl⟩:=hv
   have d1:wr.cell? ⟨g,k,none⟩=some (.int .i64 x):=((HK.out.kept.cell (p:=⟨g,k,none⟩) hg (fun h=>by
    rcases h with(h|h)|h
    ·simp only at h;omega
    ·have:=HX0.out _ h
     simp only at this;omega
    ·exact xo_cell e0 h))).trans e0
   have hdk:s.drop k=x::s.drop (k+1):=by
    rw[List.drop_eq_getElem_cons hlt]
    rw[List.getElem?_eq_getElem hlt]at hxk
    rw[Option.some.inj hxk]
   have HDK:=Lib.hid hdk
   by_cases he:x=last
   ·have q0:(x==last)=true:=by simpa using he
    have HP':=Lib.hid (show pre.map Prod.fst++onceL last (s.drop (k+1))=normL xs from by
     rw[←HP.out,hdk]
     simp only[onceL]
     rw[if_pos he])
    clear he hxk hdk e0
    gi_wp2
    go_roundw
    case rel=>exact⟨k+1,last,pre,by omega,by go_num,rfl,HP',HSM,HK,HJS⟩
    case measure=>simp[intOf];omega
   ·have q0:(x==last)=false:=by simpa using he
    have HP':=Lib.hid (show(pre++ [(x,W2.heap.size)]).map Prod.fst++onceL x (s.drop (k+1))=normL xs from by
     rw[←HP.out,hdk]
     simp only[onceL]
     rw[if_neg he]
     simp)
    obtain⟨fn,tmps,assign,body,hy,hR⟩:=yield_any 8 (HY.out pre (x,W2.heap.size) wr HJS.out ⟨by simp only;omega,HK.out.size,HSM.out,by rw[←HP'.out];simp⟩)
    dsimp only[sv]at hy
    have HRR:=Lib.hid hR
    clear he hxk hdk e0 hR
    gi_wp2_with fail
    refine HRR.out.mono ?_
    rintro e W3 (⟨rfl,hJ3,hk3⟩|⟨rfl,hJx3,_⟩)
    ·have HJ3:=Lib.hid hJ3
     have HK3:=Lib.hid (HK.out.trans hk3)
     clear hJ3 hk3 hy d1
     gi_wp2_with fail
     go_roundw
     case rel=>exact⟨k+1,x,pre++ [(x,W2.heap.size)],by omega,by go_num,rfl,HP',Lib.hid (fun y hy=>by
      rcases List.mem_append.1 hy with h|h
      ·exact HSM.out y h
      ·rw[List.mem_singleton.1 h]),HK3,HJ3⟩
     case measure=>simp[intOf];omega
    ·gi_wp2
     refine bodyPost_ret (results_none rfl _ _ _) rfl ?_
     exact⟨⟨_,rfl⟩,.inr ⟨pre++ [(x,W2.heap.size)],⟨⟨_,HP'.out⟩,by simp⟩,hJx3⟩⟩
  ·obtain rfl:k=s.length:=by omega
   gi_wp2
   go_end0
   refine⟨⟨_,rfl⟩,.inl ⟨pre,?_,HJS.out⟩⟩
   have:=HP.out
   rw[List.drop_length]at this
   simpa [onceL] using this
end Go.Proofs.YtajbmjpodeilpaaGreatDoor
namespace Go.Proofs.YtajbmjpodeilpaaGreatDoor
open Go.RowKit Go.Shelf Go.Sort
attribute [local go_sem] Oper.semAt_some
theorem onceL_len (l:Int) (xs:List Int):(onceL l xs).length≤xs.length:=by
 induction xs generalizing l with
 | nil=>exact Nat.le_refl _
 | cons x r ih=>
  unfold onceL
  split
  ·exact Nat.le_succ_of_le (ih l)
  ·exact Nat.succ_le_succ (ih x)
theorem normL_len (xs:List Int):(normL xs).length≤xs.length:=by
 have:=onceL_len 0 (sortL xs)
 rw[sortL_length]at this
 exact this
theorem onceL_mem {l x:Int} {xs:List Int} (h:x∈onceL l xs):x∈xs:=by
 induction xs generalizing l with
 | nil=>exact h
 | cons y r ih=>
  unfold onceL at h
  split at h
  ·exact List.mem_cons_of_mem _ (ih h)
  ·rcases List.mem_cons.1 h with rfl|h
   ·exact List.mem_cons_self
   ·exact List.mem_cons_of_mem _ (ih h)
theorem normL_mem {x:Int} {xs:List Int} (h:x∈normL xs):x∈xs:=sortL_mem.1 (onceL_mem h)
def alwGo:Int→List Int→Bool
 | _,[]=>false
 | last,x::r=>(last != 0&&x==litN last)||alwGo x r
def alwL (xs:List Int):Bool:=clauseB xs&&alwGo 0 (normL xs)
theorem own_rebase {w:World} {b b' size n:Nat} {e:TypeId} {v:Value} {xs:List Value} (h:w.ownsRow b e size v n xs) (hb: ∀g,v.ownBlock=some g→b'≤g):w.ownsRow b' e size v n xs:=by
 refine⟨h.1,?_⟩
 rcases h.2 with hn|⟨g,cap,cur,hv,_,rest⟩
 ·exact .inl hn
 ·exact .inr ⟨g,cap,cur,hv,hb g (by rw[hv];rfl),rest⟩
theorem keepsRec_others {W W':World} (h:KeepsOthers W W'):KeepsRec W W':=fun k o hk h1 _=>h.2 k o hk h1
def GI (w:World) (B:Nat) (t:TypeId) (pre:List (Int×Nat)) (W:World):Prop:=
 (∃v,Boxed W B t v∧W.ownsRow w.heap.size 28 1 v pre.length ((pre.map Prod.fst).map (Value.int .i64))∧∀g,v.ownBlock=some g→pre≠ []∧∀y∈pre,y.2≤g)∧Below w.heap.size w W∧w.heap.size≤W.heap.size
theorem gi_own (w:World) (B:Nat) (t:TypeId) {N:Nat} (hN:w.heap.size≤N):OwnFrom N (GI w B t):=by
 refine OwnFrom.and (Own.from (holdsRow_own _ _ _ _ 1 (fun pre:List (Int×Nat)=>pre.length) (fun pre=>(pre.map Prod.fst).map (Value.int .i64)) (fun pre v=> ∀g,v.ownBlock=some g→pre≠ []∧∀y∈pre,y.2≤g)) _) (OwnFrom.and (ownFrom_below (Nat.le_refl _) hN) (fun _ X Y row h hg _=>Nat.le_trans h hg.size))
def GMid (X0:Nat→Prop) (I:List (Int×Nat)→World→Prop) (ys:List Int) (n:Nat) (pre:List (Int×Nat)) (x:Int×Nat) (W:World) (_:Nat) (W':World):Prop:=I pre W'∧SPre ys n pre x W'∧SPost X0 x W W'
theorem GMid.turn {X0:Nat→Prop} {I:List (Int×Nat)→World→Prop} {N:Nat} (hI:OwnFrom N I) {ys:List Int} {n:Nat} {pre:List (Int×Nat)} {x:Int×Nat} {W W':World} {B l:Nat} {r r':Loop} (hl:N≤l) (h2:W'.heap[l]? =some (.loop r)) (h:GMid X0 I ys n pre x W B W'):GMid X0 I ys n pre x W B (W'.putObj l (.loop r')):=
 ⟨hI.putObj _ h.1 hl h2 rfl,⟨h.2.1.lon,Nat.le_trans h.2.1.size (grownBy_putObj' W' l (.loop r')).size,h.2.1.same,h.2.1.run⟩,SPost.turn h.2.2 h2⟩
set_option maxRecDepth 100000 in
set_option maxHeartbeats 4000000 in
theorem normal_any {O:Nat→Prop} (u:Value) (xs:List Int) (w:World) (hu:IntsIn O w u xs) (hlen:xs.length≤1000000000000):
  Calls Tryz.prog 179 #[u] w fun e w'=> ∃v,e= .returned v∧w'.ownsRow w.heap.size 28 1 v (normL xs).length ((normL xs).map (Value.int .i64))∧Below w.heap.size w w':=by
 obtain⟨i0,hi,iz0,iz1,iz2⟩:=info_parts cinfo_lit
 obtain⟨W1,hW1⟩: ∃x,w.alloc (.cells #[.slice none 0 0] 30)=x:=⟨_,rfl⟩
 have hb1:Below w.heap.size w W1:=by rw[←hW1];exact mx_al _ _
 have hc1:Boxed W1 w.heap.size 30 (.slice none 0 0):=by rw[←hW1];exact Boxed.new _ _ _
 have hz1:W1.heap.size=w.heap.size+1:=by rw[←hW1];simp
 have HU:=Lib.hid (hu.below hb1)
 obtain⟨A,c,rfl,_⟩:=hu
 obtain⟨W2,hW2⟩: ∃x,W1.alloc (.cells #[.slice A xs.length c] 30)=x:=⟨_,rfl⟩
 have hb2:Below W1.heap.size W1 W2:=by rw[←hW2];exact mx_al _ _
 have hc2:W2.cell? ⟨W1.heap.size,0,none⟩=some (.slice A xs.length c):=by rw[←hW2];exact mx_cell (j:=0) (World.alloc_heap_new _ _)
 have hz2:W2.heap.size=w.heap.size+2:=by rw[←hW2];simp[hz1]
 have hc12:Boxed W2 w.heap.size 30 (.slice none 0 0):=by rw[←hW2];exact hc1.alloc _
 have HW1:=Lib.hid hW1
 have HW2:=Lib.hid hW2
 have hbw:Below w.heap.size w W2:=hb1.trans (hb2.mono (by omega))
 have HSEQ:=Lib.hid (sorted_stops (fun g=>g=w.heap.size) (w.heap.size+1) _ xs W2 (hz1▸hc2) (HU.out.below hb2) hlen (fun g hg=>by omega))
 have HI0:=Lib.hid (show GI w w.heap.size 30 [] W2 from⟨⟨_,hc12,World.ownsRow_nil _ _ _ _,fun g hg=>by cases hg⟩,hbw,by omega⟩)
 have HNL:=Lib.hid (normL_len xs)
 obtain⟨ys,hys⟩: ∃y,normL xs=y:=⟨_,rfl⟩
 rw[hys]at HSEQ HNL⊢
 clear hb1 hc1 hW1 hW2 hb2 hc2 hc12 hbw hys
 refine(callsIn_wide (n:=10)).1 ?_
 refine callsIn_of_wp_marks Tryz.func179 rfl trivial ?_ rfl
 simp only[Tryz.ntmps179,List.size_toArray,List.length_cons,List.length_nil,Nat.reduceAdd,Nat.reduceSub,Array.replicate_succ,Array.replicate_zero,List.push_toArray,List.append_toArray,List.nil_append,List.cons_append]
 gi_wp2_with fail
 rw[HW1.out]
 refine⟨trivial,?_⟩
 refine(callsIn_wide.2 (sorted_run A xs.length c W1)).mono ?_
 rintro e W' ⟨rfl,rfl⟩
 rw[HW2.out]
 gi_wp2_with fail
 refine wpIn_range_M (gf:=239) (lb:= #[.pointer (some ⟨w.heap.size+1,0,none⟩)]) rfl (enters_of Tryz.func239 (by kernel_rfl) rfl) HSEQ.out (Below.refl _ _) (fun _=>rfl)
  (fun pre x W W3 l r r' h1 h2 h3 h4=>SPost.turn h4 h3) (fun pre x W W3 l r r' h1 h2 h3 h4=>trivial)
  (GI w w.heap.size 30) (fun _ _=>False) (gi_own _ _ _ (by omega)) (fun pre W W' row h _ _=>h) HI0.out
  ?frame (GMid (fun g=>g=w.heap.size) (GI w w.heap.size 30) ys (W2.heap.size+2))
  (fun pre x W Bx W' l r r' h1 h2 h3 h4=>h4.turn (gi_own _ _ _ (by omega)) h1 h3)
  ?assign ?body ?done ?stop
 case assign=>
  rintro l pre x W K hi hp hK
  dsimp only[sv]
  gi_wp2
  obtain⟨Bx,hBx⟩: ∃b:Nat,b=0:=⟨0,rfl⟩
  exact hK Bx W (KeepsRec.refl W) ⟨hi,hp,KpC.refl _ _⟩
 case body=>
  rintro l pre x W Bx W' ⟨⟨⟨v,hv,hr,hf⟩,hb,hz⟩,hp,hk⟩
  have q1:=hv.cell
  have q2:=hv.frozen
  have hr':=own_rebase (b':=x.2) hr (fun g hg=>by
   have h:=hf g hg
   obtain⟨y,hy⟩:=List.exists_mem_of_ne_nil _ h.1
   rw[←hp.same y hy]
   exact h.2 y hy)
  obtain⟨A,c,rfl,hc⟩:=mx_slice hr
  have hln:pre.length≤xs.length:=by
   have h1:=hp.run.length_le
   have h2:=HNL.out
   simp at h1
   omega
  obtain⟨x1,hx1⟩: ∃z,x.1=z:=⟨_,rfl⟩
  rw[hx1]
  have HX1:=Lib.hid hx1
  have HV:=Lib.hid hv
  have HR:=Lib.hid hr
  have HR':=Lib.hid hr'
  have HB:=Lib.hid hb
  have HF:=Lib.hid hf
  have HP:=Lib.hid hp
  have HK:=Lib.hid hk
  clear hv hr hb hr' hf hp hk hx1
  gi_wp2_with (gi_at_builtin;refine wpListIn_append_own _ rfl _ _ 30 rfl x.2 28 i0 (.int .i64 0) 1 8 Tryz.underlying30 hi iz0 iz1 iz2 rfl (by decide) _ _ _ rfl (HR'.out.alloc _) ⟨W'.heap.size,0,none⟩ 1 1 [.int .i64 x1] rfl rfl ?c1 ?c2 ?c3 ?c4 ?c5 ?_)
  case c1=>
   intro j u hj
   match j,hj with
   | 0,hj=>simp at hj;subst hj;simp[Addr.add]
  case c2=>intro u hu;simp at hu;subst hu;rfl
  case c3=>unfold maxLen;omega
  case c4=>omega
  case c5=>have:=HP.out.size;simp;omega
  ·intro v' w1 hown' hgrow _
   have hlo:=HP.out.lon
   have hnew:=own_rebase (b':=w.heap.size) hown' (fun g hg=>by have:=(own_lt hown' g hg).1;omega)
   have hA:=Boxed.appended HV.out (by decide) HR.out hz (Nat.le_refl _) hnew hgrow
   obtain⟨g1,cap,rfl⟩:=ownsRow_succ hown'
   have hg1:=(own_lt hown' g1 rfl).1
   obtain⟨a1,a2,a3,a4,a5⟩:=hA
   have q3:=a1.cell
   have q4:=a1.frozen
   have A2:=Lib.hid a2
   have A3:=Lib.hid a3
   have A4:=Lib.hid a4
   have A5:=Lib.hid a5
   have A6:=Lib.hid (show SPost (fun g=>g=w.heap.size) x W' (w1.setCell ⟨w.heap.size,0,none⟩ (.slice (some ⟨g1,0,none⟩) (pre.length+1) cap))from
    ((KpC.of_below (mx_al W' _)).trans ((KpC.of_grown hgrow).mono (fun g _ h=>.inl (by
     have hq:=HF.out g h.symm
     obtain⟨y,hy⟩:=List.exists_mem_of_ne_nil _ hq.1
     rw[←HP.out.same y hy]
     exact hq.2 y hy)))).trans ((KpC.of_grown (grownBy_setCell' w1 w.heap.size _)).mono (fun g _ h=>.inr (by cases h;rfl))))
   clear a1 a2 a3 a4 a5 hown' hgrow hnew
   gi_wp2
   refine⟨keepsRec_others A4.out,⟨⟨_,by simpa using A2.out,?_,fun g hg=>⟨by simp,fun y hy=>?_⟩⟩,HB.out.trans A5.out,Nat.le_trans hz A5.out.size⟩,HK.out.trans A6.out⟩
   ·have h:=A3.out
    rw[←HX1.out]at h
    simpa using h
   ·have:g1=g:=by simpa [Value.ownBlock] using hg
    rcases List.mem_append.1 hy with h|h
    ·rw[HP.out.same y h]
     omega
    ·rw[List.mem_singleton.1 h]
     omega
 case done=>
  rintro D zs W hD hS ⟨⟨v,hv,hr,-⟩,hb,hz⟩ hDf
  have q1:=hv.cell
  have hl:zs.length=ys.length:=by rw[←hS,List.length_map]
  rw[hS,hl]at hr
  have HR:=Lib.hid hr
  have HB:=Lib.hid hb
  have HD:=Lib.hid hDf
  obtain⟨A,c,rfl,hc⟩:=mx_slice hr
  clear hv hr hb hDf hS
  gi_wp2
  refine⟨by simp,.inl ⟨_,_,rfl,run_takeDeferred HD.out,?_⟩⟩
  have hD0:w.heap.size≤D:=by omega
  refine⟨_,results_tmp rfl _ _ _,_,rfl,ownsRow_putObj HR.out _ HD.out rfl,HB.out.trans ?_⟩
  exact(Below.refl _ _).grown (grownBy_putObj' W D _) hz (fun g e=>by cases e;exact hD0)
 case stop=>
  rintro D pre W hD _ hf _
  exact hf.elim
end Go.Proofs.YtajbmjpodeilpaaGreatDoor
namespace Go.Proofs.YtajbmjpodeilpaaGreatDoor
open Go.RowKit Go.Sort
theorem sortL_pair (xs:List Int):(sortL xs).Pairwise (fun a b=>(!(Go.Proofs.ltOf litC) b a)=true):=by
 unfold sortL
 refine List.pairwise_mergeSort (fun a b c h1 h2=>?_) (fun a b=>?_) xs
 ·simp only[Bool.not_eq_true']at *
  exact ltC_swo.ntrans c b a h2 h1
 ·cases hab:Go.Proofs.ltOf litC b a
  ·simp
  ·cases hba:Go.Proofs.ltOf litC a b
   ·simp
   ·have:=ltC_swo.trans _ _ _ hab hba
    rw[ltC_swo.irrefl]at this
    cases this
theorem onceL_pair {l:Int} {xs:List Int} (hr: ∀x∈xs,litB x=true) (hp:xs.Pairwise (fun a b=>litI a≤litI b)) (hl:l=0∨(litB l=true∧∀x∈xs,litI l≤litI x)):(onceL l xs).Pairwise (fun a b=>litI a<litI b)∧(litB l=true→∀x∈onceL l xs,litI l<litI x):=by
 induction xs generalizing l with
 | nil=>exact⟨List.Pairwise.nil,fun _ x hx=>by cases hx⟩
 | cons z r ih=>
  obtain⟨hz,hpr⟩:=List.pairwise_cons.1 hp
  have hrz:=hr z List.mem_cons_self
  have hrr: ∀x∈r,litB x=true:=fun x hx=>hr x (List.mem_cons_of_mem _ hx)
  unfold onceL
  split
  ·exact ih hrr hpr (hl.imp_right (fun h=>⟨h.1,fun x hx=>h.2 x (List.mem_cons_of_mem _ hx)⟩))
  ·rename_i hne
   obtain⟨i1,i2⟩:=ih (l:=z) hrr hpr (.inr ⟨hrz,hz⟩)
   refine⟨List.pairwise_cons.2 ⟨fun x hx=>i2 hrz x hx,i1⟩,fun hlb x hx=>?_⟩
   have hlz:litI l<litI z:=by
    rcases hl with rfl|⟨h1,h2⟩
    ·cases hlb
    ·have h3:=h2 z List.mem_cons_self
     have h4:litI l≠litI z:=fun e=>hne (litI_inj h1 hrz e).symm
     omega
   rcases List.mem_cons.1 hx with rfl|hx
   ·exact hlz
   ·have:=i2 hrz x hx
    omega
theorem normL_pair {xs:List Int} (hr: ∀x∈xs,litB x=true):(normL xs).Pairwise (fun a b=>litI a<litI b):=by
 have hrs: ∀x∈sortL xs,litB x=true:=fun x hx=>hr x (sortL_mem.1 hx)
 refine(onceL_pair hrs ?_ (.inl rfl)).1
 refine List.Pairwise.imp_of_mem (fun {a b} ha hb h=>?_) (sortL_pair xs)
 have h2: ¬Go.Proofs.ltOf litC b a=true:=by simpa using h
 rw[ltC_iff]at h2
 simp only[hrs a ha,hrs b hb,true_and,not_or]at h2
 have:=h2.2.1
 omega
theorem onceL_has {x:Int} {xs:List Int}: ∀{l:Int},x∈xs→x=l∨x∈onceL l xs:=by
 induction xs with
 | nil=>intro l h;cases h
 | cons z r ih=>
  intro l h
  unfold onceL
  by_cases hz:z=l
  ·rw[if_pos hz]
   rcases List.mem_cons.1 h with rfl|h
   ·exact .inl hz
   ·exact ih h
  ·rw[if_neg hz]
   rcases List.mem_cons.1 h with rfl|h
   ·exact .inr List.mem_cons_self
   ·rcases ih (l:=z) h with rfl|h
    ·exact .inr List.mem_cons_self
    ·exact .inr (List.mem_cons_of_mem _ h)
theorem normL_has {x:Int} {xs:List Int} (hr: ∀x∈xs,litB x=true):x∈normL xs↔x∈xs:=by
 refine⟨normL_mem,fun h=>?_⟩
 rcases onceL_has (l:=0) (sortL_mem.2 h)with e|e
 ·have:=(litB_iff x).1 (hr x h)
  omega
 ·exact e
end Go.Proofs.YtajbmjpodeilpaaGreatDoor
