/- What memory holds, and what is kept of it. Rows of integers that came in, and rows of such rows. Rows without a card: what they share; rows that come in; what is shown behind the call. A region that draws its order and ends in one operation that waits for all others: that one may be met behind them. append of a row, whatever its length, nil too. -/
import Derived.Test.YtoojmhjagipmdaaGreatRows
import Derived.WalkKit
import Derived.WalkSpells
import Derived.WalkLawsBesides
import Derived.Lib.Hide
import Derived.Handy
import Derived.OwnWalk
import Derived.Laws.AppendOwn
import Derived.Maps.AppendAt
import Derived.Maps.Own
import Derived.Maps.OwnOps
import Derived.Maps.Views
import Derived.Deep.QuietTactic
import Derived.BigQuiet
import Derived.IntWalk
import Derived.RangeFuncRecord
import Derived.ProofKit
import Derived.OpenShut
import Derived.ShutString
import Derived.ChangeOld
import Derived.LaidMore
import Derived.Lay
import Derived.Deep.Matrix
import Derived.Lib.SmallJoins
import Derived.Deep.RegionHeld3
import Derived.Laws.AppendOwnNone
namespace Go.Proofs.YtoojmhjagipmdaaGreat
open Go.RowKit
theorem heap_lt {A:World} {k:Nat} {o:Obj} (h:A.heap[k]? =some o):k<A.heap.size:=(Array.getElem?_eq_some_iff.1 h).1
theorem ret_bool {a b:Bool} (h:a=b):Ending.returned (.bool a)= .returned (.bool b):=by rw[h]
theorem ret_int {k:IntKind} {a b:Int} (h:a=b):Ending.returned (.int k a)= .returned (.int k b):=by rw[h]
structure Kept (O:Nat→Prop) (w w':World):Prop where
 os:w'.os=w.os
 tape:w'.tape=w.tape
 output:w'.output=w.output
 size:w.heap.size≤w'.heap.size
 block: ∀k,k<w.heap.size→¬O k→w'.heap[k]? =w.heap[k]?
theorem Kept.refl (O:Nat→Prop) (w:World):Kept O w w:=⟨rfl,rfl,rfl,Nat.le_refl _,fun _ _ _=>rfl⟩
theorem Kept.of_below {O:Nat→Prop} {w w':World} (h:Below w.heap.size w w'):Kept O w w':=⟨h.os,h.tape,h.output,h.size,fun k hk _=>h.block k hk⟩
theorem Kept.trans {O O':Nat→Prop} {a b c:World} (h:Kept O a b) (k:Kept O' b c) (hO: ∀i,i<a.heap.size→O' i→O i):Kept O a c:=
 ⟨k.os.trans h.os,k.tape.trans h.tape,k.output.trans h.output,Nat.le_trans h.size k.size,fun i hi hn=>(k.block i (Nat.lt_of_lt_of_le hi h.size) (fun ho=>hn (hO i hi ho))).trans (h.block i hi hn)⟩
theorem Kept.mono {O O':Nat→Prop} {w w':World} (h:Kept O w w') (hO: ∀i,i<w.heap.size→O i→O' i):Kept O' w w':=
 ⟨h.os,h.tape,h.output,h.size,fun k hk hn=>h.block k hk (fun ho=>hn (hO k hk ho))⟩
theorem Kept.below {O:Nat→Prop} {w w':World} {B:Nat} (h:Kept O w w') (hO: ∀i,O i→B≤i) (hB:B≤w.heap.size):Below B w w':=
 ⟨h.os,h.tape,h.output,h.size,fun k hk=>h.block k (by omega) (fun ho=>by have:=hO k ho;omega)⟩
theorem Kept.none {w w':World} (h:Kept (fun _=>False) w w'):Below w.heap.size w w':=⟨h.os,h.tape,h.output,h.size,fun k hk=>h.block k hk (fun ho=>ho)⟩
theorem Kept.grown {w w':World} {row:Option Nat} (h:w.grownBy w' row):Kept (fun k=>some k=row) w w':=⟨h.os,h.tape,h.output,h.size,fun k hk hn=>h.block k hk hn⟩
theorem Kept.cell {O:Nat→Prop} {w w':World} (h:Kept O w w') {p:Addr} (hp:p.block<w.heap.size) (hO: ¬O p.block):w'.cell? p=w.cell? p:=
 World.cell?_of_block (h.block _ hp hO)
theorem Kept.frozen {O:Nat→Prop} {w w':World} (h:Kept O w w') {p:Addr} (hp:p.block<w.heap.size) (hO: ¬O p.block):w'.frozen? p=w.frozen? p:=
 World.frozen?_of_block (h.block _ hp hO)
theorem Kept.alloc {O:Nat→Prop} {w w':World} (h:Kept O w w') (o:Obj):Kept O w (w'.alloc o):=
 h.trans (O':=fun _=>False) (Kept.of_below ((Below.refl _ _).alloc (Nat.le_refl _) o)) (fun _ _ h=>h.elim)
theorem Kept.setCell {O:Nat→Prop} {w w':World} (h:Kept O w w') (p:Addr) (v:Value) (hp:O p.block):Kept O w (w'.setCell p v):=by
 refine⟨?_,?_,?_,?_,?_⟩
 ·rw[←h.os];rfl
 ·rw[←h.tape];rfl
 ·rw[←h.output];rfl
 ·have:(w'.setCell p v).heap.size=w'.heap.size:=by simp[World.setCell]
  have:=h.size
  omega
 ·intro k hk hn
  rw[Below.heap_setCell _ _ _ k (fun e=>hn (by rw[e];exact hp)),h.block k hk hn]
theorem Kept.drew {O:Nat→Prop} {w w':World} (h:Kept O w w') (n:Nat):Kept O w (w'.drewN n):=⟨h.os,h.tape,h.output,h.size,h.block⟩
theorem below_kept {B:Nat} {O:Nat→Prop} {w w1 w2:World} (h:Below B w w1) (k:Kept O w1 w2) (hO: ∀i,O i→B≤i) (hB:B≤w1.heap.size):Below B w w2:=h.trans (k.below hO hB)
def IntsIn (O:Nat→Prop) (w:World) (v:Value) (xs:List Int):Prop:=
 ∃A c,v= .slice A xs.length c∧xs.length≤c∧(A=none→c=0)∧∀i x,xs[i]? =some x→∃g o,A=some ⟨g,o,none⟩∧g<w.heap.size∧O g∧w.cell? ⟨g,o+i,none⟩=some (.int .i64 x)
theorem IntsIn.mono {O O':Nat→Prop} {w:World} {v:Value} {xs:List Int} (h:IntsIn O w v xs) (hO: ∀g,O g→O' g):IntsIn O' w v xs:=by
 obtain⟨A,c,hv,hc,hn,hx⟩:=h
 refine⟨A,c,hv,hc,hn,fun i x hi=>?_⟩
 obtain⟨g,o,h1,h2,h3,h4⟩:=hx i x hi
 exact⟨g,o,h1,h2,hO g h3,h4⟩
theorem IntsIn.kept {O O':Nat→Prop} {w w':World} {v:Value} {xs:List Int} (h:IntsIn O w v xs) (k:Kept O' w w') (hO: ∀g,O g→¬O' g):IntsIn O w' v xs:=by
 obtain⟨A,c,hv,hc,hn,hx⟩:=h
 refine⟨A,c,hv,hc,hn,fun i x hi=>?_⟩
 obtain⟨g,o,h1,h2,h3,h4⟩:=hx i x hi
 exact⟨g,o,h1,Nat.lt_of_lt_of_le h2 k.size,h3,(k.cell (p:=⟨g,o+i,none⟩) h2 (hO g h3)).trans h4⟩
theorem IntsIn.below {O:Nat→Prop} {w w':World} {v:Value} {xs:List Int} (h:IntsIn O w v xs) (k:Below w.heap.size w w'):IntsIn O w' v xs:=
 h.kept (O':=fun _=>False) (Kept.of_below k) (fun _ _ h=>h)
theorem IntsIn.nil (O:Nat→Prop) (w:World):IntsIn O w (.slice none 0 0) []:=⟨none,0,rfl,Nat.zero_le _,fun _=>rfl,fun i x h=>by simp at h⟩
theorem addr_add (g j:Nat):(⟨g,0,none⟩:Addr).add j=⟨g,j,none⟩:=by unfold Addr.add;split <;> simp_all
theorem addr_add2 (g o j:Nat):(⟨g,o,none⟩:Addr).add j=⟨g,o+j,none⟩:=by unfold Addr.add;split <;> simp_all
theorem IntsIn.of_own {w:World} {base:Nat} {e:TypeId} {v:Value} {xs:List Int} (h:w.ownsRow base e 1 v xs.length (xs.map (Value.int .i64))):IntsIn (fun g=>base≤g∧v.ownBlock=some g) w v xs:=by
 rcases h.2 with⟨rfl,h0⟩|⟨g,cap,cur,rfl,hb,hg,hle,_⟩
 ·obtain rfl:xs= []:=List.eq_nil_of_length_eq_zero h0
  exact IntsIn.nil _ _
 ·refine⟨_,cap,rfl,hle,(fun h=>by cases h),fun i x hi=>⟨g,0,rfl,heap_lt hg,⟨hb,rfl⟩,?_⟩⟩
  have:=h.cells (g:=g) rfl i (.int .i64 x) (by rw[List.getElem?_map,hi];rfl)
  rwa [addr_add,←Nat.zero_add i]at this
theorem own_lt {w:World} {base size n:Nat} {e:TypeId} {v:Value} {xs:List Value} (h:w.ownsRow base e size v n xs): ∀g,v.ownBlock=some g→base≤g∧g<w.heap.size:=by
 intro g hg
 rcases h.2 with⟨rfl,_⟩|⟨g',cap,cur,rfl,hb,hh,_⟩
 ·cases hg
 ·have:g'=g:=by simpa [Value.ownBlock] using hg
  subst this
  exact⟨hb,heap_lt hh⟩
theorem own_mono {w:World} {base base' size n:Nat} {e:TypeId} {v:Value} {xs:List Value} (h:w.ownsRow base e size v n xs) (hb:base'≤base):w.ownsRow base' e size v n xs:=by
 refine⟨h.1,?_⟩
 rcases h.2 with hn|⟨g,cap,cur,h1,h2,rest⟩
 ·exact .inl hn
 ·exact .inr ⟨g,cap,cur,h1,Nat.le_trans hb h2,rest⟩
theorem own_kept {O:Nat→Prop} {w w':World} {base size n:Nat} {e:TypeId} {v:Value} {xs:List Value} (h:w.ownsRow base e size v n xs) (k:Kept O w w') (hO: ∀g,v.ownBlock=some g→¬O g):w'.ownsRow base e size v n xs:=by
 refine⟨h.1,?_⟩
 rcases h.2 with hn|⟨g,cap,cur,rfl,h1,hg,rest⟩
 ·exact .inl hn
 ·exact .inr ⟨g,cap,cur,rfl,h1,(k.block g (heap_lt hg) (hO g rfl)).trans hg,rest⟩
theorem own_below {w w':World} {base size n:Nat} {e:TypeId} {v:Value} {xs:List Value} (h:w.ownsRow base e size v n xs) (k:Below w.heap.size w w'):w'.ownsRow base e size v n xs:=
 own_kept (O:=fun _=>False) h (Kept.of_below k) (fun _ _ h=>h)
theorem own_type {w:World} {base n size:Nat} {e:TypeId} {v:Value} {xs:List Value} (h:w.ownsRow base e size v n xs): ∀g,v.ownBlock=some g→∃c,w.heap[g]? =some (.cells c e (0,0)):=by
 intro g hg
 rcases h.2 with⟨rfl,_⟩|⟨g',cap,cur,rfl,_,hh,_⟩
 ·simp[Value.ownBlock]at hg
 ·simp only[Value.ownBlock,Option.some.injEq]at hg
  subst hg
  exact⟨_,hh⟩
theorem cell_new (W:World) (cs:Array Value) (t:TypeId) (j:Nat):(W.alloc (.cells cs t)).cell? ⟨W.heap.size,j,none⟩=cs[j]? :=by
 rw[World.cell?,World.alloc_heap_new]
 simp
theorem cell_one_new' (W:World) (v:Value) (t:TypeId): ∀j u,[v][j]? =some u→(W.alloc (.cells #[v] t)).cell? ((⟨W.heap.size,0,none⟩:Addr).add j)=some u:=by
 intro j u h
 rw[addr_add,cell_new]
 simpa using h
theorem cells_list_new (W:World) (xs:List Value) (t:TypeId): ∀j u,xs[j]? =some u→(W.alloc (.cells xs.toArray t)).cell? ((⟨W.heap.size,0,none⟩:Addr).add j)=some u:=by
 intro j u h
 rw[addr_add,cell_new]
 simpa using h
end Go.Proofs.YtoojmhjagipmdaaGreat
namespace Go.Proofs.YtoojmhjagipmdaaGreat
open Go.RowKit
def RowAt (k:IntKind) (w:World) (v:Value) (xs:List Int):Prop:=
 ∃A c,v= .slice A xs.length c∧xs.length≤c∧c≤maxLen∧(A=none→c=0)∧(∀n∈xs,(Lit.int k n).wf=true)∧∀i x,xs[i]? =some x→∃g o,A=some ⟨g,o,none⟩∧g<w.heap.size∧w.cell? ⟨g,o+i,none⟩=some (.int k x)
theorem RowAt.below {k:IntKind} {w w':World} {v:Value} {xs:List Int} (h:RowAt k w v xs) (hb:Below w.heap.size w w'):RowAt k w' v xs:=by
 obtain⟨A,c,hv,hc,hm,hn,hw,hx⟩:=h
 refine⟨A,c,hv,hc,hm,hn,hw,fun i x hi=>?_⟩
 obtain⟨g,o,h1,h2,h3⟩:=hx i x hi
 exact⟨g,o,h1,Nat.lt_of_lt_of_le h2 hb.size,(hb.cell (p:=⟨g,o+i,none⟩) h2).trans h3⟩
def RowsAt (k:IntKind) (w:World) (v:Value) (xss:List (List Int)):Prop:=
 ∃A c,v= .slice A xss.length c∧xss.length≤c∧c≤maxLen∧(A=none→c=0)∧∀i xs,xss[i]? =some xs→∃g o u,A=some ⟨g,o,none⟩∧g<w.heap.size∧w.cell? ⟨g,o+i,none⟩=some u∧RowAt k w u xs
theorem RowsAt.below {k:IntKind} {w w':World} {v:Value} {xss:List (List Int)} (h:RowsAt k w v xss) (hb:Below w.heap.size w w'):RowsAt k w' v xss:=by
 obtain⟨A,c,hv,hc,hm,hn,hx⟩:=h
 refine⟨A,c,hv,hc,hm,hn,fun i x hi=>?_⟩
 obtain⟨g,o,u,h1,h2,h3,h4⟩:=hx i x hi
 exact⟨g,o,u,h1,Nat.lt_of_lt_of_le h2 hb.size,(hb.cell (p:=⟨g,o+i,none⟩) h2).trans h3,h4.below hb⟩
end Go.Proofs.YtoojmhjagipmdaaGreat
namespace Go.Proofs.YtoojmhjagipmdaaGreat
open Go.ChangeShapes Go.WideShapes Go.ChangeAt Go.RowKit
theorem own:ownKnob Tryz.prog.godebug=none:=by kernel_rfl
theorem laidOut:laidOutB Tryz.prog=true:=by kernel_rfl
theorem trodAll_below {P:Program} {H:Type} {enc:TypeId×Value→H} (hl:laidOutB P=true) {W W':World} (hb:Below W.heap.size W W'):
  ∀{ts:List TypeId} {vs:List Value} {ds:List (DataW H)} {ps:List MemPlace},(ts.all fun t=>P.readableRec t&&decide (t<P.types.size))=true→
   DataW.TrodAll enc P W 0 (fun _=>true) true ts vs ds ps→(∀x∈ps,x.block<W.heap.size)→DataW.TrodAll enc P W' 0 (fun b=>decide (b<W.heap.size)) true ts vs ds ps
 | [],[],[],_,_,h,_=>h
 | t::ts,_::_,_::_,_,hr,⟨p,q,h1,h2,e⟩,hx=>by
  simp only[List.all_cons,Bool.and_eq_true,decide_eq_true_eq]at hr
  exact⟨p,q,Below.trod hl hr.1.1 hr.1.2 h1 hb (fun x hx1=>hx x (by rw[e];exact List.mem_append_left _ hx1)),trodAll_below hl hb hr.2 h2 (fun x hx1=>hx x (by rw[e];exact List.mem_append_right _ hx1)),e⟩
theorem open_row {P:Program} {H:Type} {enc:TypeId×Value→H} {W:World} {base:Nat} {t e:TypeId} {k:IntKind} {v:Value} {d:DataW H} {p:List MemPlace} (ht:P.underlying t=some (.slice e)) (he:P.underlying e=some (.int k)) (hc:P.cellsOf e=1)
  (hval:Value.okWide P W .any base t v) (h:DataW.Trod enc P W 0 (fun _=>true) true t v d p): ∃xs,RowAt k W v xs:=by
 obtain⟨a1,len,cap,rfl⟩:=okWide_slice ht hval
 obtain⟨fuel,hf⟩:=h
 rcases open_ints ht he hc hf with⟨hcs,_⟩|⟨a,len',cap',zs,hcs,_,hl,hm,hz,_,hcell,hwz⟩
 ·simp only[Value.cells,List.cons.injEq,Value.slice.injEq,and_true]at hcs
  obtain⟨rfl,rfl,rfl⟩:=hcs
  exact⟨[],none,0,rfl,Nat.le_refl _,Nat.zero_le _,fun _=>rfl,by simp,by simp⟩
 ·simp only[Value.cells,List.cons.injEq,Value.slice.injEq,and_true]at hcs
  obtain⟨rfl,rfl,rfl⟩:=hcs
  simp only[if_true]at hz
  have htl:(zs.take len).length=len:=by rw[List.length_take];omega
  refine⟨zs.take len,some a,cap,by rw[htl],by rw[htl];exact hl,hm,(fun h=>by cases h),fun n hn=>hwz n (List.mem_of_mem_take hn),fun i x hi=>?_⟩
  have hil:i<len:=by
   have:=(List.getElem?_eq_some_iff.1 hi).1
   omega
  rw[List.getElem?_take_of_lt hil]at hi
  obtain⟨b,off,rfl,hc2⟩:=ints_at hcell (by omega)
  have hx:=hc2 i (by omega)
  rw[List.getD_eq_getElem?_getD,hi]at hx
  exact⟨b,off,rfl,World.block_lt_of_cell? W _ hx,hx⟩
theorem add_form {W:World} {a:Addr} {v:Value} (h:W.cell? (a.add 0)=some v): ∃g o,a=⟨g,o,none⟩:=by
 obtain⟨g,o,s⟩:=a
 have hs:s=none:=by simpa [Addr.add] using World.cell?_spot h
 subst hs
 exact⟨g,o,rfl⟩
theorem open_rows {P:Program} {H:Type} {enc:TypeId×Value→H} {W:World} {base:Nat} {t e q:TypeId} {k:IntKind} {v:Value} {d:DataW H} {p:List MemPlace} (ht:P.underlying t=some (.slice e)) (he:P.underlying e=some (.slice q)) (hq:P.underlying q=some (.int k)) (ce:P.cellsOf e=1) (cq:P.cellsOf q=1)
  (hval:Value.okWide P W .any base t v) (h:DataW.Trod enc P W 0 (fun _=>true) true t v d p): ∃xss,RowsAt k W v xss:=by
 obtain⟨a1,len,cap,rfl⟩:=okWide_slice ht hval
 obtain⟨fuel,hf⟩:=h
 rcases Go.Deep.open_int_rows ht he hq ce cq hf with⟨hcs,_⟩|⟨a,len',cap',A,L,C,Z,hcs,_,hl,hm,_,hrow⟩
 ·simp only[Value.cells,List.cons.injEq,Value.slice.injEq,and_true]at hcs
  obtain⟨rfl,rfl,rfl⟩:=hcs
  exact⟨[],none,0,rfl,Nat.le_refl _,Nat.zero_le _,fun _=>rfl,by simp⟩
 ·simp only[Value.cells,List.cons.injEq,Value.slice.injEq,and_true]at hcs
  obtain⟨rfl,rfl,rfl⟩:=hcs
  refine⟨(List.range len).map fun r=>(Z r).take (L r),some a,cap,by simp,by simpa using hl,hm,(fun h=>by cases h),fun i xs hi=>?_⟩
  have hil:i<len:=by
   have:=(List.getElem?_eq_some_iff.1 hi).1
   simpa using this
  rw[List.getElem?_map,List.getElem?_range hil]at hi
  obtain rfl:=Option.some.inj hi
  obtain⟨h1,h2,h3,h4,h5,h6,h7⟩:=hrow i (by omega)
  obtain⟨g,o,rfl⟩:=add_form (hrow 0 (by omega)).1
  have hc:W.cell? ⟨g,o+i,none⟩=some (.slice (A i) (L i) (C i)):=by rw[←addr_add2];exact h1
  have htl:((Z i).take (L i)).length=L i:=by rw[List.length_take];omega
  refine⟨g,o,_,rfl,World.block_lt_of_cell? W _ hc,hc,A i,C i,by rw[htl],by rw[htl];exact h2,h3,h6,fun n hn=>h5 n (List.mem_of_mem_take hn),fun j x hj=>?_⟩
  change ((Z i).take (L i))[j]? =some x at hj
  have hjl:j<L i:=by
   have:=(List.getElem?_eq_some_iff.1 hj).1
   omega
  rw[List.getElem?_take_of_lt hjl]at hj
  cases hA:A i with
  | none=>have:=h6 hA;omega
  | some a'=>
   have hx:=(h7 a' hA).2 j (by omega)
   rw[List.getD_eq_getElem?_getD,hj]at hx
   obtain⟨g',o',rfl⟩:=add_form ((h7 a' hA).2 0 (by omega))
   have hc':W.cell? ⟨g',o'+j,none⟩=some (.int k x):=by rw[←addr_add2];exact hx
   exact⟨g',o',rfl,World.block_lt_of_cell? W _ hc',hc'⟩
end Go.Proofs.YtoojmhjagipmdaaGreat
namespace Go.Proofs.YtoojmhjagipmdaaGreat
open Go.RowKit
section
variable {P:Program}
def sinkOk (md:Region.Mode) (ops0:Array Oper) (o:Oper):Bool:=
 ((List.range ops0.size).all fun i=>match ops0[i]? with
  | some x=>(x.after.all fun e=> !Region.binds md e||decide (e.on<i))&&(match x.guard with|some (g,_)=>decide (g<ops0.size)|none=>true)
  | none=>true) &&
 ((List.range ops0.size).all fun i=>o.after.any fun e=>Region.binds md e&&(decide (e.on=i)||match ops0[e.on]? with
  | some x=>x.after.any fun e'=>Region.binds md e'&&(decide (e'.on=i)||match ops0[e'.on]? with
   | some y=>y.after.any fun e''=>Region.binds md e''&&decide (e''.on=i)
   | none=>false)
  | none=>false)) &&
 (o.after.all fun e=> !Region.binds md e||decide (e.on<ops0.size))
def lastPost (P:Program) (ops0:Array Oper) (o:Oper) (Q:Exit→Act→World→Prop):Exit→Act→World→Prop
 | .normal,a,w=>wpOp P (ops0.push o) Q ops0.size (Q .normal) a w
 | e,a,w=>Q e a w
structure Sink (md:Region.Mode) (ops0:Array Oper) (o:Oper):Prop where
 before: ∀(i:Nat) (x:Oper),ops0[i]? =some x→∀e∈x.after,Region.binds md e=true→e.on<i
 guard: ∀(i:Nat) (x:Oper),ops0[i]? =some x→∀g b,x.guard=some (g,b)→g<ops0.size
 waits: ∀i,i<ops0.size→∃e∈o.after,Region.binds md e=true∧(e.on=i∨∃x,ops0[e.on]? =some x∧∃e'∈x.after,Region.binds md e'=true∧(e'.on=i∨∃y,ops0[e'.on]? =some y∧∃e''∈y.after,Region.binds md e''=true∧e''.on=i))
 low: ∀e∈o.after,Region.binds md e=true→e.on<ops0.size
theorem sink_of {md:Region.Mode} {ops0:Array Oper} {o:Oper} (h:sinkOk md ops0 o=true):Sink md ops0 o:=by
 simp only[sinkOk,Bool.and_eq_true,List.all_eq_true,List.mem_range]at h
 obtain⟨⟨h1,h2⟩,h3⟩:=h
 refine⟨fun i x hx e he hb=>?_,fun i x hx g b hg=>?_,fun i hi=>?_,fun e he hb=>?_⟩
 ·have:=h1 i (Array.getElem?_eq_some_iff.1 hx).1
  rw[hx]at this
  simp only[Bool.and_eq_true]at this
  have h4:=Array.all_eq_true'.1 this.1 e he
  rw[hb]at h4
  simpa using h4
 ·have:=h1 i (Array.getElem?_eq_some_iff.1 hx).1
  rw[hx]at this
  simp only[Bool.and_eq_true,hg]at this
  simpa using this.2
 ·have:=h2 i hi
  obtain⟨e,he,h4⟩:=Array.any_eq_true'.1 this
  simp only[Bool.and_eq_true,Bool.or_eq_true,decide_eq_true_eq]at h4
  refine⟨e,he,h4.1,?_⟩
  rcases h4.2 with h5|h5
  ·exact .inl h5
  ·cases hx:ops0[e.on]? with
   | none=>rw[hx]at h5;cases h5
   | some x=>
    rw[hx]at h5
    obtain⟨e',he',h6⟩:=Array.any_eq_true'.1 h5
    simp only[Bool.and_eq_true,Bool.or_eq_true,decide_eq_true_eq]at h6
    refine .inr ⟨x,rfl,e',he',h6.1,?_⟩
    rcases h6.2 with h7|h7
    ·exact .inl h7
    ·cases hy:ops0[e'.on]? with
     | none=>rw[hy]at h7;cases h7
     | some y=>
      rw[hy]at h7
      obtain⟨e2,he2,h8⟩:=Array.any_eq_true'.1 h7
      simp only[Bool.and_eq_true,decide_eq_true_eq]at h8
      exact .inr ⟨y,rfl,e2,he2,h8.1,h8.2⟩
 ·have:=Array.all_eq_true'.1 h3 e he
  rw[hb]at this
  simpa using this
theorem wpOp_last {ops0:Array Oper} {o:Oper} {md:Region.Mode} (hk:Sink md ops0 o) {Q:Exit→Act→World→Prop} {K K':Act→World→Prop} (hK: ∀a w,K a w→K' a w) (i:Nat) (hi:i<ops0.size) (a:Act) (w:World)
  (h:wpOp P ops0 (lastPost P ops0 o Q) i K a w):wpOp P (ops0.push o) Q i K' a w:=by
 unfold wpOp at *
 have e:(ops0.push o)[i]? =ops0[i]? :=by rw[Array.getElem?_push_lt hi,Array.getElem?_eq_getElem hi]
 rw[e]
 have hx:ops0[i]? =some ops0[i]:=Array.getElem?_eq_getElem hi
 rw[hx]at h⊢
 simp only at h⊢
 have hw:Region.wanted ops0[i] (yielded (ops0.push o) a.tmps)=Region.wanted ops0[i] (yielded ops0 a.tmps):=by
  unfold Region.wanted
  split
  ·rfl
  ·rename_i j b hg
   have hj:=hk.guard i _ hx j b hg
   unfold yielded
   rw[Array.getElem?_push_lt hj,Array.getElem?_eq_getElem hj]
 rw[hw]
 have hlets:LetsOut (lastPost P ops0 o Q)→LetsOut Q:=fun⟨a',w',h'⟩=>⟨a',w',h'⟩
 split
 ·rename_i hw2
  rw[if_pos hw2]at h
  rcases h with h|⟨h1,h2⟩
  ·refine .inl ?_
   unfold Oper.wp at *
   generalize (execOp a.eval ops0[i]).run P w=r at *
   cases r with
   | ok n w'=>
    cases n <;> simp only[Oper.upon]at h⊢
    case value u=>exact hK _ _ h
    case skip=>exact hK _ _ h
    case defer d=>exact hK _ _ h
    case enter f args=>
     refine Calls.mono h fun e w'' he=>?_
     cases e with
     | returned u=>exact hK _ _ he
     | panicked c=>exact he
     | outgrown=>exact hlets he
    case row row args=>exact Rows.mono h fun u w'' he=>hK _ _ he
   | halt x w'=>
    cases x <;> simp only[Oper.upon]at h⊢
    case panic u=>exact h
  ·exact .inr ⟨h1,hlets h2⟩
 ·rename_i hw2
  rw[if_neg hw2]at h
  exact hK _ _ h
theorem getD_push_lt {l:Array Bool} {i:Nat} {d:Bool} (h:i<l.size):(l.push d).getD i true=l.getD i true:=by
 simp only[Array.getD_eq_getD_getElem?]
 rw[Array.getElem?_push_lt h,Array.getElem?_eq_getElem h]
theorem getD_push_lt' {l:Array Bool} {i:Nat} {d:Bool} (h:i<l.size):(l.push d).getD i false=l.getD i false:=by
 simp only[Array.getD_eq_getD_getElem?]
 rw[Array.getElem?_push_lt h,Array.getElem?_eq_getElem h]
theorem least_open (l:Array Bool) (h: ∃i,i<l.size∧l.getD i true=false): ∃i,i<l.size∧l.getD i true=false∧∀j,j<i→l.getD j false=true:=by
 obtain⟨i,h1,h2⟩:=h
 induction i using Nat.strongRecOn with
 | _ i ih=>
  by_cases hall: ∀j,j<i→l.getD j false=true
  ·exact⟨i,h1,h2,hall⟩
  ·simp only[Classical.not_forall]at hall
   obtain⟨j,hj,hn⟩:=hall
   refine ih j hj (by omega) ?_
   have hjl:j<l.size:=by omega
   simp only[Array.getD_eq_getD_getElem?,Array.getElem?_eq_getElem hjl,Option.getD_some]at hn⊢
   simpa using hn
def Closed (md:Region.Mode) (ops0:Array Oper) (l:Array Bool):Prop:= ∀j x,ops0[j]? =some x→l.getD j false=true→∀e∈x.after,Region.binds md e=true→l.getD e.on false=true
theorem Closed.set {md:Region.Mode} {ops0:Array Oper} {l:Array Bool} (h:Closed md ops0 l) {i:Nat} (hi:i∈Region.ready md ops0 l):Closed md ops0 (l.setIfInBounds i true):=by
 intro j x hx hj e he hb
 by_cases hji:i=j
 ·subst hji
  obtain⟨_,y,hy,h2⟩:=mem_ready.1 hi
  obtain rfl:=Option.some.inj (hx.symm.trans hy)
  exact getD_set_true (h2 e he hb)
 ·rw[getD_set_ne _ hji]at hj
  exact getD_set_true (h j x hx hj e he hb)
theorem wpAny_sink {ops0:Array Oper} {o:Oper} {md:Region.Mode} (hk:Sink md ops0 o) {Q:Exit→Act→World→Prop}: ∀(fuel:Nat) (l:Array Bool) (a:Act) (w:World),l.size=ops0.size→Closed md ops0 l→
  wpAny P md ops0 (lastPost P ops0 o Q) fuel l a w→wpAny P md (ops0.push o) Q (fuel+1) (l.push false) a w:=by
 intro fuel
 have hr: ∀(l:Array Bool) (i:Nat),l.size=ops0.size→i<ops0.size→i∈Region.ready md (ops0.push o) (l.push false)→i∈Region.ready md ops0 l:=by
  intro l i hl hi hm
  obtain⟨h1,x,hx,h2⟩:=mem_ready.1 hm
  rw[Array.getElem?_push_lt hi]at hx
  have hx':ops0[i]? =some x:=by rw[Array.getElem?_eq_getElem hi];exact hx
  refine mem_ready.2 ⟨by rwa [getD_push_lt (by omega)]at h1,x,hx',fun e he hb=>?_⟩
  have hlt:=hk.before i x hx' e he hb
  have:=h2 e he hb
  rwa [getD_push_lt' (by omega)]at this
 have hr': ∀(l:Array Bool) (i:Nat),l.size=ops0.size→i∈Region.ready md ops0 l→i∈Region.ready md (ops0.push o) (l.push false):=by
  intro l i hl hm
  obtain⟨h1,x,hx,h2⟩:=mem_ready.1 hm
  have hi:=(Array.getElem?_eq_some_iff.1 hx).1
  refine mem_ready.2 ⟨by rwa [getD_push_lt (by omega)],x,by rw[Array.getElem?_push_lt hi,←Array.getElem?_eq_getElem hi];exact hx,fun e he hb=>?_⟩
  have hlt:=hk.before i x hx e he hb
  rw[getD_push_lt' (by omega)]
  exact h2 e he hb
 have hle: ∀(l:Array Bool) (i:Nat),l.size=ops0.size→i∈Region.ready md (ops0.push o) (l.push false)→i≤ops0.size:=by
  intro l i hl hm
  obtain⟨_,x,hx,_⟩:=mem_ready.1 hm
  have:=(Array.getElem?_eq_some_iff.1 hx).1
  simp at this
  omega
 have hall: ∀(l:Array Bool),l.size=ops0.size→Closed md ops0 l→ops0.size∈Region.ready md (ops0.push o) (l.push false)→Region.ready md ops0 l= []:=by
  intro l hl hcl hm
  obtain⟨_,x,hx,h2⟩:=mem_ready.1 hm
  rw[Array.getElem?_push_size]at hx
  obtain rfl:=Option.some.inj hx
  apply List.eq_nil_iff_forall_not_mem.2
  intro i hi
  obtain⟨h1,y,hy,_⟩:=mem_ready.1 hi
  have hi2:=(Array.getElem?_eq_some_iff.1 hy).1
  obtain⟨e,he,hb,hor⟩:=hk.waits i hi2
  have hlow:=hk.low e he hb
  have h3:=h2 e he hb
  rw[getD_push_lt' (by omega)]at h3
  have this:l.getD i false=true:=by
   rcases hor with rfl|⟨x,hx,e',he',hb',rfl|⟨x2,hx2,e2,he2,hb2,rfl⟩⟩
   ·exact h3
   ·exact hcl _ x hx h3 e' he' hb'
   ·exact hcl _ x2 hx2 (hcl _ x hx h3 e' he' hb') e2 he2 hb2
  have hil:i<l.size:=by omega
  simp only[Array.getD_eq_getD_getElem?,Array.getElem?_eq_getElem hil,Option.getD_some]at this h1
  rw[this]at h1
  cases h1
 have hend: ∀(l:Array Bool),l.size=ops0.size→Region.ready md ops0 l= []→ops0.size∈Region.ready md (ops0.push o) (l.push false):=by
  intro l hl h0
  have hdone: ∀i,i<l.size→l.getD i false=true:=by
   intro i hi
   apply Classical.byContradiction
   intro hn
   obtain⟨j,hj,hj2,hj3⟩:=least_open l ⟨i,hi,by
    simp only[Array.getD_eq_getD_getElem?,Array.getElem?_eq_getElem hi,Option.getD_some]at hn⊢
    simpa using hn⟩
   have hjo:j<ops0.size:=by omega
   have:j∈Region.ready md ops0 l:=mem_ready.2 ⟨hj2,ops0[j],Array.getElem?_eq_getElem hjo,fun e he hb=>hj3 _ (hk.before j _ (Array.getElem?_eq_getElem hjo) e he hb)⟩
   rw[h0]at this
   cases this
  refine mem_ready.2 ⟨?_,o,Array.getElem?_push_size,fun e he hb=>?_⟩
  ·simp only[Array.getD_eq_getD_getElem?]
   rw[←hl,Array.getElem?_push_size]
   rfl
  ·have:=hk.low e he hb
   rw[getD_push_lt' (by omega)]
   exact hdone _ (by omega)
 have hlast: ∀(fuel:Nat) (l:Array Bool) (a:Act) (w:World),l.size=ops0.size→Region.ready md ops0 l= []→lastPost P ops0 o Q .normal a w→wpAny P md (ops0.push o) Q (fuel+1) (l.push false) a w:=by
  intro fuel l a w hl h0 h
  refine⟨fun h1=>(by have:=hend l hl h0;rw[h1]at this;cases this),fun i hi=>?_⟩
  have hin:i=ops0.size:=by
   rcases Nat.lt_or_ge i ops0.size with hlt|hge
   ·have:=hr l i hl hlt hi
    rw[h0]at this
    cases this
   ·have:=hle l i hl hi
    omega
  subst hin
  refine wpOp_mono (fun a' w' h'=>?_) h
  have hdone:Region.ready md (ops0.push o) ((l.push false).setIfInBounds ops0.size true)= []:=by
   apply List.eq_nil_iff_forall_not_mem.2
   intro j hj
   obtain⟨h1,x,hx,h2⟩:=mem_ready.1 hj
   have hjl:=(Array.getElem?_eq_some_iff.1 hx).1
   simp only[Array.size_push]at hjl
   by_cases hjn:j=ops0.size
   ·subst hjn
    simp only[Array.getD_eq_getD_getElem?]at h1
    rw[Array.getElem?_setIfInBounds_self_of_lt (by simp;omega)]at h1
    cases h1
   ·rw[getD_set_ne _ (Ne.symm hjn),getD_push_lt (by omega)]at h1
    have hj2:j<ops0.size:=by omega
    rw[Array.getElem?_push_lt hj2]at hx
    have hx':ops0[j]? =some x:=by rw[Array.getElem?_eq_getElem hj2];exact hx
    have:j∈Region.ready md ops0 l:=mem_ready.2 ⟨h1,x,hx',fun e he hb=>by
     have hlt:=hk.before j x hx' e he hb
     have:=h2 e he hb
     rw[getD_set_ne _ (by omega),getD_push_lt' (by omega)]at this
     exact this⟩
    rw[h0]at this
    cases this
  cases fuel with
  | zero=>exact⟨hdone,h'⟩
  | succ fuel=>exact⟨fun _=>h',by rw[hdone];simp⟩
 induction fuel with
 | zero=>exact fun l a w hl _ ⟨h0,h⟩=>hlast 0 l a w hl h0 h
 | succ fuel ih=>
  intro l a w hl hcl ⟨h0,h1⟩
  by_cases hz:Region.ready md ops0 l= []
  ·exact hlast (fuel+1) l a w hl hz (h0 hz)
  ·refine⟨fun h=>?_,fun i hi=>?_⟩
   ·obtain⟨i,hi⟩:=List.exists_mem_of_ne_nil _ hz
    have:=hr' l i hl hi
    rw[h]at this
    cases this
   ·have hin:i<ops0.size:=by
     rcases Nat.lt_or_ge i ops0.size with hlt|hge
     ·exact hlt
     ·have:i=ops0.size:=by have:=hle l i hl hi;omega
      subst this
      exact absurd (hall l hl hcl hi) hz
    have e:(l.push false).setIfInBounds i true=(l.setIfInBounds i true).push false:=by
     apply Array.ext_getElem?
     intro j
     by_cases hji:i=j
     ·subst hji
      rw[Array.getElem?_setIfInBounds_self_of_lt (by simp;omega),Array.getElem?_push_lt (by simp;omega)]
      simp
     ·rw[Array.getElem?_setIfInBounds_ne hji]
      rcases Nat.lt_trichotomy j l.size with h|h|h
      ·have h2:j<(l.setIfInBounds i true).size:=by simpa using h
       rw[Array.getElem?_push_lt h,Array.getElem?_push_lt h2,←Array.getElem?_eq_getElem h,←Array.getElem?_eq_getElem h2,Array.getElem?_setIfInBounds_ne hji]
      ·subst h
       rw[Array.getElem?_push_size]
       have:(l.setIfInBounds i true).size=l.size:=by simp
       rw[←this,Array.getElem?_push_size]
      ·rw[Array.getElem?_eq_none (by simp;omega),Array.getElem?_eq_none (by simp;omega)]
    rw[e]
    exact wpOp_last hk (fun a' w' h'=>ih _ a' w' (by simpa using hl) (hcl.set (hr l i hl hin hi)) h') i hin a w (h1 i (hr l i hl hin hi))
theorem wp_region_sink {id:Nat} {ops0:Array Oper} {o:Oper} {S:World→Prop} {Q:Exit→Act→World→Prop} {a:Act} {w:World} (hm:P.follows .mixedOrders=true) (hk:sinkOk .any ops0 o=true) (hS:S w.drew)
  (h:S w.drew→wpAnyH P .any ops0 (lastPost P ops0 o Q) S ops0.size (Array.replicate ops0.size false) a w.drew):(Code.region id (ops0.push o) true).wp P Q a w:=by
 refine wp_region_any hm ?_
 have:=wpAny_sink (P:=P) (sink_of hk) ops0.size (Array.replicate ops0.size false) a w.drew (by simp) (fun j x _ hj=>by
  have:(Array.replicate ops0.size false).getD j false=false:=by
   simp only[Array.getD_eq_getD_getElem?,Array.getElem?_replicate]
   split <;> rfl
  rw[this]at hj
  cases hj) (wpAny_of_held _ _ _ _ (h hS))
 rw[Array.size_push,show Array.replicate (ops0.size+1) false=(Array.replicate ops0.size false).push false by rw[Array.replicate_succ]]
 exact this
theorem wp_region_sink_at {id:Nat} {l:List Oper} {o:Oper} (S:World→Prop) {Q:Exit→Act→World→Prop} {a:Act} {w:World} (hm:P.follows .mixedOrders=true) (hl:l=l.dropLast++ [o]) (hk:sinkOk .any l.dropLast.toArray o=true) (hS:S w.drew)
  (h:S w.drew→wpAnyH P .any l.dropLast.toArray (lastPost P l.dropLast.toArray o Q) S l.dropLast.toArray.size (Array.replicate l.dropLast.toArray.size false) a w.drew):(Code.region id l.toArray true).wp P Q a w:=by
 have e:l.toArray=l.dropLast.toArray.push o:=by
  rw[List.push_toArray,←hl]
 rw[e]
 exact wp_region_sink hm hk hS h
theorem takeD {md:Region.Mode} {ops:Array Oper} {Q:Exit→Act→World→Prop} {S:World→Prop} (i d:Nat) {oi:Oper} {v:Value} {fuel:Nat} {listed:Array Bool} {a:Act} {w:World} (hi:ops[i]? =some oi) (hd:oi.dst=some d)
  (hs:Region.noSelect ops=true) (hf:Region.free md ops listed i=true) (hr:(Region.ready md ops listed).contains i=true)
  (hQ: ∀c (a:Act) w,Q (.panic c) (a.put oi.dst v) w→Q (.panic c) a w) (hy:YieldsIf P ops S oi v a) (hS:S w)
  (h:wpAnyH P md ops Q S fuel (listed.setIfInBounds i true) (a.put (some d) v) w):wpAnyH P md ops Q S (fuel+1) listed a w:=
 wpAnyH_take hi hs hf hr hQ hy hS (by rw[hd];exact h)
theorem lastPost_normal {ops0:Array Oper} {o:Oper} {Q:Exit→Act→World→Prop} {a:Act} {w:World} (h:wpOp P (ops0.push o) Q ops0.size (Q .normal) a w):lastPost P ops0 o Q .normal a w:=h
end
section
variable {P:Program}
theorem takeE {md:Region.Mode} {ops:Array Oper} {Q:Exit→Act→World→Prop} {S:World→Prop} (i d:Nat) {oi:Oper} {v:Value} {fuel:Nat} {listed:Array Bool} {a a':Act} {w:World}
  (h:wpAnyH P md ops Q S fuel (listed.setIfInBounds i true) a' w)
  (hi:ops[i]? =some oi:=by rfl) (hd:oi.dst=some d:=by rfl) (hs:Region.noSelect ops=true:=by kernel_rfl) (hf:Region.free md ops listed i=true:=by kernel_rfl) (hr:(Region.ready md ops listed).contains i=true:=by kernel_rfl)
  (hQ: ∀c (a:Act) w,Q (.panic c) (a.put oi.dst v) w→Q (.panic c) a w:=by exact fun _ _ _ h=>h) (hw:Region.wanted oi (yielded ops a.tmps)=true:=by rfl)
  (hy: ∀w,S w→(execOp a.eval oi).run P w= .ok (.value v) w:=by(intro wq hSw;clear hSw;go_simp;try with_reducible rfl)) (hS:S w:=by assumption)
  (ha:a.put (some d) v=a':=by(conv=>lhs;simp only[Act.put,List.setIfInBounds_toArray,List.set_cons_zero,List.set_cons_succ])):wpAnyH P md ops Q S (fuel+1) listed a w:=
 takeD i d hi hd hs hf hr hQ (Or.inl ⟨hw,hy⟩) hS (ha▸h)
theorem takeF {md:Region.Mode} {ops:Array Oper} {Q:Exit→Act→World→Prop} {S:World→Prop} (i d:Nat) {oi:Oper} {v:Value} {fuel:Nat} {listed:Array Bool} {a a':Act} {w:World} {F:World→Prop}
  (hF: ∀w,S w→F w) (h:wpAnyH P md ops Q S fuel (listed.setIfInBounds i true) a' w)
  (hi:ops[i]? =some oi:=by rfl) (hd:oi.dst=some d:=by rfl) (hs:Region.noSelect ops=true:=by kernel_rfl) (hf:Region.free md ops listed i=true:=by kernel_rfl) (hr:(Region.ready md ops listed).contains i=true:=by kernel_rfl)
  (hQ: ∀c (a:Act) w,Q (.panic c) (a.put oi.dst v) w→Q (.panic c) a w:=by exact fun _ _ _ h=>h) (hw:Region.wanted oi (yielded ops a.tmps)=true:=by rfl)
  (hy: ∀w,F w→(execOp a.eval oi).run P w= .ok (.value v) w:=by(intro wq hSw;go_simp;try with_reducible rfl)) (hS:S w:=by assumption)
  (ha:a.put (some d) v=a':=by(conv=>lhs;simp only[Act.put,List.setIfInBounds_toArray,List.set_cons_zero,List.set_cons_succ])):wpAnyH P md ops Q S (fuel+1) listed a w:=
 takeD i d hi hd hs hf hr hQ (Or.inl ⟨hw,fun w h=>hy w (hF w h)⟩) hS (ha▸h)
theorem takeS {md:Region.Mode} {ops:Array Oper} {Q:Exit→Act→World→Prop} {S:World→Prop} (i d:Nat) {oi:Oper} {v:Value} {fuel:Nat} {listed:Array Bool} {a a':Act} {w:World}
  (h:wpAnyH P md ops Q S fuel (listed.setIfInBounds i true) a' w)
  (hi:ops[i]? =some oi:=by rfl) (hd:oi.dst=some d:=by rfl) (hs:Region.noSelect ops=true:=by kernel_rfl) (hf:Region.free md ops listed i=true:=by kernel_rfl) (hr:(Region.ready md ops listed).contains i=true:=by kernel_rfl)
  (hQ: ∀c (a:Act) w,Q (.panic c) (a.put oi.dst v) w→Q (.panic c) a w:=by exact fun _ _ _ h=>h) (hw:Region.wanted oi (yielded ops a.tmps)=true:=by rfl)
  (hy: ∀w,S w→(execOp a.eval oi).run P w= .ok (.value v) w:=by(intro wq hSw;go_simp;try with_reducible rfl)) (hS:S w:=by assumption)
  (ha:a.put (some d) v=a':=by(conv=>lhs;simp only[Act.put,List.setIfInBounds_toArray,List.set_cons_zero,List.set_cons_succ])):wpAnyH P md ops Q S (fuel+1) listed a w:=
 takeD i d hi hd hs hf hr hQ (Or.inl ⟨hw,hy⟩) hS (ha▸h)
theorem takeU {md:Region.Mode} {ops:Array Oper} {Q:Exit→Act→World→Prop} {S:World→Prop} (i d:Nat) {oi:Oper} {fuel:Nat} {listed:Array Bool} {a a':Act} {w:World}
  (h:wpAnyH P md ops Q S fuel (listed.setIfInBounds i true) a' w)
  (hi:ops[i]? =some oi:=by rfl) (hd:oi.dst=some d:=by rfl) (hs:Region.noSelect ops=true:=by kernel_rfl) (hf:Region.free md ops listed i=true:=by kernel_rfl) (hr:(Region.ready md ops listed).contains i=true:=by kernel_rfl)
  (hQ: ∀c (a:Act) w,Q (.panic c) (a.put oi.dst undef) w→Q (.panic c) a w:=by exact fun _ _ _ h=>h) (hw:Region.wanted oi (yielded ops a.tmps)=false:=by rfl) (hS:S w:=by assumption)
  (ha:a.put (some d) undef=a':=by(conv=>lhs;simp only[Act.put,List.setIfInBounds_toArray,List.set_cons_zero,List.set_cons_succ])):wpAnyH P md ops Q S (fuel+1) listed a w:=
 takeD i d hi hd hs hf hr hQ (Or.inr ⟨hw,rfl⟩) hS (ha▸h)
theorem ready1 {md:Region.Mode} {ops:Array Oper} {Q:Exit→Act→World→Prop} {S:World→Prop} (i:Nat) {o:Oper} {fuel:Nat} {listed:Array Bool} {a:Act} {w:World}
  (h: ∀K':Act→World→Prop,Shut (∀a w,S w→(S w→wpAnyH P md ops Q S fuel (listed.setIfInBounds i true) a w)→K' a w)→if Region.wanted o (yielded ops a.tmps)=true then Oper.wp P o a w K' Q else K' (a.put o.dst undef) w)
  (ho:ops[i]? =some o:=by rfl) (hr:Region.ready md ops listed= [i]:=by kernel_rfl):wpAnyH P md ops Q S (fuel+1) listed a w:=
 wpAnyH_ready hr (by simp) (AllReadyH.cons ho h AllReadyH.nil)
end
end Go.Proofs.YtoojmhjagipmdaaGreat
namespace Go.Proofs.YtoojmhjagipmdaaGreat
open Go.RowKit
def SrcAt (w:World) (x:Value) (m:Nat) (news:List Value):Prop:=
 (x= .slice none 0 0∧m=0∧news= [])∨∃ad c,x= .slice (some ad) m c∧∀j u,news[j]? =some u→w.cell? (ad.add j)=some u
theorem SrcAt.below {w w':World} {x:Value} {m:Nat} {news:List Value} (h:SrcAt w x m news) (hb:Below w.heap.size w w'):SrcAt w' x m news:=by
 rcases h with h|⟨ad,c,hx,hn⟩
 ·exact .inl h
 ·refine .inr ⟨ad,c,hx,fun j u hj=>?_⟩
  have h0:=hn j u hj
  have hlt:=World.block_lt_of_cell? w _ h0
  exact(hb.cell hlt).trans h0
theorem IntsIn.src {O:Nat→Prop} {w:World} {v:Value} {xs:List Int} (h:IntsIn O w v xs):SrcAt w v xs.length (xs.map (Value.int .i64)):=by
 obtain⟨A,c,hv,hc,hn,hx⟩:=h
 cases A with
 | none=>
  have h0:=hn rfl
  have hx0:xs= []:=List.eq_nil_of_length_eq_zero (by omega)
  subst hx0
  subst h0
  exact .inl ⟨hv,rfl,rfl⟩
 | some ad=>
  by_cases h0:xs= []
  ·subst h0
   exact .inr ⟨ad,c,hv,fun j u hj=>by simp at hj⟩
  ·obtain⟨x0,hx0⟩: ∃x,xs[0]? =some x:=⟨_,List.getElem?_eq_getElem (by cases xs with
    | nil=>exact absurd rfl h0
    | cons _ _=>simp)⟩
   obtain⟨g,o,hA,_⟩:=hx 0 x0 hx0
   obtain rfl:=Option.some.inj hA
   refine .inr ⟨_,c,hv,fun j u hj=>?_⟩
   rw[List.getElem?_map]at hj
   cases hxj:xs[j]? with
   | none=>rw[hxj]at hj;cases hj
   | some x=>
    rw[hxj]at hj
    obtain rfl:=Option.some.inj hj
    obtain⟨g',o',hA',_,_,hc'⟩:=hx j x hxj
    cases hA'
    rw[addr_add2]
    exact hc'
section
variable {P:Program}
theorem run_append_any (w:World) (base:Nat) (t ty e:TypeId) (i:TypeInfo) (z:Value) (size bytes:Nat) (ht:P.underlying t=some (.slice e)) (hi:P.info? e=some i) (hz:i.zero=some z) (hsize:i.size=size) (hby:i.bytes=bytes) (hzs:z.cells.size=size) (hsz:0<size)
  (v:Value) (n:Nat) (xs:List Value) (hown:w.ownsRow base e size v n xs) (x:Value) (m:Nat) (news:List Value) (hx:SrcAt w x m news) (hl:news.length=m*size) (h1: ∀u∈news,u.oneCell'=true)
  (h63:n+m≤maxLen) (hbytes:(n+m)*bytes≤140737488355328) (hbase:base≤w.heap.size):
  ∃v' w',(Builtin.append_ #[t,t] ty #[v,x]).run P w= .ok v' w'∧w'.ownsRow base e size v' (n+m) (xs++news)∧w.grownBy w' v.ownBlock∧(v'.ownBlock=v.ownBlock∨v'.ownBlock=some w.heap.size):=by
 rcases hx with⟨rfl,rfl,rfl⟩|⟨ad,c,rfl,hn⟩
 ·exact⟨v,w,run_append_owned_none (P:=P) (w:=w) base t ty e i size ht hi v n xs hown,by simpa using hown,World.grownBy.refl w _,.inl rfl⟩
 ·obtain⟨v',w',hr,h2,h3,_,h5⟩:=run_append_own_at (P:=P) w base t ty e i z size bytes ht hi hz hsize hby hzs hsz v n xs hown ad m c news hl hn h1 h63 hbytes hbase
  exact⟨v',w',hr,h2,h3,h5⟩
theorem wp_append_any_at (d:Nat) {w:World} {o:Oper} {a:Act} {K:Act→World→Prop} {Q:Exit→Act→World→Prop} (hd:o.dst=some d) (s x:Operand) (t:TypeId) (ho:o.op= .call { callee:=.builtin .append,args:= #[s,x],argTypes:= #[t,t] })
  (base:Nat) (e:TypeId) (i:TypeInfo) (z:Value) (size bytes:Nat) (ht:P.underlying t=some (.slice e)) (hi:P.info? e=some i) (hz:i.zero=some z) (hsize:i.size=size) (hby:i.bytes=bytes) (hzs:z.cells.size=size) (hsz:0<size)
  (v:Value) (n:Nat) (xs:List Value) (hs:a.eval s=v) (hown:w.ownsRow base e size v n xs)
  (y:Value) (m:Nat) (news:List Value) (hx:a.eval x=y) (hy:SrcAt w y m news) (hl:news.length=m*size) (h1: ∀u∈news,u.oneCell'=true)
  (h63:n+m≤maxLen) (hbytes:(n+m)*bytes≤140737488355328) (hbase:base≤w.heap.size)
  (h: ∀v' w',w'.ownsRow base e size v' (n+m) (xs++news)→w.grownBy w' v.ownBlock→(v'.ownBlock=v.ownBlock∨v'.ownBlock=some w.heap.size)→K (a.put (some d) v') w'):Oper.wp P o a w K Q:=by
 obtain⟨v',w',hr,h2,h3,h5⟩:=run_append_any (P:=P) w base t o.type e i z size bytes ht hi hz hsize hby hzs hsz v n xs hown y m news hy hl h1 h63 hbytes hbase
 unfold Oper.wp execOp
 simp only[ho,resolve,invoke,builtin,Sem.run_bind,Sem.run_pure,Result.andThen_ok,List.map_toArray,List.map_cons,List.map_nil,hs,hx,hr]
 show K (a.put o.dst v') w'
 rw[hd]
 exact h v' w' h2 h3 h5
theorem wpList_append_any {w:World} {ops:Array Oper} {rest:List Oper} {o:Oper} {a:Act} {Q:Exit→Act→World→Prop} (hg:o.guard=none) (s x:Operand) (t:TypeId) (ho:o.op= .call { callee:=.builtin .append,args:= #[s,x],argTypes:= #[t,t] })
  (base:Nat) (e:TypeId) (i:TypeInfo) (z:Value) (size bytes:Nat) (ht:P.underlying t=some (.slice e)) (hi:P.info? e=some i) (hz:i.zero=some z) (hsize:i.size=size) (hby:i.bytes=bytes) (hzs:z.cells.size=size) (hsz:0<size)
  (v:Value) (n:Nat) (xs:List Value) (hs:a.eval s=v) (hown:w.ownsRow base e size v n xs)
  (y:Value) (m:Nat) (news:List Value) (hx:a.eval x=y) (hy:SrcAt w y m news) (hl:news.length=m*size) (h1: ∀u∈news,u.oneCell'=true)
  (h63:n+m≤maxLen) (hbytes:(n+m)*bytes≤140737488355328) (hbase:base≤w.heap.size)
  (h: ∀v' w',w'.ownsRow base e size v' (n+m) (xs++news)→w.grownBy w' v.ownBlock→(v'.ownBlock=v.ownBlock∨v'.ownBlock=some w.heap.size)→wpList P ops Q rest (a.put o.dst v') w'):wpList P ops Q (o::rest) a w:=by
 refine wpList_plain hg fun K hK=>?_
 obtain⟨v',w',hr,h2,h3,h5⟩:=run_append_any (P:=P) w base t o.type e i z size bytes ht hi hz hsize hby hzs hsz v n xs hown y m news hy hl h1 h63 hbytes hbase
 unfold Oper.wp execOp
 simp only[ho,resolve,invoke,builtin,Sem.run_bind,Sem.run_pure,Result.andThen_ok,List.map_toArray,List.map_cons,List.map_nil,hs,hx,hr]
 exact hK _ _ (h v' w' h2 h3 h5)
end
end Go.Proofs.YtoojmhjagipmdaaGreat
