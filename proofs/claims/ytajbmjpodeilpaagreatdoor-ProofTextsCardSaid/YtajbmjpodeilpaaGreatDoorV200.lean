/- What memory holds, and what is kept of it. Rows of integers that came in, and rows of such rows. Rows without a card: what they share; rows that come in; what is shown behind the call. Small laws of blocks and rows that every chapter uses. Plain: which lines are passed over. lratext.numbers: the function that yields a line's numbers. Equal, Index, Contains, Clone at slices of integers. A map of integers to integers that the program made. Literals and clauses: Right. Plain: steps of proofs. Plain: steps and proofs that are right. -/
import Derived.Test.YtajbmjpodeilpaaGreatDoorRows
import Derived.WalkKit
import Derived.WalkSpells
import Derived.WalkLawsBesides
import Derived.Lib.Hide
import Derived.Handy
import Derived.OwnWalk
import Derived.Laws.AppendOwn
import Derived.Maps.AppendAt
import Derived.Maps.Own
import Derived.Maps.OwnOps
import Derived.Maps.Views
import Derived.Deep.QuietTactic
import Derived.BigQuiet
import Derived.IntWalk
import Derived.RangeFuncRecord
import Derived.ProofKit
import Derived.OpenShut
import Derived.ShutString
import Derived.ChangeOld
import Derived.LaidMore
import Derived.Lay
import Derived.Deep.Matrix
import Derived.Lib.SmallJoins
import Derived.Lib.Strings
import Derived.Lib.LazyBuf
import Derived.Lib.BufferMore
namespace Go.Proofs.YtajbmjpodeilpaaGreatDoor
open Go.RowKit
theorem heap_lt {A:World} {k:Nat} {o:Obj} (h:A.heap[k]? =some o):k<A.heap.size:=(Array.getElem?_eq_some_iff.1 h).1
theorem ret_bool {a b:Bool} (h:a=b):Ending.returned (.bool a)= .returned (.bool b):=by rw[h]
theorem ret_int {k:IntKind} {a b:Int} (h:a=b):Ending.returned (.int k a)= .returned (.int k b):=by rw[h]
structure Kept (O:Nat→Prop) (w w':World):Prop where
 os:w'.os=w.os
 tape:w'.tape=w.tape
 output:w'.output=w.output
 size:w.heap.size≤w'.heap.size
 block: ∀k,k<w.heap.size→¬O k→w'.heap[k]? =w.heap[k]?
theorem Kept.refl (O:Nat→Prop) (w:World):Kept O w w:=⟨rfl,rfl,rfl,Nat.le_refl _,fun _ _ _=>rfl⟩
theorem Kept.of_below {O:Nat→Prop} {w w':World} (h:Below w.heap.size w w'):Kept O w w':=⟨h.os,h.tape,h.output,h.size,fun k hk _=>h.block k hk⟩
theorem Kept.trans {O O':Nat→Prop} {a b c:World} (h:Kept O a b) (k:Kept O' b c) (hO: ∀i,i<a.heap.size→O' i→O i):Kept O a c:=
 ⟨k.os.trans h.os,k.tape.trans h.tape,k.output.trans h.output,Nat.le_trans h.size k.size,fun i hi hn=>(k.block i (Nat.lt_of_lt_of_le hi h.size) (fun ho=>hn (hO i hi ho))).trans (h.block i hi hn)⟩
theorem Kept.mono {O O':Nat→Prop} {w w':World} (h:Kept O w w') (hO: ∀i,i<w.heap.size→O i→O' i):Kept O' w w':=
 ⟨h.os,h.tape,h.output,h.size,fun k hk hn=>h.block k hk (fun ho=>hn (hO k hk ho))⟩
theorem Kept.below {O:Nat→Prop} {w w':World} {B:Nat} (h:Kept O w w') (hO: ∀i,O i→B≤i) (hB:B≤w.heap.size):Below B w w':=
 ⟨h.os,h.tape,h.output,h.size,fun k hk=>h.block k (by omega) (fun ho=>by have:=hO k ho;omega)⟩
theorem Kept.none {w w':World} (h:Kept (fun _=>False) w w'):Below w.heap.size w w':=⟨h.os,h.tape,h.output,h.size,fun k hk=>h.block k hk (fun ho=>ho)⟩
theorem Kept.grown {w w':World} {row:Option Nat} (h:w.grownBy w' row):Kept (fun k=>some k=row) w w':=⟨h.os,h.tape,h.output,h.size,fun k hk hn=>h.block k hk hn⟩
theorem Kept.cell {O:Nat→Prop} {w w':World} (h:Kept O w w') {p:Addr} (hp:p.block<w.heap.size) (hO: ¬O p.block):w'.cell? p=w.cell? p:=
 World.cell?_of_block (h.block _ hp hO)
theorem Kept.frozen {O:Nat→Prop} {w w':World} (h:Kept O w w') {p:Addr} (hp:p.block<w.heap.size) (hO: ¬O p.block):w'.frozen? p=w.frozen? p:=
 World.frozen?_of_block (h.block _ hp hO)
theorem Kept.alloc {O:Nat→Prop} {w w':World} (h:Kept O w w') (o:Obj):Kept O w (w'.alloc o):=
 h.trans (O':=fun _=>False) (Kept.of_below ((Below.refl _ _).alloc (Nat.le_refl _) o)) (fun _ _ h=>h.elim)
theorem Kept.setCell {O:Nat→Prop} {w w':World} (h:Kept O w w') (p:Addr) (v:Value) (hp:O p.block):Kept O w (w'.setCell p v):=by
 refine⟨?_,?_,?_,?_,?_⟩
 ·rw[←h.os];rfl
 ·rw[←h.tape];rfl
 ·rw[←h.output];rfl
 ·have:(w'.setCell p v).heap.size=w'.heap.size:=by simp[World.setCell]
  have:=h.size
  omega
 ·intro k hk hn
  rw[Below.heap_setCell _ _ _ k (fun e=>hn (by rw[e];exact hp)),h.block k hk hn]
theorem Kept.drew {O:Nat→Prop} {w w':World} (h:Kept O w w') (n:Nat):Kept O w (w'.drewN n):=⟨h.os,h.tape,h.output,h.size,h.block⟩
theorem below_kept {B:Nat} {O:Nat→Prop} {w w1 w2:World} (h:Below B w w1) (k:Kept O w1 w2) (hO: ∀i,O i→B≤i) (hB:B≤w1.heap.size):Below B w w2:=h.trans (k.below hO hB)
def IntsIn (O:Nat→Prop) (w:World) (v:Value) (xs:List Int):Prop:=
 ∃A c,v= .slice A xs.length c∧xs.length≤c∧(A=none→c=0)∧∀i x,xs[i]? =some x→∃g o,A=some ⟨g,o,none⟩∧g<w.heap.size∧O g∧w.cell? ⟨g,o+i,none⟩=some (.int .i64 x)
theorem IntsIn.mono {O O':Nat→Prop} {w:World} {v:Value} {xs:List Int} (h:IntsIn O w v xs) (hO: ∀g,O g→O' g):IntsIn O' w v xs:=by
 obtain⟨A,c,hv,hc,hn,hx⟩:=h
 refine⟨A,c,hv,hc,hn,fun i x hi=>?_⟩
 obtain⟨g,o,h1,h2,h3,h4⟩:=hx i x hi
 exact⟨g,o,h1,h2,hO g h3,h4⟩
theorem IntsIn.kept {O O':Nat→Prop} {w w':World} {v:Value} {xs:List Int} (h:IntsIn O w v xs) (k:Kept O' w w') (hO: ∀g,O g→¬O' g):IntsIn O w' v xs:=by
 obtain⟨A,c,hv,hc,hn,hx⟩:=h
 refine⟨A,c,hv,hc,hn,fun i x hi=>?_⟩
 obtain⟨g,o,h1,h2,h3,h4⟩:=hx i x hi
 exact⟨g,o,h1,Nat.lt_of_lt_of_le h2 k.size,h3,(k.cell (p:=⟨g,o+i,none⟩) h2 (hO g h3)).trans h4⟩
theorem IntsIn.below {O:Nat→Prop} {w w':World} {v:Value} {xs:List Int} (h:IntsIn O w v xs) (k:Below w.heap.size w w'):IntsIn O w' v xs:=
 h.kept (O':=fun _=>False) (Kept.of_below k) (fun _ _ h=>h)
theorem IntsIn.nil (O:Nat→Prop) (w:World):IntsIn O w (.slice none 0 0) []:=⟨none,0,rfl,Nat.zero_le _,fun _=>rfl,fun i x h=>by simp at h⟩
theorem addr_add (g j:Nat):(⟨g,0,none⟩:Addr).add j=⟨g,j,none⟩:=by unfold Addr.add;split <;> simp_all
theorem addr_add2 (g o j:Nat):(⟨g,o,none⟩:Addr).add j=⟨g,o+j,none⟩:=by unfold Addr.add;split <;> simp_all
theorem IntsIn.of_own {w:World} {base:Nat} {e:TypeId} {v:Value} {xs:List Int} (h:w.ownsRow base e 1 v xs.length (xs.map (Value.int .i64))):IntsIn (fun g=>base≤g∧v.ownBlock=some g) w v xs:=by
 rcases h.2 with⟨rfl,h0⟩|⟨g,cap,cur,rfl,hb,hg,hle,_⟩
 ·obtain rfl:xs= []:=List.eq_nil_of_length_eq_zero h0
  exact IntsIn.nil _ _
 ·refine⟨_,cap,rfl,hle,(fun h=>by cases h),fun i x hi=>⟨g,0,rfl,heap_lt hg,⟨hb,rfl⟩,?_⟩⟩
  have:=h.cells (g:=g) rfl i (.int .i64 x) (by rw[List.getElem?_map,hi];rfl)
  rwa [addr_add,←Nat.zero_add i]at this
theorem own_lt {w:World} {base size n:Nat} {e:TypeId} {v:Value} {xs:List Value} (h:w.ownsRow base e size v n xs): ∀g,v.ownBlock=some g→base≤g∧g<w.heap.size:=by
 intro g hg
 rcases h.2 with⟨rfl,_⟩|⟨g',cap,cur,rfl,hb,hh,_⟩
 ·cases hg
 ·have:g'=g:=by simpa [Value.ownBlock] using hg
  subst this
  exact⟨hb,heap_lt hh⟩
theorem own_mono {w:World} {base base' size n:Nat} {e:TypeId} {v:Value} {xs:List Value} (h:w.ownsRow base e size v n xs) (hb:base'≤base):w.ownsRow base' e size v n xs:=by
 refine⟨h.1,?_⟩
 rcases h.2 with hn|⟨g,cap,cur,h1,h2,rest⟩
 ·exact .inl hn
 ·exact .inr ⟨g,cap,cur,h1,Nat.le_trans hb h2,rest⟩
theorem own_kept {O:Nat→Prop} {w w':World} {base size n:Nat} {e:TypeId} {v:Value} {xs:List Value} (h:w.ownsRow base e size v n xs) (k:Kept O w w') (hO: ∀g,v.ownBlock=some g→¬O g):w'.ownsRow base e size v n xs:=by
 refine⟨h.1,?_⟩
 rcases h.2 with hn|⟨g,cap,cur,rfl,h1,hg,rest⟩
 ·exact .inl hn
 ·exact .inr ⟨g,cap,cur,rfl,h1,(k.block g (heap_lt hg) (hO g rfl)).trans hg,rest⟩
theorem own_below {w w':World} {base size n:Nat} {e:TypeId} {v:Value} {xs:List Value} (h:w.ownsRow base e size v n xs) (k:Below w.heap.size w w'):w'.ownsRow base e size v n xs:=
 own_kept (O:=fun _=>False) h (Kept.of_below k) (fun _ _ h=>h)
theorem own_type {w:World} {base n size:Nat} {e:TypeId} {v:Value} {xs:List Value} (h:w.ownsRow base e size v n xs): ∀g,v.ownBlock=some g→∃c,w.heap[g]? =some (.cells c e (0,0)):=by
 intro g hg
 rcases h.2 with⟨rfl,_⟩|⟨g',cap,cur,rfl,_,hh,_⟩
 ·simp[Value.ownBlock]at hg
 ·simp only[Value.ownBlock,Option.some.injEq]at hg
  subst hg
  exact⟨_,hh⟩
theorem cell_new (W:World) (cs:Array Value) (t:TypeId) (j:Nat):(W.alloc (.cells cs t)).cell? ⟨W.heap.size,j,none⟩=cs[j]? :=by
 rw[World.cell?,World.alloc_heap_new]
 simp
theorem cell_one_new' (W:World) (v:Value) (t:TypeId): ∀j u,[v][j]? =some u→(W.alloc (.cells #[v] t)).cell? ((⟨W.heap.size,0,none⟩:Addr).add j)=some u:=by
 intro j u h
 rw[addr_add,cell_new]
 simpa using h
theorem cells_list_new (W:World) (xs:List Value) (t:TypeId): ∀j u,xs[j]? =some u→(W.alloc (.cells xs.toArray t)).cell? ((⟨W.heap.size,0,none⟩:Addr).add j)=some u:=by
 intro j u h
 rw[addr_add,cell_new]
 simpa using h
end Go.Proofs.YtajbmjpodeilpaaGreatDoor
namespace Go.Proofs.YtajbmjpodeilpaaGreatDoor
open Go.RowKit
def RowAt (k:IntKind) (w:World) (v:Value) (xs:List Int):Prop:=
 ∃A c,v= .slice A xs.length c∧xs.length≤c∧c≤maxLen∧(A=none→c=0)∧(∀n∈xs,(Lit.int k n).wf=true)∧∀i x,xs[i]? =some x→∃g o,A=some ⟨g,o,none⟩∧g<w.heap.size∧w.cell? ⟨g,o+i,none⟩=some (.int k x)
theorem RowAt.below {k:IntKind} {w w':World} {v:Value} {xs:List Int} (h:RowAt k w v xs) (hb:Below w.heap.size w w'):RowAt k w' v xs:=by
 obtain⟨A,c,hv,hc,hm,hn,hw,hx⟩:=h
 refine⟨A,c,hv,hc,hm,hn,hw,fun i x hi=>?_⟩
 obtain⟨g,o,h1,h2,h3⟩:=hx i x hi
 exact⟨g,o,h1,Nat.lt_of_lt_of_le h2 hb.size,(hb.cell (p:=⟨g,o+i,none⟩) h2).trans h3⟩
theorem RowAt.ints {w:World} {v:Value} {xs:List Int} (h:RowAt .i64 w v xs):IntsIn (fun g=>g<w.heap.size) w v xs:=by
 obtain⟨A,c,hv,hc,_,hn,_,hx⟩:=h
 refine⟨A,c,hv,hc,hn,fun i x hi=>?_⟩
 obtain⟨g,o,h1,h2,h3⟩:=hx i x hi
 exact⟨g,o,h1,h2,h2,h3⟩
def RowsAt (k:IntKind) (w:World) (v:Value) (xss:List (List Int)):Prop:=
 ∃A c,v= .slice A xss.length c∧xss.length≤c∧c≤maxLen∧(A=none→c=0)∧∀i xs,xss[i]? =some xs→∃g o u,A=some ⟨g,o,none⟩∧g<w.heap.size∧w.cell? ⟨g,o+i,none⟩=some u∧RowAt k w u xs
theorem RowsAt.below {k:IntKind} {w w':World} {v:Value} {xss:List (List Int)} (h:RowsAt k w v xss) (hb:Below w.heap.size w w'):RowsAt k w' v xss:=by
 obtain⟨A,c,hv,hc,hm,hn,hx⟩:=h
 refine⟨A,c,hv,hc,hm,hn,fun i x hi=>?_⟩
 obtain⟨g,o,u,h1,h2,h3,h4⟩:=hx i x hi
 exact⟨g,o,u,h1,Nat.lt_of_lt_of_le h2 hb.size,(hb.cell (p:=⟨g,o+i,none⟩) h2).trans h3,h4.below hb⟩
end Go.Proofs.YtajbmjpodeilpaaGreatDoor
namespace Go.Proofs.YtajbmjpodeilpaaGreatDoor
open Go.ChangeShapes Go.WideShapes Go.ChangeAt Go.RowKit
theorem own:ownKnob Tryz.prog.godebug=none:=by kernel_rfl
theorem laidOut:laidOutB Tryz.prog=true:=by kernel_rfl
theorem trodAll_below {P:Program} {H:Type} {enc:TypeId×Value→H} (hl:laidOutB P=true) {W W':World} (hb:Below W.heap.size W W'):
  ∀{ts:List TypeId} {vs:List Value} {ds:List (DataW H)} {ps:List MemPlace},(ts.all fun t=>P.readableRec t&&decide (t<P.types.size))=true→
   DataW.TrodAll enc P W 0 (fun _=>true) true ts vs ds ps→(∀x∈ps,x.block<W.heap.size)→DataW.TrodAll enc P W' 0 (fun b=>decide (b<W.heap.size)) true ts vs ds ps
 | [],[],[],_,_,h,_=>h
 | t::ts,_::_,_::_,_,hr,⟨p,q,h1,h2,e⟩,hx=>by
  simp only[List.all_cons,Bool.and_eq_true,decide_eq_true_eq]at hr
  exact⟨p,q,Below.trod hl hr.1.1 hr.1.2 h1 hb (fun x hx1=>hx x (by rw[e];exact List.mem_append_left _ hx1)),trodAll_below hl hb hr.2 h2 (fun x hx1=>hx x (by rw[e];exact List.mem_append_right _ hx1)),e⟩
theorem open_row {P:Program} {H:Type} {enc:TypeId×Value→H} {W:World} {base:Nat} {t e:TypeId} {k:IntKind} {v:Value} {d:DataW H} {p:List MemPlace} (ht:P.underlying t=some (.slice e)) (he:P.underlying e=some (.int k)) (hc:P.cellsOf e=1)
  (hval:Value.okWide P W .any base t v) (h:DataW.Trod enc P W 0 (fun _=>true) true t v d p): ∃xs,RowAt k W v xs:=by
 obtain⟨a1,len,cap,rfl⟩:=okWide_slice ht hval
 obtain⟨fuel,hf⟩:=h
 rcases open_ints ht he hc hf with⟨hcs,_⟩|⟨a,len',cap',zs,hcs,_,hl,hm,hz,_,hcell,hwz⟩
 ·simp only[Value.cells,List.cons.injEq,Value.slice.injEq,and_true]at hcs
  obtain⟨rfl,rfl,rfl⟩:=hcs
  exact⟨[],none,0,rfl,Nat.le_refl _,Nat.zero_le _,fun _=>rfl,by simp,by simp⟩
 ·simp only[Value.cells,List.cons.injEq,Value.slice.injEq,and_true]at hcs
  obtain⟨rfl,rfl,rfl⟩:=hcs
  simp only[if_true]at hz
  have htl:(zs.take len).length=len:=by rw[List.length_take];omega
  refine⟨zs.take len,some a,cap,by rw[htl],by rw[htl];exact hl,hm,(fun h=>by cases h),fun n hn=>hwz n (List.mem_of_mem_take hn),fun i x hi=>?_⟩
  have hil:i<len:=by
   have:=(List.getElem?_eq_some_iff.1 hi).1
   omega
  rw[List.getElem?_take_of_lt hil]at hi
  obtain⟨b,off,rfl,hc2⟩:=ints_at hcell (by omega)
  have hx:=hc2 i (by omega)
  rw[List.getD_eq_getElem?_getD,hi]at hx
  exact⟨b,off,rfl,World.block_lt_of_cell? W _ hx,hx⟩
theorem add_form {W:World} {a:Addr} {v:Value} (h:W.cell? (a.add 0)=some v): ∃g o,a=⟨g,o,none⟩:=by
 obtain⟨g,o,s⟩:=a
 have hs:s=none:=by simpa [Addr.add] using World.cell?_spot h
 subst hs
 exact⟨g,o,rfl⟩
theorem open_rows {P:Program} {H:Type} {enc:TypeId×Value→H} {W:World} {base:Nat} {t e q:TypeId} {k:IntKind} {v:Value} {d:DataW H} {p:List MemPlace} (ht:P.underlying t=some (.slice e)) (he:P.underlying e=some (.slice q)) (hq:P.underlying q=some (.int k)) (ce:P.cellsOf e=1) (cq:P.cellsOf q=1)
  (hval:Value.okWide P W .any base t v) (h:DataW.Trod enc P W 0 (fun _=>true) true t v d p): ∃xss,RowsAt k W v xss:=by
 obtain⟨a1,len,cap,rfl⟩:=okWide_slice ht hval
 obtain⟨fuel,hf⟩:=h
 rcases Go.Deep.open_int_rows ht he hq ce cq hf with⟨hcs,_⟩|⟨a,len',cap',A,L,C,Z,hcs,_,hl,hm,_,hrow⟩
 ·simp only[Value.cells,List.cons.injEq,Value.slice.injEq,and_true]at hcs
  obtain⟨rfl,rfl,rfl⟩:=hcs
  exact⟨[],none,0,rfl,Nat.le_refl _,Nat.zero_le _,fun _=>rfl,by simp⟩
 ·simp only[Value.cells,List.cons.injEq,Value.slice.injEq,and_true]at hcs
  obtain⟨rfl,rfl,rfl⟩:=hcs
  refine⟨(List.range len).map fun r=>(Z r).take (L r),some a,cap,by simp,by simpa using hl,hm,(fun h=>by cases h),fun i xs hi=>?_⟩
  have hil:i<len:=by
   have:=(List.getElem?_eq_some_iff.1 hi).1
   simpa using this
  rw[List.getElem?_map,List.getElem?_range hil]at hi
  obtain rfl:=Option.some.inj hi
  obtain⟨h1,h2,h3,h4,h5,h6,h7⟩:=hrow i (by omega)
  obtain⟨g,o,rfl⟩:=add_form (hrow 0 (by omega)).1
  have hc:W.cell? ⟨g,o+i,none⟩=some (.slice (A i) (L i) (C i)):=by rw[←addr_add2];exact h1
  have htl:((Z i).take (L i)).length=L i:=by rw[List.length_take];omega
  refine⟨g,o,_,rfl,World.block_lt_of_cell? W _ hc,hc,A i,C i,by rw[htl],by rw[htl];exact h2,h3,h6,fun n hn=>h5 n (List.mem_of_mem_take hn),fun j x hj=>?_⟩
  change ((Z i).take (L i))[j]? =some x at hj
  have hjl:j<L i:=by
   have:=(List.getElem?_eq_some_iff.1 hj).1
   omega
  rw[List.getElem?_take_of_lt hjl]at hj
  cases hA:A i with
  | none=>have:=h6 hA;omega
  | some a'=>
   have hx:=(h7 a' hA).2 j (by omega)
   rw[List.getD_eq_getElem?_getD,hj]at hx
   obtain⟨g',o',rfl⟩:=add_form ((h7 a' hA).2 0 (by omega))
   have hc':W.cell? ⟨g',o'+j,none⟩=some (.int k x):=by rw[←addr_add2];exact hx
   exact⟨g',o',rfl,World.block_lt_of_cell? W _ hc',hc'⟩
end Go.Proofs.YtajbmjpodeilpaaGreatDoor
namespace Go.Proofs.YtajbmjpodeilpaaGreatDoor
open Go.RowKit
theorem mx_cell {w:World} {b j:Nat} {cs:Array Value} {t:TypeId} {fz:Nat×Nat} (h:w.heap[b]? =some (.cells cs t fz)):w.cell? ⟨b,j,none⟩=cs[j]? :=by
 simp[World.cell?,h]
theorem mx_set {w:World} {b j:Nat} {cs:Array Value} {t:TypeId} {fz:Nat×Nat} (h:w.heap[b]? =some (.cells cs t fz)) (v:Value):(w.setCell ⟨b,j,none⟩ v).heap[b]? =some (.cells (cs.setIfInBounds j v) t fz):=by
 unfold World.setCell
 simp only[Array.getElem?_modify]
 rw[h]
 simp
theorem mx_slice {w:World} {base size n:Nat} {e:TypeId} {v:Value} {xs:List Value} (h:w.ownsRow base e size v n xs): ∃A c,v= .slice A n c∧n≤c:=by
 rcases h.2 with⟨rfl,rfl⟩|⟨g,cap,cur,rfl,_,_,hle,_⟩
 ·exact⟨none,0,rfl,Nat.le_refl _⟩
 ·exact⟨_,cap,rfl,hle⟩
theorem mx_al (w:World) (o:Obj):Below w.heap.size w (w.alloc o):=(Below.refl _ _).alloc (Nat.le_refl _) _
theorem mx_drew (w:World):Below w.heap.size w w.drew:=(Below.refl _ _).drew
theorem mx_drewN (w:World) (n:Nat):Below w.heap.size w (w.drewN n):=⟨rfl,rfl,rfl,Nat.le_refl _,fun _ _=>rfl⟩
theorem mx_some {w:World} {base size n:Nat} {e:TypeId} {v:Value} {xs:List Value} (h:w.ownsRow base e size v n xs) (hn:0<n): ∃g c cs,v= .slice (some ⟨g,0,none⟩) n c∧n≤c∧base≤g∧g<w.heap.size∧w.heap[g]? =some (.cells cs e (0,0))∧cs.toList.take (n*size)=xs:=by
 rcases h.2 with⟨_,h0⟩|⟨g,cap,cur,hv,hb,hg,hle,_,_,hx⟩
 ·omega
 ·exact⟨g,cap,cur,hv,hle,hb,heap_lt hg,hg,hx⟩
theorem mx_at {w:World} {base size n c g j:Nat} {e:TypeId} {xs:List Value} {u:Value} (h:w.ownsRow base e size (.slice (some ⟨g,0,none⟩) n c) n xs) (hj:xs[j]? =some u):w.cell? ⟨g,j,none⟩=some u:=by
 rcases h.2 with⟨h0,_⟩|⟨g',cap,cur,hv,_,hg,_,_,_,hx⟩
 ·cases h0
 ·cases hv
  rw[mx_cell hg,←Array.getElem?_toList]
  rw[←hx,List.getElem?_take]at hj
  split at hj
  ·exact hj
  ·cases hj
theorem IntsIn.lt {O:Nat→Prop} {w:World} {v:Value} {xs:List Int} (h:IntsIn O w v xs):IntsIn (fun g=>O g∧g<w.heap.size) w v xs:=by
 obtain⟨A,c,hv,hc,hn,hx⟩:=h
 refine⟨A,c,hv,hc,hn,fun i x hi=>?_⟩
 obtain⟨g,o,h1,h2,h3,h4⟩:=hx i x hi
 exact⟨g,o,h1,h2,⟨h3,h2⟩,h4⟩
theorem mx_not {w:World} {base n size:Nat} {e T:TypeId} {v:Value} {xs:List Value} {b:Nat} {cs:Array Value} (h:w.ownsRow base e size v n xs) (hb:w.heap[b]? =some (.cells cs T (0,0))) (hT:T≠e):v.ownBlock≠some b:=by
 intro hg
 obtain⟨c',hc'⟩:=own_type h b hg
 rw[hb]at hc'
 cases hc'
 exact hT rfl
theorem mx_apart {w:World} {base n size base' n' size':Nat} {e e':TypeId} {v v':Value} {xs xs':List Value} (h:w.ownsRow base e size v n xs) (h':w.ownsRow base' e' size' v' n' xs') (he:e≠e') {g:Nat} (hg:v.ownBlock=some g):v'.ownBlock≠some g:=by
 obtain⟨c,hc⟩:=own_type h g hg
 exact mx_not h' hc he
end Go.Proofs.YtajbmjpodeilpaaGreatDoor
namespace Go.Proofs.YtajbmjpodeilpaaGreatDoor
open Go.RowKit
def overB (t:List UInt8):Bool:=decide (t= [])||decide (t= [99])||Lib.hasPrefix t [99,32]
end Go.Proofs.YtajbmjpodeilpaaGreatDoor
namespace Go.Proofs.YtajbmjpodeilpaaGreatDoor
open Go.RowKit
set_option maxRecDepth 100000 in
set_option maxHeartbeats 1000000 in
theorem numbers_any (A:Option Addr) (n c:Nat) (w:World):
  Calls Tryz.prog 133 #[.slice A n c] w fun e w'=>e= .returned (.func (.func 169) #[] #[.pointer (some ⟨w.heap.size,0,none⟩)])∧w'.cell? ⟨w.heap.size,0,none⟩=some (.slice A n c)∧Below w.heap.size w w':=by
 go_enter Tryz.func133,Tryz.ntmps133
 go_wp2_with fail
 go_ret
 exact⟨rfl,cell_new _ _ _ _,(Below.refl _ _).alloc (Nat.le_refl _) _⟩
end Go.Proofs.YtajbmjpodeilpaaGreatDoor
namespace Go.Proofs.YtajbmjpodeilpaaGreatDoor
open Go.RowKit
def IdxPost (b:Bool) (w:World) (e:Ending) (w':World):Prop:=(∃i:Int,e= .returned (.int .i64 i)∧decide (0≤i)=b)∧w=w'
theorem getElem_of {α:Type} {l:List α} {i:Nat} (h:i<l.length): ∃x,l[i]? =some x:=⟨_,List.getElem?_eq_getElem h⟩
set_option maxRecDepth 100000 in
set_option maxHeartbeats 1000000 in
theorem index_c {O:Nat→Prop} (u:Value) (xs:List Int) (y:Int) (w:World) (h1:IntsIn O w u xs) (hs:xs.length≤140737488355328):
  Calls Tryz.prog 221 #[u,.int .i64 y] w (IdxPost (xs.contains y) w):=by
 obtain⟨A,c,rfl,hc,_,hx⟩:=h1
 obtain⟨b,hb⟩: ∃b,xs.contains y=b:=⟨_,rfl⟩
 rw[hb]
 have HB:=Lib.hid hb
 have HX:=Lib.hid hx
 clear hx hb
 go_enter Tryz.func221,Tryz.ntmps221
 go_wp2
 go_loop [8] (fun i=> ∃k:Nat,k≤xs.length∧i= .int .i64 k∧Hid (∀j,j<k→xs[j]? ≠some y)) (fun i=>xs.length-(intOf i).toNat)
 case atStart=>exact⟨0,Nat.zero_le _,rfl,Lib.hid (fun j hj=>by omega)⟩
 case round=>
  obtain⟨k,hk,rfl,HE⟩:=hrel
  by_cases hlt:k<xs.length
  ·obtain⟨x,hxk⟩:=getElem_of hlt
   obtain⟨g,o,rfl,hg,_,d1⟩:=HX.out k x hxk
   have HXK:=Lib.hid hxk
   clear hxk
   by_cases hxy:y=x
   ·subst hxy
    go_wp2
    go_ret
    refine⟨⟨_,rfl,?_⟩,rfl⟩
    have hm:y∈xs:=List.mem_of_getElem? HXK.out
    rw[←HB.out,List.contains_iff_mem.2 hm]
    exact decide_eq_true (by omega)
   ·have hne:(y==x)=false:=by simpa using hxy
    have HN:=Lib.hid hxy
    clear hxy
    go_wp2
    go_round
    case rel=>exact⟨k+1,by omega,by go_num,Lib.hid (fun j hj=>by
     rcases Nat.lt_or_ge j k with h|h
     ·exact HE.out j h
     ·obtain rfl:j=k:=by omega
      rw[HXK.out]
      exact fun e=>HN.out (Option.some.inj e).symm)⟩
    case measure=>simp[intOf];omega
  ·obtain rfl:k=xs.length:=by omega
   go_wp2
   go_ret
   refine⟨⟨_,rfl,?_⟩,rfl⟩
   have hm: ¬y∈xs:=fun h=>by
    obtain⟨j,hj⟩:=List.getElem?_of_mem h
    exact HE.out j (List.getElem?_eq_some_iff.1 hj).1 hj
   rw[←HB.out,show xs.contains y=false by simpa using hm]
   rfl
set_option maxHeartbeats 400000 in
theorem contains_c {O:Nat→Prop} (u:Value) (xs:List Int) (y:Int) (w:World) (h1:IntsIn O w u xs) (hs:xs.length≤140737488355328):
  Calls Tryz.prog 186 #[u,.int .i64 y] w fun e w'=>e= .returned (.bool (xs.contains y))∧w=w':=by
 have H0:=index_c u xs y w h1 hs
 obtain⟨b,hb⟩: ∃b,xs.contains y=b:=⟨_,rfl⟩
 rw[hb]at H0⊢
 have H:=Lib.hid H0
 clear H0 hb
 go_enter Tryz.func186,Tryz.ntmps186
 go_wp2_with fail
 refine H.out.mono ?_
 rintro e w' ⟨⟨i,rfl,hi⟩,rfl⟩
 have HI:=Lib.hid hi
 clear hi
 go_wp2_with fail
 go_ret
 exact⟨ret_bool HI.out,rfl⟩
theorem info_c:(Tryz.prog.info? 28).map (fun i=>(i.zero,i.size,i.bytes))=some (some (.int .i64 0),1,8):=by kernel_rfl
set_option maxRecDepth 100000 in
set_option maxHeartbeats 1000000 in
theorem clone_c {O:Nat→Prop} (u:Value) (xs:List Int) (w:World) (h1:IntsIn O w u xs) (hs:xs.length≤17592186044416):
  Calls Tryz.prog 33 #[u] w fun e w'=> ∃v,e= .returned v∧w'.ownsRow w.heap.size 28 1 v xs.length (xs.map (Value.int .i64))∧Below w.heap.size w w':=by
 obtain⟨i0,hi,hz0,hz1,hz2⟩:=info_parts info_c
 obtain⟨A,c,rfl,hc,hn,hx⟩:=h1
 cases A with
 | none=>
  obtain rfl:=hn rfl
  have h0:xs.length=0:=by omega
  obtain rfl:xs= []:=List.eq_nil_of_length_eq_zero h0
  have hq:=fun w=>Lib.run_eql_slice_nil (P:=Tryz.prog) w 30 28 none 0 0 0 0 Tryz.underlying30
  clear hn hx
  go_enter Tryz.func33,Tryz.ntmps33
  go_wp2
  go_ret
  exact⟨_,rfl,World.ownsRow_nil _ _ _ _,Below.refl _ _⟩
 | some a=>
  have HX:=Lib.hid hx
  have hq:=fun w=>Lib.run_eql_slice_nil (P:=Tryz.prog) w 30 28 (some a) xs.length c 0 0 Tryz.underlying30
  have hnews: ∀j u,(xs.map (Value.int .i64))[j]? =some u→(w.alloc (.cells #[] 28)).cell? (a.add j)=some u:=fun j u hj=>by
   rw[List.getElem?_map]at hj
   cases hxj:xs[j]? with
   | none=>rw[hxj]at hj;cases hj
   | some x=>
    rw[hxj]at hj
    obtain⟨g,o,hA,hg,_,d1⟩:=hx j x hxj
    obtain rfl:=Option.some.inj hA
    rw[addr_add2,((Below.refl _ _).alloc (Nat.le_refl _) _).cell hg,d1]
    exact hj
  have HN:=Lib.hid hnews
  have h0:(w.alloc (.cells #[] 28)).ownsRow w.heap.size 28 1 (.slice (some ⟨w.heap.size,0,none⟩) 0 0) 0 []:=⟨rfl,.inr ⟨w.heap.size,0,#[],rfl,Nat.le_refl _,World.alloc_heap_new _ _,Nat.le_refl _,Nat.zero_le _,rfl,rfl⟩⟩
  have H0:=Lib.hid h0
  clear hx hn hnews h0
  go_enter Tryz.func33,Tryz.ntmps33
  go_wp2_with (at_builtin;refine wpList_append_own_at _ rfl _ _ 30 rfl w.heap.size 28 i0 (.int .i64 0) 1 8 Tryz.underlying30 hi hz0 hz1 hz2 rfl (by decide) _ _ _ rfl H0.out a xs.length c (xs.map (Value.int .i64)) rfl (by simp) HN.out (by simp[Value.oneCell']) (by unfold maxLen;omega) (by omega) (by simp) ?_;intro v' w1 hown hgrow hnl hat)
  go_ret
  have hB:Below w.heap.size w w1:=((Below.refl w.heap.size w).alloc (Nat.le_refl _) (.cells #[] 28)).grown hgrow (by simp) (fun g hg=>by cases hg;exact Nat.le_refl _)
  exact⟨_,rfl,by simpa using hown,hB⟩
set_option maxRecDepth 100000 in
set_option maxHeartbeats 1000000 in
theorem index_l {O:Nat→Prop} (u:Value) (xs:List Int) (y:Int) (w:World) (h1:IntsIn O w u xs) (hs:xs.length≤140737488355328):
  Calls Tryz.prog 190 #[u,.int .i64 y] w (IdxPost (xs.contains y) w):=by
 obtain⟨A,c,rfl,hc,_,hx⟩:=h1
 obtain⟨b,hb⟩: ∃b,xs.contains y=b:=⟨_,rfl⟩
 rw[hb]
 have HB:=Lib.hid hb
 have HX:=Lib.hid hx
 clear hx hb
 go_enter Tryz.func190,Tryz.ntmps190
 go_wp2
 go_loop [8] (fun i=> ∃k:Nat,k≤xs.length∧i= .int .i64 k∧Hid (∀j,j<k→xs[j]? ≠some y)) (fun i=>xs.length-(intOf i).toNat)
 case atStart=>exact⟨0,Nat.zero_le _,rfl,Lib.hid (fun j hj=>by omega)⟩
 case round=>
  obtain⟨k,hk,rfl,HE⟩:=hrel
  by_cases hlt:k<xs.length
  ·obtain⟨x,hxk⟩:=getElem_of hlt
   obtain⟨g,o,rfl,hg,_,d1⟩:=HX.out k x hxk
   have HXK:=Lib.hid hxk
   clear hxk
   by_cases hxy:y=x
   ·subst hxy
    go_wp2
    go_ret
    refine⟨⟨_,rfl,?_⟩,rfl⟩
    have hm:y∈xs:=List.mem_of_getElem? HXK.out
    rw[←HB.out,List.contains_iff_mem.2 hm]
    exact decide_eq_true (by omega)
   ·have hne:(y==x)=false:=by simpa using hxy
    have HN:=Lib.hid hxy
    clear hxy
    go_wp2
    go_round
    case rel=>exact⟨k+1,by omega,by go_num,Lib.hid (fun j hj=>by
     rcases Nat.lt_or_ge j k with h|h
     ·exact HE.out j h
     ·obtain rfl:j=k:=by omega
      rw[HXK.out]
      exact fun e=>HN.out (Option.some.inj e).symm)⟩
    case measure=>simp[intOf];omega
  ·obtain rfl:k=xs.length:=by omega
   go_wp2
   go_ret
   refine⟨⟨_,rfl,?_⟩,rfl⟩
   have hm: ¬y∈xs:=fun h=>by
    obtain⟨j,hj⟩:=List.getElem?_of_mem h
    exact HE.out j (List.getElem?_eq_some_iff.1 hj).1 hj
   rw[←HB.out,show xs.contains y=false by simpa using hm]
   rfl
set_option maxHeartbeats 400000 in
theorem contains_l {O:Nat→Prop} (u:Value) (xs:List Int) (y:Int) (w:World) (h1:IntsIn O w u xs) (hs:xs.length≤140737488355328):
  Calls Tryz.prog 160 #[u,.int .i64 y] w fun e w'=>e= .returned (.bool (xs.contains y))∧w=w':=by
 have H0:=index_l u xs y w h1 hs
 obtain⟨b,hb⟩: ∃b,xs.contains y=b:=⟨_,rfl⟩
 rw[hb]at H0⊢
 have H:=Lib.hid H0
 clear H0 hb
 go_enter Tryz.func160,Tryz.ntmps160
 go_wp2_with fail
 refine H.out.mono ?_
 rintro e w' ⟨⟨i,rfl,hi⟩,rfl⟩
 have HI:=Lib.hid hi
 clear hi
 go_wp2_with fail
 go_ret
 exact⟨ret_bool HI.out,rfl⟩
end Go.Proofs.YtajbmjpodeilpaaGreatDoor
namespace Go.Proofs.YtajbmjpodeilpaaGreatDoor
open Go.RowKit Go.Maps
theorem int_law:Keyed Tryz.prog 3:=int_keyed Tryz.underlying3
theorem int_zero (w:World):(zeroValue 3).run Tryz.prog w= .ok (.int .i64 0) w:=by kernel_rfl
theorem wf64 {x:Int} (h0: -9223372036854775808≤x) (h1:x≤9223372036854775807):(Lit.int .i64 x).wf=true:=by
 refine WalkArith.wf_i64 ?_
 omega
def MapAt (w:World) (b n:Nat) (f:Int→Int):Prop:=
 ∃D:DataW Unit,w.ownsMap Tryz.prog 3 (plainElem Tryz.prog 3) b n D∧IsMap D∧∀x:Int,(Lit.int .i64 x).wf=true→D.atKey (.int .i64 x) (.lit (.int .i64 0))= .lit (.int .i64 (f x))
theorem MapAt.lt {w:World} {b n:Nat} {f:Int→Int} (h:MapAt w b n f):b<w.heap.size:=by
 obtain⟨D,⟨es,cl,hb,_⟩,_⟩:=h
 exact heap_lt hb
theorem MapAt.kept {O:Nat→Prop} {w w':World} {b n:Nat} {f:Int→Int} (h:MapAt w b n f) (k:Kept O w w') (hO: ¬O b):MapAt w' b n f:=by
 obtain⟨D,⟨es,cl,hb,rest⟩,h2⟩:=h
 exact⟨D,⟨es,cl,(k.block b (heap_lt hb) hO).trans hb,rest⟩,h2⟩
theorem MapAt.below {w w':World} {b n:Nat} {f:Int→Int} (h:MapAt w b n f) (k:Below w.heap.size w w'):MapAt w' b n f:=
 h.kept (O:=fun _=>False) (Kept.of_below k) (fun h=>h)
theorem MapAt.made (w:World):MapAt (w.alloc (.map #[] 0)) w.heap.size 0 (fun _=>0):=
 ⟨.map [],World.ownsMap_made _ _ _ _,isMap_empty,fun _ _=>rfl⟩
theorem MapAt.lookup {w:World} {b n:Nat} {f:Int→Int} (h:MapAt w b n f) {x:Int} (hx:(Lit.int .i64 x).wf=true):
  (Instr.lookup 115 (.map (some b)) (.int .i64 x) false).run Tryz.prog w= .ok (.int .i64 (f x)) w:=by
 obtain⟨D,ho,hm,hf⟩:=h
 obtain⟨c,hrun,hat,_⟩:=ho.lookup_int int_law Tryz.underlying115 Tryz.underlying3 (int_zero _) (keyOf_int_mk Tryz.underlying3 hx)
 have:=hf x hx
 rw[hat]at this
 have hc:c=f x:=by simpa using this
 rw[hrun,hc]
theorem MapAt.put {w':World} {b n:Nat} {f:Int→Int} {D:DataW Unit} {x y:Int} (hm:IsMap D) (hf: ∀x:Int,(Lit.int .i64 x).wf=true→D.atKey (.int .i64 x) (.lit (.int .i64 0))= .lit (.int .i64 (f x)))
  (h:w'.ownsMap Tryz.prog 3 (plainElem Tryz.prog 3) b (n+1) (D.put (.int .i64 x) (.lit (.int .i64 y)))):MapAt w' b (n+1) (fun z=>if z=x then y else f z):=by
 refine⟨_,h,hm.put _ _,fun z hz=>?_⟩
 show _=DataW.lit (Lit.int .i64 (if z=x then y else f z))
 by_cases hzx:z=x
 ·subst hzx
  rw[if_pos rfl,atKey_put_same hm (by simp[WideAt.IsKeyLit])]
 ·rw[if_neg hzx,atKey_put_other (by simpa using hzx),hf z hz]
end Go.Proofs.YtajbmjpodeilpaaGreatDoor
namespace Go.Proofs.YtajbmjpodeilpaaGreatDoor
open Go.RowKit
def litB (x:Int):Bool:=decide (x≠0∧ -1048576≤x∧x≤1048576)
theorem litB_iff (x:Int):litB x=true↔x≠0∧ -1048576≤x∧x≤1048576:=by simp[litB]
def clauseB (xs:List Int):Bool:=decide (xs.length≤4096)&&xs.all litB
set_option maxHeartbeats 400000 in
theorem right_lit (x:Int) (w:World):Calls Tryz.prog 128 #[.int .i64 x] w fun e w'=>e= .returned (.bool (litB x))∧w=w':=by
 obtain⟨b,hb⟩: ∃b,litB x=b:=⟨_,rfl⟩
 rw[hb]
 have HB:=Lib.hid hb
 clear hb
 by_cases h0:x=0
 ·subst h0
  go_enter Tryz.func128,Tryz.ntmps128
  go_wp2
  go_ret
  exact⟨ret_bool (by rw[←HB.out];rfl),rfl⟩
 ·have h1:(x != 0)=true:=by simpa using h0
  have H0:=Lib.hid h0
  clear h0
  by_cases h2: -1048576≤x
  ·have h2':decide (-1048576≤x)=true:=by simpa using h2
   by_cases h3:x≤1048576
   ·have h3':decide (x≤1048576)=true:=by simpa using h3
    go_enter Tryz.func128,Tryz.ntmps128
    go_wp2
    go_ret
    exact⟨ret_bool (by rw[←HB.out];exact((litB_iff x).2 ⟨H0.out,h2,h3⟩).symm),rfl⟩
   ·have h3':decide (x≤1048576)=false:=by simpa using h3
    go_enter Tryz.func128,Tryz.ntmps128
    go_wp2
    go_ret
    exact⟨ret_bool (by rw[←HB.out];exact(Bool.eq_false_iff.2 (fun h=>by have:=(litB_iff x).1 h;omega)).symm),rfl⟩
  ·have h2':decide (-1048576≤x)=false:=by simpa using h2
   go_enter Tryz.func128,Tryz.ntmps128
   go_wp2
   go_ret
   exact⟨ret_bool (by rw[←HB.out];exact(Bool.eq_false_iff.2 (fun h=>by have:=(litB_iff x).1 h;omega)).symm),rfl⟩
theorem wrong_lit (x:Int) (w:World):Calls Tryz.prog 112 #[.int .i64 x] w fun e w'=>e= .returned (.bool (!litB x))∧w=w':=by
 have H:=fun w=>right_lit x w
 obtain⟨b,hb⟩: ∃b,litB x=b:=⟨_,rfl⟩
 rw[hb]
 rw[hb]at H
 clear hb
 have H:=Lib.hid H
 go_enter Tryz.func112,Tryz.ntmps112
 go_wp2_with fail
 refine(H.out _).mono ?_
 rintro e w' ⟨rfl,rfl⟩
 go_wp2_with fail
 go_ret
 exact⟨rfl,rfl⟩
set_option maxRecDepth 100000 in
set_option maxHeartbeats 1000000 in
theorem index_wrong {O:Nat→Prop} (u:Value) (xs:List Int) (w:World) (h1:IntsIn O w u xs) (hs:xs.length≤140737488355328):
  Calls Tryz.prog 126 #[u,.func (.func 112) #[] #[]] w (IdxPost (!xs.all litB) w):=by
 obtain⟨A,c,rfl,hc,_,hx⟩:=h1
 obtain⟨b,hb⟩: ∃b,(!xs.all litB)=b:=⟨_,rfl⟩
 rw[hb]
 have HB:=Lib.hid hb
 have HX:=Lib.hid hx
 clear hx hb
 go_enter Tryz.func126,Tryz.ntmps126
 go_wp2
 go_loop [8] (fun i=> ∃k:Nat,k≤xs.length∧i= .int .i64 k∧Hid (∀j x,j<k→xs[j]? =some x→litB x=true)) (fun i=>xs.length-(intOf i).toNat)
 case atStart=>exact⟨0,Nat.zero_le _,rfl,Lib.hid (fun j x hj=>by omega)⟩
 case round=>
  obtain⟨k,hk,rfl,HE⟩:=hrel
  by_cases hlt:k<xs.length
  ·obtain⟨x,hxk⟩:=getElem_of hlt
   obtain⟨g,o,rfl,hg,_,d1⟩:=HX.out k x hxk
   have HXK:=Lib.hid hxk
   have HW:=wrong_lit x
   clear hxk
   cases hl:litB x with
   | false=>
    rw[hl]at HW
    have HL:=Lib.hid hl
    have HW:=Lib.hid HW
    clear hl
    go_wp2_with fail
    refine(HW.out _).mono ?_
    rintro e w' ⟨rfl,rfl⟩
    go_wp2
    go_ret
    refine⟨⟨_,rfl,?_⟩,rfl⟩
    have hm:(xs.all litB)=false:=Bool.eq_false_iff.2 (fun h=>by
     have:=List.all_eq_true.1 h x (List.mem_of_getElem? HXK.out)
     rw[HL.out]at this
     cases this)
    rw[←HB.out,hm]
    exact decide_eq_true (by omega)
   | true=>
    rw[hl]at HW
    have HL:=Lib.hid hl
    have HW:=Lib.hid HW
    clear hl
    go_wp2_with fail
    refine(HW.out _).mono ?_
    rintro e w' ⟨rfl,rfl⟩
    go_wp2
    go_round
    case rel=>exact⟨k+1,by omega,by go_num,Lib.hid (fun j y hj hy=>by
     rcases Nat.lt_or_ge j k with h|h
     ·exact HE.out j y h hy
     ·obtain rfl:j=k:=by omega
      rw[HXK.out]at hy
      obtain rfl:=Option.some.inj hy
      exact HL.out)⟩
    case measure=>simp[intOf];omega
  ·obtain rfl:k=xs.length:=by omega
   go_wp2
   go_ret
   refine⟨⟨_,rfl,?_⟩,rfl⟩
   have hm:(xs.all litB)=true:=List.all_eq_true.2 (fun x hx=>by
    obtain⟨j,hj⟩:=List.getElem?_of_mem hx
    exact HE.out j x (List.getElem?_eq_some_iff.1 hj).1 hj)
   rw[←HB.out,hm]
   rfl
set_option maxHeartbeats 400000 in
theorem contains_wrong {O:Nat→Prop} (u:Value) (xs:List Int) (w:World) (h1:IntsIn O w u xs) (hs:xs.length≤140737488355328):
  Calls Tryz.prog 87 #[u,.func (.func 112) #[] #[]] w fun e w'=>e= .returned (.bool (!xs.all litB))∧w=w':=by
 have H0:=index_wrong u xs w h1 hs
 obtain⟨b,hb⟩: ∃b,(!xs.all litB)=b:=⟨_,rfl⟩
 rw[hb]at H0⊢
 have H:=Lib.hid H0
 clear H0 hb
 go_enter Tryz.func87,Tryz.ntmps87
 go_wp2_with fail
 refine H.out.mono ?_
 rintro e w' ⟨⟨i,rfl,hi⟩,rfl⟩
 have HI:=Lib.hid hi
 clear hi
 go_wp2_with fail
 go_ret
 exact⟨ret_bool HI.out,rfl⟩
set_option maxHeartbeats 400000 in
theorem right_clause {O:Nat→Prop} (u:Value) (xs:List Int) (w:World) (h1:IntsIn O w u xs) (hs:xs.length≤140737488355328):
  Calls Tryz.prog 74 #[u] w fun e w'=>e= .returned (.bool (clauseB xs))∧w=w':=by
 have H0:=contains_wrong u xs w h1 hs
 obtain⟨A,c,rfl,_⟩:=h1
 unfold clauseB
 by_cases hl:xs.length≤4096
 ·have hl':decide ((xs.length:Int)≤4096)=true:=by simp;omega
  rw[decide_eq_true hl,Bool.true_and]
  cases ha:xs.all litB with
  | true=>
   rw[ha]at H0
   have H:=Lib.hid H0
   clear H0 ha
   go_enter Tryz.func74,Tryz.ntmps74
   go_wp2_with fail
   refine H.out.mono ?_
   rintro e w' ⟨rfl,rfl⟩
   go_wp2_with fail
   go_ret
   exact⟨rfl,rfl⟩
  | false=>
   rw[ha]at H0
   have H:=Lib.hid H0
   clear H0 ha
   go_enter Tryz.func74,Tryz.ntmps74
   go_wp2_with fail
   refine H.out.mono ?_
   rintro e w' ⟨rfl,rfl⟩
   go_wp2_with fail
   go_ret
   exact⟨rfl,rfl⟩
 ·have hl':decide ((xs.length:Int)≤4096)=false:=by simp;omega
  rw[decide_eq_false hl,Bool.false_and]
  clear H0
  go_enter Tryz.func74,Tryz.ntmps74
  go_wp2_with fail
  go_ret
  exact⟨rfl,rfl⟩
end Go.Proofs.YtajbmjpodeilpaaGreatDoor
namespace Go.Proofs.YtajbmjpodeilpaaGreatDoor
structure EStep where
 del:Bool
 id:Int
 lits:List Int
 hints:List Int
end Go.Proofs.YtajbmjpodeilpaaGreatDoor
namespace Go.Proofs.YtajbmjpodeilpaaGreatDoor
def HintOk (x:Int):Prop:=1≤x∧x≤1073741824
structure StepOk (s:EStep):Prop where
 id0:1≤s.id
 id1:s.id≤1073741824
 del:s.del=true→s.lits= []
 lits:clauseB s.lits=true
 len:s.hints.length≤65536
 hints: ∀x∈s.hints,HintOk x
def prevId (l:List EStep):Nat→Int
 | 0=>0
 | k+1=>((l[k]?).map EStep.id).getD 0
structure ProofOk (l:List EStep):Prop where
 each: ∀s∈l,StepOk s
 fits: ∀k s,l[k]? =some s→prevId l k<s.id∨s.del=true∧s.id=prevId l k
 len:l.length≤262144
end Go.Proofs.YtajbmjpodeilpaaGreatDoor
