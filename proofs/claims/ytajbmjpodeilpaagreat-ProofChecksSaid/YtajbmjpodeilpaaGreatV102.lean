/- Clauses in blocks of which something is known. A formula, and steps of a proof, that came in: from what memory reads as to the walk's facts. Literals: Var, Neg. Literals: Negated, Index, Compare; their order. What a range over a function keeps: all cells and walks but some. slices.Values, AppendSeq, Collect, SortFunc, SortedFunc at literals. -/
import Derived.Test.YtajbmjpodeilpaaGreatV101
import Derived.Test.YtajbmjpodeilpaaGreatV100
import Derived.Deep.Slices
import Derived.Deep.Fields
import Derived.ChangeSame
import Derived.Sort.LotA
import Derived.Shelf.SlSortCmp.Whole1
import Derived.RangeFuncNested
import Derived.RangeFuncBound
import Derived.RangeFuncCalls
import Derived.RangeFuncLeaves
import Derived.RangeFuncBox
import Derived.Shelf.Abstract
import Derived.Shelf.RegionOpen
import Derived.OwnWalkIn
import Derived.TacticsInMore
import Derived.LoopNIn
import Derived.LoopIn
import Derived.Maps.OwnIn
import Derived.Sort.OwnSorted
namespace Go.Proofs.YtajbmjpodeilpaaGreat
open Go.RowKit
def ClsIn (O:Nat→Prop) (w:World) (v:Value) (cs:List (List Int)):Prop:=
 ∃A c,v= .slice A cs.length c∧cs.length≤c∧(A=none→c=0)∧∀i xs,cs[i]? =some xs→∃g o u,A=some ⟨g,o,none⟩∧g<w.heap.size∧O g∧w.cell? ⟨g,o+i,none⟩=some u∧IntsIn O w u xs
theorem ClsIn.kept {O O':Nat→Prop} {w w':World} {v:Value} {cs:List (List Int)} (h:ClsIn O w v cs) (k:Kept O' w w') (hO: ∀g,O g→¬O' g):ClsIn O w' v cs:=by
 obtain⟨A,c,hv,hc,hn,hx⟩:=h
 refine⟨A,c,hv,hc,hn,fun i xs hi=>?_⟩
 obtain⟨g,o,u,h1,h2,h3,h4,h5⟩:=hx i xs hi
 exact⟨g,o,u,h1,Nat.lt_of_lt_of_le h2 k.size,h3,(k.cell (p:=⟨g,o+i,none⟩) h2 (hO g h3)).trans h4,h5.kept k hO⟩
theorem ClsIn.below {O:Nat→Prop} {w w':World} {v:Value} {cs:List (List Int)} (h:ClsIn O w v cs) (k:Below w.heap.size w w'):ClsIn O w' v cs:=
 h.kept (O':=fun _=>False) (Kept.of_below k) (fun _ _ h=>h)
theorem ClsIn.mono {O O':Nat→Prop} {w:World} {v:Value} {cs:List (List Int)} (h:ClsIn O w v cs) (hO: ∀g,O g→O' g):ClsIn O' w v cs:=by
 obtain⟨A,c,hv,hc,hn,hx⟩:=h
 refine⟨A,c,hv,hc,hn,fun i xs hi=>?_⟩
 obtain⟨g,o,u,h1,h2,h3,h4,h5⟩:=hx i xs hi
 exact⟨g,o,u,h1,h2,hO g h3,h4,h5.mono hO⟩
theorem ClsIn.lt {O:Nat→Prop} {w:World} {v:Value} {cs:List (List Int)} (h:ClsIn O w v cs):ClsIn (fun g=>O g∧g<w.heap.size) w v cs:=by
 obtain⟨A,c,hv,hc,hn,hx⟩:=h
 refine⟨A,c,hv,hc,hn,fun i xs hi=>?_⟩
 obtain⟨g,o,u,h1,h2,h3,h4,h5⟩:=hx i xs hi
 exact⟨g,o,u,h1,h2,⟨h3,h2⟩,h4,h5.lt⟩
theorem ClsOwn.clsIn {n:Nat} {w:World} {v:Value} {cs:List (List Int)} (h:ClsOwn n w v cs):ClsIn (fun g=>n≤g) w v cs:=by
 obtain⟨us,h1,h2⟩:=h
 rcases h1.2 with⟨rfl,h0⟩|⟨g,cap,cur,rfl,hb,hg,hle,_⟩
 ·exact⟨none,0,by rw[h0],by omega,fun _=>rfl,fun i xs hi=>by
   have:=(List.getElem?_eq_some_iff.1 hi).1
   omega⟩
 ·refine⟨_,cap,rfl,hle,(fun h=>by cases h),fun i xs hi=>?_⟩
  obtain⟨u,hu,ho⟩:=h2 i xs hi
  exact⟨g,0,u,rfl,heap_lt hg,hb,by rw[Nat.zero_add];exact mx_at h1 hu,(IntsIn.of_own ho).mono (fun g hg=>(own_lt ho g hg.2).1)⟩
theorem ClsIn.src {O:Nat→Prop} {w:World} {v:Value} {cs:List (List Int)} (h:ClsIn O w v cs): ∃us:List Value,us.length=cs.length∧SrcAt w v cs.length us∧(∀z∈us,z.oneCell'=true)∧∀(i:Nat) (xs:List Int),cs[i]? =some xs→∃u,us[i]? =some u∧IntsIn O w u xs:=by
 obtain⟨A,c,rfl,hc,hn,hx⟩:=h
 cases A with
 | none=>
  have h0:=hn rfl
  have h1:cs= []:=List.eq_nil_of_length_eq_zero (by omega)
  subst h1
  subst h0
  exact⟨[],rfl,.inl ⟨rfl,rfl,rfl⟩,(fun z hz=>by cases hz),fun i xs hi=>by simp at hi⟩
 | some a=>
  obtain⟨ga,oa,fa⟩:=a
  have key: ∀i,i<cs.length→∃u xs,cs[i]? =some xs∧fa=none∧w.cell? ⟨ga,oa+i,none⟩=some u∧IntsIn O w u xs:=fun i hi=>by
   obtain⟨xs,hxs⟩:=getElem_of hi
   obtain⟨g,o,u,h1,_,_,h4,h5⟩:=hx i xs hxs
   cases h1
   exact⟨u,xs,hxs,rfl,h4,h5⟩
  refine⟨(List.range cs.length).map (fun i=>(w.cell? ⟨ga,oa+i,none⟩).getD undef),by simp,.inr ⟨_,c,rfl,fun j u hj=>?_⟩,fun z hz=>?_,fun i xs hi=>?_⟩
  ·have hjl:j<cs.length:=by
    have:=(List.getElem?_eq_some_iff.1 hj).1
    simpa using this
   rw[List.getElem?_map,List.getElem?_range hjl]at hj
   obtain⟨u',xs,_,rfl,h4,_⟩:=key j hjl
   rw[addr_add2]
   simp only[Option.map_some,h4,Option.getD_some,Option.some.injEq]at hj
   rw[h4,hj]
  ·obtain⟨i,hi,rfl⟩:=List.mem_map.1 hz
   obtain⟨u',xs,_,rfl,h4,h5⟩:=key i (List.mem_range.1 hi)
   rw[h4]
   obtain⟨A',c',h,_⟩:=h5
   rw[h]
   rfl
  ·have hil:=(List.getElem?_eq_some_iff.1 hi).1
   obtain⟨u',xs',h1,rfl,h4,h5⟩:=key i hil
   rw[hi]at h1
   obtain rfl:=Option.some.inj h1
   refine⟨u',?_,h5⟩
   rw[List.getElem?_map,List.getElem?_range hil]
   simp[h4]
end Go.Proofs.YtajbmjpodeilpaaGreat
namespace Go.Proofs.YtajbmjpodeilpaaGreat
open Go.ChangeShapes Go.WideShapes Go.ChangeAt Go.RowKit
theorem list_chooseI {α:Type} {P:Nat→α→Prop} (n:Nat) (h: ∀i,i<n→∃x,P i x): ∃l:List α,l.length=n∧∀i x,l[i]? =some x→P i x:=by
 induction n with
 | zero=>exact⟨[],rfl,fun i x hx=>by simp at hx⟩
 | succ n ih=>
  obtain⟨l,hl,hp⟩:=ih (fun i hi=>h i (by omega))
  obtain⟨x,hx⟩:=h n (by omega)
  refine⟨l++ [x],by simp[hl],fun i y hy=>?_⟩
  rcases Nat.lt_or_ge i l.length with hi|hi
  ·rw[List.getElem?_append_left hi]at hy
   exact hp i y hy
  ·have hlt:=(List.getElem?_eq_some_iff.1 hy).1
   rw[List.length_append,List.length_singleton]at hlt
   have hin:i=l.length:=by omega
   subst hin
   rw[List.getElem?_append_right (Nat.le_refl _),Nat.sub_self]at hy
   obtain rfl:=Option.some.inj hy
   rw[hl]
   exact hx
theorem RowAt.intsR {w:World} {v:Value} {xs:List Int} (h:RowAt .i64 w v xs):IntsIn (fun _=>True) w v xs∧∀x∈xs,-9223372036854775808≤x∧x≤9223372036854775807:=by
 obtain⟨A,c,hv,hc,_,hn,hw,hx⟩:=h
 refine⟨⟨A,c,hv,hc,hn,fun i x hi=>?_⟩,fun x hx=>?_⟩
 ·obtain⟨g,o,h1,h2,h3⟩:=hx i x hi
  exact⟨g,o,h1,h2,trivial,h3⟩
 ·have:=hw x hx
  simp only[Lit.wf,Bool.and_eq_true,decide_eq_true_eq]at this
  exact⟨this.1,this.2⟩
theorem RowsAt.clsI {w:World} {v:Value} {xss:List (List Int)} (h:RowsAt .i64 w v xss):ClsIn (fun _=>True) w v xss:=by
 obtain⟨A,c,hv,hc,_,hn,hx⟩:=h
 refine⟨A,c,hv,hc,hn,fun i xs hi=>?_⟩
 obtain⟨g,o,u,h1,h2,h3,h4⟩:=hx i xs hi
 exact⟨g,o,u,h1,h2,trivial,h3,h4.intsR.1⟩
theorem row_of_trodI {P:Program} {H:Type} {enc:TypeId×Value→H} {W:World} {t e:TypeId} {k:IntKind} {v:Value} {fuel:Nat} {x:DataW H×List MemPlace} (ht:P.underlying t=some (.slice e)) (he:P.underlying e=some (.int k)) (hc:P.cellsOf e=1)
  (hf:DataW.trod enc P W 0 (fun _=>true) true fuel t [v]=some x): ∃xs,RowAt k W v xs:=by
 rcases open_ints ht he hc hf with⟨hcs,_⟩|⟨a,len,cap,zs,hcs,_,hl,hm,hz,_,hcell,hwz⟩
 ·obtain rfl:v= .slice none 0 0:=by simpa using hcs
  exact⟨[],none,0,rfl,Nat.le_refl _,Nat.zero_le _,fun _=>rfl,by simp,by simp⟩
 ·obtain rfl:v= .slice (some a) len cap:=by simpa using hcs
  simp only[if_true]at hz
  have htl:(zs.take len).length=len:=by rw[List.length_take];omega
  refine⟨zs.take len,some a,cap,by rw[htl],by rw[htl];exact hl,hm,(fun h=>by cases h),fun n hn=>hwz n (List.mem_of_mem_take hn),fun i x hi=>?_⟩
  have hil:i<len:=by
   have:=(List.getElem?_eq_some_iff.1 hi).1
   omega
  rw[List.getElem?_take_of_lt hil]at hi
  obtain⟨b,off,rfl,hc2⟩:=ints_at hcell (by omega)
  have hx:=hc2 i (by omega)
  rw[List.getD_eq_getElem?_getD,hi]at hx
  exact⟨b,off,rfl,World.block_lt_of_cell? W _ hx,hx⟩
theorem rows_of_trodI {P:Program} {H:Type} {enc:TypeId×Value→H} {W:World} {t e q:TypeId} {k:IntKind} {v:Value} {fuel:Nat} {x:DataW H×List MemPlace} (ht:P.underlying t=some (.slice e)) (he:P.underlying e=some (.slice q)) (hq:P.underlying q=some (.int k)) (ce:P.cellsOf e=1) (cq:P.cellsOf q=1)
  (hf:DataW.trod enc P W 0 (fun _=>true) true fuel t [v]=some x): ∃xss,RowsAt k W v xss:=by
 rcases Go.Deep.open_int_rows ht he hq ce cq hf with⟨hcs,_⟩|⟨a,len,cap,A,L,C,Z,hcs,_,hl,hm,_,hrow⟩
 ·obtain rfl:v= .slice none 0 0:=by simpa using hcs
  exact⟨[],none,0,rfl,Nat.le_refl _,Nat.zero_le _,fun _=>rfl,by simp⟩
 ·obtain rfl:v= .slice (some a) len cap:=by simpa using hcs
  refine⟨(List.range len).map fun r=>(Z r).take (L r),some a,cap,by simp,by simpa using hl,hm,(fun h=>by cases h),fun i xs hi=>?_⟩
  have hil:i<len:=by
   have:=(List.getElem?_eq_some_iff.1 hi).1
   simpa using this
  rw[List.getElem?_map,List.getElem?_range hil]at hi
  obtain rfl:=Option.some.inj hi
  obtain⟨h1,h2,h3,h4,h5,h6,h7⟩:=hrow i (by omega)
  obtain⟨g,o,rfl⟩:=add_form (hrow 0 (by omega)).1
  have hc:W.cell? ⟨g,o+i,none⟩=some (.slice (A i) (L i) (C i)):=by rw[←addr_add2];exact h1
  have htl:((Z i).take (L i)).length=L i:=by rw[List.length_take];omega
  refine⟨g,o,_,rfl,World.block_lt_of_cell? W _ hc,hc,A i,C i,by rw[htl],by rw[htl];exact h2,h3,h6,fun n hn=>h5 n (List.mem_of_mem_take hn),fun j x hj=>?_⟩
  change ((Z i).take (L i))[j]? =some x at hj
  have hjl:j<L i:=by
   have:=(List.getElem?_eq_some_iff.1 hj).1
   omega
  rw[List.getElem?_take_of_lt hjl]at hj
  cases hA:A i with
  | none=>have:=h6 hA;omega
  | some a'=>
   have hx:=(h7 a' hA).2 j (by omega)
   rw[List.getD_eq_getElem?_getD,hj]at hx
   obtain⟨g',o',rfl⟩:=add_form ((h7 a' hA).2 0 (by omega))
   have hc':W.cell? ⟨g',o'+j,none⟩=some (.int k x):=by rw[←addr_add2];exact hx
   exact⟨g',o',rfl,World.block_lt_of_cell? W _ hc',hc'⟩
theorem open_formula {P:Program} {H:Type} {enc:TypeId×Value→H} {W:World} {base:Nat} {t e q:TypeId} {f0 f1:Field} {v:Value} {d:DataW H} {p:List MemPlace} (ht:P.underlying t=some (.struct #[f0,f1])) (ct:P.cellsOf t=2) (o0:f0.offset=0) (o1:f1.offset=1) (c0:P.cellsOf f0.type=1) (c1:P.cellsOf f1.type=1)
  (u0:P.underlying f0.type=some (.int .i64)) (u1:P.underlying f1.type=some (.slice e)) (he:P.underlying e=some (.slice q)) (hq:P.underlying q=some (.int .i64)) (ce:P.cellsOf e=1) (cq:P.cellsOf q=1)
  (hval:Value.okWide P W .any base t v) (h:DataW.Trod enc P W 0 (fun _=>true) true t v d p): ∃(vn:Int) (u:Value) (cs:List (List Int)),v= .agg #[.int .i64 vn,u]∧ClsIn (fun _=>True) W u cs:=by
 obtain⟨cells,rfl,hsz⟩:=okWide_struct ht hval
 obtain⟨fuel,hf⟩:=h
 obtain⟨y0,y1,n,_,hlen,g0,g1⟩:=trod_struct2 ht hf
 obtain⟨l⟩:=cells
 match l,hsz with
 | [a,u],_=>
  simp only[Value.cells]at g0 g1
  rw[o0,c0]at g0
  rw[o1,c1]at g1
  obtain⟨vn,hvn,_⟩:=DataW.trod_int u0 g0
  obtain rfl:a= .int .i64 vn:=by simpa using hvn
  obtain⟨xss,hx⟩:=rows_of_trodI u1 he hq ce cq (v:=u) (by simpa using g1)
  exact⟨vn,u,xss,rfl,hx.clsI⟩
 | [],hs=>rw[ct]at hs;simp at hs
 | [_],hs=>rw[ct]at hs;simp at hs
 | _::_::_::_,hs=>rw[ct]at hs;simp at hs
theorem open_steps {P:Program} {H:Type} {enc:TypeId×Value→H} {W:World} {base:Nat} {t e q2 q3:TypeId} {f0 f1 f2 f3:Field} {v:Value} {d:DataW H} {p:List MemPlace} (ht:P.underlying t=some (.slice e)) (he:P.underlying e=some (.struct #[f0,f1,f2,f3])) (ce:P.cellsOf e=4)
  (o0:f0.offset=0) (o1:f1.offset=1) (o2:f2.offset=2) (o3:f3.offset=3) (c0:P.cellsOf f0.type=1) (c1:P.cellsOf f1.type=1) (c2:P.cellsOf f2.type=1) (c3:P.cellsOf f3.type=1) (u0:P.underlying f0.type=some .bool) (u1:P.underlying f1.type=some (.int .i64))
  (u2:P.underlying f2.type=some (.slice q2)) (r2:P.underlying q2=some (.int .i64)) (s2:P.cellsOf q2=1) (u3:P.underlying f3.type=some (.slice q3)) (r3:P.underlying q3=some (.int .i64)) (s3:P.cellsOf q3=1)
  (hval:Value.okWide P W .any base t v) (h:DataW.Trod enc P W 0 (fun _=>true) true t v d p): ∃ss:List EStep,StepIn (fun _=>True) W v ss∧∀s∈ss,∀x∈s.hints,-9223372036854775808≤x∧x≤9223372036854775807:=by
 obtain⟨a1,len,cap,rfl⟩:=okWide_slice ht hval
 obtain⟨fuel,hf⟩:=h
 rcases Go.Deep.open_slice ht hf with⟨hcs,_⟩|⟨a,len',cap',m,n,D,Pl,hcs,_,hl,hm,hmm,_,hi⟩
 ·simp only[Value.cells,List.cons.injEq,Value.slice.injEq,and_true]at hcs
  obtain⟨rfl,rfl,rfl⟩:=hcs
  exact⟨[],⟨none,0,rfl,Nat.le_refl _,fun _=>rfl,fun i a hi=>by simp at hi⟩,fun s hs=>by cases hs⟩
 ·simp only[Value.cells,List.cons.injEq,Value.slice.injEq,and_true]at hcs
  obtain⟨rfl,rfl,rfl⟩:=hcs
  simp only[if_true]at hmm
  have hall: ∀i,i<len→∃s:EStep,(∃g o lv iv,some a=some (⟨g,o,none⟩:Addr)∧g<W.heap.size∧True∧W.cell? ⟨g,o+i*4,none⟩=some (.bool s.del)∧W.cell? ⟨g,o+i*4+1,none⟩=some (.int .i64 s.id)∧W.cell? ⟨g,o+i*4+2,none⟩=some lv∧W.cell? ⟨g,o+i*4+3,none⟩=some iv∧IntsIn (fun _=>True) W lv s.lits∧IntsIn (fun _=>True) W iv s.hints)∧∀x∈s.hints,-9223372036854775808≤x∧x≤9223372036854775807:=by
   intro i hil
   obtain⟨cs',hc,htr⟩:=hi i (by omega)
   obtain⟨xs,n',_,_,hlen,hxl,hg⟩:=DataW.trod_struct he htr
   obtain⟨_,hcl,hat⟩:=World.cells?_some hc
   rw[ce]at hlen hat hcl
   obtain⟨cs0,hc0,_⟩:=hi 0 (by omega)
   obtain⟨_,hcl0,hat0⟩:=World.cells?_some hc0
   rw[ce]at hcl0 hat0
   have kz:=(hat0 0 (by omega)).trans (List.getElem?_eq_getElem (by omega))
   rw[Go.Deep.add_add,Nat.zero_mul,Nat.add_zero]at kz
   match cs',hlen with
   | [w0,w1,w2,w3],_=>
    have g0:=hg 0 f0 rfl
    have g1:=hg 1 f1 rfl
    have g2:=hg 2 f2 rfl
    have g3:=hg 3 f3 rfl
    rw[o0,c0]at g0
    rw[o1,c1]at g1
    rw[o2,c2]at g2
    rw[o3,c3]at g3
    have x0:xs[0]? =some (xs[0]'(by rw[hxl];show 0<4;omega)):=List.getElem?_eq_getElem _
    have x1:xs[1]? =some (xs[1]'(by rw[hxl];show 1<4;omega)):=List.getElem?_eq_getElem _
    have x2:xs[2]? =some (xs[2]'(by rw[hxl];show 2<4;omega)):=List.getElem?_eq_getElem _
    have x3:xs[3]? =some (xs[3]'(by rw[hxl];show 3<4;omega)):=List.getElem?_eq_getElem _
    obtain⟨bf,hb,_⟩:=DataW.trod_bool u0 (g0.trans x0)
    obtain rfl:w0= .bool bf:=by simpa using hb
    obtain⟨id,hid,_⟩:=DataW.trod_int u1 (g1.trans x1)
    obtain rfl:w1= .int .i64 id:=by simpa using hid
    obtain⟨lits,hlits⟩:=row_of_trodI u2 r2 s2 (g2.trans x2)
    obtain⟨hints,hhints⟩:=row_of_trodI u3 r3 s3 (g3.trans x3)
    have k0:=hat 0 (by omega)
    have k1:=hat 1 (by omega)
    have k2:=hat 2 (by omega)
    have k3:=hat 3 (by omega)
    rw[Go.Deep.add_add]at k0 k1 k2 k3
    obtain⟨g,o,rfl⟩:=add_form kz
    rw[addr_add2]at k0 k1 k2 k3
    refine⟨⟨bf,id,lits,hints⟩,⟨g,o,w2,w3,rfl,World.block_lt_of_cell? W _ k0,trivial,?_,?_,?_,?_,hlits.intsR.1,hhints.intsR.1⟩,hhints.intsR.2⟩
    ·simpa using k0
    ·simpa [Nat.add_assoc] using k1
    ·simpa [Nat.add_assoc] using k2
    ·simpa [Nat.add_assoc] using k3
  obtain⟨al,hlal,hp⟩:=list_chooseI len hall
  refine⟨al,⟨some a,cap,by rw[hlal],by rw[hlal];exact hl,(fun h=>by cases h),fun i s hi=>(hp i s hi).1⟩,fun s hs=>?_⟩
  obtain⟨i,hi⟩:=List.getElem?_of_mem hs
  exact(hp i s hi).2
end Go.Proofs.YtajbmjpodeilpaaGreat
namespace Go.Proofs.YtajbmjpodeilpaaGreat
open Go.RowKit
def litV (l:Int):Nat:=if litB l=true then l.natAbs else 0
set_option maxHeartbeats 1000000 in
theorem lit_var (l:Int) (w:World):Calls Tryz.prog 118 #[.int .i64 l] w fun e w'=>e= .returned (.int .i64 (litV l:Nat))∧w=w':=by
 have HR:=Lib.hid (right_lit l w)
 rcases hb:litB l with _|_
 ·rw[hb]at HR
  have hv:litV l=0:=by unfold litV;rw[if_neg (by rw[hb];decide)]
  rw[hv]
  clear hb hv
  go_enter Tryz.func118,Tryz.ntmps118
  go_wp2_with fail
  refine HR.out.mono ?_
  rintro e w' ⟨rfl,rfl⟩
  go_wp2_with fail
  go_ret
  exact⟨rfl,rfl⟩
 ·rw[hb]at HR
  have hr:=(litB_iff l).1 hb
  have hv:(litV l:Int)=max l (-l):=by unfold litV;rw[if_pos hb];omega
  have HV:=Lib.hid hv
  obtain⟨h0,h1,h2⟩:=hr
  clear hb hv
  have hw:IntKind.i64.wrap (-l)= -l:=IntWalk.i64_in _ (by omega)
  go_enter Tryz.func118,Tryz.ntmps118
  go_wp2_with fail
  refine HR.out.mono ?_
  rintro e w' ⟨rfl,rfl⟩
  go_wp2_with fail
  all_goals (go_ret;first|exact⟨ret_int (a:=max l (-l)) HV.out.symm,rfl⟩|exact⟨ret_int (a:= -l) (by have:=HV.out;omega),rfl⟩|exact⟨ret_int (a:=l) (by have:=HV.out;omega),rfl⟩)
def litN (l:Int):Int:=if litB l=true then -l else 0
theorem lit_neg (l:Int) (w:World):Calls Tryz.prog 107 #[.int .i64 l] w fun e w'=>e= .returned (.int .i64 (litN l))∧w=w':=by
 have HR:=right_lit l w
 cases hb:litB l
 ·
  rw[hb]at HR
  have HR:=Lib.hid HR
  have hv:litN l=0:=by unfold litN;rw[if_neg (by rw[hb];decide)]
  rw[hv]
  clear hb hv
  go_enter Tryz.func107,Tryz.ntmps107
  go_wp2_with fail
  refine HR.out.mono ?_
  rintro e w' ⟨rfl,rfl⟩
  go_wp2_with fail
  go_ret
  exact⟨rfl,rfl⟩
 ·
  rw[hb]at HR
  have HR:=Lib.hid HR
  have hr:=(litB_iff l).1 hb
  have hv:litN l= -l:=by unfold litN;rw[if_pos hb]
  rw[hv]
  obtain⟨h0,h1,h2⟩:=hr
  clear hb hv
  have hw:IntKind.i64.wrap (-l)= -l:=IntWalk.i64_in _ (by omega)
  go_enter Tryz.func107,Tryz.ntmps107
  go_wp2_with fail
  refine HR.out.mono ?_
  rintro e w' ⟨rfl,rfl⟩
  go_wp2_with fail
  go_ret
  exact⟨rfl,rfl⟩
end Go.Proofs.YtajbmjpodeilpaaGreat
namespace Go.Proofs.YtajbmjpodeilpaaGreat
open Go.RowKit Go.Sort
def litG (l:Int):Bool:=litB l&&decide (l<0)
def litI (l:Int):Int:=2*((litV l:Nat)-1:Int)+(if l<0 then 1 else 0)
def litC (a b:Int):Int:=if litB a=true then(if litB b=true then Lib.compareInt (litI a) (litI b)else 1)else if litB b=true then -1 else Lib.compareInt a b
theorem litV_right {l:Int} (h:litB l=true):(litV l:Int)=l.natAbs∧1≤(litV l:Int)∧(litV l:Int)≤1048576:=by
 have:=(litB_iff l).1 h
 unfold litV
 rw[if_pos h]
 omega
theorem litI_inj {a b:Int} (ha:litB a=true) (hb:litB b=true) (h:litI a=litI b):a=b:=by
 have h1:=litV_right ha
 have h2:=litV_right hb
 unfold litI at h
 split at h <;> split at h <;> omega
theorem ltC_iff (a b:Int):ltOf litC a b=true↔(litB a=false∧litB b=true)∨(litB a=true∧litB b=true∧litI a<litI b)∨(litB a=false∧litB b=false∧a<b):=by
 unfold ltOf litC Lib.compareInt
 cases ha:litB a <;> cases hb:litB b
 ·by_cases h:a<b <;> by_cases h2:b<a <;> simp[h,h2]
 ·simp
 ·simp
 ·by_cases h:litI a<litI b <;> by_cases h2:litI b<litI a <;> simp[h,h2]
theorem ltC_swo:SWO (ltOf litC) where
 irrefl x:=by
  rw[Bool.eq_false_iff,ne_eq,ltC_iff]
  rintro (⟨h1,h2⟩|⟨_,_,h⟩|⟨_,_,h⟩)
  ·rw[h1]at h2;cases h2
  ·omega
  ·omega
 trans x y z h1 h2:=by
  rw[ltC_iff]at *
  cases hx:litB x <;> cases hy:litB y <;> cases hz:litB z <;> simp[hx,hy,hz]at* <;> omega
 ntrans x y z h1 h2:=by
  rw[Bool.eq_false_iff,ne_eq,ltC_iff]at *
  cases hx:litB x <;> cases hy:litB y <;> cases hz:litB z <;> simp[hx,hy,hz]at* <;> omega
theorem ltC_total: ∀x y,ltOf litC x y=false→ltOf litC y x=false→x=y:=by
 intro x y h1 h2
 rw[Bool.eq_false_iff,ne_eq,ltC_iff]at h1 h2
 cases hx:litB x <;> cases hy:litB y <;> simp[hx,hy]at h1 h2
 ·omega
 ·exact litI_inj hx hy (by omega)
set_option maxHeartbeats 1000000 in
theorem lit_negated (l:Int) (w:World):Calls Tryz.prog 159 #[.int .i64 l] w fun e w'=>e= .returned (.bool (litG l))∧w=w':=by
 have HR:=right_lit l w
 unfold litG
 cases hb:litB l
 ·rw[hb]at HR
  have HR:=Lib.hid HR
  clear hb
  go_enter Tryz.func159,Tryz.ntmps159
  go_wp2_with fail
  refine HR.out.mono ?_
  rintro e w' ⟨rfl,rfl⟩
  go_wp2_with fail
  go_ret
  exact⟨rfl,rfl⟩
 ·rw[hb]at HR
  have HR:=Lib.hid HR
  clear hb
  rw[Bool.true_and]
  obtain⟨q,hq⟩: ∃q,decide (l<0)=q:=⟨_,rfl⟩
  rw[hq]
  go_enter Tryz.func159,Tryz.ntmps159
  go_wp2_with fail
  refine HR.out.mono ?_
  rintro e w' ⟨rfl,rfl⟩
  go_wp2_with fail
  go_ret
  exact⟨rfl,rfl⟩
set_option maxHeartbeats 1000000 in
theorem lit_index (l:Int) (w:World):Calls Tryz.prog 156 #[.int .i64 l] w fun e w'=>e= .returned (if litB l=true then .tuple #[.int .i64 (litI l),.int .i64 0]else .tuple #[.int .i64 0,.int .i64 10])∧w=w':=by
 have HR:=right_lit l w
 have HV:=Lib.hid (lit_var l w)
 cases hb:litB l
 ·rw[hb]at HR
  have HR:=Lib.hid HR
  clear hb
  rw[if_neg (by decide)]
  go_enter Tryz.func156,Tryz.ntmps156
  go_wp2_with fail
  refine HR.out.mono ?_
  rintro e w' ⟨rfl,rfl⟩
  go_wp2_with fail
  refine bodyPost_ret (results_tmp2 rfl _ _ _) rfl ?_
  exact⟨rfl,rfl⟩
 ·rw[hb]at HR
  have HR:=Lib.hid HR
  obtain⟨v,hv⟩: ∃v:Int,((litV l:Nat):Int)=v:=⟨_,rfl⟩
  have hr:=litV_right hb
  rw[hv]at HV hr
  have hw1:IntKind.i64.wrap (v-1)=v-1:=IntWalk.i64_in _ (by omega)
  have hw2:IntKind.i64.wrap (2*(v-1))=2*(v-1):=IntWalk.i64_in _ (by omega)
  have hw3:IntKind.i64.wrap (2*(v-1)+1)=2*(v-1)+1:=IntWalk.i64_in _ (by omega)
  rw[if_pos rfl]
  unfold litI
  rw[hv]
  clear hb hv hr
  by_cases hn:l<0
  ·have hd:decide (l<0)=true:=by simpa using hn
   rw[if_pos hn]
   clear hn
   go_enter Tryz.func156,Tryz.ntmps156
   go_wp2_with fail
   refine HR.out.mono ?_
   rintro e w' ⟨rfl,rfl⟩
   go_wp2_with fail
   refine HV.out.mono ?_
   rintro e w' ⟨rfl,rfl⟩
   go_wp2_with fail
   refine bodyPost_ret (results_tmp2 rfl _ _ _) rfl ?_
   exact⟨rfl,rfl⟩
  ·have hd:decide (l<0)=false:=by simpa using hn
   rw[if_neg hn,Int.add_zero]
   clear hn
   go_enter Tryz.func156,Tryz.ntmps156
   go_wp2_with fail
   refine HR.out.mono ?_
   rintro e w' ⟨rfl,rfl⟩
   go_wp2_with fail
   refine HV.out.mono ?_
   rintro e w' ⟨rfl,rfl⟩
   go_wp2_with fail
   refine bodyPost_ret (results_tmp2 rfl _ _ _) rfl ?_
   exact⟨rfl,rfl⟩
theorem cmp_int_nan (x:Int) (w:World):Calls Tryz.prog 185 #[.int .i64 x] w fun e w'=>e= .returned (.bool false)∧w=w':=by
 have h:(x != x)=false:=by simp
 go_enter Tryz.func185,Tryz.ntmps185
 go_wp2_with fail
 go_ret
 exact⟨rfl,rfl⟩
set_option maxHeartbeats 1000000 in
theorem cmp_int (x y:Int) (w:World):Calls Tryz.prog 157 #[.int .i64 x,.int .i64 y] w fun e w'=>e= .returned (.int .i64 (Lib.compareInt x y))∧w=w':=by
 have H1:=Lib.hid (cmp_int_nan x w)
 have H2:=Lib.hid (cmp_int_nan y w)
 unfold Lib.compareInt
 by_cases h:x<y
 ·have hd:decide (x<y)=true:=by simpa using h
  rw[if_pos h]
  clear h
  go_enter Tryz.func157,Tryz.ntmps157
  go_wp2_with fail
  refine H1.out.mono ?_
  rintro e w' ⟨rfl,rfl⟩
  go_wp2_with fail
  refine H2.out.mono ?_
  rintro e w' ⟨rfl,rfl⟩
  go_wp2_with fail
  go_ret
  exact⟨rfl,rfl⟩
 ·have hd:decide (x<y)=false:=by simpa using h
  rw[if_neg h]
  by_cases h2:y<x
  ·have he:decide (y<x)=true:=by simpa using h2
   rw[if_pos h2]
   clear h h2
   go_enter Tryz.func157,Tryz.ntmps157
   go_wp2_with fail
   refine H1.out.mono ?_
   rintro e w' ⟨rfl,rfl⟩
   go_wp2_with fail
   refine H2.out.mono ?_
   rintro e w' ⟨rfl,rfl⟩
   go_wp2_with fail
   go_ret
   exact⟨rfl,rfl⟩
  ·have he:decide (y<x)=false:=by simpa using h2
   rw[if_neg h2]
   clear h h2
   go_enter Tryz.func157,Tryz.ntmps157
   go_wp2_with fail
   refine H1.out.mono ?_
   rintro e w' ⟨rfl,rfl⟩
   go_wp2_with fail
   refine H2.out.mono ?_
   rintro e w' ⟨rfl,rfl⟩
   go_wp2_with fail
   go_ret
   exact⟨rfl,rfl⟩
theorem cmp_lit_nan (x:Int) (w:World):Calls Tryz.prog 186 #[.int .i64 x] w fun e w'=>e= .returned (.bool false)∧w=w':=by
 have h:(x != x)=false:=by simp
 go_enter Tryz.func186,Tryz.ntmps186
 go_wp2_with fail
 go_ret
 exact⟨rfl,rfl⟩
set_option maxHeartbeats 1000000 in
theorem cmp_lit (x y:Int) (w:World):Calls Tryz.prog 158 #[.int .i64 x,.int .i64 y] w fun e w'=>e= .returned (.int .i64 (Lib.compareInt x y))∧w=w':=by
 have H1:=Lib.hid (cmp_lit_nan x w)
 have H2:=Lib.hid (cmp_lit_nan y w)
 unfold Lib.compareInt
 by_cases h:x<y
 ·have hd:decide (x<y)=true:=by simpa using h
  rw[if_pos h]
  clear h
  go_enter Tryz.func158,Tryz.ntmps158
  go_wp2_with fail
  refine H1.out.mono ?_
  rintro e w' ⟨rfl,rfl⟩
  go_wp2_with fail
  refine H2.out.mono ?_
  rintro e w' ⟨rfl,rfl⟩
  go_wp2_with fail
  go_ret
  exact⟨rfl,rfl⟩
 ·have hd:decide (x<y)=false:=by simpa using h
  rw[if_neg h]
  by_cases h2:y<x
  ·have he:decide (y<x)=true:=by simpa using h2
   rw[if_pos h2]
   clear h h2
   go_enter Tryz.func158,Tryz.ntmps158
   go_wp2_with fail
   refine H1.out.mono ?_
   rintro e w' ⟨rfl,rfl⟩
   go_wp2_with fail
   refine H2.out.mono ?_
   rintro e w' ⟨rfl,rfl⟩
   go_wp2_with fail
   go_ret
   exact⟨rfl,rfl⟩
  ·have he:decide (y<x)=false:=by simpa using h2
   rw[if_neg h2]
   clear h h2
   go_enter Tryz.func158,Tryz.ntmps158
   go_wp2_with fail
   refine H1.out.mono ?_
   rintro e w' ⟨rfl,rfl⟩
   go_wp2_with fail
   refine H2.out.mono ?_
   rintro e w' ⟨rfl,rfl⟩
   go_wp2_with fail
   go_ret
   exact⟨rfl,rfl⟩
set_option maxHeartbeats 2000000 in
theorem lit_compare (a b:Int) (w:World):Calls Tryz.prog 136 #[.int .i64 a,.int .i64 b] w fun e w'=>e= .returned (.int .i64 (litC a b))∧w=w':=by
 have HA:=lit_index a w
 have HB:=lit_index b w
 unfold litC
 cases ha:litB a <;> cases hb:litB b <;> rw[ha]at HA <;> rw[hb]at HB <;> simp only[Bool.false_eq_true,if_false,if_true]at HA HB⊢
 ·have HA:=Lib.hid HA
  have HB:=Lib.hid HB
  have HC:=cmp_lit a b w
  obtain⟨r,hr⟩: ∃r,Lib.compareInt a b=r:=⟨_,rfl⟩
  rw[hr]at HC⊢
  have HC:=Lib.hid HC
  clear hr
  clear ha hb
  go_enter Tryz.func136,Tryz.ntmps136
  go_wp2_with fail
  refine HA.out.mono ?_
  rintro e w' ⟨rfl,rfl⟩
  go_wp2_with fail
  refine HB.out.mono ?_
  rintro e w' ⟨rfl,rfl⟩
  go_wp2_with fail
  refine HC.out.mono ?_
  rintro e w' ⟨rfl,rfl⟩
  go_wp2_with fail
  go_ret
  exact⟨rfl,rfl⟩
 ·have HA:=Lib.hid HA
  have HB:=Lib.hid HB
  clear ha hb
  go_enter Tryz.func136,Tryz.ntmps136
  go_wp2_with fail
  refine HA.out.mono ?_
  rintro e w' ⟨rfl,rfl⟩
  go_wp2_with fail
  refine HB.out.mono ?_
  rintro e w' ⟨rfl,rfl⟩
  go_wp2_with fail
  go_ret
  exact⟨rfl,rfl⟩
 ·have HA:=Lib.hid HA
  have HB:=Lib.hid HB
  clear ha hb
  go_enter Tryz.func136,Tryz.ntmps136
  go_wp2_with fail
  refine HA.out.mono ?_
  rintro e w' ⟨rfl,rfl⟩
  go_wp2_with fail
  refine HB.out.mono ?_
  rintro e w' ⟨rfl,rfl⟩
  go_wp2_with fail
  go_ret
  exact⟨rfl,rfl⟩
 ·have HA:=Lib.hid HA
  have HB:=Lib.hid HB
  have HC:=cmp_int (litI a) (litI b) w
  obtain⟨r,hr⟩: ∃r,Lib.compareInt (litI a) (litI b)=r:=⟨_,rfl⟩
  rw[hr]at HC⊢
  have HC:=Lib.hid HC
  clear hr
  clear ha hb
  go_enter Tryz.func136,Tryz.ntmps136
  go_wp2_with fail
  refine HA.out.mono ?_
  rintro e w' ⟨rfl,rfl⟩
  go_wp2_with fail
  refine HB.out.mono ?_
  rintro e w' ⟨rfl,rfl⟩
  go_wp2_with fail
  refine HC.out.mono ?_
  rintro e w' ⟨rfl,rfl⟩
  go_wp2_with fail
  go_ret
  exact⟨rfl,rfl⟩
end Go.Proofs.YtajbmjpodeilpaaGreat
namespace Go.Proofs.YtajbmjpodeilpaaGreat
open Go.RowKit Go.Shelf Go.Maps
attribute [local go_sem] Oper.semAt_some
def XO (W:World) (g:Nat):Prop:= ∃o,W.heap[g]? =some o∧o.isCells=false∧o.isWalk=false
structure KpC (X:Nat→Prop) (W W':World):Prop where
 os:W'.os=W.os
 tape:W'.tape=W.tape
 output:W'.output=W.output
 size:W.heap.size≤W'.heap.size
 same: ∀k o,W.heap[k]? =some o→¬X k→(o.isCells=true∨o.isWalk=true)→W'.heap[k]? =some o
theorem KpC.kept {X:Nat→Prop} {W W':World} (h:KpC X W W'):Kept (fun g=>X g∨XO W g) W W':=
 ⟨h.os,h.tape,h.output,h.size,fun k hk hn=>by
  have hg:W.heap[k]? =some W.heap[k]:=Array.getElem?_eq_getElem hk
  rw[hg]
  refine h.same k _ hg (fun hx=>hn (.inl hx)) ?_
  apply Classical.byContradiction
  intro hc
  simp only[not_or,Bool.not_eq_true]at hc
  exact hn (.inr ⟨_,hg,hc.1,hc.2⟩)⟩
theorem KpC.trans {X:Nat→Prop} {A B C:World} (h:KpC X A B) (k:KpC X B C):KpC X A C:=
 ⟨k.os.trans h.os,k.tape.trans h.tape,k.output.trans h.output,Nat.le_trans h.size k.size,fun i o hi hx ho=>k.same i o (h.same i o hi hx ho) hx ho⟩
theorem KpC.mono {X X':Nat→Prop} {A B:World} (h:KpC X A B) (hX: ∀g,g<A.heap.size→X g→X' g):KpC X' A B:=
 ⟨h.os,h.tape,h.output,h.size,fun i o hi hx ho=>h.same i o hi (fun h'=>hx (hX i (heap_lt hi) h')) ho⟩
theorem KpC.of_grown {A B:World} {row:Option Nat} (h:A.grownBy B row):KpC (fun g=>some g=row) A B:=
 ⟨h.os,h.tape,h.output,h.size,fun k _ hk hn _=>(h.block k (heap_lt hk) hn).trans hk⟩
theorem KpC.refl (X:Nat→Prop) (A:World):KpC X A A:=⟨rfl,rfl,rfl,Nat.le_refl _,fun _ _ h _ _=>h⟩
theorem KpC.of_below {X:Nat→Prop} {A B:World} (h:Below A.heap.size A B):KpC X A B:=⟨h.os,h.tape,h.output,h.size,fun k _ hk _ _=>(h.block k (heap_lt hk)).trans hk⟩
theorem KpC.putObj (W:World) (l:Nat) (o o':Obj) (h:W.heap[l]? =some o) (hc:o.isCells=false) (hw:o.isWalk=false):KpC (fun _=>False) W (W.putObj l o'):=by
 have hg:=grownBy_putObj' W l o'
 refine⟨hg.os,hg.tape,hg.output,hg.size,fun k x hk _ hx=>?_⟩
 rw[hg.block k (heap_lt hk) (fun e=>by
  cases e
  rw[h]at hk
  cases hk
  rw[hc,hw]at hx
  simp at hx)]
 exact hk
theorem xo_cells {W:World} {g:Nat} {c:Array Value} {t:TypeId} {f:Nat×Nat} (h:W.heap[g]? =some (.cells c t f)): ¬XO W g:=by
 rintro ⟨o,ho,hc,_⟩
 rw[h]at ho
 cases ho
 cases hc
theorem xo_cell {W:World} {p:Addr} {v:Value} (h:W.cell? p=some v): ¬XO W p.block:=by
 rintro ⟨o,ho,hc,_⟩
 unfold World.cell? at h
 rw[ho]at h
 cases o <;> simp_all [Obj.isCells]
theorem IntsIn.narrow {O:Nat→Prop} {w:World} {v:Value} {xs:List Int} (h:IntsIn O w v xs):IntsIn (fun g=>O g∧¬XO w g) w v xs:=by
 obtain⟨A,c,hv,hc,hn,hx⟩:=h
 refine⟨A,c,hv,hc,hn,fun i x hi=>?_⟩
 obtain⟨g,o,h1,h2,h3,h4⟩:=hx i x hi
 exact⟨g,o,h1,h2,⟨h3,xo_cell h4⟩,h4⟩
theorem wpListIn_put {F:Fence} {n:Nat} {w:World} {ops:Array Oper} {rest:List Oper} {o:Oper} {a:Act} {Q:Exit→Act→World→Prop} {b k:Nat} {f:Int→Int} (hown:MapAt w b k f)
  (hg:o.guard=none) (m x v:Operand) (hop:o.op=Op.mapUpdate 94 m x v) (hm:a.eval m= .map (some b)) (hn:k<maxLen) (i y:Int) (hx:a.eval x= .int .i64 i) (hv:a.eval v= .int .i64 y)
  (hi:(Lit.int .i64 i).wf=true) (hy:(Lit.int .i64 y).wf=true)
  (hK: ∀w',MapAt w' b (k+1) (fun z=>if z=i then y else f z)→w.grownBy w' (some b)→wpListIn F n Tryz.prog ops Q rest (a.put o.dst undef) w'):wpListIn F n Tryz.prog ops Q (o::rest) a w:=by
 obtain⟨D,ho,hmap,hf⟩:=hown
 exact wpListIn_mapUpdate_own w hg m x v _ hop 3 3 int_law Tryz.underlying94 _ b k D hm ho hn _ _ _ hx hv (keyOf_int_mk Tryz.underlying3 hi) _ [] (plainElem_int Tryz.underlying3 hy)
  (fun w' h1 h2=>hK w' (MapAt.put hmap hf h1) h2)
end Go.Proofs.YtajbmjpodeilpaaGreat
namespace Go.Proofs.YtajbmjpodeilpaaGreat
open Go.RowKit Go.Shelf Go.Sort
attribute [local go_sem] Oper.semAt_some
theorem cinfo_lit:(Tryz.prog.info? 55).map (fun i=>(i.zero,i.size,i.bytes))=some (some (.int .i64 0),1,8):=by kernel_rfl
set_option maxRecDepth 100000 in
set_option maxHeartbeats 2000000 in
theorem values1_in {O X:Nat→Prop} (l Bb:Nat) (u:Value) (xs:List Int) (J Jx:List Int→World→Prop) (W:World)
  (hY: ∀pre x W1,J pre W1→pre.length<xs.length→YieldAt Fence.wide 7 Tryz.prog l #[.int .i64 x] W1 fun e W'=>
   (e= .returned (.bool true)∧J (pre++ [x]) W'∧KpC X W1 W')∨(e= .returned (.bool false)∧Jx (pre++ [x]) W'))
  (hB:W.cell? ⟨Bb,0,none⟩=some u) (hX: ¬X Bb) (hu:IntsIn O W u xs) (hOX: ∀g,O g→¬X g) (hlen:xs.length≤140737488355328) (h0:J [] W):
  CallsIn Fence.wide 8 Tryz.prog 201 #[.func (.yield l) #[] #[],.pointer (some ⟨Bb,0,none⟩)] W fun e W'=>(∃v,e= .returned v)∧
   ((∃ys,ys=xs∧J ys W')∨(∃pre,(pre <+: xs∧pre≠ [])∧Jx pre W')):=by
 have hB':=World.block_lt_of_cell? W _ hB
 have HN:=Lib.hid hu.narrow
 have HB:=Lib.hid hB
 have HY:=Lib.hid hY
 have HX:=Lib.hid hX
 have HOX:=Lib.hid hOX
 have H0:=Lib.hid h0
 obtain⟨A,c,rfl,hc,_,_⟩:=hu
 clear hY hX hOX h0
 refine callsIn_of_wp Tryz.func201 rfl trivial ?_ rfl
 simp only[Tryz.ntmps201,List.size_toArray,List.length_cons,List.length_nil,Nat.reduceAdd,Nat.reduceSub,Array.replicate_succ,Array.replicate_zero,List.push_toArray,List.append_toArray,List.nil_append,List.cons_append]
 gi_wp2
 gi_loopw [7] (fun i wr=> ∃k:Nat,k≤xs.length∧i= .int .i64 k∧Hid (KpC X W wr)∧Hid (J (xs.take k) wr)) (fun i _=>xs.length-(intOf i).toNat)
 case atStart=>exact⟨0,Nat.zero_le _,rfl,Lib.hid (KpC.refl _ _),H0⟩
 case round=>
  obtain⟨k,hk,rfl,HK,HJ⟩:=hrel
  by_cases hlt:k<xs.length
  ·obtain⟨x,hxk⟩:=getElem_of hlt
   obtain⟨A',c',hAc,_,_,hxs⟩:=HN.out
   simp only[Value.slice.injEq,true_and]at hAc
   obtain⟨rfl,rfl⟩:=hAc
   obtain⟨g,o,rfl,hg,hgo,d0⟩:=hxs k x hxk
   have d1:wr.cell? ⟨g,o+k,none⟩=some (.int .i64 x):=(HK.out.kept.cell (p:=⟨g,o+k,none⟩) hg (fun h=>h.elim (HOX.out g hgo.1) hgo.2)).trans d0
   have HTK:=Lib.hid (show xs.take (k+1)=xs.take k++ [x]from by rw[List.take_add_one,hxk];rfl)
   obtain⟨fn,tmps,assign,body,hy,hR⟩:=HY.out (xs.take k) x wr HJ.out (by rw[List.length_take];omega)
   have HR:=Lib.hid hR
   clear hxk hxs hgo d0 hR
   gi_wp2_with fail
   refine HR.out.mono ?_
   rintro e W3 (⟨rfl,hJ3,hk3⟩|⟨rfl,hJx3⟩)
   ·have HJ3:=Lib.hid hJ3
    have HK3:=Lib.hid (HK.out.trans hk3)
    clear hJ3 hk3 hy d1
    gi_wp2_with fail
    go_roundw
    case rel=>exact⟨k+1,by omega,by go_num,HK3,Lib.hid (by rw[HTK.out];exact HJ3.out)⟩
    case measure=>simp[intOf];omega
   ·gi_wp2
    refine bodyPost_ret (results_none rfl _ _ _) rfl ?_
    exact⟨⟨_,rfl⟩,.inr ⟨xs.take k++ [x],⟨by rw[←HTK.out];exact List.take_prefix _ _,by simp⟩,hJx3⟩⟩
  ·obtain rfl:k=xs.length:=by omega
   gi_wp2
   go_end0
   refine⟨⟨_,rfl⟩,.inl ⟨xs,rfl,?_⟩⟩
   have:=HJ.out
   rwa [List.take_length]at this
theorem values_stops {O X:Nat→Prop} (Bb:Nat) (u:Value) (xs:List Int) (w:World) (hB:w.cell? ⟨Bb,0,none⟩=some u) (hX: ¬X Bb) (hu:IntsIn O w u xs) (hOX: ∀g,O g→¬X g) (hlen:xs.length≤140737488355328):
  SeqStopsK Fence.wide 8 Tryz.prog 201 #[.pointer (some ⟨Bb,0,none⟩)] (fun x:Int=> #[Value.int .i64 x]) (KpC X) (fun ys=>ys=xs) (fun pre=>pre <+: xs∧pre≠ []) xs.length w:=fun l J Jx W hW _ _ hY h0=>
 values1_in l Bb u xs J Jx W hY ((hW.cell (p:=⟨Bb,0,none⟩) (World.block_lt_of_cell? w _ hB)).trans hB) hX (hu.below hW) hOX hlen h0
theorem values_run (A:Option Addr) (n c:Nat) (w:World):Calls Tryz.prog 195 #[.slice A n c] w fun e w'=>e= .returned (.func (.func 201) #[] #[.pointer (some ⟨w.heap.size,0,none⟩)])∧w.alloc (.cells #[.slice A n c] 31)=w':=by
 go_enter Tryz.func195,Tryz.ntmps195
 go_wp2
 go_ret
 exact⟨rfl,rfl⟩
set_option maxRecDepth 100000 in
set_option maxHeartbeats 4000000 in
theorem append_values {O:Nat→Prop} (Bb:Nat) (u:Value) (xs:List Int) (w:World) (hB:w.cell? ⟨Bb,0,none⟩=some u) (hu:IntsIn O w u xs) (hlen:xs.length≤1000000000000):
  Calls Tryz.prog 203 #[.slice none 0 0,.func (.func 201) #[] #[.pointer (some ⟨Bb,0,none⟩)]] w fun e w'=> ∃v,e= .returned v∧w'.ownsRow w.heap.size 55 1 v xs.length (xs.map (Value.int .i64))∧Below w.heap.size w w':=by
 have hB':=World.block_lt_of_cell? w _ hB
 obtain⟨i0,hi,iz0,iz1,iz2⟩:=info_parts cinfo_lit
 obtain⟨WR,hWR⟩: ∃x,w.alloc (.cells #[.slice none 0 0] 30)=x:=⟨_,rfl⟩
 have hbR:Below w.heap.size w WR:=by rw[←hWR];exact mx_al _ _
 have hcR:Boxed WR w.heap.size 30 (.slice none 0 0):=by rw[←hWR];exact Boxed.new _ _ _
 have hzR:=hcR.lt
 have HST:=Lib.hid (values_stops (X:=fun g=>w.heap.size≤g) Bb u xs WR ((hbR.cell (p:=⟨Bb,0,none⟩) hB').trans hB) (fun h=>by simp only at h hB';omega) (hu.lt.below hbR) (fun g h=>by omega) (by omega))
 have HWR:=Lib.hid hWR
 have HBR:=Lib.hid hbR
 have HCR:=Lib.hid hcR
 clear hB hu hWR hbR hcR
 refine(callsIn_wide (n:=9)).1 ?_
 refine callsIn_of_wp_marks Tryz.func203 rfl trivial ?_ rfl
 simp only[Tryz.ntmps203,List.size_toArray,List.length_cons,List.length_nil,Nat.reduceAdd,Nat.reduceSub,Array.replicate_succ,Array.replicate_zero,List.push_toArray,List.append_toArray,List.nil_append,List.cons_append]
 gi_wp2
 rw[HWR.out]
 refine wpIn_rangeFunc_ownG rfl (by omega) (gf:=201) (lb:= #[.pointer (some ⟨Bb,0,none⟩)]) rfl trivial (enters_of Tryz.func201 (by kernel_rfl) rfl)
  HST.out (fun h k=>h.trans k) (fun W l o o' _ h hc hw=>(KpC.putObj W l o o' h hc hw).mono (fun _ _ h=>h.elim)) (Below.refl _ _) (fun _=>rfl)
  (fun pre W=>(∃v,Boxed W w.heap.size 30 v∧W.ownsRow w.heap.size 55 1 v pre.length (pre.map (Value.int .i64))∧True)∧Below w.heap.size w W∧w.heap.size<W.heap.size) (fun _ _ _=>False) ?own ?ownx ⟨⟨_,HCR.out,World.ownsRow_nil _ _ _ _,trivial⟩,HBR.out,hzR⟩
  ?frame ?assign ?body ?done ?stop
 case own=>
  exact OwnFrom.and (Own.from (holdsRow_own _ _ _ _ 1 (fun pre:List Int=>pre.length) (fun pre=>pre.map (Value.int .i64)) (fun _ _=>True)) _) (OwnFrom.and (ownFrom_below (Nat.le_refl _) (by omega)) (fun _ X Y row h hg _=>Nat.lt_of_lt_of_le h hg.size))
 case ownx=>exact fun c pre W W' row h _ _=>h
 case assign=>
  intro l x W K hK
  dsimp only
  gi_wp2
  exact hK
 case body=>
  rintro l pre x W ⟨⟨v,hv,hr,-⟩,hb,hz⟩ hlt
  have q1:=hv.cell
  have q2:=hv.frozen
  obtain⟨A,c,rfl,hc⟩:=mx_slice hr
  have HV:=Lib.hid hv
  have HR:=Lib.hid hr
  have HB:=Lib.hid hb
  clear hv hr hb
  gi_wp2_with (gi_at_builtin;refine wpListIn_append_own _ rfl _ _ 30 rfl w.heap.size 55 i0 (.int .i64 0) 1 8 Tryz.underlying30 hi iz0 iz1 iz2 rfl (by decide) _ _ _ rfl (HR.out.alloc _) ⟨W.heap.size,0,none⟩ 1 1 [.int .i64 x] rfl rfl ?c1 ?c2 ?c3 ?c4 ?c5 ?_)
  case c1=>
   intro j u hj
   match j,hj with
   | 0,hj=>simp at hj;subst hj;simp[Addr.add]
  case c2=>intro u hu;simp at hu;subst hu;rfl
  case c3=>unfold maxLen;omega
  case c4=>omega
  case c5=>simp;omega
  ·intro v' w1 hown' hgrow _
   have hA:=Boxed.appended HV.out (by decide) HR.out (Nat.le_of_lt hz) (Nat.le_refl _) hown' hgrow
   obtain⟨g1,cap,rfl⟩:=ownsRow_succ hown'
   obtain⟨a1,a2,a3,a4,a5⟩:=hA
   have q3:=a1.cell
   have q4:=a1.frozen
   have A2:=Lib.hid a2
   have A3:=Lib.hid a3
   have A4:=Lib.hid a4
   have A5:=Lib.hid a5
   clear a1 a2 a3 a4 a5 hown' hgrow
   gi_wp2
   refine⟨A4.out.from _,⟨A5.out.os,A5.out.tape,A5.out.output,A5.out.size,fun k o hk hX _=>(A5.out.block k (by omega)).trans hk⟩,⟨_,A2.out,?_,trivial⟩,HB.out.trans A5.out,Nat.lt_of_lt_of_le hz A5.out.size⟩
   simpa using A3.out
 case done=>
  rintro D ys W hD rfl ⟨⟨v,hv,hr,-⟩,hb,hz⟩ hDf
  have q1:=hv.cell
  have HR:=Lib.hid hr
  have HB:=Lib.hid hb
  have HD:=Lib.hid hDf
  obtain⟨A,c,rfl,hc⟩:=mx_slice hr
  clear hv hr hb hDf
  gi_wp2
  refine⟨by simp,.inl ⟨_,_,rfl,run_takeDeferred HD.out,?_⟩⟩
  have hD0:w.heap.size≤D:=Nat.le_trans (Nat.le_of_lt hzR) hD
  refine⟨_,results_tmp rfl _ _ _,_,rfl,ownsRow_putObj HR.out _ HD.out rfl,HB.out.trans ?_⟩
  exact(Below.refl _ _).grown (grownBy_putObj' W D _) (Nat.le_of_lt hz) (fun g e=>by cases e;exact hD0)
 case stop=>
  rintro D c pre W hD _ hf _
  exact hf.elim
theorem collect_values {O:Nat→Prop} (Bb:Nat) (u:Value) (xs:List Int) (w:World) (hB:w.cell? ⟨Bb,0,none⟩=some u) (hu:IntsIn O w u xs) (hlen:xs.length≤1000000000000):
  Calls Tryz.prog 200 #[.func (.func 201) #[] #[.pointer (some ⟨Bb,0,none⟩)]] w fun e w'=> ∃v,e= .returned v∧w'.ownsRow w.heap.size 55 1 v xs.length (xs.map (Value.int .i64))∧Below w.heap.size w w':=by
 have H:=Lib.hid (append_values Bb u xs w hB hu hlen)
 clear hB hu
 go_enter Tryz.func200,Tryz.ntmps200
 go_wp2_with fail
 refine H.out.mono ?_
 rintro e w' ⟨v,rfl,hr,hb⟩
 have HR:=Lib.hid hr
 have HB:=Lib.hid hb
 clear hr hb
 go_wp2_with fail
 go_ret
 exact⟨_,rfl,HR.out,HB.out⟩
end Go.Proofs.YtajbmjpodeilpaaGreat
