/- (*strings.Builder).WriteString of the library, laid by hand at this program's numbers. The line of a step (package lratext). Rows of integers that came in, and rows of such rows. Rows without a card: what they share; rows that come in; what is shown behind the call. A slice of integers that came in, with its reach. What a card's row shares, where a slice comes in with its reach: the wrap that hands the listed variables on, the world's shape, the table. -/
import Derived.Test.YtcbjjdpngeabgaaGreatDoorShelf
import Derived.Test.YtcbjjdpngeabgaaGreatDoorV803
import Derived.Lib.ItoaLen
import Derived.Lib.AppendIntMem
import Derived.Test.YtcbjjdpngeabgaaGreatDoorV800
import Derived.Test.YtcbjjdpngeabgaaGreatDoorRows
import Derived.ProofKit
import Derived.WalkKit
import Derived.OpenShut
import Derived.ShutString
import Derived.ChangeOld
import Derived.LaidMore
import Derived.Lay
import Derived.Deep.Matrix
import Derived.Lib.SmallJoins
import Derived.SizedLaws
import Derived.Test.YtcbjjdpngeabgaaGreatDoorTie
import Derived.Test.YtcbjjdpngeabgaaGreatDoorCards
import Derived.HandedShaped
import Derived.Shelf.Vars
import Derived.SevenTiedAt
import Derived.Lib.LaidTab
namespace Go.Proofs.YtcbjjdpngeabgaaGreatDoor
open Go.RowKit Go.Shelf
def bw_ren:Go.Shelf.Ren:=⟨fun|166=>68|240=>95|276=>122|n=>n,fun|0=>0|3=>3|4=>4|5=>5|9=>9|20=>20|37=>23|70=>117|72=>119|75=>121|80=>125|164=>186|n=>n,fun n=>n⟩
theorem bw_lays:Go.Proofs.Lays.n166 Tryz.prog bw_ren:={
 mixed:=by kernel_rfl
 f166:=Tryz.func68.trans (congrArg some (by kernel_rfl))
 f240:=Tryz.func95.trans (congrArg some (by kernel_rfl))
 f276:=Tryz.func122.trans (congrArg some (by kernel_rfl))
 t0:=Tryz.underlying0
 a0:=Tryz.isAgg0
 z0:=Tryz.sizeOf0
 v0:=Tryz.zeroValue0
 t3:=Tryz.underlying3
 a3:=Tryz.isAgg3
 z3:=Tryz.sizeOf3
 v3:=Tryz.zeroValue3
 t4:=Tryz.underlying4
 a4:=Tryz.isAgg4
 z4:=Tryz.sizeOf4
 v4:=Tryz.zeroValue4
 t9:=Tryz.underlying9
 a9:=Tryz.isAgg9
 z9:=Tryz.sizeOf9
 v9:=Tryz.zeroValue9
 t20:=Tryz.underlying20
 a20:=Tryz.isAgg20
 z20:=Tryz.sizeOf20
 v20:=Tryz.zeroValue20
 t37:=Tryz.underlying23
 a37:=Tryz.isAgg23
 z37:=Tryz.sizeOf23
 v37:=Tryz.zeroValue23
 t70:=Tryz.underlying117
 a70:=Tryz.isAgg117
 z70:=Tryz.sizeOf117
 v70:=Tryz.zeroValue117
 t72:=Tryz.underlying119
 a72:=Tryz.isAgg119
 z72:=Tryz.sizeOf119
 v72:=Tryz.zeroValue119
 t75:=Tryz.underlying121
 a75:=Tryz.isAgg121
 z75:=Tryz.sizeOf121
 v75:=Tryz.zeroValue121
 t164:=Tryz.underlying186
 a164:=Tryz.isAgg186
 z164:=Tryz.sizeOf186
 v164:=Tryz.zeroValue186 }
theorem bw_extra:Builder.Extra Tryz.prog bw_ren:={
 sizeBuilder:=by kernel_rfl
 liesBuilder:=by kernel_rfl
 t5:=Tryz.underlying5
 a5:=Tryz.isAgg5
 z5:=Tryz.sizeOf5
 v5:=Tryz.zeroValue5
 infoByte:=by kernel_rfl
 cellsByte:=by kernel_rfl
 sizeByte:=by kernel_rfl
 neB5:=by decide }
abbrev IsB (B b:Nat) (l:List UInt8) (w:World):Prop:=Lib.IsBuilderF 119 5 B b (Lib.byteCells l) w
theorem bw_write (B b:Nat) (l:List UInt8) (s:ByteArray) (w:World) (h:IsB B b l w) (hlen:l.length+s.size≤140737488355328) (hBw:B≤w.heap.size):
  Calls Tryz.prog 68 #[.pointer (some ⟨b,0,none⟩),.string s] w fun e w'=>e= .returned (.tuple #[.int .i64 s.size,.nilIface])∧IsB B b (l++s.data.toList) w'∧Below B w w':=
 (Any.Builder_WriteString_f bw_lays bw_extra B b (Lib.byteCells l) s w h (by simpa [Lib.byteCells] using hlen) hBw).mono fun _ _ ⟨h1,h2,h3⟩=>⟨h1,by
  have e:Lib.byteCells l++Lib.strCells s=Lib.byteCells (l++s.data.toList):=by simp[Lib.byteCells,Lib.strCells]
  rw[e]at h2
  exact .inr h2,h3⟩
theorem bw_len (B b:Nat) (l:List UInt8) (w:World) (h:IsB B b l w):
  Calls Tryz.prog 70 #[.pointer (some ⟨b,0,none⟩)] w fun e w'=>e= .returned (.int .i64 l.length)∧w=w':=
 (Tryz.Builder_Len_f B b (Lib.byteCells l) w h).mono fun _ _ ⟨h1,h2⟩=>⟨by simpa [Lib.byteCells] using h1,h2.symm⟩
theorem bw_string (B b:Nat) (l:List UInt8) (w:World) (h:IsB B b l w) (hBw:B≤w.heap.size):
  Calls Tryz.prog 71 #[.pointer (some ⟨b,0,none⟩)] w fun e w'=>e= .returned (.string ⟨l.toArray⟩)∧Below B w w':=
 (Tryz.Builder_String_any_f B b l w h hBw).mono fun _ _ ⟨h1,_,h3⟩=>⟨h1,h3⟩
theorem IsB.new (B:Nat) (w:World) (hB:B≤w.heap.size):IsB B w.heap.size [] (w.alloc (.cells #[.pointer none,.slice none 0 0] 119)):=
 .inl ⟨hB,.slice none 0 0,World.alloc_heap_new _ _,World.ownsRowF_of (World.ownsRow_nil _ _ _ _),by simp[Value.ownBlock]⟩
end Go.Proofs.YtcbjjdpngeabgaaGreatDoor
namespace Go.Proofs.YtcbjjdpngeabgaaGreatDoor
open Go.RowKit
def TabW (w:World):Prop:=Lib.TabIs Tryz.prog w "internal/strconv.uint64pow10" .u64 Lib.pow10Tab
theorem tab_named:Tryz.prog.globalNamed "internal/strconv.uint64pow10" =some 0:=by kernel_rfl
theorem TabW.lt {w:World} (h:TabW w):0<w.heap.size:=by
 unfold TabW Lib.TabIs World.var? at h
 rw[tab_named]at h
 simp only[Option.bind_some]at h
 apply Classical.byContradiction
 intro hn
 rw[Array.getElem?_eq_none (by omega)]at h
 cases h
theorem TabW.of_block {w w':World} (h:TabW w) (hb:w'.heap[(0:Nat)]? =w.heap[(0:Nat)]?):TabW w':=by
 unfold TabW Lib.TabIs World.var? at *
 rw[tab_named]at *
 simp only[Option.bind_some]at *
 rw[hb]
 exact h
theorem TabW.below {B:Nat} {w w':World} (h:TabW w) (hb:Below B w w') (hB:0<B):TabW w':=h.of_block (hb.block _ hB)
def Rng (x:Int):Prop:= -9223372036854775808≤x∧x≤9223372036854775807
theorem itoa_any (n:Int) (w:World) (hn:Rng n) (ht:TabW w):
  Calls Tryz.prog 97 #[.int .i64 n] w fun e w'=>e= .returned (.string ⟨(Lib.itoa n).toArray⟩)∧Below w.heap.size w w':=
 (Tryz.strconv_Itoa n hn.1 hn.2 w ht).mono fun _ _ ⟨h,k,os,hw⟩=>⟨h,by rw[hw];exact Lib.below_grow _ _ (Nat.le_refl _) _ _⟩
def numT (n:Int):List UInt8:=32::Lib.itoa n
theorem numT_len (n:Int) (hn:Rng n):(numT n).length≤22:=by
 have:=Lib.itoa_length_le n hn.1 hn.2
 simp only[numT,List.length_cons]
 omega
def numsT (l:List Int):List UInt8:=l.flatMap numT
theorem numsT_len (l:List Int) (h: ∀x∈l,Rng x):(numsT l).length≤l.length*22:=by
 induction l with
 | nil=>simp[numsT]
 | cons x l ih=>
  have h1:=ih (fun y hy=>h y (List.mem_cons_of_mem _ hy))
  have h2:=numT_len x (h x List.mem_cons_self)
  simp only[numsT,List.flatMap_cons,List.length_append,List.length_cons]at *
  omega
theorem numsT_take (l:List Int) (k:Nat) (x:Int) (h:l[k]? =some x):numsT (l.take (k+1))=numsT (l.take k)++numT x:=by
 rw[numsT,numsT,List.take_add_one,h,List.flatMap_append]
 simp
def stepT (s:EStep):List UInt8:=Lib.itoa s.id++(if s.del then [32,100]else numsT s.lits++numT 0)++numsT s.hints++numT 0
theorem IsB.kept {B b:Nat} {l:List UInt8} {w w':World} (h:IsB B b l w) (hb:Below w.heap.size w w'):IsB B b l w':=by
 have key: ∀p,Lib.BuilderAtF 119 5 B b p (Lib.byteCells l) w→Lib.BuilderAtF 119 5 B b p (Lib.byteCells l) w':=fun p ⟨h1,v,h2,h3,h4⟩=>
  ⟨h1,v,(hb.block b (heap_lt h2)).trans h2,h3.kept (row:=none) ⟨hb.os,hb.tape,hb.output,hb.size,fun k hk _=>hb.block k hk⟩ (by cases hv:v.ownBlock <;> simp),h4⟩
 exact h.imp (key _) (key _)
theorem ba_size (a b:List UInt8):((⟨a.toArray⟩:ByteArray)++⟨b.toArray⟩).size=a.length+b.length:=by
 rw[ByteArray.size_append]
 rfl
set_option maxHeartbeats 400000 in
theorem line_add (n:Int) (B b:Nat) (l:List UInt8) (w:World) (h:IsB B b l w) (hl:l.length≤100000000) (hBw:B≤w.heap.size) (hn:Rng n) (ht:TabW w):
  Calls Tryz.prog 96 #[.int .i64 n,.pointer (some ⟨b,0,none⟩)] w fun e w'=>(∃v,e= .returned v)∧IsB B b (l++numT n) w'∧Below B w w':=by
 have hil:=Lib.itoa_length_le n hn.1 hn.2
 have H:=Lib.hid h
 have HT:=Lib.hid ht
 have HN:=Lib.hid hn
 clear h ht hn
 go_enter Tryz.func96,Tryz.ntmps96
 go_wp2_with fail
 refine(itoa_any n _ HN.out HT.out).mono ?_
 rintro e w1 ⟨rfl,hb1⟩
 have HB1:=Lib.hid hb1
 have hz1:=hb1.size
 clear hb1
 go_wp2_with fail
 refine(bw_write B b l _ _ (H.out.kept HB1.out) (by rw[ba_size [32]];simp only[List.length_cons,List.length_nil];omega) (by omega)).mono ?_
 rintro e w2 ⟨rfl,h2,hb2⟩
 have H2:=Lib.hid h2
 have HB2:=Lib.hid hb2
 clear h2 hb2
 go_wp2_with fail
 go_end0
 refine⟨⟨_,rfl⟩,?_,(HB1.out.mono hBw).trans HB2.out⟩
 have:=H2.out
 simpa [numT] using this
end Go.Proofs.YtcbjjdpngeabgaaGreatDoor
namespace Go.Proofs.YtcbjjdpngeabgaaGreatDoor
open Go.RowKit
def RowAt (k:IntKind) (w:World) (v:Value) (xs:List Int):Prop:=
 ∃A c,v= .slice A xs.length c∧xs.length≤c∧c≤maxLen∧(A=none→c=0)∧(∀n∈xs,(Lit.int k n).wf=true)∧∀i x,xs[i]? =some x→∃g o,A=some ⟨g,o,none⟩∧g<w.heap.size∧w.cell? ⟨g,o+i,none⟩=some (.int k x)
theorem RowAt.below {k:IntKind} {w w':World} {v:Value} {xs:List Int} (h:RowAt k w v xs) (hb:Below w.heap.size w w'):RowAt k w' v xs:=by
 obtain⟨A,c,hv,hc,hm,hn,hw,hx⟩:=h
 refine⟨A,c,hv,hc,hm,hn,hw,fun i x hi=>?_⟩
 obtain⟨g,o,h1,h2,h3⟩:=hx i x hi
 exact⟨g,o,h1,Nat.lt_of_lt_of_le h2 hb.size,(hb.cell (p:=⟨g,o+i,none⟩) h2).trans h3⟩
def RowsAt (k:IntKind) (w:World) (v:Value) (xss:List (List Int)):Prop:=
 ∃A c,v= .slice A xss.length c∧xss.length≤c∧c≤maxLen∧(A=none→c=0)∧∀i xs,xss[i]? =some xs→∃g o u,A=some ⟨g,o,none⟩∧g<w.heap.size∧w.cell? ⟨g,o+i,none⟩=some u∧RowAt k w u xs
theorem RowsAt.below {k:IntKind} {w w':World} {v:Value} {xss:List (List Int)} (h:RowsAt k w v xss) (hb:Below w.heap.size w w'):RowsAt k w' v xss:=by
 obtain⟨A,c,hv,hc,hm,hn,hx⟩:=h
 refine⟨A,c,hv,hc,hm,hn,fun i x hi=>?_⟩
 obtain⟨g,o,u,h1,h2,h3,h4⟩:=hx i x hi
 exact⟨g,o,u,h1,Nat.lt_of_lt_of_le h2 hb.size,(hb.cell (p:=⟨g,o+i,none⟩) h2).trans h3,h4.below hb⟩
end Go.Proofs.YtcbjjdpngeabgaaGreatDoor
namespace Go.Proofs.YtcbjjdpngeabgaaGreatDoor
open Go.ChangeShapes Go.WideShapes Go.ChangeAt Go.RowKit
theorem own:ownKnob Tryz.prog.godebug=none:=by kernel_rfl
theorem laidOut:laidOutB Tryz.prog=true:=by kernel_rfl
theorem trodAll_below {P:Program} {H:Type} {enc:TypeId×Value→H} (hl:laidOutB P=true) {W W':World} (hb:Below W.heap.size W W'):
  ∀{ts:List TypeId} {vs:List Value} {ds:List (DataW H)} {ps:List MemPlace},(ts.all fun t=>P.readableRec t&&decide (t<P.types.size))=true→
   DataW.TrodAll enc P W 0 (fun _=>true) true ts vs ds ps→(∀x∈ps,x.block<W.heap.size)→DataW.TrodAll enc P W' 0 (fun b=>decide (b<W.heap.size)) true ts vs ds ps
 | [],[],[],_,_,h,_=>h
 | t::ts,_::_,_::_,_,hr,⟨p,q,h1,h2,e⟩,hx=>by
  simp only[List.all_cons,Bool.and_eq_true,decide_eq_true_eq]at hr
  exact⟨p,q,Below.trod hl hr.1.1 hr.1.2 h1 hb (fun x hx1=>hx x (by rw[e];exact List.mem_append_left _ hx1)),trodAll_below hl hb hr.2 h2 (fun x hx1=>hx x (by rw[e];exact List.mem_append_right _ hx1)),e⟩
theorem open_row {P:Program} {H:Type} {enc:TypeId×Value→H} {W:World} {base:Nat} {t e:TypeId} {k:IntKind} {v:Value} {d:DataW H} {p:List MemPlace} (ht:P.underlying t=some (.slice e)) (he:P.underlying e=some (.int k)) (hc:P.cellsOf e=1)
  (hval:Value.okWide P W .any base t v) (h:DataW.Trod enc P W 0 (fun _=>true) true t v d p): ∃xs,RowAt k W v xs:=by
 obtain⟨a1,len,cap,rfl⟩:=okWide_slice ht hval
 obtain⟨fuel,hf⟩:=h
 rcases open_ints ht he hc hf with⟨hcs,_⟩|⟨a,len',cap',zs,hcs,_,hl,hm,hz,_,hcell,hwz⟩
 ·simp only[Value.cells,List.cons.injEq,Value.slice.injEq,and_true]at hcs
  obtain⟨rfl,rfl,rfl⟩:=hcs
  exact⟨[],none,0,rfl,Nat.le_refl _,Nat.zero_le _,fun _=>rfl,by simp,by simp⟩
 ·simp only[Value.cells,List.cons.injEq,Value.slice.injEq,and_true]at hcs
  obtain⟨rfl,rfl,rfl⟩:=hcs
  simp only[if_true]at hz
  have htl:(zs.take len).length=len:=by rw[List.length_take];omega
  refine⟨zs.take len,some a,cap,by rw[htl],by rw[htl];exact hl,hm,(fun h=>by cases h),fun n hn=>hwz n (List.mem_of_mem_take hn),fun i x hi=>?_⟩
  have hil:i<len:=by
   have:=(List.getElem?_eq_some_iff.1 hi).1
   omega
  rw[List.getElem?_take_of_lt hil]at hi
  obtain⟨b,off,rfl,hc2⟩:=ints_at hcell (by omega)
  have hx:=hc2 i (by omega)
  rw[List.getD_eq_getElem?_getD,hi]at hx
  exact⟨b,off,rfl,World.block_lt_of_cell? W _ hx,hx⟩
theorem add_form {W:World} {a:Addr} {v:Value} (h:W.cell? (a.add 0)=some v): ∃g o,a=⟨g,o,none⟩:=by
 obtain⟨g,o,s⟩:=a
 have hs:s=none:=by simpa [Addr.add] using World.cell?_spot h
 subst hs
 exact⟨g,o,rfl⟩
theorem open_rows {P:Program} {H:Type} {enc:TypeId×Value→H} {W:World} {base:Nat} {t e q:TypeId} {k:IntKind} {v:Value} {d:DataW H} {p:List MemPlace} (ht:P.underlying t=some (.slice e)) (he:P.underlying e=some (.slice q)) (hq:P.underlying q=some (.int k)) (ce:P.cellsOf e=1) (cq:P.cellsOf q=1)
  (hval:Value.okWide P W .any base t v) (h:DataW.Trod enc P W 0 (fun _=>true) true t v d p): ∃xss,RowsAt k W v xss:=by
 obtain⟨a1,len,cap,rfl⟩:=okWide_slice ht hval
 obtain⟨fuel,hf⟩:=h
 rcases Go.Deep.open_int_rows ht he hq ce cq hf with⟨hcs,_⟩|⟨a,len',cap',A,L,C,Z,hcs,_,hl,hm,_,hrow⟩
 ·simp only[Value.cells,List.cons.injEq,Value.slice.injEq,and_true]at hcs
  obtain⟨rfl,rfl,rfl⟩:=hcs
  exact⟨[],none,0,rfl,Nat.le_refl _,Nat.zero_le _,fun _=>rfl,by simp⟩
 ·simp only[Value.cells,List.cons.injEq,Value.slice.injEq,and_true]at hcs
  obtain⟨rfl,rfl,rfl⟩:=hcs
  refine⟨(List.range len).map fun r=>(Z r).take (L r),some a,cap,by simp,by simpa using hl,hm,(fun h=>by cases h),fun i xs hi=>?_⟩
  have hil:i<len:=by
   have:=(List.getElem?_eq_some_iff.1 hi).1
   simpa using this
  rw[List.getElem?_map,List.getElem?_range hil]at hi
  obtain rfl:=Option.some.inj hi
  obtain⟨h1,h2,h3,h4,h5,h6,h7⟩:=hrow i (by omega)
  obtain⟨g,o,rfl⟩:=add_form (hrow 0 (by omega)).1
  have hc:W.cell? ⟨g,o+i,none⟩=some (.slice (A i) (L i) (C i)):=by rw[←addr_add2];exact h1
  have htl:((Z i).take (L i)).length=L i:=by rw[List.length_take];omega
  refine⟨g,o,_,rfl,World.block_lt_of_cell? W _ hc,hc,A i,C i,by rw[htl],by rw[htl];exact h2,h3,h6,fun n hn=>h5 n (List.mem_of_mem_take hn),fun j x hj=>?_⟩
  change ((Z i).take (L i))[j]? =some x at hj
  have hjl:j<L i:=by
   have:=(List.getElem?_eq_some_iff.1 hj).1
   omega
  rw[List.getElem?_take_of_lt hjl]at hj
  cases hA:A i with
  | none=>have:=h6 hA;omega
  | some a'=>
   have hx:=(h7 a' hA).2 j (by omega)
   rw[List.getD_eq_getElem?_getD,hj]at hx
   obtain⟨g',o',rfl⟩:=add_form ((h7 a' hA).2 0 (by omega))
   have hc':W.cell? ⟨g',o'+j,none⟩=some (.int k x):=by rw[←addr_add2];exact hx
   exact⟨g',o',rfl,World.block_lt_of_cell? W _ hc',hc'⟩
end Go.Proofs.YtcbjjdpngeabgaaGreatDoor
namespace Go.Proofs.YtcbjjdpngeabgaaGreatDoor
open Go.ChangeShapes Go.WideShapes Go.ChangeAt Go.RowKit
theorem open_row_sized {P:Program} {H:Type} {enc:TypeId×Value→H} {W:World} {base:Nat} {t e:TypeId} {k:IntKind} {v:Value} {d:DataW H} {p:List MemPlace} {N:Nat} (ht:P.underlying t=some (.slice e)) (he:P.underlying e=some (.int k)) (hc:P.cellsOf e=1)
  (hval:Value.okWide P W .any base t v) (h:DataW.Trod enc P W 0 (fun _=>true) true t v d p) (hsz: ∀elems spare,d= .slice elems spare→elems.length+spare.length≤N): ∃xs,RowAt k W v xs∧xs.length≤N:=by
 obtain⟨a1,len,cap,rfl⟩:=okWide_slice ht hval
 obtain⟨fuel,hf⟩:=h
 rcases open_ints ht he hc hf with⟨hcs,_⟩|⟨a,len',cap',zs,hcs,_,hl,hm,hz,hd,hcell,hwz⟩
 ·simp only[Value.cells,List.cons.injEq,Value.slice.injEq,and_true]at hcs
  obtain⟨rfl,rfl,rfl⟩:=hcs
  exact⟨[],⟨none,0,rfl,Nat.le_refl _,Nat.zero_le _,fun _=>rfl,by simp,by simp⟩,Nat.zero_le _⟩
 ·simp only[Value.cells,List.cons.injEq,Value.slice.injEq,and_true]at hcs
  obtain⟨rfl,rfl,rfl⟩:=hcs
  simp only[if_true]at hz
  have htl:(zs.take len).length=len:=by rw[List.length_take];omega
  have hd1:=hsz _ _ (congrArg Prod.fst hd)
  simp only[lits,List.length_map]at hd1
  refine⟨zs.take len,⟨some a,cap,by rw[htl],by rw[htl];exact hl,hm,(fun h=>by cases h),fun n hn=>hwz n (List.mem_of_mem_take hn),fun i x hi=>?_⟩,by omega⟩
  have hil:i<len:=by
   have:=(List.getElem?_eq_some_iff.1 hi).1
   omega
  rw[List.getElem?_take_of_lt hil]at hi
  obtain⟨b,off,rfl,hc2⟩:=ints_at hcell (by omega)
  have hx:=hc2 i (by omega)
  rw[List.getD_eq_getElem?_getD,hi]at hx
  exact⟨b,off,rfl,World.block_lt_of_cell? W _ hx,hx⟩
end Go.Proofs.YtcbjjdpngeabgaaGreatDoor
namespace Go.Proofs.YtcbjjdpngeabgaaGreatDoor
open Go.ChangeShapes Go.WideShapes Go.ChangeAt Go.RowKit
def laidL:List (String×DataW Unit):= [("math/bits.deBruijn32tab",Rows.laid_math_bits_deBruijn32tab),("math/bits.deBruijn64tab",Rows.laid_math_bits_deBruijn64tab),("internal/strconv.uint64pow10",Rows.laid_internal_strconv_uint64pow10)]
theorem handed_both {H:Type} {enc:TypeId×Value→H} {a:Assume} {C:Checked} {os:Os} {f:FuncId} {fn:Func} {s:ChangeSpec} {conds:List PathCond} {apart fresh handsOn again:Bool} {X:World→Array Value→Prop}
  (own:ownKnob C.prog.godebug=none) (started:os.Started) (noInit:C.prog.inits.idxOf? f=none) (hfn:C.prog.funcs[f]? =some fn)
  (witness: ∃(w:World) (tape:Tape) (i:Input),w.os=os∧(w.forCall tape i).Shaped C.prog∧i.vars= []∧Input.okWide C.prog (w.forCall tape i) .any w.heap.size f i∧
   ((s.pre enc C.prog fn conds apart (w.forCall tape i).memory i.args∧X (w.forCall tape i).memory i.args)∧sizedMet enc C.prog fn (OpenSpec.ofChange s) apart (w.forCall tape i).memory i.args)∧a.holds C.prog (lone (Frame.enter C.prog f i.args .normal) [] (w.forCall tape i)))
  (contract: ∀(W:World) (base:Nat) (args:Array Value) (ds gs:List (DataW H)) (before:List MemPlace),
   (∀(j:Nat) t v,fn.params[j]? =some t→args[j]? =some v→Value.okWide C.prog W .any base t v)→
   DataW.Whole enc C.prog fn.params.toList s.vars apart W args.toList ds gs before→
   (DataW.weightsEach C.prog (fn.params.toList++s.plain.varTypes C.prog) (ds++gs)).all (· ≤reachBytes)=true→
   W.ShapedOpen C.prog→(∃W0:World,W0.heap=W.heap∧X W0 args)→
   Calls C.prog f args W fun e W'=> ∃v,e= .returned v∧s.post enc C.prog fn apart fresh handsOn again W args v W'):
  ReturnsInHanded a C os f .any (fun w args=>(s.pre enc C.prog fn conds apart w args∧X w args)∧sizedMet enc C.prog fn (OpenSpec.ofChange s) apart w args) (s.post enc C.prog fn apart fresh handsOn again):=by
 refine returnsInHanded_of_calls own started noInit witness ?_
 intro w tape i _ hsh _ hok hpre _
 obtain⟨_,_,_,fn',hfn',_,_,_,_,hval⟩:=hok
 have e:fn'=fn:=Option.some.inj (hfn'.symm.trans hfn)
 subst e
 obtain⟨⟨⟨ds,gs,before,hw,_⟩,hx⟩,hz⟩:=hpre
 have hw':=DataW.Whole.of_heap (w':=w.forCall tape i) (by rfl) hw
 refine(contract (w.forCall tape i) w.heap.size i.args ds gs before hval hw' (hz.weights hw) hsh ⟨_,by rfl,hx⟩).mono fun e W' ⟨v,he,hp⟩=>?_
 subst he
 exact ChangeSpec.post_blind hp
theorem shaped0 (os:Os) (args:Array Value):((World.laidAll Tryz.prog os laidL).forCall (fun _ _=>0) ⟨#[],args,[]⟩).Shaped Tryz.prog:=World.shaped_of_ZipB (by kernel_rfl) (by kernel_rfl)
theorem laid0 (os:Os) (args:Array Value):laidMetH Tryz.prog laidL ((World.laidAll Tryz.prog os laidL).forCall (fun _ _=>0) ⟨#[],args,[]⟩).memory:=by
 rw[MakeChecks.laidMetH_plain _ _ _ (by kernel_rfl)]
 exact laidMet_laidAll _ (by kernel_rfl) (by kernel_rfl)
theorem tab_of_laid {W:World} (h: ∃W0:World,W0.heap=W.heap∧laidMetH Tryz.prog laidL W0):TabW W:=by
 obtain⟨W0,hh,h⟩:=h
 rw[MakeChecks.laidMetH_plain _ _ _ (by kernel_rfl)]at h
 obtain⟨ps,⟨_,_,_,_,_,_,_,_,_,_,⟨_,_,_,_,_,_,_,_,_,_,⟨g,t,cs,fuel,p,q,hg,hty,hvar,hd,_,_⟩,_⟩,_⟩,_⟩:=h
 obtain rfl:(0:Nat)=g:=Option.some.inj (tab_named.symm.trans hg)
 obtain rfl:(245:Nat)=t:=Option.some.inj ((show(Tryz.prog.globals[(0:Nat)]?).map (·.type)=some (245:Nat) by kernel_rfl).symm.trans hty)
 have e:=Lib.cells_of_tab (zs:=Lib.pow10Tab) (k:=.u64) Tryz.underlying245 Tryz.underlying199 (by kernel_rfl) (by kernel_rfl) hd
 refine TabW.of_block (w:=W0) ?_ (by rw[hh])
 unfold TabW Lib.TabIs
 rw[hvar,←e]
end Go.Proofs.YtcbjjdpngeabgaaGreatDoor
