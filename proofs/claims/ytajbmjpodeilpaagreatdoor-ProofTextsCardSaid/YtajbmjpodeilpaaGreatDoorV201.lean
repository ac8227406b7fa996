/- What a range over a function keeps: all cells and walks but some. (*strings.Builder).WriteString of the library, laid by hand at this program's numbers. The line of a step (package lratext). lratext.line. Plain: the text of a proof. Plain: a text, parted; a decimal numeral is read back. Plain: what a line of a proof is parted into. -/
import Derived.Test.YtajbmjpodeilpaaGreatDoorV200
import Derived.RangeFuncNested
import Derived.RangeFuncBound
import Derived.RangeFuncCalls
import Derived.RangeFuncLeaves
import Derived.RangeFuncBox
import Derived.Shelf.Abstract
import Derived.Shelf.RegionOpen
import Derived.OwnWalkIn
import Derived.TacticsInMore
import Derived.LoopNIn
import Derived.LoopIn
import Derived.Maps.OwnIn
import Derived.Test.YtajbmjpodeilpaaGreatDoorShelf
import Derived.Lib.ItoaLen
import Derived.Lib.AppendIntMem
import Derived.Lib.Split
import Derived.Lib.SplitLaws
import Derived.Lib.CountLaws
import Derived.Lib.IndexBytes
import Derived.Lib.Atoi
import Derived.Lib.ItoaNum
namespace Go.Proofs.YtajbmjpodeilpaaGreatDoor
open Go.RowKit Go.Shelf Go.Maps
attribute [local go_sem] Oper.semAt_some
def XO (W:World) (g:Nat):Prop:= ∃o,W.heap[g]? =some o∧o.isCells=false∧o.isWalk=false
structure KpC (X:Nat→Prop) (W W':World):Prop where
 os:W'.os=W.os
 tape:W'.tape=W.tape
 output:W'.output=W.output
 size:W.heap.size≤W'.heap.size
 same: ∀k o,W.heap[k]? =some o→¬X k→(o.isCells=true∨o.isWalk=true)→W'.heap[k]? =some o
theorem KpC.kept {X:Nat→Prop} {W W':World} (h:KpC X W W'):Kept (fun g=>X g∨XO W g) W W':=
 ⟨h.os,h.tape,h.output,h.size,fun k hk hn=>by
  have hg:W.heap[k]? =some W.heap[k]:=Array.getElem?_eq_getElem hk
  rw[hg]
  refine h.same k _ hg (fun hx=>hn (.inl hx)) ?_
  apply Classical.byContradiction
  intro hc
  simp only[not_or,Bool.not_eq_true]at hc
  exact hn (.inr ⟨_,hg,hc.1,hc.2⟩)⟩
theorem KpC.trans {X:Nat→Prop} {A B C:World} (h:KpC X A B) (k:KpC X B C):KpC X A C:=
 ⟨k.os.trans h.os,k.tape.trans h.tape,k.output.trans h.output,Nat.le_trans h.size k.size,fun i o hi hx ho=>k.same i o (h.same i o hi hx ho) hx ho⟩
theorem KpC.mono {X X':Nat→Prop} {A B:World} (h:KpC X A B) (hX: ∀g,g<A.heap.size→X g→X' g):KpC X' A B:=
 ⟨h.os,h.tape,h.output,h.size,fun i o hi hx ho=>h.same i o hi (fun h'=>hx (hX i (heap_lt hi) h')) ho⟩
theorem KpC.of_grown {A B:World} {row:Option Nat} (h:A.grownBy B row):KpC (fun g=>some g=row) A B:=
 ⟨h.os,h.tape,h.output,h.size,fun k _ hk hn _=>(h.block k (heap_lt hk) hn).trans hk⟩
theorem KpC.refl (X:Nat→Prop) (A:World):KpC X A A:=⟨rfl,rfl,rfl,Nat.le_refl _,fun _ _ h _ _=>h⟩
theorem KpC.of_below {X:Nat→Prop} {A B:World} (h:Below A.heap.size A B):KpC X A B:=⟨h.os,h.tape,h.output,h.size,fun k _ hk _ _=>(h.block k (heap_lt hk)).trans hk⟩
theorem KpC.putObj (W:World) (l:Nat) (o o':Obj) (h:W.heap[l]? =some o) (hc:o.isCells=false) (hw:o.isWalk=false):KpC (fun _=>False) W (W.putObj l o'):=by
 have hg:=grownBy_putObj' W l o'
 refine⟨hg.os,hg.tape,hg.output,hg.size,fun k x hk _ hx=>?_⟩
 rw[hg.block k (heap_lt hk) (fun e=>by
  cases e
  rw[h]at hk
  cases hk
  rw[hc,hw]at hx
  simp at hx)]
 exact hk
theorem xo_cells {W:World} {g:Nat} {c:Array Value} {t:TypeId} {f:Nat×Nat} (h:W.heap[g]? =some (.cells c t f)): ¬XO W g:=by
 rintro ⟨o,ho,hc,_⟩
 rw[h]at ho
 cases ho
 cases hc
theorem xo_cell {W:World} {p:Addr} {v:Value} (h:W.cell? p=some v): ¬XO W p.block:=by
 rintro ⟨o,ho,hc,_⟩
 unfold World.cell? at h
 rw[ho]at h
 cases o <;> simp_all [Obj.isCells]
theorem IntsIn.narrow {O:Nat→Prop} {w:World} {v:Value} {xs:List Int} (h:IntsIn O w v xs):IntsIn (fun g=>O g∧¬XO w g) w v xs:=by
 obtain⟨A,c,hv,hc,hn,hx⟩:=h
 refine⟨A,c,hv,hc,hn,fun i x hi=>?_⟩
 obtain⟨g,o,h1,h2,h3,h4⟩:=hx i x hi
 exact⟨g,o,h1,h2,⟨h3,xo_cell h4⟩,h4⟩
theorem wpListIn_put {F:Fence} {n:Nat} {w:World} {ops:Array Oper} {rest:List Oper} {o:Oper} {a:Act} {Q:Exit→Act→World→Prop} {b k:Nat} {f:Int→Int} (hown:MapAt w b k f)
  (hg:o.guard=none) (m x v:Operand) (hop:o.op=Op.mapUpdate 115 m x v) (hm:a.eval m= .map (some b)) (hn:k<maxLen) (i y:Int) (hx:a.eval x= .int .i64 i) (hv:a.eval v= .int .i64 y)
  (hi:(Lit.int .i64 i).wf=true) (hy:(Lit.int .i64 y).wf=true)
  (hK: ∀w',MapAt w' b (k+1) (fun z=>if z=i then y else f z)→w.grownBy w' (some b)→wpListIn F n Tryz.prog ops Q rest (a.put o.dst undef) w'):wpListIn F n Tryz.prog ops Q (o::rest) a w:=by
 obtain⟨D,ho,hmap,hf⟩:=hown
 exact wpListIn_mapUpdate_own w hg m x v _ hop 3 3 int_law Tryz.underlying115 _ b k D hm ho hn _ _ _ hx hv (keyOf_int_mk Tryz.underlying3 hi) _ [] (plainElem_int Tryz.underlying3 hy)
  (fun w' h1 h2=>hK w' (MapAt.put hmap hf h1) h2)
end Go.Proofs.YtajbmjpodeilpaaGreatDoor
namespace Go.Proofs.YtajbmjpodeilpaaGreatDoor
open Go.RowKit Go.Shelf
def bw_ren:Go.Shelf.Ren:=⟨fun|166=>173|240=>208|276=>238|n=>n,fun|0=>0|3=>3|4=>4|5=>5|9=>9|20=>20|37=>257|70=>256|72=>259|75=>252|80=>261|164=>312|n=>n,fun n=>n⟩
theorem bw_lays:Go.Proofs.Lays.n166 Tryz.prog bw_ren:={
 mixed:=by kernel_rfl
 f166:=Tryz.func173.trans (congrArg some (by kernel_rfl))
 f240:=Tryz.func208.trans (congrArg some (by kernel_rfl))
 f276:=Tryz.func238.trans (congrArg some (by kernel_rfl))
 t0:=Tryz.underlying0
 a0:=Tryz.isAgg0
 z0:=Tryz.sizeOf0
 v0:=Tryz.zeroValue0
 t3:=Tryz.underlying3
 a3:=Tryz.isAgg3
 z3:=Tryz.sizeOf3
 v3:=Tryz.zeroValue3
 t4:=Tryz.underlying4
 a4:=Tryz.isAgg4
 z4:=Tryz.sizeOf4
 v4:=Tryz.zeroValue4
 t9:=Tryz.underlying9
 a9:=Tryz.isAgg9
 z9:=Tryz.sizeOf9
 v9:=Tryz.zeroValue9
 t20:=Tryz.underlying20
 a20:=Tryz.isAgg20
 z20:=Tryz.sizeOf20
 v20:=Tryz.zeroValue20
 t37:=Tryz.underlying257
 a37:=Tryz.isAgg257
 z37:=Tryz.sizeOf257
 v37:=Tryz.zeroValue257
 t70:=Tryz.underlying256
 a70:=Tryz.isAgg256
 z70:=Tryz.sizeOf256
 v70:=Tryz.zeroValue256
 t72:=Tryz.underlying259
 a72:=Tryz.isAgg259
 z72:=Tryz.sizeOf259
 v72:=Tryz.zeroValue259
 t75:=Tryz.underlying252
 a75:=Tryz.isAgg252
 z75:=Tryz.sizeOf252
 v75:=Tryz.zeroValue252
 t164:=Tryz.underlying312
 a164:=Tryz.isAgg312
 z164:=Tryz.sizeOf312
 v164:=Tryz.zeroValue312 }
theorem bw_extra:Builder.Extra Tryz.prog bw_ren:={
 sizeBuilder:=by kernel_rfl
 liesBuilder:=by kernel_rfl
 t5:=Tryz.underlying5
 a5:=Tryz.isAgg5
 z5:=Tryz.sizeOf5
 v5:=Tryz.zeroValue5
 infoByte:=by kernel_rfl
 cellsByte:=by kernel_rfl
 sizeByte:=by kernel_rfl
 neB5:=by decide }
abbrev IsB (B b:Nat) (l:List UInt8) (w:World):Prop:=Lib.IsBuilderF 259 5 B b (Lib.byteCells l) w
theorem bw_write (B b:Nat) (l:List UInt8) (s:ByteArray) (w:World) (h:IsB B b l w) (hlen:l.length+s.size≤140737488355328) (hBw:B≤w.heap.size):
  Calls Tryz.prog 173 #[.pointer (some ⟨b,0,none⟩),.string s] w fun e w'=>e= .returned (.tuple #[.int .i64 s.size,.nilIface])∧IsB B b (l++s.data.toList) w'∧Below B w w':=
 (Any.Builder_WriteString_f bw_lays bw_extra B b (Lib.byteCells l) s w h (by simpa [Lib.byteCells] using hlen) hBw).mono fun _ _ ⟨h1,h2,h3⟩=>⟨h1,by
  have e:Lib.byteCells l++Lib.strCells s=Lib.byteCells (l++s.data.toList):=by simp[Lib.byteCells,Lib.strCells]
  rw[e]at h2
  exact .inr h2,h3⟩
theorem bw_string (B b:Nat) (l:List UInt8) (w:World) (h:IsB B b l w) (hBw:B≤w.heap.size):
  Calls Tryz.prog 174 #[.pointer (some ⟨b,0,none⟩)] w fun e w'=>e= .returned (.string ⟨l.toArray⟩)∧Below B w w':=
 (Tryz.Builder_String_any_f B b l w h hBw).mono fun _ _ ⟨h1,_,h3⟩=>⟨h1,h3⟩
theorem IsB.new (B:Nat) (w:World) (hB:B≤w.heap.size):IsB B w.heap.size [] (w.alloc (.cells #[.pointer none,.slice none 0 0] 259)):=
 .inl ⟨hB,.slice none 0 0,World.alloc_heap_new _ _,World.ownsRowF_of (World.ownsRow_nil _ _ _ _),by simp[Value.ownBlock]⟩
end Go.Proofs.YtajbmjpodeilpaaGreatDoor
namespace Go.Proofs.YtajbmjpodeilpaaGreatDoor
open Go.RowKit
def TabW (w:World):Prop:=Lib.TabIs Tryz.prog w "internal/strconv.uint64pow10" .u64 Lib.pow10Tab
theorem tab_named:Tryz.prog.globalNamed "internal/strconv.uint64pow10" =some 5:=by kernel_rfl
theorem TabW.lt {w:World} (h:TabW w):5<w.heap.size:=by
 unfold TabW Lib.TabIs World.var? at h
 rw[tab_named]at h
 simp only[Option.bind_some]at h
 apply Classical.byContradiction
 intro hn
 rw[Array.getElem?_eq_none (by omega)]at h
 cases h
theorem TabW.of_block {w w':World} (h:TabW w) (hb:w'.heap[(5:Nat)]? =w.heap[(5:Nat)]?):TabW w':=by
 unfold TabW Lib.TabIs World.var? at *
 rw[tab_named]at *
 simp only[Option.bind_some]at *
 rw[hb]
 exact h
theorem TabW.below {B:Nat} {w w':World} (h:TabW w) (hb:Below B w w') (hB:5<B):TabW w':=h.of_block (hb.block _ hB)
theorem TabW.next {w w':World} (h:TabW w) (hb:Below w.heap.size w w'):TabW w':=h.below hb h.lt
def Rng (x:Int):Prop:= -9223372036854775808≤x∧x≤9223372036854775807
theorem itoa_any (n:Int) (w:World) (hn:Rng n) (ht:TabW w):
  Calls Tryz.prog 171 #[.int .i64 n] w fun e w'=>e= .returned (.string ⟨(Lib.itoa n).toArray⟩)∧Below w.heap.size w w':=
 (Tryz.strconv_Itoa n hn.1 hn.2 w ht).mono fun _ _ ⟨h,k,os,hw⟩=>⟨h,by rw[hw];exact Lib.below_grow _ _ (Nat.le_refl _) _ _⟩
def numT (n:Int):List UInt8:=32::Lib.itoa n
theorem numT_len (n:Int) (hn:Rng n):(numT n).length≤22:=by
 have:=Lib.itoa_length_le n hn.1 hn.2
 simp only[numT,List.length_cons]
 omega
def numsT (l:List Int):List UInt8:=l.flatMap numT
theorem numsT_len (l:List Int) (h: ∀x∈l,Rng x):(numsT l).length≤l.length*22:=by
 induction l with
 | nil=>simp[numsT]
 | cons x l ih=>
  have h1:=ih (fun y hy=>h y (List.mem_cons_of_mem _ hy))
  have h2:=numT_len x (h x List.mem_cons_self)
  simp only[numsT,List.flatMap_cons,List.length_append,List.length_cons]at *
  omega
theorem numsT_take (l:List Int) (k:Nat) (x:Int) (h:l[k]? =some x):numsT (l.take (k+1))=numsT (l.take k)++numT x:=by
 rw[numsT,numsT,List.take_add_one,h,List.flatMap_append]
 simp
def stepT (s:EStep):List UInt8:=Lib.itoa s.id++(if s.del then [32,100]else numsT s.lits++numT 0)++numsT s.hints++numT 0
theorem IsB.kept {B b:Nat} {l:List UInt8} {w w':World} (h:IsB B b l w) (hb:Below w.heap.size w w'):IsB B b l w':=by
 have key: ∀p,Lib.BuilderAtF 259 5 B b p (Lib.byteCells l) w→Lib.BuilderAtF 259 5 B b p (Lib.byteCells l) w':=fun p ⟨h1,v,h2,h3,h4⟩=>
  ⟨h1,v,(hb.block b (heap_lt h2)).trans h2,h3.kept (row:=none) ⟨hb.os,hb.tape,hb.output,hb.size,fun k hk _=>hb.block k hk⟩ (by cases hv:v.ownBlock <;> simp),h4⟩
 exact h.imp (key _) (key _)
theorem ba_size (a b:List UInt8):((⟨a.toArray⟩:ByteArray)++⟨b.toArray⟩).size=a.length+b.length:=by
 rw[ByteArray.size_append]
 rfl
set_option maxHeartbeats 400000 in
theorem line_add (n:Int) (B b:Nat) (l:List UInt8) (w:World) (h:IsB B b l w) (hl:l.length≤100000000) (hBw:B≤w.heap.size) (hn:Rng n) (ht:TabW w):
  Calls Tryz.prog 172 #[.int .i64 n,.pointer (some ⟨b,0,none⟩)] w fun e w'=>(∃v,e= .returned v)∧IsB B b (l++numT n) w'∧Below B w w':=by
 have hil:=Lib.itoa_length_le n hn.1 hn.2
 have H:=Lib.hid h
 have HT:=Lib.hid ht
 have HN:=Lib.hid hn
 clear h ht hn
 go_enter Tryz.func172,Tryz.ntmps172
 go_wp2_with fail
 refine(itoa_any n _ HN.out HT.out).mono ?_
 rintro e w1 ⟨rfl,hb1⟩
 have HB1:=Lib.hid hb1
 have hz1:=hb1.size
 clear hb1
 go_wp2_with fail
 refine(bw_write B b l _ _ (H.out.kept HB1.out) (by rw[ba_size [32]];simp only[List.length_cons,List.length_nil];omega) (by omega)).mono ?_
 rintro e w2 ⟨rfl,h2,hb2⟩
 have H2:=Lib.hid h2
 have HB2:=Lib.hid hb2
 clear h2 hb2
 go_wp2_with fail
 go_end0
 refine⟨⟨_,rfl⟩,?_,(HB1.out.mono hBw).trans HB2.out⟩
 have:=H2.out
 simpa [numT] using this
end Go.Proofs.YtajbmjpodeilpaaGreatDoor
namespace Go.Proofs.YtajbmjpodeilpaaGreatDoor
open Go.RowKit
theorem stepOk_rng {s:EStep} (h:StepOk s):Rng s.id∧(∀x∈s.lits,Rng x)∧(∀x∈s.hints,Rng x)∧s.lits.length≤4096:=by
 have h1:=h.lits
 unfold clauseB at h1
 rw[Bool.and_eq_true,decide_eq_true_eq]at h1
 refine⟨⟨by have:=h.id0;omega,by have:=h.id1;omega⟩,fun x hx=>?_,fun x hx=>?_,h1.1⟩
 ·have:=(litB_iff x).1 (List.all_eq_true.1 h1.2 x hx)
  exact⟨by omega,by omega⟩
 ·have:=h.hints x hx
  exact⟨by have:=this.1;omega,by have:=this.2;omega⟩
structure StepLn (s:EStep):Prop where
 id:Rng s.id
 lits: ∀x∈s.lits,Rng x
 hints: ∀x∈s.hints,Rng x
 llen:s.lits.length≤4096
 len:s.hints.length≤65536
theorem StepOk.ln {s:EStep} (h:StepOk s):StepLn s:=by
 obtain⟨r1,r2,r3,r4⟩:=stepOk_rng h
 exact⟨r1,r2,r3,r4,h.len⟩
set_option maxRecDepth 100000 in
set_option maxHeartbeats 2000000 in
theorem line_true {O O':Nat→Prop} (s:EStep) (lv hv:Value) (w:World) (hs:StepLn s) (hd:s.del=true) (hl:IntsIn O w lv s.lits) (hh:IntsIn O' w hv s.hints) (ht:TabW w):
  Calls Tryz.prog 134 #[.agg #[.bool true,.int .i64 s.id,lv,hv]] w fun e w'=>e= .returned (.string ⟨(stepT s).toArray⟩)∧Below w.heap.size w w':=by
 obtain⟨r1,r2,r3,r4,hlen0⟩:=hs
 have hil:=Lib.itoa_length_le s.id r1.1 r1.2
 have hhl:=hlen0
 have HSd:=Lib.hid hd
 have HRid:=Lib.hid r1
 have HRl:=Lib.hid r2
 have HRh:=Lib.hid r3
 have HT:=Lib.hid ht
 obtain⟨A,c,rfl,hcc,_,hx1⟩:=hl
 obtain⟨A',c',rfl,hcc',_,hx2⟩:=hh
 have HX1:=Lib.hid hx1
 have HX2:=Lib.hid hx2
 clear hlen0 hd r1 r2 r3 ht hx1 hx2
 go_enter Tryz.func134,Tryz.ntmps134
 go_wp2_with fail
 obtain⟨wb,hwb⟩: ∃wb,(w.alloc (.cells #[.bool true,.int .i64 s.id,.slice A s.lits.length c,.slice A' s.hints.length c'] 34)).alloc (.cells #[.pointer none,.slice none 0 0] 259)=wb:=⟨_,rfl⟩
 have hB:Below w.heap.size w wb:=by rw[←hwb];exact((Below.refl _ _).alloc (Nat.le_refl _) _).alloc (by simp) _
 have hS:wb.heap.size=w.heap.size+2:=by rw[←hwb];simp
 have hI:IsB (w.heap.size+1) (w.heap.size+1) [] wb:=by
  have:=IsB.new (w.heap.size+1) (w.alloc (.cells #[.bool true,.int .i64 s.id,.slice A s.lits.length c,.slice A' s.hints.length c'] 34)) (by simp)
  rw[World.size_alloc]at this
  rw[←hwb];exact this
 have hcell: ∀j,j<4→wb.cell? ⟨w.heap.size,j,none⟩= #[.bool true,.int .i64 s.id,.slice A s.lits.length c,.slice A' s.hints.length c'][j]? :=fun j _=>by
  rw[←hwb,((Below.refl (w.heap.size+1) _).alloc (by simp) _).cell (p:=⟨w.heap.size,j,none⟩) (Nat.lt_succ_self _)]
  exact cell_new _ _ _ _
 have b0:wb.cell? ⟨w.heap.size,0,none⟩=some (.bool true):=hcell 0 (by omega)
 have b1:wb.cell? ⟨w.heap.size,1,none⟩=some (.int .i64 s.id):=hcell 1 (by omega)
 have b2:wb.cell? ⟨w.heap.size,2,none⟩=some (.slice A s.lits.length c):=hcell 2 (by omega)
 have b3:wb.cell? ⟨w.heap.size,3,none⟩=some (.slice A' s.hints.length c'):=hcell 3 (by omega)
 rw[hwb]
 have HTB:=Lib.hid (HT.out.below hB HT.out.lt)
 have HWB:=Lib.hid hB
 have HWS:=Lib.hid hS
 have HI:=Lib.hid hI
 clear hwb hB hS hI hcell
 refine(itoa_any s.id _ HRid.out HTB.out).mono ?_
 rintro e wc ⟨rfl,hbc⟩
 have hzw:=HWS.out
 have hzc:=hbc.size
 have HBC:=Lib.hid hbc
 clear hbc
 go_wp2_with fail
 refine(bw_write _ _ _ _ _ (HI.out.kept HBC.out) (by show [].length+(Lib.itoa s.id).length≤_;simp only[List.length_nil];omega) (by omega)).mono ?_
 rintro e wd ⟨rfl,hid,hbd⟩
 have hzd:=hbd.size
 have HBc:=Lib.hid (show Below (w.heap.size+1) wb wd from(HBC.out.mono (by omega)).trans hbd)
 have HId:=Lib.hid (show IsB (w.heap.size+1) (w.heap.size+1) (Lib.itoa s.id) wd from hid)
 clear hid hbd HBC
 have d0:wd.cell? ⟨w.heap.size,0,none⟩=some (.bool true):=(HBc.out.cell (p:=⟨w.heap.size,0,none⟩) (Nat.lt_succ_self _)).trans b0
 have d2:wd.cell? ⟨w.heap.size,2,none⟩=some (.slice A s.lits.length c):=(HBc.out.cell (p:=⟨w.heap.size,2,none⟩) (Nat.lt_succ_self _)).trans b2
 have d3:wd.cell? ⟨w.heap.size,3,none⟩=some (.slice A' s.hints.length c'):=(HBc.out.cell (p:=⟨w.heap.size,3,none⟩) (Nat.lt_succ_self _)).trans b3
 go_wp2_with fail
 refine(bw_write _ _ _ _ _ HId.out (by show(Lib.itoa s.id).length+2≤_;omega) (by omega)).mono ?_
 rintro e we ⟨rfl,hie,hbe⟩
 have HIe:=Lib.hid (show IsB (w.heap.size+1) (w.heap.size+1) (Lib.itoa s.id++ [32,100]) we from hie)
 have HBc2:=Lib.hid (HBc.out.trans hbe)
 have hze:=hbe.size
 clear HBc hie hbe d0 d2 d3
 have HBc:=HBc2
 clear HBc2
 obtain⟨acc,hacc⟩: ∃acc,Lib.itoa s.id++ [32,100]=acc:=⟨_,rfl⟩
 have HLEN:Hid (acc.length+s.hints.length*22≤50000000):=Lib.hid (by rw[←hacc];simp only[List.length_append,List.length_cons,List.length_nil];omega)
 rw[hacc]at HIe
 have HACC:=Lib.hid hacc
 clear hacc
 have d3:we.cell? ⟨w.heap.size,3,none⟩=some (.slice A' s.hints.length c'):=(HBc.out.cell (p:=⟨w.heap.size,3,none⟩) (Nat.lt_succ_self _)).trans b3
 go_wp2_with fail
 go_loopw [33] (fun i wr=> ∃k:Nat,k≤s.hints.length∧i= .int .i64 k∧Hid (IsB (w.heap.size+1) (w.heap.size+1) (acc++numsT (s.hints.take k)) wr)∧Hid (Below (w.heap.size+1) wb wr)) (fun i _=>s.hints.length-(intOf i).toNat)
 case atStart=>exact⟨0,Nat.zero_le _,rfl,Lib.hid (by simpa [numsT] using HIe.out),HBc⟩
 case round=>
  obtain⟨k,hk,rfl,HIB,HBr⟩:=hrel
  have hzr:=HBr.out.size
  have hzb:=HWS.out
  by_cases hlt:k<s.hints.length
  ·obtain⟨x,hxk⟩:=getElem_of hlt
   obtain⟨g,o,hgo,hg,_,d0⟩:=HX2.out k x hxk
   subst hgo
   have d1:wr.cell? ⟨g,o+k,none⟩=some (.int .i64 x):=(HBr.out.cell (p:=⟨g,o+k,none⟩) (by simp;omega)).trans ((HWB.out.cell (p:=⟨g,o+k,none⟩) hg).trans d0)
   have hrx:=HRh.out x (List.mem_of_getElem? hxk)
   have hta:=HTB.out.below HBr.out (by have:=HT.out.lt;omega)
   have hlen:(acc++numsT (s.hints.take k)).length≤100000000:=by
    have h1:=numsT_len (s.hints.take k) (fun y hy=>HRh.out y (List.mem_of_mem_take hy))
    have h2:(s.hints.take k).length≤s.hints.length:=by rw[List.length_take];omega
    have h3:=HLEN.out
    simp only[List.length_append]at h1 h2 h3⊢
    omega
   have HX:=Lib.hid hxk
   have HRX:=Lib.hid hrx
   have HTA:=Lib.hid hta
   have HLN:=Lib.hid hlen
   clear hxk d0 hrx hta hlen
   go_wp2_with fail
   refine(line_add x _ _ _ _ HIB.out HLN.out (by omega) HRX.out HTA.out).mono ?_
   rintro e wz ⟨⟨vz,rfl⟩,hbz,hbl⟩
   have HBZ:=Lib.hid hbz
   have HBL:=Lib.hid hbl
   clear hbz hbl
   go_wp2_with fail
   go_roundw
   case rel=>exact⟨k+1,by omega,by go_num,Lib.hid (by rw[numsT_take _ _ _ HX.out,←List.append_assoc];exact HBZ.out),Lib.hid (HBr.out.trans HBL.out)⟩
   case measure=>simp[intOf];omega
  ·obtain rfl:k=s.hints.length:=by omega
   have HI1:=HIB
   rw[List.take_length]at HI1
   have hl1:(acc++numsT s.hints).length≤100000000:=by
    have h1:=numsT_len s.hints HRh.out
    have h3:=HLEN.out
    simp only[List.length_append]
    omega
   have HL1:=Lib.hid hl1
   have hta:=HTB.out.below HBr.out (by have:=HT.out.lt;omega)
   have HTA:=Lib.hid hta
   clear hta hl1
   go_wp2_with fail
   refine(line_add 0 _ _ _ _ HI1.out HL1.out (by omega) ⟨by decide,by decide⟩ HTA.out).mono ?_
   rintro e wf ⟨⟨vz,rfl⟩,hif,hbf⟩
   have HF:=Lib.hid hif
   have HBF:=Lib.hid (HBr.out.trans hbf)
   have hzf:=hbf.size
   clear hif hbf HBr HIB HI1
   go_wp2_with fail
   refine(bw_string _ _ _ _ HF.out (by omega)).mono ?_
   rintro e wg ⟨rfl,hbg⟩
   have HBG:=Lib.hid hbg
   clear hbg
   go_wp2_with fail
   go_ret
   refine⟨?_,HWB.out.trans ((HBF.out.trans HBG.out).mono (by omega))⟩
   rw[←HACC.out]
   simp[stepT,HSd.out]
set_option maxRecDepth 100000 in
set_option maxHeartbeats 2000000 in
theorem line_false {O O':Nat→Prop} (s:EStep) (lv hv:Value) (w:World) (hs:StepLn s) (hd:s.del=false) (hl:IntsIn O w lv s.lits) (hh:IntsIn O' w hv s.hints) (ht:TabW w):
  Calls Tryz.prog 134 #[.agg #[.bool false,.int .i64 s.id,lv,hv]] w fun e w'=>e= .returned (.string ⟨(stepT s).toArray⟩)∧Below w.heap.size w w':=by
 obtain⟨r1,r2,r3,r4,hlen0⟩:=hs
 have hil:=Lib.itoa_length_le s.id r1.1 r1.2
 have hhl:=hlen0
 have HSd:=Lib.hid hd
 have HRid:=Lib.hid r1
 have HRl:=Lib.hid r2
 have HRh:=Lib.hid r3
 have HT:=Lib.hid ht
 obtain⟨A,c,rfl,hcc,_,hx1⟩:=hl
 obtain⟨A',c',rfl,hcc',_,hx2⟩:=hh
 have HX1:=Lib.hid hx1
 have HX2:=Lib.hid hx2
 clear hlen0 hd r1 r2 r3 ht hx1 hx2
 go_enter Tryz.func134,Tryz.ntmps134
 go_wp2_with fail
 obtain⟨wb,hwb⟩: ∃wb,(w.alloc (.cells #[.bool false,.int .i64 s.id,.slice A s.lits.length c,.slice A' s.hints.length c'] 34)).alloc (.cells #[.pointer none,.slice none 0 0] 259)=wb:=⟨_,rfl⟩
 have hB:Below w.heap.size w wb:=by rw[←hwb];exact((Below.refl _ _).alloc (Nat.le_refl _) _).alloc (by simp) _
 have hS:wb.heap.size=w.heap.size+2:=by rw[←hwb];simp
 have hI:IsB (w.heap.size+1) (w.heap.size+1) [] wb:=by
  have:=IsB.new (w.heap.size+1) (w.alloc (.cells #[.bool false,.int .i64 s.id,.slice A s.lits.length c,.slice A' s.hints.length c'] 34)) (by simp)
  rw[World.size_alloc]at this
  rw[←hwb];exact this
 have hcell: ∀j,j<4→wb.cell? ⟨w.heap.size,j,none⟩= #[.bool false,.int .i64 s.id,.slice A s.lits.length c,.slice A' s.hints.length c'][j]? :=fun j _=>by
  rw[←hwb,((Below.refl (w.heap.size+1) _).alloc (by simp) _).cell (p:=⟨w.heap.size,j,none⟩) (Nat.lt_succ_self _)]
  exact cell_new _ _ _ _
 have b0:wb.cell? ⟨w.heap.size,0,none⟩=some (.bool false):=hcell 0 (by omega)
 have b1:wb.cell? ⟨w.heap.size,1,none⟩=some (.int .i64 s.id):=hcell 1 (by omega)
 have b2:wb.cell? ⟨w.heap.size,2,none⟩=some (.slice A s.lits.length c):=hcell 2 (by omega)
 have b3:wb.cell? ⟨w.heap.size,3,none⟩=some (.slice A' s.hints.length c'):=hcell 3 (by omega)
 rw[hwb]
 have HTB:=Lib.hid (HT.out.below hB HT.out.lt)
 have HWB:=Lib.hid hB
 have HWS:=Lib.hid hS
 have HI:=Lib.hid hI
 clear hwb hB hS hI hcell
 refine(itoa_any s.id _ HRid.out HTB.out).mono ?_
 rintro e wc ⟨rfl,hbc⟩
 have hzw:=HWS.out
 have hzc:=hbc.size
 have HBC:=Lib.hid hbc
 clear hbc
 go_wp2_with fail
 refine(bw_write _ _ _ _ _ (HI.out.kept HBC.out) (by show [].length+(Lib.itoa s.id).length≤_;simp only[List.length_nil];omega) (by omega)).mono ?_
 rintro e wd ⟨rfl,hid,hbd⟩
 have hzd:=hbd.size
 have HBc:=Lib.hid (show Below (w.heap.size+1) wb wd from(HBC.out.mono (by omega)).trans hbd)
 have HId:=Lib.hid (show IsB (w.heap.size+1) (w.heap.size+1) (Lib.itoa s.id) wd from hid)
 clear hid hbd HBC
 have d0:wd.cell? ⟨w.heap.size,0,none⟩=some (.bool false):=(HBc.out.cell (p:=⟨w.heap.size,0,none⟩) (Nat.lt_succ_self _)).trans b0
 have d2:wd.cell? ⟨w.heap.size,2,none⟩=some (.slice A s.lits.length c):=(HBc.out.cell (p:=⟨w.heap.size,2,none⟩) (Nat.lt_succ_self _)).trans b2
 have d3:wd.cell? ⟨w.heap.size,3,none⟩=some (.slice A' s.hints.length c'):=(HBc.out.cell (p:=⟨w.heap.size,3,none⟩) (Nat.lt_succ_self _)).trans b3
 go_wp2_with fail
 obtain⟨acc,hacc⟩: ∃acc,Lib.itoa s.id=acc:=⟨_,rfl⟩
 have HLEN:Hid (acc.length+s.lits.length*22≤1000000):=Lib.hid (by rw[←hacc];omega)
 rw[hacc]at HId
 have HACC:=Lib.hid hacc
 clear hacc
 go_loopw [20] (fun i wr=> ∃k:Nat,k≤s.lits.length∧i= .int .i64 k∧Hid (IsB (w.heap.size+1) (w.heap.size+1) (acc++numsT (s.lits.take k)) wr)∧Hid (Below (w.heap.size+1) wb wr)) (fun i _=>s.lits.length-(intOf i).toNat)
 case atStart=>exact⟨0,Nat.zero_le _,rfl,Lib.hid (by simpa [numsT] using HId.out),HBc⟩
 case round=>
  obtain⟨k,hk,rfl,HIB,HBr⟩:=hrel
  have hzr:=HBr.out.size
  have hzb:=HWS.out
  by_cases hlt:k<s.lits.length
  ·obtain⟨x,hxk⟩:=getElem_of hlt
   obtain⟨g,o,hgo,hg,_,d0⟩:=HX1.out k x hxk
   subst hgo
   have d1:wr.cell? ⟨g,o+k,none⟩=some (.int .i64 x):=(HBr.out.cell (p:=⟨g,o+k,none⟩) (by simp;omega)).trans ((HWB.out.cell (p:=⟨g,o+k,none⟩) hg).trans d0)
   have hrx:=HRl.out x (List.mem_of_getElem? hxk)
   have hta:=HTB.out.below HBr.out (by have:=HT.out.lt;omega)
   have hlen:(acc++numsT (s.lits.take k)).length≤100000000:=by
    have h1:=numsT_len (s.lits.take k) (fun y hy=>HRl.out y (List.mem_of_mem_take hy))
    have h2:(s.lits.take k).length≤s.lits.length:=by rw[List.length_take];omega
    have h3:=HLEN.out
    simp only[List.length_append]at h1 h2 h3⊢
    omega
   have HX:=Lib.hid hxk
   have HRX:=Lib.hid hrx
   have HTA:=Lib.hid hta
   have HLN:=Lib.hid hlen
   clear hxk d0 hrx hta hlen
   go_wp2_with fail
   refine(line_add x _ _ _ _ HIB.out HLN.out (by omega) HRX.out HTA.out).mono ?_
   rintro e wz ⟨⟨vz,rfl⟩,hbz,hbl⟩
   have HBZ:=Lib.hid hbz
   have HBL:=Lib.hid hbl
   clear hbz hbl
   go_wp2_with fail
   go_roundw
   case rel=>exact⟨k+1,by omega,by go_num,Lib.hid (by rw[numsT_take _ _ _ HX.out,←List.append_assoc];exact HBZ.out),Lib.hid (HBr.out.trans HBL.out)⟩
   case measure=>simp[intOf];omega
  ·obtain rfl:k=s.lits.length:=by omega
   have HI1:=HIB
   rw[List.take_length]at HI1
   have hl1:(acc++numsT s.lits).length≤100000000:=by
    have h1:=numsT_len s.lits HRl.out
    have h3:=HLEN.out
    simp only[List.length_append]
    omega
   have HL1:=Lib.hid hl1
   have hta:=HTB.out.below HBr.out (by have:=HT.out.lt;omega)
   have HTA:=Lib.hid hta
   clear hta hl1
   go_wp2_with fail
   refine(line_add 0 _ _ _ _ HI1.out HL1.out (by omega) ⟨by decide,by decide⟩ HTA.out).mono ?_
   rintro e we ⟨⟨vz,rfl⟩,hie,hbe⟩
   have HBc2:=Lib.hid (HBr.out.trans hbe)
   have HIe2:=Lib.hid hie
   have hze:=hbe.size
   clear HBc HBr hie hbe d0 d2 d3 HIB HI1
   have HBc:=HBc2
   clear HBc2
   have HLEN2:Hid ((acc++numsT s.lits++numT 0).length+s.hints.length*22≤50000000):=Lib.hid (by
    have h1:=numsT_len s.lits HRl.out
    have h2:=numT_len 0 ⟨by decide,by decide⟩
    have h3:=HLEN.out
    simp only[List.length_append]at h3⊢
    omega)
   clear HLEN
   have HLEN:=HLEN2
   clear HLEN2
   obtain⟨acc2,hacc2⟩: ∃acc2,acc++numsT s.lits++numT 0=acc2:=⟨_,rfl⟩
   rw[hacc2]at HIe2 HLEN
   have HACC2:=Lib.hid hacc2
   have HIe:=HIe2
   clear hacc2 HIe2
   have d3:we.cell? ⟨w.heap.size,3,none⟩=some (.slice A' s.hints.length c'):=(HBc.out.cell (p:=⟨w.heap.size,3,none⟩) (Nat.lt_succ_self _)).trans b3
   go_wp2_with fail
   go_loopw [33] (fun i wr=> ∃k:Nat,k≤s.hints.length∧i= .int .i64 k∧Hid (IsB (w.heap.size+1) (w.heap.size+1) (acc2++numsT (s.hints.take k)) wr)∧Hid (Below (w.heap.size+1) wb wr)) (fun i _=>s.hints.length-(intOf i).toNat)
   case atStart=>exact⟨0,Nat.zero_le _,rfl,Lib.hid (by simpa [numsT] using HIe.out),HBc⟩
   case round=>
    obtain⟨k,hk,rfl,HIB,HBr⟩:=hrel
    have hzr:=HBr.out.size
    have hzb:=HWS.out
    by_cases hlt:k<s.hints.length
    ·obtain⟨x,hxk⟩:=getElem_of hlt
     obtain⟨g,o,hgo,hg,_,d0⟩:=HX2.out k x hxk
     subst hgo
     have d1:wr.cell? ⟨g,o+k,none⟩=some (.int .i64 x):=(HBr.out.cell (p:=⟨g,o+k,none⟩) (by simp;omega)).trans ((HWB.out.cell (p:=⟨g,o+k,none⟩) hg).trans d0)
     have hrx:=HRh.out x (List.mem_of_getElem? hxk)
     have hta:=HTB.out.below HBr.out (by have:=HT.out.lt;omega)
     have hlen:(acc2++numsT (s.hints.take k)).length≤100000000:=by
      have h1:=numsT_len (s.hints.take k) (fun y hy=>HRh.out y (List.mem_of_mem_take hy))
      have h2:(s.hints.take k).length≤s.hints.length:=by rw[List.length_take];omega
      have h3:=HLEN.out
      simp only[List.length_append]at h1 h2 h3⊢
      omega
     have HX:=Lib.hid hxk
     have HRX:=Lib.hid hrx
     have HTA:=Lib.hid hta
     have HLN:=Lib.hid hlen
     clear hxk d0 hrx hta hlen
     go_wp2_with fail
     refine(line_add x _ _ _ _ HIB.out HLN.out (by omega) HRX.out HTA.out).mono ?_
     rintro e wz ⟨⟨vz,rfl⟩,hbz,hbl⟩
     have HBZ:=Lib.hid hbz
     have HBL:=Lib.hid hbl
     clear hbz hbl
     go_wp2_with fail
     go_roundw
     case rel=>exact⟨k+1,by omega,by go_num,Lib.hid (by rw[numsT_take _ _ _ HX.out,←List.append_assoc];exact HBZ.out),Lib.hid (HBr.out.trans HBL.out)⟩
     case measure=>simp[intOf];omega
    ·obtain rfl:k=s.hints.length:=by omega
     have HI1:=HIB
     rw[List.take_length]at HI1
     have hl1:(acc2++numsT s.hints).length≤100000000:=by
      have h1:=numsT_len s.hints HRh.out
      have h3:=HLEN.out
      simp only[List.length_append]
      omega
     have HL1:=Lib.hid hl1
     have hta:=HTB.out.below HBr.out (by have:=HT.out.lt;omega)
     have HTA:=Lib.hid hta
     clear hta hl1
     go_wp2_with fail
     refine(line_add 0 _ _ _ _ HI1.out HL1.out (by omega) ⟨by decide,by decide⟩ HTA.out).mono ?_
     rintro e wf ⟨⟨vz,rfl⟩,hif,hbf⟩
     have HF:=Lib.hid hif
     have HBF:=Lib.hid (HBr.out.trans hbf)
     have hzf:=hbf.size
     clear hif hbf HBr HIB HI1
     go_wp2_with fail
     refine(bw_string _ _ _ _ HF.out (by omega)).mono ?_
     rintro e wg ⟨rfl,hbg⟩
     have HBG:=Lib.hid hbg
     clear hbg
     go_wp2_with fail
     go_ret
     refine⟨?_,HWB.out.trans ((HBF.out.trans HBG.out).mono (by omega))⟩
     rw[←HACC2.out,←HACC.out]
     simp[stepT,HSd.out]
theorem line_any {O O':Nat→Prop} (s:EStep) (lv hv:Value) (w:World) (hs:StepLn s) (hl:IntsIn O w lv s.lits) (hh:IntsIn O' w hv s.hints) (ht:TabW w):
  Calls Tryz.prog 134 #[.agg #[.bool s.del,.int .i64 s.id,lv,hv]] w fun e w'=>e= .returned (.string ⟨(stepT s).toArray⟩)∧Below w.heap.size w w':=by
 cases hd:s.del
 ·exact line_false s lv hv w hs hd hl hh ht
 ·exact line_true s lv hv w hs hd hl hh ht
end Go.Proofs.YtajbmjpodeilpaaGreatDoor
namespace Go.Proofs.YtajbmjpodeilpaaGreatDoor
open Go.RowKit
def proofT (l:List EStep):List UInt8:=l.flatMap fun s=>stepT s++ [10]
end Go.Proofs.YtajbmjpodeilpaaGreatDoor
namespace Go.Proofs.YtajbmjpodeilpaaGreatDoor
open Go.RowKit
def spl (c:UInt8):List UInt8→List (List UInt8)
 | []=> [[]]
 | b::r=>if b=c then []::spl c r else match spl c r with
  | []=> [[b]]
  | x::t=>(b::x)::t
theorem spl_none {c:UInt8}: ∀{s:List UInt8},c∉s→spl c s= [s]
 | [],_=>rfl
 | b::r,h=>by
  rw[List.mem_cons,not_or]at h
  rw[spl,if_neg (fun e=>h.1 e.symm),spl_none h.2]
theorem spl_app {c:UInt8}: ∀{x:List UInt8} (r:List UInt8),c∉x→spl c (x++c::r)=x::spl c r
 | [],r,_=>by rw[List.nil_append,spl,if_pos rfl]
 | b::x,r,h=>by
  rw[List.mem_cons,not_or]at h
  rw[List.cons_append,spl,if_neg (fun e=>h.1 e.symm),spl_app r h.2]
theorem first_occ {c:UInt8}: ∀{s:List UInt8},c∈s→∃x r,s=x++c::r∧c∉x
 | [],h=>by cases h
 | b::s,h=>by
  by_cases e:b=c
  ·exact⟨[],s,by rw[e];rfl,fun h=>by cases h⟩
  ·obtain⟨x,r,h1,h2⟩:=first_occ ((List.mem_cons.1 h).resolve_left fun e2=>e e2.symm)
   exact⟨b::x,r,by rw[h1];rfl,fun h=>(List.mem_cons.1 h).elim (fun e2=>e e2.symm) h2⟩
theorem indexByte_at {c:UInt8}: ∀{x:List UInt8} (r:List UInt8),c∉x→Lib.indexByte (x++c::r) c=x.length
 | [],r,_=>by rw[List.nil_append,Lib.indexByte,if_pos (by simp)];rfl
 | b::x,r,h=>by
  rw[List.mem_cons,not_or]at h
  have ih:=indexByte_at r h.2
  rw[List.cons_append,Lib.indexByte,if_neg (by simpa using fun e=>h.1 (Eq.symm e)),ih,if_neg (by simp),List.length_cons]
  rfl
theorem splitK_spl {c:UInt8}: ∀(k:Nat) (s:List UInt8),s.count c=k→Lib.splitK [c] 0 k s=spl c s:=by
 intro k
 induction k with
 | zero=>
  intro s h
  rw[spl_none (List.count_eq_zero.1 h)]
  rfl
 | succ k ih=>
  intro s h
  obtain⟨x,r,rfl,hx⟩:=first_occ (List.count_pos_iff.1 (by rw[h];exact Nat.succ_pos _))
  have h1:Lib.index (x++c::r) [c]=x.length:=by rw[Lib.index_one,indexByte_at r hx]
  rw[Lib.splitK,h1,if_neg (by simp),spl_app r hx]
  have h2:r.count c=k:=by
   rw[List.count_append,List.count_cons_self,List.count_eq_zero.2 hx]at h
   omega
  have e1:((x.length:Nat):Int).toNat=x.length:=Int.toNat_natCast _
  rw[e1,Nat.add_zero,List.take_left,List.length_singleton,show(x++c::r).drop (x.length+1)=r from by
   rw[←List.drop_drop,List.drop_left]
   rfl,ih r h2]
theorem split_spl (c:UInt8) (s:List UInt8):Lib.split s [c]=spl c s:=by
 unfold Lib.split
 rw[Lib.count_one]
 exact splitK_spl _ s rfl
def isDig (b:UInt8):Prop:=48≤b.toNat∧b.toNat≤57
theorem dec_dig: ∀(u:Nat),∀b∈Lib.decDigits u,isDig b:=by
 intro u
 induction u using Nat.strongRecOn with
 | ind u ih=>
  intro b hb
  have key: ∀d,d<10→isDig (UInt8.ofNat (48+d)):=fun d hd=>by
   unfold isDig
   rw[UInt8.toNat_ofNat',Nat.mod_eq_of_lt (by omega)]
   omega
  by_cases h:u<10
  ·rw[Lib.decDigits,dif_pos h,List.mem_singleton]at hb
   rw[hb]
   exact key u h
  ·rw[Lib.decDigits,dif_neg h,List.mem_append,List.mem_singleton]at hb
   rcases hb with hb|hb
   ·exact ih _ (by omega) b hb
   ·rw[hb]
    exact key _ (by omega)
theorem dec_ne (u:Nat):Lib.decDigits u≠ []:=by
 by_cases h:u<10
 ·rw[Lib.decDigits,dif_pos h];exact fun e=>by cases e
 ·rw[Lib.decDigits,dif_neg h];exact fun e=>by simp at e
theorem decFrom_app: ∀(l:List UInt8) (acc n:Nat) (b:UInt8) (d:Nat),Lib.decFrom acc l=some n→Lib.digitVal b=some d→Lib.decFrom acc (l++ [b])=some (n*10+d)
 | [],acc,n,b,d,h,hb=>by
  obtain rfl:=Option.some.inj h
  rw[List.nil_append,Lib.decFrom,hb]
  rfl
 | a::l,acc,n,b,d,h,hb=>by
  rw[Lib.decFrom]at h
  rw[List.cons_append,Lib.decFrom]
  cases ha:Lib.digitVal a with
  | none=>rw[ha]at h;cases h
  | some v=>
   rw[ha]at h
   exact decFrom_app l _ n b d h hb
theorem dig_val {d:Nat} (h:d<10):Lib.digitVal (UInt8.ofNat (48+d))=some d:=by
 unfold Lib.digitVal
 rw[UInt8.toNat_ofNat',Nat.mod_eq_of_lt (by omega),if_pos (by omega)]
 congr 1
 omega
theorem dec_back: ∀(u:Nat),Lib.decFrom 0 (Lib.decDigits u)=some u:=by
 intro u
 induction u using Nat.strongRecOn with
 | ind u ih=>
  by_cases h:u<10
  ·rw[Lib.decDigits,dif_pos h]
   have:=decFrom_app [] 0 0 _ _ rfl (dig_val h)
   rw[List.nil_append]at this
   rw[this]
   congr 1
   omega
  ·rw[Lib.decDigits,dif_neg h,decFrom_app _ 0 _ _ _ (ih _ (by omega)) (dig_val (by omega))]
   congr 1
   omega
theorem atoi_itoa (n:Int):Lib.atoi (Lib.itoa n)=some n:=by
 unfold Lib.itoa
 split
 ·rename_i h
  rw[Lib.atoi,if_pos (by decide)]
  unfold Lib.decNat
  rw[if_neg (by rw[List.isEmpty_iff];exact dec_ne _),dec_back]
  simp only[Option.map_some]
  congr 1
  omega
 ·rename_i h
  obtain⟨b,r,hb⟩: ∃b r,Lib.decDigits n.toNat=b::r:=by
   cases hd:Lib.decDigits n.toNat with
   | nil=>exact absurd hd (dec_ne _)
   | cons b r=>exact⟨b,r,rfl⟩
  have hd:isDig b:=dec_dig n.toNat b (by rw[hb];exact List.mem_cons_self)
  have n1: ¬(b==45)=true:=fun e=>by have:=beq_iff_eq.1 e;subst this;exact absurd hd.1 (by decide)
  have n2: ¬(b==43)=true:=fun e=>by have:=beq_iff_eq.1 e;subst this;exact absurd hd.1 (by decide)
  rw[hb,Lib.atoi,if_neg n1,if_neg n2]
  unfold Lib.decNat
  rw[if_neg (by simp),←hb,dec_back]
  simp only[Option.map_some]
  congr 1
  omega
theorem itoa_not (n:Int) {c:UInt8} (hc:c.toNat<45):c∉Lib.itoa n:=by
 intro h
 have key: ∀u,c∉Lib.decDigits u:=fun u hu=>by
  have:=(dec_dig u c hu).1
  omega
 unfold Lib.itoa at h
 split at h
 ·rcases List.mem_cons.1 h with e|h
  ·subst e
   exact absurd hc (by decide)
  ·exact key _ h
 ·exact key _ h
end Go.Proofs.YtajbmjpodeilpaaGreatDoor
namespace Go.Proofs.YtajbmjpodeilpaaGreatDoor
open Go.RowKit
theorem spl_nums: ∀(l:List Int) (x:List UInt8),(32:UInt8)∉x→spl 32 (x++numsT l)=x::l.map Lib.itoa
 | [],x,hx=>by
  rw[show numsT []= []from rfl,List.append_nil,spl_none hx]
  rfl
 | n::l,x,hx=>by
  rw[show numsT (n::l)=32::(Lib.itoa n++numsT l)from by simp[numsT,numT],spl_app _ hx,spl_nums l _ (itoa_not n (by decide))]
  rfl
theorem numsT_app (a b:List Int):numsT (a++b)=numsT a++numsT b:=by unfold numsT;rw[List.flatMap_append]
theorem numsT_one (n:Int):numsT [n]=numT n:=by simp[numsT]
theorem spl_step (s:EStep):spl 32 (stepT s)=Lib.itoa s.id::((if s.del then [[100]]else(s.lits++ [0]).map Lib.itoa)++(s.hints++ [0]).map Lib.itoa):=by
 unfold stepT
 cases hd:s.del with
 | true=>
  rw[if_pos rfl,if_pos rfl,List.append_assoc,List.append_assoc,←numsT_one,←numsT_app]
  show spl 32 (Lib.itoa s.id++32::([100]++numsT (s.hints++ [0])))=_
  rw[spl_app _ (itoa_not _ (by decide)),spl_nums _ _ (by decide)]
  rfl
 | false=>
  rw[if_neg (by decide),if_neg (by decide),←numsT_one,←numsT_app,List.append_assoc,List.append_assoc,←numsT_app,←numsT_app,spl_nums _ _ (itoa_not _ (by decide)),←List.map_append]
end Go.Proofs.YtajbmjpodeilpaaGreatDoor
