/- Clauses in blocks of which something is known. slices.Clone at clauses. package salvorlaw08: True, AllTrue. Literals: Var, Neg. Literals: Negated, Index, Compare; their order. -/
import Derived.Test.YtkfgplfllddhnaaGreatV103
import Derived.Test.YtkfgplfllddhnaaGreatV100
import Derived.Test.YtkfgplfllddhnaaGreatV102
import Derived.Sort.LotA
import Derived.Shelf.SlSortCmp.Whole1
namespace Go.Proofs.YtkfgplfllddhnaaGreat
open Go.RowKit
def ClsIn (O:Nat→Prop) (w:World) (v:Value) (cs:List (List Int)):Prop:=
 ∃A c,v= .slice A cs.length c∧cs.length≤c∧(A=none→c=0)∧∀i xs,cs[i]? =some xs→∃g o u,A=some ⟨g,o,none⟩∧g<w.heap.size∧O g∧w.cell? ⟨g,o+i,none⟩=some u∧IntsIn O w u xs
theorem ClsIn.kept {O O':Nat→Prop} {w w':World} {v:Value} {cs:List (List Int)} (h:ClsIn O w v cs) (k:Kept O' w w') (hO: ∀g,O g→¬O' g):ClsIn O w' v cs:=by
 obtain⟨A,c,hv,hc,hn,hx⟩:=h
 refine⟨A,c,hv,hc,hn,fun i xs hi=>?_⟩
 obtain⟨g,o,u,h1,h2,h3,h4,h5⟩:=hx i xs hi
 exact⟨g,o,u,h1,Nat.lt_of_lt_of_le h2 k.size,h3,(k.cell (p:=⟨g,o+i,none⟩) h2 (hO g h3)).trans h4,h5.kept k hO⟩
theorem ClsIn.below {O:Nat→Prop} {w w':World} {v:Value} {cs:List (List Int)} (h:ClsIn O w v cs) (k:Below w.heap.size w w'):ClsIn O w' v cs:=
 h.kept (O':=fun _=>False) (Kept.of_below k) (fun _ _ h=>h)
theorem ClsIn.mono {O O':Nat→Prop} {w:World} {v:Value} {cs:List (List Int)} (h:ClsIn O w v cs) (hO: ∀g,O g→O' g):ClsIn O' w v cs:=by
 obtain⟨A,c,hv,hc,hn,hx⟩:=h
 refine⟨A,c,hv,hc,hn,fun i xs hi=>?_⟩
 obtain⟨g,o,u,h1,h2,h3,h4,h5⟩:=hx i xs hi
 exact⟨g,o,u,h1,h2,hO g h3,h4,h5.mono hO⟩
theorem ClsIn.lt {O:Nat→Prop} {w:World} {v:Value} {cs:List (List Int)} (h:ClsIn O w v cs):ClsIn (fun g=>O g∧g<w.heap.size) w v cs:=by
 obtain⟨A,c,hv,hc,hn,hx⟩:=h
 refine⟨A,c,hv,hc,hn,fun i xs hi=>?_⟩
 obtain⟨g,o,u,h1,h2,h3,h4,h5⟩:=hx i xs hi
 exact⟨g,o,u,h1,h2,⟨h3,h2⟩,h4,h5.lt⟩
theorem ClsOwn.clsIn {n:Nat} {w:World} {v:Value} {cs:List (List Int)} (h:ClsOwn n w v cs):ClsIn (fun g=>n≤g) w v cs:=by
 obtain⟨us,h1,h2⟩:=h
 rcases h1.2 with⟨rfl,h0⟩|⟨g,cap,cur,rfl,hb,hg,hle,_⟩
 ·exact⟨none,0,by rw[h0],by omega,fun _=>rfl,fun i xs hi=>by
   have:=(List.getElem?_eq_some_iff.1 hi).1
   omega⟩
 ·refine⟨_,cap,rfl,hle,(fun h=>by cases h),fun i xs hi=>?_⟩
  obtain⟨u,hu,ho⟩:=h2 i xs hi
  exact⟨g,0,u,rfl,heap_lt hg,hb,by rw[Nat.zero_add];exact mx_at h1 hu,(IntsIn.of_own ho).mono (fun g hg=>(own_lt ho g hg.2).1)⟩
theorem ClsIn.src {O:Nat→Prop} {w:World} {v:Value} {cs:List (List Int)} (h:ClsIn O w v cs): ∃us:List Value,us.length=cs.length∧SrcAt w v cs.length us∧(∀z∈us,z.oneCell'=true)∧∀(i:Nat) (xs:List Int),cs[i]? =some xs→∃u,us[i]? =some u∧IntsIn O w u xs:=by
 obtain⟨A,c,rfl,hc,hn,hx⟩:=h
 cases A with
 | none=>
  have h0:=hn rfl
  have h1:cs= []:=List.eq_nil_of_length_eq_zero (by omega)
  subst h1
  subst h0
  exact⟨[],rfl,.inl ⟨rfl,rfl,rfl⟩,(fun z hz=>by cases hz),fun i xs hi=>by simp at hi⟩
 | some a=>
  obtain⟨ga,oa,fa⟩:=a
  have key: ∀i,i<cs.length→∃u xs,cs[i]? =some xs∧fa=none∧w.cell? ⟨ga,oa+i,none⟩=some u∧IntsIn O w u xs:=fun i hi=>by
   obtain⟨xs,hxs⟩:=getElem_of hi
   obtain⟨g,o,u,h1,_,_,h4,h5⟩:=hx i xs hxs
   cases h1
   exact⟨u,xs,hxs,rfl,h4,h5⟩
  refine⟨(List.range cs.length).map (fun i=>(w.cell? ⟨ga,oa+i,none⟩).getD undef),by simp,.inr ⟨_,c,rfl,fun j u hj=>?_⟩,fun z hz=>?_,fun i xs hi=>?_⟩
  ·have hjl:j<cs.length:=by
    have:=(List.getElem?_eq_some_iff.1 hj).1
    simpa using this
   rw[List.getElem?_map,List.getElem?_range hjl]at hj
   obtain⟨u',xs,_,rfl,h4,_⟩:=key j hjl
   rw[addr_add2]
   simp only[Option.map_some,h4,Option.getD_some,Option.some.injEq]at hj
   rw[h4,hj]
  ·obtain⟨i,hi,rfl⟩:=List.mem_map.1 hz
   obtain⟨u',xs,_,rfl,h4,h5⟩:=key i (List.mem_range.1 hi)
   rw[h4]
   obtain⟨A',c',h,_⟩:=h5
   rw[h]
   rfl
  ·have hil:=(List.getElem?_eq_some_iff.1 hi).1
   obtain⟨u',xs',h1,rfl,h4,h5⟩:=key i hil
   rw[hi]at h1
   obtain rfl:=Option.some.inj h1
   refine⟨u',?_,h5⟩
   rw[List.getElem?_map,List.getElem?_range hil]
   simp[h4]
end Go.Proofs.YtkfgplfllddhnaaGreat
namespace Go.Proofs.YtkfgplfllddhnaaGreat
open Go.RowKit
set_option maxRecDepth 100000 in
set_option maxHeartbeats 2000000 in
theorem clone_row (A:Option Addr) (k c:Nat) (us:List Value) (w:World) (h:SrcAt w (.slice A k c) k us) (hn:A=none→k=0∧c=0) (hl:us.length=k) (h1: ∀z∈us,z.oneCell'=true) (hk:k≤1000000000):
  Calls Tryz.prog 44 #[.slice A k c] w fun e w'=> ∃v,e= .returned v∧w'.ownsRow w.heap.size 35 1 v k us∧Below w.heap.size w w':=by
 obtain⟨i0,hi,hz0,hz1,hz2⟩:=info_parts info_cls
 cases A with
 | none=>
  obtain⟨rfl,rfl⟩:=hn rfl
  obtain rfl:us= []:=List.eq_nil_of_length_eq_zero hl
  have hq:=fun w=>Lib.run_eql_slice_nil (P:=Tryz.prog) w 24 35 none 0 0 0 0 Tryz.underlying24
  clear h h1
  go_enter Tryz.func44,Tryz.ntmps44
  go_wp2
  go_ret
  exact⟨_,rfl,World.ownsRow_nil _ _ _ _,Below.refl _ _⟩
 | some a=>
  have hq:=fun w=>Lib.run_eql_slice_nil (P:=Tryz.prog) w 24 35 (some a) k c 0 0 Tryz.underlying24
  have hnews: ∀j u,us[j]? =some u→(w.alloc (.cells #[] 35)).cell? (a.add j)=some u:=fun j u hj=>by
   rcases h with⟨h,_⟩|⟨ad,c',hv,hx⟩
   ·cases h
   ·cases hv
    have h0:=hx j u hj
    exact((mx_al w _).cell (World.block_lt_of_cell? w _ h0)).trans h0
  have HN:=Lib.hid hnews
  have H1:=Lib.hid h1
  have h0:(w.alloc (.cells #[] 35)).ownsRow w.heap.size 35 1 (.slice (some ⟨w.heap.size,0,none⟩) 0 0) 0 []:=⟨rfl,.inr ⟨w.heap.size,0,#[],rfl,Nat.le_refl _,World.alloc_heap_new _ _,Nat.le_refl _,Nat.zero_le _,rfl,rfl⟩⟩
  have H0:=Lib.hid h0
  have HLU:=Lib.hid hl
  clear hnews h0 h h1 hn hl
  go_enter Tryz.func44,Tryz.ntmps44
  go_wp2_with (at_builtin;refine wpList_append_own_at _ rfl _ _ 24 rfl w.heap.size 35 i0 (.slice none 0 0) 1 24 Tryz.underlying24 hi hz0 hz1 hz2 rfl (by decide) _ _ _ rfl H0.out a k c us rfl (by rw[HLU.out,Nat.mul_one]) HN.out H1.out (by unfold maxLen;omega) (by omega) (by simp) ?_;intro v' w1 hown hgrow hnl hat)
  go_ret
  have hB:Below w.heap.size w w1:=((Below.refl w.heap.size w).alloc (Nat.le_refl _) (.cells #[] 35)).grown hgrow (by simp) (fun g hg=>by cases hg;exact Nat.le_refl _)
  exact⟨_,rfl,by simpa using hown,hB⟩
end Go.Proofs.YtkfgplfllddhnaaGreat
namespace Go.Proofs.YtkfgplfllddhnaaGreat
open Go.RowKit
def bitT (n:Nat) (l:Int):Bool:=if 0<l then n.testBit l.toNat else !n.testBit (-l).toNat
theorem bitT_neg {n:Nat} {y:Int} (hy:y≠0):bitT n (-y)= !bitT n y:=by
 unfold bitT
 by_cases h:0<y
 ·rw[if_pos h,if_neg (by omega),Int.neg_neg]
 ·rw[if_neg h,if_pos (by omega),Bool.not_not]
theorem bits_one: ∀n:Nat,n<128→∀k:Nat,k<7→bits BinOp.and IntKind.i64 ((n:Int)/2^k) 1=if n.testBit k=true then 1 else 0:=by decide +kernel
set_option maxRecDepth 100000 in
set_option maxHeartbeats 2000000 in
theorem law_true {O:Nat→Prop} (u:Value) (c:List Int) (n:Nat) (w:World) (hu:IntsIn O w u c) (hlen:c.length≤1000000) (hn:n<128) (hc: ∀y∈c,y≠0∧ -7<y∧y<7):
  Calls Tryz.prog 67 #[u,.int .i64 (n:Int)] w fun e w'=>e= .returned (.bool (c.any (bitT n)))∧w=w':=by
 have HX:=Lib.hid hu
 have HC:=Lib.hid hc
 obtain⟨A,cc,rfl,hcc,_,_⟩:=hu
 clear hc
 go_enter Tryz.func67,Tryz.ntmps67
 go_wp2_with fail
 go_loopw [9] (fun i wr=> ∃k:Nat,k≤c.length∧i= .int .i64 k∧Hid ((c.take k).any (bitT n)=false)∧wr=w) (fun i _=>c.length-(intOf i).toNat)
 case atStart=>exact⟨0,Nat.zero_le _,rfl,Lib.hid rfl,rfl⟩
 case round=>
  obtain⟨k,hk,rfl,HE,rfl⟩:=hrel
  by_cases hlt:k<c.length
  ·obtain⟨x,hxk⟩:=getElem_of hlt
   obtain⟨A',c',hAc,_,_,hxs⟩:=HX.out
   simp only[Value.slice.injEq,true_and]at hAc
   obtain⟨rfl,rfl⟩:=hAc
   obtain⟨g,o,rfl,hg,_,d1⟩:=hxs k x hxk
   have hmem:=List.mem_of_getElem? hxk
   have hx:=HC.out x hmem
   have HMX:=Lib.hid hmem
   have HTK:=Lib.hid (show(c.take (k+1)).any (bitT n)=((c.take k).any (bitT n)||bitT n x)from by rw[List.take_add_one,hxk];simp)
   clear hxs hxk hmem
   by_cases hp:0<x
   ·have q1:decide ((0:Int)<x)=true:=by simpa using hp
    have q2:min x (40:Int)=x:=by omega
    have hb:=bits_one n hn x.toNat (by omega)
    have hbt:bitT n x=n.testBit x.toNat:=by unfold bitT;rw[if_pos hp]
    have q3:decide (x<(0:Int))=false:=by simp;omega
    cases ht:n.testBit x.toNat with
    | true=>
     rw[ht]at hb hbt
     simp only[if_true]at hb
     have HT:=Lib.hid hbt
     clear hbt ht hx
     go_wp2_with fail
     go_ret
     exact⟨by rw[List.any_eq_true.2 ⟨x,HMX.out,HT.out⟩];rfl,rfl⟩
    | false=>
     rw[ht]at hb hbt
     simp only[Bool.false_eq_true,if_false]at hb
     have HT:=Lib.hid hbt
     clear hbt ht hx
     go_wp2_with fail
     go_roundw
     case rel=>exact⟨k+1,by omega,by go_num,Lib.hid (by rw[HTK.out,HE.out,HT.out];rfl),trivial⟩
     case measure=>simp[intOf];omega
   ·have q1:decide ((0:Int)<x)=false:=by simpa using hp
    have q3:decide (x<(0:Int))=true:=by simp;omega
    have q4:IntKind.i64.wrap (-x)= -x:=IntWalk.i64_in _ (by omega)
    have q2:min (-x) (40:Int)= -x:=by omega
    have hb:=bits_one n hn (-x).toNat (by omega)
    have hbt:bitT n x= !n.testBit (-x).toNat:=by unfold bitT;rw[if_neg hp]
    have hx0:0< -x:=by omega
    have hx1:x<0:=by omega
    obtain⟨t,ht⟩: ∃t,n.testBit (-x).toNat=t:=⟨_,rfl⟩
    rw[ht]at hb hbt
    cases t with
    | true=>
     simp only[if_true]at hb
     have HT:=Lib.hid hbt
     clear hbt ht hx
     go_wp2_with fail
     go_roundw
     case rel=>exact⟨k+1,by omega,by go_num,Lib.hid (by rw[HTK.out,HE.out,HT.out];rfl),trivial⟩
     case measure=>simp[intOf];omega
    | false=>
     simp only[Bool.false_eq_true,if_false]at hb
     have HT:=Lib.hid hbt
     clear hbt ht hx
     go_wp2_with fail
     go_ret
     exact⟨by rw[List.any_eq_true.2 ⟨x,HMX.out,HT.out⟩];rfl,rfl⟩
  ·obtain rfl:k=c.length:=by omega
   go_wp2_with fail
   go_ret
   refine⟨?_,rfl⟩
   have:=HE.out
   rw[List.take_length]at this
   rw[this]
   rfl
def allT (n:Nat) (cs:List (List Int)):Bool:=cs.all fun c=>c.any (bitT n)
def Lits6 (cs:List (List Int)):Prop:= ∀c∈cs,c.length≤1000000∧∀y∈c,y≠0∧ -7<y∧y<7
set_option maxRecDepth 100000 in
theorem true_one {O:Nat→Prop} (q n:Nat) (u:Value) (c:List Int) (w:World) (hu:IntsIn O w u c) (hq:w.cell? ⟨q,0,none⟩=some (.int .i64 (n:Int))) (hlen:c.length≤1000000) (hn:n<128) (hc: ∀y∈c,y≠0∧ -7<y∧y<7):
  Calls Tryz.prog 66 #[u,.pointer (some ⟨q,0,none⟩)] w fun e w'=>e= .returned (.bool (!(c.any (bitT n))))∧w=w':=by
 have H:=Lib.hid (law_true u c n w hu hlen hn hc)
 obtain⟨z,hz⟩: ∃z,c.any (bitT n)=z:=⟨_,rfl⟩
 rw[hz]at H⊢
 obtain⟨A,k,rfl,_⟩:=hu
 clear hz hc
 go_enter Tryz.func66,Tryz.ntmps66
 go_wp2_with fail
 refine H.out.mono ?_
 rintro e w' ⟨rfl,rfl⟩
 go_wp2_with fail
 go_ret
 exact⟨rfl,rfl⟩
set_option maxRecDepth 100000 in
set_option maxHeartbeats 2000000 in
theorem index_true {O:Nat→Prop} (q n:Nat) (u:Value) (cs:List (List Int)) (w:World) (h1:ClsIn O w u cs) (hq:w.cell? ⟨q,0,none⟩=some (.int .i64 (n:Int))) (hn:n<128) (h6:Lits6 cs) (hcl:cs.length≤1000000):
  Calls Tryz.prog 49 #[u,.func (.func 66) #[] #[.pointer (some ⟨q,0,none⟩)]] w fun e w'=>(∃i:Int,e= .returned (.int .i64 i)∧decide (0≤i)= !allT n cs)∧w=w':=by
 have HONE:=Lib.hid (fun(cv:Value) (c:List Int) (hc:IntsIn O w cv c) (hm:c∈cs)=>true_one q n cv c w hc hq (h6 c hm).1 hn (h6 c hm).2)
 have HX:=Lib.hid h1
 obtain⟨A,c,rfl,_⟩:=h1
 clear hq h6
 go_enter Tryz.func49,Tryz.ntmps49
 go_wp2
 go_loopw [8] (fun i wr=> ∃k:Nat,k≤cs.length∧i= .int .i64 k∧Hid (allT n (cs.take k)=true)∧w=wr) (fun i _=>cs.length-(intOf i).toNat)
 case atStart=>exact⟨0,Nat.zero_le _,rfl,Lib.hid rfl,rfl⟩
 case round=>
  obtain⟨k,hk,rfl,HE,rfl⟩:=hrel
  by_cases hlt:k<cs.length
  ·obtain⟨x,hxk⟩:=getElem_of hlt
   obtain⟨A',c',hAc,_,_,hxs⟩:=HX.out
   simp only[Value.slice.injEq,true_and]at hAc
   obtain⟨rfl,rfl⟩:=hAc
   obtain⟨g,o,u,rfl,hg,_,d1,hux⟩:=hxs k x hxk
   have HTK:=Lib.hid (show allT n (cs.take (k+1))=(allT n (cs.take k)&&x.any (bitT n))from by unfold allT;rw[List.take_add_one,hxk];simp)
   have HMX:=Lib.hid (List.mem_of_getElem? hxk)
   have HC:=Lib.hid (HONE.out u x hux HMX.out)
   obtain⟨z,hb⟩: ∃z,x.any (bitT n)=z:=⟨_,rfl⟩
   have HQ:=Lib.hid hb
   rw[hb]at HC
   clear hb hxk hxs hux
   cases z with
   | false=>
    go_wp2_with fail
    refine HC.out.mono ?_
    rintro e w' ⟨rfl,rfl⟩
    go_wp2
    go_ret
    refine⟨⟨_,rfl,?_⟩,rfl⟩
    have:allT n cs=false:=by
     unfold allT
     rw[List.all_eq_false]
     exact⟨x,HMX.out,by rw[HQ.out];simp⟩
    rw[this]
    simp
   | true=>
    go_wp2_with fail
    refine HC.out.mono ?_
    rintro e w' ⟨rfl,rfl⟩
    go_wp2
    go_roundw
    case rel=>exact⟨k+1,by omega,by go_num,Lib.hid (by rw[HTK.out,HE.out,HQ.out];rfl),trivial⟩
    case measure=>simp[intOf];omega
  ·obtain rfl:k=cs.length:=by omega
   go_wp2
   go_ret
   refine⟨⟨_,rfl,?_⟩,rfl⟩
   have:=HE.out
   rw[List.take_length]at this
   rw[this]
   rfl
theorem contains_true {O:Nat→Prop} (q n:Nat) (u:Value) (cs:List (List Int)) (w:World) (h1:ClsIn O w u cs) (hq:w.cell? ⟨q,0,none⟩=some (.int .i64 (n:Int))) (hn:n<128) (h6:Lits6 cs) (hcl:cs.length≤1000000):
  Calls Tryz.prog 18 #[u,.func (.func 66) #[] #[.pointer (some ⟨q,0,none⟩)]] w fun e w'=>e= .returned (.bool (!allT n cs))∧w=w':=by
 have H:=Lib.hid (index_true q n u cs w h1 hq hn h6 hcl)
 obtain⟨z,hz⟩: ∃z,allT n cs=z:=⟨_,rfl⟩
 rw[hz]at H⊢
 clear h1 hq h6 hz
 go_enter Tryz.func18,Tryz.ntmps18
 go_wp2_with fail
 refine H.out.mono ?_
 rintro e w' ⟨⟨i,rfl,hi⟩,rfl⟩
 have HI:=Lib.hid hi
 clear hi
 go_wp2_with fail
 go_ret
 exact⟨ret_bool HI.out,rfl⟩
set_option maxRecDepth 100000 in
theorem law_alltrue {O:Nat→Prop} (u:Value) (cs:List (List Int)) (n:Nat) (w:World) (h1:ClsIn O w u cs) (hn:n<128) (h6:Lits6 cs) (hcl:cs.length≤1000000):
  Calls Tryz.prog 40 #[u,.int .i64 (n:Int)] w fun e w'=>e= .returned (.bool (allT n cs))∧Below w.heap.size w w':=by
 have hb:=mx_al w (.cells #[.int .i64 (n:Int)] 3)
 have hq:(w.alloc (.cells #[.int .i64 (n:Int)] 3)).cell? ⟨w.heap.size,0,none⟩=some (.int .i64 (n:Int)):=cell_new _ _ _ 0
 have H:=Lib.hid (contains_true w.heap.size n u cs _ (h1.below hb) hq hn h6 hcl)
 have HB:=Lib.hid hb
 obtain⟨z,hz⟩: ∃z,allT n cs=z:=⟨_,rfl⟩
 rw[hz]at H⊢
 obtain⟨A,k,rfl,_⟩:=h1
 clear hb hq h6 hz
 go_enter Tryz.func40,Tryz.ntmps40
 go_wp2_with fail
 refine H.out.mono ?_
 rintro e w' ⟨rfl,rfl⟩
 go_wp2_with fail
 go_ret
 exact⟨by simp,HB.out⟩
end Go.Proofs.YtkfgplfllddhnaaGreat
namespace Go.Proofs.YtkfgplfllddhnaaGreat
open Go.RowKit
def litV (l:Int):Nat:=if litB l=true then l.natAbs else 0
set_option maxHeartbeats 1000000 in
theorem lit_var (l:Int) (w:World):Calls Tryz.prog 88 #[.int .i64 l] w fun e w'=>e= .returned (.int .i64 (litV l:Nat))∧w=w':=by
 have HR:=Lib.hid (right_lit l w)
 rcases hb:litB l with _|_
 ·rw[hb]at HR
  have hv:litV l=0:=by unfold litV;rw[if_neg (by rw[hb];decide)]
  rw[hv]
  clear hb hv
  go_enter Tryz.func88,Tryz.ntmps88
  go_wp2_with fail
  refine HR.out.mono ?_
  rintro e w' ⟨rfl,rfl⟩
  go_wp2_with fail
  go_ret
  exact⟨rfl,rfl⟩
 ·rw[hb]at HR
  have hr:=(litB_iff l).1 hb
  have hv:(litV l:Int)=max l (-l):=by unfold litV;rw[if_pos hb];omega
  have HV:=Lib.hid hv
  obtain⟨h0,h1,h2⟩:=hr
  clear hb hv
  have hw:IntKind.i64.wrap (-l)= -l:=IntWalk.i64_in _ (by omega)
  go_enter Tryz.func88,Tryz.ntmps88
  go_wp2_with fail
  refine HR.out.mono ?_
  rintro e w' ⟨rfl,rfl⟩
  go_wp2_with fail
  all_goals (go_ret;first|exact⟨ret_int (a:=max l (-l)) HV.out.symm,rfl⟩|exact⟨ret_int (a:= -l) (by have:=HV.out;omega),rfl⟩|exact⟨ret_int (a:=l) (by have:=HV.out;omega),rfl⟩)
def litN (l:Int):Int:=if litB l=true then -l else 0
theorem lit_neg (l:Int) (w:World):Calls Tryz.prog 109 #[.int .i64 l] w fun e w'=>e= .returned (.int .i64 (litN l))∧w=w':=by
 have HR:=right_lit l w
 cases hb:litB l
 ·
  rw[hb]at HR
  have HR:=Lib.hid HR
  have hv:litN l=0:=by unfold litN;rw[if_neg (by rw[hb];decide)]
  rw[hv]
  clear hb hv
  go_enter Tryz.func109,Tryz.ntmps109
  go_wp2_with fail
  refine HR.out.mono ?_
  rintro e w' ⟨rfl,rfl⟩
  go_wp2_with fail
  go_ret
  exact⟨rfl,rfl⟩
 ·
  rw[hb]at HR
  have HR:=Lib.hid HR
  have hr:=(litB_iff l).1 hb
  have hv:litN l= -l:=by unfold litN;rw[if_pos hb]
  rw[hv]
  obtain⟨h0,h1,h2⟩:=hr
  clear hb hv
  have hw:IntKind.i64.wrap (-l)= -l:=IntWalk.i64_in _ (by omega)
  go_enter Tryz.func109,Tryz.ntmps109
  go_wp2_with fail
  refine HR.out.mono ?_
  rintro e w' ⟨rfl,rfl⟩
  go_wp2_with fail
  go_ret
  exact⟨rfl,rfl⟩
end Go.Proofs.YtkfgplfllddhnaaGreat
namespace Go.Proofs.YtkfgplfllddhnaaGreat
open Go.RowKit Go.Sort
def litG (l:Int):Bool:=litB l&&decide (l<0)
def litI (l:Int):Int:=2*((litV l:Nat)-1:Int)+(if l<0 then 1 else 0)
def litC (a b:Int):Int:=if litB a=true then(if litB b=true then Lib.compareInt (litI a) (litI b)else 1)else if litB b=true then -1 else Lib.compareInt a b
theorem litV_right {l:Int} (h:litB l=true):(litV l:Int)=l.natAbs∧1≤(litV l:Int)∧(litV l:Int)≤1048576:=by
 have:=(litB_iff l).1 h
 unfold litV
 rw[if_pos h]
 omega
theorem litI_inj {a b:Int} (ha:litB a=true) (hb:litB b=true) (h:litI a=litI b):a=b:=by
 have h1:=litV_right ha
 have h2:=litV_right hb
 unfold litI at h
 split at h <;> split at h <;> omega
theorem ltC_iff (a b:Int):ltOf litC a b=true↔(litB a=false∧litB b=true)∨(litB a=true∧litB b=true∧litI a<litI b)∨(litB a=false∧litB b=false∧a<b):=by
 unfold ltOf litC Lib.compareInt
 cases ha:litB a <;> cases hb:litB b
 ·by_cases h:a<b <;> by_cases h2:b<a <;> simp[h,h2]
 ·simp
 ·simp
 ·by_cases h:litI a<litI b <;> by_cases h2:litI b<litI a <;> simp[h,h2]
theorem ltC_swo:SWO (ltOf litC) where
 irrefl x:=by
  rw[Bool.eq_false_iff,ne_eq,ltC_iff]
  rintro (⟨h1,h2⟩|⟨_,_,h⟩|⟨_,_,h⟩)
  ·rw[h1]at h2;cases h2
  ·omega
  ·omega
 trans x y z h1 h2:=by
  rw[ltC_iff]at *
  cases hx:litB x <;> cases hy:litB y <;> cases hz:litB z <;> simp[hx,hy,hz]at* <;> omega
 ntrans x y z h1 h2:=by
  rw[Bool.eq_false_iff,ne_eq,ltC_iff]at *
  cases hx:litB x <;> cases hy:litB y <;> cases hz:litB z <;> simp[hx,hy,hz]at* <;> omega
theorem ltC_total: ∀x y,ltOf litC x y=false→ltOf litC y x=false→x=y:=by
 intro x y h1 h2
 rw[Bool.eq_false_iff,ne_eq,ltC_iff]at h1 h2
 cases hx:litB x <;> cases hy:litB y <;> simp[hx,hy]at h1 h2
 ·omega
 ·exact litI_inj hx hy (by omega)
set_option maxHeartbeats 1000000 in
theorem lit_negated (l:Int) (w:World):Calls Tryz.prog 165 #[.int .i64 l] w fun e w'=>e= .returned (.bool (litG l))∧w=w':=by
 have HR:=right_lit l w
 unfold litG
 cases hb:litB l
 ·rw[hb]at HR
  have HR:=Lib.hid HR
  clear hb
  go_enter Tryz.func165,Tryz.ntmps165
  go_wp2_with fail
  refine HR.out.mono ?_
  rintro e w' ⟨rfl,rfl⟩
  go_wp2_with fail
  go_ret
  exact⟨rfl,rfl⟩
 ·rw[hb]at HR
  have HR:=Lib.hid HR
  clear hb
  rw[Bool.true_and]
  obtain⟨q,hq⟩: ∃q,decide (l<0)=q:=⟨_,rfl⟩
  rw[hq]
  go_enter Tryz.func165,Tryz.ntmps165
  go_wp2_with fail
  refine HR.out.mono ?_
  rintro e w' ⟨rfl,rfl⟩
  go_wp2_with fail
  go_ret
  exact⟨rfl,rfl⟩
set_option maxHeartbeats 1000000 in
theorem lit_index (l:Int) (w:World):Calls Tryz.prog 143 #[.int .i64 l] w fun e w'=>e= .returned (if litB l=true then .tuple #[.int .i64 (litI l),.int .i64 0]else .tuple #[.int .i64 0,.int .i64 10])∧w=w':=by
 have HR:=right_lit l w
 have HV:=Lib.hid (lit_var l w)
 cases hb:litB l
 ·rw[hb]at HR
  have HR:=Lib.hid HR
  clear hb
  rw[if_neg (by decide)]
  go_enter Tryz.func143,Tryz.ntmps143
  go_wp2_with fail
  refine HR.out.mono ?_
  rintro e w' ⟨rfl,rfl⟩
  go_wp2_with fail
  refine bodyPost_ret (results_tmp2 rfl _ _ _) rfl ?_
  exact⟨rfl,rfl⟩
 ·rw[hb]at HR
  have HR:=Lib.hid HR
  obtain⟨v,hv⟩: ∃v:Int,((litV l:Nat):Int)=v:=⟨_,rfl⟩
  have hr:=litV_right hb
  rw[hv]at HV hr
  have hw1:IntKind.i64.wrap (v-1)=v-1:=IntWalk.i64_in _ (by omega)
  have hw2:IntKind.i64.wrap (2*(v-1))=2*(v-1):=IntWalk.i64_in _ (by omega)
  have hw3:IntKind.i64.wrap (2*(v-1)+1)=2*(v-1)+1:=IntWalk.i64_in _ (by omega)
  rw[if_pos rfl]
  unfold litI
  rw[hv]
  clear hb hv hr
  by_cases hn:l<0
  ·have hd:decide (l<0)=true:=by simpa using hn
   rw[if_pos hn]
   clear hn
   go_enter Tryz.func143,Tryz.ntmps143
   go_wp2_with fail
   refine HR.out.mono ?_
   rintro e w' ⟨rfl,rfl⟩
   go_wp2_with fail
   refine HV.out.mono ?_
   rintro e w' ⟨rfl,rfl⟩
   go_wp2_with fail
   refine bodyPost_ret (results_tmp2 rfl _ _ _) rfl ?_
   exact⟨rfl,rfl⟩
  ·have hd:decide (l<0)=false:=by simpa using hn
   rw[if_neg hn,Int.add_zero]
   clear hn
   go_enter Tryz.func143,Tryz.ntmps143
   go_wp2_with fail
   refine HR.out.mono ?_
   rintro e w' ⟨rfl,rfl⟩
   go_wp2_with fail
   refine HV.out.mono ?_
   rintro e w' ⟨rfl,rfl⟩
   go_wp2_with fail
   refine bodyPost_ret (results_tmp2 rfl _ _ _) rfl ?_
   exact⟨rfl,rfl⟩
theorem cmp_int_nan (x:Int) (w:World):Calls Tryz.prog 175 #[.int .i64 x] w fun e w'=>e= .returned (.bool false)∧w=w':=by
 have h:(x != x)=false:=by simp
 go_enter Tryz.func175,Tryz.ntmps175
 go_wp2_with fail
 go_ret
 exact⟨rfl,rfl⟩
set_option maxHeartbeats 1000000 in
theorem cmp_int (x y:Int) (w:World):Calls Tryz.prog 144 #[.int .i64 x,.int .i64 y] w fun e w'=>e= .returned (.int .i64 (Lib.compareInt x y))∧w=w':=by
 have H1:=Lib.hid (cmp_int_nan x w)
 have H2:=Lib.hid (cmp_int_nan y w)
 unfold Lib.compareInt
 by_cases h:x<y
 ·have hd:decide (x<y)=true:=by simpa using h
  rw[if_pos h]
  clear h
  go_enter Tryz.func144,Tryz.ntmps144
  go_wp2_with fail
  refine H1.out.mono ?_
  rintro e w' ⟨rfl,rfl⟩
  go_wp2_with fail
  refine H2.out.mono ?_
  rintro e w' ⟨rfl,rfl⟩
  go_wp2_with fail
  go_ret
  exact⟨rfl,rfl⟩
 ·have hd:decide (x<y)=false:=by simpa using h
  rw[if_neg h]
  by_cases h2:y<x
  ·have he:decide (y<x)=true:=by simpa using h2
   rw[if_pos h2]
   clear h h2
   go_enter Tryz.func144,Tryz.ntmps144
   go_wp2_with fail
   refine H1.out.mono ?_
   rintro e w' ⟨rfl,rfl⟩
   go_wp2_with fail
   refine H2.out.mono ?_
   rintro e w' ⟨rfl,rfl⟩
   go_wp2_with fail
   go_ret
   exact⟨rfl,rfl⟩
  ·have he:decide (y<x)=false:=by simpa using h2
   rw[if_neg h2]
   clear h h2
   go_enter Tryz.func144,Tryz.ntmps144
   go_wp2_with fail
   refine H1.out.mono ?_
   rintro e w' ⟨rfl,rfl⟩
   go_wp2_with fail
   refine H2.out.mono ?_
   rintro e w' ⟨rfl,rfl⟩
   go_wp2_with fail
   go_ret
   exact⟨rfl,rfl⟩
theorem cmp_lit_nan (x:Int) (w:World):Calls Tryz.prog 156 #[.int .i64 x] w fun e w'=>e= .returned (.bool false)∧w=w':=by
 have h:(x != x)=false:=by simp
 go_enter Tryz.func156,Tryz.ntmps156
 go_wp2_with fail
 go_ret
 exact⟨rfl,rfl⟩
set_option maxHeartbeats 1000000 in
theorem cmp_lit (x y:Int) (w:World):Calls Tryz.prog 145 #[.int .i64 x,.int .i64 y] w fun e w'=>e= .returned (.int .i64 (Lib.compareInt x y))∧w=w':=by
 have H1:=Lib.hid (cmp_lit_nan x w)
 have H2:=Lib.hid (cmp_lit_nan y w)
 unfold Lib.compareInt
 by_cases h:x<y
 ·have hd:decide (x<y)=true:=by simpa using h
  rw[if_pos h]
  clear h
  go_enter Tryz.func145,Tryz.ntmps145
  go_wp2_with fail
  refine H1.out.mono ?_
  rintro e w' ⟨rfl,rfl⟩
  go_wp2_with fail
  refine H2.out.mono ?_
  rintro e w' ⟨rfl,rfl⟩
  go_wp2_with fail
  go_ret
  exact⟨rfl,rfl⟩
 ·have hd:decide (x<y)=false:=by simpa using h
  rw[if_neg h]
  by_cases h2:y<x
  ·have he:decide (y<x)=true:=by simpa using h2
   rw[if_pos h2]
   clear h h2
   go_enter Tryz.func145,Tryz.ntmps145
   go_wp2_with fail
   refine H1.out.mono ?_
   rintro e w' ⟨rfl,rfl⟩
   go_wp2_with fail
   refine H2.out.mono ?_
   rintro e w' ⟨rfl,rfl⟩
   go_wp2_with fail
   go_ret
   exact⟨rfl,rfl⟩
  ·have he:decide (y<x)=false:=by simpa using h2
   rw[if_neg h2]
   clear h h2
   go_enter Tryz.func145,Tryz.ntmps145
   go_wp2_with fail
   refine H1.out.mono ?_
   rintro e w' ⟨rfl,rfl⟩
   go_wp2_with fail
   refine H2.out.mono ?_
   rintro e w' ⟨rfl,rfl⟩
   go_wp2_with fail
   go_ret
   exact⟨rfl,rfl⟩
set_option maxHeartbeats 2000000 in
theorem lit_compare (a b:Int) (w:World):Calls Tryz.prog 113 #[.int .i64 a,.int .i64 b] w fun e w'=>e= .returned (.int .i64 (litC a b))∧w=w':=by
 have HA:=lit_index a w
 have HB:=lit_index b w
 unfold litC
 cases ha:litB a <;> cases hb:litB b <;> rw[ha]at HA <;> rw[hb]at HB <;> simp only[Bool.false_eq_true,if_false,if_true]at HA HB⊢
 ·have HA:=Lib.hid HA
  have HB:=Lib.hid HB
  have HC:=cmp_lit a b w
  obtain⟨r,hr⟩: ∃r,Lib.compareInt a b=r:=⟨_,rfl⟩
  rw[hr]at HC⊢
  have HC:=Lib.hid HC
  clear hr
  clear ha hb
  go_enter Tryz.func113,Tryz.ntmps113
  go_wp2_with fail
  refine HA.out.mono ?_
  rintro e w' ⟨rfl,rfl⟩
  go_wp2_with fail
  refine HB.out.mono ?_
  rintro e w' ⟨rfl,rfl⟩
  go_wp2_with fail
  refine HC.out.mono ?_
  rintro e w' ⟨rfl,rfl⟩
  go_wp2_with fail
  go_ret
  exact⟨rfl,rfl⟩
 ·have HA:=Lib.hid HA
  have HB:=Lib.hid HB
  clear ha hb
  go_enter Tryz.func113,Tryz.ntmps113
  go_wp2_with fail
  refine HA.out.mono ?_
  rintro e w' ⟨rfl,rfl⟩
  go_wp2_with fail
  refine HB.out.mono ?_
  rintro e w' ⟨rfl,rfl⟩
  go_wp2_with fail
  go_ret
  exact⟨rfl,rfl⟩
 ·have HA:=Lib.hid HA
  have HB:=Lib.hid HB
  clear ha hb
  go_enter Tryz.func113,Tryz.ntmps113
  go_wp2_with fail
  refine HA.out.mono ?_
  rintro e w' ⟨rfl,rfl⟩
  go_wp2_with fail
  refine HB.out.mono ?_
  rintro e w' ⟨rfl,rfl⟩
  go_wp2_with fail
  go_ret
  exact⟨rfl,rfl⟩
 ·have HA:=Lib.hid HA
  have HB:=Lib.hid HB
  have HC:=cmp_int (litI a) (litI b) w
  obtain⟨r,hr⟩: ∃r,Lib.compareInt (litI a) (litI b)=r:=⟨_,rfl⟩
  rw[hr]at HC⊢
  have HC:=Lib.hid HC
  clear hr
  clear ha hb
  go_enter Tryz.func113,Tryz.ntmps113
  go_wp2_with fail
  refine HA.out.mono ?_
  rintro e w' ⟨rfl,rfl⟩
  go_wp2_with fail
  refine HB.out.mono ?_
  rintro e w' ⟨rfl,rfl⟩
  go_wp2_with fail
  refine HC.out.mono ?_
  rintro e w' ⟨rfl,rfl⟩
  go_wp2_with fail
  go_ret
  exact⟨rfl,rfl⟩
end Go.Proofs.YtkfgplfllddhnaaGreat
