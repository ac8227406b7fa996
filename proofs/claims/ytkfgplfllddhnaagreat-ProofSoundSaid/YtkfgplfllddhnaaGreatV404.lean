/- package salvorlaw08: True, AllTrue. Literals: Var, Neg. Literals: Negated, Index, Compare; their order. What a range over a function keeps: all cells and walks but some. -/
import Derived.Test.YtkfgplfllddhnaaGreatV403
import Derived.Test.YtkfgplfllddhnaaGreatV400
import Derived.Test.YtkfgplfllddhnaaGreatV402
import Derived.Sort.LotA
import Derived.Shelf.SlSortCmp.Whole1
import Derived.RangeFuncNested
import Derived.RangeFuncBound
import Derived.RangeFuncCalls
import Derived.RangeFuncLeaves
import Derived.RangeFuncBox
import Derived.Shelf.Abstract
import Derived.Shelf.RegionOpen
import Derived.OwnWalkIn
import Derived.TacticsInMore
import Derived.LoopNIn
import Derived.LoopIn
import Derived.Maps.OwnIn
namespace Go.Proofs.YtkfgplfllddhnaaGreat
open Go.RowKit
def bitT (n:Nat) (l:Int):Bool:=if 0<l then n.testBit l.toNat else !n.testBit (-l).toNat
theorem bitT_neg {n:Nat} {y:Int} (hy:y≠0):bitT n (-y)= !bitT n y:=by
 unfold bitT
 by_cases h:0<y
 ·rw[if_pos h,if_neg (by omega),Int.neg_neg]
 ·rw[if_neg h,if_pos (by omega),Bool.not_not]
theorem bits_one: ∀n:Nat,n<128→∀k:Nat,k<7→bits BinOp.and IntKind.i64 ((n:Int)/2^k) 1=if n.testBit k=true then 1 else 0:=by decide +kernel
set_option maxRecDepth 100000 in
set_option maxHeartbeats 2000000 in
theorem law_true {O:Nat→Prop} (u:Value) (c:List Int) (n:Nat) (w:World) (hu:IntsIn O w u c) (hlen:c.length≤1000000) (hn:n<128) (hc: ∀y∈c,y≠0∧ -7<y∧y<7):
  Calls Tryz.prog 67 #[u,.int .i64 (n:Int)] w fun e w'=>e= .returned (.bool (c.any (bitT n)))∧w=w':=by
 have HX:=Lib.hid hu
 have HC:=Lib.hid hc
 obtain⟨A,cc,rfl,hcc,_,_⟩:=hu
 clear hc
 go_enter Tryz.func67,Tryz.ntmps67
 go_wp2_with fail
 go_loopw [9] (fun i wr=> ∃k:Nat,k≤c.length∧i= .int .i64 k∧Hid ((c.take k).any (bitT n)=false)∧wr=w) (fun i _=>c.length-(intOf i).toNat)
 case atStart=>exact⟨0,Nat.zero_le _,rfl,Lib.hid rfl,rfl⟩
 case round=>
  obtain⟨k,hk,rfl,HE,rfl⟩:=hrel
  by_cases hlt:k<c.length
  ·obtain⟨x,hxk⟩:=getElem_of hlt
   obtain⟨A',c',hAc,_,_,hxs⟩:=HX.out
   simp only[Value.slice.injEq,true_and]at hAc
   obtain⟨rfl,rfl⟩:=hAc
   obtain⟨g,o,rfl,hg,_,d1⟩:=hxs k x hxk
   have hmem:=List.mem_of_getElem? hxk
   have hx:=HC.out x hmem
   have HMX:=Lib.hid hmem
   have HTK:=Lib.hid (show(c.take (k+1)).any (bitT n)=((c.take k).any (bitT n)||bitT n x)from by rw[List.take_add_one,hxk];simp)
   clear hxs hxk hmem
   by_cases hp:0<x
   ·have q1:decide ((0:Int)<x)=true:=by simpa using hp
    have q2:min x (40:Int)=x:=by omega
    have hb:=bits_one n hn x.toNat (by omega)
    have hbt:bitT n x=n.testBit x.toNat:=by unfold bitT;rw[if_pos hp]
    have q3:decide (x<(0:Int))=false:=by simp;omega
    cases ht:n.testBit x.toNat with
    | true=>
     rw[ht]at hb hbt
     simp only[if_true]at hb
     have HT:=Lib.hid hbt
     clear hbt ht hx
     go_wp2_with fail
     go_ret
     exact⟨by rw[List.any_eq_true.2 ⟨x,HMX.out,HT.out⟩];rfl,rfl⟩
    | false=>
     rw[ht]at hb hbt
     simp only[Bool.false_eq_true,if_false]at hb
     have HT:=Lib.hid hbt
     clear hbt ht hx
     go_wp2_with fail
     go_roundw
     case rel=>exact⟨k+1,by omega,by go_num,Lib.hid (by rw[HTK.out,HE.out,HT.out];rfl),trivial⟩
     case measure=>simp[intOf];omega
   ·have q1:decide ((0:Int)<x)=false:=by simpa using hp
    have q3:decide (x<(0:Int))=true:=by simp;omega
    have q4:IntKind.i64.wrap (-x)= -x:=IntWalk.i64_in _ (by omega)
    have q2:min (-x) (40:Int)= -x:=by omega
    have hb:=bits_one n hn (-x).toNat (by omega)
    have hbt:bitT n x= !n.testBit (-x).toNat:=by unfold bitT;rw[if_neg hp]
    have hx0:0< -x:=by omega
    have hx1:x<0:=by omega
    obtain⟨t,ht⟩: ∃t,n.testBit (-x).toNat=t:=⟨_,rfl⟩
    rw[ht]at hb hbt
    cases t with
    | true=>
     simp only[if_true]at hb
     have HT:=Lib.hid hbt
     clear hbt ht hx
     go_wp2_with fail
     go_roundw
     case rel=>exact⟨k+1,by omega,by go_num,Lib.hid (by rw[HTK.out,HE.out,HT.out];rfl),trivial⟩
     case measure=>simp[intOf];omega
    | false=>
     simp only[Bool.false_eq_true,if_false]at hb
     have HT:=Lib.hid hbt
     clear hbt ht hx
     go_wp2_with fail
     go_ret
     exact⟨by rw[List.any_eq_true.2 ⟨x,HMX.out,HT.out⟩];rfl,rfl⟩
  ·obtain rfl:k=c.length:=by omega
   go_wp2_with fail
   go_ret
   refine⟨?_,rfl⟩
   have:=HE.out
   rw[List.take_length]at this
   rw[this]
   rfl
def allT (n:Nat) (cs:List (List Int)):Bool:=cs.all fun c=>c.any (bitT n)
def Lits6 (cs:List (List Int)):Prop:= ∀c∈cs,c.length≤1000000∧∀y∈c,y≠0∧ -7<y∧y<7
set_option maxRecDepth 100000 in
theorem true_one {O:Nat→Prop} (q n:Nat) (u:Value) (c:List Int) (w:World) (hu:IntsIn O w u c) (hq:w.cell? ⟨q,0,none⟩=some (.int .i64 (n:Int))) (hlen:c.length≤1000000) (hn:n<128) (hc: ∀y∈c,y≠0∧ -7<y∧y<7):
  Calls Tryz.prog 66 #[u,.pointer (some ⟨q,0,none⟩)] w fun e w'=>e= .returned (.bool (!(c.any (bitT n))))∧w=w':=by
 have H:=Lib.hid (law_true u c n w hu hlen hn hc)
 obtain⟨z,hz⟩: ∃z,c.any (bitT n)=z:=⟨_,rfl⟩
 rw[hz]at H⊢
 obtain⟨A,k,rfl,_⟩:=hu
 clear hz hc
 go_enter Tryz.func66,Tryz.ntmps66
 go_wp2_with fail
 refine H.out.mono ?_
 rintro e w' ⟨rfl,rfl⟩
 go_wp2_with fail
 go_ret
 exact⟨rfl,rfl⟩
set_option maxRecDepth 100000 in
set_option maxHeartbeats 2000000 in
theorem index_true {O:Nat→Prop} (q n:Nat) (u:Value) (cs:List (List Int)) (w:World) (h1:ClsIn O w u cs) (hq:w.cell? ⟨q,0,none⟩=some (.int .i64 (n:Int))) (hn:n<128) (h6:Lits6 cs) (hcl:cs.length≤1000000):
  Calls Tryz.prog 49 #[u,.func (.func 66) #[] #[.pointer (some ⟨q,0,none⟩)]] w fun e w'=>(∃i:Int,e= .returned (.int .i64 i)∧decide (0≤i)= !allT n cs)∧w=w':=by
 have HONE:=Lib.hid (fun(cv:Value) (c:List Int) (hc:IntsIn O w cv c) (hm:c∈cs)=>true_one q n cv c w hc hq (h6 c hm).1 hn (h6 c hm).2)
 have HX:=Lib.hid h1
 obtain⟨A,c,rfl,_⟩:=h1
 clear hq h6
 go_enter Tryz.func49,Tryz.ntmps49
 go_wp2
 go_loopw [8] (fun i wr=> ∃k:Nat,k≤cs.length∧i= .int .i64 k∧Hid (allT n (cs.take k)=true)∧w=wr) (fun i _=>cs.length-(intOf i).toNat)
 case atStart=>exact⟨0,Nat.zero_le _,rfl,Lib.hid rfl,rfl⟩
 case round=>
  obtain⟨k,hk,rfl,HE,rfl⟩:=hrel
  by_cases hlt:k<cs.length
  ·obtain⟨x,hxk⟩:=getElem_of hlt
   obtain⟨A',c',hAc,_,_,hxs⟩:=HX.out
   simp only[Value.slice.injEq,true_and]at hAc
   obtain⟨rfl,rfl⟩:=hAc
   obtain⟨g,o,u,rfl,hg,_,d1,hux⟩:=hxs k x hxk
   have HTK:=Lib.hid (show allT n (cs.take (k+1))=(allT n (cs.take k)&&x.any (bitT n))from by unfold allT;rw[List.take_add_one,hxk];simp)
   have HMX:=Lib.hid (List.mem_of_getElem? hxk)
   have HC:=Lib.hid (HONE.out u x hux HMX.out)
   obtain⟨z,hb⟩: ∃z,x.any (bitT n)=z:=⟨_,rfl⟩
   have HQ:=Lib.hid hb
   rw[hb]at HC
   clear hb hxk hxs hux
   cases z with
   | false=>
    go_wp2_with fail
    refine HC.out.mono ?_
    rintro e w' ⟨rfl,rfl⟩
    go_wp2
    go_ret
    refine⟨⟨_,rfl,?_⟩,rfl⟩
    have:allT n cs=false:=by
     unfold allT
     rw[List.all_eq_false]
     exact⟨x,HMX.out,by rw[HQ.out];simp⟩
    rw[this]
    simp
   | true=>
    go_wp2_with fail
    refine HC.out.mono ?_
    rintro e w' ⟨rfl,rfl⟩
    go_wp2
    go_roundw
    case rel=>exact⟨k+1,by omega,by go_num,Lib.hid (by rw[HTK.out,HE.out,HQ.out];rfl),trivial⟩
    case measure=>simp[intOf];omega
  ·obtain rfl:k=cs.length:=by omega
   go_wp2
   go_ret
   refine⟨⟨_,rfl,?_⟩,rfl⟩
   have:=HE.out
   rw[List.take_length]at this
   rw[this]
   rfl
theorem contains_true {O:Nat→Prop} (q n:Nat) (u:Value) (cs:List (List Int)) (w:World) (h1:ClsIn O w u cs) (hq:w.cell? ⟨q,0,none⟩=some (.int .i64 (n:Int))) (hn:n<128) (h6:Lits6 cs) (hcl:cs.length≤1000000):
  Calls Tryz.prog 18 #[u,.func (.func 66) #[] #[.pointer (some ⟨q,0,none⟩)]] w fun e w'=>e= .returned (.bool (!allT n cs))∧w=w':=by
 have H:=Lib.hid (index_true q n u cs w h1 hq hn h6 hcl)
 obtain⟨z,hz⟩: ∃z,allT n cs=z:=⟨_,rfl⟩
 rw[hz]at H⊢
 clear h1 hq h6 hz
 go_enter Tryz.func18,Tryz.ntmps18
 go_wp2_with fail
 refine H.out.mono ?_
 rintro e w' ⟨⟨i,rfl,hi⟩,rfl⟩
 have HI:=Lib.hid hi
 clear hi
 go_wp2_with fail
 go_ret
 exact⟨ret_bool HI.out,rfl⟩
set_option maxRecDepth 100000 in
theorem law_alltrue {O:Nat→Prop} (u:Value) (cs:List (List Int)) (n:Nat) (w:World) (h1:ClsIn O w u cs) (hn:n<128) (h6:Lits6 cs) (hcl:cs.length≤1000000):
  Calls Tryz.prog 40 #[u,.int .i64 (n:Int)] w fun e w'=>e= .returned (.bool (allT n cs))∧Below w.heap.size w w':=by
 have hb:=mx_al w (.cells #[.int .i64 (n:Int)] 3)
 have hq:(w.alloc (.cells #[.int .i64 (n:Int)] 3)).cell? ⟨w.heap.size,0,none⟩=some (.int .i64 (n:Int)):=cell_new _ _ _ 0
 have H:=Lib.hid (contains_true w.heap.size n u cs _ (h1.below hb) hq hn h6 hcl)
 have HB:=Lib.hid hb
 obtain⟨z,hz⟩: ∃z,allT n cs=z:=⟨_,rfl⟩
 rw[hz]at H⊢
 obtain⟨A,k,rfl,_⟩:=h1
 clear hb hq h6 hz
 go_enter Tryz.func40,Tryz.ntmps40
 go_wp2_with fail
 refine H.out.mono ?_
 rintro e w' ⟨rfl,rfl⟩
 go_wp2_with fail
 go_ret
 exact⟨by simp,HB.out⟩
end Go.Proofs.YtkfgplfllddhnaaGreat
namespace Go.Proofs.YtkfgplfllddhnaaGreat
open Go.RowKit
def litV (l:Int):Nat:=if litB l=true then l.natAbs else 0
set_option maxHeartbeats 1000000 in
theorem lit_var (l:Int) (w:World):Calls Tryz.prog 88 #[.int .i64 l] w fun e w'=>e= .returned (.int .i64 (litV l:Nat))∧w=w':=by
 have HR:=Lib.hid (right_lit l w)
 rcases hb:litB l with _|_
 ·rw[hb]at HR
  have hv:litV l=0:=by unfold litV;rw[if_neg (by rw[hb];decide)]
  rw[hv]
  clear hb hv
  go_enter Tryz.func88,Tryz.ntmps88
  go_wp2_with fail
  refine HR.out.mono ?_
  rintro e w' ⟨rfl,rfl⟩
  go_wp2_with fail
  go_ret
  exact⟨rfl,rfl⟩
 ·rw[hb]at HR
  have hr:=(litB_iff l).1 hb
  have hv:(litV l:Int)=max l (-l):=by unfold litV;rw[if_pos hb];omega
  have HV:=Lib.hid hv
  obtain⟨h0,h1,h2⟩:=hr
  clear hb hv
  have hw:IntKind.i64.wrap (-l)= -l:=IntWalk.i64_in _ (by omega)
  go_enter Tryz.func88,Tryz.ntmps88
  go_wp2_with fail
  refine HR.out.mono ?_
  rintro e w' ⟨rfl,rfl⟩
  go_wp2_with fail
  all_goals (go_ret;first|exact⟨ret_int (a:=max l (-l)) HV.out.symm,rfl⟩|exact⟨ret_int (a:= -l) (by have:=HV.out;omega),rfl⟩|exact⟨ret_int (a:=l) (by have:=HV.out;omega),rfl⟩)
def litN (l:Int):Int:=if litB l=true then -l else 0
theorem lit_neg (l:Int) (w:World):Calls Tryz.prog 109 #[.int .i64 l] w fun e w'=>e= .returned (.int .i64 (litN l))∧w=w':=by
 have HR:=right_lit l w
 cases hb:litB l
 ·
  rw[hb]at HR
  have HR:=Lib.hid HR
  have hv:litN l=0:=by unfold litN;rw[if_neg (by rw[hb];decide)]
  rw[hv]
  clear hb hv
  go_enter Tryz.func109,Tryz.ntmps109
  go_wp2_with fail
  refine HR.out.mono ?_
  rintro e w' ⟨rfl,rfl⟩
  go_wp2_with fail
  go_ret
  exact⟨rfl,rfl⟩
 ·
  rw[hb]at HR
  have HR:=Lib.hid HR
  have hr:=(litB_iff l).1 hb
  have hv:litN l= -l:=by unfold litN;rw[if_pos hb]
  rw[hv]
  obtain⟨h0,h1,h2⟩:=hr
  clear hb hv
  have hw:IntKind.i64.wrap (-l)= -l:=IntWalk.i64_in _ (by omega)
  go_enter Tryz.func109,Tryz.ntmps109
  go_wp2_with fail
  refine HR.out.mono ?_
  rintro e w' ⟨rfl,rfl⟩
  go_wp2_with fail
  go_ret
  exact⟨rfl,rfl⟩
end Go.Proofs.YtkfgplfllddhnaaGreat
namespace Go.Proofs.YtkfgplfllddhnaaGreat
open Go.RowKit Go.Sort
def litG (l:Int):Bool:=litB l&&decide (l<0)
def litI (l:Int):Int:=2*((litV l:Nat)-1:Int)+(if l<0 then 1 else 0)
def litC (a b:Int):Int:=if litB a=true then(if litB b=true then Lib.compareInt (litI a) (litI b)else 1)else if litB b=true then -1 else Lib.compareInt a b
theorem litV_right {l:Int} (h:litB l=true):(litV l:Int)=l.natAbs∧1≤(litV l:Int)∧(litV l:Int)≤1048576:=by
 have:=(litB_iff l).1 h
 unfold litV
 rw[if_pos h]
 omega
theorem litI_inj {a b:Int} (ha:litB a=true) (hb:litB b=true) (h:litI a=litI b):a=b:=by
 have h1:=litV_right ha
 have h2:=litV_right hb
 unfold litI at h
 split at h <;> split at h <;> omega
theorem ltC_iff (a b:Int):ltOf litC a b=true↔(litB a=false∧litB b=true)∨(litB a=true∧litB b=true∧litI a<litI b)∨(litB a=false∧litB b=false∧a<b):=by
 unfold ltOf litC Lib.compareInt
 cases ha:litB a <;> cases hb:litB b
 ·by_cases h:a<b <;> by_cases h2:b<a <;> simp[h,h2]
 ·simp
 ·simp
 ·by_cases h:litI a<litI b <;> by_cases h2:litI b<litI a <;> simp[h,h2]
theorem ltC_swo:SWO (ltOf litC) where
 irrefl x:=by
  rw[Bool.eq_false_iff,ne_eq,ltC_iff]
  rintro (⟨h1,h2⟩|⟨_,_,h⟩|⟨_,_,h⟩)
  ·rw[h1]at h2;cases h2
  ·omega
  ·omega
 trans x y z h1 h2:=by
  rw[ltC_iff]at *
  cases hx:litB x <;> cases hy:litB y <;> cases hz:litB z <;> simp[hx,hy,hz]at* <;> omega
 ntrans x y z h1 h2:=by
  rw[Bool.eq_false_iff,ne_eq,ltC_iff]at *
  cases hx:litB x <;> cases hy:litB y <;> cases hz:litB z <;> simp[hx,hy,hz]at* <;> omega
theorem ltC_total: ∀x y,ltOf litC x y=false→ltOf litC y x=false→x=y:=by
 intro x y h1 h2
 rw[Bool.eq_false_iff,ne_eq,ltC_iff]at h1 h2
 cases hx:litB x <;> cases hy:litB y <;> simp[hx,hy]at h1 h2
 ·omega
 ·exact litI_inj hx hy (by omega)
set_option maxHeartbeats 1000000 in
theorem lit_negated (l:Int) (w:World):Calls Tryz.prog 165 #[.int .i64 l] w fun e w'=>e= .returned (.bool (litG l))∧w=w':=by
 have HR:=right_lit l w
 unfold litG
 cases hb:litB l
 ·rw[hb]at HR
  have HR:=Lib.hid HR
  clear hb
  go_enter Tryz.func165,Tryz.ntmps165
  go_wp2_with fail
  refine HR.out.mono ?_
  rintro e w' ⟨rfl,rfl⟩
  go_wp2_with fail
  go_ret
  exact⟨rfl,rfl⟩
 ·rw[hb]at HR
  have HR:=Lib.hid HR
  clear hb
  rw[Bool.true_and]
  obtain⟨q,hq⟩: ∃q,decide (l<0)=q:=⟨_,rfl⟩
  rw[hq]
  go_enter Tryz.func165,Tryz.ntmps165
  go_wp2_with fail
  refine HR.out.mono ?_
  rintro e w' ⟨rfl,rfl⟩
  go_wp2_with fail
  go_ret
  exact⟨rfl,rfl⟩
set_option maxHeartbeats 1000000 in
theorem lit_index (l:Int) (w:World):Calls Tryz.prog 143 #[.int .i64 l] w fun e w'=>e= .returned (if litB l=true then .tuple #[.int .i64 (litI l),.int .i64 0]else .tuple #[.int .i64 0,.int .i64 10])∧w=w':=by
 have HR:=right_lit l w
 have HV:=Lib.hid (lit_var l w)
 cases hb:litB l
 ·rw[hb]at HR
  have HR:=Lib.hid HR
  clear hb
  rw[if_neg (by decide)]
  go_enter Tryz.func143,Tryz.ntmps143
  go_wp2_with fail
  refine HR.out.mono ?_
  rintro e w' ⟨rfl,rfl⟩
  go_wp2_with fail
  refine bodyPost_ret (results_tmp2 rfl _ _ _) rfl ?_
  exact⟨rfl,rfl⟩
 ·rw[hb]at HR
  have HR:=Lib.hid HR
  obtain⟨v,hv⟩: ∃v:Int,((litV l:Nat):Int)=v:=⟨_,rfl⟩
  have hr:=litV_right hb
  rw[hv]at HV hr
  have hw1:IntKind.i64.wrap (v-1)=v-1:=IntWalk.i64_in _ (by omega)
  have hw2:IntKind.i64.wrap (2*(v-1))=2*(v-1):=IntWalk.i64_in _ (by omega)
  have hw3:IntKind.i64.wrap (2*(v-1)+1)=2*(v-1)+1:=IntWalk.i64_in _ (by omega)
  rw[if_pos rfl]
  unfold litI
  rw[hv]
  clear hb hv hr
  by_cases hn:l<0
  ·have hd:decide (l<0)=true:=by simpa using hn
   rw[if_pos hn]
   clear hn
   go_enter Tryz.func143,Tryz.ntmps143
   go_wp2_with fail
   refine HR.out.mono ?_
   rintro e w' ⟨rfl,rfl⟩
   go_wp2_with fail
   refine HV.out.mono ?_
   rintro e w' ⟨rfl,rfl⟩
   go_wp2_with fail
   refine bodyPost_ret (results_tmp2 rfl _ _ _) rfl ?_
   exact⟨rfl,rfl⟩
  ·have hd:decide (l<0)=false:=by simpa using hn
   rw[if_neg hn,Int.add_zero]
   clear hn
   go_enter Tryz.func143,Tryz.ntmps143
   go_wp2_with fail
   refine HR.out.mono ?_
   rintro e w' ⟨rfl,rfl⟩
   go_wp2_with fail
   refine HV.out.mono ?_
   rintro e w' ⟨rfl,rfl⟩
   go_wp2_with fail
   refine bodyPost_ret (results_tmp2 rfl _ _ _) rfl ?_
   exact⟨rfl,rfl⟩
theorem cmp_int_nan (x:Int) (w:World):Calls Tryz.prog 175 #[.int .i64 x] w fun e w'=>e= .returned (.bool false)∧w=w':=by
 have h:(x != x)=false:=by simp
 go_enter Tryz.func175,Tryz.ntmps175
 go_wp2_with fail
 go_ret
 exact⟨rfl,rfl⟩
set_option maxHeartbeats 1000000 in
theorem cmp_int (x y:Int) (w:World):Calls Tryz.prog 144 #[.int .i64 x,.int .i64 y] w fun e w'=>e= .returned (.int .i64 (Lib.compareInt x y))∧w=w':=by
 have H1:=Lib.hid (cmp_int_nan x w)
 have H2:=Lib.hid (cmp_int_nan y w)
 unfold Lib.compareInt
 by_cases h:x<y
 ·have hd:decide (x<y)=true:=by simpa using h
  rw[if_pos h]
  clear h
  go_enter Tryz.func144,Tryz.ntmps144
  go_wp2_with fail
  refine H1.out.mono ?_
  rintro e w' ⟨rfl,rfl⟩
  go_wp2_with fail
  refine H2.out.mono ?_
  rintro e w' ⟨rfl,rfl⟩
  go_wp2_with fail
  go_ret
  exact⟨rfl,rfl⟩
 ·have hd:decide (x<y)=false:=by simpa using h
  rw[if_neg h]
  by_cases h2:y<x
  ·have he:decide (y<x)=true:=by simpa using h2
   rw[if_pos h2]
   clear h h2
   go_enter Tryz.func144,Tryz.ntmps144
   go_wp2_with fail
   refine H1.out.mono ?_
   rintro e w' ⟨rfl,rfl⟩
   go_wp2_with fail
   refine H2.out.mono ?_
   rintro e w' ⟨rfl,rfl⟩
   go_wp2_with fail
   go_ret
   exact⟨rfl,rfl⟩
  ·have he:decide (y<x)=false:=by simpa using h2
   rw[if_neg h2]
   clear h h2
   go_enter Tryz.func144,Tryz.ntmps144
   go_wp2_with fail
   refine H1.out.mono ?_
   rintro e w' ⟨rfl,rfl⟩
   go_wp2_with fail
   refine H2.out.mono ?_
   rintro e w' ⟨rfl,rfl⟩
   go_wp2_with fail
   go_ret
   exact⟨rfl,rfl⟩
theorem cmp_lit_nan (x:Int) (w:World):Calls Tryz.prog 156 #[.int .i64 x] w fun e w'=>e= .returned (.bool false)∧w=w':=by
 have h:(x != x)=false:=by simp
 go_enter Tryz.func156,Tryz.ntmps156
 go_wp2_with fail
 go_ret
 exact⟨rfl,rfl⟩
set_option maxHeartbeats 1000000 in
theorem cmp_lit (x y:Int) (w:World):Calls Tryz.prog 145 #[.int .i64 x,.int .i64 y] w fun e w'=>e= .returned (.int .i64 (Lib.compareInt x y))∧w=w':=by
 have H1:=Lib.hid (cmp_lit_nan x w)
 have H2:=Lib.hid (cmp_lit_nan y w)
 unfold Lib.compareInt
 by_cases h:x<y
 ·have hd:decide (x<y)=true:=by simpa using h
  rw[if_pos h]
  clear h
  go_enter Tryz.func145,Tryz.ntmps145
  go_wp2_with fail
  refine H1.out.mono ?_
  rintro e w' ⟨rfl,rfl⟩
  go_wp2_with fail
  refine H2.out.mono ?_
  rintro e w' ⟨rfl,rfl⟩
  go_wp2_with fail
  go_ret
  exact⟨rfl,rfl⟩
 ·have hd:decide (x<y)=false:=by simpa using h
  rw[if_neg h]
  by_cases h2:y<x
  ·have he:decide (y<x)=true:=by simpa using h2
   rw[if_pos h2]
   clear h h2
   go_enter Tryz.func145,Tryz.ntmps145
   go_wp2_with fail
   refine H1.out.mono ?_
   rintro e w' ⟨rfl,rfl⟩
   go_wp2_with fail
   refine H2.out.mono ?_
   rintro e w' ⟨rfl,rfl⟩
   go_wp2_with fail
   go_ret
   exact⟨rfl,rfl⟩
  ·have he:decide (y<x)=false:=by simpa using h2
   rw[if_neg h2]
   clear h h2
   go_enter Tryz.func145,Tryz.ntmps145
   go_wp2_with fail
   refine H1.out.mono ?_
   rintro e w' ⟨rfl,rfl⟩
   go_wp2_with fail
   refine H2.out.mono ?_
   rintro e w' ⟨rfl,rfl⟩
   go_wp2_with fail
   go_ret
   exact⟨rfl,rfl⟩
set_option maxHeartbeats 2000000 in
theorem lit_compare (a b:Int) (w:World):Calls Tryz.prog 113 #[.int .i64 a,.int .i64 b] w fun e w'=>e= .returned (.int .i64 (litC a b))∧w=w':=by
 have HA:=lit_index a w
 have HB:=lit_index b w
 unfold litC
 cases ha:litB a <;> cases hb:litB b <;> rw[ha]at HA <;> rw[hb]at HB <;> simp only[Bool.false_eq_true,if_false,if_true]at HA HB⊢
 ·have HA:=Lib.hid HA
  have HB:=Lib.hid HB
  have HC:=cmp_lit a b w
  obtain⟨r,hr⟩: ∃r,Lib.compareInt a b=r:=⟨_,rfl⟩
  rw[hr]at HC⊢
  have HC:=Lib.hid HC
  clear hr
  clear ha hb
  go_enter Tryz.func113,Tryz.ntmps113
  go_wp2_with fail
  refine HA.out.mono ?_
  rintro e w' ⟨rfl,rfl⟩
  go_wp2_with fail
  refine HB.out.mono ?_
  rintro e w' ⟨rfl,rfl⟩
  go_wp2_with fail
  refine HC.out.mono ?_
  rintro e w' ⟨rfl,rfl⟩
  go_wp2_with fail
  go_ret
  exact⟨rfl,rfl⟩
 ·have HA:=Lib.hid HA
  have HB:=Lib.hid HB
  clear ha hb
  go_enter Tryz.func113,Tryz.ntmps113
  go_wp2_with fail
  refine HA.out.mono ?_
  rintro e w' ⟨rfl,rfl⟩
  go_wp2_with fail
  refine HB.out.mono ?_
  rintro e w' ⟨rfl,rfl⟩
  go_wp2_with fail
  go_ret
  exact⟨rfl,rfl⟩
 ·have HA:=Lib.hid HA
  have HB:=Lib.hid HB
  clear ha hb
  go_enter Tryz.func113,Tryz.ntmps113
  go_wp2_with fail
  refine HA.out.mono ?_
  rintro e w' ⟨rfl,rfl⟩
  go_wp2_with fail
  refine HB.out.mono ?_
  rintro e w' ⟨rfl,rfl⟩
  go_wp2_with fail
  go_ret
  exact⟨rfl,rfl⟩
 ·have HA:=Lib.hid HA
  have HB:=Lib.hid HB
  have HC:=cmp_int (litI a) (litI b) w
  obtain⟨r,hr⟩: ∃r,Lib.compareInt (litI a) (litI b)=r:=⟨_,rfl⟩
  rw[hr]at HC⊢
  have HC:=Lib.hid HC
  clear hr
  clear ha hb
  go_enter Tryz.func113,Tryz.ntmps113
  go_wp2_with fail
  refine HA.out.mono ?_
  rintro e w' ⟨rfl,rfl⟩
  go_wp2_with fail
  refine HB.out.mono ?_
  rintro e w' ⟨rfl,rfl⟩
  go_wp2_with fail
  refine HC.out.mono ?_
  rintro e w' ⟨rfl,rfl⟩
  go_wp2_with fail
  go_ret
  exact⟨rfl,rfl⟩
end Go.Proofs.YtkfgplfllddhnaaGreat
namespace Go.Proofs.YtkfgplfllddhnaaGreat
open Go.RowKit Go.Shelf Go.Maps
attribute [local go_sem] Oper.semAt_some
def XO (W:World) (g:Nat):Prop:= ∃o,W.heap[g]? =some o∧o.isCells=false∧o.isWalk=false
structure KpC (X:Nat→Prop) (W W':World):Prop where
 os:W'.os=W.os
 tape:W'.tape=W.tape
 output:W'.output=W.output
 size:W.heap.size≤W'.heap.size
 same: ∀k o,W.heap[k]? =some o→¬X k→(o.isCells=true∨o.isWalk=true)→W'.heap[k]? =some o
theorem KpC.kept {X:Nat→Prop} {W W':World} (h:KpC X W W'):Kept (fun g=>X g∨XO W g) W W':=
 ⟨h.os,h.tape,h.output,h.size,fun k hk hn=>by
  have hg:W.heap[k]? =some W.heap[k]:=Array.getElem?_eq_getElem hk
  rw[hg]
  refine h.same k _ hg (fun hx=>hn (.inl hx)) ?_
  apply Classical.byContradiction
  intro hc
  simp only[not_or,Bool.not_eq_true]at hc
  exact hn (.inr ⟨_,hg,hc.1,hc.2⟩)⟩
theorem KpC.trans {X:Nat→Prop} {A B C:World} (h:KpC X A B) (k:KpC X B C):KpC X A C:=
 ⟨k.os.trans h.os,k.tape.trans h.tape,k.output.trans h.output,Nat.le_trans h.size k.size,fun i o hi hx ho=>k.same i o (h.same i o hi hx ho) hx ho⟩
theorem KpC.mono {X X':Nat→Prop} {A B:World} (h:KpC X A B) (hX: ∀g,g<A.heap.size→X g→X' g):KpC X' A B:=
 ⟨h.os,h.tape,h.output,h.size,fun i o hi hx ho=>h.same i o hi (fun h'=>hx (hX i (heap_lt hi) h')) ho⟩
theorem KpC.of_grown {A B:World} {row:Option Nat} (h:A.grownBy B row):KpC (fun g=>some g=row) A B:=
 ⟨h.os,h.tape,h.output,h.size,fun k _ hk hn _=>(h.block k (heap_lt hk) hn).trans hk⟩
theorem KpC.refl (X:Nat→Prop) (A:World):KpC X A A:=⟨rfl,rfl,rfl,Nat.le_refl _,fun _ _ h _ _=>h⟩
theorem KpC.of_below {X:Nat→Prop} {A B:World} (h:Below A.heap.size A B):KpC X A B:=⟨h.os,h.tape,h.output,h.size,fun k _ hk _ _=>(h.block k (heap_lt hk)).trans hk⟩
theorem KpC.putObj (W:World) (l:Nat) (o o':Obj) (h:W.heap[l]? =some o) (hc:o.isCells=false) (hw:o.isWalk=false):KpC (fun _=>False) W (W.putObj l o'):=by
 have hg:=grownBy_putObj' W l o'
 refine⟨hg.os,hg.tape,hg.output,hg.size,fun k x hk _ hx=>?_⟩
 rw[hg.block k (heap_lt hk) (fun e=>by
  cases e
  rw[h]at hk
  cases hk
  rw[hc,hw]at hx
  simp at hx)]
 exact hk
theorem xo_cells {W:World} {g:Nat} {c:Array Value} {t:TypeId} {f:Nat×Nat} (h:W.heap[g]? =some (.cells c t f)): ¬XO W g:=by
 rintro ⟨o,ho,hc,_⟩
 rw[h]at ho
 cases ho
 cases hc
theorem xo_cell {W:World} {p:Addr} {v:Value} (h:W.cell? p=some v): ¬XO W p.block:=by
 rintro ⟨o,ho,hc,_⟩
 unfold World.cell? at h
 rw[ho]at h
 cases o <;> simp_all [Obj.isCells]
theorem IntsIn.narrow {O:Nat→Prop} {w:World} {v:Value} {xs:List Int} (h:IntsIn O w v xs):IntsIn (fun g=>O g∧¬XO w g) w v xs:=by
 obtain⟨A,c,hv,hc,hn,hx⟩:=h
 refine⟨A,c,hv,hc,hn,fun i x hi=>?_⟩
 obtain⟨g,o,h1,h2,h3,h4⟩:=hx i x hi
 exact⟨g,o,h1,h2,⟨h3,xo_cell h4⟩,h4⟩
theorem wpListIn_put {F:Fence} {n:Nat} {w:World} {ops:Array Oper} {rest:List Oper} {o:Oper} {a:Act} {Q:Exit→Act→World→Prop} {b k:Nat} {f:Int→Int} (hown:MapAt w b k f)
  (hg:o.guard=none) (m x v:Operand) (hop:o.op=Op.mapUpdate 103 m x v) (hm:a.eval m= .map (some b)) (hn:k<maxLen) (i y:Int) (hx:a.eval x= .int .i64 i) (hv:a.eval v= .int .i64 y)
  (hi:(Lit.int .i64 i).wf=true) (hy:(Lit.int .i64 y).wf=true)
  (hK: ∀w',MapAt w' b (k+1) (fun z=>if z=i then y else f z)→w.grownBy w' (some b)→wpListIn F n Tryz.prog ops Q rest (a.put o.dst undef) w'):wpListIn F n Tryz.prog ops Q (o::rest) a w:=by
 obtain⟨D,ho,hmap,hf⟩:=hown
 exact wpListIn_mapUpdate_own w hg m x v _ hop 3 3 int_law Tryz.underlying103 _ b k D hm ho hn _ _ _ hx hv (keyOf_int_mk Tryz.underlying3 hi) _ [] (plainElem_int Tryz.underlying3 hy)
  (fun w' h1 h2=>hK w' (MapAt.put hmap hf h1) h2)
end Go.Proofs.YtkfgplfllddhnaaGreat
