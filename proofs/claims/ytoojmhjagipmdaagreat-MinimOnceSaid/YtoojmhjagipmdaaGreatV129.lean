/- package clauses: Without. awake (package salvorlaw14). package salvorlaw13: WatchAdds. Calls of a law at a watch that knows all of its clauses. package rup: follow, check, Check, Trim. AnalyzeReasons: the plain law, and the walk. package salvorlaw08: True, AllTrue. How many different numbers there are in a list: sorted, and compacted. Plain: all that a law asks of what is learned. package salvorlaw14: Good. Plain: a search learns a clause: it is unit behind the level to which it leads, and no clause lay within it. package salvorlaw14: Learn. AnalyzeFollows: the walk. -/
import Derived.Test.YtoojmhjagipmdaaGreatV128
import Derived.Test.YtoojmhjagipmdaaGreatV112
import Derived.Test.YtoojmhjagipmdaaGreatV127
import Derived.Test.YtoojmhjagipmdaaGreatV114
import Derived.Lib.SliceRun
import Derived.Test.YtoojmhjagipmdaaGreatV107
import Derived.Test.YtoojmhjagipmdaaGreatV126
import Derived.Test.YtoojmhjagipmdaaGreatV116
import Derived.Test.YtoojmhjagipmdaaGreatV117
import Derived.Test.YtoojmhjagipmdaaGreatV120
import Derived.Test.YtoojmhjagipmdaaGreatV125
import Derived.Deep.DeepCutAuto
import Derived.Deep.CutBlock
import Derived.Test.YtoojmhjagipmdaaGreatV124
namespace Go.Proofs.YtoojmhjagipmdaaGreat
open Go.RowKit
def restW (v:Int) (c:List Int):List Int:=c.filter fun l=>decide (l≠v)
def keepW (v:Int) (c:List Int) (k:Nat):List Int:=restW v (c.take k)
end Go.Proofs.YtoojmhjagipmdaaGreat
namespace Go.Proofs.YtoojmhjagipmdaaGreat
open Go.RowKit
def exL:List (List Int):= [[-1,2],[-2,-3,4],[-4,5],[-5,-4,-2],[3]]
def exA:List ActP:= [⟨true,0,0⟩,⟨false,3,0⟩,⟨true,0,0⟩,⟨false,1,0⟩,⟨false,2,1⟩,⟨false,4,2⟩,⟨false,5,3⟩]
def exB:List ActP:= [⟨false,3,5⟩,⟨true,0,0⟩,⟨false,1,0⟩,⟨false,2,1⟩,⟨false,4,2⟩,⟨false,5,3⟩]
def exAr:Arn:=addAll arn0 0 exL
def exT:Trl:=playAll (trl0 5) exA
def exU:Trl:=playAll (trl0 5) exB
end Go.Proofs.YtoojmhjagipmdaaGreat
namespace Go.Proofs.YtoojmhjagipmdaaGreat
open Go.RowKit
end Go.Proofs.YtoojmhjagipmdaaGreat
namespace Go.Proofs.YtoojmhjagipmdaaGreat
open Go.RowKit
def exD:List ActP:= [⟨false,3,5⟩,⟨true,0,0⟩,⟨true,0,0⟩,⟨false,1,0⟩,⟨false,2,1⟩,⟨false,4,2⟩,⟨false,5,3⟩]
end Go.Proofs.YtoojmhjagipmdaaGreat
namespace Go.Proofs.YtoojmhjagipmdaaGreat
open Go.RowKit
theorem madeLit_six (x:Int):litB (madeLit x)=true∧litV (madeLit x)<7:=by
 obtain⟨h1,h2⟩:=madeLit_rng x
 have hb:litB (madeLit x)=true:=(litB_iff _).2 (by omega)
 exact⟨hb,by have:=(litV_pos hb).2;omega⟩
structure FewT (T:Trl) (k:Nat):Prop where
 sim: ∃its,Sim T its
 vars:T.vars.length=7
 starts:T.starts.length≤k+1
theorem FewT.push {T:Trl} {k:Nat} (h:FewT T k):FewT T.push (k+1):=by
 obtain⟨⟨its,h1⟩,h2,h3⟩:=h
 exact⟨⟨its,h1.pushT⟩,h2,by show(T.starts++ [(T.order.length:Int)]).length≤_;rw[List.length_append];simp;omega⟩
theorem FewT.assign {T:Trl} {k:Nat} (h:FewT T k) (l:Int):FewT (T.assigned l 0) k:=by
 obtain⟨⟨its,h1⟩,h2,h3⟩:=h
 refine⟨?_,(assigned_vars T l 0).trans h2,by rw[assigned_starts];exact h3⟩
 by_cases he:T.assignErr l 0=0
 ·exact⟨_,h1.snoc he⟩
 ·have e:T.assigned l 0=T:=by unfold Trl.assigned;rw[if_neg he]
  rw[e]
  exact⟨its,h1⟩
theorem FewT.few {T:Trl} {k:Nat} (h:FewT T k):T.order.length≤6:=by
 obtain⟨⟨its,h1⟩,h2,_⟩:=h
 exact h1.few h2
theorem FewT.mono {T:Trl} {k j:Nat} (h:FewT T k) (hj:k≤j):FewT T j:=⟨h.sim,h.vars,by have:=h.starts;omega⟩
inductive AddsO (T:Trl) (c:List Int) (K I:Nat) (U:Int) (T':Trl):Prop
 | alw (ha:alwL c=true) (hk:K=4) (ht:T'=T)
 | unit (ha:alwL c=false) (hi:I=3) (hk:K=2) (ho:T'.order=T.order++ [U]) (hs:T'.starts=T.starts) (hl:T'.level (litV U:Nat)=(T.starts.length:Int)-1) (hr:T'.reason (litV U:Nat)=1)
 | fails (ha:alwL c=false) (hi:I=2) (hk:K=3) (ht:T'=T)
 | rests (ha:alwL c=false) (hi:I≠2∧I≠3) (hk:K=1) (ht:T'=T)
end Go.Proofs.YtoojmhjagipmdaaGreat
namespace Go.Proofs.YtoojmhjagipmdaaGreat
open Go.RowKit
section
variable {cs:List (List Int)} {T:Trl} {its:List RIt} {S:Wst} {w0 w:World} {lab:Nat→Nat} {b ab tb:Nat}
theorem six_made (xss:List (List Int)) (m:Nat) (hm:m≤900):Six ((xss.take m).map madeL):=by
 refine⟨by rw[List.length_map,List.length_take];omega,fun c hc=>?_⟩
 obtain⟨xs,_,rfl⟩:=List.mem_map.1 hc
 refine⟨by simp[madeL];omega,fun y hy=>?_⟩
 obtain⟨n,_,rfl⟩:=List.mem_map.1 hy
 exact madeLit_six n
end
end Go.Proofs.YtoojmhjagipmdaaGreat
namespace Go.Proofs.YtoojmhjagipmdaaGreat
open Go.RowKit Go.Maps Go.Shelf
theorem ClsIn.take {O:Nat→Prop} {w:World} {A:Option Addr} {n c:Nat} {cs:List (List Int)} (h:ClsIn O w (.slice A n c) cs) {m:Nat} (hm:m≤cs.length):ClsIn O w (.slice A m c) (cs.take m):=by
 obtain⟨A',c',hv,hc,hn,hx⟩:=h
 simp only[Value.slice.injEq]at hv
 obtain⟨rfl,_,rfl⟩:=hv
 have hl:(cs.take m).length=m:=by rw[List.length_take];omega
 refine⟨A,c,by rw[hl],by rw[hl];omega,hn,fun i xs hi=>?_⟩
 have hil:=(List.getElem?_eq_some_iff.1 hi).1
 rw[List.getElem?_take,if_pos (by omega)]at hi
 exact hx i xs hi
def FolOut (w w':World) (R:List Int×Nat×Bool×Nat) (e:Ending):Prop:= ∃v,e= .returned (.tuple #[v,.int .i64 (R.2.1:Nat),.bool R.2.2.1,.int .i64 (R.2.2.2:Nat)])∧w'.ownsRow w.heap.size 32 1 v R.1.length (R.1.map (Value.int .i64))
def ChkOut (w w':World) (R:List Int×Nat×Nat) (e:Ending):Prop:= ∃v,e= .returned (.tuple #[v,.int .i64 (R.2.1:Nat),.int .i64 (R.2.2:Nat)])∧w'.ownsRow w.heap.size 32 1 v R.1.length (R.1.map (Value.int .i64))
end Go.Proofs.YtoojmhjagipmdaaGreat
namespace Go.Proofs.YtoojmhjagipmdaaGreat
open Go.RowKit
section
variable {A:Arn} {C:Int→Option (List Int)} {T:Trl} {its:List RIt}
end
theorem made_sub (g o c:Nat) (n:Int) (w:World) (hn:(Lit.int .i8 n).wf=true) (hc:1≤c) (hcm:c≤maxLen) (hg:g<w.heap.size) (h:w.cell? ⟨g,o,none⟩=some (.int .i8 n)):
  Calls Tryz.prog 14 #[.slice (some ⟨g,o,none⟩) 1 c] w fun e w'=> ∃g c,e= .returned (.slice (some ⟨g,0,none⟩) 1 c)∧1≤c∧w'.cell? ⟨g,0,none⟩=some (.int .i64 (madeLit n))∧Below w.heap.size w w':=by
 have hr:RowAt .i8 w (.slice (some ⟨g,o,none⟩) 1 c) [n]:=⟨some ⟨g,o,none⟩,c,rfl,hc,hcm,(fun h=>by cases h),(fun m hm=>by rw[List.mem_singleton.1 hm];exact hn),fun i x hi=>⟨g,o,rfl,hg,by
  match i,hi with
  | 0,hi=>
   obtain rfl:n=x:=by simpa using hi
   exact h⟩⟩
 refine(made_any _ [n] _ hr).mono ?_
 rintro e w' ⟨v,rfl,ho,hb⟩
 obtain⟨g,c,cs,rfl,hc,_,_,hg,hx⟩:=mx_some ho (by simp[madeL])
 exact⟨g,c,rfl,hc,mx_at ho rfl,hb⟩
end Go.Proofs.YtoojmhjagipmdaaGreat
namespace Go.Proofs.YtoojmhjagipmdaaGreat
open Go.RowKit
def bitT (n:Nat) (l:Int):Bool:=if 0<l then n.testBit l.toNat else !n.testBit (-l).toNat
theorem bitT_neg {n:Nat} {y:Int} (hy:y≠0):bitT n (-y)= !bitT n y:=by
 unfold bitT
 by_cases h:0<y
 ·rw[if_pos h,if_neg (by omega),Int.neg_neg]
 ·rw[if_neg h,if_pos (by omega),Bool.not_not]
theorem bits_one: ∀n:Nat,n<128→∀k:Nat,k<7→bits BinOp.and IntKind.i64 ((n:Int)/2^k) 1=if n.testBit k=true then 1 else 0:=by decide +kernel
set_option maxRecDepth 100000 in
set_option maxHeartbeats 2000000 in
theorem law_true {O:Nat→Prop} (u:Value) (c:List Int) (n:Nat) (w:World) (hu:IntsIn O w u c) (hlen:c.length≤1000000) (hn:n<128) (hc: ∀y∈c,y≠0∧ -7<y∧y<7):
  Calls Tryz.prog 31 #[u,.int .i64 (n:Int)] w fun e w'=>e= .returned (.bool (c.any (bitT n)))∧w=w':=by
 have HX:=Lib.hid hu
 have HC:=Lib.hid hc
 obtain⟨A,cc,rfl,hcc,_,_⟩:=hu
 clear hc
 go_enter Tryz.func31,Tryz.ntmps31
 go_wp2_with fail
 go_loopw [9] (fun i wr=> ∃k:Nat,k≤c.length∧i= .int .i64 k∧Hid ((c.take k).any (bitT n)=false)∧wr=w) (fun i _=>c.length-(intOf i).toNat)
 case atStart=>exact⟨0,Nat.zero_le _,rfl,Lib.hid rfl,rfl⟩
 case round=>
  obtain⟨k,hk,rfl,HE,rfl⟩:=hrel
  by_cases hlt:k<c.length
  ·obtain⟨x,hxk⟩:=getElem_of hlt
   obtain⟨A',c',hAc,_,_,hxs⟩:=HX.out
   simp only[Value.slice.injEq,true_and]at hAc
   obtain⟨rfl,rfl⟩:=hAc
   obtain⟨g,o,rfl,hg,_,d1⟩:=hxs k x hxk
   have hmem:=List.mem_of_getElem? hxk
   have hx:=HC.out x hmem
   have HMX:=Lib.hid hmem
   have HTK:=Lib.hid (show(c.take (k+1)).any (bitT n)=((c.take k).any (bitT n)||bitT n x)from by rw[List.take_add_one,hxk];simp)
   clear hxs hxk hmem
   by_cases hp:0<x
   ·have q1:decide ((0:Int)<x)=true:=by simpa using hp
    have q2:min x (40:Int)=x:=by omega
    have hb:=bits_one n hn x.toNat (by omega)
    have hbt:bitT n x=n.testBit x.toNat:=by unfold bitT;rw[if_pos hp]
    have q3:decide (x<(0:Int))=false:=by simp;omega
    cases ht:n.testBit x.toNat with
    | true=>
     rw[ht]at hb hbt
     simp only[if_true]at hb
     have HT:=Lib.hid hbt
     clear hbt ht hx
     go_wp2_with fail
     go_ret
     exact⟨by rw[List.any_eq_true.2 ⟨x,HMX.out,HT.out⟩];rfl,rfl⟩
    | false=>
     rw[ht]at hb hbt
     simp only[Bool.false_eq_true,if_false]at hb
     have HT:=Lib.hid hbt
     clear hbt ht hx
     go_wp2_with fail
     go_roundw
     case rel=>exact⟨k+1,by omega,by go_num,Lib.hid (by rw[HTK.out,HE.out,HT.out];rfl),trivial⟩
     case measure=>simp[intOf];omega
   ·have q1:decide ((0:Int)<x)=false:=by simpa using hp
    have q3:decide (x<(0:Int))=true:=by simp;omega
    have q4:IntKind.i64.wrap (-x)= -x:=IntWalk.i64_in _ (by omega)
    have q2:min (-x) (40:Int)= -x:=by omega
    have hb:=bits_one n hn (-x).toNat (by omega)
    have hbt:bitT n x= !n.testBit (-x).toNat:=by unfold bitT;rw[if_neg hp]
    have hx0:0< -x:=by omega
    have hx1:x<0:=by omega
    obtain⟨t,ht⟩: ∃t,n.testBit (-x).toNat=t:=⟨_,rfl⟩
    rw[ht]at hb hbt
    cases t with
    | true=>
     simp only[if_true]at hb
     have HT:=Lib.hid hbt
     clear hbt ht hx
     go_wp2_with fail
     go_roundw
     case rel=>exact⟨k+1,by omega,by go_num,Lib.hid (by rw[HTK.out,HE.out,HT.out];rfl),trivial⟩
     case measure=>simp[intOf];omega
    | false=>
     simp only[Bool.false_eq_true,if_false]at hb
     have HT:=Lib.hid hbt
     clear hbt ht hx
     go_wp2_with fail
     go_ret
     exact⟨by rw[List.any_eq_true.2 ⟨x,HMX.out,HT.out⟩];rfl,rfl⟩
  ·obtain rfl:k=c.length:=by omega
   go_wp2_with fail
   go_ret
   refine⟨?_,rfl⟩
   have:=HE.out
   rw[List.take_length]at this
   rw[this]
   rfl
def allT (n:Nat) (cs:List (List Int)):Bool:=cs.all fun c=>c.any (bitT n)
def Lits6 (cs:List (List Int)):Prop:= ∀c∈cs,c.length≤1000000∧∀y∈c,y≠0∧ -7<y∧y<7
set_option maxRecDepth 100000 in
theorem true_one {O:Nat→Prop} (q n:Nat) (u:Value) (c:List Int) (w:World) (hu:IntsIn O w u c) (hq:w.cell? ⟨q,0,none⟩=some (.int .i64 (n:Int))) (hlen:c.length≤1000000) (hn:n<128) (hc: ∀y∈c,y≠0∧ -7<y∧y<7):
  Calls Tryz.prog 79 #[u,.pointer (some ⟨q,0,none⟩)] w fun e w'=>e= .returned (.bool (!(c.any (bitT n))))∧w=w':=by
 have H:=Lib.hid (law_true u c n w hu hlen hn hc)
 obtain⟨z,hz⟩: ∃z,c.any (bitT n)=z:=⟨_,rfl⟩
 rw[hz]at H⊢
 obtain⟨A,k,rfl,_⟩:=hu
 clear hz hc
 go_enter Tryz.func79,Tryz.ntmps79
 go_wp2_with fail
 refine H.out.mono ?_
 rintro e w' ⟨rfl,rfl⟩
 go_wp2_with fail
 go_ret
 exact⟨rfl,rfl⟩
set_option maxRecDepth 100000 in
set_option maxHeartbeats 2000000 in
theorem index_true {O:Nat→Prop} (q n:Nat) (u:Value) (cs:List (List Int)) (w:World) (h1:ClsIn O w u cs) (hq:w.cell? ⟨q,0,none⟩=some (.int .i64 (n:Int))) (hn:n<128) (h6:Lits6 cs) (hcl:cs.length≤1000000):
  Calls Tryz.prog 124 #[u,.func (.func 79) #[] #[.pointer (some ⟨q,0,none⟩)]] w fun e w'=>(∃i:Int,e= .returned (.int .i64 i)∧decide (0≤i)= !allT n cs)∧w=w':=by
 have HONE:=Lib.hid (fun(cv:Value) (c:List Int) (hc:IntsIn O w cv c) (hm:c∈cs)=>true_one q n cv c w hc hq (h6 c hm).1 hn (h6 c hm).2)
 have HX:=Lib.hid h1
 obtain⟨A,c,rfl,_⟩:=h1
 clear hq h6
 go_enter Tryz.func124,Tryz.ntmps124
 go_wp2
 go_loopw [8] (fun i wr=> ∃k:Nat,k≤cs.length∧i= .int .i64 k∧Hid (allT n (cs.take k)=true)∧w=wr) (fun i _=>cs.length-(intOf i).toNat)
 case atStart=>exact⟨0,Nat.zero_le _,rfl,Lib.hid rfl,rfl⟩
 case round=>
  obtain⟨k,hk,rfl,HE,rfl⟩:=hrel
  by_cases hlt:k<cs.length
  ·obtain⟨x,hxk⟩:=getElem_of hlt
   obtain⟨A',c',hAc,_,_,hxs⟩:=HX.out
   simp only[Value.slice.injEq,true_and]at hAc
   obtain⟨rfl,rfl⟩:=hAc
   obtain⟨g,o,u,rfl,hg,_,d1,hux⟩:=hxs k x hxk
   have HTK:=Lib.hid (show allT n (cs.take (k+1))=(allT n (cs.take k)&&x.any (bitT n))from by unfold allT;rw[List.take_add_one,hxk];simp)
   have HMX:=Lib.hid (List.mem_of_getElem? hxk)
   have HC:=Lib.hid (HONE.out u x hux HMX.out)
   obtain⟨z,hb⟩: ∃z,x.any (bitT n)=z:=⟨_,rfl⟩
   have HQ:=Lib.hid hb
   rw[hb]at HC
   clear hb hxk hxs hux
   cases z with
   | false=>
    go_wp2_with fail
    refine HC.out.mono ?_
    rintro e w' ⟨rfl,rfl⟩
    go_wp2
    go_ret
    refine⟨⟨_,rfl,?_⟩,rfl⟩
    have:allT n cs=false:=by
     unfold allT
     rw[List.all_eq_false]
     exact⟨x,HMX.out,by rw[HQ.out];simp⟩
    rw[this]
    simp
   | true=>
    go_wp2_with fail
    refine HC.out.mono ?_
    rintro e w' ⟨rfl,rfl⟩
    go_wp2
    go_roundw
    case rel=>exact⟨k+1,by omega,by go_num,Lib.hid (by rw[HTK.out,HE.out,HQ.out];rfl),trivial⟩
    case measure=>simp[intOf];omega
  ·obtain rfl:k=cs.length:=by omega
   go_wp2
   go_ret
   refine⟨⟨_,rfl,?_⟩,rfl⟩
   have:=HE.out
   rw[List.take_length]at this
   rw[this]
   rfl
theorem contains_true {O:Nat→Prop} (q n:Nat) (u:Value) (cs:List (List Int)) (w:World) (h1:ClsIn O w u cs) (hq:w.cell? ⟨q,0,none⟩=some (.int .i64 (n:Int))) (hn:n<128) (h6:Lits6 cs) (hcl:cs.length≤1000000):
  Calls Tryz.prog 78 #[u,.func (.func 79) #[] #[.pointer (some ⟨q,0,none⟩)]] w fun e w'=>e= .returned (.bool (!allT n cs))∧w=w':=by
 have H:=Lib.hid (index_true q n u cs w h1 hq hn h6 hcl)
 obtain⟨z,hz⟩: ∃z,allT n cs=z:=⟨_,rfl⟩
 rw[hz]at H⊢
 clear h1 hq h6 hz
 go_enter Tryz.func78,Tryz.ntmps78
 go_wp2_with fail
 refine H.out.mono ?_
 rintro e w' ⟨⟨i,rfl,hi⟩,rfl⟩
 have HI:=Lib.hid hi
 clear hi
 go_wp2_with fail
 go_ret
 exact⟨ret_bool HI.out,rfl⟩
set_option maxRecDepth 100000 in
theorem law_alltrue {O:Nat→Prop} (u:Value) (cs:List (List Int)) (n:Nat) (w:World) (h1:ClsIn O w u cs) (hn:n<128) (h6:Lits6 cs) (hcl:cs.length≤1000000):
  Calls Tryz.prog 30 #[u,.int .i64 (n:Int)] w fun e w'=>e= .returned (.bool (allT n cs))∧Below w.heap.size w w':=by
 have hb:=mx_al w (.cells #[.int .i64 (n:Int)] 3)
 have hq:(w.alloc (.cells #[.int .i64 (n:Int)] 3)).cell? ⟨w.heap.size,0,none⟩=some (.int .i64 (n:Int)):=cell_new _ _ _ 0
 have H:=Lib.hid (contains_true w.heap.size n u cs _ (h1.below hb) hq hn h6 hcl)
 have HB:=Lib.hid hb
 obtain⟨z,hz⟩: ∃z,allT n cs=z:=⟨_,rfl⟩
 rw[hz]at H⊢
 obtain⟨A,k,rfl,_⟩:=h1
 clear hb hq h6 hz
 go_enter Tryz.func30,Tryz.ntmps30
 go_wp2_with fail
 refine H.out.mono ?_
 rintro e w' ⟨rfl,rfl⟩
 go_wp2_with fail
 go_ret
 exact⟨by simp,HB.out⟩
end Go.Proofs.YtoojmhjagipmdaaGreat
namespace Go.Proofs.YtoojmhjagipmdaaGreat
open Go.RowKit
def dn (xs:List Int):Nat:=(Lib.compact (sortI xs)).length
end Go.Proofs.YtoojmhjagipmdaaGreat
namespace Go.Proofs.YtoojmhjagipmdaaGreat
open Go.RowKit
structure GoodF (cs:List (List Int)) (T:Trl) (id lv:Int) (x:Lrn) (hcl:List (List Int)) (f:Int→Int):Prop where
 len:hcl.length=x.hints.length
 pos:0<x.hints.length
 few:x.hints.length≤7
 hint: ∀(k:Nat) (h:Int),x.hints[k]? =some h→∃(i:Nat) (d:List Int),h=(i:Int)+1∧cs[i]? =some d∧hcl[k]? =some d
 last:x.hints[x.hints.length-1]? =some id
 litb:clauseB x.lits=true
 lits6:x.lits.length≤6
 litr: ∀y∈x.lits,litB y=true∧litV y<7
 clsb: ∀d∈hcl,clauseB d=true
 chk:(chkP x.lits hcl).2=(x.hints.length,0)
 trm:(trimP x.lits hcl).length=x.hints.length
 asg:asgF T.order=some f
 look:lookF f x.lits=(2,0)
 nlev:((T.nLevels x.lits:Nat):Int)=x.levels
 lev:x.levels≤(x.lits.length:Int)
 lit: ∀(k:Nat) (y:Int),x.lits[k]? =some y→∃(n:Int) (q:Nat),T.level (litV y:Nat)=n∧(T.why (litV y:Nat)).isSome=true∧0<n∧((n==lv)=(k==0))∧(k=1→n=x.back)∧((litV y:Nat):Int)∈x.met∧T.place (litV y:Nat)=q∧∀(y':Int),0<k→x.lits[k-1]? =some y'→(q:Int)<T.place (litV y':Nat)
 sat: ∀n,n<128→allT n cs=true→x.lits.any (bitT n)=true
 back:1<x.lits.length∨x.back=0
section
variable {cs:List (List Int)} {T:Trl} {its:List RIt} {id lv:Int} {c:List Int} {x:Lrn} {R K:List Nat}
end
end Go.Proofs.YtoojmhjagipmdaaGreat
namespace Go.Proofs.YtoojmhjagipmdaaGreat
open Go.RowKit
structure HintsAt (w0 w:World) (v:Value) (k:Nat) (hcl:List (List Int)):Prop where
 ex: ∃vs:List Value,w.ownsRow w0.heap.size 34 1 v k vs∧∀(i:Nat) (d:List Int),i<k→hcl[i]? =some d→∃u,vs[i]? =some u∧IntsIn (fun g=>g<w0.heap.size) w u d
theorem IntsIn.all {O:Nat→Prop} {w:World} {v:Value} {xs:List Int} (h:IntsIn O w v xs):IntsIn (fun _=>True) w v xs:=h.mono fun _ _=>trivial
theorem HintsAt.cls {w0 w:World} {v:Value} {hcl:List (List Int)} (h:HintsAt w0 w v hcl.length hcl):ClsIn (fun _=>True) w v hcl:=by
 obtain⟨vs,hrow,hin⟩:=h.ex
 rcases hrow.2 with⟨rfl,h0⟩|⟨g,cap,cur,rfl,_,hg,hle,_⟩
 ·exact⟨none,0,by rw[h0],by omega,fun _=>rfl,fun i xs hi=>by
   have:=(List.getElem?_eq_some_iff.1 hi).1
   omega⟩
 ·refine⟨_,cap,rfl,hle,(fun h=>by cases h),fun i xs hi=>?_⟩
  obtain⟨u,hu,ho⟩:=hin i xs (List.getElem?_eq_some_iff.1 hi).1 hi
  exact⟨g,0,u,rfl,heap_lt hg,trivial,by rw[Nat.zero_add];exact mx_at hrow hu,ho.all⟩
theorem HintsAt.nil (w0 w:World) (hcl:List (List Int)):HintsAt w0 w (.slice none 0 0) 0 hcl:=⟨[],World.ownsRow_nil _ _ _ _,fun i d h=>by omega⟩
theorem Six.lits {cs:List (List Int)} (h:Six cs):Lits6 cs:=fun c hc=>by
 obtain⟨h1,h2⟩:=h.2 c hc
 refine⟨by omega,fun y hy=>?_⟩
 obtain⟨a1,a2⟩:=h2 y hy
 have h3:=(litV_pos a1).2
 have h4:=(litB_iff y).1 a1
 omega
end Go.Proofs.YtoojmhjagipmdaaGreat
namespace Go.Proofs.YtoojmhjagipmdaaGreat
open Go.RowKit
section
variable {C:Int→Option (List Int)} {T:Trl} {its:List RIt} {S:Wst} {cs:List (List Int)} {id lv:Int} {c:List Int} {x:Lrn} {R K:List Nat}
theorem ConfO.parts (h:ConfO C T its id c lv x R K) (hs:Sim T its) (hlv:lv≠0): ∃(k0:Nat) (K':List Nat) (z0:RIt),K=k0::K'∧its[k0]? =some z0∧z0.level=lv∧x.lits= -z0.lit::K'.map (fun q=> -(litAt its q))∧(∀q∈K',∃z,its[q]? =some z∧z.level<lv∧0<z.level∧z.level≤x.back)∧0≤x.back∧x.back<lv∧(K'= []→x.back=0)∧(K'≠ []→∃q∈K',∃z,its[q]? =some z∧z.level=x.back):=by
 obtain⟨k0,K',hK,h1,h2⟩:=h.one hlv
 have hkin:=h.kin
 have hkd:=h.kdn
 have hl:=h.lits
 rw[hK]at hkin hkd hl
 obtain⟨z0,hz0⟩:=getElem_of (hkin k0 List.mem_cons_self).1
 rw[lvAt_eq hz0]at h1
 rw[List.map_cons,litAt_eq hz0]at hl
 have hlv0:=h.lv0
 have hat: ∀q∈K',∃z,its[q]? =some z∧z.level<lv∧0<z.level:=fun q hq=>by
  obtain⟨a1,a2,_⟩:=hkin q (List.mem_cons_of_mem _ hq)
  obtain⟨z,hz⟩:=getElem_of a1
  have:=h2 q hq
  rw[lvAt_eq hz]at this a2
  exact⟨z,hz,this,a2⟩
 cases hKK:K' with
 | nil=>
  subst hKK
  have hb:x.back=0:=by rw[h.back,hl];rfl
  refine⟨k0,[],z0,hK,hz0,h1,hl,?_,by omega,by omega,fun _=>hb,fun h=>absurd rfl h⟩
  intro q hq
  cases hq
 | cons k1 K2=>
  obtain⟨z1,hz1,b1,b2⟩:=hat k1 (by rw[hKK];exact List.mem_cons_self)
  have hb:x.back=z1.level:=by
   rw[h.back,hl,hKK,List.map_cons]
   show T.level (litV (-(litAt its k1)):Nat)=_
   rw[litAt_eq hz1,litV_negate,hs.level hz1]
  refine⟨k0,k1::K2,z0,by rw[hK,hKK],hz0,h1,by rw[hl,hKK],fun q hq=>?_,by omega,by omega,(fun h=>by cases h),fun _=>⟨k1,List.mem_cons_self,z1,hz1,hb.symm⟩⟩
  obtain⟨z,hz,a1,a2⟩:=hat q (by rw[hKK];exact hq)
  refine⟨z,hz,a1,a2,?_⟩
  rw[hb]
  rcases List.mem_cons.1 hq with e|hq
  ·subst e
   rw[hz1]at hz
   obtain rfl:=Option.some.inj hz
   exact Int.le_refl _
  ·rw[hKK,List.pairwise_cons,List.pairwise_cons]at hkd
   exact hs.mono q k1 z z1 (Nat.le_of_lt (hkd.2.1 q hq)) hz hz1
structure LearnO (cs:List (List Int)) (x:Lrn) (T:Trl) (its:List RIt) (S:Wst) (l0:Int) (its1:List RIt) (W:WRes):Prop where
 berr:T.backErr x.back=0
 head: ∃r,x.lits=l0::r
 now1:(T.backed x.back).now=x.back
 st1:St (clsC cs) (T.backed x.back) its1 (backS T S x.back)
 pre:its1 <+: its
 lvl: ∀(p:Nat) (y:RIt),its[p]? =some y→y.level≤x.back→its1[p]? =some y
 val:(T.backed x.back).val l0=0
 fal: ∀y∈x.lits,y≠l0→Has its1 (-y)
 res:W.res=2
 err:W.err=0
 tr:W.T=(T.backed x.back).assigned l0 ((cs.length:Int)+1)
 now:W.T.now=x.back
 st:St (clsC (cs++ [x.lits])) W.T (its1++ [⟨l0,(cs.length:Int)+1,x.back⟩]) W.S
 dcs:Dcs (its1++ [⟨l0,(cs.length:Int)+1,x.back⟩])
 kn: ∀j,(W.S.kn j).isSome=(clsC (cs++ [x.lits]) j).isSome
 one:One (clsC (cs++ [x.lits])) (fun _=>True) (its1++ [⟨l0,(cs.length:Int)+1,x.back⟩])
 six:Six (cs++ [x.lits])
end
end Go.Proofs.YtoojmhjagipmdaaGreat
namespace Go.Proofs.YtoojmhjagipmdaaGreat
open Go.RowKit
theorem Lw.kept {O:Nat→Prop} {w0 w w':World} {lab:Nat→Nat} {b ab tb:Nat} {A:Arn} {T:Trl} {S:Wst} (h:Lw w0 w lab b ab tb A T S) (k:Kept O w w') (hO: ∀g,O g→lab g=0∧w0.heap.size≤g):Lw w0 w' lab b ab tb A T S:=
 ⟨h.sys.kept k (fun g hg ho=>hg (hO g ho).1),h.ge,h.hb.trans (k.below (fun i h=>(hO i h).2) h.hb.size)⟩
end Go.Proofs.YtoojmhjagipmdaaGreat
namespace Go.Proofs.YtoojmhjagipmdaaGreat
open Go.RowKit
theorem LrnAt.mono {n m:Nat} {w:World} {v:Value} {x:Lrn} (h:LrnAt n w v x) (hm:m≤n):LrnAt m w v x:=by
 obtain⟨a,b,c,rfl,h1,h2,h3⟩:=h
 exact⟨a,b,c,rfl,own_mono h1 hm,own_mono h2 hm,own_mono h3 hm⟩
theorem LrnAt.below {n:Nat} {w w':World} {v:Value} {x:Lrn} (h:LrnAt n w v x) (k:Below w.heap.size w w'):LrnAt n w' v x:=by
 obtain⟨a,b,c,rfl,h1,h2,h3⟩:=h
 exact⟨a,b,c,rfl,own_below h1 k,own_below h2 k,own_below h3 k⟩
theorem LrnAt.kept {O:Nat→Prop} {n:Nat} {w w':World} {v:Value} {x:Lrn} (h:LrnAt n w v x) (k:Kept O w w') (hO: ∀g,n≤g→¬O g):LrnAt n w' v x:=by
 obtain⟨a,b,c,rfl,h1,h2,h3⟩:=h
 exact⟨a,b,c,rfl,own_kept h1 k (fun g hg=>hO g (own_lt h1 g hg).1),own_kept h2 k (fun g hg=>hO g (own_lt h2 g hg).1),own_kept h3 k (fun g hg=>hO g (own_lt h3 g hg).1)⟩
structure YAt (wc wx:World) (yb:Nat) (y:Lrn) (a b c:Value):Prop where
 box:wx.heap[yb]? =some (.cells #[a,.int .i64 y.back,.int .i64 y.levels,b,c] 65 (0,0))
 lrn:LrnAt wc.heap.size wx (.agg #[a,.int .i64 y.back,.int .i64 y.levels,b,c]) y
 hb:Below wc.heap.size wc wx
 le:wc.heap.size≤yb
theorem YAt.kept {O:Nat→Prop} {wc w w':World} {yb:Nat} {y:Lrn} {a b c:Value} (h:YAt wc w yb y a b c) (k:Kept O w w') (hO: ∀g,wc.heap.size≤g→¬O g):w'.heap[yb]? =some (.cells #[a,.int .i64 y.back,.int .i64 y.levels,b,c] 65 (0,0))∧LrnAt wc.heap.size w' (.agg #[a,.int .i64 y.back,.int .i64 y.levels,b,c]) y:=
 ⟨(k.block _ (heap_lt h.box) (hO _ h.le)).trans h.box,h.lrn.kept k hO⟩
theorem YAt.below {wc w w':World} {yb:Nat} {y:Lrn} {a b c:Value} (h:YAt wc w yb y a b c) (k:Below w.heap.size w w'):YAt wc w' yb y a b c:=
 ⟨(k.block _ (heap_lt h.box)).trans h.box,h.lrn.below k,h.hb.trans (k.mono h.hb.size),h.le⟩
end Go.Proofs.YtoojmhjagipmdaaGreat
