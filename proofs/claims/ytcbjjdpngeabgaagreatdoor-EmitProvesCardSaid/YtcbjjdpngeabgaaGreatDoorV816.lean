/- Plain: what is assumed where a clause fails has values. Plain: a clause that holds always has a literal and its negation. package rup: moving. Reverse at rows that are owned. package rup: needed. Plain: variables of literals. Plain: what a clause is, by the values of literals. Plain: hints are followed from the negations of a clause. Maps of any values at integer keys (int, or a type of its kind), that the program made: their entries in the order of the keys. -/
import Derived.Test.YtcbjjdpngeabgaaGreatDoorV814
import Derived.Test.YtcbjjdpngeabgaaGreatDoorV815
import Derived.Test.YtcbjjdpngeabgaaGreatDoorShelf
import Derived.Test.YtcbjjdpngeabgaaGreatDoorV813
import Derived.Test.YtcbjjdpngeabgaaGreatDoorV812
import Derived.Test.YtcbjjdpngeabgaaGreatDoorV800
import Derived.Maps.OwnSet
import Derived.Maps.OwnOps
namespace Go.Proofs.YtcbjjdpngeabgaaGreatDoor
open Go.RowKit Go.Maps Go.Shelf
theorem lukGo_unit {f:Int→Int} {k:Nat} {t u:Int} {c:List Int} (h:lukGo f k t c=(3,u)):(k=3∧u=t)∨(u∈c∧ofF f u=0):=by
 induction c generalizing k t with
 | nil=>
  simp only[lukGo,Prod.mk.injEq]at h
  obtain⟨rfl,h⟩:=h
  exact .inl ⟨rfl,by simpa using h.symm⟩
 | cons l r ih=>
  simp only[lukGo]at h
  split at h
  ·cases h
  ·rename_i h1
   split at h
   ·exact(ih h).imp_right (fun h=>⟨List.mem_cons_of_mem _ h.1,h.2⟩)
   ·rename_i h2
    simp only[not_or]at h2
    split at h
    ·rcases ih h with⟨_,rfl⟩|h
     ·exact .inr ⟨List.mem_cons_self,by omega⟩
     ·exact .inr ⟨List.mem_cons_of_mem _ h.1,h.2⟩
    ·rcases ih h with⟨h,_⟩|h
     ·cases h
     ·exact .inr ⟨List.mem_cons_of_mem _ h.1,h.2⟩
theorem lookF_unit {f:Int→Int} {u:Int} {c:List Int} (h:lookF f c=(3,u)):u∈c∧ofF f u=0:=by
 rcases lukGo_unit h with⟨h,_⟩|h
 ·cases h
 ·exact h
theorem ofF_put_self {f:Int→Int} {u:Int}:ofF (putF f u) u=1:=by
 unfold ofF putF
 cases litG u <;> simp
def freeN (f:Int→Int) (ls:List Int):Nat:=(ls.filter (fun l=>decide (ofF f l=0))).length
theorem asgGo_some {xs:List Int}: ∀(f:Int→Int),(∀x∈xs,litB x=true)→(∀x∈xs,∀y∈xs,y≠ -x)→(∀x∈xs,0≤ofF f x)→∃g,asgGo f xs=some g:=by
 induction xs with
 | nil=>exact fun f _ _ _=>⟨f,rfl⟩
 | cons x r ih=>
  intro f h1 h2 h3
  have hb:=h1 x List.mem_cons_self
  simp only[asgGo]
  rw[if_pos ⟨hb,h3 x List.mem_cons_self⟩]
  refine ih (putF f x) (fun y hy=>h1 y (List.mem_cons_of_mem _ hy)) (fun y hy z hz=>h2 y (List.mem_cons_of_mem _ hy) z (List.mem_cons_of_mem _ hz)) (fun y hy=>?_)
  have hyb:=h1 y (List.mem_cons_of_mem _ hy)
  have hne:=h2 x List.mem_cons_self y (List.mem_cons_of_mem _ hy)
  by_cases hv:((litV y:Nat):Int)=((litV x:Nat):Int)
  ·have e1:=litV_right hb
   have e2:=litV_right hyb
   obtain rfl:y=x:=by omega
   rw[ofF_put_self]
   decide
  ·have:=h3 y (List.mem_cons_of_mem _ hy)
   unfold ofF putF at *
   simp only[if_neg hv]
   exact this
theorem alw_pair {l:Int} {xs:List Int} (hr: ∀x∈xs,litB x=true) (hp:xs.Pairwise (fun a b=>litI a<litI b)) (h:alwGo l xs=false): ∀x∈xs,0<x→∀y∈xs,y≠ -x:=by
 induction xs generalizing l with
 | nil=>exact fun x hx=>by cases hx
 | cons z r ih=>
  obtain⟨hz,hpr⟩:=List.pairwise_cons.1 hp
  have hal:alwGo z r=false:=by
   simp only[alwGo,Bool.or_eq_false_iff]at h
   exact h.2
  have hir:=ih (fun x hx=>hr x (List.mem_cons_of_mem _ hx)) hpr hal
  have hI: ∀v:Int,0<v→litB v=true→litI (-v)=litI v+1:=fun v hv hb=>by
   have h1:=litV_right hb
   have hb2:litB (-v)=true:=by
    have:=(litB_iff v).1 hb
    exact(litB_iff (-v)).2 (by omega)
   have h2:=litV_right hb2
   unfold litI
   rw[if_pos (show -v<0 by omega),if_neg (show¬v<0 by omega)]
   omega
  rintro x hx hx0 y hy rfl
  rcases List.mem_cons.1 hx with rfl|hxr
  ·rcases List.mem_cons.1 hy with he|hyr
   ·omega
   ·have hy1:=hI x hx0 (hr x List.mem_cons_self)
    cases r with
    | nil=>cases hyr
    | cons y1 r'=>
     have h1:=hz y1 List.mem_cons_self
     have hy2:y1= -x:=by
      rcases List.mem_cons.1 hyr with h|h
      ·exact h.symm
      ·have:=(List.pairwise_cons.1 hpr).1 _ h
       omega
     have hb:=hr x List.mem_cons_self
     simp only[alwGo,Bool.or_eq_false_iff,Bool.and_eq_false_iff]at hal
     rcases hal.1 with h|h
     ·have:x≠0:=by omega
      simp[this]at h
     ·rw[hy2]at h
      unfold litN at h
      rw[if_pos hb]at h
      simp at h
  ·rcases List.mem_cons.1 hy with he|hyr
   ·have h1:=hz x hxr
    have h2:=hI x hx0 (hr x hx)
    rw[he]at h2
    omega
   ·exact hir x hxr hx0 _ hyr rfl
theorem asm_some {c:List Int} (hc:clauseB c=true) (ha:alwL c=false): ∃f,asgF (asmL c)=some f:=by
 have hr: ∀x∈c,litB x=true:=fun x hx=>by
  unfold clauseB at hc
  rw[Bool.and_eq_true]at hc
  exact List.all_eq_true.1 hc.2 x hx
 unfold alwL at ha
 rw[hc,Bool.true_and]at ha
 have hrn: ∀x∈normL c,litB x=true:=fun x hx=>hr x (normL_mem hx)
 have hp:=alw_pair hrn (normL_pair hr) ha
 have hneg: ∀x∈asmL c,litB x=true∧ -x∈normL c:=fun x hx=>by
  unfold asmL at hx
  obtain⟨y,hy,rfl⟩:=List.mem_map.1 (sortL_mem.1 hx)
  have hb:=hrn y hy
  have h1:=(litB_iff y).1 hb
  unfold litN
  rw[if_pos hb]
  exact⟨(litB_iff _).2 (by omega),by rw[Int.neg_neg];exact hy⟩
 unfold asgF
 refine asgGo_some _ (fun x hx=>(hneg x hx).1) (fun x hx y hy e=>?_) (fun x hx=>by unfold ofF;simp)
 have h1:=(hneg x hx).2
 have h2:=(hneg y hy).2
 rw[e,Int.neg_neg]at h2
 have h0:=(litB_iff x).1 (hneg x hx).1
 by_cases hx0:0<x
 ·exact hp x h2 hx0 (-x) h1 rfl
 ·exact hp (-x) h1 (by omega) x h2 (by omega)
end Go.Proofs.YtcbjjdpngeabgaaGreatDoor
namespace Go.Proofs.YtcbjjdpngeabgaaGreatDoor
open Go.RowKit
theorem alwGo_two {c:List Int} (hc: ∀y∈c,litB y=true): ∀{r:List Int} {l:Int},(l=0∨l∈c)→(∀x∈r,x∈c)→alwGo l r=true→∃y∈c,-y∈c:=by
 intro r
 induction r with
 | nil=>intro l _ _ h;cases h
 | cons x r ih=>
  intro l hl hr h
  unfold alwGo at h
  have hx:=hr x List.mem_cons_self
  rw[Bool.or_eq_true]at h
  rcases h with h|h
  ·rw[Bool.and_eq_true]at h
   obtain⟨h1,h2⟩:=h
   rcases hl with rfl|hl
   ·cases h1
   ·have e:x=litN l:=by simpa using h2
    unfold litN at e
    rw[if_pos (hc l hl)]at e
    exact⟨l,hl,e▸hx⟩
  ·exact ih (.inr hx) (fun y hy=>hr y (List.mem_cons_of_mem _ hy)) h
theorem alwL_two {c:List Int} (h:alwL c=true): ∃y∈c,-y∈c:=by
 unfold alwL at h
 rw[Bool.and_eq_true]at h
 obtain⟨h1,h2⟩:=h
 unfold clauseB at h1
 rw[Bool.and_eq_true,List.all_eq_true]at h1
 exact alwGo_two h1.2 (.inl rfl) (fun x hx=>normL_mem hx) h2
theorem alwL_no {c:List Int} (h: ∀y∈c,-y∉c):alwL c=false:=by
 cases ha:alwL c with
 | false=>rfl
 | true=>
  obtain⟨y,hy,hn⟩:=alwL_two ha
  exact absurd hn (h y hy)
end Go.Proofs.YtcbjjdpngeabgaaGreatDoor
namespace Go.Proofs.YtcbjjdpngeabgaaGreatDoor
open Go.RowKit Go.Maps Go.Shelf
attribute [local go_sem] Oper.semAt_some
def movL (f:Int→Int) (kd:Nat):Nat→List (List Int)→List (Nat×Int)
 | _,[]=> []
 | i,c::r=>if(lookF f c).1=kd then(i,(lookF f c).2)::movL f kd (i+1) r else movL f kd (i+1) r
def mvv (x:Nat×Int):Array Value:= #[.int .i64 (x.1:Int),.int .i64 x.2]
theorem ClsIn.narrow {O:Nat→Prop} {w:World} {v:Value} {cs:List (List Int)} (h:ClsIn O w v cs):ClsIn (fun g=>O g∧¬XO w g) w v cs:=by
 obtain⟨A,c,hv,hc,hn,hx⟩:=h
 refine⟨A,c,hv,hc,hn,fun i xs hi=>?_⟩
 obtain⟨g,o,u,h1,h2,h3,h4,h5⟩:=hx i xs hi
 exact⟨g,o,u,h1,h2,⟨h3,xo_cell h4⟩,h4,h5.narrow⟩
end Go.Proofs.YtcbjjdpngeabgaaGreatDoor
namespace Go.Proofs.YtcbjjdpngeabgaaGreatDoor
open Go.RowKit Go.Sort
end Go.Proofs.YtcbjjdpngeabgaaGreatDoor
namespace Go.Proofs.YtcbjjdpngeabgaaGreatDoor
open Go.RowKit Go.Maps Go.Shelf
def needM (f:Int→Int) (xs:List Int):Int→Int:=xs.foldl (fun f l=>fun z=>if z=litN l then 1 else f z) f
def needGo (hs:List (List Int)) (us:List Int):Nat→(Int→Int)→List Int→List Int
 | 0,_,out=>out
 | k+1,f,out=>if k<us.length∧f (us.getD k 0)=0 then needGo hs us k f out else needGo hs us k (needM f (hs.getD k [])) (out++ [(k:Int)])
def needL (hs:List (List Int)) (us:List Int):List Int:=(needGo hs us hs.length (fun _=>0) []).reverse
end Go.Proofs.YtcbjjdpngeabgaaGreatDoor
namespace Go.Proofs.YtcbjjdpngeabgaaGreatDoor
open Go.RowKit
theorem litV_negate (l:Int):litV (-l)=litV l:=by
 have h:litB (-l)=litB l:=by
  unfold litB
  exact decide_eq_decide.2 (by omega)
 unfold litV
 rw[h,Int.natAbs_neg]
theorem litV_pos {l:Int} (h:litB l=true):1≤litV l∧(litV l:Int)=max l (-l):=by
 have:=(litB_iff l).1 h
 unfold litV
 rw[if_pos h]
 omega
theorem litB_minus (l:Int):litB (-l)=litB l:=by
 simp only[litB,decide_eq_decide]
 omega
theorem litV_zero {l:Int} (h:litB l=false):litV l=0:=by
 unfold litV
 rw[h]
 rfl
theorem litB_of_litV {l:Int} (h:0<litV l):litB l=true:=by
 cases hb:litB l with
 | true=>rfl
 | false=>rw[litV_zero hb]at h;omega
theorem litV_two {a b:Int} (ha:litB a=true) (h:litV a=litV b):b=a∨b= -a:=by
 have h1:=litV_pos ha
 have h2:=litV_pos (litB_of_litV (l:=b) (by omega))
 omega
theorem litN_eq {l:Int} (h:litB l=true):litN l= -l:=by unfold litN;rw[if_pos h]
end Go.Proofs.YtcbjjdpngeabgaaGreatDoor
namespace Go.Proofs.YtcbjjdpngeabgaaGreatDoor
open Go.RowKit
theorem litG_minus {x:Int} (hx:litB x=true):litG (-x)= !litG x:=by
 have h:=(litB_iff x).1 hx
 unfold litG
 rw[litB_minus,hx,Bool.true_and,Bool.true_and]
 by_cases h1:x<0
 ·rw[decide_eq_true h1,decide_eq_false (by omega)]
  rfl
 ·rw[decide_eq_false h1,decide_eq_true (by omega)]
  rfl
theorem k_put_self (f:Int→Int) (x:Int):ofF (putF f x) x=1:=by
 unfold ofF putF
 rw[if_pos rfl]
 cases litG x <;> rfl
theorem k_put_neg (f:Int→Int) {x:Int} (hx:litB x=true):ofF (putF f x) (-x)= -1:=by
 unfold ofF putF
 rw[litV_negate,if_pos rfl,litG_minus hx]
 cases litG x <;> rfl
theorem k_put_ne (f:Int→Int) {x y:Int} (h:litV y≠litV x):ofF (putF f x) y=ofF f y:=by
 unfold ofF putF
 simp only[if_neg (show¬(((litV y:Nat):Int)=((litV x:Nat):Int)) by omega)]
theorem k_asg (xs:List Int): ∀f:Int→Int,(∀x∈xs,litB x=true)→(xs.map litV).Nodup→(∀x∈xs,f ((litV x:Nat):Int)=0)→∃g,asgGo f xs=some g∧(∀y,(∀x∈xs,litV x≠litV y)→ofF g y=ofF f y)∧∀x∈xs,ofF g x=1∧ofF g (-x)= -1:=by
 induction xs with
 | nil=>exact fun f _ _ _=>⟨f,rfl,fun _ _=>rfl,fun x hx=>by cases hx⟩
 | cons x r ih=>
  intro f h1 h2 h3
  have hx:=h1 x List.mem_cons_self
  have h0:ofF f x=0:=by
   unfold ofF
   rw[h3 x List.mem_cons_self]
   split <;> rfl
  have hstep:asgGo f (x::r)=asgGo (putF f x) r:=by
   conv=>lhs;unfold asgGo
   rw[if_pos ⟨hx,by rw[h0];exact Int.le_refl 0⟩]
  rw[List.map_cons,List.nodup_cons]at h2
  have hne: ∀y∈r,litV y≠litV x:=fun y hy e=>h2.1 (e▸List.mem_map_of_mem hy)
  obtain⟨g,e,g1,g2⟩:=ih (putF f x) (fun y hy=>h1 y (List.mem_cons_of_mem _ hy)) h2.2 (fun y hy=>by
   have:=hne y hy
   unfold putF
   rw[if_neg (by omega)]
   exact h3 y (List.mem_cons_of_mem _ hy))
  refine⟨g,hstep.trans e,fun y hy=>?_,fun z hz=>?_⟩
  ·rw[g1 y (fun z hz=>hy z (List.mem_cons_of_mem _ hz)),k_put_ne f (fun e=>hy x List.mem_cons_self e.symm)]
  ·rcases List.mem_cons.1 hz with rfl|hz
   ·rw[g1 z hne,g1 (-z) (by rw[litV_negate];exact hne),k_put_self,k_put_neg f hx]
    exact⟨rfl,rfl⟩
   ·exact g2 z hz
section
variable {f:Int→Int}
theorem k_rest {c:List Int} {k:Nat} {u:Int} (h: ∀y∈c,ofF f y<0∨y=u∧¬0<ofF f y):lukGo f k u c=(k,if k=3 then u else 0):=by
 induction c with
 | nil=>rfl
 | cons l r ih=>
  have hl:=h l List.mem_cons_self
  unfold lukGo
  rw[if_neg (by rcases hl with h|h <;> omega),if_pos (hl.imp_right And.left)]
  exact ih (fun y hy=>h y (List.mem_cons_of_mem _ hy))
theorem k_fail {c:List Int} (h: ∀y∈c,ofF f y<0):lookF f c=(2,0):=k_rest (fun y hy=>.inl (h y hy))
theorem k_unit {c:List Int} {a:Int} (ha:a∈c) (hz:ofF f a=0) (h: ∀y∈c,y≠a→ofF f y<0) (hn: ∀y∈c,y≠0):lookF f c=(3,a):=by
 show lukGo f 2 0 c=_
 induction c with
 | nil=>cases ha
 | cons l r ih=>
  by_cases hl:l=a
  ·subst hl
   unfold lukGo
   rw[if_neg (by omega),if_neg (by
      rintro (h2|h2); · omega
      ·exact hn l List.mem_cons_self h2),if_pos rfl,k_rest (fun y hy=>?_)]
   ·rfl
   ·by_cases e:y=l
    ·exact .inr ⟨e,by rw[e];omega⟩
    ·exact .inl (h y (List.mem_cons_of_mem _ hy) e)
  ·have hl2:=h l List.mem_cons_self hl
   unfold lukGo
   rw[if_neg (by omega),if_pos (.inl hl2)]
   refine ih ?_ (fun y hy=>h y (List.mem_cons_of_mem _ hy)) (fun y hy=>hn y (List.mem_cons_of_mem _ hy))
   rcases List.mem_cons.1 ha with e|e
   ·exact absurd e.symm hl
   ·exact e
end
end Go.Proofs.YtcbjjdpngeabgaaGreatDoor
namespace Go.Proofs.YtcbjjdpngeabgaaGreatDoor
open Go.RowKit
def folGo (f:Int→Int):List (List Int)→List Int→Nat→List Int×Nat×Bool×Nat
 | [],us,i=>(us,i,false,0)
 | c::r,us,i=>if(lookF f c).1=2 then(us,i+1,true,0)else if(lookF f c).1=3 then folGo (putF f (lookF f c).2) r (us++ [(lookF f c).2]) (i+1)else([],i,false,81)
def chkP (c:List Int) (hs:List (List Int)):List Int×Nat×Nat:=
 if alwL c=true then([],0,0)else match asgF (asmL c)with
  | none=>([],0,82)
  | some f=>((folGo f hs [] 0).1,(folGo f hs [] 0).2.1,if(folGo f hs [] 0).2.2.2=0∧(folGo f hs [] 0).2.2.1=false then 82 else(folGo f hs [] 0).2.2.2)
def trimP (c:List Int) (hs:List (List Int)):List Int:=if(chkP c hs).2.2=0∧(chkP c hs).2.1≠0 then needL (hs.take (chkP c hs).2.1) (chkP c hs).1 else []
def Says (f:Int→Int) (P:Int→Prop):Prop:= ∀y,litB y=true→((0<ofF f y↔P y)∧(ofF f y<0↔P (-y)))
theorem asm_ok {L:List Int} (hL:clauseB L=true) (hno: ∀y∈L,-y∉L): ∃f,asgF (asmL L)=some f∧Says f (fun y=> -y∈L):=by
 have hr: ∀x∈L,litB x=true:=fun x hx=>by
  unfold clauseB at hL
  rw[Bool.and_eq_true]at hL
  exact List.all_eq_true.1 hL.2 x hx
 have hmem: ∀x,x∈asmL L↔ -x∈L:=fun x=>by
  unfold asmL
  rw[sortL_mem,List.mem_map]
  constructor
  ·rintro ⟨y,hy,rfl⟩
   have hy:=(normL_has hr).1 hy
   rw[litN_eq (hr y hy),Int.neg_neg]
   exact hy
  ·intro h
   exact⟨-x,(normL_has hr).2 h,by rw[litN_eq (hr _ h),Int.neg_neg]⟩
 have hb: ∀x∈asmL L,litB x=true:=fun x hx=>by
  have:=hr _ ((hmem x).1 hx)
  rwa [litB_minus]at this
 have hnd:((asmL L).map litV).Nodup:=by
  unfold asmL
  refine((sortL_perm _).map litV).nodup_iff.2 ?_
  unfold List.Nodup
  rw[List.pairwise_map,List.pairwise_map]
  refine(normL_nodup hr).imp_of_mem ?_
  intro a b ha hb hne e
  have ha:=(normL_has hr).1 ha
  have hb:=(normL_has hr).1 hb
  rw[litN_eq (hr a ha),litN_eq (hr b hb),litV_negate,litV_negate]at e
  rcases litV_two (hr a ha) e with h|h
  ·exact hne h.symm
  ·exact hno a ha (h▸hb)
 obtain⟨g,h1,h2,h3⟩:=k_asg (asmL L) (fun _=>0) hb hnd (fun _ _=>rfl)
 refine⟨g,h1,fun y hy=>?_⟩
 have hzero: ∀z,ofF (fun _=>0) z=0:=fun z=>by unfold ofF;split <;> rfl
 suffices key:(0<ofF g y↔ -y∈L)∧(ofF g y<0↔y∈L)from⟨key.1,key.2.trans (by show y∈L↔ - -y∈L;rw[Int.neg_neg])⟩
 by_cases hy1:y∈L
 ·have:=(h3 (-y) ((hmem _).2 (by rw[Int.neg_neg];exact hy1))).2
  rw[Int.neg_neg]at this
  rw[this]
  exact⟨⟨fun h=>by omega,fun h=>absurd h (hno y hy1)⟩,⟨fun _=>hy1,fun _=>by decide⟩⟩
 ·by_cases hy2: -y∈L
  ·have:=(h3 y ((hmem _).2 hy2)).1
   rw[this]
   exact⟨⟨fun _=>hy2,fun _=>by decide⟩,⟨fun h=>by omega,fun h=>absurd h hy1⟩⟩
  ·have hz:=h2 y fun x hx e=>by
    rcases litV_two (hb x hx) e with h|h
    ·exact hy2 ((hmem y).1 (h▸hx))
    ·have:=(hmem x).1 hx
     exact hy1 (by rw[h];exact this)
   rw[hz,hzero]
   exact⟨⟨fun h=>by omega,fun h=>absurd h hy2⟩,⟨fun h=>by omega,fun h=>absurd h hy1⟩⟩
end Go.Proofs.YtcbjjdpngeabgaaGreatDoor
namespace Go.Proofs.YtcbjjdpngeabgaaGreatDoor
open Go.RowKit Go.Maps Go.MapKept Go.ChangeMaps
open Go.WideElems (Fit rd rg pl rd_val elemAt)
section
variable {α β:Type}
def insA (x:Int×α):List (Int×α)→List (Int×α)
 | []=> [x]
 | y::r=>if x.1<y.1 then x::y::r else y::insA x r
def delA (m:List (Int×α)) (x:Int):List (Int×α):=m.filter fun p=>decide (p.1≠x)
def putA (m:List (Int×α)) (x:Int) (v:α):List (Int×α):=insA (x,v) (delA m x)
def getA (m:List (Int×α)) (x:Int):Option α:=(m.find? fun p=>decide (p.1=x)).map (·.2)
theorem insA_mem {x:Int×α} {m:List (Int×α)} {p:Int×α}:p∈insA x m↔p=x∨p∈m:=by
 induction m with
 | nil=>simp[insA]
 | cons y r ih=>
  unfold insA
  split
  ·simp
  ·simp only[List.mem_cons,ih]
   constructor
   ·rintro (h|h|h)
    ·exact .inr (.inl h)
    ·exact .inl h
    ·exact .inr (.inr h)
   ·rintro (h|h|h)
    ·exact .inr (.inl h)
    ·exact .inl h
    ·exact .inr (.inr h)
theorem delA_mem {m:List (Int×α)} {x:Int} {p:Int×α}:p∈delA m x↔p∈m∧p.1≠x:=by
 unfold delA
 rw[List.mem_filter,decide_eq_true_eq]
def Rising (m:List (Int×α)):Prop:=m.Pairwise fun p q=>p.1<q.1
theorem Rising.del {m:List (Int×α)} (h:Rising m) (x:Int):Rising (delA m x):=List.Pairwise.filter _ h
theorem Rising.ins {m:List (Int×α)} (h:Rising m) {x:Int×α} (hx: ∀p∈m,p.1≠x.1):Rising (insA x m):=by
 induction m with
 | nil=>exact List.pairwise_singleton _ _
 | cons y r ih=>
  obtain⟨h1,h2⟩:=List.pairwise_cons.1 h
  unfold insA
  split
  ·rename_i hlt
   refine List.pairwise_cons.2 ⟨fun p hp=>?_,h⟩
   rcases List.mem_cons.1 hp with rfl|hp
   ·exact hlt
   ·exact Int.lt_trans hlt (h1 p hp)
  ·rename_i hge
   refine List.pairwise_cons.2 ⟨fun p hp=>?_,ih h2 (fun p hp=>hx p (List.mem_cons_of_mem _ hp))⟩
   rcases insA_mem.1 hp with rfl|hp
   ·have:=hx y List.mem_cons_self
    omega
   ·exact h1 p hp
theorem Rising.put {m:List (Int×α)} (h:Rising m) (x:Int) (v:α):Rising (putA m x v):=(h.del x).ins (fun _ hp=>(delA_mem.1 hp).2)
theorem Rising.eq_of {m:List (Int×α)} (h:Rising m) {p q:Int×α} (hp:p∈m) (hq:q∈m) (he:p.1=q.1):p=q:=by
 induction m with
 | nil=>cases hp
 | cons y r ih=>
  obtain⟨h1,h2⟩:=List.pairwise_cons.1 h
  rcases List.mem_cons.1 hp with rfl|hp'
  ·rcases List.mem_cons.1 hq with rfl|hq'
   ·rfl
   ·have:=h1 q hq'
    omega
  ·rcases List.mem_cons.1 hq with rfl|hq'
   ·have:=h1 p hp'
    omega
   ·exact ih h2 hp' hq'
theorem getA_some {m:List (Int×α)} {x:Int} {v:α} (h:getA m x=some v):(x,v)∈m:=by
 unfold getA at h
 cases hf:m.find? (fun p=>decide (p.1=x))with
 | none=>rw[hf]at h;cases h
 | some p=>
  rw[hf]at h
  obtain rfl:=Option.some.inj h
  have h1:=List.find?_some hf
  rw[decide_eq_true_eq]at h1
  have h2:=List.mem_of_find?_eq_some hf
  rw[←h1]
  exact h2
theorem getA_of {m:List (Int×α)} (hr:Rising m) {x:Int} {v:α} (h:(x,v)∈m):getA m x=some v:=by
 unfold getA
 cases hf:m.find? (fun p=>decide (p.1=x))with
 | none=>
  have:=List.find?_eq_none.1 hf _ h
  simp at this
 | some p=>
  have h1:=List.find?_some hf
  rw[decide_eq_true_eq]at h1
  have:=hr.eq_of (List.mem_of_find?_eq_some hf) h h1
  rw[this]
  rfl
theorem getA_none {m:List (Int×α)} {x:Int}:getA m x=none↔∀v,(x,v)∉m:=by
 constructor
 ·intro h v hv
  unfold getA at h
  rw[Option.map_eq_none_iff,List.find?_eq_none]at h
  have:=h _ hv
  simp at this
 ·intro h
  cases hg:getA m x with
  | none=>rfl
  | some v=>exact absurd (getA_some hg) (h v)
theorem insA_length (x:Int×α) (m:List (Int×α)):(insA x m).length=m.length+1:=by
 induction m with
 | nil=>rfl
 | cons y r ih=>
  unfold insA
  split
  ·rfl
  ·simp[ih]
theorem putA_length_le (m:List (Int×α)) (x:Int) (v:α):(putA m x v).length≤m.length+1:=by
 unfold putA
 rw[insA_length]
 exact Nat.succ_le_succ (List.length_filter_le _ _)
def mapV (f:α→β) (m:List (Int×α)):List (Int×β):=m.map fun p=>(p.1,f p.2)
theorem mapV_ins (f:α→β) (x:Int×α) (m:List (Int×α)):mapV f (insA x m)=insA (x.1,f x.2) (mapV f m):=by
 induction m with
 | nil=>rfl
 | cons y r ih=>
  unfold mapV at ih⊢
  simp only[insA,List.map_cons]
  split
  ·rfl
  ·rw[List.map_cons,ih]
theorem mapV_del (f:α→β) (m:List (Int×α)) (x:Int):mapV f (delA m x)=delA (mapV f m) x:=by
 unfold mapV delA
 rw[List.filter_map]
 rfl
theorem mapV_put (f:α→β) (m:List (Int×α)) (x:Int) (v:α):mapV f (putA m x v)=putA (mapV f m) x (f v):=by
 unfold putA
 rw[mapV_ins,mapV_del]
theorem mapV_get (f:α→β) (m:List (Int×α)) (x:Int):getA (mapV f m) x=(getA m x).map f:=by
 unfold getA mapV
 rw[List.find?_map]
 have:((fun p:Int×β=>decide (p.1=x)) ∘ fun p:Int×α=>(p.1,f p.2))=fun p:Int×α=>decide (p.1=x):=rfl
 rw[this]
 cases m.find? (fun p=>decide (p.1=x)) <;> rfl
theorem mapV_length (f:α→β) (m:List (Int×α)):(mapV f m).length=m.length:=List.length_map _
theorem mapV_rising_of {f:α→β} {m:List (Int×α)} (h:Rising (mapV f m)):Rising m:=by
 unfold Rising mapV at h
 rw[List.pairwise_map]at h
 exact h
theorem Rising.length_le {m:List (Int×α)} (h:Rising m) {lo hi:Int} (hr: ∀p∈m,lo≤p.1∧p.1≤hi) (hlo:lo≤hi+1):(m.length:Int)≤hi-lo+1:=by
 induction m generalizing lo with
 | nil=>simp;omega
 | cons y r ih=>
  obtain⟨h1,h2⟩:=List.pairwise_cons.1 h
  have hy:=hr y List.mem_cons_self
  have:=ih (lo:=y.1+1) h2 (fun p hp=>⟨by have:=h1 p hp;omega,(hr p (List.mem_cons_of_mem _ hp)).2⟩) (by omega)
  simp only[List.length_cons]
  omega
end
def mapR (v:Value):Option (DataW Value×List MemPlace):=some (.held v,[])
def encE (m:List (Int×Value)):List (Lit×DataW Value):=m.map fun p=>(.int .i64 p.1,.held p.2)
theorem encE_ins (x:Int×Value) (m:List (Int×Value)):DataW.insert (.int .i64 x.1,.held x.2) (encE m)=encE (insA x m):=by
 induction m with
 | nil=>rfl
 | cons y r ih=>
  have hb:(Lit.int .i64 x.1).before (.int .i64 y.1)=decide (x.1<y.1):=rfl
  show(if(Lit.int .i64 x.1).before (.int .i64 y.1)=true then _ else _)=_
  by_cases h:x.1<y.1
  ·rw[if_pos (by rw[hb];exact decide_eq_true h)]
   unfold insA
   rw[if_pos h]
   rfl
  ·rw[if_neg (by rw[hb];simpa using h)]
   unfold insA
   rw[if_neg h]
   show _::DataW.insert _ (encE r)=_
   rw[ih]
   rfl
theorem encE_del (m:List (Int×Value)) (x:Int):(encE m).filter (fun p=> !p.1.sameKey (.int .i64 x))=encE (delA m x):=by
 unfold encE delA
 rw[List.filter_map]
 congr 1
 refine List.filter_congr (fun p _=>?_)
 simp[Lit.sameKey]
section
variable {P:Program} {kt t et:TypeId} {w:World} {b:Nat} {m:List (Int×Value)}
def MapS (P:Program) (kt:TypeId) (w:World) (b:Nat) (m:List (Int×Value)):Prop:=
 w.ownsMap P kt mapR b m.length (.map (encE m))∧Rising m∧∀p∈m,(Lit.int .i64 p.1).wf=true
theorem MapS.lt (h:MapS P kt w b m):b<w.heap.size:=h.1.lt
theorem MapS.kept {O:Nat→Prop} {w':World} (h:MapS P kt w b m) (k:Kept O w w') (hO: ¬O b):MapS P kt w' b m:=by
 obtain⟨⟨es,cl,hb,rest⟩,h2⟩:=h
 exact⟨⟨es,cl,(k.block b (heap_lt hb) hO).trans hb,rest⟩,h2⟩
theorem MapS.below {w':World} (h:MapS P kt w b m) (k:Below w.heap.size w w'):MapS P kt w' b m:=h.kept (O:=fun _=>False) (Kept.of_below k) (fun h=>h)
theorem MapS.made (w:World):MapS P kt (w.alloc (.map #[] 0)) w.heap.size []:=
 ⟨World.ownsMap_made _ _ _ _,List.Pairwise.nil,fun p hp=>by cases hp⟩
theorem ownsMap_exact {R:Value→Option (DataW Value×List MemPlace)} {n:Nat} {E:List (Lit×DataW Value)} (h:w.ownsMap P kt R b n (.map E)):w.ownsMap P kt R b E.length (.map E):=by
 obtain⟨es,cl,hb,F,_,hD⟩:=h
 refine⟨es,cl,hb,F,?_,hD⟩
 cases hD
 rw[length_sorted]
 simp
theorem encE_length (m:List (Int×Value)):(encE m).length=m.length:=List.length_map _
theorem atKey_encE (m:List (Int×Value)) (x:Int) (z:DataW Value):(DataW.map (encE m)).atKey (.int .i64 x) z=match getA m x with
  | some v=>.held v
  | none=>z:=by
 have e:(encE m).find? (fun p=>p.1.sameKey (.int .i64 x))=(m.find? (fun p=>decide (p.1=x))).map fun p=>(.int .i64 p.1,.held p.2):=by
  unfold encE
  rw[List.find?_map]
  have:((fun p:Lit×DataW Value=>p.1.sameKey (.int .i64 x)) ∘ fun p:Int×Value=>(Lit.int .i64 p.1,DataW.held p.2))=fun p:Int×Value=>decide (p.1=x):=by
   funext p
   simp[Lit.sameKey]
  rw[this]
 unfold DataW.atKey getA
 simp only[e]
 cases m.find? (fun p=>decide (p.1=x)) <;> rfl
theorem MapS.look (h:MapS P kt w b m) (K:Keyed P kt) (hk:P.underlying kt=some (.int .i64)) (ht:P.underlying t=some (.map kt et)) {z:Value} (hz:(zeroValue et).run P w= .ok z w) (c:Bool) {x:Int} (hx:(Lit.int .i64 x).wf=true):
  (Instr.lookup t (.map (some b)) (.int .i64 x) c).run P w= .ok (if c then .tuple #[(getA m x).getD z,.bool (getA m x).isSome]else(getA m x).getD z) w:=by
 obtain⟨⟨es,cl,hb,F,_,hD⟩,_⟩:=h
 have hat0:=atKey_encE m x
 rw[hD]at hat0
 rcases Maps.fit_look c K ht hz hb F (keyOf_int_mk hk hx)with⟨hrun,_,hat⟩|⟨e0,y,_,_,hrun,hRv,hat,_⟩
 ·have h1:=hat0 .nil
  rw[hat]at h1
  cases hg:getA m x with
  | none=>rw[hrun];rfl
  | some v=>rw[hg]at h1;cases h1
 ·have h1:=hat0 .nil
  rw[hat]at h1
  have hy:y.1= .held e0.val:=by
   cases hRv
   rfl
  rw[hy]at h1
  cases hg:getA m x with
  | none=>rw[hg]at h1;cases h1
  | some v=>
   rw[hg]at h1
   cases h1
   rw[hrun]
   rfl
theorem MapS.of_put {w':World} {n:Nat} (hr:Rising m) (hw: ∀p∈m,(Lit.int .i64 p.1).wf=true) {x:Int} (hx:(Lit.int .i64 x).wf=true) {v:Value} (h:w'.ownsMap P kt mapR b n ((DataW.map (encE m)).put (.int .i64 x) (.held v))):MapS P kt w' b (putA m x v):=by
 have e:(DataW.map (encE m)).put (.int .i64 x) (.held v)= .map (encE (putA m x v)):=by
  show DataW.map (DataW.insert _ ((encE m).filter _))=_
  rw[encE_del,encE_ins (x,v)]
  rfl
 rw[e]at h
 have h2:=ownsMap_exact h
 rw[encE_length]at h2
 refine⟨h2,hr.put _ _,fun p hp=>?_⟩
 rcases insA_mem.1 hp with rfl|hp
 ·exact hx
 ·exact hw p (delA_mem.1 hp).1
theorem MapS.of_del {w':World} {n:Nat} (hr:Rising m) (hw: ∀p∈m,(Lit.int .i64 p.1).wf=true) {x:Int} (h:w'.ownsMap P kt mapR b n ((DataW.map (encE m)).del (.int .i64 x))):MapS P kt w' b (delA m x):=by
 have e:(DataW.map (encE m)).del (.int .i64 x)= .map (encE (delA m x)):=by
  show DataW.map ((encE m).filter _)=_
  rw[encE_del]
 rw[e]at h
 have h2:=ownsMap_exact h
 rw[encE_length]at h2
 exact⟨h2,hr.del _,fun p hp=>hw p (delA_mem.1 hp).1⟩
theorem MapS.update (h:MapS P kt w b m) (K:Keyed P kt) (hk:P.underlying kt=some (.int .i64)) (ht:P.underlying t=some (.map kt et)) (hn:m.length<maxLen) {x:Int} (hx:(Lit.int .i64 x).wf=true) (v:Value):
  ∃w',(Instr.mapUpdate t (.map (some b)) (.int .i64 x) v).run P w= .ok () w'∧MapS P kt w' b (putA m x v)∧w.grownBy w' (some b):=by
 obtain⟨w',h1,h2,h3⟩:=h.1.update K ht hn (keyOf_int_mk hk hx) (show mapR v=some (.held v,[])from rfl)
 exact⟨w',h1,MapS.of_put h.2.1 h.2.2 hx h2,h3⟩
theorem wpList_delS {ops:Array Oper} {rest:List Oper} {o:Oper} {a:Act} {Q:Exit→Act→World→Prop} (h:MapS P kt w b m) (K:Keyed P kt) (hk:P.underlying kt=some (.int .i64)) (ht:P.underlying t=some (.map kt et))
  (hg:o.guard=none) (mm x:Operand) (hop:o.op=Op.call { callee:=Callee.builtin Builtin.delete,args:= #[mm,x],argTypes:= #[t,kt] }) (hm:a.eval mm= .map (some b)) (i:Int) (hx:a.eval x= .int .i64 i) (hi:(Lit.int .i64 i).wf=true)
  (hK: ∀w',MapS P kt w' b (delA m i)→w.grownBy w' (some b)→wpList P ops Q rest (a.put o.dst (.tuple #[])) w'):wpList P ops Q (o::rest) a w:=
 wpList_delete_own w hg mm x t _ hop et K ht _ b m.length _ hm h.1 _ _ hx (keyOf_int_mk hk hi) (fun w' h1 h2=>hK w' (MapS.of_del h.2.1 h.2.2 h1) h2.grown)
end
end Go.Proofs.YtcbjjdpngeabgaaGreatDoor
