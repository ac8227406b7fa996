/- Literals: Var, Neg. IndexFunc, ContainsFunc at literals, with any function that tells a property. A region that draws its order and ends in one operation that waits for all others: that one may be met behind them. Made (package salvorlaw08): a clause of small numbers. Clauses in memory. salvorlaw08.All: clauses that Made makes. append of a row, whatever its length, nil too. -/
import Derived.Test.YtajbmjpodeilpaaGreatDoorV200
import Derived.Deep.RegionHeld3
import Derived.Laws.AppendOwnNone
namespace Go.Proofs.YtajbmjpodeilpaaGreatDoor
open Go.RowKit
def litV (l:Int):Nat:=if litB l=true then l.natAbs else 0
set_option maxHeartbeats 1000000 in
theorem lit_var (l:Int) (w:World):Calls Tryz.prog 129 #[.int .i64 l] w fun e w'=>e= .returned (.int .i64 (litV l:Nat))∧w=w':=by
 have HR:=Lib.hid (right_lit l w)
 rcases hb:litB l with _|_
 ·rw[hb]at HR
  have hv:litV l=0:=by unfold litV;rw[if_neg (by rw[hb];decide)]
  rw[hv]
  clear hb hv
  go_enter Tryz.func129,Tryz.ntmps129
  go_wp2_with fail
  refine HR.out.mono ?_
  rintro e w' ⟨rfl,rfl⟩
  go_wp2_with fail
  go_ret
  exact⟨rfl,rfl⟩
 ·rw[hb]at HR
  have hr:=(litB_iff l).1 hb
  have hv:(litV l:Int)=max l (-l):=by unfold litV;rw[if_pos hb];omega
  have HV:=Lib.hid hv
  obtain⟨h0,h1,h2⟩:=hr
  clear hb hv
  have hw:IntKind.i64.wrap (-l)= -l:=IntWalk.i64_in _ (by omega)
  go_enter Tryz.func129,Tryz.ntmps129
  go_wp2_with fail
  refine HR.out.mono ?_
  rintro e w' ⟨rfl,rfl⟩
  go_wp2_with fail
  all_goals (go_ret;first|exact⟨ret_int (a:=max l (-l)) HV.out.symm,rfl⟩|exact⟨ret_int (a:= -l) (by have:=HV.out;omega),rfl⟩|exact⟨ret_int (a:=l) (by have:=HV.out;omega),rfl⟩)
def litN (l:Int):Int:=if litB l=true then -l else 0
theorem lit_neg (l:Int) (w:World):Calls Tryz.prog 140 #[.int .i64 l] w fun e w'=>e= .returned (.int .i64 (litN l))∧w=w':=by
 have HR:=right_lit l w
 cases hb:litB l
 ·
  rw[hb]at HR
  have HR:=Lib.hid HR
  have hv:litN l=0:=by unfold litN;rw[if_neg (by rw[hb];decide)]
  rw[hv]
  clear hb hv
  go_enter Tryz.func140,Tryz.ntmps140
  go_wp2_with fail
  refine HR.out.mono ?_
  rintro e w' ⟨rfl,rfl⟩
  go_wp2_with fail
  go_ret
  exact⟨rfl,rfl⟩
 ·
  rw[hb]at HR
  have HR:=Lib.hid HR
  have hr:=(litB_iff l).1 hb
  have hv:litN l= -l:=by unfold litN;rw[if_pos hb]
  rw[hv]
  obtain⟨h0,h1,h2⟩:=hr
  clear hb hv
  have hw:IntKind.i64.wrap (-l)= -l:=IntWalk.i64_in _ (by omega)
  go_enter Tryz.func140,Tryz.ntmps140
  go_wp2_with fail
  refine HR.out.mono ?_
  rintro e w' ⟨rfl,rfl⟩
  go_wp2_with fail
  go_ret
  exact⟨rfl,rfl⟩
end Go.Proofs.YtajbmjpodeilpaaGreatDoor
namespace Go.Proofs.YtajbmjpodeilpaaGreatDoor
open Go.RowKit
def FstI {α:Type} (xs:List α) (P:α→Bool) (i:Int):Prop:=(i= -1∧∀x∈xs,P x=false)∨∃k:Nat,i=k∧k<xs.length∧(∀j x,j<k→xs[j]? =some x→P x=false)∧∃x,xs[k]? =some x∧P x=true
theorem FstI.any {α:Type} {xs:List α} {P:α→Bool} {i:Int} (h:FstI xs P i):decide (0≤i)=xs.any P:=by
 rcases h with⟨rfl,h⟩|⟨k,rfl,_,_,x,hx,hp⟩
 ·have:xs.any P=false:=List.any_eq_false.2 (fun x hx=>by rw[h x hx];decide)
  rw[this]
  rfl
 ·have:xs.any P=true:=List.any_eq_true.2 ⟨x,List.mem_of_getElem? hx,hp⟩
  rw[this]
  exact decide_eq_true (by omega)
theorem FstI.step {α:Type} {xs:List α} {P:α→Bool} {k:Nat} {x:α} (h: ∀j x,j<k→xs[j]? =some x→P x=false) (hk:xs[k]? =some x) (hx:P x=false): ∀j x,j<k+1→xs[j]? =some x→P x=false:=fun j y hj hy=>by
 rcases Nat.lt_or_ge j k with hl|hl
 ·exact h j y hl hy
 ·obtain rfl:j=k:=by omega
  rw[hk]at hy
  obtain rfl:=Option.some.inj hy
  exact hx
theorem FstI.none {α:Type} {xs:List α} {P:α→Bool} (h: ∀j x,j<xs.length→xs[j]? =some x→P x=false):FstI xs P (-1):=.inl ⟨rfl,fun x hx=>by
 obtain⟨j,hj⟩:=List.getElem?_of_mem hx
 exact h j x (List.getElem?_eq_some_iff.1 hj).1 hj⟩
def TellsI (w:World) (F:Nat) (v:Value) (xs:List Int) (P:Int→Bool):Prop:= ∀W,Below w.heap.size w W→∀x∈xs,Calls Tryz.prog F #[.int .i64 x,v] W fun e w'=>e= .returned (.bool (P x))∧Below W.heap.size W w'
set_option maxRecDepth 100000 in
set_option maxHeartbeats 1000000 in
theorem index_cf {Oc:Nat→Prop} (F:Nat) (v u:Value) (xs:List Int) (P:Int→Bool) (w:World) (heg: ∀args w,(callFunc F args).run Tryz.prog w= .ok (.enter F args) w) (h1:IntsIn Oc w u xs) (hs:xs.length≤140737488355328) (hF:TellsI w F v xs P):
  Calls Tryz.prog 126 #[u,.func (.func F) #[] #[v]] w fun e w'=>(∃i:Int,e= .returned (.int .i64 i)∧FstI xs P i)∧Below w.heap.size w w':=by
 have HONE:=Lib.hid hF
 have HX:=Lib.hid h1
 obtain⟨A,c,rfl,hc,_,_⟩:=h1
 clear hF
 go_enter Tryz.func126,Tryz.ntmps126
 go_wp2
 go_loopw [8] (fun i wr=> ∃k:Nat,k≤xs.length∧i= .int .i64 k∧Hid (∀j x,j<k→xs[j]? =some x→P x=false)∧Hid (Below w.heap.size w wr)) (fun i _=>xs.length-(intOf i).toNat)
 case atStart=>exact⟨0,Nat.zero_le _,rfl,Lib.hid (fun j x hj=>by omega),Lib.hid (Below.refl _ _)⟩
 case round=>
  obtain⟨k,hk,rfl,HE,HW⟩:=hrel
  by_cases hlt:k<xs.length
  ·obtain⟨x,hxk⟩:=getElem_of hlt
   obtain⟨A',c',hAc,_,_,hxs⟩:=HX.out.below HW.out
   simp only[Value.slice.injEq,true_and]at hAc
   obtain⟨rfl,rfl⟩:=hAc
   obtain⟨g,o,rfl,hg,_,d1⟩:=hxs k x hxk
   have HXK:=Lib.hid hxk
   have hC:=HONE.out wr HW.out x (List.mem_of_getElem? hxk)
   obtain⟨b,hb⟩: ∃b,P x=b:=⟨_,rfl⟩
   rw[hb]at hC
   have HB:=Lib.hid hb
   have HC:=Lib.hid hC
   clear hxk hxs hb hC
   go_wp2_with fail
   refine HC.out.mono ?_
   rintro e w' ⟨rfl,hbw⟩
   have HB2:=Lib.hid (HW.out.trans (hbw.mono HW.out.size))
   clear hbw d1
   cases b with
   | true=>
    go_wp2_with fail
    go_ret
    exact⟨⟨_,rfl,.inr ⟨k,rfl,hlt,HE.out,x,HXK.out,HB.out⟩⟩,HB2.out⟩
   | false=>
    go_wp2_with fail
    go_roundw
    case rel=>exact⟨k+1,by omega,by go_num,Lib.hid (FstI.step HE.out HXK.out HB.out),HB2⟩
    case measure=>simp[intOf];omega
  ·obtain rfl:k=xs.length:=by omega
   go_wp2
   go_ret
   exact⟨⟨_,rfl,FstI.none HE.out⟩,HW.out⟩
set_option maxHeartbeats 400000 in
theorem contains_cf {Oc:Nat→Prop} (F:Nat) (v u:Value) (xs:List Int) (P:Int→Bool) (w:World) (heg: ∀args w,(callFunc F args).run Tryz.prog w= .ok (.enter F args) w) (h1:IntsIn Oc w u xs) (hs:xs.length≤140737488355328) (hF:TellsI w F v xs P):
  Calls Tryz.prog 87 #[u,.func (.func F) #[] #[v]] w fun e w'=>e= .returned (.bool (xs.any P))∧Below w.heap.size w w':=by
 have H0:=index_cf F v u xs P w heg h1 hs hF
 obtain⟨z,hz⟩: ∃z,xs.any P=z:=⟨_,rfl⟩
 rw[hz]
 have HZ:=Lib.hid hz
 have H:=Lib.hid H0
 clear H0 hz hF
 go_enter Tryz.func87,Tryz.ntmps87
 go_wp2_with fail
 refine H.out.mono ?_
 rintro e w' ⟨⟨i,rfl,hi⟩,hb⟩
 have HI:=Lib.hid (show decide (0≤i)=z from by rw[hi.any];exact HZ.out)
 have HB:=Lib.hid hb
 clear hi hb
 go_wp2_with fail
 go_ret
 exact⟨ret_bool HI.out,HB.out⟩
end Go.Proofs.YtajbmjpodeilpaaGreatDoor
namespace Go.Proofs.YtajbmjpodeilpaaGreatDoor
open Go.RowKit
section
variable {P:Program}
def sinkOk (md:Region.Mode) (ops0:Array Oper) (o:Oper):Bool:=
 ((List.range ops0.size).all fun i=>match ops0[i]? with
  | some x=>(x.after.all fun e=> !Region.binds md e||decide (e.on<i))&&(match x.guard with|some (g,_)=>decide (g<ops0.size)|none=>true)
  | none=>true) &&
 ((List.range ops0.size).all fun i=>o.after.any fun e=>Region.binds md e&&(decide (e.on=i)||match ops0[e.on]? with
  | some x=>x.after.any fun e'=>Region.binds md e'&&(decide (e'.on=i)||match ops0[e'.on]? with
   | some y=>y.after.any fun e''=>Region.binds md e''&&decide (e''.on=i)
   | none=>false)
  | none=>false)) &&
 (o.after.all fun e=> !Region.binds md e||decide (e.on<ops0.size))
def lastPost (P:Program) (ops0:Array Oper) (o:Oper) (Q:Exit→Act→World→Prop):Exit→Act→World→Prop
 | .normal,a,w=>wpOp P (ops0.push o) Q ops0.size (Q .normal) a w
 | e,a,w=>Q e a w
structure Sink (md:Region.Mode) (ops0:Array Oper) (o:Oper):Prop where
 before: ∀(i:Nat) (x:Oper),ops0[i]? =some x→∀e∈x.after,Region.binds md e=true→e.on<i
 guard: ∀(i:Nat) (x:Oper),ops0[i]? =some x→∀g b,x.guard=some (g,b)→g<ops0.size
 waits: ∀i,i<ops0.size→∃e∈o.after,Region.binds md e=true∧(e.on=i∨∃x,ops0[e.on]? =some x∧∃e'∈x.after,Region.binds md e'=true∧(e'.on=i∨∃y,ops0[e'.on]? =some y∧∃e''∈y.after,Region.binds md e''=true∧e''.on=i))
 low: ∀e∈o.after,Region.binds md e=true→e.on<ops0.size
theorem sink_of {md:Region.Mode} {ops0:Array Oper} {o:Oper} (h:sinkOk md ops0 o=true):Sink md ops0 o:=by
 simp only[sinkOk,Bool.and_eq_true,List.all_eq_true,List.mem_range]at h
 obtain⟨⟨h1,h2⟩,h3⟩:=h
 refine⟨fun i x hx e he hb=>?_,fun i x hx g b hg=>?_,fun i hi=>?_,fun e he hb=>?_⟩
 ·have:=h1 i (Array.getElem?_eq_some_iff.1 hx).1
  rw[hx]at this
  simp only[Bool.and_eq_true]at this
  have h4:=Array.all_eq_true'.1 this.1 e he
  rw[hb]at h4
  simpa using h4
 ·have:=h1 i (Array.getElem?_eq_some_iff.1 hx).1
  rw[hx]at this
  simp only[Bool.and_eq_true,hg]at this
  simpa using this.2
 ·have:=h2 i hi
  obtain⟨e,he,h4⟩:=Array.any_eq_true'.1 this
  simp only[Bool.and_eq_true,Bool.or_eq_true,decide_eq_true_eq]at h4
  refine⟨e,he,h4.1,?_⟩
  rcases h4.2 with h5|h5
  ·exact .inl h5
  ·cases hx:ops0[e.on]? with
   | none=>rw[hx]at h5;cases h5
   | some x=>
    rw[hx]at h5
    obtain⟨e',he',h6⟩:=Array.any_eq_true'.1 h5
    simp only[Bool.and_eq_true,Bool.or_eq_true,decide_eq_true_eq]at h6
    refine .inr ⟨x,rfl,e',he',h6.1,?_⟩
    rcases h6.2 with h7|h7
    ·exact .inl h7
    ·cases hy:ops0[e'.on]? with
     | none=>rw[hy]at h7;cases h7
     | some y=>
      rw[hy]at h7
      obtain⟨e2,he2,h8⟩:=Array.any_eq_true'.1 h7
      simp only[Bool.and_eq_true,decide_eq_true_eq]at h8
      exact .inr ⟨y,rfl,e2,he2,h8.1,h8.2⟩
 ·have:=Array.all_eq_true'.1 h3 e he
  rw[hb]at this
  simpa using this
theorem wpOp_last {ops0:Array Oper} {o:Oper} {md:Region.Mode} (hk:Sink md ops0 o) {Q:Exit→Act→World→Prop} {K K':Act→World→Prop} (hK: ∀a w,K a w→K' a w) (i:Nat) (hi:i<ops0.size) (a:Act) (w:World)
  (h:wpOp P ops0 (lastPost P ops0 o Q) i K a w):wpOp P (ops0.push o) Q i K' a w:=by
 unfold wpOp at *
 have e:(ops0.push o)[i]? =ops0[i]? :=by rw[Array.getElem?_push_lt hi,Array.getElem?_eq_getElem hi]
 rw[e]
 have hx:ops0[i]? =some ops0[i]:=Array.getElem?_eq_getElem hi
 rw[hx]at h⊢
 simp only at h⊢
 have hw:Region.wanted ops0[i] (yielded (ops0.push o) a.tmps)=Region.wanted ops0[i] (yielded ops0 a.tmps):=by
  unfold Region.wanted
  split
  ·rfl
  ·rename_i j b hg
   have hj:=hk.guard i _ hx j b hg
   unfold yielded
   rw[Array.getElem?_push_lt hj,Array.getElem?_eq_getElem hj]
 rw[hw]
 have hlets:LetsOut (lastPost P ops0 o Q)→LetsOut Q:=fun⟨a',w',h'⟩=>⟨a',w',h'⟩
 split
 ·rename_i hw2
  rw[if_pos hw2]at h
  rcases h with h|⟨h1,h2⟩
  ·refine .inl ?_
   unfold Oper.wp at *
   generalize (execOp a.eval ops0[i]).run P w=r at *
   cases r with
   | ok n w'=>
    cases n <;> simp only[Oper.upon]at h⊢
    case value u=>exact hK _ _ h
    case skip=>exact hK _ _ h
    case defer d=>exact hK _ _ h
    case enter f args=>
     refine Calls.mono h fun e w'' he=>?_
     cases e with
     | returned u=>exact hK _ _ he
     | panicked c=>exact he
     | outgrown=>exact hlets he
    case row row args=>exact Rows.mono h fun u w'' he=>hK _ _ he
   | halt x w'=>
    cases x <;> simp only[Oper.upon]at h⊢
    case panic u=>exact h
  ·exact .inr ⟨h1,hlets h2⟩
 ·rename_i hw2
  rw[if_neg hw2]at h
  exact hK _ _ h
theorem getD_push_lt {l:Array Bool} {i:Nat} {d:Bool} (h:i<l.size):(l.push d).getD i true=l.getD i true:=by
 simp only[Array.getD_eq_getD_getElem?]
 rw[Array.getElem?_push_lt h,Array.getElem?_eq_getElem h]
theorem getD_push_lt' {l:Array Bool} {i:Nat} {d:Bool} (h:i<l.size):(l.push d).getD i false=l.getD i false:=by
 simp only[Array.getD_eq_getD_getElem?]
 rw[Array.getElem?_push_lt h,Array.getElem?_eq_getElem h]
theorem least_open (l:Array Bool) (h: ∃i,i<l.size∧l.getD i true=false): ∃i,i<l.size∧l.getD i true=false∧∀j,j<i→l.getD j false=true:=by
 obtain⟨i,h1,h2⟩:=h
 induction i using Nat.strongRecOn with
 | _ i ih=>
  by_cases hall: ∀j,j<i→l.getD j false=true
  ·exact⟨i,h1,h2,hall⟩
  ·simp only[Classical.not_forall]at hall
   obtain⟨j,hj,hn⟩:=hall
   refine ih j hj (by omega) ?_
   have hjl:j<l.size:=by omega
   simp only[Array.getD_eq_getD_getElem?,Array.getElem?_eq_getElem hjl,Option.getD_some]at hn⊢
   simpa using hn
def Closed (md:Region.Mode) (ops0:Array Oper) (l:Array Bool):Prop:= ∀j x,ops0[j]? =some x→l.getD j false=true→∀e∈x.after,Region.binds md e=true→l.getD e.on false=true
theorem Closed.set {md:Region.Mode} {ops0:Array Oper} {l:Array Bool} (h:Closed md ops0 l) {i:Nat} (hi:i∈Region.ready md ops0 l):Closed md ops0 (l.setIfInBounds i true):=by
 intro j x hx hj e he hb
 by_cases hji:i=j
 ·subst hji
  obtain⟨_,y,hy,h2⟩:=mem_ready.1 hi
  obtain rfl:=Option.some.inj (hx.symm.trans hy)
  exact getD_set_true (h2 e he hb)
 ·rw[getD_set_ne _ hji]at hj
  exact getD_set_true (h j x hx hj e he hb)
theorem wpAny_sink {ops0:Array Oper} {o:Oper} {md:Region.Mode} (hk:Sink md ops0 o) {Q:Exit→Act→World→Prop}: ∀(fuel:Nat) (l:Array Bool) (a:Act) (w:World),l.size=ops0.size→Closed md ops0 l→
  wpAny P md ops0 (lastPost P ops0 o Q) fuel l a w→wpAny P md (ops0.push o) Q (fuel+1) (l.push false) a w:=by
 intro fuel
 have hr: ∀(l:Array Bool) (i:Nat),l.size=ops0.size→i<ops0.size→i∈Region.ready md (ops0.push o) (l.push false)→i∈Region.ready md ops0 l:=by
  intro l i hl hi hm
  obtain⟨h1,x,hx,h2⟩:=mem_ready.1 hm
  rw[Array.getElem?_push_lt hi]at hx
  have hx':ops0[i]? =some x:=by rw[Array.getElem?_eq_getElem hi];exact hx
  refine mem_ready.2 ⟨by rwa [getD_push_lt (by omega)]at h1,x,hx',fun e he hb=>?_⟩
  have hlt:=hk.before i x hx' e he hb
  have:=h2 e he hb
  rwa [getD_push_lt' (by omega)]at this
 have hr': ∀(l:Array Bool) (i:Nat),l.size=ops0.size→i∈Region.ready md ops0 l→i∈Region.ready md (ops0.push o) (l.push false):=by
  intro l i hl hm
  obtain⟨h1,x,hx,h2⟩:=mem_ready.1 hm
  have hi:=(Array.getElem?_eq_some_iff.1 hx).1
  refine mem_ready.2 ⟨by rwa [getD_push_lt (by omega)],x,by rw[Array.getElem?_push_lt hi,←Array.getElem?_eq_getElem hi];exact hx,fun e he hb=>?_⟩
  have hlt:=hk.before i x hx e he hb
  rw[getD_push_lt' (by omega)]
  exact h2 e he hb
 have hle: ∀(l:Array Bool) (i:Nat),l.size=ops0.size→i∈Region.ready md (ops0.push o) (l.push false)→i≤ops0.size:=by
  intro l i hl hm
  obtain⟨_,x,hx,_⟩:=mem_ready.1 hm
  have:=(Array.getElem?_eq_some_iff.1 hx).1
  simp at this
  omega
 have hall: ∀(l:Array Bool),l.size=ops0.size→Closed md ops0 l→ops0.size∈Region.ready md (ops0.push o) (l.push false)→Region.ready md ops0 l= []:=by
  intro l hl hcl hm
  obtain⟨_,x,hx,h2⟩:=mem_ready.1 hm
  rw[Array.getElem?_push_size]at hx
  obtain rfl:=Option.some.inj hx
  apply List.eq_nil_iff_forall_not_mem.2
  intro i hi
  obtain⟨h1,y,hy,_⟩:=mem_ready.1 hi
  have hi2:=(Array.getElem?_eq_some_iff.1 hy).1
  obtain⟨e,he,hb,hor⟩:=hk.waits i hi2
  have hlow:=hk.low e he hb
  have h3:=h2 e he hb
  rw[getD_push_lt' (by omega)]at h3
  have this:l.getD i false=true:=by
   rcases hor with rfl|⟨x,hx,e',he',hb',rfl|⟨x2,hx2,e2,he2,hb2,rfl⟩⟩
   ·exact h3
   ·exact hcl _ x hx h3 e' he' hb'
   ·exact hcl _ x2 hx2 (hcl _ x hx h3 e' he' hb') e2 he2 hb2
  have hil:i<l.size:=by omega
  simp only[Array.getD_eq_getD_getElem?,Array.getElem?_eq_getElem hil,Option.getD_some]at this h1
  rw[this]at h1
  cases h1
 have hend: ∀(l:Array Bool),l.size=ops0.size→Region.ready md ops0 l= []→ops0.size∈Region.ready md (ops0.push o) (l.push false):=by
  intro l hl h0
  have hdone: ∀i,i<l.size→l.getD i false=true:=by
   intro i hi
   apply Classical.byContradiction
   intro hn
   obtain⟨j,hj,hj2,hj3⟩:=least_open l ⟨i,hi,by
    simp only[Array.getD_eq_getD_getElem?,Array.getElem?_eq_getElem hi,Option.getD_some]at hn⊢
    simpa using hn⟩
   have hjo:j<ops0.size:=by omega
   have:j∈Region.ready md ops0 l:=mem_ready.2 ⟨hj2,ops0[j],Array.getElem?_eq_getElem hjo,fun e he hb=>hj3 _ (hk.before j _ (Array.getElem?_eq_getElem hjo) e he hb)⟩
   rw[h0]at this
   cases this
  refine mem_ready.2 ⟨?_,o,Array.getElem?_push_size,fun e he hb=>?_⟩
  ·simp only[Array.getD_eq_getD_getElem?]
   rw[←hl,Array.getElem?_push_size]
   rfl
  ·have:=hk.low e he hb
   rw[getD_push_lt' (by omega)]
   exact hdone _ (by omega)
 have hlast: ∀(fuel:Nat) (l:Array Bool) (a:Act) (w:World),l.size=ops0.size→Region.ready md ops0 l= []→lastPost P ops0 o Q .normal a w→wpAny P md (ops0.push o) Q (fuel+1) (l.push false) a w:=by
  intro fuel l a w hl h0 h
  refine⟨fun h1=>(by have:=hend l hl h0;rw[h1]at this;cases this),fun i hi=>?_⟩
  have hin:i=ops0.size:=by
   rcases Nat.lt_or_ge i ops0.size with hlt|hge
   ·have:=hr l i hl hlt hi
    rw[h0]at this
    cases this
   ·have:=hle l i hl hi
    omega
  subst hin
  refine wpOp_mono (fun a' w' h'=>?_) h
  have hdone:Region.ready md (ops0.push o) ((l.push false).setIfInBounds ops0.size true)= []:=by
   apply List.eq_nil_iff_forall_not_mem.2
   intro j hj
   obtain⟨h1,x,hx,h2⟩:=mem_ready.1 hj
   have hjl:=(Array.getElem?_eq_some_iff.1 hx).1
   simp only[Array.size_push]at hjl
   by_cases hjn:j=ops0.size
   ·subst hjn
    simp only[Array.getD_eq_getD_getElem?]at h1
    rw[Array.getElem?_setIfInBounds_self_of_lt (by simp;omega)]at h1
    cases h1
   ·rw[getD_set_ne _ (Ne.symm hjn),getD_push_lt (by omega)]at h1
    have hj2:j<ops0.size:=by omega
    rw[Array.getElem?_push_lt hj2]at hx
    have hx':ops0[j]? =some x:=by rw[Array.getElem?_eq_getElem hj2];exact hx
    have:j∈Region.ready md ops0 l:=mem_ready.2 ⟨h1,x,hx',fun e he hb=>by
     have hlt:=hk.before j x hx' e he hb
     have:=h2 e he hb
     rw[getD_set_ne _ (by omega),getD_push_lt' (by omega)]at this
     exact this⟩
    rw[h0]at this
    cases this
  cases fuel with
  | zero=>exact⟨hdone,h'⟩
  | succ fuel=>exact⟨fun _=>h',by rw[hdone];simp⟩
 induction fuel with
 | zero=>exact fun l a w hl _ ⟨h0,h⟩=>hlast 0 l a w hl h0 h
 | succ fuel ih=>
  intro l a w hl hcl ⟨h0,h1⟩
  by_cases hz:Region.ready md ops0 l= []
  ·exact hlast (fuel+1) l a w hl hz (h0 hz)
  ·refine⟨fun h=>?_,fun i hi=>?_⟩
   ·obtain⟨i,hi⟩:=List.exists_mem_of_ne_nil _ hz
    have:=hr' l i hl hi
    rw[h]at this
    cases this
   ·have hin:i<ops0.size:=by
     rcases Nat.lt_or_ge i ops0.size with hlt|hge
     ·exact hlt
     ·have:i=ops0.size:=by have:=hle l i hl hi;omega
      subst this
      exact absurd (hall l hl hcl hi) hz
    have e:(l.push false).setIfInBounds i true=(l.setIfInBounds i true).push false:=by
     apply Array.ext_getElem?
     intro j
     by_cases hji:i=j
     ·subst hji
      rw[Array.getElem?_setIfInBounds_self_of_lt (by simp;omega),Array.getElem?_push_lt (by simp;omega)]
      simp
     ·rw[Array.getElem?_setIfInBounds_ne hji]
      rcases Nat.lt_trichotomy j l.size with h|h|h
      ·have h2:j<(l.setIfInBounds i true).size:=by simpa using h
       rw[Array.getElem?_push_lt h,Array.getElem?_push_lt h2,←Array.getElem?_eq_getElem h,←Array.getElem?_eq_getElem h2,Array.getElem?_setIfInBounds_ne hji]
      ·subst h
       rw[Array.getElem?_push_size]
       have:(l.setIfInBounds i true).size=l.size:=by simp
       rw[←this,Array.getElem?_push_size]
      ·rw[Array.getElem?_eq_none (by simp;omega),Array.getElem?_eq_none (by simp;omega)]
    rw[e]
    exact wpOp_last hk (fun a' w' h'=>ih _ a' w' (by simpa using hl) (hcl.set (hr l i hl hin hi)) h') i hin a w (h1 i (hr l i hl hin hi))
theorem wp_region_sink {id:Nat} {ops0:Array Oper} {o:Oper} {S:World→Prop} {Q:Exit→Act→World→Prop} {a:Act} {w:World} (hm:P.follows .mixedOrders=true) (hk:sinkOk .any ops0 o=true) (hS:S w.drew)
  (h:S w.drew→wpAnyH P .any ops0 (lastPost P ops0 o Q) S ops0.size (Array.replicate ops0.size false) a w.drew):(Code.region id (ops0.push o) true).wp P Q a w:=by
 refine wp_region_any hm ?_
 have:=wpAny_sink (P:=P) (sink_of hk) ops0.size (Array.replicate ops0.size false) a w.drew (by simp) (fun j x _ hj=>by
  have:(Array.replicate ops0.size false).getD j false=false:=by
   simp only[Array.getD_eq_getD_getElem?,Array.getElem?_replicate]
   split <;> rfl
  rw[this]at hj
  cases hj) (wpAny_of_held _ _ _ _ (h hS))
 rw[Array.size_push,show Array.replicate (ops0.size+1) false=(Array.replicate ops0.size false).push false by rw[Array.replicate_succ]]
 exact this
theorem wp_region_sink_at {id:Nat} {l:List Oper} {o:Oper} (S:World→Prop) {Q:Exit→Act→World→Prop} {a:Act} {w:World} (hm:P.follows .mixedOrders=true) (hl:l=l.dropLast++ [o]) (hk:sinkOk .any l.dropLast.toArray o=true) (hS:S w.drew)
  (h:S w.drew→wpAnyH P .any l.dropLast.toArray (lastPost P l.dropLast.toArray o Q) S l.dropLast.toArray.size (Array.replicate l.dropLast.toArray.size false) a w.drew):(Code.region id l.toArray true).wp P Q a w:=by
 have e:l.toArray=l.dropLast.toArray.push o:=by
  rw[List.push_toArray,←hl]
 rw[e]
 exact wp_region_sink hm hk hS h
theorem takeD {md:Region.Mode} {ops:Array Oper} {Q:Exit→Act→World→Prop} {S:World→Prop} (i d:Nat) {oi:Oper} {v:Value} {fuel:Nat} {listed:Array Bool} {a:Act} {w:World} (hi:ops[i]? =some oi) (hd:oi.dst=some d)
  (hs:Region.noSelect ops=true) (hf:Region.free md ops listed i=true) (hr:(Region.ready md ops listed).contains i=true)
  (hQ: ∀c (a:Act) w,Q (.panic c) (a.put oi.dst v) w→Q (.panic c) a w) (hy:YieldsIf P ops S oi v a) (hS:S w)
  (h:wpAnyH P md ops Q S fuel (listed.setIfInBounds i true) (a.put (some d) v) w):wpAnyH P md ops Q S (fuel+1) listed a w:=
 wpAnyH_take hi hs hf hr hQ hy hS (by rw[hd];exact h)
theorem wp_append_at (d:Nat) {w:World} {o:Oper} {a:Act} {K:Act→World→Prop} {Q:Exit→Act→World→Prop} (hd:o.dst=some d) (s x:Operand) (t:TypeId) (ho:o.op= .call { callee:=.builtin .append,args:= #[s,x],argTypes:= #[t,t] })
  (base:Nat) (e:TypeId) (i:TypeInfo) (z:Value) (size bytes:Nat) (ht:P.underlying t=some (.slice e)) (hi:P.info? e=some i) (hz:i.zero=some z) (hsize:i.size=size) (hby:i.bytes=bytes) (hzs:z.cells.size=size) (hsz:0<size)
  (v:Value) (n:Nat) (xs:List Value) (hs:a.eval s=v) (hown:w.ownsRow base e size v n xs)
  (ad:Addr) (m c:Nat) (news:List Value) (hx:a.eval x= .slice (some ad) m c) (hl:news.length=m*size) (hnews: ∀j u,news[j]? =some u→w.cell? (ad.add j)=some u) (h1: ∀u∈news,u.oneCell'=true)
  (h63:n+m≤maxLen) (hbytes:(n+m)*bytes≤140737488355328) (hbase:base≤w.heap.size)
  (h: ∀v' w',w'.ownsRow base e size v' (n+m) (xs++news)→w.grownBy w' v.ownBlock→(v'.ownBlock=v.ownBlock∨v'.ownBlock=some w.heap.size)→K (a.put (some d) v') w'):Oper.wp P o a w K Q:=by
 obtain⟨v',w',hr,h2,h3,_,h5⟩:=run_append_own_at (P:=P) w base t o.type e i z size bytes ht hi hz hsize hby hzs hsz v n xs hown ad m c news hl hnews h1 h63 hbytes hbase
 unfold Oper.wp execOp
 simp only[ho,resolve,invoke,builtin,Sem.run_bind,Sem.run_pure,Result.andThen_ok,List.map_toArray,List.map_cons,List.map_nil,hs,hx,hr]
 show K (a.put o.dst v') w'
 rw[hd]
 exact h v' w' h2 h3 h5
theorem lastPost_normal {ops0:Array Oper} {o:Oper} {Q:Exit→Act→World→Prop} {a:Act} {w:World} (h:wpOp P (ops0.push o) Q ops0.size (Q .normal) a w):lastPost P ops0 o Q .normal a w:=h
end
section
variable {P:Program}
theorem takeE {md:Region.Mode} {ops:Array Oper} {Q:Exit→Act→World→Prop} {S:World→Prop} (i d:Nat) {oi:Oper} {v:Value} {fuel:Nat} {listed:Array Bool} {a a':Act} {w:World}
  (h:wpAnyH P md ops Q S fuel (listed.setIfInBounds i true) a' w)
  (hi:ops[i]? =some oi:=by rfl) (hd:oi.dst=some d:=by rfl) (hs:Region.noSelect ops=true:=by kernel_rfl) (hf:Region.free md ops listed i=true:=by kernel_rfl) (hr:(Region.ready md ops listed).contains i=true:=by kernel_rfl)
  (hQ: ∀c (a:Act) w,Q (.panic c) (a.put oi.dst v) w→Q (.panic c) a w:=by exact fun _ _ _ h=>h) (hw:Region.wanted oi (yielded ops a.tmps)=true:=by rfl)
  (hy: ∀w,S w→(execOp a.eval oi).run P w= .ok (.value v) w:=by(intro wq hSw;clear hSw;go_simp;try with_reducible rfl)) (hS:S w:=by assumption)
  (ha:a.put (some d) v=a':=by(conv=>lhs;simp only[Act.put,List.setIfInBounds_toArray,List.set_cons_zero,List.set_cons_succ])):wpAnyH P md ops Q S (fuel+1) listed a w:=
 takeD i d hi hd hs hf hr hQ (Or.inl ⟨hw,hy⟩) hS (ha▸h)
theorem takeF {md:Region.Mode} {ops:Array Oper} {Q:Exit→Act→World→Prop} {S:World→Prop} (i d:Nat) {oi:Oper} {v:Value} {fuel:Nat} {listed:Array Bool} {a a':Act} {w:World} {F:World→Prop}
  (hF: ∀w,S w→F w) (h:wpAnyH P md ops Q S fuel (listed.setIfInBounds i true) a' w)
  (hi:ops[i]? =some oi:=by rfl) (hd:oi.dst=some d:=by rfl) (hs:Region.noSelect ops=true:=by kernel_rfl) (hf:Region.free md ops listed i=true:=by kernel_rfl) (hr:(Region.ready md ops listed).contains i=true:=by kernel_rfl)
  (hQ: ∀c (a:Act) w,Q (.panic c) (a.put oi.dst v) w→Q (.panic c) a w:=by exact fun _ _ _ h=>h) (hw:Region.wanted oi (yielded ops a.tmps)=true:=by rfl)
  (hy: ∀w,F w→(execOp a.eval oi).run P w= .ok (.value v) w:=by(intro wq hSw;go_simp;try with_reducible rfl)) (hS:S w:=by assumption)
  (ha:a.put (some d) v=a':=by(conv=>lhs;simp only[Act.put,List.setIfInBounds_toArray,List.set_cons_zero,List.set_cons_succ])):wpAnyH P md ops Q S (fuel+1) listed a w:=
 takeD i d hi hd hs hf hr hQ (Or.inl ⟨hw,fun w h=>hy w (hF w h)⟩) hS (ha▸h)
theorem takeS {md:Region.Mode} {ops:Array Oper} {Q:Exit→Act→World→Prop} {S:World→Prop} (i d:Nat) {oi:Oper} {v:Value} {fuel:Nat} {listed:Array Bool} {a a':Act} {w:World}
  (h:wpAnyH P md ops Q S fuel (listed.setIfInBounds i true) a' w)
  (hi:ops[i]? =some oi:=by rfl) (hd:oi.dst=some d:=by rfl) (hs:Region.noSelect ops=true:=by kernel_rfl) (hf:Region.free md ops listed i=true:=by kernel_rfl) (hr:(Region.ready md ops listed).contains i=true:=by kernel_rfl)
  (hQ: ∀c (a:Act) w,Q (.panic c) (a.put oi.dst v) w→Q (.panic c) a w:=by exact fun _ _ _ h=>h) (hw:Region.wanted oi (yielded ops a.tmps)=true:=by rfl)
  (hy: ∀w,S w→(execOp a.eval oi).run P w= .ok (.value v) w:=by(intro wq hSw;go_simp;try with_reducible rfl)) (hS:S w:=by assumption)
  (ha:a.put (some d) v=a':=by(conv=>lhs;simp only[Act.put,List.setIfInBounds_toArray,List.set_cons_zero,List.set_cons_succ])):wpAnyH P md ops Q S (fuel+1) listed a w:=
 takeD i d hi hd hs hf hr hQ (Or.inl ⟨hw,hy⟩) hS (ha▸h)
theorem takeU {md:Region.Mode} {ops:Array Oper} {Q:Exit→Act→World→Prop} {S:World→Prop} (i d:Nat) {oi:Oper} {fuel:Nat} {listed:Array Bool} {a a':Act} {w:World}
  (h:wpAnyH P md ops Q S fuel (listed.setIfInBounds i true) a' w)
  (hi:ops[i]? =some oi:=by rfl) (hd:oi.dst=some d:=by rfl) (hs:Region.noSelect ops=true:=by kernel_rfl) (hf:Region.free md ops listed i=true:=by kernel_rfl) (hr:(Region.ready md ops listed).contains i=true:=by kernel_rfl)
  (hQ: ∀c (a:Act) w,Q (.panic c) (a.put oi.dst undef) w→Q (.panic c) a w:=by exact fun _ _ _ h=>h) (hw:Region.wanted oi (yielded ops a.tmps)=false:=by rfl) (hS:S w:=by assumption)
  (ha:a.put (some d) undef=a':=by(conv=>lhs;simp only[Act.put,List.setIfInBounds_toArray,List.set_cons_zero,List.set_cons_succ])):wpAnyH P md ops Q S (fuel+1) listed a w:=
 takeD i d hi hd hs hf hr hQ (Or.inr ⟨hw,rfl⟩) hS (ha▸h)
theorem ready1 {md:Region.Mode} {ops:Array Oper} {Q:Exit→Act→World→Prop} {S:World→Prop} (i:Nat) {o:Oper} {fuel:Nat} {listed:Array Bool} {a:Act} {w:World}
  (h: ∀K':Act→World→Prop,Shut (∀a w,S w→(S w→wpAnyH P md ops Q S fuel (listed.setIfInBounds i true) a w)→K' a w)→if Region.wanted o (yielded ops a.tmps)=true then Oper.wp P o a w K' Q else K' (a.put o.dst undef) w)
  (ho:ops[i]? =some o:=by rfl) (hr:Region.ready md ops listed= [i]:=by kernel_rfl):wpAnyH P md ops Q S (fuel+1) listed a w:=
 wpAnyH_ready hr (by simp) (AllReadyH.cons ho h AllReadyH.nil)
end
end Go.Proofs.YtajbmjpodeilpaaGreatDoor
namespace Go.Proofs.YtajbmjpodeilpaaGreatDoor
open Go.RowKit
def madeLit (x:Int):Int:=if x%2=1 then -(1+(x%256/2)%6)else 1+(x%256/2)%6
def madeL (xs:List Int):List Int:=(xs.take 6).map madeLit
end Go.Proofs.YtajbmjpodeilpaaGreatDoor
namespace Go.Proofs.YtajbmjpodeilpaaGreatDoor
open Go.RowKit
def ClsAt (w:World) (v:Value) (cs:List (List Int)):Prop:=
 ∃A c,v= .slice A cs.length c∧∀i xs,cs[i]? =some xs→∃g o u,A=some ⟨g,o,none⟩∧g<w.heap.size∧w.cell? ⟨g,o+i,none⟩=some u∧IntsIn (fun g=>g<w.heap.size) w u xs
theorem ClsAt.below {w w':World} {v:Value} {cs:List (List Int)} (h:ClsAt w v cs) (hb:Below w.heap.size w w'):ClsAt w' v cs:=by
 obtain⟨A,c,hv,hx⟩:=h
 refine⟨A,c,hv,fun i xs hi=>?_⟩
 obtain⟨g,o,u,h1,h2,h3,h4⟩:=hx i xs hi
 exact⟨g,o,u,h1,Nat.lt_of_lt_of_le h2 hb.size,(hb.cell (p:=⟨g,o+i,none⟩) h2).trans h3,(h4.below hb).mono (fun g hg=>Nat.lt_of_lt_of_le hg hb.size)⟩
theorem ClsAt.nil (w:World):ClsAt w (.slice none 0 0) []:=⟨none,0,rfl,fun i xs h=>by simp at h⟩
end Go.Proofs.YtajbmjpodeilpaaGreatDoor
namespace Go.Proofs.YtajbmjpodeilpaaGreatDoor
open Go.RowKit
def ClsOwn (n:Nat) (w:World) (v:Value) (cs:List (List Int)):Prop:=
 ∃us:List Value,w.ownsRow n 30 1 v cs.length us∧∀(i:Nat) (xs:List Int),cs[i]? =some xs→∃u,us[i]? =some u∧w.ownsRow n 28 1 u xs.length (xs.map (Value.int .i64))
theorem ClsOwn.below {n:Nat} {w w':World} {v:Value} {cs:List (List Int)} (h:ClsOwn n w v cs) (hb:Below w.heap.size w w'):ClsOwn n w' v cs:=by
 obtain⟨us,h1,h2⟩:=h
 refine⟨us,own_below h1 hb,fun i xs hi=>?_⟩
 obtain⟨u,hu,ho⟩:=h2 i xs hi
 exact⟨u,hu,own_below ho hb⟩
theorem ClsOwn.mono {n m:Nat} {w:World} {v:Value} {cs:List (List Int)} (h:ClsOwn n w v cs) (hm:m≤n):ClsOwn m w v cs:=by
 obtain⟨us,h1,h2⟩:=h
 refine⟨us,own_mono h1 hm,fun i xs hi=>?_⟩
 obtain⟨u,hu,ho⟩:=h2 i xs hi
 exact⟨u,hu,own_mono ho hm⟩
theorem ClsOwn.cls {n:Nat} {w:World} {v:Value} {cs:List (List Int)} (h:ClsOwn n w v cs):ClsAt w v cs:=by
 obtain⟨us,h1,h2⟩:=h
 obtain⟨A,c,rfl,_⟩:=mx_slice h1
 refine⟨A,c,rfl,fun i xs hi=>?_⟩
 obtain⟨u,hu,ho⟩:=h2 i xs hi
 have hil:=(List.getElem?_eq_some_iff.1 hi).1
 obtain⟨g,c',cs',hv,_,_,hg,_⟩:=mx_some h1 (by omega)
 simp only[Value.slice.injEq]at hv
 obtain⟨rfl,_,rfl⟩:=hv
 exact⟨g,0,u,rfl,hg,by rw[Nat.zero_add];exact mx_at h1 hu,(IntsIn.of_own ho).mono (fun g hg=>(own_lt ho g hg.2).2)⟩
theorem info_cls:(Tryz.prog.info? 30).map (fun i=>(i.zero,i.size,i.bytes))=some (some (.slice none 0 0),1,24):=by kernel_rfl
theorem ClsOwn.push {n:Nat} {w w1 w2:World} {v v' u:Value} {cs:List (List Int)} {xs:List Int} {us:List Value} (h1:w.ownsRow n 30 1 v cs.length us) (h2: ∀(i:Nat) (xs:List Int),cs[i]? =some xs→∃u,us[i]? =some u∧w.ownsRow n 28 1 u xs.length (xs.map (Value.int .i64)))
  (hb:Below w.heap.size w w1) (hu:w1.ownsRow n 28 1 u xs.length (xs.map (Value.int .i64))) (hg:w1.grownBy w2 v.ownBlock) (ho:w2.ownsRow n 30 1 v' (cs.length+1) (us++ [u])):ClsOwn n w2 v' (cs++ [xs]):=by
 have hlu:us.length=cs.length:=by
  have:=h1.1
  omega
 have hk: ∀{u:Value} {ys:List Int},w1.ownsRow n 28 1 u ys.length (ys.map (Value.int .i64))→w2.ownsRow n 28 1 u ys.length (ys.map (Value.int .i64)):=fun hu=>own_kept hu (Kept.grown hg) (fun g hg e=>mx_apart hu (own_below h1 hb) (by decide) hg e.symm)
 refine⟨us++ [u],by rw[List.length_append];exact ho,fun i ys hi=>?_⟩
 by_cases hil:i<cs.length
 ·rw[List.getElem?_append_left hil]at hi
  obtain⟨z,hz,hzo⟩:=h2 i ys hi
  exact⟨z,by rw[List.getElem?_append_left (by omega)];exact hz,hk (own_below hzo hb)⟩
 ·have hi2:=(List.getElem?_eq_some_iff.1 hi).1
  rw[List.length_append,List.length_singleton]at hi2
  obtain rfl:i=cs.length:=by omega
  rw[List.getElem?_append_right (Nat.le_refl _),Nat.sub_self,List.getElem?_cons_zero]at hi
  obtain rfl:=Option.some.inj hi
  refine⟨u,?_,hk hu⟩
  rw[List.getElem?_append_right (by omega),hlu,Nat.sub_self,List.getElem?_cons_zero]
end Go.Proofs.YtajbmjpodeilpaaGreatDoor
namespace Go.Proofs.YtajbmjpodeilpaaGreatDoor
open Go.RowKit
def SrcAt (w:World) (x:Value) (m:Nat) (news:List Value):Prop:=
 (x= .slice none 0 0∧m=0∧news= [])∨∃ad c,x= .slice (some ad) m c∧∀j u,news[j]? =some u→w.cell? (ad.add j)=some u
theorem SrcAt.below {w w':World} {x:Value} {m:Nat} {news:List Value} (h:SrcAt w x m news) (hb:Below w.heap.size w w'):SrcAt w' x m news:=by
 rcases h with h|⟨ad,c,hx,hn⟩
 ·exact .inl h
 ·refine .inr ⟨ad,c,hx,fun j u hj=>?_⟩
  have h0:=hn j u hj
  have hlt:=World.block_lt_of_cell? w _ h0
  exact(hb.cell hlt).trans h0
theorem IntsIn.src {O:Nat→Prop} {w:World} {v:Value} {xs:List Int} (h:IntsIn O w v xs):SrcAt w v xs.length (xs.map (Value.int .i64)):=by
 obtain⟨A,c,hv,hc,hn,hx⟩:=h
 cases A with
 | none=>
  have h0:=hn rfl
  have hx0:xs= []:=List.eq_nil_of_length_eq_zero (by omega)
  subst hx0
  subst h0
  exact .inl ⟨hv,rfl,rfl⟩
 | some ad=>
  by_cases h0:xs= []
  ·subst h0
   exact .inr ⟨ad,c,hv,fun j u hj=>by simp at hj⟩
  ·obtain⟨x0,hx0⟩: ∃x,xs[0]? =some x:=⟨_,List.getElem?_eq_getElem (by cases xs with
    | nil=>exact absurd rfl h0
    | cons _ _=>simp)⟩
   obtain⟨g,o,hA,_⟩:=hx 0 x0 hx0
   obtain rfl:=Option.some.inj hA
   refine .inr ⟨_,c,hv,fun j u hj=>?_⟩
   rw[List.getElem?_map]at hj
   cases hxj:xs[j]? with
   | none=>rw[hxj]at hj;cases hj
   | some x=>
    rw[hxj]at hj
    obtain rfl:=Option.some.inj hj
    obtain⟨g',o',hA',_,_,hc'⟩:=hx j x hxj
    cases hA'
    rw[addr_add2]
    exact hc'
section
variable {P:Program}
theorem run_append_any (w:World) (base:Nat) (t ty e:TypeId) (i:TypeInfo) (z:Value) (size bytes:Nat) (ht:P.underlying t=some (.slice e)) (hi:P.info? e=some i) (hz:i.zero=some z) (hsize:i.size=size) (hby:i.bytes=bytes) (hzs:z.cells.size=size) (hsz:0<size)
  (v:Value) (n:Nat) (xs:List Value) (hown:w.ownsRow base e size v n xs) (x:Value) (m:Nat) (news:List Value) (hx:SrcAt w x m news) (hl:news.length=m*size) (h1: ∀u∈news,u.oneCell'=true)
  (h63:n+m≤maxLen) (hbytes:(n+m)*bytes≤140737488355328) (hbase:base≤w.heap.size):
  ∃v' w',(Builtin.append_ #[t,t] ty #[v,x]).run P w= .ok v' w'∧w'.ownsRow base e size v' (n+m) (xs++news)∧w.grownBy w' v.ownBlock∧(v'.ownBlock=v.ownBlock∨v'.ownBlock=some w.heap.size):=by
 rcases hx with⟨rfl,rfl,rfl⟩|⟨ad,c,rfl,hn⟩
 ·exact⟨v,w,run_append_owned_none (P:=P) (w:=w) base t ty e i size ht hi v n xs hown,by simpa using hown,World.grownBy.refl w _,.inl rfl⟩
 ·obtain⟨v',w',hr,h2,h3,_,h5⟩:=run_append_own_at (P:=P) w base t ty e i z size bytes ht hi hz hsize hby hzs hsz v n xs hown ad m c news hl hn h1 h63 hbytes hbase
  exact⟨v',w',hr,h2,h3,h5⟩
theorem wpList_append_any {w:World} {ops:Array Oper} {rest:List Oper} {o:Oper} {a:Act} {Q:Exit→Act→World→Prop} (hg:o.guard=none) (s x:Operand) (t:TypeId) (ho:o.op= .call { callee:=.builtin .append,args:= #[s,x],argTypes:= #[t,t] })
  (base:Nat) (e:TypeId) (i:TypeInfo) (z:Value) (size bytes:Nat) (ht:P.underlying t=some (.slice e)) (hi:P.info? e=some i) (hz:i.zero=some z) (hsize:i.size=size) (hby:i.bytes=bytes) (hzs:z.cells.size=size) (hsz:0<size)
  (v:Value) (n:Nat) (xs:List Value) (hs:a.eval s=v) (hown:w.ownsRow base e size v n xs)
  (y:Value) (m:Nat) (news:List Value) (hx:a.eval x=y) (hy:SrcAt w y m news) (hl:news.length=m*size) (h1: ∀u∈news,u.oneCell'=true)
  (h63:n+m≤maxLen) (hbytes:(n+m)*bytes≤140737488355328) (hbase:base≤w.heap.size)
  (h: ∀v' w',w'.ownsRow base e size v' (n+m) (xs++news)→w.grownBy w' v.ownBlock→(v'.ownBlock=v.ownBlock∨v'.ownBlock=some w.heap.size)→wpList P ops Q rest (a.put o.dst v') w'):wpList P ops Q (o::rest) a w:=by
 refine wpList_plain hg fun K hK=>?_
 obtain⟨v',w',hr,h2,h3,h5⟩:=run_append_any (P:=P) w base t o.type e i z size bytes ht hi hz hsize hby hzs hsz v n xs hown y m news hy hl h1 h63 hbytes hbase
 unfold Oper.wp execOp
 simp only[ho,resolve,invoke,builtin,Sem.run_bind,Sem.run_pure,Result.andThen_ok,List.map_toArray,List.map_cons,List.map_nil,hs,hx,hr]
 exact hK _ _ (h v' w' h2 h3 h5)
end
end Go.Proofs.YtajbmjpodeilpaaGreatDoor
