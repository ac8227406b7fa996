/- Plain: how a trail comes about; what a clause covers (chapter 15). Plain: what is met from a clause that fails on, when reasons are right: what has to go has a right reason, and one literal of the greatest level stays. Plain: one step of what is met, and the end of it. Small laws of sorted numbers, fresh rows and lists of clauses. Plain: what is learned from a clause that fails: its literals, and the chain of its hints. -/
import Derived.Test.YtoojmhjagipmdaaGreatV311
import Derived.Test.YtoojmhjagipmdaaGreatV309
import Derived.Test.YtoojmhjagipmdaaGreatV312
import Derived.Test.YtoojmhjagipmdaaGreatV307
namespace Go.Proofs.YtoojmhjagipmdaaGreat
open Go.RowKit
variable {T:Trl} {its:List RIt}
theorem before_eq (T:Trl) (l p:Int) (c:List Int):T.before l p c=true↔∀x∈c,x≠l→T.val x<0∧T.place (litV x:Nat)<p:=by
 induction c with
 | nil=>simp[Trl.before]
 | cons y c ih=>
  unfold Trl.before
  by_cases h1:y≠l∧(0≤T.val y∨p≤T.place (litV y:Nat))
  ·
   rw[if_pos h1]
   refine⟨fun h=>(by cases h),fun h=>?_⟩
   have:=h y (List.mem_cons_self ..) h1.1
   omega
  ·
   rw[if_neg h1,ih]
   refine⟨fun h x hx hn=>?_,fun h x hx=>h x (List.mem_cons_of_mem _ hx)⟩
   rcases List.mem_cons.1 hx with rfl|hx
   ·
    by_cases hh:0≤T.val x∨p≤T.place (litV x:Nat)
    ·
     exact absurd ⟨hn,hh⟩ h1
    ·
     omega
   ·
    exact h x hx hn
theorem Sim.place_fal (h:Sim T its) {y:Int} (hy:rVl its y<0):T.place (litV y:Nat)=rP its (litV y:Nat):=by
 obtain⟨p,x,hp,rfl,e⟩:=h.fal hy
 rw[←e,h.rp hp]
 unfold Trl.place
 rw[h.why hp]
def RTr.push (t:RTr):RTr:=⟨t.vars,t.now+1,t.items,t.starts++ [(t.items.length:Int)]⟩
def RTr.assignErr (t:RTr) (l r:Int):Int:=if(litV l:Int)<1∨t.vars<litV l then 40 else if r<0∨1073741824<r then 2 else if rVl t.items l≠0 then 41 else 0
def RTr.assigned (t:RTr) (l r:Int):RTr:=if t.assignErr l r=0 then⟨t.vars,t.now,t.items++ [⟨l,r,t.now⟩],t.starts⟩else t
def RTr.play (t:RTr) (a:ActP):RTr:=if a.push=true then t.push else t.assigned a.l a.by_
def rPlayAll:RTr→List ActP→RTr
 | t,[]=>t
 | t,a::acs=>rPlayAll (t.play a) acs
structure TSim (T:Trl) (t:RTr):Prop where
 sim:Sim T t.items
 vars:(T.vars.length:Int)=t.vars+1
 now:T.now=t.now
theorem TSim.push {t:RTr} (h:TSim T t):TSim T.push t.push:=by
 have hn:T.push.now=T.now+1:=by simp only[Trl.push,Trl.now,List.length_append,List.length_cons,List.length_nil];omega
 refine⟨{ h.sim with pos:=fun x hx=>?_,now:=by have:=h.sim.now;omega,free:=h.sim.free },h.vars,by rw[hn,h.now];rfl⟩
 have:=h.sim.pos x hx
 omega
theorem TSim.assigned {t:RTr} (h:TSim T t) (l r:Int):TSim (T.assigned l r) (t.assigned l r):=by
 unfold Trl.assigned RTr.assigned
 have hs:=h.sim
 have herr:T.assignErr l r=0↔t.assignErr l r=0:=by
  unfold Trl.assignErr RTr.assignErr
  have hv:=h.vars
  cases ha:T.at (litV l:Nat)with
  | none=>
   unfold Trl.at at ha
   split at ha
   ·
    rw[List.getElem?_eq_none_iff]at ha
    omega
   ·
    rw[if_pos (by omega)]
    exact⟨fun h=>(by cases h),fun h=>by cases h⟩
  | some s=>
   have hat:=ha
   unfold Trl.at at ha
   split at ha
   ·
    rename_i hlt
    rw[if_neg (by omega)]
    simp only
    by_cases hr:r<0∨1073741824<r
    ·
     rw[if_pos hr,if_pos hr]
     exact⟨fun h=>(by cases h),fun h=>by cases h⟩
    ·
     rw[if_neg hr,if_neg hr]
     have hval:=hs.val l
     unfold Trl.val at hval
     rw[hat]at hval
     simp only at hval
     by_cases h0:s.value=0
     ·
      rw[h0,Int.zero_mul]at hval
      rw[if_neg (fun hh=>hh h0),if_neg (fun hh=>hh hval.symm)]
      exact⟨fun _=>rfl,fun _=>rfl⟩
     ·
      have:rVl t.items l≠0:=fun e=>by
       rw[e]at hval
       rcases Int.mul_eq_zero.1 hval with e|e
       ·
        exact h0 e
       ·
        exact litS_ne l e
      rw[if_pos h0,if_pos this]
      exact⟨fun h=>(by cases h),fun h=>by cases h⟩
   ·
    cases ha
 by_cases he:T.assignErr l r=0
 ·
  rw[if_pos he,if_pos (herr.1 he)]
  unfold Trl.assignErr at he
  cases hat:T.at (litV l:Nat)with
  | none=>rw[hat]at he;cases he
  | some s=>
   rw[hat]at he
   simp only at he
   have ha:=hat
   unfold Trl.at at ha
   split at ha
   ·
    rename_i hlt
    rw[Int.toNat_natCast]at ha
    have hb:litB l=true:=litB_of_litV (by omega)
    have hvl:litV l<T.vars.length:=by omega
    have h0:s.value=0:=by
     split at he
     ·
      cases he
     ·
      split at he
      ·
       cases he
      ·
       rename_i _ h2
       omega
    have hfree: ∀x∈t.items,litV x.lit≠litV l:=fun x hx e=>by
     obtain⟨p,hp,e2⟩:=List.getElem_of_mem hx
     have hx2:=(hs.at_ p x (by rw[List.getElem?_eq_getElem hp,e2])).2
     rw[e,ha]at hx2
     have h3:=congrArg TV.value (Option.some.inj hx2)
     simp only at h3
     have:=litS_ne x.lit
     omega
    have hol:T.order.length=t.items.length:=by rw[hs.order,List.length_map]
    refine⟨?_,?_,h.now⟩
    ·
     refine { order:=?_,size:=?_,at_:=fun p x hp=>?_,free:=fun v s hv hf=>?_,mono:=fun p q x y hpq hp hq=>?_,pos:=fun x hx=>?_,now:=hs.now }
     ·
      simp only[Trl.assign,hs.order,List.map_append,List.map_cons,List.map_nil]
     ·
      simp only[Trl.assign,List.length_set]
      exact hs.size
     ·
      simp only[Trl.assign]
      rw[List.getElem?_append]at hp
      split at hp
      ·
       obtain⟨g1,g2⟩:=hs.at_ p x hp
       refine⟨g1,?_⟩
       rw[List.getElem?_set_ne (fun e=>hfree x (List.mem_of_getElem? hp) e.symm)]
       exact g2
      ·
       rename_i hpl
       have hp0:p=t.items.length:=by
        have:=(List.getElem?_eq_some_iff.1 hp).1
        simp only[List.length_cons,List.length_nil]at this
        omega
       subst hp0
       rw[Nat.sub_self]at hp
       obtain rfl:=Option.some.inj hp
       refine⟨hb,?_⟩
       simp only
       rw[List.getElem?_set_self hvl,hol,h.now]
     ·
      simp only[Trl.assign]at hv
      have hvne:litV l≠v:=hf ⟨l,r,t.now⟩ (List.mem_append_right _ (List.mem_singleton.2 rfl))
      rw[List.getElem?_set_ne hvne]at hv
      exact hs.free v s hv (fun x hx=>hf x (List.mem_append_left _ hx))
     ·
      have hnow:=h.now
      rw[List.getElem?_append]at hp hq
      split at hq
      ·
       rw[if_pos (by omega)]at hp
       exact hs.mono p q x y hpq hp hq
      ·
       have hyl:y.level=t.now:=by
        have:=List.mem_of_getElem? hq
        rw[List.mem_singleton.1 this]
       split at hp
       ·
        have:=(hs.pos x (List.mem_of_getElem? hp)).2
        omega
       ·
        have:=List.mem_of_getElem? hp
        rw[List.mem_singleton.1 this,hyl]
        exact Int.le_refl _
     ·
      have hnow:=h.now
      rcases List.mem_append.1 hx with hx|hx
      ·
       exact hs.pos x hx
      ·
       rw[List.mem_singleton.1 hx]
       have:=hs.now
       have e:(T.assign l r).now=T.now:=rfl
       simp only
       omega
    ·
     simp only[Trl.assign,List.length_set]
     exact h.vars
   ·
    cases ha
 ·
  rw[if_neg he,if_neg (fun e=>he (herr.2 e))]
  exact h
theorem TSim.play {t:RTr} (h:TSim T t) (a:ActP):TSim (T.play a) (t.play a):=by
 unfold Trl.play RTr.play
 split
 ·
  exact h.push
 ·
  exact h.assigned _ _
theorem TSim.playAll {t:RTr} (h:TSim T t) (acs:List ActP):TSim (playAll T acs) (rPlayAll t acs):=by
 induction acs generalizing T t with
 | nil=>exact h
 | cons a acs ih=>exact ih (h.play a)
theorem tsim0 (n:Nat) (hn:n≤1048576):TSim (trl0 n) ⟨n,0,[],[0]⟩:=by
 refine⟨{ order:=rfl,size:=by simp[trl0];omega,at_:=fun p x h=>by simp at h,free:=fun v s hv _=>?_,mono:=fun p q x y _ h _=>by simp at h,pos:=fun x h=>(by cases h),now:=by simp[trl0,Trl.now] },by simp[trl0],by simp[trl0,Trl.now]⟩
 rw[List.eq_of_mem_replicate (List.mem_of_getElem? hv)]
def rest15 (v:Int) (c:List Int):List Int:=c.filter fun l=>decide ((litV l:Int)≠v)
def why15 (A:Arn) (T:Trl) (v:Int):Option (Int×List Int):=if rightB A T v=true then(match A.get (T.reason v)with
 | some c=>some (T.reason v,rest15 v c)
 | none=>none)else none
def imp15 (A:Arn) (T:Trl) (c:List Int):Nat→Int→Bool
 | 0,_=>false
 | n+1,v=>match why15 A T v with
  | none=>false
  | some r=>r.2.all fun l=>c.contains l||imp15 A T c n (litV l)
def impl15 (A:Arn) (T:Trl) (c:List Int) (v:Int):Bool:=imp15 A T c (T.order.length+1) v
def cov15 (A:Arn) (T:Trl) (c:List Int) (l:Int):Bool:=c.contains l||impl15 A T c (litV l)
theorem rightB_at (h:Sim T its) (A:Arn) {p:Nat} {x:RIt} (hp:its[p]? =some x):rightB A T (litV x.lit:Nat)=(rightP A T x.lit).isSome:=by
 have hb:=(h.at_ p x hp).1
 have hv:=litV_pos hb
 have hlb:=(litB_iff x.lit).1 hb
 have hbb:litB ((litV x.lit:Nat):Int)=true:=(litB_iff _).2 (by omega)
 have hval:=(h.val_at hp (litV x.lit:Nat) (by have:=litV_pos hbb;omega))
 unfold rightB
 rw[h.val,hval.2]
 by_cases e:x.lit=(litV x.lit:Nat)
 ·rw[if_pos e,if_neg (by decide),if_neg (by omega),if_neg (by decide)]
  rw[←e]
 ·rw[if_neg e,if_neg (by decide),if_neg (by omega),if_pos rfl]
  have:litN ((litV x.lit:Nat):Int)=x.lit:=by
   unfold litN
   rw[if_pos hbb]
   omega
  rw[this]
theorem why15_rest (h:Sim T its) {A:Arn} {p:Nat} {x:RIt} (hp:its[p]? =some x) {r:Int×List Int} (hw:why15 A T (litV x.lit:Nat)=some r): ∀z∈r.2,rVl its z<0∧rP its (litV z)<p:=by
 unfold why15 at hw
 split at hw
 ·rename_i hr
  split at hw
  ·rename_i c hc
   obtain rfl:=Option.some.inj hw
   rw[rightB_at h A hp]at hr
   have hid:rightP A T x.lit=if(T.why (litV x.lit:Nat)).isSome=true∧c.contains x.lit=true∧T.before x.lit (T.place (litV x.lit:Nat)) c=true then some (T.reason (litV x.lit:Nat),c)else none:=by
    unfold rightP
    rw[hc]
   rw[hid]at hr
   split at hr
   ·rename_i hh
    have hbf:=(before_eq T x.lit _ c).1 hh.2.2
    have hpl:T.place (litV x.lit:Nat)=p:=by
     unfold Trl.place
     rw[h.why hp]
    intro z hz
    have hz':=List.mem_filter.1 hz
    obtain⟨g1,g2⟩:=hbf z hz'.1 (fun e=>by
     have:=hz'.2
     rw[e]at this
     simp at this)
    rw[h.val z]at g1
    rw[h.place_fal g1,hpl]at g2
    exact⟨g1,g2⟩
   ·cases hr
  ·cases hw
 ·cases hw
theorem imp15_fuel (h:Sim T its) {A:Arn} (c:List Int) (n m p:Nat) {x:RIt} (hp:its[p]? =some x) (hn:p<n) (hm:p<m):imp15 A T c n (litV x.lit:Nat)=imp15 A T c m (litV x.lit:Nat):=by
 induction p using Nat.strongRecOn generalizing n m x with
 | ind p ih=>
  obtain⟨n,rfl⟩: ∃k,n=k+1:=⟨n-1,by omega⟩
  obtain⟨m,rfl⟩: ∃k,m=k+1:=⟨m-1,by omega⟩
  unfold imp15
  cases hw:why15 A T (litV x.lit:Nat)with
  | none=>rfl
  | some r=>
   simp only
   have hr:=why15_rest h hp hw
   refine Bool.eq_iff_iff.2 ?_
   rw[List.all_eq_true,List.all_eq_true]
   refine forall_congr' (fun z=>forall_congr' (fun hz=>?_))
   obtain⟨h1,h2⟩:=hr z hz
   obtain⟨q,y,hq,rfl,e⟩:=h.fal h1
   rw[←e,h.rp hq]at h2
   have:=ih q (by omega) n m hq (by omega) (by omega)
   rw[←e,this]
theorem impl15_at (h:Sim T its) {A:Arn} (c:List Int) {p:Nat} {x:RIt} (hp:its[p]? =some x):impl15 A T c (litV x.lit:Nat)=(match why15 A T (litV x.lit:Nat)with
  | none=>false
  | some r=>r.2.all fun l=>cov15 A T c l):=by
 have hlen:T.order.length=its.length:=by rw[h.order,List.length_map]
 have hpl:=(List.getElem?_eq_some_iff.1 hp).1
 have e1:impl15 A T c (litV x.lit:Nat)=match why15 A T (litV x.lit:Nat)with
   | none=>false
   | some r=>r.2.all fun l=>c.contains l||imp15 A T c T.order.length (litV l):=rfl
 rw[e1]
 cases hw:why15 A T (litV x.lit:Nat)with
 | none=>rfl
 | some r=>
  simp only
  have hr:=why15_rest h hp hw
  refine Bool.eq_iff_iff.2 ?_
  rw[List.all_eq_true,List.all_eq_true]
  refine forall_congr' (fun z=>forall_congr' (fun hz=>?_))
  obtain⟨h1,h2⟩:=hr z hz
  obtain⟨q,y,hq,rfl,e⟩:=h.fal h1
  rw[←e,h.rp hq]at h2
  unfold cov15 impl15
  rw[←e,imp15_fuel h c T.order.length (T.order.length+1) q hq (by omega) (by omega)]
def Kq (A:Arn) (T:Trl) (its:List RIt) (c:List Int) (f:Int→Int) (p:Nat):Prop:= ∀q x,q<p→its[q]? =some x→f (litV x.lit:Nat)=0∨f (litV x.lit:Nat)=if cov15 A T c (-x.lit)=true then 1 else 2
def zer (its:List RIt) (f:Int→Int):Nat:=its.countP fun x=>decide (f (litV x.lit:Nat)=0)
theorem zer_le (its:List RIt) (f:Int→Int):zer its f≤its.length:=List.countP_le_length
theorem zer_put {its:List RIt} {f f':Int→Int} {x:RIt} (hx:x∈its) (h0:f (litV x.lit:Nat)=0) (h1:f' (litV x.lit:Nat)≠0) (hsub: ∀v,f' v=0→f v=0):zer its f'+1≤zer its f:=by
 induction its with
 | nil=>cases hx
 | cons y l ih=>
  unfold zer at ih⊢
  rw[List.countP_cons,List.countP_cons]
  have hle: ∀l':List RIt,(l'.countP fun x=>decide (f' (litV x.lit:Nat)=0))≤l'.countP fun x=>decide (f (litV x.lit:Nat)=0):=fun l'=>
   List.countP_mono_left (fun z _ hz=>by simp only[decide_eq_true_eq]at hz⊢;exact hsub _ hz)
  rcases List.mem_cons.1 hx with rfl|hx
  ·have:=hle l
   simp only[decide_eq_true_eq]
   rw[if_neg h1,if_pos h0]
   omega
  ·have:=ih hx
   simp only[decide_eq_true_eq]
   by_cases hy:f' (litV y.lit:Nat)=0
   ·rw[if_pos hy,if_pos (hsub _ hy)]
    omega
   ·rw[if_neg hy]
    split <;> omega
theorem zer_mono {its:List RIt} {f f':Int→Int} (hsub: ∀v,f' v=0→f v=0):zer its f'≤zer its f:=
 List.countP_mono_left (fun z _ hz=>by simp only[decide_eq_true_eq]at hz⊢;exact hsub _ hz)
def shor15 (A:Arn) (T:Trl) (c:List Int):List Int→List Int→List Int
 | out,[]=>out
 | out,l::r=>shor15 A T c (if out.contains l=false∧(c.head? =some l∨impl15 A T c (litV l)=false)then out++ [l]else out) r
def short15 (A:Arn) (T:Trl) (c:List Int):List Int:=shor15 A T c [] c
def failE (T:Trl) (c:List Int):Nat:=if clauseB c=false then 20 else if c.any (fun l=>decide (0≤T.val l))=true then 140 else 0
end Go.Proofs.YtoojmhjagipmdaaGreat
namespace Go.Proofs.YtoojmhjagipmdaaGreat
open Go.RowKit
def litAt (its:List RIt) (q:Nat):Int:=((its[q]?).map RIt.lit).getD 0
def rsAt (its:List RIt) (q:Nat):Int:=((its[q]?).map RIt.reason).getD 0
def lvAt (its:List RIt) (q:Nat):Int:=((its[q]?).map RIt.level).getD 0
def Dcs (its:List RIt):Prop:= ∀(p:Nat) (x:RIt),its[p]? =some x→x.reason=0→1≤x.level∧∀(q:Nat) (y:RIt),q<p→its[q]? =some y→y.level<x.level
section
variable {A:Arn} {C:Int→Option (List Int)} {T:Trl} {its:List RIt}
theorem litAt_eq {q:Nat} {x:RIt} (h:its[q]? =some x):litAt its q=x.lit:=by unfold litAt;rw[h];rfl
theorem rsAt_eq {q:Nat} {x:RIt} (h:its[q]? =some x):rsAt its q=x.reason:=by unfold rsAt;rw[h];rfl
theorem lvAt_eq {q:Nat} {x:RIt} (h:its[q]? =some x):lvAt its q=x.level:=by unfold lvAt;rw[h];rfl
theorem Sim.rsn (h:Sim T its) {p:Nat} {x:RIt} (hp:its[p]? =some x):T.reason (litV x.lit:Nat)=x.reason:=by
 unfold Trl.reason
 rw[h.why hp]
theorem Sim.plc (h:Sim T its) {p:Nat} {x:RIt} (hp:its[p]? =some x):T.place (litV x.lit:Nat)=p:=by
 unfold Trl.place
 rw[h.why hp]
theorem before_true {l at_:Int}: ∀{c:List Int},(∀y∈c,y≠l→T.val y<0∧T.place (litV y:Nat)<at_)→T.before l at_ c=true:=by
 intro c
 induction c with
 | nil=>exact fun _=>rfl
 | cons x c ih=>
  intro h
  unfold Trl.before
  rw[if_neg (fun hc=>by
   have:=h x List.mem_cons_self hc.1
   omega)]
  exact ih fun y hy=>h y (List.mem_cons_of_mem _ hy)
theorem at_fal (h:Sim T its) {q:Nat} {x:RIt} (hq:its[q]? =some x) {y:Int} (e:x.lit= -y):litB y=true∧litV x.lit=litV y∧T.val y<0∧T.place (litV y:Nat)=q∧T.level (litV y:Nat)=x.level:=by
 have hb:=(h.at_ q x hq).1
 have hy:litB y=true:=by rw[e,litB_minus]at hb;exact hb
 have hv:litV x.lit=litV y:=by rw[e,litV_negate]
 refine⟨hy,hv,?_,?_,?_⟩
 ·have:=(h.fal_iff hy).2 ⟨q,x,hq,e⟩
  unfold Trl.fal at this
  exact of_decide_eq_true this
 ·rw[←hv]
  exact h.plc hq
 ·rw[←hv]
  exact h.level hq
theorem right_ok (h:Sim T its) (hr:Rsn C its) (hA: ∀j,A.get j=C j) {p:Nat} {x:RIt} (hp:its[p]? =some x) (h0:x.reason≠0): ∃d,C x.reason=some d∧rightP A T x.lit=some (x.reason,d)∧x.lit∈d∧∀y∈d,y≠x.lit→HasAt its p (-y):=by
 obtain⟨d,hd,hm,ho⟩:=hr p x hp h0
 refine⟨d,hd,?_,hm,ho⟩
 rw[rightP_some (h.rsn hp) ((hA _).trans hd),if_pos]
 refine⟨by rw[h.why hp];rfl,List.contains_iff_mem.2 hm,before_true fun y hy hne=>?_⟩
 obtain⟨q,z,hq,hz,e⟩:=ho y hy hne
 obtain⟨_,_,h1,h2,_⟩:=at_fal h hz e
 rw[h2,h.plc hp]
 exact⟨h1,by omega⟩
theorem meet_ok (wo lv:Int) (c:List Int): ∀(ms:List Int) (n:Nat),ms.Nodup→∃new,(T.meetGo wo lv c ms n).1=ms++new∧(T.meetGo wo lv c ms n).2=n+(new.filter fun v=>decide (T.level v=lv)).length∧(ms++new).Nodup∧(∀v∈new,v≠wo∧∃y∈c,v=(litV y:Nat))∧∀y∈c,((litV y:Nat):Int)≠wo→((litV y:Nat):Int)∈ms++new:=by
 induction c with
 | nil=>
  intro ms n hn
  refine⟨[],(List.append_nil _).symm,rfl,by rwa [List.append_nil],?_,?_⟩
  ·intro v hv
   cases hv
  ·intro y hy
   cases hy
 | cons l c ih=>
  intro ms n hn
  unfold Trl.meetGo
  by_cases hc:((litV l:Nat):Int)≠wo∧ms.contains ((litV l:Nat):Int)=false
  ·rw[if_pos hc]
   have hnm:((litV l:Nat):Int)∉ms:=fun hm=>by
    have:=List.contains_iff_mem.2 hm
    rw[hc.2]at this
    cases this
   have hn2:(ms++ [((litV l:Nat):Int)]).Nodup:=by
    rw[List.nodup_append]
    exact⟨hn,by simp,fun a ha b hb e=>by rw[List.mem_singleton.1 hb]at e;exact hnm (e▸ha)⟩
   obtain⟨new,h1,h2,h3,h4,h5⟩:=ih (ms++ [((litV l:Nat):Int)]) (if T.level (litV l:Nat)=lv then n+1 else n+0) hn2
   refine⟨((litV l:Nat):Int)::new,by rw[h1];simp,?_,by simpa using h3,fun v hv=>?_,fun y hy hne=>?_⟩
   ·rw[h2,List.filter_cons]
    by_cases hl:T.level (litV l:Nat)=lv
    ·rw[if_pos hl,if_pos (decide_eq_true hl),List.length_cons]
     omega
    ·rw[if_neg hl,if_neg (by simpa using hl)]
     omega
   ·rcases List.mem_cons.1 hv with e|hv
    ·exact⟨e▸hc.1,l,List.mem_cons_self,e⟩
    ·obtain⟨a1,y,a2,a3⟩:=h4 v hv
     exact⟨a1,y,List.mem_cons_of_mem _ a2,a3⟩
   ·rcases List.mem_cons.1 hy with e|hy
    ·rw[e]
     simp
    ·have:=h5 y hy hne
     simpa using this
  ·rw[if_neg hc]
   obtain⟨new,h1,h2,h3,h4,h5⟩:=ih ms n hn
   refine⟨new,h1,h2,h3,fun v hv=>?_,fun y hy hne=>?_⟩
   ·obtain⟨a1,y,a2,a3⟩:=h4 v hv
    exact⟨a1,y,List.mem_cons_of_mem _ a2,a3⟩
   ·rcases List.mem_cons.1 hy with e|hy
    ·rw[e]at hne⊢
     have:ms.contains ((litV l:Nat):Int)=true:=by
      cases hx:ms.contains ((litV l:Nat):Int)with
      | true=>rfl
      | false=>exact absurd ⟨hne,hx⟩ hc
     exact List.mem_append_left _ (List.contains_iff_mem.1 this)
    ·exact h5 y hy hne
structure CfO (C:Int→Option (List Int)) (T:Trl) (its:List RIt) (c:List Int) (lv:Int) (p:Nat) (s:CSt) (R K:List Nat):Prop where
 rdn:R.Pairwise (· > ·)
 kdn:K.Pairwise (· > ·)
 rge: ∀q∈R,p≤q
 kge: ∀q∈K,p≤q∧q<its.length
 ms: ∀v∈s.ms,∃(q:Nat) (x:RIt),its[q]? =some x∧v=(litV x.lit:Nat)
 nd:s.ms.Nodup
 all: ∀(q:Nat) (x:RIt),p≤q→its[q]? =some x→(((litV x.lit:Nat):Int)∈s.ms↔q∈R∨q∈K)
 dis: ∀q∈R,q∉K
 src: ∀(q:Nat) (x:RIt),its[q]? =some x→((litV x.lit:Nat):Int)∈s.ms→ -x.lit∈c∨∃(r:Nat) (z:RIt) (d:List Int),q<r∧r∈R∧its[r]? =some z∧C z.reason=some d∧ -x.lit∈d
 cov: ∀y∈c,((litV y:Nat):Int)∈s.ms
 covR: ∀r∈R,∃(z:RIt) (d:List Int),its[r]? =some z∧C z.reason=some d∧z.lit∈d∧z.reason≠0∧∀y∈d,y≠z.lit→HasAt its r (-y)∧((litV y:Nat):Int)∈s.ms
 hints:s.hints=R.map (rsAt its)
 lits:s.lits=K.map fun q=> -(litAt its q)
 met: ∀q∈K,((litV (litAt its q):Nat):Int)∈s.met
 lvl: ∀(q:Nat) (x:RIt),its[q]? =some x→((litV x.lit:Nat):Int)∈s.ms→x.level≤lv
 klv: ∀q∈K,0<lvAt its q
 op:lv≠0→s.op=((s.ms.filter fun v=>decide (T.level v=lv)).length:Int)-((R.filter fun q=>decide (lvAt its q=lv)).length:Int)
 op1:lv≠0→1≤s.op
 kop:lv≠0→(∃q∈K,lvAt its q=lv)→s.op=1
theorem exists_notin {α:Type} [DecidableEq α] : ∀{a b:List α},a.Nodup→b.length<a.length→∃x∈a,x∉b:=by
 intro a b hn hl
 refine Classical.byContradiction fun hc=>?_
 have hs:a ⊆ b:=fun x hx=>Classical.byContradiction fun hb=>hc ⟨x,hx,hb⟩
 have:=List.Nodup.length_le_of_subset hn hs
 omega
theorem CfO.more {c:List Int} {lv:Int} {p:Nat} {s:CSt} {R K:List Nat} (o:CfO C T its c lv p s R K) (hs:Sim T its) (h0:lv≠0) (vs:List Int) (hl:(vs.length:Int)<s.op): ∃(q:Nat) (x:RIt),its[q]? =some x∧((litV x.lit:Nat):Int)∈s.ms∧x.level=lv∧q∉R∧((litV x.lit:Nat):Int)∉vs:=by
 have ho:=o.op h0
 obtain⟨v,hv,hn⟩:=exists_notin (a:=s.ms.filter fun v=>decide (T.level v=lv)) (b:=((R.filter fun q=>decide (lvAt its q=lv)).map fun q=>((litV (litAt its q):Nat):Int))++vs) (o.nd.filter _) (by rw[List.length_append,List.length_map];omega)
 rw[List.mem_filter]at hv
 obtain⟨q,x,hq,e⟩:=o.ms v hv.1
 have hlv:=of_decide_eq_true hv.2
 rw[e,hs.level hq]at hlv
 rw[List.mem_append]at hn
 refine⟨q,x,hq,e▸hv.1,hlv,fun hr=>hn (.inl ?_),fun h=>hn (.inr (e▸h))⟩
 rw[List.mem_map]
 refine⟨q,List.mem_filter.2 ⟨hr,decide_eq_true ((lvAt_eq hq).trans hlv)⟩,?_⟩
 rw[litAt_eq hq,e]
end
end Go.Proofs.YtoojmhjagipmdaaGreat
namespace Go.Proofs.YtoojmhjagipmdaaGreat
open Go.RowKit
section
variable {A:Arn} {C:Int→Option (List Int)} {T:Trl} {its:List RIt}
theorem not_contains {xs:List Int} {x:Int} (h:x∉xs):xs.contains x=false:=by
 cases hc:xs.contains x with
 | false=>rfl
 | true=>exact absurd (List.contains_iff_mem.1 hc) h
theorem desc_snoc {R:List Nat} {p:Nat} (h:R.Pairwise (· > ·)) (hp: ∀q∈R,p+1≤q):(R++ [p]).Pairwise (· > ·):=by
 rw[List.pairwise_append]
 exact⟨h,List.pairwise_singleton _ _,fun a ha b hb=>by rw[List.mem_singleton.1 hb];exact hp a ha⟩
theorem snoc_mem {R:List Nat} {p q:Nat}:q∈R++ [p]↔q∈R∨q=p:=by rw[List.mem_append,List.mem_singleton]
theorem goes_keep {lv op v:Int} (h:T.goes lv op v=false):T.level v≠0∧(T.level v=lv→op≤1):=by
 unfold Trl.goes at h
 rw[Bool.or_eq_false_iff,Bool.and_eq_false_iff]at h
 refine⟨fun e=>?_,fun e=>?_⟩
 ·have:=h.1
  rw[e]at this
  cases this
 ·rcases h.2 with h|h
  ·rw[e,beq_self_eq_true]at h
   cases h
  ·have:=of_decide_eq_false h
   omega
theorem goes_go {lv op v:Int} (h:T.goes lv op v=true):T.level v=0∨T.level v=lv∧1<op:=by
 unfold Trl.goes at h
 rw[Bool.or_eq_true,Bool.and_eq_true]at h
 rcases h with h|h
 ·exact .inl (eq_of_beq h)
 ·exact .inr ⟨eq_of_beq h.1,of_decide_eq_true h.2⟩
theorem CfO.step {c:List Int} {lv:Int} {p:Nat} {s:CSt} {R K:List Nat} (o:CfO C T its c lv (p+1) s R K) (hs:Sim T its) (hr:Rsn C its) (hA: ∀j,A.get j=C j) (hd:Dcs its) {x:RIt} (hp:its[p]? =some x):
  ∃s' R' K',cfStep A T lv s x.lit=some s'∧CfO C T its c lv p s' R' K':=by
 have hxb:=(hs.at_ p x hp).1
 have hlx:=hs.level hp
 have hpl:=(List.getElem?_eq_some_iff.1 hp).1
 have hpr:p∉R:=fun h=>by have:=o.rge p h;omega
 have hpk:p∉K:=fun h=>by have:=(o.kge p h).1;omega
 by_cases hm:((litV x.lit:Nat):Int)∈s.ms
 ·by_cases hg:T.goes lv s.op ((litV x.lit:Nat):Int)=true
  ·
   have hgo:=goes_go hg
   rw[hlx]at hgo
   have h0:x.reason≠0:=fun h0=>by
    obtain⟨h1,h2⟩:=hd p x hp h0
    rcases hgo with e|⟨e,hop⟩
    ·omega
    ·have hlv:lv≠0:=by omega
     obtain⟨q,y,hq,hym,hyl,hqr,hqv⟩:=o.more hs hlv [((litV x.lit:Nat):Int)] (by simpa using hop)
     rcases Nat.lt_trichotomy q p with hlt|heq|hgt
     ·have:=h2 q y hlt hq
      omega
     ·subst heq
      rw[hp]at hq
      obtain rfl:=Option.some.inj hq
      exact hqv (List.mem_singleton.2 rfl)
     ·rcases (o.all q y hgt hq).1 hym with h|h
      ·exact hqr h
      ·have:=o.kop hlv ⟨q,h,(lvAt_eq hq).trans hyl⟩
       omega
   obtain⟨d,hcd,hrp,hxd,hod⟩:=right_ok hs hr hA hp h0
   obtain⟨new,m1,m2,m3,m4,m5⟩:=meet_ok (T:=T) ((litV x.lit:Nat):Int) lv d s.ms 0 o.nd
   have hnew: ∀v∈new,∃(q:Nat) (y:RIt),q<p∧its[q]? =some y∧v=(litV y.lit:Nat)∧ -y.lit∈d:=fun v hv=>by
    obtain⟨hne,y,hy,e⟩:=m4 v hv
    have hyx:y≠x.lit:=fun h=>hne (by rw[e,h])
    obtain⟨q,z,hq,hz,ez⟩:=hod y hy hyx
    have hzl:=at_fal hs hz ez
    exact⟨q,z,hq,hz,by rw[e,hzl.2.1],by rw[ez,Int.neg_neg];exact hy⟩
   have hmono: ∀(q:Nat) (y:RIt),q<p→its[q]? =some y→y.level≤x.level:=fun q y hq hy=>hs.mono q p y x (Nat.le_of_lt hq) hy hp
   refine⟨_,R++ [p],K,by unfold cfStep;rw[if_neg (by rw[List.contains_iff_mem.2 hm];simp),if_neg (by rw[hg];simp),hrp],?_⟩
   have hop: ∀h:lv≠0,(if T.level (litV x.lit:Nat)=lv then s.op+(((T.meetGo ((litV x.lit:Nat):Int) lv d s.ms 0).2:Int)-1)else s.op)=(((s.ms++new).filter fun v=>decide (T.level v=lv)).length:Int)-(((R++ [p]).filter fun q=>decide (lvAt its q=lv)).length:Int)∧1≤(if T.level (litV x.lit:Nat)=lv then s.op+(((T.meetGo ((litV x.lit:Nat):Int) lv d s.ms 0).2:Int)-1)else s.op)∧((∃q∈K,lvAt its q=lv)→(if T.level (litV x.lit:Nat)=lv then s.op+(((T.meetGo ((litV x.lit:Nat):Int) lv d s.ms 0).2:Int)-1)else s.op)=1):=fun h=>by
    have a1:=o.op h
    have a2:=o.op1 h
    rw[List.filter_append,List.filter_append,List.length_append,List.length_append,m2,hlx,List.filter_cons,List.filter_nil,lvAt_eq hp]
    by_cases e:x.level=lv
    ·have hop1:1<s.op:=by
      rcases hgo with e2|e2
      ·omega
      ·exact e2.2
     rw[if_pos e,if_pos (decide_eq_true e)]
     simp only[List.length_cons,List.length_nil]
     refine⟨by omega,by omega,fun hk=>?_⟩
     have:=o.kop h hk
     omega
    ·have hx0:x.level=0:=by
      rcases hgo with e2|e2
      ·exact e2
      ·exact absurd e2.1 e
     have hz:(new.filter fun v=>decide (T.level v=lv))= []:=by
      rw[List.filter_eq_nil_iff]
      intro v hv
      obtain⟨q,y,hq,hy,e3,_⟩:=hnew v hv
      rw[e3,hs.level hy,decide_eq_true_eq]
      have:=hmono q y hq hy
      have:=hs.pos y (List.mem_of_getElem? hy)
      omega
     rw[if_neg e,if_neg (by simpa using e),hz]
     simp only[List.length_nil]
     exact⟨by omega,by omega,fun hk=>o.kop h hk⟩
   rw[m1]
   exact {
    rdn:=desc_snoc o.rdn o.rge
    kdn:=o.kdn
    rge:=fun q hq=>by
     rcases snoc_mem.1 hq with h|h
     ·have:=o.rge q h
      omega
     ·omega
    kge:=fun q hq=>by
     have:=o.kge q hq
     omega
    ms:=fun v hv=>by
     rcases List.mem_append.1 hv with h|h
     ·exact o.ms v h
     ·obtain⟨q,y,_,hy,e,_⟩:=hnew v h
      exact⟨q,y,hy,e⟩
    nd:=m3
    all:=fun q y hq hy=>by
     rw[snoc_mem]
     rcases Nat.eq_or_lt_of_le hq with e|hlt
     ·subst e
      rw[hp]at hy
      obtain rfl:=Option.some.inj hy
      exact⟨fun _=>.inl (.inr rfl),fun _=>List.mem_append_left _ hm⟩
     ·have h1:=o.all q y hlt hy
      rw[List.mem_append,h1]
      constructor
      ·rintro (h|h)
       ·exact h.imp_left .inl
       ·obtain⟨q2,y2,hq2,hy2,e2,_⟩:=hnew _ h
        have:=hs.inj hy hy2 (by omega)
        omega
      ·rintro ((h|h)|h)
       ·exact .inl (.inl h)
       ·omega
       ·exact .inl (.inr h)
    dis:=fun q hq=>by
     rcases snoc_mem.1 hq with h|h
     ·exact o.dis q h
     ·rw[h]
      exact hpk
    src:=fun q y hy hv=>by
     rcases List.mem_append.1 hv with h|h
     ·refine(o.src q y hy h).imp_right ?_
      rintro ⟨r,z,d2,a1,a2,a3⟩
      exact⟨r,z,d2,a1,snoc_mem.2 (.inl a2),a3⟩
     ·obtain⟨q2,y2,hq2,hy2,e2,hd2⟩:=hnew _ h
      have e3:=hs.inj hy hy2 (by omega)
      subst e3
      rw[hy]at hy2
      obtain rfl:=Option.some.inj hy2
      exact .inr ⟨p,x,d,hq2,snoc_mem.2 (.inr rfl),hp,hcd,hd2⟩
    cov:=fun y hy=>List.mem_append_left _ (o.cov y hy)
    covR:=fun r hr2=>by
     rcases snoc_mem.1 hr2 with h|h
     ·obtain⟨z,d2,a1,a2,a3,a4,a5⟩:=o.covR r h
      exact⟨z,d2,a1,a2,a3,a4,fun y hy hne=>⟨(a5 y hy hne).1,List.mem_append_left _ (a5 y hy hne).2⟩⟩
     ·subst h
      refine⟨x,d,hp,hcd,hxd,h0,fun y hy hne=>⟨hod y hy hne,m5 y hy fun e=>hne ?_⟩⟩
      obtain⟨q,z,hq,hz,ez⟩:=hod y hy hne
      have hzl:=at_fal hs hz ez
      have:=hs.inj hz hp (by rw[hzl.2.1];omega)
      omega
    hints:=by rw[List.map_append,←o.hints,List.map_cons,List.map_nil,rsAt_eq hp]
    lits:=o.lits
    met:=fun q hq=>by
     show _∈(if 0<T.level (litV x.lit:Nat)then s.met++ [((litV x.lit:Nat):Int)]else s.met)
     split
     ·exact List.mem_append_left _ (o.met q hq)
     ·exact o.met q hq
    lvl:=fun q y hy hv=>by
     rcases List.mem_append.1 hv with h|h
     ·exact o.lvl q y hy h
     ·obtain⟨q2,y2,hq2,hy2,e2,_⟩:=hnew _ h
      have e3:=hs.inj hy hy2 (by omega)
      subst e3
      have:=hmono q y hq2 hy
      have:=o.lvl p x hp hm
      omega
    klv:=o.klv
    op:=fun h=>(hop h).1
    op1:=fun h=>(hop h).2.1
    kop:=fun h=>(hop h).2.2 }
  ·
   rw[Bool.not_eq_true]at hg
   have hk:=goes_keep hg
   rw[hlx]at hk
   have hpos:=(hs.pos x (List.mem_of_getElem? hp)).1
   refine⟨_,R,K++ [p],by unfold cfStep;rw[if_neg (by rw[List.contains_iff_mem.2 hm];simp),if_pos hg],?_⟩
   exact {
    rdn:=o.rdn
    kdn:=desc_snoc o.kdn fun q hq=>(o.kge q hq).1
    rge:=fun q hq=>by
     have:=o.rge q hq
     omega
    kge:=fun q hq=>by
     rcases snoc_mem.1 hq with h|h
     ·have:=o.kge q h
      omega
     ·omega
    ms:=o.ms
    nd:=o.nd
    all:=fun q y hq hy=>by
     rw[snoc_mem]
     rcases Nat.eq_or_lt_of_le hq with e|hlt
     ·subst e
      rw[hp]at hy
      obtain rfl:=Option.some.inj hy
      exact⟨fun _=>.inr (.inr rfl),fun _=>hm⟩
     ·rw[o.all q y hlt hy]
      constructor
      ·exact fun h=>h.imp_right .inl
      ·rintro (h|h|h)
       ·exact .inl h
       ·exact .inr h
       ·omega
    dis:=fun q hq h=>by
     rcases snoc_mem.1 h with h|h
     ·exact o.dis q hq h
     ·exact hpr (h▸hq)
    src:=o.src
    cov:=o.cov
    covR:=o.covR
    hints:=o.hints
    lits:=by rw[List.map_append,←o.lits,List.map_cons,List.map_nil,litAt_eq hp,litN_eq hxb]
    met:=fun q hq=>by
     show _∈(if 0<T.level (litV x.lit:Nat)then s.met++ [((litV x.lit:Nat):Int)]else s.met)
     rw[hlx,if_pos (by omega),List.mem_append]
     rcases snoc_mem.1 hq with h|h
     ·exact .inl (o.met q h)
     ·rw[h,litAt_eq hp]
      exact .inr (List.mem_singleton.2 rfl)
    lvl:=o.lvl
    klv:=fun q hq=>by
     rcases snoc_mem.1 hq with h|h
     ·exact o.klv q h
     ·rw[h,lvAt_eq hp]
      omega
    op:=o.op
    op1:=o.op1
    kop:=fun h hq=>by
     obtain⟨q,hq,e⟩:=hq
     rcases snoc_mem.1 hq with h2|h2
     ·exact o.kop h ⟨q,h2,e⟩
     ·rw[h2,lvAt_eq hp]at e
      have:=hk.2 e
      have:=o.op1 h
      show s.op=1
      omega }
 ·refine⟨s,R,K,by unfold cfStep;rw[if_pos (not_contains hm)],?_⟩
  exact {
   rdn:=o.rdn
   kdn:=o.kdn
   rge:=fun q hq=>by
    have:=o.rge q hq
    omega
   kge:=fun q hq=>by
    have:=o.kge q hq
    omega
   ms:=o.ms
   nd:=o.nd
   all:=fun q y hq hy=>by
    rcases Nat.eq_or_lt_of_le hq with e|hlt
    ·subst e
     rw[hp]at hy
     obtain rfl:=Option.some.inj hy
     exact⟨fun h=>absurd h hm,fun h=>h.elim (fun h=>absurd h hpr) (fun h=>absurd h hpk)⟩
    ·exact o.all q y hlt hy
   dis:=o.dis
   src:=o.src
   cov:=o.cov
   covR:=o.covR
   hints:=o.hints
   lits:=o.lits
   met:=o.met
   lvl:=o.lvl
   klv:=o.klv
   op:=o.op
   op1:=o.op1
   kop:=o.kop }
theorem CfO.run {c:List Int} {lv:Int} (hs:Sim T its) (hr:Rsn C its) (hA: ∀j,A.get j=C j) (hd:Dcs its): ∀(p:Nat) (s:CSt) (R K:List Nat),p≤its.length→CfO C T its c lv p s R K→∃s' R' K',cfRun A T lv s ((its.take p).reverse.map RIt.lit)=some s'∧CfO C T its c lv 0 s' R' K':=by
 intro p
 induction p with
 | zero=>
  intro s R K _ o
  exact⟨s,R,K,rfl,o⟩
 | succ p ih=>
  intro s R K hp o
  obtain⟨x,hx⟩:=getElem_of (show p<its.length by omega)
  obtain⟨s1,R1,K1,h1,o1⟩:=o.step hs hr hA hd hx
  obtain⟨s',R',K',h2,o2⟩:=ih s1 R1 K1 (by omega) o1
  refine⟨s',R',K',?_,o2⟩
  rw[List.take_add_one,hx,Option.toList_some,List.reverse_append,List.reverse_cons,List.reverse_nil,List.nil_append,List.singleton_append,List.map_cons]
  unfold cfRun
  rw[h1]
  exact h2
end
end Go.Proofs.YtoojmhjagipmdaaGreat
namespace Go.Proofs.YtoojmhjagipmdaaGreat
open Go.RowKit
theorem sortI_eq {xs ys:List Int} (hp:xs.Perm ys) (hs:ys.Pairwise (· ≤ ·)):sortI xs=ys:=by
 refine List.Perm.eq_of_pairwise (le:=fun a b=>a≤b) (fun a b _ _ h1 h2=>by omega) ?_ hs ((List.mergeSort_perm _ _).trans hp)
 have:=List.pairwise_mergeSort (le:=fun x y:Int=>decide (x≤y)) (fun a b c h1 h2=>by simp at *;omega) (fun a b=>by simp;omega) xs
 exact this.imp (fun h=>by simpa using h)
theorem mx_ints (W:World) (xs:List Int) (t:TypeId):IntsIn (fun g=>g=W.heap.size) (W.alloc (.cells (xs.map (Value.int .i64)).toArray t)) (.slice (some ⟨W.heap.size,0,none⟩) xs.length xs.length) xs:=
 ⟨some ⟨W.heap.size,0,none⟩,xs.length,rfl,Nat.le_refl _,(fun h=>by cases h),fun i x hi=>⟨W.heap.size,0,rfl,by simp,rfl,by
  rw[cell_new,Nat.zero_add]
  simp[hi]⟩⟩
theorem cls_new (W:World) (us:List Value) (cs:List (List Int)) (t:TypeId) (h: ∀(i:Nat) (xs:List Int),cs[i]? =some xs→∃u,us[i]? =some u∧IntsIn (fun g=>g<W.heap.size) W u xs):ClsAt (W.alloc (.cells us.toArray t)) (.slice (some ⟨W.heap.size,0,none⟩) cs.length cs.length) cs:=by
 refine⟨_,cs.length,rfl,fun i xs hi=>?_⟩
 obtain⟨u,hu,hx⟩:=h i xs hi
 have hb:=mx_al W (.cells us.toArray t)
 refine⟨W.heap.size,0,u,rfl,by simp,?_,(hx.below hb).mono (fun g hg=>by simp;omega)⟩
 rw[cell_new,Nat.zero_add]
 simpa using hu
end Go.Proofs.YtoojmhjagipmdaaGreat
namespace Go.Proofs.YtoojmhjagipmdaaGreat
open Go.RowKit
structure Chain (C:Int→Option (List Int)) (its:List RIt) (L c:List Int) (R:List Nat):Prop where
 up:R.Pairwise (· < ·)
 rs: ∀r∈R,∃(z:RIt) (d:List Int),its[r]? =some z∧C z.reason=some d∧z.lit∈d∧∀y∈d,y≠z.lit→∃(q:Nat) (x:RIt),q<r∧its[q]? =some x∧x.lit= -y∧(q∈R∨y∈L)
 cl: ∀y∈c,∃(q:Nat) (x:RIt),its[q]? =some x∧x.lit= -y∧(q∈R∨y∈L)
 dis: ∀r∈R,-(litAt its r)∉L
 need: ∀r∈R,-(litAt its r)∈c∨∃(r':Nat) (z:RIt) (d:List Int),r<r'∧r'∈R∧its[r']? =some z∧C z.reason=some d∧ -(litAt its r)∈d
 fal: ∀y∈L,Has its (-y)
structure ConfO (C:Int→Option (List Int)) (T:Trl) (its:List RIt) (id:Int) (c:List Int) (lv:Int) (x:Lrn) (R K:List Nat):Prop where
 max:T.failMax c 0=some lv
 lv0:0≤lv
 chain:Chain C its x.lits c R
 hints:x.hints=R.map (rsAt its)++ [id]
 lits:x.lits=K.map fun q=> -(litAt its q)
 kdn:K.Pairwise (· > ·)
 kin: ∀q∈K,q<its.length∧0<lvAt its q∧((litV (litAt its q):Nat):Int)∈x.met
 one:lv≠0→∃k K',K=k::K'∧lvAt its k=lv∧∀q∈K',lvAt its q<lv
 none:lv=0→K= []
 back:x.back=T.backOf x.lits
 levels:x.levels=T.levelsOf x.lits
section
variable {A:Arn} {C:Int→Option (List Int)} {T:Trl} {its:List RIt}
theorem CfO.chain {c:List Int} {lv:Int} {s:CSt} {R K:List Nat} (o:CfO C T its c lv 0 s R K) (hs:Sim T its) (hc: ∀y∈c,Has its (-y)):Chain C its s.lits c R.reverse:=by
 have hK: ∀(q:Nat) (x:RIt) (y:Int),its[q]? =some x→x.lit= -y→((litV y:Nat):Int)∈s.ms→q∈R.reverse∨y∈s.lits:=fun q x y hq e hv=>by
  rw[List.mem_reverse]
  refine((o.all q x (Nat.zero_le _) hq).1 (by rw[(at_fal hs hq e).2.1];exact hv)).imp_right fun hk=>?_
  rw[o.lits,List.mem_map]
  exact⟨q,hk,by rw[litAt_eq hq,e,Int.neg_neg]⟩
 exact {
  up:=by
   rw[List.pairwise_reverse]
   exact o.rdn
  rs:=fun r hr=>by
   rw[List.mem_reverse]at hr
   obtain⟨z,d,a1,a2,a3,_,a5⟩:=o.covR r hr
   refine⟨z,d,a1,a2,a3,fun y hy hne=>?_⟩
   obtain⟨⟨q,x,hq,hx,e⟩,hv⟩:=a5 y hy hne
   exact⟨q,x,hq,hx,e,hK q x y hx e hv⟩
  cl:=fun y hy=>by
   obtain⟨q,x,hq,e⟩:=hc y hy
   exact⟨q,x,hq,e,hK q x y hq e (o.cov y hy)⟩
  dis:=fun r hr hm=>by
   rw[List.mem_reverse]at hr
   obtain⟨z,d,a1,_⟩:=o.covR r hr
   rw[o.lits,List.mem_map]at hm
   obtain⟨q,hq,e⟩:=hm
   obtain⟨x,hx⟩:=getElem_of (o.kge q hq).2
   rw[litAt_eq hx,litAt_eq a1]at e
   have:=hs.inj hx a1 (by rw[show x.lit=z.lit by omega])
   subst this
   exact o.dis q hr hq
  need:=fun r hr=>by
   rw[List.mem_reverse]at hr
   obtain⟨z,d,a1,_⟩:=o.covR r hr
   rw[litAt_eq a1]
   refine(o.src r z a1 ((o.all r z (Nat.zero_le _) a1).2 (.inl hr))).imp_right ?_
   rintro ⟨r',z',d',b1,b2,b3⟩
   exact⟨r',z',d',b1,List.mem_reverse.2 b2,b3⟩
  fal:=fun y hy=>by
   rw[o.lits,List.mem_map]at hy
   obtain⟨q,hq,e⟩:=hy
   obtain⟨x,hx⟩:=getElem_of (o.kge q hq).2
   exact⟨q,x,hx,by rw[←e,litAt_eq hx,Int.neg_neg]⟩ }
end
end Go.Proofs.YtoojmhjagipmdaaGreat
