/- Plain: what is met from a clause that fails on, when reasons are right: what has to go has a right reason, and one literal of the greatest level stays. Plain: one step of what is met, and the end of it. Small laws of sorted numbers, fresh rows and lists of clauses. Plain: what is learned from a clause that fails: its literals, and the chain of its hints. Plain: a clause in normal form. package clauses: Always, Norm. -/
import Derived.Test.YtoojmhjagipmdaaGreatV209
import Derived.Test.YtoojmhjagipmdaaGreatV212
import Derived.Test.YtoojmhjagipmdaaGreatV207
import Derived.Test.YtoojmhjagipmdaaGreatV210
namespace Go.Proofs.YtoojmhjagipmdaaGreat
open Go.RowKit
def litAt (its:List RIt) (q:Nat):Int:=((its[q]?).map RIt.lit).getD 0
def rsAt (its:List RIt) (q:Nat):Int:=((its[q]?).map RIt.reason).getD 0
def lvAt (its:List RIt) (q:Nat):Int:=((its[q]?).map RIt.level).getD 0
def Dcs (its:List RIt):Prop:= ∀(p:Nat) (x:RIt),its[p]? =some x→x.reason=0→1≤x.level∧∀(q:Nat) (y:RIt),q<p→its[q]? =some y→y.level<x.level
section
variable {A:Arn} {C:Int→Option (List Int)} {T:Trl} {its:List RIt}
theorem litAt_eq {q:Nat} {x:RIt} (h:its[q]? =some x):litAt its q=x.lit:=by unfold litAt;rw[h];rfl
theorem rsAt_eq {q:Nat} {x:RIt} (h:its[q]? =some x):rsAt its q=x.reason:=by unfold rsAt;rw[h];rfl
theorem lvAt_eq {q:Nat} {x:RIt} (h:its[q]? =some x):lvAt its q=x.level:=by unfold lvAt;rw[h];rfl
theorem Sim.rsn (h:Sim T its) {p:Nat} {x:RIt} (hp:its[p]? =some x):T.reason (litV x.lit:Nat)=x.reason:=by
 unfold Trl.reason
 rw[h.why hp]
theorem Sim.plc (h:Sim T its) {p:Nat} {x:RIt} (hp:its[p]? =some x):T.place (litV x.lit:Nat)=p:=by
 unfold Trl.place
 rw[h.why hp]
theorem before_true {l at_:Int}: ∀{c:List Int},(∀y∈c,y≠l→T.val y<0∧T.place (litV y:Nat)<at_)→T.before l at_ c=true:=by
 intro c
 induction c with
 | nil=>exact fun _=>rfl
 | cons x c ih=>
  intro h
  unfold Trl.before
  rw[if_neg (fun hc=>by
   have:=h x List.mem_cons_self hc.1
   omega)]
  exact ih fun y hy=>h y (List.mem_cons_of_mem _ hy)
theorem at_fal (h:Sim T its) {q:Nat} {x:RIt} (hq:its[q]? =some x) {y:Int} (e:x.lit= -y):litB y=true∧litV x.lit=litV y∧T.val y<0∧T.place (litV y:Nat)=q∧T.level (litV y:Nat)=x.level:=by
 have hb:=(h.at_ q x hq).1
 have hy:litB y=true:=by rw[e,litB_minus]at hb;exact hb
 have hv:litV x.lit=litV y:=by rw[e,litV_negate]
 refine⟨hy,hv,?_,?_,?_⟩
 ·have:=(h.fal_iff hy).2 ⟨q,x,hq,e⟩
  unfold Trl.fal at this
  exact of_decide_eq_true this
 ·rw[←hv]
  exact h.plc hq
 ·rw[←hv]
  exact h.level hq
theorem right_ok (h:Sim T its) (hr:Rsn C its) (hA: ∀j,A.get j=C j) {p:Nat} {x:RIt} (hp:its[p]? =some x) (h0:x.reason≠0): ∃d,C x.reason=some d∧rightP A T x.lit=some (x.reason,d)∧x.lit∈d∧∀y∈d,y≠x.lit→HasAt its p (-y):=by
 obtain⟨d,hd,hm,ho⟩:=hr p x hp h0
 refine⟨d,hd,?_,hm,ho⟩
 rw[rightP_some (h.rsn hp) ((hA _).trans hd),if_pos]
 refine⟨by rw[h.why hp];rfl,List.contains_iff_mem.2 hm,before_true fun y hy hne=>?_⟩
 obtain⟨q,z,hq,hz,e⟩:=ho y hy hne
 obtain⟨_,_,h1,h2,_⟩:=at_fal h hz e
 rw[h2,h.plc hp]
 exact⟨h1,by omega⟩
theorem meet_ok (wo lv:Int) (c:List Int): ∀(ms:List Int) (n:Nat),ms.Nodup→∃new,(T.meetGo wo lv c ms n).1=ms++new∧(T.meetGo wo lv c ms n).2=n+(new.filter fun v=>decide (T.level v=lv)).length∧(ms++new).Nodup∧(∀v∈new,v≠wo∧∃y∈c,v=(litV y:Nat))∧∀y∈c,((litV y:Nat):Int)≠wo→((litV y:Nat):Int)∈ms++new:=by
 induction c with
 | nil=>
  intro ms n hn
  refine⟨[],(List.append_nil _).symm,rfl,by rwa [List.append_nil],?_,?_⟩
  ·intro v hv
   cases hv
  ·intro y hy
   cases hy
 | cons l c ih=>
  intro ms n hn
  unfold Trl.meetGo
  by_cases hc:((litV l:Nat):Int)≠wo∧ms.contains ((litV l:Nat):Int)=false
  ·rw[if_pos hc]
   have hnm:((litV l:Nat):Int)∉ms:=fun hm=>by
    have:=List.contains_iff_mem.2 hm
    rw[hc.2]at this
    cases this
   have hn2:(ms++ [((litV l:Nat):Int)]).Nodup:=by
    rw[List.nodup_append]
    exact⟨hn,by simp,fun a ha b hb e=>by rw[List.mem_singleton.1 hb]at e;exact hnm (e▸ha)⟩
   obtain⟨new,h1,h2,h3,h4,h5⟩:=ih (ms++ [((litV l:Nat):Int)]) (if T.level (litV l:Nat)=lv then n+1 else n+0) hn2
   refine⟨((litV l:Nat):Int)::new,by rw[h1];simp,?_,by simpa using h3,fun v hv=>?_,fun y hy hne=>?_⟩
   ·rw[h2,List.filter_cons]
    by_cases hl:T.level (litV l:Nat)=lv
    ·rw[if_pos hl,if_pos (decide_eq_true hl),List.length_cons]
     omega
    ·rw[if_neg hl,if_neg (by simpa using hl)]
     omega
   ·rcases List.mem_cons.1 hv with e|hv
    ·exact⟨e▸hc.1,l,List.mem_cons_self,e⟩
    ·obtain⟨a1,y,a2,a3⟩:=h4 v hv
     exact⟨a1,y,List.mem_cons_of_mem _ a2,a3⟩
   ·rcases List.mem_cons.1 hy with e|hy
    ·rw[e]
     simp
    ·have:=h5 y hy hne
     simpa using this
  ·rw[if_neg hc]
   obtain⟨new,h1,h2,h3,h4,h5⟩:=ih ms n hn
   refine⟨new,h1,h2,h3,fun v hv=>?_,fun y hy hne=>?_⟩
   ·obtain⟨a1,y,a2,a3⟩:=h4 v hv
    exact⟨a1,y,List.mem_cons_of_mem _ a2,a3⟩
   ·rcases List.mem_cons.1 hy with e|hy
    ·rw[e]at hne⊢
     have:ms.contains ((litV l:Nat):Int)=true:=by
      cases hx:ms.contains ((litV l:Nat):Int)with
      | true=>rfl
      | false=>exact absurd ⟨hne,hx⟩ hc
     exact List.mem_append_left _ (List.contains_iff_mem.1 this)
    ·exact h5 y hy hne
structure CfO (C:Int→Option (List Int)) (T:Trl) (its:List RIt) (c:List Int) (lv:Int) (p:Nat) (s:CSt) (R K:List Nat):Prop where
 rdn:R.Pairwise (· > ·)
 kdn:K.Pairwise (· > ·)
 rge: ∀q∈R,p≤q
 kge: ∀q∈K,p≤q∧q<its.length
 ms: ∀v∈s.ms,∃(q:Nat) (x:RIt),its[q]? =some x∧v=(litV x.lit:Nat)
 nd:s.ms.Nodup
 all: ∀(q:Nat) (x:RIt),p≤q→its[q]? =some x→(((litV x.lit:Nat):Int)∈s.ms↔q∈R∨q∈K)
 dis: ∀q∈R,q∉K
 src: ∀(q:Nat) (x:RIt),its[q]? =some x→((litV x.lit:Nat):Int)∈s.ms→ -x.lit∈c∨∃(r:Nat) (z:RIt) (d:List Int),q<r∧r∈R∧its[r]? =some z∧C z.reason=some d∧ -x.lit∈d
 cov: ∀y∈c,((litV y:Nat):Int)∈s.ms
 covR: ∀r∈R,∃(z:RIt) (d:List Int),its[r]? =some z∧C z.reason=some d∧z.lit∈d∧z.reason≠0∧∀y∈d,y≠z.lit→HasAt its r (-y)∧((litV y:Nat):Int)∈s.ms
 hints:s.hints=R.map (rsAt its)
 lits:s.lits=K.map fun q=> -(litAt its q)
 met: ∀q∈K,((litV (litAt its q):Nat):Int)∈s.met
 lvl: ∀(q:Nat) (x:RIt),its[q]? =some x→((litV x.lit:Nat):Int)∈s.ms→x.level≤lv
 klv: ∀q∈K,0<lvAt its q
 op:lv≠0→s.op=((s.ms.filter fun v=>decide (T.level v=lv)).length:Int)-((R.filter fun q=>decide (lvAt its q=lv)).length:Int)
 op1:lv≠0→1≤s.op
 kop:lv≠0→(∃q∈K,lvAt its q=lv)→s.op=1
theorem exists_notin {α:Type} [DecidableEq α] : ∀{a b:List α},a.Nodup→b.length<a.length→∃x∈a,x∉b:=by
 intro a b hn hl
 refine Classical.byContradiction fun hc=>?_
 have hs:a ⊆ b:=fun x hx=>Classical.byContradiction fun hb=>hc ⟨x,hx,hb⟩
 have:=List.Nodup.length_le_of_subset hn hs
 omega
theorem CfO.more {c:List Int} {lv:Int} {p:Nat} {s:CSt} {R K:List Nat} (o:CfO C T its c lv p s R K) (hs:Sim T its) (h0:lv≠0) (vs:List Int) (hl:(vs.length:Int)<s.op): ∃(q:Nat) (x:RIt),its[q]? =some x∧((litV x.lit:Nat):Int)∈s.ms∧x.level=lv∧q∉R∧((litV x.lit:Nat):Int)∉vs:=by
 have ho:=o.op h0
 obtain⟨v,hv,hn⟩:=exists_notin (a:=s.ms.filter fun v=>decide (T.level v=lv)) (b:=((R.filter fun q=>decide (lvAt its q=lv)).map fun q=>((litV (litAt its q):Nat):Int))++vs) (o.nd.filter _) (by rw[List.length_append,List.length_map];omega)
 rw[List.mem_filter]at hv
 obtain⟨q,x,hq,e⟩:=o.ms v hv.1
 have hlv:=of_decide_eq_true hv.2
 rw[e,hs.level hq]at hlv
 rw[List.mem_append]at hn
 refine⟨q,x,hq,e▸hv.1,hlv,fun hr=>hn (.inl ?_),fun h=>hn (.inr (e▸h))⟩
 rw[List.mem_map]
 refine⟨q,List.mem_filter.2 ⟨hr,decide_eq_true ((lvAt_eq hq).trans hlv)⟩,?_⟩
 rw[litAt_eq hq,e]
end
end Go.Proofs.YtoojmhjagipmdaaGreat
namespace Go.Proofs.YtoojmhjagipmdaaGreat
open Go.RowKit
section
variable {A:Arn} {C:Int→Option (List Int)} {T:Trl} {its:List RIt}
theorem not_contains {xs:List Int} {x:Int} (h:x∉xs):xs.contains x=false:=by
 cases hc:xs.contains x with
 | false=>rfl
 | true=>exact absurd (List.contains_iff_mem.1 hc) h
theorem desc_snoc {R:List Nat} {p:Nat} (h:R.Pairwise (· > ·)) (hp: ∀q∈R,p+1≤q):(R++ [p]).Pairwise (· > ·):=by
 rw[List.pairwise_append]
 exact⟨h,List.pairwise_singleton _ _,fun a ha b hb=>by rw[List.mem_singleton.1 hb];exact hp a ha⟩
theorem snoc_mem {R:List Nat} {p q:Nat}:q∈R++ [p]↔q∈R∨q=p:=by rw[List.mem_append,List.mem_singleton]
theorem goes_keep {lv op v:Int} (h:T.goes lv op v=false):T.level v≠0∧(T.level v=lv→op≤1):=by
 unfold Trl.goes at h
 rw[Bool.or_eq_false_iff,Bool.and_eq_false_iff]at h
 refine⟨fun e=>?_,fun e=>?_⟩
 ·have:=h.1
  rw[e]at this
  cases this
 ·rcases h.2 with h|h
  ·rw[e,beq_self_eq_true]at h
   cases h
  ·have:=of_decide_eq_false h
   omega
theorem goes_go {lv op v:Int} (h:T.goes lv op v=true):T.level v=0∨T.level v=lv∧1<op:=by
 unfold Trl.goes at h
 rw[Bool.or_eq_true,Bool.and_eq_true]at h
 rcases h with h|h
 ·exact .inl (eq_of_beq h)
 ·exact .inr ⟨eq_of_beq h.1,of_decide_eq_true h.2⟩
theorem CfO.step {c:List Int} {lv:Int} {p:Nat} {s:CSt} {R K:List Nat} (o:CfO C T its c lv (p+1) s R K) (hs:Sim T its) (hr:Rsn C its) (hA: ∀j,A.get j=C j) (hd:Dcs its) {x:RIt} (hp:its[p]? =some x):
  ∃s' R' K',cfStep A T lv s x.lit=some s'∧CfO C T its c lv p s' R' K':=by
 have hxb:=(hs.at_ p x hp).1
 have hlx:=hs.level hp
 have hpl:=(List.getElem?_eq_some_iff.1 hp).1
 have hpr:p∉R:=fun h=>by have:=o.rge p h;omega
 have hpk:p∉K:=fun h=>by have:=(o.kge p h).1;omega
 by_cases hm:((litV x.lit:Nat):Int)∈s.ms
 ·by_cases hg:T.goes lv s.op ((litV x.lit:Nat):Int)=true
  ·
   have hgo:=goes_go hg
   rw[hlx]at hgo
   have h0:x.reason≠0:=fun h0=>by
    obtain⟨h1,h2⟩:=hd p x hp h0
    rcases hgo with e|⟨e,hop⟩
    ·omega
    ·have hlv:lv≠0:=by omega
     obtain⟨q,y,hq,hym,hyl,hqr,hqv⟩:=o.more hs hlv [((litV x.lit:Nat):Int)] (by simpa using hop)
     rcases Nat.lt_trichotomy q p with hlt|heq|hgt
     ·have:=h2 q y hlt hq
      omega
     ·subst heq
      rw[hp]at hq
      obtain rfl:=Option.some.inj hq
      exact hqv (List.mem_singleton.2 rfl)
     ·rcases (o.all q y hgt hq).1 hym with h|h
      ·exact hqr h
      ·have:=o.kop hlv ⟨q,h,(lvAt_eq hq).trans hyl⟩
       omega
   obtain⟨d,hcd,hrp,hxd,hod⟩:=right_ok hs hr hA hp h0
   obtain⟨new,m1,m2,m3,m4,m5⟩:=meet_ok (T:=T) ((litV x.lit:Nat):Int) lv d s.ms 0 o.nd
   have hnew: ∀v∈new,∃(q:Nat) (y:RIt),q<p∧its[q]? =some y∧v=(litV y.lit:Nat)∧ -y.lit∈d:=fun v hv=>by
    obtain⟨hne,y,hy,e⟩:=m4 v hv
    have hyx:y≠x.lit:=fun h=>hne (by rw[e,h])
    obtain⟨q,z,hq,hz,ez⟩:=hod y hy hyx
    have hzl:=at_fal hs hz ez
    exact⟨q,z,hq,hz,by rw[e,hzl.2.1],by rw[ez,Int.neg_neg];exact hy⟩
   have hmono: ∀(q:Nat) (y:RIt),q<p→its[q]? =some y→y.level≤x.level:=fun q y hq hy=>hs.mono q p y x (Nat.le_of_lt hq) hy hp
   refine⟨_,R++ [p],K,by unfold cfStep;rw[if_neg (by rw[List.contains_iff_mem.2 hm];simp),if_neg (by rw[hg];simp),hrp],?_⟩
   have hop: ∀h:lv≠0,(if T.level (litV x.lit:Nat)=lv then s.op+(((T.meetGo ((litV x.lit:Nat):Int) lv d s.ms 0).2:Int)-1)else s.op)=(((s.ms++new).filter fun v=>decide (T.level v=lv)).length:Int)-(((R++ [p]).filter fun q=>decide (lvAt its q=lv)).length:Int)∧1≤(if T.level (litV x.lit:Nat)=lv then s.op+(((T.meetGo ((litV x.lit:Nat):Int) lv d s.ms 0).2:Int)-1)else s.op)∧((∃q∈K,lvAt its q=lv)→(if T.level (litV x.lit:Nat)=lv then s.op+(((T.meetGo ((litV x.lit:Nat):Int) lv d s.ms 0).2:Int)-1)else s.op)=1):=fun h=>by
    have a1:=o.op h
    have a2:=o.op1 h
    rw[List.filter_append,List.filter_append,List.length_append,List.length_append,m2,hlx,List.filter_cons,List.filter_nil,lvAt_eq hp]
    by_cases e:x.level=lv
    ·have hop1:1<s.op:=by
      rcases hgo with e2|e2
      ·omega
      ·exact e2.2
     rw[if_pos e,if_pos (decide_eq_true e)]
     simp only[List.length_cons,List.length_nil]
     refine⟨by omega,by omega,fun hk=>?_⟩
     have:=o.kop h hk
     omega
    ·have hx0:x.level=0:=by
      rcases hgo with e2|e2
      ·exact e2
      ·exact absurd e2.1 e
     have hz:(new.filter fun v=>decide (T.level v=lv))= []:=by
      rw[List.filter_eq_nil_iff]
      intro v hv
      obtain⟨q,y,hq,hy,e3,_⟩:=hnew v hv
      rw[e3,hs.level hy,decide_eq_true_eq]
      have:=hmono q y hq hy
      have:=hs.pos y (List.mem_of_getElem? hy)
      omega
     rw[if_neg e,if_neg (by simpa using e),hz]
     simp only[List.length_nil]
     exact⟨by omega,by omega,fun hk=>o.kop h hk⟩
   rw[m1]
   exact {
    rdn:=desc_snoc o.rdn o.rge
    kdn:=o.kdn
    rge:=fun q hq=>by
     rcases snoc_mem.1 hq with h|h
     ·have:=o.rge q h
      omega
     ·omega
    kge:=fun q hq=>by
     have:=o.kge q hq
     omega
    ms:=fun v hv=>by
     rcases List.mem_append.1 hv with h|h
     ·exact o.ms v h
     ·obtain⟨q,y,_,hy,e,_⟩:=hnew v h
      exact⟨q,y,hy,e⟩
    nd:=m3
    all:=fun q y hq hy=>by
     rw[snoc_mem]
     rcases Nat.eq_or_lt_of_le hq with e|hlt
     ·subst e
      rw[hp]at hy
      obtain rfl:=Option.some.inj hy
      exact⟨fun _=>.inl (.inr rfl),fun _=>List.mem_append_left _ hm⟩
     ·have h1:=o.all q y hlt hy
      rw[List.mem_append,h1]
      constructor
      ·rintro (h|h)
       ·exact h.imp_left .inl
       ·obtain⟨q2,y2,hq2,hy2,e2,_⟩:=hnew _ h
        have:=hs.inj hy hy2 (by omega)
        omega
      ·rintro ((h|h)|h)
       ·exact .inl (.inl h)
       ·omega
       ·exact .inl (.inr h)
    dis:=fun q hq=>by
     rcases snoc_mem.1 hq with h|h
     ·exact o.dis q h
     ·rw[h]
      exact hpk
    src:=fun q y hy hv=>by
     rcases List.mem_append.1 hv with h|h
     ·refine(o.src q y hy h).imp_right ?_
      rintro ⟨r,z,d2,a1,a2,a3⟩
      exact⟨r,z,d2,a1,snoc_mem.2 (.inl a2),a3⟩
     ·obtain⟨q2,y2,hq2,hy2,e2,hd2⟩:=hnew _ h
      have e3:=hs.inj hy hy2 (by omega)
      subst e3
      rw[hy]at hy2
      obtain rfl:=Option.some.inj hy2
      exact .inr ⟨p,x,d,hq2,snoc_mem.2 (.inr rfl),hp,hcd,hd2⟩
    cov:=fun y hy=>List.mem_append_left _ (o.cov y hy)
    covR:=fun r hr2=>by
     rcases snoc_mem.1 hr2 with h|h
     ·obtain⟨z,d2,a1,a2,a3,a4,a5⟩:=o.covR r h
      exact⟨z,d2,a1,a2,a3,a4,fun y hy hne=>⟨(a5 y hy hne).1,List.mem_append_left _ (a5 y hy hne).2⟩⟩
     ·subst h
      refine⟨x,d,hp,hcd,hxd,h0,fun y hy hne=>⟨hod y hy hne,m5 y hy fun e=>hne ?_⟩⟩
      obtain⟨q,z,hq,hz,ez⟩:=hod y hy hne
      have hzl:=at_fal hs hz ez
      have:=hs.inj hz hp (by rw[hzl.2.1];omega)
      omega
    hints:=by rw[List.map_append,←o.hints,List.map_cons,List.map_nil,rsAt_eq hp]
    lits:=o.lits
    met:=fun q hq=>by
     show _∈(if 0<T.level (litV x.lit:Nat)then s.met++ [((litV x.lit:Nat):Int)]else s.met)
     split
     ·exact List.mem_append_left _ (o.met q hq)
     ·exact o.met q hq
    lvl:=fun q y hy hv=>by
     rcases List.mem_append.1 hv with h|h
     ·exact o.lvl q y hy h
     ·obtain⟨q2,y2,hq2,hy2,e2,_⟩:=hnew _ h
      have e3:=hs.inj hy hy2 (by omega)
      subst e3
      have:=hmono q y hq2 hy
      have:=o.lvl p x hp hm
      omega
    klv:=o.klv
    op:=fun h=>(hop h).1
    op1:=fun h=>(hop h).2.1
    kop:=fun h=>(hop h).2.2 }
  ·
   rw[Bool.not_eq_true]at hg
   have hk:=goes_keep hg
   rw[hlx]at hk
   have hpos:=(hs.pos x (List.mem_of_getElem? hp)).1
   refine⟨_,R,K++ [p],by unfold cfStep;rw[if_neg (by rw[List.contains_iff_mem.2 hm];simp),if_pos hg],?_⟩
   exact {
    rdn:=o.rdn
    kdn:=desc_snoc o.kdn fun q hq=>(o.kge q hq).1
    rge:=fun q hq=>by
     have:=o.rge q hq
     omega
    kge:=fun q hq=>by
     rcases snoc_mem.1 hq with h|h
     ·have:=o.kge q h
      omega
     ·omega
    ms:=o.ms
    nd:=o.nd
    all:=fun q y hq hy=>by
     rw[snoc_mem]
     rcases Nat.eq_or_lt_of_le hq with e|hlt
     ·subst e
      rw[hp]at hy
      obtain rfl:=Option.some.inj hy
      exact⟨fun _=>.inr (.inr rfl),fun _=>hm⟩
     ·rw[o.all q y hlt hy]
      constructor
      ·exact fun h=>h.imp_right .inl
      ·rintro (h|h|h)
       ·exact .inl h
       ·exact .inr h
       ·omega
    dis:=fun q hq h=>by
     rcases snoc_mem.1 h with h|h
     ·exact o.dis q hq h
     ·exact hpr (h▸hq)
    src:=o.src
    cov:=o.cov
    covR:=o.covR
    hints:=o.hints
    lits:=by rw[List.map_append,←o.lits,List.map_cons,List.map_nil,litAt_eq hp,litN_eq hxb]
    met:=fun q hq=>by
     show _∈(if 0<T.level (litV x.lit:Nat)then s.met++ [((litV x.lit:Nat):Int)]else s.met)
     rw[hlx,if_pos (by omega),List.mem_append]
     rcases snoc_mem.1 hq with h|h
     ·exact .inl (o.met q h)
     ·rw[h,litAt_eq hp]
      exact .inr (List.mem_singleton.2 rfl)
    lvl:=o.lvl
    klv:=fun q hq=>by
     rcases snoc_mem.1 hq with h|h
     ·exact o.klv q h
     ·rw[h,lvAt_eq hp]
      omega
    op:=o.op
    op1:=o.op1
    kop:=fun h hq=>by
     obtain⟨q,hq,e⟩:=hq
     rcases snoc_mem.1 hq with h2|h2
     ·exact o.kop h ⟨q,h2,e⟩
     ·rw[h2,lvAt_eq hp]at e
      have:=hk.2 e
      have:=o.op1 h
      show s.op=1
      omega }
 ·refine⟨s,R,K,by unfold cfStep;rw[if_pos (not_contains hm)],?_⟩
  exact {
   rdn:=o.rdn
   kdn:=o.kdn
   rge:=fun q hq=>by
    have:=o.rge q hq
    omega
   kge:=fun q hq=>by
    have:=o.kge q hq
    omega
   ms:=o.ms
   nd:=o.nd
   all:=fun q y hq hy=>by
    rcases Nat.eq_or_lt_of_le hq with e|hlt
    ·subst e
     rw[hp]at hy
     obtain rfl:=Option.some.inj hy
     exact⟨fun h=>absurd h hm,fun h=>h.elim (fun h=>absurd h hpr) (fun h=>absurd h hpk)⟩
    ·exact o.all q y hlt hy
   dis:=o.dis
   src:=o.src
   cov:=o.cov
   covR:=o.covR
   hints:=o.hints
   lits:=o.lits
   met:=o.met
   lvl:=o.lvl
   klv:=o.klv
   op:=o.op
   op1:=o.op1
   kop:=o.kop }
theorem CfO.run {c:List Int} {lv:Int} (hs:Sim T its) (hr:Rsn C its) (hA: ∀j,A.get j=C j) (hd:Dcs its): ∀(p:Nat) (s:CSt) (R K:List Nat),p≤its.length→CfO C T its c lv p s R K→∃s' R' K',cfRun A T lv s ((its.take p).reverse.map RIt.lit)=some s'∧CfO C T its c lv 0 s' R' K':=by
 intro p
 induction p with
 | zero=>
  intro s R K _ o
  exact⟨s,R,K,rfl,o⟩
 | succ p ih=>
  intro s R K hp o
  obtain⟨x,hx⟩:=getElem_of (show p<its.length by omega)
  obtain⟨s1,R1,K1,h1,o1⟩:=o.step hs hr hA hd hx
  obtain⟨s',R',K',h2,o2⟩:=ih s1 R1 K1 (by omega) o1
  refine⟨s',R',K',?_,o2⟩
  rw[List.take_add_one,hx,Option.toList_some,List.reverse_append,List.reverse_cons,List.reverse_nil,List.nil_append,List.singleton_append,List.map_cons]
  unfold cfRun
  rw[h1]
  exact h2
end
end Go.Proofs.YtoojmhjagipmdaaGreat
namespace Go.Proofs.YtoojmhjagipmdaaGreat
open Go.RowKit
theorem sortI_eq {xs ys:List Int} (hp:xs.Perm ys) (hs:ys.Pairwise (· ≤ ·)):sortI xs=ys:=by
 refine List.Perm.eq_of_pairwise (le:=fun a b=>a≤b) (fun a b _ _ h1 h2=>by omega) ?_ hs ((List.mergeSort_perm _ _).trans hp)
 have:=List.pairwise_mergeSort (le:=fun x y:Int=>decide (x≤y)) (fun a b c h1 h2=>by simp at *;omega) (fun a b=>by simp;omega) xs
 exact this.imp (fun h=>by simpa using h)
theorem mx_ints (W:World) (xs:List Int) (t:TypeId):IntsIn (fun g=>g=W.heap.size) (W.alloc (.cells (xs.map (Value.int .i64)).toArray t)) (.slice (some ⟨W.heap.size,0,none⟩) xs.length xs.length) xs:=
 ⟨some ⟨W.heap.size,0,none⟩,xs.length,rfl,Nat.le_refl _,(fun h=>by cases h),fun i x hi=>⟨W.heap.size,0,rfl,by simp,rfl,by
  rw[cell_new,Nat.zero_add]
  simp[hi]⟩⟩
theorem cls_new (W:World) (us:List Value) (cs:List (List Int)) (t:TypeId) (h: ∀(i:Nat) (xs:List Int),cs[i]? =some xs→∃u,us[i]? =some u∧IntsIn (fun g=>g<W.heap.size) W u xs):ClsAt (W.alloc (.cells us.toArray t)) (.slice (some ⟨W.heap.size,0,none⟩) cs.length cs.length) cs:=by
 refine⟨_,cs.length,rfl,fun i xs hi=>?_⟩
 obtain⟨u,hu,hx⟩:=h i xs hi
 have hb:=mx_al W (.cells us.toArray t)
 refine⟨W.heap.size,0,u,rfl,by simp,?_,(hx.below hb).mono (fun g hg=>by simp;omega)⟩
 rw[cell_new,Nat.zero_add]
 simpa using hu
theorem sortI_sorted (xs:List Int):(sortI xs).Pairwise (· ≤ ·):=by
 have:=List.pairwise_mergeSort (le:=fun x y:Int=>decide (x≤y)) (fun a b c h1 h2=>by simp at *;omega) (fun a b=>by simp;omega) xs
 exact this.imp (fun h=>by simpa using h)
theorem sortI_mem (xs:List Int) (x:Int):x∈sortI xs↔x∈xs:=(List.mergeSort_perm xs _).mem_iff
end Go.Proofs.YtoojmhjagipmdaaGreat
namespace Go.Proofs.YtoojmhjagipmdaaGreat
open Go.RowKit
structure Chain (C:Int→Option (List Int)) (its:List RIt) (L c:List Int) (R:List Nat):Prop where
 up:R.Pairwise (· < ·)
 rs: ∀r∈R,∃(z:RIt) (d:List Int),its[r]? =some z∧C z.reason=some d∧z.lit∈d∧∀y∈d,y≠z.lit→∃(q:Nat) (x:RIt),q<r∧its[q]? =some x∧x.lit= -y∧(q∈R∨y∈L)
 cl: ∀y∈c,∃(q:Nat) (x:RIt),its[q]? =some x∧x.lit= -y∧(q∈R∨y∈L)
 dis: ∀r∈R,-(litAt its r)∉L
 need: ∀r∈R,-(litAt its r)∈c∨∃(r':Nat) (z:RIt) (d:List Int),r<r'∧r'∈R∧its[r']? =some z∧C z.reason=some d∧ -(litAt its r)∈d
 fal: ∀y∈L,Has its (-y)
structure ConfO (C:Int→Option (List Int)) (T:Trl) (its:List RIt) (id:Int) (c:List Int) (lv:Int) (x:Lrn) (R K:List Nat):Prop where
 max:T.failMax c 0=some lv
 lv0:0≤lv
 chain:Chain C its x.lits c R
 hints:x.hints=R.map (rsAt its)++ [id]
 lits:x.lits=K.map fun q=> -(litAt its q)
 kdn:K.Pairwise (· > ·)
 kin: ∀q∈K,q<its.length∧0<lvAt its q∧((litV (litAt its q):Nat):Int)∈x.met
 one:lv≠0→∃k K',K=k::K'∧lvAt its k=lv∧∀q∈K',lvAt its q<lv
 none:lv=0→K= []
 back:x.back=T.backOf x.lits
 levels:x.levels=T.levelsOf x.lits
section
variable {A:Arn} {C:Int→Option (List Int)} {T:Trl} {its:List RIt}
theorem failMax_has (h:Sim T its): ∀{c:List Int} {m:Int},(∀y∈c,Has its (-y))→∃lv,T.failMax c m=some lv∧m≤lv∧(∀(q:Nat) (x:RIt),its[q]? =some x→ -x.lit∈c→x.level≤lv)∧(lv=m∨∃(q:Nat) (x:RIt),its[q]? =some x∧ -x.lit∈c∧x.level=lv):=by
 intro c
 induction c with
 | nil=>
  intro m _
  refine⟨m,rfl,Int.le_refl _,?_,.inl rfl⟩
  intro _ _ _ hc
  cases hc
 | cons l c ih=>
  intro m hc
  obtain⟨q,x,hq,e⟩:=hc l List.mem_cons_self
  obtain⟨a1,a2,a3,a4,a5⟩:=at_fal h hq e
  obtain⟨lv,h1,h2,h3,h4⟩:=ih (m:=max m (T.level (litV l:Nat))) fun y hy=>hc y (List.mem_cons_of_mem _ hy)
  refine⟨lv,by unfold Trl.failMax;rw[if_neg (by omega)];exact h1,by omega,fun p z hp hm=>?_,?_⟩
  ·rcases List.mem_cons.1 hm with hm|hm
   ·have:=h.inj hp hq (by rw[a2,←hm,litV_negate])
    subst this
    rw[hp]at hq
    obtain rfl:=Option.some.inj hq
    omega
   ·exact h3 p z hp hm
  ·rcases h4 with h4|⟨p,z,b1,b2,b3⟩
   ·by_cases hm:m<T.level (litV l:Nat)
    ·exact .inr ⟨q,x,hq,by rw[e,Int.neg_neg];exact List.mem_cons_self,by omega⟩
    ·exact .inl (by omega)
   ·exact .inr ⟨p,z,b1,List.mem_cons_of_mem _ b2,b3⟩
theorem cfo_begin (hs:Sim T its) {c:List Int} {lv:Int} (hc: ∀y∈c,Has its (-y)) (hm:T.failMax c 0=some lv):CfO C T its c lv its.length ⟨(T.meetGo 0 lv c [] 0).1,((T.meetGo 0 lv c [] 0).2:Nat),[],[],[]⟩ [] []:=by
 obtain⟨lv',h1,h2,h3,h4⟩:=failMax_has hs (m:=0) hc
 rw[hm]at h1
 obtain rfl:=Option.some.inj h1
 obtain⟨new,m1,m2,m3,m4,m5⟩:=meet_ok (T:=T) 0 lv c [] 0 List.nodup_nil
 rw[List.nil_append]at m1 m3 m5
 have hin: ∀v∈new,∃(q:Nat) (x:RIt),its[q]? =some x∧v=(litV x.lit:Nat)∧ -x.lit∈c:=fun v hv=>by
  obtain⟨_,y,hy,e⟩:=m4 v hv
  obtain⟨q,x,hq,ex⟩:=hc y hy
  exact⟨q,x,hq,by rw[e,(at_fal hs hq ex).2.1],by rw[ex,Int.neg_neg];exact hy⟩
 have hcov: ∀y∈c,((litV y:Nat):Int)∈new:=fun y hy=>m5 y hy (by
  obtain⟨q,x,hq,ex⟩:=hc y hy
  have:=(litV_pos (at_fal hs hq ex).1).1
  omega)
 have hsrc: ∀(q:Nat) (x:RIt),its[q]? =some x→((litV x.lit:Nat):Int)∈new→ -x.lit∈c:=fun q x hq hv=>by
  obtain⟨q2,x2,hq2,e,hx2⟩:=hin _ hv
  have:=hs.inj hq hq2 (by omega)
  subst this
  rw[hq]at hq2
  obtain rfl:=Option.some.inj hq2
  exact hx2
 rw[m1,m2]
 exact {
  rdn:=List.Pairwise.nil
  kdn:=List.Pairwise.nil
  rge:=fun q hq=>by cases hq
  kge:=fun q hq=>by cases hq
  ms:=fun v hv=>by
   obtain⟨q,x,hq,e,_⟩:=hin v hv
   exact⟨q,x,hq,e⟩
  nd:=m3
  all:=fun q x hq hx=>by
   have:=(List.getElem?_eq_some_iff.1 hx).1
   omega
  dis:=fun q hq=>by cases hq
  src:=fun q x hq hv=>.inl (hsrc q x hq hv)
  cov:=hcov
  covR:=fun r hr=>by cases hr
  hints:=rfl
  lits:=rfl
  met:=fun q hq=>by cases hq
  lvl:=fun q x hq hv=>h3 q x hq (hsrc q x hq hv)
  klv:=fun q hq=>by cases hq
  op:=fun _=>by
   simp only[List.filter_nil,List.length_nil]
   omega
  op1:=fun h=>by
   rcases h4 with h4|⟨q,x,hq,hx,e⟩
   ·exact absurd h4 h
   ·have hv:=hcov _ hx
    rw[litV_negate]at hv
    have:((litV x.lit:Nat):Int)∈new.filter fun v=>decide (T.level v=lv):=List.mem_filter.2 ⟨hv,decide_eq_true ((hs.level hq).trans e)⟩
    have:=List.length_pos_of_mem this
    show(1:Int)≤((0+(new.filter fun v=>decide (T.level v=lv)).length:Nat):Int)
    omega
  kop:=fun _ ⟨q,hq,_⟩=>by cases hq }
theorem CfO.chain {c:List Int} {lv:Int} {s:CSt} {R K:List Nat} (o:CfO C T its c lv 0 s R K) (hs:Sim T its) (hc: ∀y∈c,Has its (-y)):Chain C its s.lits c R.reverse:=by
 have hK: ∀(q:Nat) (x:RIt) (y:Int),its[q]? =some x→x.lit= -y→((litV y:Nat):Int)∈s.ms→q∈R.reverse∨y∈s.lits:=fun q x y hq e hv=>by
  rw[List.mem_reverse]
  refine((o.all q x (Nat.zero_le _) hq).1 (by rw[(at_fal hs hq e).2.1];exact hv)).imp_right fun hk=>?_
  rw[o.lits,List.mem_map]
  exact⟨q,hk,by rw[litAt_eq hq,e,Int.neg_neg]⟩
 exact {
  up:=by
   rw[List.pairwise_reverse]
   exact o.rdn
  rs:=fun r hr=>by
   rw[List.mem_reverse]at hr
   obtain⟨z,d,a1,a2,a3,_,a5⟩:=o.covR r hr
   refine⟨z,d,a1,a2,a3,fun y hy hne=>?_⟩
   obtain⟨⟨q,x,hq,hx,e⟩,hv⟩:=a5 y hy hne
   exact⟨q,x,hq,hx,e,hK q x y hx e hv⟩
  cl:=fun y hy=>by
   obtain⟨q,x,hq,e⟩:=hc y hy
   exact⟨q,x,hq,e,hK q x y hq e (o.cov y hy)⟩
  dis:=fun r hr hm=>by
   rw[List.mem_reverse]at hr
   obtain⟨z,d,a1,_⟩:=o.covR r hr
   rw[o.lits,List.mem_map]at hm
   obtain⟨q,hq,e⟩:=hm
   obtain⟨x,hx⟩:=getElem_of (o.kge q hq).2
   rw[litAt_eq hx,litAt_eq a1]at e
   have:=hs.inj hx a1 (by rw[show x.lit=z.lit by omega])
   subst this
   exact o.dis q hr hq
  need:=fun r hr=>by
   rw[List.mem_reverse]at hr
   obtain⟨z,d,a1,_⟩:=o.covR r hr
   rw[litAt_eq a1]
   refine(o.src r z a1 ((o.all r z (Nat.zero_le _) a1).2 (.inl hr))).imp_right ?_
   rintro ⟨r',z',d',b1,b2,b3⟩
   exact⟨r',z',d',b1,List.mem_reverse.2 b2,b3⟩
  fal:=fun y hy=>by
   rw[o.lits,List.mem_map]at hy
   obtain⟨q,hq,e⟩:=hy
   obtain⟨x,hx⟩:=getElem_of (o.kge q hq).2
   exact⟨q,x,hx,by rw[←e,litAt_eq hx,Int.neg_neg]⟩ }
theorem conf_law (hs:Sim T its) (hr:Rsn C its) (hA: ∀j,A.get j=C j) (hd:Dcs its) {id:Int} {c:List Int} (hcc:C id=some c) (hc: ∀y∈c,Has its (-y)): ∃x lv R K,confP A T id=(x,0)∧ConfO C T its id c lv x R K:=by
 obtain⟨lv,hm,h0,hmax,_⟩:=failMax_has hs (m:=0) hc
 obtain⟨s,R,K,hrun,o⟩:=CfO.run (A:=A) (lv:=lv) hs hr hA hd its.length _ [] [] (Nat.le_refl _) (cfo_begin (C:=C) hs hc hm)
 have hend:cfEnd A T lv c=some s:=by
  unfold cfEnd
  rw[hs.order,←List.map_reverse]
  rw[List.take_length]at hrun
  exact hrun
 refine⟨⟨s.lits,T.backOf s.lits,T.levelsOf s.lits,s.hints.reverse++ [id],sortI s.met⟩,lv,R.reverse,K,by unfold confP;rw[(hA id).trans hcc];simp only[hm,hend],hm,h0,o.chain hs hc,by rw[o.hints,List.map_reverse],o.lits,o.kdn,fun q hq=>⟨(o.kge q hq).2,o.klv q hq,(sortI_mem _ _).2 (o.met q hq)⟩,fun hl=>?_,fun hl=>?_,rfl,rfl⟩
 ·obtain⟨q,x,hq,hv,hxl,hqr,_⟩:=o.more hs hl [] (by have:=o.op1 hl;simp only[List.length_nil];omega)
  have hqk:q∈K:=((o.all q x (Nat.zero_le _) hq).1 hv).resolve_left hqr
  have hop:=o.kop hl ⟨q,hqk,(lvAt_eq hq).trans hxl⟩
  have huniq: ∀q'∈K,lvAt its q'=lv→q'=q:=fun q' hq' e=>Classical.byContradiction fun hne=>by
   have ho:=o.op hl
   obtain⟨x',hx'⟩:=getElem_of (o.kge q' hq').2
   rw[lvAt_eq hx']at e
   have hv':=(o.all q' x' (Nat.zero_le _) hx').2 (.inr hq')
   have hsub:(((R.filter fun q=>decide (lvAt its q=lv)).map fun q=>((litV (litAt its q):Nat):Int))++ [((litV x.lit:Nat):Int),((litV x'.lit:Nat):Int)]).length≤(s.ms.filter fun v=>decide (T.level v=lv)).length:=by
    refine List.Nodup.length_le_of_subset ?_ ?_
    ·rw[List.nodup_append]
     have hRin: ∀r∈R,∃z,its[r]? =some z:=fun r hr=>by
      obtain⟨z,d,a1,_⟩:=o.covR r hr
      exact⟨z,a1⟩
     refine⟨?_,?_,?_⟩
     ·have hn:(R.filter fun q=>decide (lvAt its q=lv)).Nodup:=(o.rdn.imp (fun h e=>by omega)).filter _
      unfold List.Nodup
      rw[List.pairwise_map]
      refine hn.imp_of_mem ?_
      intro a b ha hb hne e
      obtain⟨za,hza⟩:=hRin a (List.mem_filter.1 ha).1
      obtain⟨zb,hzb⟩:=hRin b (List.mem_filter.1 hb).1
      rw[litAt_eq hza,litAt_eq hzb]at e
      exact hne (hs.inj hza hzb (by omega))
     ·rw[List.nodup_cons]
      refine⟨fun h=>hne ?_,by simp⟩
      rw[List.mem_singleton]at h
      exact hs.inj hx' hq (by omega)
     ·intro a ha b hb e
      rw[List.mem_map]at ha
      obtain⟨r,hr,e2⟩:=ha
      have hr:=(List.mem_filter.1 hr).1
      obtain⟨zr,hzr⟩:=hRin r hr
      rw[litAt_eq hzr]at e2
      rcases List.mem_cons.1 hb with e3|hb
      ·have:=hs.inj hzr hq (by omega)
       exact hqr (this▸hr)
      ·have e3:=List.mem_singleton.1 hb
       have:=hs.inj hzr hx' (by omega)
       exact o.dis r hr (this▸hq')
    ·intro v hv2
     rcases List.mem_append.1 hv2 with h|h
     ·rw[List.mem_map]at h
      obtain⟨r,hr,e2⟩:=h
      obtain⟨hr,hrl⟩:=List.mem_filter.1 hr
      have hrl:=of_decide_eq_true hrl
      obtain⟨z,d,a1,_⟩:=o.covR r hr
      rw[litAt_eq a1]at e2
      rw[lvAt_eq a1]at hrl
      rw[←e2]
      exact List.mem_filter.2 ⟨(o.all r z (Nat.zero_le _) a1).2 (.inl hr),decide_eq_true ((hs.level a1).trans hrl)⟩
     ·rcases List.mem_cons.1 h with h|h
      ·rw[h]
       exact List.mem_filter.2 ⟨hv,decide_eq_true ((hs.level hq).trans hxl)⟩
      ·rw[List.mem_singleton.1 h]
       exact List.mem_filter.2 ⟨hv',decide_eq_true ((hs.level hx').trans e)⟩
   rw[List.length_append,List.length_map]at hsub
   simp only[List.length_cons,List.length_nil]at hsub
   omega
  have hle: ∀q'∈K,lvAt its q'≤lv:=fun q' hq'=>by
   obtain⟨x',hx'⟩:=getElem_of (o.kge q' hq').2
   rw[lvAt_eq hx']
   exact o.lvl q' x' hx' ((o.all q' x' (Nat.zero_le _) hx').2 (.inr hq'))
  cases hK:K with
  | nil=>rw[hK]at hqk;cases hqk
  | cons k K'=>
   rw[hK]at hqk hle huniq
   have hkd:=o.kdn
   rw[hK,List.pairwise_cons]at hkd
   have hkq:k=q:=by
    rcases List.mem_cons.1 hqk with e|hm2
    ·exact e.symm
    ·have hgt:=hkd.1 q hm2
     obtain⟨xk,hxk⟩:=getElem_of (o.kge k (by rw[hK];exact List.mem_cons_self)).2
     have h1:=hs.mono q k x xk (Nat.le_of_lt hgt) hq hxk
     have h2:=hle k List.mem_cons_self
     rw[lvAt_eq hxk]at h2
     exact huniq k List.mem_cons_self (by rw[lvAt_eq hxk];omega)
   refine⟨k,K',rfl,by rw[hkq,lvAt_eq hq,hxl],fun q' hq'=>?_⟩
   have h1:=hle q' (List.mem_cons_of_mem _ hq')
   have h2:=huniq q' (List.mem_cons_of_mem _ hq')
   have h3:=hkd.1 q' hq'
   omega
 ·cases hK:K with
  | nil=>rfl
  | cons k K'=>
   have hk:k∈K:=by rw[hK];exact List.mem_cons_self
   obtain⟨x,hx⟩:=getElem_of (o.kge k hk).2
   have h1:=o.lvl k x hx ((o.all k x (Nat.zero_le _) hx).2 (.inr hk))
   have h2:=o.klv k hk
   rw[lvAt_eq hx]at h2
   omega
end
end Go.Proofs.YtoojmhjagipmdaaGreat
namespace Go.Proofs.YtoojmhjagipmdaaGreat
open Go.RowKit Go.Sort
theorem sortL_pair (xs:List Int):(sortL xs).Pairwise (fun a b=>(!(Go.Proofs.ltOf litC) b a)=true):=by
 unfold sortL
 refine List.pairwise_mergeSort (fun a b c h1 h2=>?_) (fun a b=>?_) xs
 ·simp only[Bool.not_eq_true']at *
  exact ltC_swo.ntrans c b a h2 h1
 ·cases hab:Go.Proofs.ltOf litC b a
  ·simp
  ·cases hba:Go.Proofs.ltOf litC a b
   ·simp
   ·have:=ltC_swo.trans _ _ _ hab hba
    rw[ltC_swo.irrefl]at this
    cases this
theorem onceL_pair {l:Int} {xs:List Int} (hr: ∀x∈xs,litB x=true) (hp:xs.Pairwise (fun a b=>litI a≤litI b)) (hl:l=0∨(litB l=true∧∀x∈xs,litI l≤litI x)):(onceL l xs).Pairwise (fun a b=>litI a<litI b)∧(litB l=true→∀x∈onceL l xs,litI l<litI x):=by
 induction xs generalizing l with
 | nil=>exact⟨List.Pairwise.nil,fun _ x hx=>by cases hx⟩
 | cons z r ih=>
  obtain⟨hz,hpr⟩:=List.pairwise_cons.1 hp
  have hrz:=hr z List.mem_cons_self
  have hrr: ∀x∈r,litB x=true:=fun x hx=>hr x (List.mem_cons_of_mem _ hx)
  unfold onceL
  split
  ·exact ih hrr hpr (hl.imp_right (fun h=>⟨h.1,fun x hx=>h.2 x (List.mem_cons_of_mem _ hx)⟩))
  ·rename_i hne
   obtain⟨i1,i2⟩:=ih (l:=z) hrr hpr (.inr ⟨hrz,hz⟩)
   refine⟨List.pairwise_cons.2 ⟨fun x hx=>i2 hrz x hx,i1⟩,fun hlb x hx=>?_⟩
   have hlz:litI l<litI z:=by
    rcases hl with rfl|⟨h1,h2⟩
    ·cases hlb
    ·have h3:=h2 z List.mem_cons_self
     have h4:litI l≠litI z:=fun e=>hne (litI_inj h1 hrz e).symm
     omega
   rcases List.mem_cons.1 hx with rfl|hx
   ·exact hlz
   ·have:=i2 hrz x hx
    omega
theorem normL_pair {xs:List Int} (hr: ∀x∈xs,litB x=true):(normL xs).Pairwise (fun a b=>litI a<litI b):=by
 have hrs: ∀x∈sortL xs,litB x=true:=fun x hx=>hr x (sortL_mem.1 hx)
 refine(onceL_pair hrs ?_ (.inl rfl)).1
 refine List.Pairwise.imp_of_mem (fun {a b} ha hb h=>?_) (sortL_pair xs)
 have h2: ¬Go.Proofs.ltOf litC b a=true:=by simpa using h
 rw[ltC_iff]at h2
 simp only[hrs a ha,hrs b hb,true_and,not_or]at h2
 have:=h2.2.1
 omega
theorem onceL_has {x:Int} {xs:List Int}: ∀{l:Int},x∈xs→x=l∨x∈onceL l xs:=by
 induction xs with
 | nil=>intro l h;cases h
 | cons z r ih=>
  intro l h
  unfold onceL
  by_cases hz:z=l
  ·rw[if_pos hz]
   rcases List.mem_cons.1 h with rfl|h
   ·exact .inl hz
   ·exact ih h
  ·rw[if_neg hz]
   rcases List.mem_cons.1 h with rfl|h
   ·exact .inr List.mem_cons_self
   ·rcases ih (l:=z) h with rfl|h
    ·exact .inr List.mem_cons_self
    ·exact .inr (List.mem_cons_of_mem _ h)
theorem normL_has {x:Int} {xs:List Int} (hr: ∀x∈xs,litB x=true):x∈normL xs↔x∈xs:=by
 refine⟨normL_mem,fun h=>?_⟩
 rcases onceL_has (l:=0) (sortL_mem.2 h)with e|e
 ·have:=(litB_iff x).1 (hr x h)
  omega
 ·exact e
theorem normL_nodup {xs:List Int} (hr: ∀x∈xs,litB x=true):(normL xs).Nodup:=(normL_pair hr).imp (fun h e=>by rw[e]at h;omega)
end Go.Proofs.YtoojmhjagipmdaaGreat
namespace Go.Proofs.YtoojmhjagipmdaaGreat
open Go.RowKit Go.Shelf Go.Sort
attribute [local go_sem] Oper.semAt_some
def lastG (l:Int):List Int→Int
 | []=>l
 | x::r=>lastG x r
theorem lastG_snoc (l x:Int) (a:List Int):lastG l (a++ [x])=x:=by
 induction a generalizing l with
 | nil=>rfl
 | cons y r ih=>exact ih y
theorem alwGo_snoc (l x:Int) (a:List Int):alwGo l (a++ [x])=(alwGo l a||(lastG l a != 0&&x==litN (lastG l a))):=by
 induction a generalizing l with
 | nil=>simp[alwGo,lastG]
 | cons y r ih=>
  simp only[List.cons_append,alwGo,lastG]
  rw[ih,Bool.or_assoc]
theorem alwGo_pre {l:Int} {a ys:List Int} (h:a <+: ys) (ha:alwGo l a=true):alwGo l ys=true:=by
 obtain⟨t,rfl⟩:=h
 induction a generalizing l with
 | nil=>cases ha
 | cons y r ih=>
  simp only[List.cons_append,alwGo,Bool.or_eq_true]at ha⊢
  exact ha.imp_right ih
theorem res_bool {fn:Func} (h:fn.results= #[.cell 2 4]) {w:World} {r:Nat} {b:Bool} (hb:Boxed w r 4 (.bool b)) (tmps:Array Value) (t2:tmps[2]?.getD undef= .pointer (some ⟨r,0,none⟩)):
  (results fn tmps).run Tryz.prog w= .ok (.bool b) w:=by
 have p0:=hb.cell
 simp[results,h,go_sem,t2,p0]
structure AI (w:World) (pre:List (Int×Nat)) (W:World):Prop where
 res:Boxed W w.heap.size 4 (.bool false)
 last:Boxed W (w.heap.size+1) 32 (.int .i64 (lastG 0 (pre.map Prod.fst)))
 below:Below w.heap.size w W
 no:alwGo 0 (pre.map Prod.fst)=false
structure AX (w:World) (pre:List (Int×Nat)) (W:World):Prop where
 res:Boxed W w.heap.size 4 (.bool true)
 below:Below w.heap.size w W
 yes:alwGo 0 (pre.map Prod.fst)=true
theorem boxed_grown {W W':World} {row:Option Nat} {B:Nat} {t:TypeId} {v:Value} (h:Boxed W B t v) (hg:W.grownBy W' row) (hr: ∀r,row=some r→∃o:Obj,W.heap[r]? =some o∧o.isCells=false):Boxed W' B t v:=
 h.kept hg (fun e=>by
  obtain⟨o,ho,hc⟩:=hr B e.symm
  rw[show W.heap[B]? =_ from h]at ho
  cases ho
  cases hc)
theorem ai_own (w:World) {N:Nat} (hN:w.heap.size≤N):OwnFrom N (AI w):=fun _ _ _ _ h hg hr=>
 ⟨boxed_grown h.res hg (fun r e=>(hr r e).2),boxed_grown h.last hg (fun r e=>(hr r e).2),h.below.grown hg h.below.size (fun k e=>Nat.le_trans hN (hr k e).1),h.no⟩
theorem ax_own (w:World) {N:Nat} (hN:w.heap.size≤N):OwnFrom N (AX w):=fun _ _ _ _ h hg hr=>
 ⟨boxed_grown h.res hg (fun r e=>(hr r e).2),h.below.grown hg h.below.size (fun k e=>Nat.le_trans hN (hr k e).1),h.yes⟩
theorem boxed_neq {W:World} {B B':Nat} {t:TypeId} {v u:Value} (h:Boxed W B t v) (hne:B≠B'):Boxed (W.setCell ⟨B',0,none⟩ u) B t v:=
 h.kept (grownBy_setCell' W B' u) (fun e=>hne (Option.some.inj e))
theorem spost_set {X0:Nat→Prop} {x:Int×Nat} (W:World) (B:Nat) (v:Value) (h:X0 B):SPost X0 x W (W.setCell ⟨B,0,none⟩ v):=
 (KpC.of_grown (grownBy_setCell' W B v)).mono (fun g _ e=>.inr (by cases e;exact h))
theorem keepsRec_set (W:World) (B:Nat) (v:Value):KeepsRec W (W.setCell ⟨B,0,none⟩ v):=keepsRec_others (KeepsOthers.setCell _ _ _)
set_option maxRecDepth 100000 in
set_option maxHeartbeats 4000000 in
theorem always_any {O:Nat→Prop} (u:Value) (xs:List Int) (w:World) (hu:IntsIn O w u xs) (hlen:xs.length≤1000000000000):
  Calls Tryz.prog 107 #[u] w fun e w'=>e= .returned (.bool (alwL xs))∧Below w.heap.size w w':=by
 obtain⟨W0,hW0⟩: ∃x,w.alloc (.cells #[.bool false] 4)=x:=⟨_,rfl⟩
 have hb0:Below w.heap.size w W0:=by rw[←hW0];exact mx_al _ _
 have hc0:Boxed W0 w.heap.size 4 (.bool false):=by rw[←hW0];exact Boxed.new _ _ _
 have hz0:W0.heap.size=w.heap.size+1:=by rw[←hW0];simp
 have HU0:=Lib.hid (hu.below hb0)
 have HRC:=Lib.hid (right_clause u xs W0 (hu.below hb0) (by omega))
 obtain⟨A,c,rfl,_⟩:=hu
 have HW0:=Lib.hid hW0
 have HB0:=Lib.hid hb0
 have HC0:=Lib.hid hc0
 obtain⟨res,hres⟩: ∃b,alwL xs=b:=⟨_,rfl⟩
 rw[hres]
 unfold alwL at hres
 obtain⟨q,hq⟩: ∃b,clauseB xs=b:=⟨_,rfl⟩
 rw[hq]at HRC hres
 clear hW0 hb0 hc0 hq
 refine(callsIn_wide (n:=10)).1 ?_
 refine callsIn_of_wp_marks Tryz.func107 rfl trivial ?_ rfl
 simp only[Tryz.ntmps107,List.size_toArray,List.length_cons,List.length_nil,Nat.reduceAdd,Nat.reduceSub,Array.replicate_succ,Array.replicate_zero,List.push_toArray,List.append_toArray,List.nil_append,List.cons_append]
 gi_wp2_with fail
 rw[HW0.out]
 refine⟨trivial,?_⟩
 refine(callsIn_wide.2 HRC.out).mono ?_
 rintro e W' ⟨rfl,rfl⟩
 have q1:=HC0.out.cell
 have q2:=HC0.out.frozen
 cases q with
 | false=>
  have HRS:=Lib.hid (show false=res from hres)
  clear hres
  gi_wp2
  exact⟨_,res_bool rfl (HC0.out.set _) _ rfl,by rw[HRS.out],HB0.out.setCell (p:=⟨w.heap.size,0,none⟩) (Nat.le_refl _) _⟩
 | true=>
  rw[Bool.true_and]at hres
  obtain⟨W1,hW1⟩: ∃x,W0.alloc (.cells #[.int .i64 0] 32)=x:=⟨_,rfl⟩
  have hb1:Below W0.heap.size W0 W1:=by rw[←hW1];exact mx_al _ _
  have hc1:Boxed W1 (w.heap.size+1) 32 (.int .i64 0):=by rw[←hW1,←hz0];exact Boxed.new _ _ _
  have hz1:W1.heap.size=w.heap.size+2:=by rw[←hW1];simp[hz0]
  have hc0':Boxed W1 w.heap.size 4 (.bool false):=by rw[←hW1];exact HC0.out.alloc _
  obtain⟨W1',hW1'⟩: ∃x,W1=x:=⟨_,rfl⟩
  have hc1':Boxed W1' (w.heap.size+1) 32 (.int .i64 0):=by rw[←hW1'];exact hc1
  have hc0'':Boxed W1' w.heap.size 4 (.bool false):=by rw[←hW1'];exact hc0'
  have hz1':W1'.heap.size=w.heap.size+2:=by rw[←hW1'];exact hz1
  have hb1':Below W0.heap.size W0 W1':=by rw[←hW1'];exact hb1
  obtain⟨W2,hW2⟩: ∃x,W1'.alloc (.cells #[.slice A xs.length c] 34)=x:=⟨_,rfl⟩
  have hb2:Below W1'.heap.size W1' W2:=by rw[←hW2];exact mx_al _ _
  have hc2:W2.cell? ⟨w.heap.size+2,0,none⟩=some (.slice A xs.length c):=by rw[←hW2,←hz1'];exact mx_cell (j:=0) (World.alloc_heap_new _ _)
  have hz2:W2.heap.size=w.heap.size+3:=by rw[←hW2];simp[hz1']
  have hbw:Below w.heap.size w W2:=HB0.out.trans ((hb1'.trans (hb2.mono (by omega))).mono (by omega))
  have HSEQ:=Lib.hid (sorted_stops (fun g=>g=w.heap.size∨g=w.heap.size+1) (w.heap.size+2) _ xs W2 hc2 ((HU0.out.below hb1').below hb2) hlen (fun g hg=>by omega))
  have HI0:=Lib.hid (show AI w [] W2 from⟨by rw[←hW2];exact hc0''.alloc _,by rw[←hW2];exact hc1'.alloc _,hbw,rfl⟩)
  obtain⟨ys,hys⟩: ∃y,normL xs=y:=⟨_,rfl⟩
  rw[hys]at HSEQ hres
  have HRS:=Lib.hid hres
  have HW1:=Lib.hid hW1
  have HW1':=Lib.hid hW1'
  have HW2:=Lib.hid hW2
  have r1:=hc1.cell
  have r2:=hc1.frozen
  clear hb1 hc1 hW1 hW2 hb2 hc2 hbw hys hc0' hc1' hc0'' hb1' hW1' hres q1 q2
  rw[←HW1.out]at r1 r2
  gi_wp2_with fail
  clear r1 r2
  rw[HW1.out]
  rw[HW1'.out]
  refine⟨trivial,?_⟩
  refine(callsIn_wide.2 (sorted_run A xs.length c W1')).mono ?_
  rintro e W' ⟨rfl,rfl⟩
  rw[HW2.out]
  gi_wp2_with fail
  refine wpIn_range_M (gf:=117) (lb:= #[.pointer (some ⟨w.heap.size+2,0,none⟩)]) rfl (enters_of Tryz.func117 (by kernel_rfl) rfl) HSEQ.out (Below.refl _ _) (fun _=>rfl)
   (fun pre x W W3 l r r' h1 h2 h3 h4=>SPost.turn h4 h3) (fun pre x W W3 l r r' h1 h2 h3 h4=>trivial)
   (AI w) (AX w) (ai_own _ (by omega)) (ax_own _ (by omega)) HI0.out
   ?frame (GMid (fun g=>g=w.heap.size∨g=w.heap.size+1) (AI w) ys (W2.heap.size+2))
   (fun pre x W Bx W' l r r' h1 h2 h3 h4=>h4.turn (ai_own _ (by omega)) h1 h3)
   ?assign ?body ?done ?stop
  case assign=>
   rintro l pre x W K hi hp hK
   dsimp only[sv]
   gi_wp2
   obtain⟨Bx,hBx⟩: ∃b:Nat,b=0:=⟨0,rfl⟩
   exact hK Bx W (KeepsRec.refl W) ⟨hi,hp,KpC.refl _ _⟩
  case body=>
   rintro l pre x W Bx W' ⟨hi,hp,hk⟩
   have HK:=Lib.hid hk
   have HI:=Lib.hid hi
   have r1:=hi.last.cell
   have r2:=hi.last.frozen
   have r3:=hi.res.cell
   have r4:=hi.res.frozen
   obtain⟨x1,hx1⟩: ∃z,x.1=z:=⟨_,rfl⟩
   rw[hx1]
   have hsn:=alwGo_snoc 0 x1 (pre.map Prod.fst)
   rw[hi.no,Bool.false_or]at hsn
   have hsl:=lastG_snoc 0 x1 (pre.map Prod.fst)
   obtain⟨la,hla⟩: ∃z,lastG 0 (pre.map Prod.fst)=z:=⟨_,rfl⟩
   rw[hla]at hsn r1
   have HMP:=Lib.hid (show(pre++ [x]).map Prod.fst=pre.map Prod.fst++ [x1] by rw[List.map_append,←hx1];rfl)
   have HSL:=Lib.hid hsl
   have HSN:=Lib.hid hsn
   have HNG:=Lib.hid (lit_neg la W')
   clear hi hp hk hx1 hsl hla
   cases hz:(la != 0)with
   | false=>
    rw[hz,Bool.false_and]at hsn
    have HSN:=Lib.hid hsn
    clear hsn
    gi_wp2_with fail
    refine⟨trivial,?_⟩
    gi_wp2_with fail
    refine⟨keepsRec_set _ _ _,⟨boxed_neq HI.out.res (by omega),?_,HI.out.below.setCell (p:=⟨w.heap.size+1,0,none⟩) (Nat.le_succ _) _,by rw[HMP.out];exact HSN.out⟩,HK.out.trans (spost_set _ _ _ (.inr rfl))⟩
    rw[HMP.out,HSL.out]
    exact HI.out.last.set _
   | true=>
    rw[hz,Bool.true_and]at hsn
    cases hq:(x1==litN la)with
    | false=>
     rw[hq]at hsn
     have HSN:=Lib.hid hsn
     clear hsn
     gi_wp2_with fail
     refine⟨trivial,((CallsIn.inRound l (callsIn_wide.2 HNG.out)).mono ?_)⟩
     rintro e W4 ⟨rfl,rfl⟩
     gi_wp2_with fail
     refine⟨keepsRec_set _ _ _,⟨boxed_neq HI.out.res (by omega),?_,HI.out.below.setCell (p:=⟨w.heap.size+1,0,none⟩) (Nat.le_succ _) _,by rw[HMP.out];exact HSN.out⟩,HK.out.trans (spost_set _ _ _ (.inr rfl))⟩
     rw[HMP.out,HSL.out]
     exact HI.out.last.set _
    | true=>
     rw[hq]at hsn
     have HSN:=Lib.hid hsn
     clear hsn
     gi_wp2_with fail
     refine⟨trivial,((CallsIn.inRound l (callsIn_wide.2 HNG.out)).mono ?_)⟩
     rintro e W4 ⟨rfl,rfl⟩
     gi_wp2_with fail
     exact⟨keepsRec_set _ _ _,⟨HI.out.res.set _,HI.out.below.setCell (p:=⟨w.heap.size,0,none⟩) (Nat.le_refl _) _,by rw[HMP.out];exact HSN.out⟩,trivial⟩
  case done=>
   rintro D zs W hD hS hi hDf
   have q1:=hi.res.cell
   have q2:=hi.res.frozen
   have HI:=Lib.hid hi
   have HD:=Lib.hid hDf
   have HNO:=Lib.hid (show alwGo 0 ys=false by rw[←hS];exact hi.no)
   have hne:D≠w.heap.size:=by omega
   clear hi hDf hS
   gi_wp2
   have hD':(W.setCell ⟨w.heap.size,0,none⟩ (.bool false)).heap[D]? =some (.deferred (some [])):=((grownBy_setCell' W w.heap.size (.bool false)).block D (heap_lt HD.out) (fun e=>hne (Option.some.inj e))).trans HD.out
   refine⟨by simp,.inl ⟨_,_,rfl,run_takeDeferred hD',?_⟩⟩
   refine⟨_,res_bool rfl (boxed_grown (HI.out.res.set (.bool false)) (grownBy_putObj' _ D _) (fun r e=>by cases e;exact⟨_,hD',rfl⟩)) _ rfl,by rw[←HRS.out,HNO.out],?_⟩
   have hb:=HI.out.below.setCell (p:=⟨w.heap.size,0,none⟩) (Nat.le_refl _) (.bool false)
   exact hb.grown (grownBy_putObj' _ D _) hb.size (fun g e=>by cases e;omega)
  case stop=>
   rintro D pre W hD ⟨hpre,_⟩ hi hDf
   have HI:=Lib.hid hi
   have HD:=Lib.hid hDf
   have HYE:=Lib.hid (alwGo_pre hpre hi.yes)
   clear hi hDf hpre
   gi_wp2
   refine⟨by simp,.inl ⟨_,_,rfl,run_takeDeferred HD.out,?_⟩⟩
   refine⟨_,res_bool rfl (boxed_grown HI.out.res (grownBy_putObj' _ D _) (fun r e=>by cases e;exact⟨_,HD.out,rfl⟩)) _ rfl,by rw[←HRS.out,HYE.out],?_⟩
   exact HI.out.below.grown (grownBy_putObj' _ D _) HI.out.below.size (fun g e=>by cases e;omega)
theorem res_norm {fn:Func} (h:fn.results= #[.tmp 2,.tmp 3,.tmp 4]) (tmps:Array Value) (w:World):(results fn tmps).run Tryz.prog w= .ok (.tuple #[tmps.getD 2 undef,tmps.getD 3 undef,tmps.getD 4 undef]) w:=by
 simp[results,h]
def NormOut (w w':World) (xs:List Int) (e:Ending):Prop:=
 if clauseB xs=true then∃v,e= .returned (.tuple #[v,.bool (alwL xs),.int .i64 0])∧w'.ownsRow w.heap.size 32 1 v (normL xs).length ((normL xs).map (Value.int .i64))
 else e= .returned (.tuple #[.slice none 0 0,.bool false,.int .i64 20])
set_option maxHeartbeats 1000000 in
theorem norm_any {O:Nat→Prop} (u:Value) (xs:List Int) (w:World) (hu:IntsIn O w u xs) (hlen:xs.length≤1000000000000):
  Calls Tryz.prog 190 #[u] w fun e w'=>NormOut w w' xs e∧Below w.heap.size w w':=by
 have HR:=Lib.hid (right_clause u xs w hu (by omega))
 have HN:=Lib.hid (normal_any u xs w hu hlen)
 have HU:=Lib.hid hu
 obtain⟨A,c,rfl,_⟩:=hu
 unfold NormOut
 obtain⟨q,hq⟩: ∃b,clauseB xs=b:=⟨_,rfl⟩
 rw[hq]at HR⊢
 clear hq
 cases q with
 | false=>
  simp only[Bool.false_eq_true,if_false]
  go_enter Tryz.func190,Tryz.ntmps190
  go_wp2_with fail
  refine HR.out.mono ?_
  rintro e w' ⟨rfl,rfl⟩
  go_wp2_with fail
  refine bodyPost_ret (res_norm rfl _ _) rfl ?_
  exact⟨rfl,Below.refl _ _⟩
 | true=>
  simp only[if_true]
  go_enter Tryz.func190,Tryz.ntmps190
  go_wp2_with fail
  refine HR.out.mono ?_
  rintro e w' ⟨rfl,rfl⟩
  go_wp2_with fail
  refine HN.out.mono ?_
  rintro e w1 ⟨v,rfl,hr,hb⟩
  have HV:=Lib.hid hr
  have HB:=Lib.hid hb
  have HA:=Lib.hid (always_any _ xs w1 (HU.out.below hb) hlen)
  obtain⟨res,hres⟩: ∃b,alwL xs=b:=⟨_,rfl⟩
  rw[hres]at HA
  have HRS:=Lib.hid hres
  obtain⟨Av,cv,rfl,_⟩:=mx_slice hr
  clear hr hb hres
  go_wp2_with fail
  refine HA.out.mono ?_
  rintro e w2 ⟨rfl,hb2⟩
  have HB2:=Lib.hid hb2
  clear hb2
  go_wp2_with fail
  refine bodyPost_ret (res_norm rfl _ _) rfl ?_
  refine⟨⟨.slice Av (normL xs).length cv,?_,own_below HV.out HB2.out⟩,HB.out.trans (HB2.out.mono HB.out.size)⟩
  rw[HRS.out]
  rfl
end Go.Proofs.YtoojmhjagipmdaaGreat
