/- Plain: what minim.Conflict returns is the outcome of a conflict too: fewer literals, and the chain of its hints. The law of salvorlaw15.conflict: a search up to the first clause that fails. slices.BinarySearchFunc over literals in their order. package clauses: Within, where it holds. Plain: what is left of a clause: shortened again it stays, nothing of it but the first is redundant, and it covers all that went. Plain: hints that are right cover the clause that fails; with more literals there are no more; without, a decision is met that is none of the clause's. package salvorlaw14: Possible, Free. Plain: a search ends: what is learned is told apart by codes, levels are never empty; with all variables assigned the clauses hold. Plain: what a search keeps from turn to turn. AnalyzeSearch: the walk. -/
import Derived.Test.YtoojmhjagipmdaaGreatV313
import Derived.Test.YtoojmhjagipmdaaGreatV331
import Derived.Test.YtoojmhjagipmdaaGreatV327
import Derived.Test.YtoojmhjagipmdaaGreatV309
import Derived.Test.YtoojmhjagipmdaaGreatV314
import Derived.Test.YtoojmhjagipmdaaGreatV301
import Derived.Test.YtoojmhjagipmdaaGreatV325
namespace Go.Proofs.YtoojmhjagipmdaaGreat
open Go.RowKit
section
variable {A:Arn} {C:Int→Option (List Int)} {T:Trl} {its:List RIt}
theorem why15_of (h:Sim T its) (hA: ∀j,A.get j=C j) {p:Nat} {x:RIt} (hp:its[p]? =some x) {d:List Int} (hd:C x.reason=some d) (hm:x.lit∈d) (ho: ∀y∈d,y≠x.lit→HasAt its p (-y)):why15 A T (litV x.lit:Nat)=some (x.reason,rest15 (litV x.lit:Nat) d):=by
 have hr:rightB A T (litV x.lit:Nat)=true:=by
  rw[rightB_at h A hp,rightP_some (h.rsn hp) ((hA _).trans hd),if_pos]
  ·rfl
  refine⟨by rw[h.why hp];rfl,List.contains_iff_mem.2 hm,before_true fun y hy hne=>?_⟩
  obtain⟨q,z,hq,hz,e⟩:=ho y hy hne
  obtain⟨_,_,h1,h2,_⟩:=at_fal h hz e
  rw[h2,h.plc hp]
  exact⟨h1,by omega⟩
 unfold why15
 rw[if_pos hr,h.rsn hp,hA,hd]
theorem why15_is (h:Sim T its) (hA: ∀j,A.get j=C j) {p:Nat} {x:RIt} (hp:its[p]? =some x) {r:Int×List Int} (hw:why15 A T (litV x.lit:Nat)=some r):
  ∃d,C x.reason=some d∧x.lit∈d∧r=(x.reason,rest15 (litV x.lit:Nat) d)∧∀y∈d,y≠x.lit→y∈r.2∧HasAt its p (-y):=by
 have hrB:rightB A T (litV x.lit:Nat)=true:=by
  have hw2:=hw
  unfold why15 at hw2
  split at hw2
  ·assumption
  ·cases hw2
 obtain⟨d,hd,hre⟩:=why15_get hw
 rw[h.rsn hp]at hd hre
 rw[rightB_at h A hp]at hrB
 obtain⟨d',hd'⟩:=Option.isSome_iff_exists.1 hrB
 rw[rightP_some (h.rsn hp) hd]at hd'
 split at hd'
 ·rename_i hcnd
  obtain⟨_,h2,h3⟩:=hcnd
  refine⟨d,(hA _).symm.trans hd,List.contains_iff_mem.1 h2,hre,fun y hy hne=>?_⟩
  obtain⟨g1,g2⟩:=(before_eq T _ _ _).1 h3 y hy hne
  have hyr:y∈r.2:=by
   rw[hre]
   refine List.mem_filter.2 ⟨hy,decide_eq_true fun e=>?_⟩
   have e2:litV y=litV x.lit:=by omega
   rw[e2]at g2
   omega
  obtain⟨h4,h5⟩:=why15_rest h hp hw y hyr
  obtain⟨q,z,hq,rfl,e⟩:=h.fal h4
  rw[←e,h.rp hq]at h5
  exact⟨hyr,q,z,by omega,hq,(Int.neg_neg _).symm⟩
 ·cases hd'
theorem imp_lift (h:Sim T its) {L L':List Int} (hcv: ∀(p:Nat) (x:RIt),its[p]? =some x→ -x.lit∈L→ -x.lit∈L'∨impl15 A T L (litV x.lit:Nat)=true): ∀(p:Nat) (x:RIt),its[p]? =some x→impl15 A T L (litV x.lit:Nat)=true→impl15 A T L' (litV x.lit:Nat)=true:=by
 intro p
 induction p using Nat.strongRecOn with
 | ind p ih=>
  intro x hp hi
  rw[impl15_at h L hp]at hi
  rw[impl15_at h L' hp]
  cases hw:why15 A T (litV x.lit:Nat)with
  | none=>
   rw[hw]at hi
   cases hi
  | some r=>
   rw[hw]at hi
   simp only at hi⊢
   rw[List.all_eq_true]at hi⊢
   intro z hz
   obtain⟨h1,h2⟩:=why15_rest h hp hw z hz
   have h3:=hi z hz
   obtain⟨q,y,hq,rfl,e⟩:=h.fal h1
   rw[←e,h.rp hq]at h2
   unfold cov15 at h3⊢
   rw[Bool.or_eq_true,←e]at h3⊢
   rcases h3 with h3|h3
   ·rcases hcv q y hq (List.contains_iff_mem.1 h3)with g|g
    ·exact .inl (List.contains_iff_mem.2 g)
    ·exact .inr (ih q (by omega) y hq g)
   ·exact .inr (ih q (by omega) y hq h3)
theorem Chain.imp {L c:List Int} {R:List Nat} (ch:Chain C its L c R) (h:Sim T its) (hA: ∀j,A.get j=C j): ∀(r:Nat) (x:RIt),r∈R→its[r]? =some x→impl15 A T L (litV x.lit:Nat)=true:=by
 intro r
 induction r using Nat.strongRecOn with
 | ind r ih=>
  intro x hr hp
  obtain⟨z,d,a1,a2,a3,a4⟩:=ch.rs r hr
  rw[hp]at a1
  obtain rfl:=Option.some.inj a1
  rw[impl15_at h L hp,why15_of h hA hp a2 a3 (fun y hy hne=>by
   obtain⟨q,x',g1,g2,g3,_⟩:=a4 y hy hne
   exact⟨q,x',g1,g2,g3⟩)]
  simp only
  rw[List.all_eq_true]
  intro y hy
  obtain⟨hy1,hy2⟩:=List.mem_filter.1 hy
  have hne:y≠x.lit:=fun e=>of_decide_eq_true hy2 (by rw[e])
  obtain⟨q,x',g1,g2,g3,g4⟩:=a4 y hy1 hne
  unfold cov15
  rw[Bool.or_eq_true]
  rcases g4 with g4|g4
  ·right
   have:=ih q g1 x' g4 g2
   rwa [show litV x'.lit=litV y from by rw[g3,litV_negate]]at this
  ·left
   exact List.contains_iff_mem.2 g4
def keepB (A:Arn) (T:Trl) (c:List Int) (l:Int):Bool:=decide (c.head? =some l)|| !(impl15 A T c (litV l))
structure MtO (A:Arn) (C:Int→Option (List Int)) (T:Trl) (its:List RIt) (L c:List Int) (p:Nat) (s:List Int×List Int) (R:List Nat):Prop where
 rdn:R.Pairwise (· > ·)
 rge: ∀q∈R,p≤q
 hints:s.1.filterMap (hintV A T L)=R.map (rsAt its)
 ok: ∀v∈s.1,badV A T L v=false
 ms: ∀v∈s.2,∃(q:Nat) (x:RIt),its[q]? =some x∧v=((litV x.lit:Nat):Int)∧cov15 A T L (-x.lit)=true
 all: ∀(q:Nat) (x:RIt),p≤q→its[q]? =some x→((litV x.lit:Nat):Int)∈s.2→q∈R∨ -x.lit∈L
 src: ∀(q:Nat) (x:RIt),its[q]? =some x→((litV x.lit:Nat):Int)∈s.2→ -x.lit∈c∨∃(r':Nat) (z:RIt) (d:List Int),q<r'∧r'∈R∧its[r']? =some z∧C z.reason=some d∧ -x.lit∈d
 cov: ∀y∈c,((litV y:Nat):Int)∈s.2
 covR: ∀r∈R,∃(z:RIt) (d:List Int),its[r]? =some z∧C z.reason=some d∧z.lit∈d∧((litV z.lit:Nat):Int)∈s.2∧∀y∈d,y≠z.lit→HasAt its r (-y)∧((litV y:Nat):Int)∈s.2
 dis: ∀r∈R,-(litAt its r)∉L
theorem inC_iff (h:Sim T its) {L:List Int} (hf: ∀y∈L,Has its (-y)) {p:Nat} {x:RIt} (hp:its[p]? =some x):inC L (litV x.lit:Nat)=true↔ -x.lit∈L:=by
 unfold inC
 rw[List.any_eq_true]
 constructor
 ·rintro ⟨y,hy,e⟩
  have e:=of_decide_eq_true e
  obtain⟨q,z,hq,ez⟩:=hf y hy
  have hv:litV z.lit=litV y:=by rw[ez,litV_negate]
  have:=h.inj hq hp (by omega)
  subst this
  rw[hq]at hp
  obtain rfl:=Option.some.inj hp
  rw[ez,Int.neg_neg]
  exact hy
 ·intro hl
  exact⟨_,hl,decide_eq_true (by rw[litV_negate])⟩
theorem MtO.step {L c:List Int} {p:Nat} {s:List Int×List Int} {R:List Nat} (o:MtO A C T its L c (p+1) s R) (h:Sim T its) (hA: ∀j,A.get j=C j) (hf: ∀y∈L,Has its (-y)) {x:RIt} (hp:its[p]? =some x): ∃R',MtO A C T its L c p (mStep (rho A T L) s x.lit) R':=by
 unfold mStep
 by_cases hm:((litV x.lit:Nat):Int)∈s.2
 ·rw[if_pos (List.contains_iff_mem.2 hm)]
  have hcv:cov15 A T L (-x.lit)=true:=by
   obtain⟨q,z,hq,e,hc⟩:=o.ms _ hm
   have:=h.inj hq hp (by omega)
   subst this
   rw[hq]at hp
   obtain rfl:=Option.some.inj hp
   exact hc
  by_cases hl: -x.lit∈L
  ·have hin:=(inC_iff h hf hp).2 hl
   have hrho:rho A T L (litV x.lit:Nat)= []:=by
    unfold rho
    rw[if_pos hin]
   have hhv:hintV A T L (litV x.lit:Nat)=none:=by
    unfold hintV
    rw[if_pos hin]
   have hbv:badV A T L (litV x.lit:Nat)=false:=by
    unfold badV
    rw[hin]
    rfl
   rw[hrho,show varsI []= []from rfl,List.append_nil]
   exact⟨R,{
    rdn:=o.rdn
    rge:=fun q hq=>by
     have:=o.rge q hq
     omega
    hints:=by
     rw[List.filterMap_append,o.hints]
     simp[hhv]
    ok:=fun v hv=>by
     rcases List.mem_append.1 hv with hv|hv
     ·exact o.ok v hv
     ·rw[List.mem_singleton.1 hv]
      exact hbv
    ms:=o.ms
    all:=fun q z hq hz hv=>by
     by_cases e:q=p
     ·subst e
      rw[hp]at hz
      obtain rfl:=Option.some.inj hz
      exact .inr hl
     ·exact o.all q z (by omega) hz hv
    src:=o.src
    cov:=o.cov
    covR:=o.covR
    dis:=o.dis }⟩
  ·have hin:inC L (litV x.lit:Nat)=false:=by
    cases hc:inC L (litV x.lit:Nat)with
    | false=>rfl
    | true=>exact absurd ((inC_iff h hf hp).1 hc) hl
   have him:impl15 A T L (litV x.lit:Nat)=true:=by
    unfold cov15 at hcv
    rw[Bool.or_eq_true,litV_negate]at hcv
    exact hcv.resolve_left fun g=>hl (List.contains_iff_mem.1 g)
   rw[impl15_at h L hp]at him
   cases hw:why15 A T (litV x.lit:Nat)with
   | none=>
    rw[hw]at him
    cases him
   | some r=>
    rw[hw]at him
    simp only at him
    rw[List.all_eq_true]at him
    have hrest:=why15_rest h hp hw
    obtain⟨d,hd,hmd,hre,hdd⟩:=why15_is h hA hp hw
    have hrho:rho A T L (litV x.lit:Nat)=r.2:=by
     unfold rho
     rw[if_neg (by rw[hin];decide),hw]
    have hhv:hintV A T L (litV x.lit:Nat)=some x.reason:=by
     unfold hintV
     rw[if_neg (by rw[hin];decide),hw,hre]
     rfl
    have hbv:badV A T L (litV x.lit:Nat)=false:=by
     unfold badV
     rw[hin,hw]
     rfl
    have hnew: ∀v∈varsI r.2,∃(q:Nat) (z:RIt),its[q]? =some z∧v=((litV z.lit:Nat):Int)∧q<p∧ -z.lit∈d∧cov15 A T L (-z.lit)=true:=fun v hv=>by
     obtain⟨y,hy,rfl⟩:=List.mem_map.1 hv
     obtain⟨h1,h2⟩:=hrest y hy
     have h3:=him y hy
     have h4:y∈d:=by
      rw[hre]at hy
      exact(List.mem_filter.1 hy).1
     obtain⟨q,z,hq,rfl,e⟩:=h.fal h1
     rw[←e,h.rp hq]at h2
     exact⟨q,z,hq,by rw[e],by omega,h4,h3⟩
    rw[hrho]
    exact⟨R++ [p],{
     rdn:=List.pairwise_append.2 ⟨o.rdn,List.pairwise_singleton _ _,fun a ha b hb=>by
      have:=o.rge a ha
      rw[List.mem_singleton.1 hb]
      omega⟩
     rge:=fun q hq=>by
      rcases List.mem_append.1 hq with hq|hq
      ·have:=o.rge q hq
       omega
      ·rw[List.mem_singleton.1 hq]
       exact Nat.le_refl _
     hints:=by
      rw[List.filterMap_append,o.hints,List.map_append]
      simp[hhv,rsAt_eq hp]
     ok:=fun v hv=>by
      rcases List.mem_append.1 hv with hv|hv
      ·exact o.ok v hv
      ·rw[List.mem_singleton.1 hv]
       exact hbv
     ms:=fun v hv=>by
      rcases List.mem_append.1 hv with hv|hv
      ·exact o.ms v hv
      ·obtain⟨q,z,hq,e,_,_,hc⟩:=hnew v hv
       exact⟨q,z,hq,e,hc⟩
     all:=fun q z hq hz hv=>by
      by_cases e:q=p
      ·exact .inl (List.mem_append_right _ (List.mem_singleton.2 e))
      ·rcases List.mem_append.1 hv with hv|hv
       ·exact(o.all q z (by omega) hz hv).imp_left fun g=>List.mem_append_left _ g
       ·obtain⟨q2,z2,hq2,e2,hlt,_⟩:=hnew _ hv
        have:=h.inj hz hq2 (by omega)
        omega
     src:=fun q z hz hv=>by
      rcases List.mem_append.1 hv with hv|hv
      ·refine(o.src q z hz hv).imp_right ?_
       rintro ⟨r',z',d',b1,b2,b3⟩
       exact⟨r',z',d',b1,List.mem_append_left _ b2,b3⟩
      ·obtain⟨q2,z2,hq2,e2,hlt,hmd2,_⟩:=hnew _ hv
       have:=h.inj hz hq2 (by omega)
       subst this
       rw[hz]at hq2
       obtain rfl:=Option.some.inj hq2
       exact .inr ⟨p,x,d,hlt,List.mem_append_right _ (List.mem_singleton.2 rfl),hp,hd,hmd2⟩
     cov:=fun y hy=>List.mem_append_left _ (o.cov y hy)
     covR:=fun q hq=>by
      rcases List.mem_append.1 hq with hq|hq
      ·obtain⟨z,d',a1,a2,a3,a4,a5⟩:=o.covR q hq
       exact⟨z,d',a1,a2,a3,List.mem_append_left _ a4,fun y hy hne=>⟨(a5 y hy hne).1,List.mem_append_left _ (a5 y hy hne).2⟩⟩
      ·rw[List.mem_singleton.1 hq]
       exact⟨x,d,hp,hd,hmd,List.mem_append_left _ hm,fun y hy hne=>⟨(hdd y hy hne).2,List.mem_append_right _ (List.mem_map.2 ⟨y,(hdd y hy hne).1,rfl⟩)⟩⟩
     dis:=fun q hq=>by
      rcases List.mem_append.1 hq with hq|hq
      ·exact o.dis q hq
      ·rw[List.mem_singleton.1 hq,litAt_eq hp]
       exact hl }⟩
 ·rw[if_neg (fun g=>hm (List.contains_iff_mem.1 g))]
  exact⟨R,{ o with
   rge:=fun q hq=>by
    have:=o.rge q hq
    omega
   all:=fun q z hq hz hv=>by
    by_cases e:q=p
    ·subst e
     rw[hp]at hz
     obtain rfl:=Option.some.inj hz
     exact absurd hv hm
    ·exact o.all q z (by omega) hz hv }⟩
theorem MtO.run {L c:List Int} (h:Sim T its) (hA: ∀j,A.get j=C j) (hf: ∀y∈L,Has its (-y)): ∀(p:Nat) (s:List Int×List Int) (R:List Nat),p≤its.length→MtO A C T its L c p s R→∃R',MtO A C T its L c 0 (mRun (rho A T L) s ((its.take p).reverse.map RIt.lit)) R':=by
 intro p
 induction p with
 | zero=>
  intro s R _ o
  exact⟨R,o⟩
 | succ p ih=>
  intro s R hl o
  obtain⟨x,hp⟩:=getElem_of (show p<its.length by omega)
  have e:(its.take (p+1)).reverse.map RIt.lit=x.lit::(its.take p).reverse.map RIt.lit:=by
   rw[List.take_add_one,hp]
   simp
  rw[e]
  obtain⟨R1,o1⟩:=o.step h hA hf hp
  exact ih _ _ (by omega) o1
theorem hints_chain (h:Sim T its) (hA: ∀j,A.get j=C j) {L c:List Int} {id:Int} (hcc:C id=some c) (hb:clauseB c=true) (hc: ∀y∈c,Has its (-y)) (hf: ∀y∈L,Has its (-y)) (hcv: ∀y∈c,cov15 A T L y=true):
  ∃R,hintP A T L id=(R.map (rsAt its)++ [id],0)∧Chain C its L c R:=by
 have h0:MtO A C T its L c its.length ([],varsI c) []:={
  rdn:=List.Pairwise.nil
  rge:=fun q hq=>by cases hq
  hints:=rfl
  ok:=fun v hv=>by cases hv
  ms:=fun v hv=>by
   obtain⟨y,hy,rfl⟩:=List.mem_map.1 hv
   obtain⟨q,x,hq,e⟩:=hc y hy
   exact⟨q,x,hq,by rw[e,litV_negate],by rw[e,Int.neg_neg];exact hcv y hy⟩
  all:=fun q x hq hx=>by
   have:=(List.getElem?_eq_some_iff.1 hx).1
   omega
  src:=fun q x hx hv=>by
   obtain⟨y,hy,e⟩:=List.mem_map.1 hv
   obtain⟨q2,x2,hq2,e2⟩:=hc y hy
   have hv2:litV x2.lit=litV y:=by rw[e2,litV_negate]
   have:=h.inj hx hq2 (by omega)
   subst this
   rw[hx]at hq2
   obtain rfl:=Option.some.inj hq2
   left
   rw[e2,Int.neg_neg]
   exact hy
  cov:=fun y hy=>List.mem_map.2 ⟨y,hy,rfl⟩
  covR:=fun r hr=>by cases hr
  dis:=fun r hr=>by cases hr }
 obtain⟨R,o⟩:=MtO.run h hA hf its.length _ [] (Nat.le_refl _) h0
 rw[List.take_length,List.map_reverse,←h.order]at o
 have hfe:failE T c=0:=by
  unfold failE
  rw[if_neg (by rw[hb];decide),if_neg]
  intro hany
  rw[List.any_eq_true]at hany
  obtain⟨y,hy,e⟩:=hany
  obtain⟨q,x,hq,ex⟩:=hc y hy
  obtain⟨_,_,h1,_⟩:=at_fal h hq ex
  have:=of_decide_eq_true e
  omega
 refine⟨R.reverse,?_,?_⟩
 ·unfold hintP
  rw[(hA id).trans hcc]
  simp only
  rw[if_neg (by rw[hfe];decide),if_neg]
  ·unfold mAll
   rw[o.hints,List.map_reverse]
  ·intro hany
   rw[List.any_eq_true]at hany
   obtain⟨v,hv,e⟩:=hany
   have:=o.ok v hv
   rw[e]at this
   cases this
 ·have hK: ∀(q:Nat) (x:RIt) (y:Int),its[q]? =some x→x.lit= -y→((litV y:Nat):Int)∈(mRun (rho A T L) ([],varsI c) T.order.reverse).2→q∈R.reverse∨y∈L:=fun q x y hq e hv=>by
   rw[List.mem_reverse]
   refine(o.all q x (Nat.zero_le _) hq (by rw[(at_fal h hq e).2.1];exact hv)).imp_right fun hk=>?_
   rwa [e,Int.neg_neg]at hk
  exact {
   up:=by
    rw[List.pairwise_reverse]
    exact o.rdn
   rs:=fun r hr=>by
    rw[List.mem_reverse]at hr
    obtain⟨z,d,a1,a2,a3,_,a5⟩:=o.covR r hr
    refine⟨z,d,a1,a2,a3,fun y hy hne=>?_⟩
    obtain⟨⟨q,x,hq,hx,e⟩,hv⟩:=a5 y hy hne
    exact⟨q,x,hq,hx,e,hK q x y hx e hv⟩
   cl:=fun y hy=>by
    obtain⟨q,x,hq,e⟩:=hc y hy
    exact⟨q,x,hq,e,hK q x y hq e (o.cov y hy)⟩
   dis:=fun r hr=>o.dis r (List.mem_reverse.1 hr)
   need:=fun r hr=>by
    rw[List.mem_reverse]at hr
    obtain⟨z,d,a1,_,_,a4,_⟩:=o.covR r hr
    rw[litAt_eq a1]
    refine(o.src r z a1 a4).imp_right ?_
    rintro ⟨r',z',d',b1,b2,b3⟩
    exact⟨r',z',d',b1,List.mem_reverse.2 b2,b3⟩
   fal:=hf }
theorem ConfO.nodup {id lv:Int} {c:List Int} {x:Lrn} {R K:List Nat} (o:ConfO C T its id c lv x R K) (h:Sim T its):x.lits.Nodup:=by
 rw[o.lits]
 refine List.pairwise_map.2 (o.kdn.imp_of_mem ?_)
 intro a b ha hb hab e
 obtain⟨za,hza⟩:=getElem_of (o.kin a ha).1
 obtain⟨zb,hzb⟩:=getElem_of (o.kin b hb).1
 rw[litAt_eq hza,litAt_eq hzb]at e
 have:=h.inj hza hzb (by rw[show za.lit=zb.lit by omega])
 omega
end
end Go.Proofs.YtoojmhjagipmdaaGreat
namespace Go.Proofs.YtoojmhjagipmdaaGreat
open Go.RowKit
set_option maxRecDepth 100000 in
set_option maxHeartbeats 4000000 in
theorem law_conflict15 (v0 v1:Value) (x:List (List Int)) (l:List Int) (cs:List (List Int)) (w:World) (h0:RowsAt .i8 w v0 x) (h1:RowAt .i8 w v1 l) (hcs:(x.take 14).map madeL=cs) (h6:Six cs):
  Calls Tryz.prog 23 #[v0,v1] w fun e w'=> ∃w2 sb b a t lab T its S id av us,e= .returned (.tuple #[.pointer (some ⟨sb,0,none⟩),.int .i64 id,.bool true])∧Below w.heap.size w w2∧SrAt w2 w' lab sb b a t (addAll arn0 0 cs) T S cs av us∧Sr cs T its S id:=by
 have H0:=Lib.hid h0
 have H1:=Lib.hid h1
 obtain⟨A0,c0,rfl,_⟩:=h0
 obtain⟨A1,c1,rfl,hc1,hm1,hn1,hwf1,hx1⟩:=h1
 have HWF:=Lib.hid hwf1
 have HX1:=Lib.hid hx1
 clear hwf1 hx1 hn1
 go_enter Tryz.func23,Tryz.ntmps23
 go_wp2_with fail
 refine(all_any _ x 14 w H0.out (by decide)).mono ?_
 rintro e w2 ⟨v,rfl,hcl,hb2⟩
 rw[hcs]at hcl
 have HB2:=Lib.hid (hb2)
 have hca:=hcl.cls
 obtain⟨Av,cv,rfl,_⟩:=id hca
 have HBE:=Lib.hid (law_begin Av cv cs w2 hca hcl.clsIn h6)
 clear hb2 hcl hca
 go_wp2_with fail
 refine HBE.out.mono ?_
 rintro e w3 ⟨sb,b,a,t,lab,T,its,S,id,av,us,rfl,hsr,hs,hnw⟩
 have HSR:=Lib.hid hsr
 have HS:=Lib.hid hs
 have HNW:=Lib.hid (show T.now≤((0:Nat):Int)from by rw[hnw];exact Int.le_refl _)
 clear hsr hs hnw HBE
 go_wp2_with fail
 go_loopw [8,9,10] (fun iv okv kv wr=> ∃(k:Nat) (id:Int) (labr:Nat→Nat) (T:Trl) (its:List RIt) (S:Wst),kv= .int .i64 k∧iv= .int .i64 id∧okv= .bool true∧k≤8∧Hid (T.now≤k)∧Hid (SrAt w2 wr labr sb b a t (addAll arn0 0 cs) T S cs av us)∧Hid (Sr cs T its S id)) (fun _ _ kv _=>9-(intOf kv).toNat)
 case atStart=>exact⟨0,id,lab,T,its,S,rfl,rfl,rfl,by decide,HNW,HSR,HS⟩
 case round=>
  obtain⟨k,id,labr,T,its,S,rfl,rfl,rfl,hk8,HNK,HL,HG⟩:=hrel
  obtain⟨N,hN⟩: ∃N:Nat,min l.length 8=N:=⟨_,rfl⟩
  have hNi:min (l.length:Int) 8=(N:Int):=by omega
  have HNN:=Lib.hid hN
  clear hN
  go_upto_region 3 with fail
  go_cut [29] (fun q wx=>q= .bool (decide (id=0)&&decide (k<N))∧wx=wr)
  case first=>
   by_cases hz:id=0
   ·have qz:(id==0)=true:=by simpa using hz
    go_wp2_with fail
    go_meet
    exact⟨by rw[decide_eq_true hz];rfl,rfl⟩
   ·have qz:(id==0)=false:=by simpa using hz
    go_wp2_with fail
    go_meet
    exact⟨by rw[decide_eq_false hz];rfl,rfl⟩
  case rest=>
   obtain⟨rfl,rfl⟩:=hcut
   obtain⟨bb,hbb⟩: ∃bb,(decide (id=0)&&decide (k<N))=bb:=⟨_,rfl⟩
   rw[hbb]
   have HBW:=Lib.hid (HB2.out.trans (HL.out.lw.hb.mono HB2.out.size))
   cases bb with
   | true=>
    rw[Bool.and_eq_true,decide_eq_true_eq,decide_eq_true_eq]at hbb
    obtain⟨hz,hkN⟩:=hbb
    have HG0:=Lib.hid (show Sr cs T its S 0 from by rw[←hz];exact HG.out)
    have hkl:k<l.length:=by have:=HNN.out;omega
    have hk7:k+1≤8:=by have:=HNN.out;omega
    obtain⟨n,hnk⟩:=getElem_of hkl
    obtain⟨g,o,rfl,hg,d0⟩:=HX1.out k n hnk
    have HMO:=Lib.hid (made_sub g (o+k) (c1-k) n wc (HWF.out n (List.mem_of_getElem? hnk)) (by omega) (by omega) (Nat.lt_of_lt_of_le hg HBW.out.size) ((HBW.out.cell (p:=⟨g,o+k,none⟩) hg).trans d0))
    have HYN:=Lib.hid (madeLit_six n)
    have hwk:IntKind.i64.wrap ((k:Int)+1)=(k:Int)+1:=IntWalk.i64_in _ (by omega)
    clear hnk d0 hz hkN
    go_wp2_with fail
    refine HMO.out.mono ?_
    rintro e w9 ⟨gy,cy,rfl,hcy,hy,hb9⟩
    have HL9:=Lib.hid (HL.out.below hb9)
    have HDE:=Lib.hid (law_decide14 (madeLit n) HL9.out HG0.out h6 HYN.out (by have:=HNK.out;omega))
    clear hb9 HMO
    go_wp2_with fail
    refine HDE.out.mono ?_
    rintro e w10 ⟨lab10,T',its',S',id',rfl,hl10,hs10,hn10,_⟩
    have HL10:=Lib.hid hl10
    have HS10:=Lib.hid hs10
    have HN10:=Lib.hid (show T'.now≤((k+1:Nat):Int)from by have:=HNK.out;omega)
    clear hl10 hs10 hn10 HDE HL9 hy
    go_wp2_with fail
    go_roundw
    case rel=>exact⟨k+1,id',lab10,T',its',S',by go_num,rfl,rfl,hk7,HN10,HL10,HS10⟩
    case measure=>simp[intOf];omega
   | false=>
    clear hbb HNN HNK
    go_wp2_with fail
    refine bodyPost_ret (v:=.tuple #[.pointer (some ⟨sb,0,none⟩),.int .i64 id,.bool true]) (by simp[results,Tryz.results23,go_sem]) rfl ?_
    exact⟨w2,sb,b,a,t,labr,T,its,S,id,av,us,rfl,HB2.out,HL.out,HG.out⟩
end Go.Proofs.YtoojmhjagipmdaaGreat
namespace Go.Proofs.YtoojmhjagipmdaaGreat
open Go.RowKit
end Go.Proofs.YtoojmhjagipmdaaGreat
namespace Go.Proofs.YtoojmhjagipmdaaGreat
open Go.RowKit Go.Shelf Go.Sort
attribute [local go_sem] Oper.semAt_some
def WI (W4:World) (_:List (Int×Nat)) (W:World):Prop:=Below W4.heap.size W4 W
end Go.Proofs.YtoojmhjagipmdaaGreat
namespace Go.Proofs.YtoojmhjagipmdaaGreat
open Go.RowKit
section
variable {A:Arn} {C:Int→Option (List Int)} {T:Trl} {its:List RIt}
theorem cov_lift (h:Sim T its) {L L':List Int} (hcv: ∀(p:Nat) (x:RIt),its[p]? =some x→ -x.lit∈L→ -x.lit∈L'∨impl15 A T L (litV x.lit:Nat)=true) {y:Int} (hy:Has its (-y)) (hc:cov15 A T L y=true):cov15 A T L' y=true:=by
 obtain⟨q,x,hq,e⟩:=hy
 have hye:y= -x.lit:=by rw[e,Int.neg_neg]
 subst hye
 unfold cov15 at hc⊢
 rw[Bool.or_eq_true,litV_negate]at hc⊢
 rcases hc with g|g
 ·rcases hcv q x hq (List.contains_iff_mem.1 g)with g|g
  ·exact .inl (List.contains_iff_mem.2 g)
  ·exact .inr (imp_lift h hcv q x hq g)
 ·exact .inr (imp_lift h hcv q x hq g)
end
end Go.Proofs.YtoojmhjagipmdaaGreat
namespace Go.Proofs.YtoojmhjagipmdaaGreat
open Go.RowKit
section
variable {A:Arn} {C:Int→Option (List Int)} {T:Trl} {its:List RIt}
theorem rho_low (h:Sim T its) {L:List Int} {p:Nat} {x:RIt} (hp:its[p]? =some x) {y:Int} (hy:y∈rho A T L (litV x.lit:Nat)): ∃(q:Nat) (z:RIt),its[q]? =some z∧q<p∧y= -z.lit:=by
 unfold rho at hy
 split at hy
 ·cases hy
 ·split at hy
  ·rename_i r hw
   obtain⟨h1,h2⟩:=why15_rest h hp hw y hy
   obtain⟨q,z,hq,rfl,e⟩:=h.fal h1
   rw[←e,h.rp hq]at h2
   exact⟨q,z,hq,by omega,rfl⟩
  ·cases hy
structure MtP (A:Arn) (T:Trl) (its:List RIt) (L:List Int) (p:Nat) (s:List Int×List Int):Prop where
 done: ∀(q:Nat) (x:RIt),p≤q→its[q]? =some x→((litV x.lit:Nat):Int)∈s.2→((litV x.lit:Nat):Int)∈s.1
 cl: ∀v∈s.1,∀y∈rho A T L v,((litV y:Nat):Int)∈s.2
 mono: ∀v∈s.1,v∈s.2
theorem MtP.step {L:List Int} {p:Nat} {s:List Int×List Int} (o:MtP A T its L (p+1) s) (h:Sim T its) {x:RIt} (hp:its[p]? =some x):MtP A T its L p (mStep (rho A T L) s x.lit):=by
 unfold mStep
 by_cases hm:((litV x.lit:Nat):Int)∈s.2
 ·rw[if_pos (List.contains_iff_mem.2 hm)]
  exact {
   done:=fun q z hq hz hv=>by
    by_cases e:q=p
    ·subst e
     rw[hp]at hz
     obtain rfl:=Option.some.inj hz
     exact List.mem_append_right _ (List.mem_singleton.2 rfl)
    ·rcases List.mem_append.1 hv with hv|hv
     ·exact List.mem_append_left _ (o.done q z (by omega) hz hv)
     ·obtain⟨y,hy,e2⟩:=List.mem_map.1 hv
      obtain⟨q2,z2,hq2,hlt,rfl⟩:=rho_low h hp hy
      rw[litV_negate]at e2
      have:=h.inj hz hq2 (by omega)
      omega
   cl:=fun v hv y hy=>by
    rcases List.mem_append.1 hv with hv|hv
    ·exact List.mem_append_left _ (o.cl v hv y hy)
    ·rw[List.mem_singleton.1 hv]at hy
     exact List.mem_append_right _ (List.mem_map.2 ⟨y,hy,rfl⟩)
   mono:=fun v hv=>by
    rcases List.mem_append.1 hv with hv|hv
    ·exact List.mem_append_left _ (o.mono v hv)
    ·rw[List.mem_singleton.1 hv]
     exact List.mem_append_left _ hm }
 ·rw[if_neg (fun g=>hm (List.contains_iff_mem.1 g))]
  exact { o with
   done:=fun q z hq hz hv=>by
    by_cases e:q=p
    ·subst e
     rw[hp]at hz
     obtain rfl:=Option.some.inj hz
     exact absurd hv hm
    ·exact o.done q z (by omega) hz hv }
theorem MtP.run {L:List Int} (h:Sim T its): ∀(p:Nat) (s:List Int×List Int),p≤its.length→MtP A T its L p s→MtP A T its L 0 (mRun (rho A T L) s ((its.take p).reverse.map RIt.lit)):=by
 intro p
 induction p with
 | zero=>exact fun s _ o=>o
 | succ p ih=>
  intro s hl o
  obtain⟨x,hp⟩:=getElem_of (show p<its.length by omega)
  have e:(its.take (p+1)).reverse.map RIt.lit=x.lit::(its.take p).reverse.map RIt.lit:=by
   rw[List.take_add_one,hp]
   simp
  rw[e]
  exact ih _ (by omega) (o.step h hp)
theorem MtP.begin (L c:List Int):MtP A T its L its.length ([],varsI c) where
 done:=fun q x hq hx=>by
  have:=(List.getElem?_eq_some_iff.1 hx).1
  omega
 cl:=fun v hv=>by cases hv
 mono:=fun v hv=>by cases hv
theorem fail_zero (h:Sim T its) {c:List Int} (hb:clauseB c=true) (hc: ∀y∈c,Has its (-y)):failE T c=0:=by
 unfold failE
 rw[if_neg (by rw[hb];decide),if_neg]
 intro hany
 rw[List.any_eq_true]at hany
 obtain⟨y,hy,e⟩:=hany
 obtain⟨q,x,hq,ex⟩:=hc y hy
 obtain⟨_,_,h1,_⟩:=at_fal h hq ex
 have:=of_decide_eq_true e
 omega
theorem hint_or (h:Sim T its) (hA: ∀j,A.get j=C j) {L c:List Int} {id:Int} (hcc:C id=some c) (hb:clauseB c=true) (hc: ∀y∈c,Has its (-y)):
  hintP A T L id=if(mRun (rho A T L) ([],varsI c) T.order.reverse).1.any (badV A T L)=true then([],150)else(((mRun (rho A T L) ([],varsI c) T.order.reverse).1.filterMap (hintV A T L)).reverse++ [id],0):=by
 unfold hintP
 rw[(hA id).trans hcc]
 simp only
 rw[if_neg (by rw[fail_zero h hb hc];decide)]
 rfl
theorem hints_cov (h:Sim T its) (hA: ∀j,A.get j=C j) {L c:List Int} {id:Int} (hcc:C id=some c) (hb:clauseB c=true) (hc: ∀y∈c,Has its (-y)) (hf: ∀y∈L,Has its (-y)) (h0:(hintP A T L id).2=0): ∀y∈c,cov15 A T L y=true:=by
 rw[hint_or h hA hcc hb hc]at h0
 have o:=MtP.run (A:=A) (L:=L) h its.length _ (Nat.le_refl _) (MtP.begin L c)
 rw[List.take_length,List.map_reverse,←h.order]at o
 have hm0: ∀y∈c,((litV y:Nat):Int)∈(mRun (rho A T L) ([],varsI c) T.order.reverse).2:=fun y hy=>by
  have: ∀(ls:List Int) (s:List Int×List Int) (v:Int),v∈s.2→v∈(mRun (rho A T L) s ls).2:=by
   intro ls
   induction ls with
   | nil=>exact fun s v h=>h
   | cons l ls ih=>
    intro s v hv
    refine ih _ v ?_
    unfold mStep
    split
    ·exact List.mem_append_left _ hv
    ·exact hv
  exact this _ _ _ (List.mem_map.2 ⟨y,hy,rfl⟩)
 obtain⟨s,hs⟩: ∃s,mRun (rho A T L) ([],varsI c) T.order.reverse=s:=⟨_,rfl⟩
 rw[hs]at h0 o hm0
 have hnb: ¬s.1.any (badV A T L)=true:=fun e=>by
  rw[if_pos e]at h0
  cases h0
 have key: ∀(q:Nat) (x:RIt),its[q]? =some x→((litV x.lit:Nat):Int)∈s.2→cov15 A T L (-x.lit)=true:=by
  intro q
  induction q using Nat.strongRecOn with
  | ind q ih=>
   intro x hq hv
   have hv1:=o.done q x (Nat.zero_le _) hq hv
   have hbad:badV A T L (litV x.lit:Nat)=false:=by
    cases hx:badV A T L (litV x.lit:Nat)with
    | false=>rfl
    | true=>exact absurd (List.any_eq_true.2 ⟨_,hv1,hx⟩) hnb
   unfold cov15
   rw[Bool.or_eq_true,litV_negate]
   cases hin:inC L (litV x.lit:Nat)with
   | true=>exact .inl (List.contains_iff_mem.2 ((inC_iff h hf hq).1 hin))
   | false=>
    right
    rw[impl15_at h L hq]
    cases hw:why15 A T (litV x.lit:Nat)with
    | none=>
     unfold badV at hbad
     rw[hin,hw]at hbad
     cases hbad
    | some r=>
     simp only
     rw[List.all_eq_true]
     intro z hz
     have hrho:rho A T L (litV x.lit:Nat)=r.2:=by
      unfold rho
      rw[if_neg (by rw[hin];decide),hw]
     obtain⟨q2,z2,hq2,hlt,rfl⟩:=rho_low h (L:=L) hq (hrho▸hz)
     have hv2:=o.cl _ hv1 (-z2.lit) (hrho▸hz)
     rw[litV_negate]at hv2
     exact ih q2 hlt z2 hq2 hv2
 intro y hy
 obtain⟨q,x,hq,e⟩:=hc y hy
 have hye:y= -x.lit:=by rw[e,Int.neg_neg]
 subst hye
 have:=hm0 _ hy
 rw[litV_negate]at this
 exact key q x hq this
theorem chain_sub (h:Sim T its) {L L2 c:List Int} {R R2:List Nat} (ch:Chain C its L c R) (ch2:Chain C its L2 c R2) (hsub: ∀y∈L,y∈L2): ∀r∈R2,r∈R:=by
 have hlt: ∀r∈R2,r<its.length:=fun r hr=>by
  obtain⟨z,_,hz,_⟩:=ch2.rs r hr
  exact(List.getElem?_eq_some_iff.1 hz).1
 have key: ∀(n r:Nat),r∈R2→its.length-r=n→r∈R:=by
  intro n
  induction n using Nat.strongRecOn with
  | ind n ih=>
   intro r hr hn
   obtain⟨zr,_,hzr,_⟩:=ch2.rs r hr
   have hdis:=ch2.dis r hr
   have hnd:=ch2.need r hr
   rw[litAt_eq hzr]at hdis hnd
   rcases hnd with hnd|⟨r',z',d',hlt',hr',hz',hd',hm'⟩
   ·obtain⟨q,x,hq,e,hor⟩:=ch.cl _ hnd
    have:=h.inj hq hzr (by rw[e,Int.neg_neg])
    subst this
    exact hor.resolve_right fun g=>hdis (hsub _ g)
   ·have hrl:=hlt r hr
    have hrl':=hlt r' hr'
    have h1:=ih (its.length-r') (by omega) r' hr' rfl
    obtain⟨z,d,a1,a2,a3,a4⟩:=ch.rs r' h1
    rw[hz']at a1
    obtain rfl:=Option.some.inj a1
    rw[hd']at a2
    obtain rfl:=Option.some.inj a2
    have hne: -zr.lit≠z'.lit:=fun e=>by
     have:=h.inj hzr hz' (by rw[←e,litV_negate])
     omega
    obtain⟨q,x,_,hq,e,hor⟩:=a4 _ hm' hne
    have:=h.inj hq hzr (by rw[e,Int.neg_neg])
    subst this
    exact hor.resolve_right fun g=>hdis (hsub _ g)
 exact fun r hr=>key _ r hr rfl
def openGo (T:Trl) (cs:List (List Int)) (c:List Int):List Int→List Int→Bool
 | _,[]=>false
 | ms,y::r=>if ms.contains ((litV y:Nat):Int)=false∨c.contains (-y)=true then openGo T cs c ms r else
  if T.reason (litV y:Nat)<1∨(cs.length:Int)<T.reason (litV y:Nat)then true else openGo T cs c (ms++varsI (cs.getD (T.reason (litV y:Nat)-1).toNat [])) r
theorem open_none (h:Sim T its) (hA: ∀j,A.get j=C j) (hr:Rsn C its) {cs:List (List Int)} (hC: ∀(j:Int) (d:List Int),C j=some d→1≤j∧j≤cs.length∧cs.getD (j-1).toNat []=d) {L:List Int} (hf: ∀y∈L,Has its (-y)):
  ∀(p:Nat) (s:List Int×List Int) (ms:List Int),p≤its.length→(∀v∈s.2,v∈ms)→(∀v∈s.1,badV A T L v=false)→openGo T cs L ms ((its.take p).reverse.map RIt.lit)=false→∀v∈(mRun (rho A T L) s ((its.take p).reverse.map RIt.lit)).1,badV A T L v=false:=by
 intro p
 induction p with
 | zero=>exact fun s ms _ _ hb _=>hb
 | succ p ih=>
  intro s ms hl hsub hb ho
  obtain⟨x,hp⟩:=getElem_of (show p<its.length by omega)
  have e:(its.take (p+1)).reverse.map RIt.lit=x.lit::(its.take p).reverse.map RIt.lit:=by
   rw[List.take_add_one,hp]
   simp
  rw[e]at ho⊢
  show∀v∈(mRun (rho A T L) (mStep (rho A T L) s x.lit) _).1,_
  unfold openGo at ho
  by_cases hin: -x.lit∈L
  ·rw[if_pos (.inr (List.contains_iff_mem.2 hin))]at ho
   have hinc:=(inC_iff h hf hp).2 hin
   have hrho:rho A T L (litV x.lit:Nat)= []:=by
    unfold rho
    rw[if_pos hinc]
   refine ih _ ms (by omega) ?_ ?_ ho
   ·unfold mStep
    split
    ·rw[hrho]
     intro v hv
     rcases List.mem_append.1 hv with hv|hv
     ·exact hsub v hv
     ·cases hv
    ·exact hsub
   ·unfold mStep
    split
    ·intro v hv
     rcases List.mem_append.1 hv with hv|hv
     ·exact hb v hv
     ·rw[List.mem_singleton.1 hv]
      unfold badV
      rw[hinc]
      rfl
    ·exact hb
  ·have hinc:inC L (litV x.lit:Nat)=false:=by
    cases hx:inC L (litV x.lit:Nat)with
    | false=>rfl
    | true=>exact absurd ((inC_iff h hf hp).1 hx) hin
   have hcn:L.contains (-x.lit)=false:=by
    cases hx:L.contains (-x.lit)with
    | false=>rfl
    | true=>exact absurd (List.contains_iff_mem.1 hx) hin
   by_cases hm:((litV x.lit:Nat):Int)∈s.2
   ·rw[if_neg (by
     rintro (g|g)
     ·rw[List.contains_iff_mem.2 (hsub _ hm)]at g
      cases g
     ·rw[hcn]at g
      cases g),h.rsn hp]at ho
    by_cases hrs:x.reason<1∨(cs.length:Int)<x.reason
    ·rw[if_pos hrs]at ho
     cases ho
    ·rw[if_neg hrs]at ho
     obtain⟨d,hd,hmd,ho2⟩:=hr p x hp (by omega)
     have hw:=why15_of h hA hp hd hmd ho2
     rw[(hC _ d hd).2.2]at ho
     have hrho:rho A T L (litV x.lit:Nat)=rest15 (litV x.lit:Nat) d:=by
      unfold rho
      rw[if_neg (by rw[hinc];decide),hw]
     have hst:mStep (rho A T L) s x.lit=(s.1++ [((litV x.lit:Nat):Int)],s.2++varsI (rho A T L (litV x.lit:Nat))):=by
      unfold mStep
      rw[if_pos (List.contains_iff_mem.2 hm)]
     rw[hst,hrho]
     refine ih _ _ (by omega) ?_ ?_ ho
     ·intro v hv
      rcases List.mem_append.1 hv with hv|hv
      ·exact List.mem_append_left _ (hsub v hv)
      ·obtain⟨y,hy,rfl⟩:=List.mem_map.1 hv
       exact List.mem_append_right _ (List.mem_map.2 ⟨y,(List.mem_filter.1 hy).1,rfl⟩)
     ·intro v hv
      rcases List.mem_append.1 hv with hv|hv
      ·exact hb v hv
      ·rw[List.mem_singleton.1 hv]
       unfold badV
       rw[hinc,hw]
       rfl
   ·have hst:mStep (rho A T L) s x.lit=s:=by
     unfold mStep
     rw[if_neg (fun g=>hm (List.contains_iff_mem.1 g))]
    rw[hst]
    split at ho
    ·exact ih s ms (by omega) hsub hb ho
    ·split at ho
     ·cases ho
     ·exact ih s _ (by omega) (fun v hv=>List.mem_append_left _ (hsub v hv)) hb ho
theorem open_some (h:Sim T its) (hA: ∀j,A.get j=C j) (hr:Rsn C its) {cs:List (List Int)} (hC: ∀(j:Int) (d:List Int),C j=some d→1≤j∧j≤cs.length∧cs.getD (j-1).toNat []=d) {L c:List Int} {id:Int} (hcc:C id=some c) (hb:clauseB c=true) (hc: ∀y∈c,Has its (-y)) (hf: ∀y∈L,Has its (-y)) (h0:(hintP A T L id).2≠0):
  hintP A T L id=([],150)∧openGo T cs L (varsI c) T.order.reverse=true:=by
 rw[hint_or h hA hcc hb hc]at h0⊢
 by_cases hany:(mRun (rho A T L) ([],varsI c) T.order.reverse).1.any (badV A T L)=true
 ·rw[if_pos hany]
  refine⟨rfl,?_⟩
  cases ho:openGo T cs L (varsI c) T.order.reverse with
  | true=>rfl
  | false=>
   have hn:=open_none h hA hr hC hf its.length ([],varsI c) (varsI c) (Nat.le_refl _) (fun v hv=>hv) (fun v hv=>by cases hv) (by
    rw[List.take_length,List.map_reverse,←h.order]
    exact ho)
   rw[List.take_length,List.map_reverse,←h.order]at hn
   rw[List.any_eq_true]at hany
   obtain⟨v,hv,e⟩:=hany
   rw[hn v hv]at e
   cases e
 ·rw[if_neg hany]at h0
  exact absurd rfl h0
end
end Go.Proofs.YtoojmhjagipmdaaGreat
namespace Go.Proofs.YtoojmhjagipmdaaGreat
open Go.RowKit
def FreeO (T:Trl) (l:Int):Prop:=(l=0∧∀v:Int,1≤v→v<7→T.val v≠0)∨(litB l=true∧litV l<7∧T.val l=0)
end Go.Proofs.YtoojmhjagipmdaaGreat
namespace Go.Proofs.YtoojmhjagipmdaaGreat
open Go.RowKit
def digL (L:List Int) (v:Int):Nat:=if v∈L then 1 else if -v∈L then 2 else 0
def codeL (L:List Int):Nat:=digL L 1+3*(digL L 2+3*(digL L 3+3*(digL L 4+3*(digL L 5+3*digL L 6))))
theorem digL_le (L:List Int) (v:Int):digL L v≤2:=by
 unfold digL
 split
 ·omega
 ·split <;> omega
theorem codeL_lt (L:List Int):codeL L<729:=by
 have:=digL_le L 1
 have:=digL_le L 2
 have:=digL_le L 3
 have:=digL_le L 4
 have:=digL_le L 5
 have:=digL_le L 6
 unfold codeL
 omega
def Lvs (T:Trl) (its:List RIt):Prop:= ∀i:Int,1≤i→i≤T.now→∃x∈its,x.level=i
theorem Lvs.pre {T T':Trl} {its its':List RIt} (h:Lvs T its) (hp:its <+: its') (hn:T'.now=T.now):Lvs T' its':=fun i h1 h2=>by
 obtain⟨x,hx,e⟩:=h i h1 (by omega)
 exact⟨x,hp.subset hx,e⟩
section
variable {cs:List (List Int)} {T:Trl} {its:List RIt} {S:Wst} {id lv:Int} {c:List Int} {x:Lrn} {R K:List Nat}
end
end Go.Proofs.YtoojmhjagipmdaaGreat
namespace Go.Proofs.YtoojmhjagipmdaaGreat
open Go.RowKit
structure SrI (cs0 ls:List (List Int)) (T:Trl) (its:List RIt) (S:Wst) (id:Int) (n:Nat):Prop where
 sr:Sr (cs0++ls) T its S id
 six:Six (cs0++ls)
 lvs:Lvs T its
 codes:(ls.map codeL).Nodup
 good: ∀L∈ls,(∀y∈L,litB y=true∧litV y<7)∧∀y∈L,-y∉L
 sat: ∀m,m<128→allT m cs0=true→allT m (cs0++ls)=true
 cnt:(n:Int)≤7*ls.length+T.now
section
variable {cs0 ls:List (List Int)} {T:Trl} {its:List RIt} {S:Wst} {id lv:Int} {n:Nat} {c:List Int} {x:Lrn} {R K:List Nat}
theorem SrI.few (h:SrI cs0 ls T its S id n):ls.length≤729:=by
 have:=List.Nodup.length_le_of_subset h.codes (l₂:=List.range 729) (fun k hk=>by
  obtain⟨L,_,rfl⟩:=List.mem_map.1 hk
  exact List.mem_range.2 (codeL_lt L))
 rwa [List.length_map,List.length_range]at this
def bitsL (ys:List Int):Nat:=ys.foldl (fun b y=>if 0<y then b ||| 2^y.toNat else b) 0
end
end Go.Proofs.YtoojmhjagipmdaaGreat
namespace Go.Proofs.YtoojmhjagipmdaaGreat
open Go.RowKit
section
variable {w0 w w':World} {lab:Nat→Nat} {sb b ab tb:Nat} {A A':Arn} {T T':Trl} {its:List RIt} {S S':Wst} {cs:List (List Int)} {av:Value} {us:List Value}
end
end Go.Proofs.YtoojmhjagipmdaaGreat
