/- Plain: what minim.Conflict returns is the outcome of a conflict too: fewer literals, and the chain of its hints. The law of salvorlaw15.conflict: a search up to the first clause that fails. slices.BinarySearchFunc over literals in their order. package clauses: Within, where it holds. -/
import Derived.Test.YtoojmhjagipmdaaGreatV213
import Derived.Test.YtoojmhjagipmdaaGreatV233
import Derived.Test.YtoojmhjagipmdaaGreatV229
import Derived.Test.YtoojmhjagipmdaaGreatV209
import Derived.Test.YtoojmhjagipmdaaGreatV201
namespace Go.Proofs.YtoojmhjagipmdaaGreat
open Go.RowKit
section
variable {A:Arn} {C:Int→Option (List Int)} {T:Trl} {its:List RIt}
theorem why15_of (h:Sim T its) (hA: ∀j,A.get j=C j) {p:Nat} {x:RIt} (hp:its[p]? =some x) {d:List Int} (hd:C x.reason=some d) (hm:x.lit∈d) (ho: ∀y∈d,y≠x.lit→HasAt its p (-y)):why15 A T (litV x.lit:Nat)=some (x.reason,rest15 (litV x.lit:Nat) d):=by
 have hr:rightB A T (litV x.lit:Nat)=true:=by
  rw[rightB_at h A hp,rightP_some (h.rsn hp) ((hA _).trans hd),if_pos]
  ·rfl
  refine⟨by rw[h.why hp];rfl,List.contains_iff_mem.2 hm,before_true fun y hy hne=>?_⟩
  obtain⟨q,z,hq,hz,e⟩:=ho y hy hne
  obtain⟨_,_,h1,h2,_⟩:=at_fal h hz e
  rw[h2,h.plc hp]
  exact⟨h1,by omega⟩
 unfold why15
 rw[if_pos hr,h.rsn hp,hA,hd]
theorem why15_is (h:Sim T its) (hA: ∀j,A.get j=C j) {p:Nat} {x:RIt} (hp:its[p]? =some x) {r:Int×List Int} (hw:why15 A T (litV x.lit:Nat)=some r):
  ∃d,C x.reason=some d∧x.lit∈d∧r=(x.reason,rest15 (litV x.lit:Nat) d)∧∀y∈d,y≠x.lit→y∈r.2∧HasAt its p (-y):=by
 have hrB:rightB A T (litV x.lit:Nat)=true:=by
  have hw2:=hw
  unfold why15 at hw2
  split at hw2
  ·assumption
  ·cases hw2
 obtain⟨d,hd,hre⟩:=why15_get hw
 rw[h.rsn hp]at hd hre
 rw[rightB_at h A hp]at hrB
 obtain⟨d',hd'⟩:=Option.isSome_iff_exists.1 hrB
 rw[rightP_some (h.rsn hp) hd]at hd'
 split at hd'
 ·rename_i hcnd
  obtain⟨_,h2,h3⟩:=hcnd
  refine⟨d,(hA _).symm.trans hd,List.contains_iff_mem.1 h2,hre,fun y hy hne=>?_⟩
  obtain⟨g1,g2⟩:=(before_eq T _ _ _).1 h3 y hy hne
  have hyr:y∈r.2:=by
   rw[hre]
   refine List.mem_filter.2 ⟨hy,decide_eq_true fun e=>?_⟩
   have e2:litV y=litV x.lit:=by omega
   rw[e2]at g2
   omega
  obtain⟨h4,h5⟩:=why15_rest h hp hw y hyr
  obtain⟨q,z,hq,rfl,e⟩:=h.fal h4
  rw[←e,h.rp hq]at h5
  exact⟨hyr,q,z,by omega,hq,(Int.neg_neg _).symm⟩
 ·cases hd'
theorem imp_lift (h:Sim T its) {L L':List Int} (hcv: ∀(p:Nat) (x:RIt),its[p]? =some x→ -x.lit∈L→ -x.lit∈L'∨impl15 A T L (litV x.lit:Nat)=true): ∀(p:Nat) (x:RIt),its[p]? =some x→impl15 A T L (litV x.lit:Nat)=true→impl15 A T L' (litV x.lit:Nat)=true:=by
 intro p
 induction p using Nat.strongRecOn with
 | ind p ih=>
  intro x hp hi
  rw[impl15_at h L hp]at hi
  rw[impl15_at h L' hp]
  cases hw:why15 A T (litV x.lit:Nat)with
  | none=>
   rw[hw]at hi
   cases hi
  | some r=>
   rw[hw]at hi
   simp only at hi⊢
   rw[List.all_eq_true]at hi⊢
   intro z hz
   obtain⟨h1,h2⟩:=why15_rest h hp hw z hz
   have h3:=hi z hz
   obtain⟨q,y,hq,rfl,e⟩:=h.fal h1
   rw[←e,h.rp hq]at h2
   unfold cov15 at h3⊢
   rw[Bool.or_eq_true,←e]at h3⊢
   rcases h3 with h3|h3
   ·rcases hcv q y hq (List.contains_iff_mem.1 h3)with g|g
    ·exact .inl (List.contains_iff_mem.2 g)
    ·exact .inr (ih q (by omega) y hq g)
   ·exact .inr (ih q (by omega) y hq h3)
theorem Chain.imp {L c:List Int} {R:List Nat} (ch:Chain C its L c R) (h:Sim T its) (hA: ∀j,A.get j=C j): ∀(r:Nat) (x:RIt),r∈R→its[r]? =some x→impl15 A T L (litV x.lit:Nat)=true:=by
 intro r
 induction r using Nat.strongRecOn with
 | ind r ih=>
  intro x hr hp
  obtain⟨z,d,a1,a2,a3,a4⟩:=ch.rs r hr
  rw[hp]at a1
  obtain rfl:=Option.some.inj a1
  rw[impl15_at h L hp,why15_of h hA hp a2 a3 (fun y hy hne=>by
   obtain⟨q,x',g1,g2,g3,_⟩:=a4 y hy hne
   exact⟨q,x',g1,g2,g3⟩)]
  simp only
  rw[List.all_eq_true]
  intro y hy
  obtain⟨hy1,hy2⟩:=List.mem_filter.1 hy
  have hne:y≠x.lit:=fun e=>of_decide_eq_true hy2 (by rw[e])
  obtain⟨q,x',g1,g2,g3,g4⟩:=a4 y hy1 hne
  unfold cov15
  rw[Bool.or_eq_true]
  rcases g4 with g4|g4
  ·right
   have:=ih q g1 x' g4 g2
   rwa [show litV x'.lit=litV y from by rw[g3,litV_negate]]at this
  ·left
   exact List.contains_iff_mem.2 g4
def keepB (A:Arn) (T:Trl) (c:List Int) (l:Int):Bool:=decide (c.head? =some l)|| !(impl15 A T c (litV l))
theorem shor_filter (c:List Int): ∀(r out:List Int),(out++r).Nodup→shor15 A T c out r=out++r.filter (keepB A T c):=by
 intro r
 induction r with
 | nil=>
  intro out _
  simp[shor15]
 | cons l r ih=>
  intro out hn
  have hn0:=List.nodup_append.1 hn
  have hnc:out.contains l=false:=by
   cases hc:out.contains l with
   | false=>rfl
   | true=>exact absurd rfl (hn0.2.2 l (List.contains_iff_mem.1 hc) l List.mem_cons_self)
  show shor15 A T c (if out.contains l=false∧(c.head? =some l∨impl15 A T c (litV l)=false)then out++ [l]else out) r=_
  by_cases hk:c.head? =some l∨impl15 A T c (litV l)=false
  ·have hkb:keepB A T c l=true:=by
    unfold keepB
    rcases hk with hk|hk
    ·rw[hk];simp
    ·rw[hk];simp
   rw[if_pos ⟨hnc,hk⟩,ih _ (by rw[List.append_assoc];exact hn),List.filter_cons_of_pos hkb,List.append_assoc]
   rfl
  ·have hkb: ¬keepB A T c l=true:=by
    unfold keepB
    intro hh
    rw[Bool.or_eq_true]at hh
    refine hk (hh.imp of_decide_eq_true fun h=>?_)
    cases hi:impl15 A T c (litV l)with
    | false=>rfl
    | true=>
     rw[hi]at h
     cases h
   rw[if_neg (fun g=>hk g.2),ih _ (hn.sublist (List.Sublist.append_left (List.sublist_cons_self _ _) _)),List.filter_cons_of_neg hkb]
theorem short_filter {c:List Int} (hn:c.Nodup):short15 A T c=c.filter (keepB A T c):=by
 unfold short15
 rw[shor_filter c c [] (by rwa [List.nil_append]),List.nil_append]
structure MtO (A:Arn) (C:Int→Option (List Int)) (T:Trl) (its:List RIt) (L c:List Int) (p:Nat) (s:List Int×List Int) (R:List Nat):Prop where
 rdn:R.Pairwise (· > ·)
 rge: ∀q∈R,p≤q
 hints:s.1.filterMap (hintV A T L)=R.map (rsAt its)
 ok: ∀v∈s.1,badV A T L v=false
 ms: ∀v∈s.2,∃(q:Nat) (x:RIt),its[q]? =some x∧v=((litV x.lit:Nat):Int)∧cov15 A T L (-x.lit)=true
 all: ∀(q:Nat) (x:RIt),p≤q→its[q]? =some x→((litV x.lit:Nat):Int)∈s.2→q∈R∨ -x.lit∈L
 src: ∀(q:Nat) (x:RIt),its[q]? =some x→((litV x.lit:Nat):Int)∈s.2→ -x.lit∈c∨∃(r':Nat) (z:RIt) (d:List Int),q<r'∧r'∈R∧its[r']? =some z∧C z.reason=some d∧ -x.lit∈d
 cov: ∀y∈c,((litV y:Nat):Int)∈s.2
 covR: ∀r∈R,∃(z:RIt) (d:List Int),its[r]? =some z∧C z.reason=some d∧z.lit∈d∧((litV z.lit:Nat):Int)∈s.2∧∀y∈d,y≠z.lit→HasAt its r (-y)∧((litV y:Nat):Int)∈s.2
 dis: ∀r∈R,-(litAt its r)∉L
theorem inC_iff (h:Sim T its) {L:List Int} (hf: ∀y∈L,Has its (-y)) {p:Nat} {x:RIt} (hp:its[p]? =some x):inC L (litV x.lit:Nat)=true↔ -x.lit∈L:=by
 unfold inC
 rw[List.any_eq_true]
 constructor
 ·rintro ⟨y,hy,e⟩
  have e:=of_decide_eq_true e
  obtain⟨q,z,hq,ez⟩:=hf y hy
  have hv:litV z.lit=litV y:=by rw[ez,litV_negate]
  have:=h.inj hq hp (by omega)
  subst this
  rw[hq]at hp
  obtain rfl:=Option.some.inj hp
  rw[ez,Int.neg_neg]
  exact hy
 ·intro hl
  exact⟨_,hl,decide_eq_true (by rw[litV_negate])⟩
theorem MtO.step {L c:List Int} {p:Nat} {s:List Int×List Int} {R:List Nat} (o:MtO A C T its L c (p+1) s R) (h:Sim T its) (hA: ∀j,A.get j=C j) (hf: ∀y∈L,Has its (-y)) {x:RIt} (hp:its[p]? =some x): ∃R',MtO A C T its L c p (mStep (rho A T L) s x.lit) R':=by
 unfold mStep
 by_cases hm:((litV x.lit:Nat):Int)∈s.2
 ·rw[if_pos (List.contains_iff_mem.2 hm)]
  have hcv:cov15 A T L (-x.lit)=true:=by
   obtain⟨q,z,hq,e,hc⟩:=o.ms _ hm
   have:=h.inj hq hp (by omega)
   subst this
   rw[hq]at hp
   obtain rfl:=Option.some.inj hp
   exact hc
  by_cases hl: -x.lit∈L
  ·have hin:=(inC_iff h hf hp).2 hl
   have hrho:rho A T L (litV x.lit:Nat)= []:=by
    unfold rho
    rw[if_pos hin]
   have hhv:hintV A T L (litV x.lit:Nat)=none:=by
    unfold hintV
    rw[if_pos hin]
   have hbv:badV A T L (litV x.lit:Nat)=false:=by
    unfold badV
    rw[hin]
    rfl
   rw[hrho,show varsI []= []from rfl,List.append_nil]
   exact⟨R,{
    rdn:=o.rdn
    rge:=fun q hq=>by
     have:=o.rge q hq
     omega
    hints:=by
     rw[List.filterMap_append,o.hints]
     simp[hhv]
    ok:=fun v hv=>by
     rcases List.mem_append.1 hv with hv|hv
     ·exact o.ok v hv
     ·rw[List.mem_singleton.1 hv]
      exact hbv
    ms:=o.ms
    all:=fun q z hq hz hv=>by
     by_cases e:q=p
     ·subst e
      rw[hp]at hz
      obtain rfl:=Option.some.inj hz
      exact .inr hl
     ·exact o.all q z (by omega) hz hv
    src:=o.src
    cov:=o.cov
    covR:=o.covR
    dis:=o.dis }⟩
  ·have hin:inC L (litV x.lit:Nat)=false:=by
    cases hc:inC L (litV x.lit:Nat)with
    | false=>rfl
    | true=>exact absurd ((inC_iff h hf hp).1 hc) hl
   have him:impl15 A T L (litV x.lit:Nat)=true:=by
    unfold cov15 at hcv
    rw[Bool.or_eq_true,litV_negate]at hcv
    exact hcv.resolve_left fun g=>hl (List.contains_iff_mem.1 g)
   rw[impl15_at h L hp]at him
   cases hw:why15 A T (litV x.lit:Nat)with
   | none=>
    rw[hw]at him
    cases him
   | some r=>
    rw[hw]at him
    simp only at him
    rw[List.all_eq_true]at him
    have hrest:=why15_rest h hp hw
    obtain⟨d,hd,hmd,hre,hdd⟩:=why15_is h hA hp hw
    have hrho:rho A T L (litV x.lit:Nat)=r.2:=by
     unfold rho
     rw[if_neg (by rw[hin];decide),hw]
    have hhv:hintV A T L (litV x.lit:Nat)=some x.reason:=by
     unfold hintV
     rw[if_neg (by rw[hin];decide),hw,hre]
     rfl
    have hbv:badV A T L (litV x.lit:Nat)=false:=by
     unfold badV
     rw[hin,hw]
     rfl
    have hnew: ∀v∈varsI r.2,∃(q:Nat) (z:RIt),its[q]? =some z∧v=((litV z.lit:Nat):Int)∧q<p∧ -z.lit∈d∧cov15 A T L (-z.lit)=true:=fun v hv=>by
     obtain⟨y,hy,rfl⟩:=List.mem_map.1 hv
     obtain⟨h1,h2⟩:=hrest y hy
     have h3:=him y hy
     have h4:y∈d:=by
      rw[hre]at hy
      exact(List.mem_filter.1 hy).1
     obtain⟨q,z,hq,rfl,e⟩:=h.fal h1
     rw[←e,h.rp hq]at h2
     exact⟨q,z,hq,by rw[e],by omega,h4,h3⟩
    rw[hrho]
    exact⟨R++ [p],{
     rdn:=List.pairwise_append.2 ⟨o.rdn,List.pairwise_singleton _ _,fun a ha b hb=>by
      have:=o.rge a ha
      rw[List.mem_singleton.1 hb]
      omega⟩
     rge:=fun q hq=>by
      rcases List.mem_append.1 hq with hq|hq
      ·have:=o.rge q hq
       omega
      ·rw[List.mem_singleton.1 hq]
       exact Nat.le_refl _
     hints:=by
      rw[List.filterMap_append,o.hints,List.map_append]
      simp[hhv,rsAt_eq hp]
     ok:=fun v hv=>by
      rcases List.mem_append.1 hv with hv|hv
      ·exact o.ok v hv
      ·rw[List.mem_singleton.1 hv]
       exact hbv
     ms:=fun v hv=>by
      rcases List.mem_append.1 hv with hv|hv
      ·exact o.ms v hv
      ·obtain⟨q,z,hq,e,_,_,hc⟩:=hnew v hv
       exact⟨q,z,hq,e,hc⟩
     all:=fun q z hq hz hv=>by
      by_cases e:q=p
      ·exact .inl (List.mem_append_right _ (List.mem_singleton.2 e))
      ·rcases List.mem_append.1 hv with hv|hv
       ·exact(o.all q z (by omega) hz hv).imp_left fun g=>List.mem_append_left _ g
       ·obtain⟨q2,z2,hq2,e2,hlt,_⟩:=hnew _ hv
        have:=h.inj hz hq2 (by omega)
        omega
     src:=fun q z hz hv=>by
      rcases List.mem_append.1 hv with hv|hv
      ·refine(o.src q z hz hv).imp_right ?_
       rintro ⟨r',z',d',b1,b2,b3⟩
       exact⟨r',z',d',b1,List.mem_append_left _ b2,b3⟩
      ·obtain⟨q2,z2,hq2,e2,hlt,hmd2,_⟩:=hnew _ hv
       have:=h.inj hz hq2 (by omega)
       subst this
       rw[hz]at hq2
       obtain rfl:=Option.some.inj hq2
       exact .inr ⟨p,x,d,hlt,List.mem_append_right _ (List.mem_singleton.2 rfl),hp,hd,hmd2⟩
     cov:=fun y hy=>List.mem_append_left _ (o.cov y hy)
     covR:=fun q hq=>by
      rcases List.mem_append.1 hq with hq|hq
      ·obtain⟨z,d',a1,a2,a3,a4,a5⟩:=o.covR q hq
       exact⟨z,d',a1,a2,a3,List.mem_append_left _ a4,fun y hy hne=>⟨(a5 y hy hne).1,List.mem_append_left _ (a5 y hy hne).2⟩⟩
      ·rw[List.mem_singleton.1 hq]
       exact⟨x,d,hp,hd,hmd,List.mem_append_left _ hm,fun y hy hne=>⟨(hdd y hy hne).2,List.mem_append_right _ (List.mem_map.2 ⟨y,(hdd y hy hne).1,rfl⟩)⟩⟩
     dis:=fun q hq=>by
      rcases List.mem_append.1 hq with hq|hq
      ·exact o.dis q hq
      ·rw[List.mem_singleton.1 hq,litAt_eq hp]
       exact hl }⟩
 ·rw[if_neg (fun g=>hm (List.contains_iff_mem.1 g))]
  exact⟨R,{ o with
   rge:=fun q hq=>by
    have:=o.rge q hq
    omega
   all:=fun q z hq hz hv=>by
    by_cases e:q=p
    ·subst e
     rw[hp]at hz
     obtain rfl:=Option.some.inj hz
     exact absurd hv hm
    ·exact o.all q z (by omega) hz hv }⟩
theorem MtO.run {L c:List Int} (h:Sim T its) (hA: ∀j,A.get j=C j) (hf: ∀y∈L,Has its (-y)): ∀(p:Nat) (s:List Int×List Int) (R:List Nat),p≤its.length→MtO A C T its L c p s R→∃R',MtO A C T its L c 0 (mRun (rho A T L) s ((its.take p).reverse.map RIt.lit)) R':=by
 intro p
 induction p with
 | zero=>
  intro s R _ o
  exact⟨R,o⟩
 | succ p ih=>
  intro s R hl o
  obtain⟨x,hp⟩:=getElem_of (show p<its.length by omega)
  have e:(its.take (p+1)).reverse.map RIt.lit=x.lit::(its.take p).reverse.map RIt.lit:=by
   rw[List.take_add_one,hp]
   simp
  rw[e]
  obtain⟨R1,o1⟩:=o.step h hA hf hp
  exact ih _ _ (by omega) o1
theorem hints_chain (h:Sim T its) (hA: ∀j,A.get j=C j) {L c:List Int} {id:Int} (hcc:C id=some c) (hb:clauseB c=true) (hc: ∀y∈c,Has its (-y)) (hf: ∀y∈L,Has its (-y)) (hcv: ∀y∈c,cov15 A T L y=true):
  ∃R,hintP A T L id=(R.map (rsAt its)++ [id],0)∧Chain C its L c R:=by
 have h0:MtO A C T its L c its.length ([],varsI c) []:={
  rdn:=List.Pairwise.nil
  rge:=fun q hq=>by cases hq
  hints:=rfl
  ok:=fun v hv=>by cases hv
  ms:=fun v hv=>by
   obtain⟨y,hy,rfl⟩:=List.mem_map.1 hv
   obtain⟨q,x,hq,e⟩:=hc y hy
   exact⟨q,x,hq,by rw[e,litV_negate],by rw[e,Int.neg_neg];exact hcv y hy⟩
  all:=fun q x hq hx=>by
   have:=(List.getElem?_eq_some_iff.1 hx).1
   omega
  src:=fun q x hx hv=>by
   obtain⟨y,hy,e⟩:=List.mem_map.1 hv
   obtain⟨q2,x2,hq2,e2⟩:=hc y hy
   have hv2:litV x2.lit=litV y:=by rw[e2,litV_negate]
   have:=h.inj hx hq2 (by omega)
   subst this
   rw[hx]at hq2
   obtain rfl:=Option.some.inj hq2
   left
   rw[e2,Int.neg_neg]
   exact hy
  cov:=fun y hy=>List.mem_map.2 ⟨y,hy,rfl⟩
  covR:=fun r hr=>by cases hr
  dis:=fun r hr=>by cases hr }
 obtain⟨R,o⟩:=MtO.run h hA hf its.length _ [] (Nat.le_refl _) h0
 rw[List.take_length,List.map_reverse,←h.order]at o
 have hfe:failE T c=0:=by
  unfold failE
  rw[if_neg (by rw[hb];decide),if_neg]
  intro hany
  rw[List.any_eq_true]at hany
  obtain⟨y,hy,e⟩:=hany
  obtain⟨q,x,hq,ex⟩:=hc y hy
  obtain⟨_,_,h1,_⟩:=at_fal h hq ex
  have:=of_decide_eq_true e
  omega
 refine⟨R.reverse,?_,?_⟩
 ·unfold hintP
  rw[(hA id).trans hcc]
  simp only
  rw[if_neg (by rw[hfe];decide),if_neg]
  ·unfold mAll
   rw[o.hints,List.map_reverse]
  ·intro hany
   rw[List.any_eq_true]at hany
   obtain⟨v,hv,e⟩:=hany
   have:=o.ok v hv
   rw[e]at this
   cases this
 ·have hK: ∀(q:Nat) (x:RIt) (y:Int),its[q]? =some x→x.lit= -y→((litV y:Nat):Int)∈(mRun (rho A T L) ([],varsI c) T.order.reverse).2→q∈R.reverse∨y∈L:=fun q x y hq e hv=>by
   rw[List.mem_reverse]
   refine(o.all q x (Nat.zero_le _) hq (by rw[(at_fal h hq e).2.1];exact hv)).imp_right fun hk=>?_
   rwa [e,Int.neg_neg]at hk
  exact {
   up:=by
    rw[List.pairwise_reverse]
    exact o.rdn
   rs:=fun r hr=>by
    rw[List.mem_reverse]at hr
    obtain⟨z,d,a1,a2,a3,_,a5⟩:=o.covR r hr
    refine⟨z,d,a1,a2,a3,fun y hy hne=>?_⟩
    obtain⟨⟨q,x,hq,hx,e⟩,hv⟩:=a5 y hy hne
    exact⟨q,x,hq,hx,e,hK q x y hx e hv⟩
   cl:=fun y hy=>by
    obtain⟨q,x,hq,e⟩:=hc y hy
    exact⟨q,x,hq,e,hK q x y hq e (o.cov y hy)⟩
   dis:=fun r hr=>o.dis r (List.mem_reverse.1 hr)
   need:=fun r hr=>by
    rw[List.mem_reverse]at hr
    obtain⟨z,d,a1,_,_,a4,_⟩:=o.covR r hr
    rw[litAt_eq a1]
    refine(o.src r z a1 a4).imp_right ?_
    rintro ⟨r',z',d',b1,b2,b3⟩
    exact⟨r',z',d',b1,List.mem_reverse.2 b2,b3⟩
   fal:=hf }
theorem short_cov (h:Sim T its) {L:List Int} (hn:L.Nodup) {y:Int} (hy:Has its (-y)) (hcv:cov15 A T L y=true):cov15 A T (short15 A T L) y=true:=by
 have hkp: ∀(p:Nat) (x:RIt),its[p]? =some x→ -x.lit∈L→ -x.lit∈short15 A T L∨impl15 A T L (litV x.lit:Nat)=true:=fun p x hp hm=>by
  cases hi:impl15 A T L (litV x.lit:Nat)with
  | true=>exact .inr rfl
  | false=>
   left
   rw[short_filter hn]
   refine List.mem_filter.2 ⟨hm,?_⟩
   unfold keepB
   rw[litV_negate,hi,Bool.or_eq_true]
   exact .inr rfl
 obtain⟨q,x,hq,e⟩:=hy
 have hye:y= -x.lit:=by rw[e,Int.neg_neg]
 subst hye
 unfold cov15 at hcv⊢
 rw[Bool.or_eq_true,litV_negate]at hcv⊢
 rcases hcv with g|g
 ·refine(hkp q x hq (List.contains_iff_mem.1 g)).imp List.contains_iff_mem.2 fun g=>?_
  exact imp_lift h hkp q x hq g
 ·exact .inr (imp_lift h hkp q x hq g)
theorem ConfO.nodup {id lv:Int} {c:List Int} {x:Lrn} {R K:List Nat} (o:ConfO C T its id c lv x R K) (h:Sim T its):x.lits.Nodup:=by
 rw[o.lits]
 refine List.pairwise_map.2 (o.kdn.imp_of_mem ?_)
 intro a b ha hb hab e
 obtain⟨za,hza⟩:=getElem_of (o.kin a ha).1
 obtain⟨zb,hzb⟩:=getElem_of (o.kin b hb).1
 rw[litAt_eq hza,litAt_eq hzb]at e
 have:=h.inj hza hzb (by rw[show za.lit=zb.lit by omega])
 omega
theorem min_law (h:Sim T its) (hr:Rsn C its) (hA: ∀j,A.get j=C j) (hd:Dcs its) {id:Int} {c:List Int} (hcc:C id=some c) (hb:clauseB c=true) (hc: ∀y∈c,Has its (-y)):
  ∃x0 lv R0 K0 x R K,confP A T id=(x0,0)∧ConfO C T its id c lv x0 R0 K0∧minP A T id=(x,0)∧ConfO C T its id c lv x R K∧x.met=x0.met∧x.lits.Sublist x0.lits∧x.lits.head? =x0.lits.head? :=by
 obtain⟨x,lv,R,K,e,o⟩:=conf_law h hr hA hd hcc hc
 have hn:=o.nodup h
 have hsf:=short_filter (A:=A) (T:=T) hn
 have hsub:(short15 A T x.lits).Sublist x.lits:=by
  rw[hsf]
  exact List.filter_sublist
 have hf: ∀y∈short15 A T x.lits,Has its (-y):=fun y hy=>o.chain.fal y (hsub.subset hy)
 have hcov: ∀y∈c,cov15 A T (short15 A T x.lits) y=true:=fun y hy=>by
  refine short_cov h hn (hc y hy) ?_
  obtain⟨q,z,hq,ez,hz⟩:=o.chain.cl y hy
  unfold cov15
  rw[Bool.or_eq_true]
  rcases hz with hz|hz
  ·right
   have:=o.chain.imp h hA q z hz hq
   rwa [show litV z.lit=litV y from by rw[ez,litV_negate]]at this
  ·left
   exact List.contains_iff_mem.2 hz
 obtain⟨R',hH,ch⟩:=hints_chain h hA hcc hb hc hf hcov
 have hlits:short15 A T x.lits=(K.filter fun q=>keepB A T x.lits (-(litAt its q))).map fun q=> -(litAt its q):=by
  rw[hsf]
  conv=>lhs;rw[o.lits,List.filter_map]
  rw[←o.lits]
  rfl
 have hhead: ∀k K',K=k::K'→K.filter (fun q=>keepB A T x.lits (-(litAt its q)))=k::K'.filter (fun q=>keepB A T x.lits (-(litAt its q))):=fun k K' hK=>by
  have hkb:keepB A T x.lits (-(litAt its k))=true:=by
   unfold keepB
   rw[Bool.or_eq_true]
   left
   apply decide_eq_true
   rw[o.lits,hK]
   rfl
  rw[hK]
  exact List.filter_cons_of_pos (p:=fun q=>keepB A T x.lits (-(litAt its q))) hkb
 refine⟨x,lv,R,K,⟨short15 A T x.lits,T.backOf (short15 A T x.lits),T.levelsOf (short15 A T x.lits),R'.map (rsAt its)++ [id],x.met⟩,R',K.filter (fun q=>keepB A T x.lits (-(litAt its q))),e,o,?_,?_,rfl,hsub,?_⟩
 ·unfold minP
  rw[e]
  simp only
  rw[if_neg (by decide),hH]
  simp only
  rw[if_neg (by decide)]
 ·exact {
   max:=o.max
   lv0:=o.lv0
   chain:=ch
   hints:=rfl
   lits:=hlits
   kdn:=o.kdn.sublist List.filter_sublist
   kin:=fun q hq=>o.kin q (List.mem_filter.1 hq).1
   one:=fun hl=>by
    obtain⟨k,K',hK,h1,h2⟩:=o.one hl
    exact⟨k,_,hhead k K' hK,h1,fun q hq=>h2 q (List.mem_filter.1 hq).1⟩
   none:=fun hl=>by
    rw[o.none hl]
    rfl
   back:=rfl
   levels:=rfl }
 ·show(short15 A T x.lits).head? =x.lits.head?
  cases hK:K with
  | nil=>
   rw[hlits,o.lits,hK]
   rfl
  | cons k K'=>
   rw[hlits,hhead k K' hK,o.lits,hK]
   rfl
end
end Go.Proofs.YtoojmhjagipmdaaGreat
namespace Go.Proofs.YtoojmhjagipmdaaGreat
open Go.RowKit
set_option maxRecDepth 100000 in
set_option maxHeartbeats 4000000 in
theorem law_conflict15 (v0 v1:Value) (x:List (List Int)) (l:List Int) (cs:List (List Int)) (w:World) (h0:RowsAt .i8 w v0 x) (h1:RowAt .i8 w v1 l) (hcs:(x.take 14).map madeL=cs) (h6:Six cs):
  Calls Tryz.prog 23 #[v0,v1] w fun e w'=> ∃w2 sb b a t lab T its S id av us,e= .returned (.tuple #[.pointer (some ⟨sb,0,none⟩),.int .i64 id,.bool true])∧Below w.heap.size w w2∧SrAt w2 w' lab sb b a t (addAll arn0 0 cs) T S cs av us∧Sr cs T its S id:=by
 have H0:=Lib.hid h0
 have H1:=Lib.hid h1
 obtain⟨A0,c0,rfl,_⟩:=h0
 obtain⟨A1,c1,rfl,hc1,hm1,hn1,hwf1,hx1⟩:=h1
 have HWF:=Lib.hid hwf1
 have HX1:=Lib.hid hx1
 clear hwf1 hx1 hn1
 go_enter Tryz.func23,Tryz.ntmps23
 go_wp2_with fail
 refine(all_any _ x 14 w H0.out (by decide)).mono ?_
 rintro e w2 ⟨v,rfl,hcl,hb2⟩
 rw[hcs]at hcl
 have HB2:=Lib.hid (hb2)
 have hca:=hcl.cls
 obtain⟨Av,cv,rfl,_⟩:=id hca
 have HBE:=Lib.hid (law_begin Av cv cs w2 hca hcl.clsIn h6)
 clear hb2 hcl hca
 go_wp2_with fail
 refine HBE.out.mono ?_
 rintro e w3 ⟨sb,b,a,t,lab,T,its,S,id,av,us,rfl,hsr,hs,hnw⟩
 have HSR:=Lib.hid hsr
 have HS:=Lib.hid hs
 have HNW:=Lib.hid (show T.now≤((0:Nat):Int)from by rw[hnw];exact Int.le_refl _)
 clear hsr hs hnw HBE
 go_wp2_with fail
 go_loopw [8,9,10] (fun iv okv kv wr=> ∃(k:Nat) (id:Int) (labr:Nat→Nat) (T:Trl) (its:List RIt) (S:Wst),kv= .int .i64 k∧iv= .int .i64 id∧okv= .bool true∧k≤8∧Hid (T.now≤k)∧Hid (SrAt w2 wr labr sb b a t (addAll arn0 0 cs) T S cs av us)∧Hid (Sr cs T its S id)) (fun _ _ kv _=>9-(intOf kv).toNat)
 case atStart=>exact⟨0,id,lab,T,its,S,rfl,rfl,rfl,by decide,HNW,HSR,HS⟩
 case round=>
  obtain⟨k,id,labr,T,its,S,rfl,rfl,rfl,hk8,HNK,HL,HG⟩:=hrel
  obtain⟨N,hN⟩: ∃N:Nat,min l.length 8=N:=⟨_,rfl⟩
  have hNi:min (l.length:Int) 8=(N:Int):=by omega
  have HNN:=Lib.hid hN
  clear hN
  go_upto_region 3 with fail
  go_cut [29] (fun q wx=>q= .bool (decide (id=0)&&decide (k<N))∧wx=wr)
  case first=>
   by_cases hz:id=0
   ·have qz:(id==0)=true:=by simpa using hz
    go_wp2_with fail
    go_meet
    exact⟨by rw[decide_eq_true hz];rfl,rfl⟩
   ·have qz:(id==0)=false:=by simpa using hz
    go_wp2_with fail
    go_meet
    exact⟨by rw[decide_eq_false hz];rfl,rfl⟩
  case rest=>
   obtain⟨rfl,rfl⟩:=hcut
   obtain⟨bb,hbb⟩: ∃bb,(decide (id=0)&&decide (k<N))=bb:=⟨_,rfl⟩
   rw[hbb]
   have HBW:=Lib.hid (HB2.out.trans (HL.out.lw.hb.mono HB2.out.size))
   cases bb with
   | true=>
    rw[Bool.and_eq_true,decide_eq_true_eq,decide_eq_true_eq]at hbb
    obtain⟨hz,hkN⟩:=hbb
    have HG0:=Lib.hid (show Sr cs T its S 0 from by rw[←hz];exact HG.out)
    have hkl:k<l.length:=by have:=HNN.out;omega
    have hk7:k+1≤8:=by have:=HNN.out;omega
    obtain⟨n,hnk⟩:=getElem_of hkl
    obtain⟨g,o,rfl,hg,d0⟩:=HX1.out k n hnk
    have HMO:=Lib.hid (made_sub g (o+k) (c1-k) n wc (HWF.out n (List.mem_of_getElem? hnk)) (by omega) (by omega) (Nat.lt_of_lt_of_le hg HBW.out.size) ((HBW.out.cell (p:=⟨g,o+k,none⟩) hg).trans d0))
    have HYN:=Lib.hid (madeLit_six n)
    have hwk:IntKind.i64.wrap ((k:Int)+1)=(k:Int)+1:=IntWalk.i64_in _ (by omega)
    clear hnk d0 hz hkN
    go_wp2_with fail
    refine HMO.out.mono ?_
    rintro e w9 ⟨gy,cy,rfl,hcy,hy,hb9⟩
    have HL9:=Lib.hid (HL.out.below hb9)
    have HDE:=Lib.hid (law_decide14 (madeLit n) HL9.out HG0.out h6 HYN.out (by have:=HNK.out;omega))
    clear hb9 HMO
    go_wp2_with fail
    refine HDE.out.mono ?_
    rintro e w10 ⟨lab10,T',its',S',id',rfl,hl10,hs10,hn10,_⟩
    have HL10:=Lib.hid hl10
    have HS10:=Lib.hid hs10
    have HN10:=Lib.hid (show T'.now≤((k+1:Nat):Int)from by have:=HNK.out;omega)
    clear hl10 hs10 hn10 HDE HL9 hy
    go_wp2_with fail
    go_roundw
    case rel=>exact⟨k+1,id',lab10,T',its',S',by go_num,rfl,rfl,hk7,HN10,HL10,HS10⟩
    case measure=>simp[intOf];omega
   | false=>
    clear hbb HNN HNK
    go_wp2_with fail
    refine bodyPost_ret (v:=.tuple #[.pointer (some ⟨sb,0,none⟩),.int .i64 id,.bool true]) (by simp[results,Tryz.results23,go_sem]) rfl ?_
    exact⟨w2,sb,b,a,t,labr,T,its,S,id,av,us,rfl,HB2.out,HL.out,HG.out⟩
end Go.Proofs.YtoojmhjagipmdaaGreat
namespace Go.Proofs.YtoojmhjagipmdaaGreat
open Go.RowKit
theorem litC_lt {a b:Int} (ha:litB a=true) (hb:litB b=true):litC a b<0↔litI a<litI b:=by
 unfold litC
 rw[if_pos ha,if_pos hb]
 unfold Lib.compareInt
 split
 ·omega
 ·split <;> omega
theorem litC_zero {a b:Int} (ha:litB a=true) (hb:litB b=true):litC a b=0↔a=b:=by
 constructor
 ·intro h
  have h1:ltOf litC a b=false:=by
   unfold ltOf
   rw[h]
   rfl
  refine ltC_total a b h1 ?_
  unfold litC at h
  rw[if_pos ha,if_pos hb]at h
  unfold Lib.compareInt at h
  cases hq:ltOf litC b a with
  | false=>rfl
  | true=>
   have:=(litC_lt hb ha).1 (of_decide_eq_true hq)
   rw[if_neg (by omega),if_pos (by omega)]at h
   cases h
 ·rintro rfl
  unfold litC
  rw[if_pos ha,if_pos ha]
  unfold Lib.compareInt
  rw[if_neg (by omega),if_neg (by omega)]
theorem litI_lt {l:List Int} (h:l.Pairwise fun x y=>litI x<litI y) {i j:Nat} {x y:Int} (hi:l[i]? =some x) (hj:l[j]? =some y) (hij:i<j):litI x<litI y:=by
 have hi':=List.getElem?_eq_some_iff.1 hi
 have hj':=List.getElem?_eq_some_iff.1 hj
 have:=List.pairwise_iff_getElem.1 h i j hi'.1 hj'.1 hij
 rw[hi'.2,hj'.2]at this
 exact this
set_option maxRecDepth 100000 in
set_option maxHeartbeats 2000000 in
theorem lit_bsf {O:Nat→Prop} (Av:Option Addr) (cv:Nat) (l:List Int) (y:Int) (w:World) (h:IntsIn O w (.slice Av l.length cv) l) (hs:l.Pairwise fun a b=>litI a<litI b) (hr: ∀x∈l,litB x=true) (hy:litB y=true) (hl:l.length≤4194304):
  Calls Tryz.prog 73 #[.slice Av l.length cv,.int .i64 y,.func (.func 74) #[] #[]] w fun r w'=> ∃p:Int,r= .returned (.tuple #[.int .i64 p,.bool (l.contains y)])∧w=w':=by
 obtain⟨A,c,hv,hc,_,hx⟩:=h
 simp only[Value.slice.injEq,true_and]at hv
 obtain⟨rfl,rfl⟩:=hv
 have HX:=Lib.hid hx
 have HS:=Lib.hid hs
 have HR:=Lib.hid hr
 obtain⟨bc,hbc⟩: ∃b,l.contains y=b:=⟨_,rfl⟩
 rw[hbc]
 have HBC:=Lib.hid hbc
 clear hx hs hr hbc
 go_enter Tryz.func73,Tryz.ntmps73
 go_wp2_with fail
 go_loopw [9,10] (fun a b wr=> ∃i j:Nat,i≤j∧j≤l.length∧a= .int .i64 i∧b= .int .i64 j∧Hid (w=wr)∧Hid (∀k e,k<i→l[k]? =some e→litI e<litI y)∧Hid (∀k e,j≤k→l[k]? =some e→litI y≤litI e)) (fun a b _=>(intOf b).toNat-(intOf a).toNat)
 case atStart=>exact⟨0,l.length,Nat.zero_le _,Nat.le_refl _,rfl,rfl,Lib.hid rfl,Lib.hid (fun k e hk=>by omega),Lib.hid (fun k e hk he=>by have:=(List.getElem?_eq_some_iff.1 he).1;omega)⟩
 case round=>
  obtain⟨i,j,hij,hjl,rfl,rfl,HW,H1,H2⟩:=hrel
  by_cases hlt:i<j
  ·have hw1:IntKind.i64.wrap ((i:Int)+(j:Int))=(i:Int)+(j:Int):=IntWalk.i64_in _ (by omega)
   obtain⟨m,hm⟩: ∃m,(i+j)/2=m:=⟨_,rfl⟩
   have hm2:((i:Int)+(j:Int))/2=(m:Int):=by omega
   have him:i≤m:=by omega
   have hmj:m<j:=by omega
   clear hm
   obtain⟨x,hx⟩: ∃x,l[m]? =some x:=⟨_,List.getElem?_eq_getElem (by omega)⟩
   obtain⟨gv,o,rfl,hgl,_,c0⟩:=HX.out m x hx
   have d0:wr.cell? ⟨gv,o+m,none⟩=some (.int .i64 x):=by rw[←HW.out];exact c0
   have HCM:=Lib.hid (lit_compare x y wr)
   have HXB:=Lib.hid (HR.out x (List.mem_of_getElem? hx))
   have HXM:=Lib.hid hx
   clear c0 hx
   by_cases hcx:litI x<litI y
   ·have hd:decide (litC x y<0)=true:=decide_eq_true ((litC_lt HXB.out hy).2 hcx)
    have HC:=Lib.hid hcx
    clear hcx
    go_wp2_with fail
    refine HCM.out.mono ?_
    rintro e w1 ⟨rfl,rfl⟩
    clear d0
    go_wp2_with fail
    go_roundw
    case rel=>exact⟨m+1,j,by omega,hjl,by go_num,rfl,HW,Lib.hid (fun k z hk hz=>by
     rcases Nat.lt_or_ge k m with h|h
     ·have:=litI_lt HS.out hz HXM.out h
      have:=HC.out
      omega
     ·obtain rfl:k=m:=by omega
      rw[HXM.out]at hz
      obtain rfl:=Option.some.inj hz
      exact HC.out),H2⟩
    case measure=>simp[intOf];omega
   ·have hd:decide (litC x y<0)=false:=decide_eq_false fun g=>hcx ((litC_lt HXB.out hy).1 g)
    have HC:=Lib.hid hcx
    clear hcx
    go_wp2_with fail
    refine HCM.out.mono ?_
    rintro e w1 ⟨rfl,rfl⟩
    clear d0
    go_wp2_with fail
    go_roundw
    case rel=>exact⟨i,m,him,by omega,rfl,by go_num,HW,H1,Lib.hid (fun k z hk hz=>by
     have hcc:=HC.out
     rcases Nat.lt_or_ge m k with h|h
     ·have:=litI_lt HS.out HXM.out hz h
      omega
     ·obtain rfl:k=m:=by omega
      rw[HXM.out]at hz
      obtain rfl:=Option.some.inj hz
      omega)⟩
    case measure=>simp[intOf];omega
  ·obtain rfl:i=j:=by omega
   by_cases hil:i<l.length
   ·obtain⟨x,hx⟩: ∃x,l[i]? =some x:=⟨_,List.getElem?_eq_getElem hil⟩
    obtain⟨gv,o,rfl,hgl,_,c0⟩:=HX.out i x hx
    have d0:wr.cell? ⟨gv,o+i,none⟩=some (.int .i64 x):=by rw[←HW.out];exact c0
    have HCM:=Lib.hid (lit_compare x y wr)
    have hxb:=HR.out x (List.mem_of_getElem? hx)
    have hres:(litC x y==0)=bc:=by
     rw[←HBC.out]
     refine Bool.eq_iff_iff.2 ?_
     rw[beq_iff_eq,litC_zero hxb hy,List.contains_iff_mem]
     constructor
     ·rintro rfl
      exact List.mem_of_getElem? hx
     ·intro hm
      obtain⟨k,hk⟩:=List.getElem?_of_mem hm
      rcases Nat.lt_trichotomy k i with h|h|h
      ·have:=H1.out k y h hk
       omega
      ·subst h
       rw[hx]at hk
       exact Option.some.inj hk
      ·have h3:=litI_lt HS.out hx hk h
       have h4:=H2.out i x (Nat.le_refl _) hx
       omega
    clear c0 hx hxb
    go_wp2_with fail
    refine HCM.out.mono ?_
    rintro e w1 ⟨rfl,rfl⟩
    clear d0
    go_wp2_with fail
    go_ret2
    exact⟨_,rfl,HW.out⟩
   ·have hd:decide ((i:Int)<(l.length:Int))=false:=by simp;omega
    have hres:bc=false:=by
     rw[←HBC.out]
     cases hq:l.contains y with
     | false=>rfl
     | true=>
      obtain⟨k,hk⟩:=List.getElem?_of_mem (List.contains_iff_mem.1 hq)
      have h5:=(List.getElem?_eq_some_iff.1 hk).1
      have:=H1.out k y (by omega) hk
      omega
    subst hres
    go_wp2_with fail
    go_ret2
    exact⟨_,rfl,HW.out⟩
end Go.Proofs.YtoojmhjagipmdaaGreat
namespace Go.Proofs.YtoojmhjagipmdaaGreat
open Go.RowKit Go.Shelf Go.Sort
attribute [local go_sem] Oper.semAt_some
theorem res_bool4 {fn:Func} (h:fn.results= #[.cell 4 4]) {w:World} {r:Nat} {b:Bool} (hb:Boxed w r 4 (.bool b)) (tmps:Array Value) (t4:tmps[4]?.getD undef= .pointer (some ⟨r,0,none⟩)):
  (results fn tmps).run Tryz.prog w= .ok (.bool b) w:=by
 have p0:=hb.cell
 simp[results,h,go_sem,t4,p0]
def WI (W4:World) (_:List (Int×Nat)) (W:World):Prop:=Below W4.heap.size W4 W
theorem wi_own (W4:World) {N:Nat} (hN:W4.heap.size≤N):OwnFrom N (WI W4):=fun _ _ _ _ (h:Below _ _ _) hg hr=>h.grown hg h.size (fun k e=>Nat.le_trans hN (hr k e).1)
set_option maxRecDepth 100000 in
set_option maxHeartbeats 4000000 in
theorem within_yes {O O':Nat→Prop} (u v:Value) (xs ys:List Int) (w:World) (hu:IntsIn O w u xs) (hv:IntsIn O' w v ys) (hcx:clauseB xs=true) (hcy:clauseB ys=true) (hsub: ∀x∈xs,x∈ys):
  Calls Tryz.prog 26 #[u,v] w fun e w'=>e= .returned (.bool true)∧Below w.heap.size w w':=by
 have hcx2:=hcx
 have hcy2:=hcy
 unfold clauseB at hcx2 hcy2
 rw[Bool.and_eq_true,decide_eq_true_eq,List.all_eq_true]at hcx2 hcy2
 obtain⟨hlx,hrx⟩:=hcx2
 obtain⟨hly,hry⟩:=hcy2
 obtain⟨W0,hW0⟩: ∃x,w.alloc (.cells #[.bool false] 4)=x:=⟨_,rfl⟩
 have hb0:Below w.heap.size w W0:=by rw[←hW0];exact mx_al _ _
 have hc0:Boxed W0 w.heap.size 4 (.bool false):=by rw[←hW0];exact Boxed.new _ _ _
 have hz0:W0.heap.size=w.heap.size+1:=by rw[←hW0];simp
 have HU0:=Lib.hid (hu.below hb0)
 have HRX:=right_clause u xs W0 (hu.below hb0) (by omega)
 have HRY:=right_clause v ys W0 (hv.below hb0) (by omega)
 rw[hcx]at HRX
 rw[hcy]at HRY
 have HRX:=Lib.hid HRX
 have HRY:=Lib.hid HRY
 have HNY:=Lib.hid (normal_any v ys W0 (hv.below hb0) (by omega))
 have HPY:=Lib.hid (normL_pair hry)
 have HIN:=Lib.hid (show∀x∈normL xs,litB x=true∧(normL ys).contains x=true from fun x hx=>⟨hrx x (normL_mem hx),List.contains_iff_mem.2 ((normL_has hry).2 (hsub x (normL_mem hx)))⟩)
 have HRN:=Lib.hid (show∀x∈normL ys,litB x=true from fun x hx=>hry x (normL_mem hx))
 have hnl:=normL_len ys
 obtain⟨A,c,rfl,_⟩:=hu
 obtain⟨A',c',rfl,_⟩:=hv
 have HW0:=Lib.hid hW0
 have HB0:=Lib.hid hb0
 have HC0:=Lib.hid hc0
 clear hW0 hb0 hc0 hrx hry hcx hcy hsub
 refine(callsIn_wide (n:=10)).1 ?_
 refine callsIn_of_wp_marks Tryz.func26 rfl trivial ?_ rfl
 simp only[Tryz.ntmps26,List.size_toArray,List.length_cons,List.length_nil,Nat.reduceAdd,Nat.reduceSub,Array.replicate_succ,Array.replicate_zero,List.push_toArray,List.append_toArray,List.nil_append,List.cons_append]
 gi_wp2_with fail
 rw[HW0.out]
 refine⟨trivial,?_⟩
 refine(callsIn_wide.2 HRX.out).mono ?_
 rintro e W' ⟨rfl,rfl⟩
 gi_wp2_with fail
 refine⟨trivial,?_⟩
 refine(callsIn_wide.2 HRY.out).mono ?_
 rintro e W' ⟨rfl,rfl⟩
 gi_wp2_with fail
 refine⟨trivial,?_⟩
 refine(callsIn_wide.2 HNY.out).mono ?_
 rintro e W1 ⟨nv,rfl,hn,hb1⟩
 obtain⟨An,cn,rfl,_⟩:=mx_slice hn
 have HN:=Lib.hid hn
 have HB1:=Lib.hid hb1
 obtain⟨W2,hW2⟩: ∃z,W1.alloc (.cells #[.slice none 0 0] 34)=z:=⟨_,rfl⟩
 have hc2:Boxed W2 W1.heap.size 34 (.slice none 0 0):=by rw[←hW2];exact Boxed.new _ _ _
 have r1:=hc2.cell
 have r2:=hc2.frozen
 clear hn hb1
 gi_wp2_with fail
 have hb2:Below W1.heap.size W1 W2:=by rw[←hW2];exact mx_al _ _
 have hz2:W2.heap.size=W1.heap.size+1:=by rw[←hW2];simp
 have hz1:W0.heap.size≤W1.heap.size:=HB1.out.size
 obtain⟨W3,hW3⟩: ∃z,W2.setCell ⟨W1.heap.size,0,none⟩ (.slice An (normL ys).length cn)=z:=⟨_,rfl⟩
 have hc3:Boxed W3 W1.heap.size 34 (.slice An (normL ys).length cn):=by rw[←hW3];exact hc2.set _
 have hb3:Below W1.heap.size W1 W3:=by rw[←hW3];exact hb2.setCell (p:=⟨W1.heap.size,0,none⟩) (Nat.le_refl _) _
 have hd1:Boxed W1 w.heap.size 4 (.bool false):=(HB1.out.block _ (heap_lt HC0.out)).trans HC0.out
 have hd3:Boxed W3 w.heap.size 4 (.bool false):=(hb3.block _ (heap_lt hd1)).trans hd1
 have hz3:=hb3.size
 obtain⟨W4,hW4⟩: ∃z,W3.alloc (.cells #[.slice A xs.length c] 34)=z:=⟨_,rfl⟩
 have hb4:Below W3.heap.size W3 W4:=by rw[←hW4];exact mx_al _ _
 have hz4:=hb4.size
 have hc4:W4.cell? ⟨W3.heap.size,0,none⟩=some (.slice A xs.length c):=by rw[←hW4];exact mx_cell (j:=0) (World.alloc_heap_new _ _)
 have hb14:Below W1.heap.size W1 W4:=hb3.trans (hb4.mono hz3)
 have hbw4:Below w.heap.size w W4:=HB0.out.trans ((HB1.out.trans (hb14.mono hz1)).mono (by omega))
 have HBX:=Lib.hid (show Boxed W4 w.heap.size 4 (.bool false)from(hb4.block _ (heap_lt hd3)).trans hd3)
 have HBY:=Lib.hid (show Boxed W4 W1.heap.size 34 (.slice An (normL ys).length cn)from(hb4.block _ (heap_lt hc3)).trans hc3)
 have HIY:=Lib.hid ((IntsIn.of_own HN.out).below hb14)
 have HSEQ:=Lib.hid (sorted_stops (fun _=>False) W3.heap.size _ xs W4 hc4 ((HU0.out.below HB1.out).below hb14) (by omega) (fun g hg=>hg.elim))
 have HBW4:=Lib.hid hbw4
 have HW4:=Lib.hid hW4
 have hwl:w.heap.size<W4.heap.size:=heap_lt HBX.out
 obtain⟨zs,hzs⟩: ∃y,normL xs=y:=⟨_,rfl⟩
 rw[hzs]at HSEQ HIN
 rw[hW3]
 clear r1 r2 hW2 hc2 hb2 hz2 hW3 hc3 hb3 hd1 hd3 hW4 hb4 hc4 hb14 hbw4 hzs
 refine⟨trivial,?_⟩
 refine(callsIn_wide.2 (sorted_run A xs.length c W3)).mono ?_
 rintro e W' ⟨rfl,rfl⟩
 rw[HW4.out]
 gi_wp2_with fail
 refine wpIn_range_M (gf:=117) (lb:= #[.pointer (some ⟨W3.heap.size,0,none⟩)]) rfl (enters_of Tryz.func117 (by kernel_rfl) rfl) HSEQ.out (Below.refl _ _) (fun _=>rfl)
  (fun pre x W W3 l r r' h1 h2 h3 h4=>SPost.turn h4 h3) (fun pre x W W3 l r r' h1 h2 h3 h4=>trivial)
  (WI W4) (fun _ _=>False) (wi_own _ (by omega)) (fun _ _ _ _ h _ _=>h) (Below.refl _ _)
  ?frame (GMid (fun _=>False) (WI W4) zs (W4.heap.size+2))
  (fun pre x W Bx W' l r r' h1 h2 h3 h4=>h4.turn (wi_own _ (by omega)) h1 h3)
  ?assign ?body ?done ?stop
 case assign=>
  rintro l pre x W K hi hp hK
  dsimp only[sv]
  gi_wp2
  obtain⟨Bx,hBx⟩: ∃b:Nat,b=0:=⟨0,rfl⟩
  exact hK Bx W (KeepsRec.refl W) ⟨hi,hp,KpC.refl _ _⟩
 case body=>
  rintro l pre x W Bx W' ⟨hi,hp,hk⟩
  have HK:=Lib.hid hk
  have HI:=Lib.hid hi
  have hi2:Below W4.heap.size W4 W':=hi
  obtain⟨hxb,hxc⟩:=HIN.out x.1 (hp.run.subset (List.mem_append_right _ (List.mem_singleton.2 rfl)))
  have r1:=(show Boxed W' W1.heap.size 34 (.slice An (normL ys).length cn)from(hi2.block _ (heap_lt HBY.out)).trans HBY.out).cell
  obtain⟨x1,hx1⟩: ∃z,x.1=z:=⟨_,rfl⟩
  rw[hx1]at hxb hxc⊢
  have hbs:=lit_bsf An cn (normL ys) x1 W' (HIY.out.below hi2) HPY.out HRN.out hxb (by omega)
  rw[hxc]at hbs
  have HBS:=Lib.hid hbs
  clear hi hp hk hi2 hx1 hxb hxc hbs
  gi_wp2_with fail
  refine⟨trivial,((CallsIn.inRound l (callsIn_wide.2 HBS.out)).mono ?_)⟩
  rintro e W5 ⟨p,rfl,rfl⟩
  gi_wp2_with fail
  exact⟨KeepsRec.refl _,HI.out,HK.out⟩
 case done=>
  rintro D zs W hD hS hi hDf
  have hi2:Below W4.heap.size W4 W:=hi
  have hbx:=(show Boxed W w.heap.size 4 (.bool false)from(hi2.block _ (heap_lt HBX.out)).trans HBX.out)
  have q1:=hbx.cell
  have q2:=hbx.frozen
  have HBB:=Lib.hid hbx
  have HI:=Lib.hid (show Below w.heap.size w W from HBW4.out.trans (hi2.mono (by omega)))
  have HD:=Lib.hid hDf
  have hne:D≠w.heap.size:=by omega
  clear hi hi2 hbx hDf hS
  gi_wp2
  have hD':(W.setCell ⟨w.heap.size,0,none⟩ (.bool true)).heap[D]? =some (.deferred (some [])):=((grownBy_setCell' W w.heap.size (.bool true)).block D (heap_lt HD.out) (fun e=>hne (Option.some.inj e))).trans HD.out
  refine⟨by simp,.inl ⟨_,_,rfl,run_takeDeferred hD',?_⟩⟩
  refine⟨_,res_bool4 rfl (boxed_grown (HBB.out.set (.bool true)) (grownBy_putObj' _ D _) (fun r e=>by cases e;exact⟨_,hD',rfl⟩)) _ rfl,rfl,?_⟩
  have hb:=HI.out.setCell (p:=⟨w.heap.size,0,none⟩) (Nat.le_refl _) (.bool true)
  exact hb.grown (grownBy_putObj' _ D _) hb.size (fun g e=>by cases e;omega)
 case stop=>
  rintro D pre W hD hp hi hDf
  exact hi.elim
end Go.Proofs.YtoojmhjagipmdaaGreat
