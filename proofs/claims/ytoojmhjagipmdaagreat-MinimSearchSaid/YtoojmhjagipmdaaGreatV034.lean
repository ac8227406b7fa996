/- Plain: what minim.Conflict returns is the outcome of a conflict too: fewer literals, and the chain of its hints. The example of chapter 15; awake (package salvorlaw15). -/
import Derived.Test.YtoojmhjagipmdaaGreatV013
import Derived.Test.YtoojmhjagipmdaaGreatV033
import Derived.Test.YtoojmhjagipmdaaGreatV012
import Derived.Test.YtoojmhjagipmdaaGreatV026
namespace Go.Proofs.YtoojmhjagipmdaaGreat
open Go.RowKit
section
variable {A:Arn} {C:Int→Option (List Int)} {T:Trl} {its:List RIt}
theorem why15_of (h:Sim T its) (hA: ∀j,A.get j=C j) {p:Nat} {x:RIt} (hp:its[p]? =some x) {d:List Int} (hd:C x.reason=some d) (hm:x.lit∈d) (ho: ∀y∈d,y≠x.lit→HasAt its p (-y)):why15 A T (litV x.lit:Nat)=some (x.reason,rest15 (litV x.lit:Nat) d):=by
 have hr:rightB A T (litV x.lit:Nat)=true:=by
  rw[rightB_at h A hp,rightP_some (h.rsn hp) ((hA _).trans hd),if_pos]
  ·rfl
  refine⟨by rw[h.why hp];rfl,List.contains_iff_mem.2 hm,before_true fun y hy hne=>?_⟩
  obtain⟨q,z,hq,hz,e⟩:=ho y hy hne
  obtain⟨_,_,h1,h2,_⟩:=at_fal h hz e
  rw[h2,h.plc hp]
  exact⟨h1,by omega⟩
 unfold why15
 rw[if_pos hr,h.rsn hp,hA,hd]
theorem why15_is (h:Sim T its) (hA: ∀j,A.get j=C j) {p:Nat} {x:RIt} (hp:its[p]? =some x) {r:Int×List Int} (hw:why15 A T (litV x.lit:Nat)=some r):
  ∃d,C x.reason=some d∧x.lit∈d∧r=(x.reason,rest15 (litV x.lit:Nat) d)∧∀y∈d,y≠x.lit→y∈r.2∧HasAt its p (-y):=by
 have hrB:rightB A T (litV x.lit:Nat)=true:=by
  have hw2:=hw
  unfold why15 at hw2
  split at hw2
  ·assumption
  ·cases hw2
 obtain⟨d,hd,hre⟩:=why15_get hw
 rw[h.rsn hp]at hd hre
 rw[rightB_at h A hp]at hrB
 obtain⟨d',hd'⟩:=Option.isSome_iff_exists.1 hrB
 rw[rightP_some (h.rsn hp) hd]at hd'
 split at hd'
 ·rename_i hcnd
  obtain⟨_,h2,h3⟩:=hcnd
  refine⟨d,(hA _).symm.trans hd,List.contains_iff_mem.1 h2,hre,fun y hy hne=>?_⟩
  obtain⟨g1,g2⟩:=(before_eq T _ _ _).1 h3 y hy hne
  have hyr:y∈r.2:=by
   rw[hre]
   refine List.mem_filter.2 ⟨hy,decide_eq_true fun e=>?_⟩
   have e2:litV y=litV x.lit:=by omega
   rw[e2]at g2
   omega
  obtain⟨h4,h5⟩:=why15_rest h hp hw y hyr
  obtain⟨q,z,hq,rfl,e⟩:=h.fal h4
  rw[←e,h.rp hq]at h5
  exact⟨hyr,q,z,by omega,hq,(Int.neg_neg _).symm⟩
 ·cases hd'
theorem imp_lift (h:Sim T its) {L L':List Int} (hcv: ∀(p:Nat) (x:RIt),its[p]? =some x→ -x.lit∈L→ -x.lit∈L'∨impl15 A T L (litV x.lit:Nat)=true): ∀(p:Nat) (x:RIt),its[p]? =some x→impl15 A T L (litV x.lit:Nat)=true→impl15 A T L' (litV x.lit:Nat)=true:=by
 intro p
 induction p using Nat.strongRecOn with
 | ind p ih=>
  intro x hp hi
  rw[impl15_at h L hp]at hi
  rw[impl15_at h L' hp]
  cases hw:why15 A T (litV x.lit:Nat)with
  | none=>
   rw[hw]at hi
   cases hi
  | some r=>
   rw[hw]at hi
   simp only at hi⊢
   rw[List.all_eq_true]at hi⊢
   intro z hz
   obtain⟨h1,h2⟩:=why15_rest h hp hw z hz
   have h3:=hi z hz
   obtain⟨q,y,hq,rfl,e⟩:=h.fal h1
   rw[←e,h.rp hq]at h2
   unfold cov15 at h3⊢
   rw[Bool.or_eq_true,←e]at h3⊢
   rcases h3 with h3|h3
   ·rcases hcv q y hq (List.contains_iff_mem.1 h3)with g|g
    ·exact .inl (List.contains_iff_mem.2 g)
    ·exact .inr (ih q (by omega) y hq g)
   ·exact .inr (ih q (by omega) y hq h3)
theorem Chain.imp {L c:List Int} {R:List Nat} (ch:Chain C its L c R) (h:Sim T its) (hA: ∀j,A.get j=C j): ∀(r:Nat) (x:RIt),r∈R→its[r]? =some x→impl15 A T L (litV x.lit:Nat)=true:=by
 intro r
 induction r using Nat.strongRecOn with
 | ind r ih=>
  intro x hr hp
  obtain⟨z,d,a1,a2,a3,a4⟩:=ch.rs r hr
  rw[hp]at a1
  obtain rfl:=Option.some.inj a1
  rw[impl15_at h L hp,why15_of h hA hp a2 a3 (fun y hy hne=>by
   obtain⟨q,x',g1,g2,g3,_⟩:=a4 y hy hne
   exact⟨q,x',g1,g2,g3⟩)]
  simp only
  rw[List.all_eq_true]
  intro y hy
  obtain⟨hy1,hy2⟩:=List.mem_filter.1 hy
  have hne:y≠x.lit:=fun e=>of_decide_eq_true hy2 (by rw[e])
  obtain⟨q,x',g1,g2,g3,g4⟩:=a4 y hy1 hne
  unfold cov15
  rw[Bool.or_eq_true]
  rcases g4 with g4|g4
  ·right
   have:=ih q g1 x' g4 g2
   rwa [show litV x'.lit=litV y from by rw[g3,litV_negate]]at this
  ·left
   exact List.contains_iff_mem.2 g4
def keepB (A:Arn) (T:Trl) (c:List Int) (l:Int):Bool:=decide (c.head? =some l)|| !(impl15 A T c (litV l))
theorem shor_filter (c:List Int): ∀(r out:List Int),(out++r).Nodup→shor15 A T c out r=out++r.filter (keepB A T c):=by
 intro r
 induction r with
 | nil=>
  intro out _
  simp[shor15]
 | cons l r ih=>
  intro out hn
  have hn0:=List.nodup_append.1 hn
  have hnc:out.contains l=false:=by
   cases hc:out.contains l with
   | false=>rfl
   | true=>exact absurd rfl (hn0.2.2 l (List.contains_iff_mem.1 hc) l List.mem_cons_self)
  show shor15 A T c (if out.contains l=false∧(c.head? =some l∨impl15 A T c (litV l)=false)then out++ [l]else out) r=_
  by_cases hk:c.head? =some l∨impl15 A T c (litV l)=false
  ·have hkb:keepB A T c l=true:=by
    unfold keepB
    rcases hk with hk|hk
    ·rw[hk];simp
    ·rw[hk];simp
   rw[if_pos ⟨hnc,hk⟩,ih _ (by rw[List.append_assoc];exact hn),List.filter_cons_of_pos hkb,List.append_assoc]
   rfl
  ·have hkb: ¬keepB A T c l=true:=by
    unfold keepB
    intro hh
    rw[Bool.or_eq_true]at hh
    refine hk (hh.imp of_decide_eq_true fun h=>?_)
    cases hi:impl15 A T c (litV l)with
    | false=>rfl
    | true=>
     rw[hi]at h
     cases h
   rw[if_neg (fun g=>hk g.2),ih _ (hn.sublist (List.Sublist.append_left (List.sublist_cons_self _ _) _)),List.filter_cons_of_neg hkb]
theorem short_filter {c:List Int} (hn:c.Nodup):short15 A T c=c.filter (keepB A T c):=by
 unfold short15
 rw[shor_filter c c [] (by rwa [List.nil_append]),List.nil_append]
structure MtO (A:Arn) (C:Int→Option (List Int)) (T:Trl) (its:List RIt) (L c:List Int) (p:Nat) (s:List Int×List Int) (R:List Nat):Prop where
 rdn:R.Pairwise (· > ·)
 rge: ∀q∈R,p≤q
 hints:s.1.filterMap (hintV A T L)=R.map (rsAt its)
 ok: ∀v∈s.1,badV A T L v=false
 ms: ∀v∈s.2,∃(q:Nat) (x:RIt),its[q]? =some x∧v=((litV x.lit:Nat):Int)∧cov15 A T L (-x.lit)=true
 all: ∀(q:Nat) (x:RIt),p≤q→its[q]? =some x→((litV x.lit:Nat):Int)∈s.2→q∈R∨ -x.lit∈L
 src: ∀(q:Nat) (x:RIt),its[q]? =some x→((litV x.lit:Nat):Int)∈s.2→ -x.lit∈c∨∃(r':Nat) (z:RIt) (d:List Int),q<r'∧r'∈R∧its[r']? =some z∧C z.reason=some d∧ -x.lit∈d
 cov: ∀y∈c,((litV y:Nat):Int)∈s.2
 covR: ∀r∈R,∃(z:RIt) (d:List Int),its[r]? =some z∧C z.reason=some d∧z.lit∈d∧((litV z.lit:Nat):Int)∈s.2∧∀y∈d,y≠z.lit→HasAt its r (-y)∧((litV y:Nat):Int)∈s.2
 dis: ∀r∈R,-(litAt its r)∉L
theorem inC_iff (h:Sim T its) {L:List Int} (hf: ∀y∈L,Has its (-y)) {p:Nat} {x:RIt} (hp:its[p]? =some x):inC L (litV x.lit:Nat)=true↔ -x.lit∈L:=by
 unfold inC
 rw[List.any_eq_true]
 constructor
 ·rintro ⟨y,hy,e⟩
  have e:=of_decide_eq_true e
  obtain⟨q,z,hq,ez⟩:=hf y hy
  have hv:litV z.lit=litV y:=by rw[ez,litV_negate]
  have:=h.inj hq hp (by omega)
  subst this
  rw[hq]at hp
  obtain rfl:=Option.some.inj hp
  rw[ez,Int.neg_neg]
  exact hy
 ·intro hl
  exact⟨_,hl,decide_eq_true (by rw[litV_negate])⟩
theorem MtO.step {L c:List Int} {p:Nat} {s:List Int×List Int} {R:List Nat} (o:MtO A C T its L c (p+1) s R) (h:Sim T its) (hA: ∀j,A.get j=C j) (hf: ∀y∈L,Has its (-y)) {x:RIt} (hp:its[p]? =some x): ∃R',MtO A C T its L c p (mStep (rho A T L) s x.lit) R':=by
 unfold mStep
 by_cases hm:((litV x.lit:Nat):Int)∈s.2
 ·rw[if_pos (List.contains_iff_mem.2 hm)]
  have hcv:cov15 A T L (-x.lit)=true:=by
   obtain⟨q,z,hq,e,hc⟩:=o.ms _ hm
   have:=h.inj hq hp (by omega)
   subst this
   rw[hq]at hp
   obtain rfl:=Option.some.inj hp
   exact hc
  by_cases hl: -x.lit∈L
  ·have hin:=(inC_iff h hf hp).2 hl
   have hrho:rho A T L (litV x.lit:Nat)= []:=by
    unfold rho
    rw[if_pos hin]
   have hhv:hintV A T L (litV x.lit:Nat)=none:=by
    unfold hintV
    rw[if_pos hin]
   have hbv:badV A T L (litV x.lit:Nat)=false:=by
    unfold badV
    rw[hin]
    rfl
   rw[hrho,show varsI []= []from rfl,List.append_nil]
   exact⟨R,{
    rdn:=o.rdn
    rge:=fun q hq=>by
     have:=o.rge q hq
     omega
    hints:=by
     rw[List.filterMap_append,o.hints]
     simp[hhv]
    ok:=fun v hv=>by
     rcases List.mem_append.1 hv with hv|hv
     ·exact o.ok v hv
     ·rw[List.mem_singleton.1 hv]
      exact hbv
    ms:=o.ms
    all:=fun q z hq hz hv=>by
     by_cases e:q=p
     ·subst e
      rw[hp]at hz
      obtain rfl:=Option.some.inj hz
      exact .inr hl
     ·exact o.all q z (by omega) hz hv
    src:=o.src
    cov:=o.cov
    covR:=o.covR
    dis:=o.dis }⟩
  ·have hin:inC L (litV x.lit:Nat)=false:=by
    cases hc:inC L (litV x.lit:Nat)with
    | false=>rfl
    | true=>exact absurd ((inC_iff h hf hp).1 hc) hl
   have him:impl15 A T L (litV x.lit:Nat)=true:=by
    unfold cov15 at hcv
    rw[Bool.or_eq_true,litV_negate]at hcv
    exact hcv.resolve_left fun g=>hl (List.contains_iff_mem.1 g)
   rw[impl15_at h L hp]at him
   cases hw:why15 A T (litV x.lit:Nat)with
   | none=>
    rw[hw]at him
    cases him
   | some r=>
    rw[hw]at him
    simp only at him
    rw[List.all_eq_true]at him
    have hrest:=why15_rest h hp hw
    obtain⟨d,hd,hmd,hre,hdd⟩:=why15_is h hA hp hw
    have hrho:rho A T L (litV x.lit:Nat)=r.2:=by
     unfold rho
     rw[if_neg (by rw[hin];decide),hw]
    have hhv:hintV A T L (litV x.lit:Nat)=some x.reason:=by
     unfold hintV
     rw[if_neg (by rw[hin];decide),hw,hre]
     rfl
    have hbv:badV A T L (litV x.lit:Nat)=false:=by
     unfold badV
     rw[hin,hw]
     rfl
    have hnew: ∀v∈varsI r.2,∃(q:Nat) (z:RIt),its[q]? =some z∧v=((litV z.lit:Nat):Int)∧q<p∧ -z.lit∈d∧cov15 A T L (-z.lit)=true:=fun v hv=>by
     obtain⟨y,hy,rfl⟩:=List.mem_map.1 hv
     obtain⟨h1,h2⟩:=hrest y hy
     have h3:=him y hy
     have h4:y∈d:=by
      rw[hre]at hy
      exact(List.mem_filter.1 hy).1
     obtain⟨q,z,hq,rfl,e⟩:=h.fal h1
     rw[←e,h.rp hq]at h2
     exact⟨q,z,hq,by rw[e],by omega,h4,h3⟩
    rw[hrho]
    exact⟨R++ [p],{
     rdn:=List.pairwise_append.2 ⟨o.rdn,List.pairwise_singleton _ _,fun a ha b hb=>by
      have:=o.rge a ha
      rw[List.mem_singleton.1 hb]
      omega⟩
     rge:=fun q hq=>by
      rcases List.mem_append.1 hq with hq|hq
      ·have:=o.rge q hq
       omega
      ·rw[List.mem_singleton.1 hq]
       exact Nat.le_refl _
     hints:=by
      rw[List.filterMap_append,o.hints,List.map_append]
      simp[hhv,rsAt_eq hp]
     ok:=fun v hv=>by
      rcases List.mem_append.1 hv with hv|hv
      ·exact o.ok v hv
      ·rw[List.mem_singleton.1 hv]
       exact hbv
     ms:=fun v hv=>by
      rcases List.mem_append.1 hv with hv|hv
      ·exact o.ms v hv
      ·obtain⟨q,z,hq,e,_,_,hc⟩:=hnew v hv
       exact⟨q,z,hq,e,hc⟩
     all:=fun q z hq hz hv=>by
      by_cases e:q=p
      ·exact .inl (List.mem_append_right _ (List.mem_singleton.2 e))
      ·rcases List.mem_append.1 hv with hv|hv
       ·exact(o.all q z (by omega) hz hv).imp_left fun g=>List.mem_append_left _ g
       ·obtain⟨q2,z2,hq2,e2,hlt,_⟩:=hnew _ hv
        have:=h.inj hz hq2 (by omega)
        omega
     src:=fun q z hz hv=>by
      rcases List.mem_append.1 hv with hv|hv
      ·refine(o.src q z hz hv).imp_right ?_
       rintro ⟨r',z',d',b1,b2,b3⟩
       exact⟨r',z',d',b1,List.mem_append_left _ b2,b3⟩
      ·obtain⟨q2,z2,hq2,e2,hlt,hmd2,_⟩:=hnew _ hv
       have:=h.inj hz hq2 (by omega)
       subst this
       rw[hz]at hq2
       obtain rfl:=Option.some.inj hq2
       exact .inr ⟨p,x,d,hlt,List.mem_append_right _ (List.mem_singleton.2 rfl),hp,hd,hmd2⟩
     cov:=fun y hy=>List.mem_append_left _ (o.cov y hy)
     covR:=fun q hq=>by
      rcases List.mem_append.1 hq with hq|hq
      ·obtain⟨z,d',a1,a2,a3,a4,a5⟩:=o.covR q hq
       exact⟨z,d',a1,a2,a3,List.mem_append_left _ a4,fun y hy hne=>⟨(a5 y hy hne).1,List.mem_append_left _ (a5 y hy hne).2⟩⟩
      ·rw[List.mem_singleton.1 hq]
       exact⟨x,d,hp,hd,hmd,List.mem_append_left _ hm,fun y hy hne=>⟨(hdd y hy hne).2,List.mem_append_right _ (List.mem_map.2 ⟨y,(hdd y hy hne).1,rfl⟩)⟩⟩
     dis:=fun q hq=>by
      rcases List.mem_append.1 hq with hq|hq
      ·exact o.dis q hq
      ·rw[List.mem_singleton.1 hq,litAt_eq hp]
       exact hl }⟩
 ·rw[if_neg (fun g=>hm (List.contains_iff_mem.1 g))]
  exact⟨R,{ o with
   rge:=fun q hq=>by
    have:=o.rge q hq
    omega
   all:=fun q z hq hz hv=>by
    by_cases e:q=p
    ·subst e
     rw[hp]at hz
     obtain rfl:=Option.some.inj hz
     exact absurd hv hm
    ·exact o.all q z (by omega) hz hv }⟩
theorem MtO.run {L c:List Int} (h:Sim T its) (hA: ∀j,A.get j=C j) (hf: ∀y∈L,Has its (-y)): ∀(p:Nat) (s:List Int×List Int) (R:List Nat),p≤its.length→MtO A C T its L c p s R→∃R',MtO A C T its L c 0 (mRun (rho A T L) s ((its.take p).reverse.map RIt.lit)) R':=by
 intro p
 induction p with
 | zero=>
  intro s R _ o
  exact⟨R,o⟩
 | succ p ih=>
  intro s R hl o
  obtain⟨x,hp⟩:=getElem_of (show p<its.length by omega)
  have e:(its.take (p+1)).reverse.map RIt.lit=x.lit::(its.take p).reverse.map RIt.lit:=by
   rw[List.take_add_one,hp]
   simp
  rw[e]
  obtain⟨R1,o1⟩:=o.step h hA hf hp
  exact ih _ _ (by omega) o1
theorem hints_chain (h:Sim T its) (hA: ∀j,A.get j=C j) {L c:List Int} {id:Int} (hcc:C id=some c) (hb:clauseB c=true) (hc: ∀y∈c,Has its (-y)) (hf: ∀y∈L,Has its (-y)) (hcv: ∀y∈c,cov15 A T L y=true):
  ∃R,hintP A T L id=(R.map (rsAt its)++ [id],0)∧Chain C its L c R:=by
 have h0:MtO A C T its L c its.length ([],varsI c) []:={
  rdn:=List.Pairwise.nil
  rge:=fun q hq=>by cases hq
  hints:=rfl
  ok:=fun v hv=>by cases hv
  ms:=fun v hv=>by
   obtain⟨y,hy,rfl⟩:=List.mem_map.1 hv
   obtain⟨q,x,hq,e⟩:=hc y hy
   exact⟨q,x,hq,by rw[e,litV_negate],by rw[e,Int.neg_neg];exact hcv y hy⟩
  all:=fun q x hq hx=>by
   have:=(List.getElem?_eq_some_iff.1 hx).1
   omega
  src:=fun q x hx hv=>by
   obtain⟨y,hy,e⟩:=List.mem_map.1 hv
   obtain⟨q2,x2,hq2,e2⟩:=hc y hy
   have hv2:litV x2.lit=litV y:=by rw[e2,litV_negate]
   have:=h.inj hx hq2 (by omega)
   subst this
   rw[hx]at hq2
   obtain rfl:=Option.some.inj hq2
   left
   rw[e2,Int.neg_neg]
   exact hy
  cov:=fun y hy=>List.mem_map.2 ⟨y,hy,rfl⟩
  covR:=fun r hr=>by cases hr
  dis:=fun r hr=>by cases hr }
 obtain⟨R,o⟩:=MtO.run h hA hf its.length _ [] (Nat.le_refl _) h0
 rw[List.take_length,List.map_reverse,←h.order]at o
 have hfe:failE T c=0:=by
  unfold failE
  rw[if_neg (by rw[hb];decide),if_neg]
  intro hany
  rw[List.any_eq_true]at hany
  obtain⟨y,hy,e⟩:=hany
  obtain⟨q,x,hq,ex⟩:=hc y hy
  obtain⟨_,_,h1,_⟩:=at_fal h hq ex
  have:=of_decide_eq_true e
  omega
 refine⟨R.reverse,?_,?_⟩
 ·unfold hintP
  rw[(hA id).trans hcc]
  simp only
  rw[if_neg (by rw[hfe];decide),if_neg]
  ·unfold mAll
   rw[o.hints,List.map_reverse]
  ·intro hany
   rw[List.any_eq_true]at hany
   obtain⟨v,hv,e⟩:=hany
   have:=o.ok v hv
   rw[e]at this
   cases this
 ·have hK: ∀(q:Nat) (x:RIt) (y:Int),its[q]? =some x→x.lit= -y→((litV y:Nat):Int)∈(mRun (rho A T L) ([],varsI c) T.order.reverse).2→q∈R.reverse∨y∈L:=fun q x y hq e hv=>by
   rw[List.mem_reverse]
   refine(o.all q x (Nat.zero_le _) hq (by rw[(at_fal h hq e).2.1];exact hv)).imp_right fun hk=>?_
   rwa [e,Int.neg_neg]at hk
  exact {
   up:=by
    rw[List.pairwise_reverse]
    exact o.rdn
   rs:=fun r hr=>by
    rw[List.mem_reverse]at hr
    obtain⟨z,d,a1,a2,a3,_,a5⟩:=o.covR r hr
    refine⟨z,d,a1,a2,a3,fun y hy hne=>?_⟩
    obtain⟨⟨q,x,hq,hx,e⟩,hv⟩:=a5 y hy hne
    exact⟨q,x,hq,hx,e,hK q x y hx e hv⟩
   cl:=fun y hy=>by
    obtain⟨q,x,hq,e⟩:=hc y hy
    exact⟨q,x,hq,e,hK q x y hq e (o.cov y hy)⟩
   dis:=fun r hr=>o.dis r (List.mem_reverse.1 hr)
   need:=fun r hr=>by
    rw[List.mem_reverse]at hr
    obtain⟨z,d,a1,_,_,a4,_⟩:=o.covR r hr
    rw[litAt_eq a1]
    refine(o.src r z a1 a4).imp_right ?_
    rintro ⟨r',z',d',b1,b2,b3⟩
    exact⟨r',z',d',b1,List.mem_reverse.2 b2,b3⟩
   fal:=hf }
theorem short_cov (h:Sim T its) {L:List Int} (hn:L.Nodup) {y:Int} (hy:Has its (-y)) (hcv:cov15 A T L y=true):cov15 A T (short15 A T L) y=true:=by
 have hkp: ∀(p:Nat) (x:RIt),its[p]? =some x→ -x.lit∈L→ -x.lit∈short15 A T L∨impl15 A T L (litV x.lit:Nat)=true:=fun p x hp hm=>by
  cases hi:impl15 A T L (litV x.lit:Nat)with
  | true=>exact .inr rfl
  | false=>
   left
   rw[short_filter hn]
   refine List.mem_filter.2 ⟨hm,?_⟩
   unfold keepB
   rw[litV_negate,hi,Bool.or_eq_true]
   exact .inr rfl
 obtain⟨q,x,hq,e⟩:=hy
 have hye:y= -x.lit:=by rw[e,Int.neg_neg]
 subst hye
 unfold cov15 at hcv⊢
 rw[Bool.or_eq_true,litV_negate]at hcv⊢
 rcases hcv with g|g
 ·refine(hkp q x hq (List.contains_iff_mem.1 g)).imp List.contains_iff_mem.2 fun g=>?_
  exact imp_lift h hkp q x hq g
 ·exact .inr (imp_lift h hkp q x hq g)
theorem ConfO.nodup {id lv:Int} {c:List Int} {x:Lrn} {R K:List Nat} (o:ConfO C T its id c lv x R K) (h:Sim T its):x.lits.Nodup:=by
 rw[o.lits]
 refine List.pairwise_map.2 (o.kdn.imp_of_mem ?_)
 intro a b ha hb hab e
 obtain⟨za,hza⟩:=getElem_of (o.kin a ha).1
 obtain⟨zb,hzb⟩:=getElem_of (o.kin b hb).1
 rw[litAt_eq hza,litAt_eq hzb]at e
 have:=h.inj hza hzb (by rw[show za.lit=zb.lit by omega])
 omega
theorem min_law (h:Sim T its) (hr:Rsn C its) (hA: ∀j,A.get j=C j) (hd:Dcs its) {id:Int} {c:List Int} (hcc:C id=some c) (hb:clauseB c=true) (hc: ∀y∈c,Has its (-y)):
  ∃x0 lv R0 K0 x R K,confP A T id=(x0,0)∧ConfO C T its id c lv x0 R0 K0∧minP A T id=(x,0)∧ConfO C T its id c lv x R K∧x.met=x0.met∧x.lits.Sublist x0.lits∧x.lits.head? =x0.lits.head? :=by
 obtain⟨x,lv,R,K,e,o⟩:=conf_law h hr hA hd hcc hc
 have hn:=o.nodup h
 have hsf:=short_filter (A:=A) (T:=T) hn
 have hsub:(short15 A T x.lits).Sublist x.lits:=by
  rw[hsf]
  exact List.filter_sublist
 have hf: ∀y∈short15 A T x.lits,Has its (-y):=fun y hy=>o.chain.fal y (hsub.subset hy)
 have hcov: ∀y∈c,cov15 A T (short15 A T x.lits) y=true:=fun y hy=>by
  refine short_cov h hn (hc y hy) ?_
  obtain⟨q,z,hq,ez,hz⟩:=o.chain.cl y hy
  unfold cov15
  rw[Bool.or_eq_true]
  rcases hz with hz|hz
  ·right
   have:=o.chain.imp h hA q z hz hq
   rwa [show litV z.lit=litV y from by rw[ez,litV_negate]]at this
  ·left
   exact List.contains_iff_mem.2 hz
 obtain⟨R',hH,ch⟩:=hints_chain h hA hcc hb hc hf hcov
 have hlits:short15 A T x.lits=(K.filter fun q=>keepB A T x.lits (-(litAt its q))).map fun q=> -(litAt its q):=by
  rw[hsf]
  conv=>lhs;rw[o.lits,List.filter_map]
  rw[←o.lits]
  rfl
 have hhead: ∀k K',K=k::K'→K.filter (fun q=>keepB A T x.lits (-(litAt its q)))=k::K'.filter (fun q=>keepB A T x.lits (-(litAt its q))):=fun k K' hK=>by
  have hkb:keepB A T x.lits (-(litAt its k))=true:=by
   unfold keepB
   rw[Bool.or_eq_true]
   left
   apply decide_eq_true
   rw[o.lits,hK]
   rfl
  rw[hK]
  exact List.filter_cons_of_pos (p:=fun q=>keepB A T x.lits (-(litAt its q))) hkb
 refine⟨x,lv,R,K,⟨short15 A T x.lits,T.backOf (short15 A T x.lits),T.levelsOf (short15 A T x.lits),R'.map (rsAt its)++ [id],x.met⟩,R',K.filter (fun q=>keepB A T x.lits (-(litAt its q))),e,o,?_,?_,rfl,hsub,?_⟩
 ·unfold minP
  rw[e]
  simp only
  rw[if_neg (by decide),hH]
  simp only
  rw[if_neg (by decide)]
 ·exact {
   max:=o.max
   lv0:=o.lv0
   chain:=ch
   hints:=rfl
   lits:=hlits
   kdn:=o.kdn.sublist List.filter_sublist
   kin:=fun q hq=>o.kin q (List.mem_filter.1 hq).1
   one:=fun hl=>by
    obtain⟨k,K',hK,h1,h2⟩:=o.one hl
    exact⟨k,_,hhead k K' hK,h1,fun q hq=>h2 q (List.mem_filter.1 hq).1⟩
   none:=fun hl=>by
    rw[o.none hl]
    rfl
   back:=rfl
   levels:=rfl }
 ·show(short15 A T x.lits).head? =x.lits.head?
  cases hK:K with
  | nil=>
   rw[hlits,o.lits,hK]
   rfl
  | cons k K'=>
   rw[hlits,hhead k K' hK,o.lits,hK]
   rfl
end
end Go.Proofs.YtoojmhjagipmdaaGreat
namespace Go.Proofs.YtoojmhjagipmdaaGreat
open Go.RowKit
def e15L:List (List Int):= [[-1,2],[-1,3],[-4,5],[-5,-2,-3,-1]]
def e15A:List ActP:= [⟨true,0,0⟩,⟨false,1,0⟩,⟨false,2,1⟩,⟨false,3,2⟩,⟨true,0,0⟩,⟨false,4,0⟩,⟨false,5,3⟩]
def e15Ar:Arn:=addAll arn0 0 e15L
def e15T:Trl:=playAll (trl0 5) e15A
def e15R:RTr:=rPlayAll ⟨5,0,[],[0]⟩ e15A
theorem e15_sim:Sim e15T e15R.items:=((tsim0 5 (by decide)).playAll e15A).sim
theorem e15_len:e15R.items.length≤500000:=by decide
theorem e15_get4:e15Ar.get 4=some [-5,-2,-3,-1]:=by kernel_rfl
theorem e15_f4:e15T.failMax [-5,-2,-3,-1] 0=some 2:=by kernel_rfl
theorem e15_end:cfEnd e15Ar e15T 2 [-5,-2,-3,-1]=some ⟨[5,2,3,1],1,[-5,-3,-2,-1],[],[5,3,2,1]⟩:=by kernel_rfl
theorem e15_conf:(confP e15Ar e15T 4).1.lits= [-5,-3,-2,-1]∧(confP e15Ar e15T 4).2=0∧(confP e15Ar e15T 4).1.met= [1,2,3,5]:=by
 unfold confP
 rw[e15_get4]
 simp only[e15_f4,e15_end]
 exact⟨trivial,trivial,sortI_eq (xs:= [5,3,2,1]) (ys:= [1,2,3,5]) (by decide) (by decide)⟩
theorem e15_short:short15 e15Ar e15T [-5,-3,-2,-1]= [-5,-1]:=by kernel_rfl
theorem e15_hint:hintP e15Ar e15T [-5,-1] 4=([1,2,4],0):=by kernel_rfl
theorem e15_lv:e15T.levelsOf [-5,-1]=2:=by
 unfold Trl.levelsOf Trl.nLevels
 rw[if_pos (by decide),show e15T.lvls [-5,-1]= [2,1]from by kernel_rfl,sortI_eq (ys:= [1,2]) (by decide) (by decide)]
 rfl
theorem e15_min:minP e15Ar e15T 4=(⟨[-5,-1],1,2,[1,2,4],[1,2,3,5]⟩,0):=by
 unfold minP
 obtain⟨h1,h2,h3⟩:=e15_conf
 rw[h1,h2,h3,e15_short,e15_hint,e15_lv,show e15T.backOf [-5,-1]=1 from by kernel_rfl]
 rfl
theorem e15_two:(if failE e15T [-5,-1]=0 then decide (e15T.val (-2)<0)&&cov15 e15Ar e15T [-5,-1] (-2)else false)=true:=by kernel_rfl
theorem e15_four:(if failE e15T [-5,-1]=0 then decide (e15T.val (-4)<0)&&cov15 e15Ar e15T [-5,-1] (-4)else false)=false:=by kernel_rfl
theorem e15_fe:failE e15T [-5,-1]=0:=by kernel_rfl
theorem e15_three:(if failE e15T [-5,-3,-2,-1]=0 then [-5,-3,-2,-1].contains (-3)&&impl15 e15Ar e15T [-5,-3,-2,-1] (litV (-3))else false)=true:=by kernel_rfl
theorem e15_fe3:failE e15T [-5,-3,-2,-1]=0:=by kernel_rfl
theorem e15_fe5:failE e15T [5]=140:=by kernel_rfl
theorem ex_in15 {w:World} {n:Nat} {xs:List Int} {t:TypeId} {W:World} (hs:W.heap.size=n) (hb:Below (n+1) (W.alloc (.cells (xs.map (Value.int .i64)).toArray t)) w):IntsIn (fun g=>g<w.heap.size) w (.slice (some ⟨n,0,none⟩) xs.length xs.length) xs:=by
 subst hs
 have hb':Below (W.alloc (.cells (xs.map (Value.int .i64)).toArray t)).heap.size (W.alloc (.cells (xs.map (Value.int .i64)).toArray t)) w:=by simpa using hb
 refine((mx_ints W xs t).below hb').mono (fun g hg=>?_)
 have:=hb.size
 simp at this
 omega
set_option maxRecDepth 100000 in
set_option maxHeartbeats 1000000 in
theorem example15_any (w:World):
  Calls Tryz.prog 69 #[] w fun e w'=> ∃cv g W6,e= .returned (.tuple #[cv,.slice (some ⟨g,0,none⟩) 7 7])∧ClsAt W6 cv e15L∧W6.heap.size=g∧Below g W6 w'∧w'.heap[g]? =some (.cells (e15A.flatMap ActP.cells).toArray 90 (0,0))∧w.heap.size≤g∧Below w.heap.size w w':=by
 obtain⟨W6,hW6,hb6,hc6⟩: ∃W6,((((w.alloc (.cells #[.int .i64 (-1),.int .i64 2] 32)).alloc (.cells #[.int .i64 (-1),.int .i64 3] 32)).alloc (.cells #[.int .i64 (-4),.int .i64 5] 32)).alloc (.cells #[.int .i64 (-5),.int .i64 (-2),.int .i64 (-3),.int .i64 (-1)] 32)).alloc (.cells #[.slice (some ⟨w.heap.size,0,none⟩) 2 2,.slice (some ⟨w.heap.size+1,0,none⟩) 2 2,.slice (some ⟨w.heap.size+1+1,0,none⟩) 2 2,.slice (some ⟨w.heap.size+1+1+1,0,none⟩) 4 4] 34)=W6∧Below w.heap.size w W6∧ClsAt W6 (.slice (some ⟨w.heap.size+1+1+1+1,0,none⟩) 4 4) e15L:=by
  refine⟨_,rfl,(((((mx_al _ _).alloc (by simp) _).alloc (by simp;omega) _).alloc (by simp;omega) _).alloc (by simp;omega) _),?_⟩
  have key:=cls_new ((((w.alloc (.cells #[.int .i64 (-1),.int .i64 2] 32)).alloc (.cells #[.int .i64 (-1),.int .i64 3] 32)).alloc (.cells #[.int .i64 (-4),.int .i64 5] 32)).alloc (.cells #[.int .i64 (-5),.int .i64 (-2),.int .i64 (-3),.int .i64 (-1)] 32)) [.slice (some ⟨w.heap.size,0,none⟩) 2 2,.slice (some ⟨w.heap.size+1,0,none⟩) 2 2,.slice (some ⟨w.heap.size+1+1,0,none⟩) 2 2,.slice (some ⟨w.heap.size+1+1+1,0,none⟩) 4 4] e15L 34 (fun i xs hi=>by
   match i,hi with
   | 0,hi=>
    obtain rfl:=Option.some.inj hi
    exact⟨_,rfl,ex_in15 (xs:= [-1,2]) (W:=w) rfl ((((mx_al _ _).mono (by simp)).alloc (by simp) _).alloc (by simp) _)⟩
   | 1,hi=>
    obtain rfl:=Option.some.inj hi
    exact⟨_,rfl,ex_in15 (xs:= [-1,3]) (W:=(w.alloc (.cells #[.int .i64 (-1),.int .i64 2] 32))) (by simp) (((mx_al _ _).mono (by simp)).alloc (by simp) _)⟩
   | 2,hi=>
    obtain rfl:=Option.some.inj hi
    exact⟨_,rfl,ex_in15 (xs:= [-4,5]) (W:=((w.alloc (.cells #[.int .i64 (-1),.int .i64 2] 32)).alloc (.cells #[.int .i64 (-1),.int .i64 3] 32))) (by simp) ((mx_al _ _).mono (by simp))⟩
   | 3,hi=>
    obtain rfl:=Option.some.inj hi
    exact⟨_,rfl,ex_in15 (xs:= [-5,-2,-3,-1]) (W:=(((w.alloc (.cells #[.int .i64 (-1),.int .i64 2] 32)).alloc (.cells #[.int .i64 (-1),.int .i64 3] 32)).alloc (.cells #[.int .i64 (-4),.int .i64 5] 32))) (by simp) ((Below.refl _ _))⟩
   | n+4,hi=>exact absurd hi (by simp[e15L]))
  simpa [e15L] using key
 have hsz:W6.heap.size=w.heap.size+1+1+1+1+1:=by rw[←hW6];simp
 have HSZ:=Lib.hid hsz
 have HW6:=Lib.hid hW6
 have HB6:=Lib.hid hb6
 have HC6:=Lib.hid hc6
 clear hW6 hb6 hc6 hsz
 go_enter Tryz.func69,Tryz.ntmps69
 go_wp2_with fail
 rw[HW6.out]
 go_ret2
 have hnew:=World.alloc_heap_new W6 (.cells (e15A.flatMap ActP.cells).toArray 90)
 have hb:=mx_al W6 (.cells (e15A.flatMap ActP.cells).toArray 90)
 rw[HSZ.out]at hnew hb
 exact⟨_,_,W6,rfl,HC6.out,HSZ.out,hb,hnew,by omega,HB6.out.trans (hb.mono (by omega))⟩
theorem put_covered {n:Nat} {w:World} {a b:Nat} {A:Arn} {T:Trl} {its:List RIt} {OC:Nat→Prop} (Ac:Option Addr) (cc:Nat) (c:List Int) (l:Int) (h:PutAt n w a b A T) (hs:Sim T its) (hil:its.length≤500000) (hc:IntsIn OC w (.slice Ac c.length cc) c) (hcl:c.length≤4194304):
  Calls Tryz.prog 29 #[.pointer (some ⟨a,0,none⟩),.pointer (some ⟨b,0,none⟩),.slice Ac c.length cc,.int .i64 l] w fun e w'=>e= .returned (.tuple #[.bool (if failE T c=0 then decide (T.val l<0)&&cov15 A T c l else false),.int .i64 (failE T c)])∧Below w.heap.size w w':=by
 obtain⟨_,OA,OT,h1,h2,_⟩:=h
 exact mn_covered a b A T its Ac cc c l w hs hil h1 h2 hc hcl
theorem put_redundant {n:Nat} {w:World} {a b:Nat} {A:Arn} {T:Trl} {its:List RIt} {OC:Nat→Prop} (Ac:Option Addr) (cc:Nat) (c:List Int) (l:Int) (h:PutAt n w a b A T) (hs:Sim T its) (hil:its.length≤500000) (hc:IntsIn OC w (.slice Ac c.length cc) c) (hcl:c.length≤4194304):
  Calls Tryz.prog 27 #[.pointer (some ⟨a,0,none⟩),.pointer (some ⟨b,0,none⟩),.slice Ac c.length cc,.int .i64 l] w fun e w'=>e= .returned (.tuple #[.bool (if failE T c=0 then c.contains l&&impl15 A T c (litV l)else false),.int .i64 (failE T c)])∧Below w.heap.size w w':=by
 obtain⟨_,OA,OT,h1,h2,_⟩:=h
 exact mn_redundant a b A T its Ac cc c l w hs hil h1 h2 hc hcl
theorem put_shorten {n:Nat} {w:World} {a b:Nat} {A:Arn} {T:Trl} {its:List RIt} {OC:Nat→Prop} (Ac:Option Addr) (cc:Nat) (c:List Int) (h:PutAt n w a b A T) (hs:Sim T its) (hil:its.length≤500000) (hc:IntsIn OC w (.slice Ac c.length cc) c) (hcl:c.length≤4194304):
  Calls Tryz.prog 24 #[.pointer (some ⟨a,0,none⟩),.pointer (some ⟨b,0,none⟩),.slice Ac c.length cc] w fun e w'=>(∃u',e= .returned (.tuple #[u',.int .i64 (failE T c)])∧w'.ownsRow w.heap.size 32 1 u' (if failE T c=0 then short15 A T c else []).length ((if failE T c=0 then short15 A T c else []).map (Value.int .i64)))∧Below w.heap.size w w':=by
 obtain⟨_,OA,OT,h1,h2,_⟩:=h
 exact mn_shorten_any a b A T its Ac cc c w hs hil h1 h2 hc hcl
theorem put_minconf {n:Nat} {w:World} {a b:Nat} {A:Arn} {T:Trl} {its:List RIt} (id:Int) (h:PutAt n w a b A T) (hs:Sim T its) (hil:its.length≤500000):
  Calls Tryz.prog 45 #[.pointer (some ⟨a,0,none⟩),.pointer (some ⟨b,0,none⟩),.int .i64 id] w fun e w'=>(∃v,e= .returned (.tuple #[v,.int .i64 ((minP A T id).2:Nat)])∧LrnAt w.heap.size w' v (minP A T id).1)∧Below w.heap.size w w':=by
 obtain⟨_,OA,OT,h1,h2,_⟩:=h
 exact mn_conflict a b A T its id w hs hil h1 h2
theorem e15L_len: ∀c∈e15L,c.length≤1000:=by decide
set_option maxRecDepth 100000 in
set_option maxHeartbeats 4000000 in
theorem awake15_any (w:World):Calls Tryz.prog 22 #[] w fun e w'=>e= .returned (.bool true)∧Below w.heap.size w w':=by
 have HEX:=Lib.hid (example15_any w)
 go_enter Tryz.func22,Tryz.ntmps22
 go_wp2_with fail
 refine HEX.out.mono ?_
 rintro e w1 ⟨cv,g,W6,rfl,hc,hz6,hb6,hg,hwg,hb1⟩
 have HC:=Lib.hid hc
 have HB1:=Lib.hid hb1
 obtain⟨Ac,cc,rfl,_⟩:=hc
 rw[show e15L.length=4 from rfl]at HC
 have ha1:ActsIn w1 (.slice (some ⟨g,0,none⟩) 7 7) e15A:=acts_of_block (l:=e15A) hg rfl (by rw[List.toList_toArray];exact List.take_of_length_le (by decide))
 have hp:=put_any 5 _ _ e15L e15A w1 (by decide) ((HC.out).below (by rw[hz6];exact hb6)) ha1 (by decide) e15L_len (by decide)
 have HP:=Lib.hid hp
 clear hg hb6 hb1 hz6 ha1 hp HEX
 rw[show e15L.length=4 from rfl]
 go_wp2_with fail
 refine HP.out.mono ?_
 rintro e w2 ⟨a,b,rfl,hpa,hb2⟩
 rw[show addAll arn0 0 e15L=e15Ar from rfl,show playAll (trl0 5) e15A=e15T from rfl]at hpa
 have HPA:=Lib.hid hpa
 have HB2:=Lib.hid (HB1.out.trans (hb2.mono HB1.out.size))
 have hcf:=put_minconf 4 hpa e15_sim e15_len
 rw[e15_min]at hcf
 have HCF:=Lib.hid hcf
 clear hcf HP hpa hb2
 go_wp2_with fail
 refine HCF.out.mono ?_
 rintro e w3 ⟨⟨v,rfl,hv⟩,hb3⟩
 obtain⟨Ax,cx,Ay,cy,Az,cz,rfl,hx,hy,hz⟩:=hv.parts
 have HX:=Lib.hid hx
 have HY:=Lib.hid hy
 have HZ:=Lib.hid hz
 have HPA3:=Lib.hid (HPA.out.below hb3)
 have HB3:=Lib.hid (HB2.out.trans (hb3.mono HB2.out.size))
 obtain⟨Wa,hWa⟩: ∃x,w3.alloc (.cells #[.slice Ax 2 cx,.int .i64 1,.int .i64 2,.slice Ay 3 cy,.slice Az 4 cz] 65)=x:=⟨_,rfl⟩
 have hbA:Below w3.heap.size w3 Wa:=by rw[←hWa];exact mx_al _ _
 have hbx:Wa.heap[w3.heap.size]? =some (.cells #[.slice Ax 2 cx,.int .i64 1,.int .i64 2,.slice Ay 3 cy,.slice Az 4 cz] 65 (0,0)):=by rw[←hWa];exact World.alloc_heap_new _ _
 have hzA:Wa.heap.size=w3.heap.size+1:=by rw[←hWa];simp
 obtain⟨Wb,hWb⟩: ∃x,Wa.alloc (.cells #[.int .i64 (-5),.int .i64 (-1)] 32)=x:=⟨_,rfl⟩
 have hbB:Below Wa.heap.size Wa Wb:=by rw[←hWb];exact mx_al _ _
 have hlf:IntsIn (fun g=>g=Wa.heap.size) Wb (.slice (some ⟨Wa.heap.size,0,none⟩) 2 2) [-5,-1]:=by rw[←hWb];exact mx_ints Wa [-5,-1] _
 have HWA:=Lib.hid hWa
 have HWB:=Lib.hid hWb
 have HBX:=Lib.hid ((hbB.block _ (heap_lt hbx)).trans hbx)
 have HBAB:=Lib.hid (hbA.trans (hbB.mono hbA.size))
 have HPB:=Lib.hid (HPA3.out.below HBAB.out)
 have HLF:=Lib.hid hlf
 rw[hzA]at HLF
 have h2:=put_covered (some ⟨w3.heap.size+1,0,none⟩) 2 [-5,-1] (-2) HPB.out e15_sim e15_len HLF.out (by decide)
 rw[e15_two,e15_fe]at h2
 have HC2:=Lib.hid h2
 clear hv hx hy hz HCF hb3 hWa hbA hbx hWb hbB hlf h2 hzA
 go_wp2_with fail
 rw[HWA.out,HWB.out]
 refine HC2.out.mono ?_
 rintro e w4 ⟨rfl,hb4⟩
 have HB4:=Lib.hid (HBAB.out.trans (hb4.mono HBAB.out.size))
 have HPA4:=Lib.hid (HPB.out.below hb4)
 have HL4:=Lib.hid (HLF.out.below hb4)
 have HX4:=Lib.hid ((hb4.block _ (heap_lt HBX.out)).trans HBX.out)
 have h4:=put_covered (some ⟨w3.heap.size+1,0,none⟩) 2 [-5,-1] (-4) HPA4.out e15_sim e15_len HL4.out (by decide)
 rw[e15_four,e15_fe]at h4
 have HC4:=Lib.hid h4
 clear hb4 h4 HC2
 go_wp2_with fail
 refine HC4.out.mono ?_
 rintro e w5 ⟨rfl,hb5⟩
 have HB5:=Lib.hid (HB4.out.trans (hb5.mono HB4.out.size))
 have HPA5:=Lib.hid (HPA4.out.below hb5)
 have HL5:=Lib.hid (HL4.out.below hb5)
 have HX5:=Lib.hid ((hb5.block _ (heap_lt HX4.out)).trans HX4.out)
 obtain⟨Wc,hWc⟩: ∃x,w5.alloc (.cells #[.int .i64 (-5),.int .i64 (-3),.int .i64 (-2),.int .i64 (-1)] 32)=x:=⟨_,rfl⟩
 have hbC:Below w5.heap.size w5 Wc:=by rw[←hWc];exact mx_al _ _
 have hlc:IntsIn (fun g=>g=w5.heap.size) Wc (.slice (some ⟨w5.heap.size,0,none⟩) 4 4) [-5,-3,-2,-1]:=by rw[←hWc];exact mx_ints w5 [-5,-3,-2,-1] _
 have h6:=put_redundant (some ⟨w5.heap.size,0,none⟩) 4 [-5,-3,-2,-1] (-3) (HPA5.out.below hbC) e15_sim e15_len hlc (by decide)
 rw[e15_three,e15_fe3]at h6
 have HC6:=Lib.hid h6
 have HWC:=Lib.hid hWc
 have HBC:=Lib.hid hbC
 clear hb5 hWc hbC hlc h6 HC4
 go_wp2_with fail
 rw[HWC.out]
 refine HC6.out.mono ?_
 rintro e w6 ⟨rfl,hb6⟩
 have hbb:=HBC.out.trans (hb6.mono HBC.out.size)
 have HB6:=Lib.hid (HB5.out.trans (hbb.mono HB5.out.size))
 have HPA6:=Lib.hid (HPA5.out.below hbb)
 have HL6:=Lib.hid (HL5.out.below hbb)
 have HX6:=Lib.hid ((hbb.block _ (heap_lt HX5.out)).trans HX5.out)
 obtain⟨Wd,hWd⟩: ∃x,w6.alloc (.cells #[.int .i64 5] 32)=x:=⟨_,rfl⟩
 have hbD:Below w6.heap.size w6 Wd:=by rw[←hWd];exact mx_al _ _
 have hld:IntsIn (fun g=>g=w6.heap.size) Wd (.slice (some ⟨w6.heap.size,0,none⟩) 1 1) [5]:=by rw[←hWd];exact mx_ints w6 [5] _
 have h7:=put_shorten (some ⟨w6.heap.size,0,none⟩) 1 [5] (HPA6.out.below hbD) e15_sim e15_len hld (by decide)
 rw[e15_fe5]at h7
 have HC7:=Lib.hid h7
 have HWD:=Lib.hid hWd
 have HBD:=Lib.hid hbD
 clear hb6 hbb hWd hbD hld h7 HC6 HWC HBC
 go_wp2_with fail
 rw[HWD.out]
 refine HC7.out.mono ?_
 rintro e w7 ⟨⟨u7,rfl,_⟩,hb7⟩
 have hbb:=HBD.out.trans (hb7.mono HBD.out.size)
 have HB7:=Lib.hid (HB6.out.trans (hbb.mono HB6.out.size))
 have HL7:=Lib.hid (HL6.out.below hbb)
 have HX7:=Lib.hid ((hbb.block _ (heap_lt HX6.out)).trans HX6.out)
 clear hb7 hbb HC7 HWD HBD
 have hq:=eq_c (.slice Ax 2 cx) (.slice (some ⟨w3.heap.size+1,0,none⟩) 2 2) [-5,-1] [-5,-1] w7 (HX.out w7 HB7.out) HL7.out (by decide)
 rw[show(([-5,-1] :List Int)== [-5,-1])=true from rfl]at hq
 have HQ:=Lib.hid hq
 clear hq
 obtain⟨⟨o0,o1,o2,o3,o4⟩,_⟩:=cells5 HX7.out
 go_wp2_with fail
 refine HQ.out.mono ?_
 rintro e w8 ⟨rfl,n8,hw8⟩
 have hb8:Below w7.heap.size w7 w8:=by rw[hw8];exact mx_drewN _ _
 have HB8:=Lib.hid (HB7.out.trans (hb8.mono HB7.out.size))
 have HX8:=Lib.hid ((hb8.block _ (heap_lt HX7.out)).trans HX7.out)
 clear HQ hw8 hb8 o0 o1 o2 o3 o4
 obtain⟨⟨o0,o1,o2,o3,o4⟩,_⟩:=cells5 HX8.out
 go_wp2_with fail
 have hq:=eqi_lit w8 (.slice Ay 3 cy) [1,2,4] [1,2,4] (fun w' hb=>HY.out w' (HB8.out.trans (hb.mono HB8.out.size))) (by decide)
 skip
 rw[show(([1,2,4] :List Int)== [1,2,4])=true from rfl]at hq
 have HQ:=Lib.hid hq
 clear hq
 refine HQ.out.mono ?_
 rintro e w9 ⟨rfl,hbq⟩
 clear HQ
 have HB9:=Lib.hid (HB8.out.trans (hbq.mono HB8.out.size))
 clear o0 o1 o2 o3 o4
 obtain⟨⟨o0,o1,o2,o3,o4⟩,_⟩:=cells5 ((hbq.block _ (heap_lt HX8.out)).trans HX8.out)
 clear hbq
 go_wp2_with fail
 have hq:=eqi_lit w9 (.slice Az 4 cz) [1,2,3,5] [1,2,3,5] (fun w' hb=>HZ.out w' (HB9.out.trans (hb.mono HB9.out.size))) (by decide)
 skip
 rw[show(([1,2,3,5] :List Int)== [1,2,3,5])=true from rfl]at hq
 have HQ:=Lib.hid hq
 clear hq
 refine HQ.out.mono ?_
 rintro e w10 ⟨rfl,hbq⟩
 clear HQ
 have HB10:=Lib.hid (HB3.out.trans ((HB9.out.trans (hbq.mono HB9.out.size)).mono HB3.out.size))
 clear o0 o1 o2 o3 o4 hbq
 go_wp2_with fail
 go_ret
 exact⟨rfl,HB10.out⟩
end Go.Proofs.YtoojmhjagipmdaaGreat
