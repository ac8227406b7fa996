/- Plain: what a clause is, by the list of what was assigned; what Add tells. Plain: what a chain of hints gives: all of them serve, and all are needed. Plain: the insertion sort keeps the order of equals: it is the insertion from the right, one after the other. Plain: what comes first among literals, by one look through the list. Plain: the reference's best, and what the watch sorts first. The trail: Lits, the literals from a place on, where a round may write the variables. The trail: Back. A range over a function that writes rows of its own between rounds, while its rounds write rows of theirs. -/
import Derived.Test.YtoojmhjagipmdaaGreatV312
import Derived.Test.YtoojmhjagipmdaaGreatV318
import Derived.Test.YtoojmhjagipmdaaGreatV316
import Derived.Test.YtoojmhjagipmdaaGreatV313
import Derived.Test.YtoojmhjagipmdaaGreatV306
import Derived.Test.YtoojmhjagipmdaaGreatV304
import Derived.Laws.EntriesVeiled
import Derived.Test.YtoojmhjagipmdaaGreatV309
namespace Go.Proofs.YtoojmhjagipmdaaGreat
open Go.RowKit
theorem k_inj {its:List RIt} (hn:(its.map fun x=>litV x.lit).Nodup) {p q:Nat} {x y:RIt} (hp:its[p]? =some x) (hq:its[q]? =some y) (e:litV x.lit=litV y.lit):p=q:=by
 rw[List.Nodup,List.pairwise_iff_getElem]at hn
 obtain⟨h1,h2⟩:=List.getElem?_eq_some_iff.1 hp
 obtain⟨h3,h4⟩:=List.getElem?_eq_some_iff.1 hq
 rcases Nat.lt_trichotomy p q with h|h|h
 ·refine absurd ?_ (hn p q (by simpa using h1) (by simpa using h3) h)
  rw[List.getElem_map,List.getElem_map,h2,h4,e]
 ·exact h
 ·refine absurd ?_ (hn q p (by simpa using h3) (by simpa using h1) h)
  rw[List.getElem_map,List.getElem_map,h2,h4,e]
theorem k_its {its:List RIt} (hl: ∀x∈its,litB x.lit=true) (hn:(its.map fun x=>litV x.lit).Nodup): ∃f,asgF (its.map RIt.lit)=some f∧∀y,litB y=true→((0<ofF f y↔Has its y)∧(ofF f y<0↔Has its (-y))):=by
 obtain⟨f,e,h1,h2⟩:=k_asg (its.map RIt.lit) (fun _=>0) (fun x hx=>by
  obtain⟨z,hz,rfl⟩:=List.mem_map.1 hx
  exact hl z hz) (by rw[List.map_map];exact hn) (fun _ _=>rfl)
 refine⟨f,e,fun y hy=>?_⟩
 have hb:=(litB_iff y).1 hy
 by_cases hex: ∃(p:Nat) (x:RIt),its[p]? =some x∧litV x.lit=litV y
 ·obtain⟨p,x,hp,hv⟩:=hex
  have hx:=List.mem_of_getElem? hp
  obtain⟨a1,a2⟩:=h2 x.lit (List.mem_map_of_mem hx)
  have one: ∀z,litV z=litV y→Has its z→x.lit=z:=fun z hz ⟨q,w,hq,hw⟩=>by
   have:=k_inj hn hp hq (by rw[hv,hw,hz])
   subst this
   rw[hp]at hq
   obtain rfl:=Option.some.inj hq
   exact hw
  rcases litV_two (hl x hx) hv with e2|e2
  ·rw[←e2]at a1
   constructor
   ·exact⟨fun _=>⟨p,x,hp,e2.symm⟩,fun _=>by omega⟩
   ·refine⟨fun h=>by omega,fun h=>?_⟩
    have:=one (-y) (litV_negate y) h
    omega
  ·rw[←e2]at a2
   constructor
   ·refine⟨fun h=>by omega,fun h=>?_⟩
    have:=one y rfl h
    omega
   ·exact⟨fun _=>⟨p,x,hp,by omega⟩,fun _=>by omega⟩
 ·have h0:ofF f y=0:=by
   rw[h1 y (fun x hx=>by
    obtain⟨z,hz,rfl⟩:=List.mem_map.1 hx
    obtain⟨p,hp,e3⟩:=List.getElem_of_mem hz
    exact fun e4=>hex ⟨p,z,by rw[List.getElem?_eq_getElem hp,e3],e4⟩)]
   unfold ofF
   split <;> rfl
  constructor
  ·exact⟨fun h=>by omega,fun⟨p,x,hp,hx⟩=>absurd ⟨p,x,hp,by rw[hx]⟩ hex⟩
  ·exact⟨fun h=>by omega,fun⟨p,x,hp,hx⟩=>absurd ⟨p,x,hp,by rw[hx,litV_negate]⟩ hex⟩
inductive AddK (T:Trl) (c:List Int) (f:Int→Int):Prop
 | fails (hk:addKind T (addTwo T c)=3) (hl:lookF f c=(2,0)) (hall: ∀y∈c,T.fal y=true)
 | unit (a:Int) (hk:addKind T (addTwo T c)=2) (hl:lookF f c=(3,a)) (ha:a∈c) (hf:T.fal a=false) (ht:T.tru a=false) (hh:(addTwo T c).headD 0=a) (ho: ∀y∈c,y≠a→T.fal y=true)
 | holds (hk:addKind T (addTwo T c)=1) (hl:lookF f c=(1,0)) (ht: ∃y∈c,T.tru y=true)
 | opens (hk:addKind T (addTwo T c)=1) (hl:lookF f c=(4,0)) (ht: ∀y∈c,T.tru y=false)
theorem add_kind {T:Trl} {its:List RIt} {c:List Int} {f:Int→Int} (hs:Sim T its) (hc: ∀y∈c,litB y=true) (hf: ∀y,litB y=true→((0<ofF f y↔Has its y)∧(ofF f y<0↔Has its (-y)))):AddK T c f:=by
 have tr: ∀y∈c,(0<ofF f y↔T.tru y=true):=fun y hy=>(hf y (hc y hy)).1.trans (hs.tru_iff (hc y hy)).symm
 have fa: ∀y∈c,(ofF f y<0↔T.fal y=true):=fun y hy=>(hf y (hc y hy)).2.trans (hs.fal_iff (hc y hy)).symm
 have fz: ∀y∈c,T.fal y=false→T.tru y=false→ofF f y=0:=fun y hy h1 h2=>by
  have a1: ¬0<ofF f y:=fun h=>by rw[(tr y hy).1 h]at h2;cases h2
  have a2: ¬ofF f y<0:=fun h=>by rw[(fa y hy).1 h]at h1;cases h1
  omega
 have nz: ∀y∈c,y≠0:=fun y hy=>by
  have:=(litB_iff y).1 (hc y hy)
  omega
 have hin: ∀y,y∈(eachL c).filter (fun x=> !T.fal x)↔y∈c∧T.fal y=false:=fun y=>by
  rw[List.mem_filter,eachL_mem,Bool.not_eq_true']
 have hst: ∀y,y∈T.stab ((eachL c).filter T.fal)→T.fal y=true:=fun y hy=>(List.mem_filter.1 (stab_mem.1 hy)).2
 have htwo:addTwo T c=((eachL c).filter (fun x=> !T.fal x)++T.stab ((eachL c).filter T.fal)).take 2:=rfl
 have hnd:((eachL c).filter (fun x=> !T.fal x)).Nodup:=(eachL_nodup c).filter _
 cases hnf:(eachL c).filter (fun x=> !T.fal x)with
 | nil=>
  rw[hnf]at hin htwo
  have hall: ∀y∈c,T.fal y=true:=fun y hy=>by
   cases h:T.fal y with
   | true=>rfl
   | false=>cases (hin y).2 ⟨hy,h⟩
  refine .fails ?_ (k_fail fun y hy=>(fa y hy).2 (hall y hy)) hall
  rw[htwo,List.nil_append]
  cases hs2:T.stab ((eachL c).filter T.fal)with
  | nil=>rfl
  | cons s r=>
   rw[hs2]at hst
   have:=hst s List.mem_cons_self
   cases r with
   | nil=>show(if T.fal s=true then 3 else _)=3;rw[if_pos this]
   | cons s2 r=>show(if T.fal s=true then 3 else _)=3;rw[if_pos this]
 | cons a r=>
  rw[hnf]at hin htwo hnd
  have ha:=(hin a).1 List.mem_cons_self
  cases r with
  | nil=>
   have ho: ∀y∈c,y≠a→T.fal y=true:=fun y hy hne=>by
    cases h:T.fal y with
    | true=>rfl
    | false=>exact absurd (List.mem_singleton.1 ((hin y).2 ⟨hy,h⟩)) hne
   have hkind:addKind T (addTwo T c)=if T.tru a=true then 1 else 2:=by
    rw[htwo]
    cases hs2:T.stab ((eachL c).filter T.fal)with
    | nil=>
     show(if T.fal a=true then 3 else if T.tru a=true then 1 else 2)=_
     rw[ha.2]
     rfl
    | cons s r=>
     rw[hs2]at hst
     have hfs:=hst s List.mem_cons_self
     show(if T.fal a=true then 3 else if T.tru a=true∨T.fal s=false then 1 else 2)=_
     rw[ha.2,hfs]
     simp
   have hhd:(addTwo T c).headD 0=a:=by rw[htwo];rfl
   cases ht:T.tru a with
   | true=>
    rw[ht]at hkind
    exact .holds hkind (k_hold ⟨a,ha.1,(tr a ha.1).2 ht⟩ _ _) ⟨a,ha.1,ht⟩
   | false=>
    rw[ht]at hkind
    exact .unit a hkind (k_unit ha.1 (fz a ha.1 ha.2 ht) (fun y hy hne=>(fa y hy).2 (ho y hy hne)) nz) ha.1 ha.2 ht hhd ho
  | cons b r=>
   have hb:=(hin b).1 (List.mem_cons_of_mem _ List.mem_cons_self)
   have hab:a≠b:=fun e=>(List.nodup_cons.1 hnd).1 (e▸List.mem_cons_self)
   have hkind:addKind T (addTwo T c)=1:=by
    rw[htwo]
    show(if T.fal a=true then 3 else if T.tru a=true∨T.fal b=false then 1 else 2)=_
    rw[ha.2,hb.2]
    simp
   by_cases hex: ∃y∈c,T.tru y=true
   ·obtain⟨y,hy,ht⟩:=hex
    exact .holds hkind (k_hold ⟨y,hy,(tr y hy).2 ht⟩ _ _) ⟨y,hy,ht⟩
   ·have hno: ∀y∈c,T.tru y=false:=fun y hy=>by
     cases h:T.tru y with
     | true=>exact absurd ⟨y,hy,h⟩ hex
     | false=>rfl
    refine .opens hkind (k_open hab ha.1 hb.1 (fz a ha.1 ha.2 (hno a ha.1)) (fz b hb.1 hb.2 (hno b hb.1)) (fun y hy h=>?_) nz) hno
    have:=hno y hy
    rw[(tr y hy).1 h]at this
    cases this
end Go.Proofs.YtoojmhjagipmdaaGreat
namespace Go.Proofs.YtoojmhjagipmdaaGreat
open Go.RowKit
theorem has_two {T:Trl} {its:List RIt} (h:Sim T its) {y:Int} (hy:litB y=true) (h1:Has its y) (h2:Has its (-y)):False:=by
 obtain⟨p,x,hp,e⟩:=h1
 obtain⟨q,z,hq,e2⟩:=h2
 have:=h.inj hp hq (by rw[e,e2,litV_negate])
 subst this
 rw[hp]at hq
 obtain rfl:=Option.some.inj hq
 have:=(litB_iff y).1 hy
 omega
def rcAt (C:Int→Option (List Int)) (its:List RIt) (r:Nat):List Int:=(C (rsAt its r)).getD []
def FitB (C:Int→Option (List Int)):Prop:= ∀id c,C id=some c→clauseB c=true
theorem FitB.lit {C:Int→Option (List Int)} (h:FitB C) {id:Int} {c:List Int} (hc:C id=some c) {y:Int} (hy:y∈c):litB y=true:=by
 have:=h id c hc
 unfold clauseB at this
 rw[Bool.and_eq_true]at this
 exact List.all_eq_true.1 this.2 y hy
section
variable {C:Int→Option (List Int)} {T:Trl} {its:List RIt} {L c:List Int} {R:List Nat}
theorem Chain.at (h:Chain C its L c R) {r:Nat} (hr:r∈R): ∃(z:RIt) (d:List Int),its[r]? =some z∧litAt its r=z.lit∧rcAt C its r=d∧C (rsAt its r)=some d∧z.lit∈d∧∀y∈d,y≠z.lit→∃q,q<r∧litAt its q= -y∧(q∈R∨y∈L):=by
 obtain⟨z,d,h1,h2,h3,h4⟩:=h.rs r hr
 refine⟨z,d,h1,litAt_eq h1,by unfold rcAt;rw[rsAt_eq h1,h2];rfl,by rw[rsAt_eq h1,h2],h3,fun y hy hne=>?_⟩
 obtain⟨q,x,a1,a2,a3,a4⟩:=h4 y hy hne
 exact⟨q,a1,by rw[litAt_eq a2,a3],a4⟩
theorem Chain.no (h:Chain C its L c R) (hs:Sim T its): ∀y∈L,-y∉L:=fun y hy hn=>by
 obtain⟨p,x,hp,e⟩:=h.fal y hy
 have hb:=(at_fal hs hp e).1
 refine has_two hs hb ?_ (h.fal y hy)
 have:=h.fal _ hn
 rwa [Int.neg_neg]at this
theorem chain_fol (h:Chain C its L c R) (hs:Sim T its) (hb:FitB C) (hcb:clauseB c=true) (R2:List Nat): ∀(R1:List Nat) (f:Int→Int) (us:List Int) (i:Nat),R=R1++R2→Says f (fun y=> -y∈L∨∃q∈R1,litAt its q=y)→folGo f (R2.map (rcAt C its)++ [c]) us i=(us++R2.map (litAt its),i+R2.length+1,true,0):=by
 induction R2 with
 | nil=>
  intro R1 f us i hR hf
  rw[List.append_nil]at hR
  subst hR
  show folGo f [c] us i=_
  unfold folGo
  rw[k_fail (c:=c) fun y hy=>?_]
  ·rw[if_pos rfl]
   simp
  ·have hyb:litB y=true:=by
    unfold clauseB at hcb
    rw[Bool.and_eq_true]at hcb
    exact List.all_eq_true.1 hcb.2 y hy
   refine((hf y hyb).2).2 ?_
   obtain⟨q,x,hq,e,ho⟩:=h.cl y hy
   rcases ho with ho|ho
   ·exact .inr ⟨q,ho,by rw[litAt_eq hq,e]⟩
   ·exact .inl (by rw[Int.neg_neg];exact ho)
 | cons r R2 ih=>
  intro R1 f us i hR hf
  have hrR:r∈R:=by rw[hR];simp
  obtain⟨z,d,hz,hl,hd,hcd,hzd,ho⟩:=h.at hrR
  have hup:=h.up
  rw[hR,List.pairwise_append,List.pairwise_cons]at hup
  have hzb:=(hs.at_ r z hz).1
  have hR1: ∀q∈R1,q<r:=fun q hq=>hup.2.2 q hq r List.mem_cons_self
  have hnot: ¬(-z.lit∈L∨∃q∈R1,litAt its q=z.lit):=by
   rintro (h1|⟨q,hq,e⟩)
   ·exact h.dis r hrR (hl▸h1)
   ·obtain⟨z',_,hz',hl',_⟩:=h.at (show q∈R by rw[hR];exact List.mem_append_left _ hq)
    have:=hs.inj hz' hz (by rw[←hl',e])
    have:=hR1 q hq
    omega
  have hnot2: ¬(- -z.lit∈L∨∃q∈R1,litAt its q= -z.lit):=by
   rw[Int.neg_neg]
   rintro (h1|⟨q,hq,e⟩)
   ·exact has_two hs hzb ⟨r,z,hz,rfl⟩ (h.fal _ h1)
   ·obtain⟨z',_,hz',hl',_⟩:=h.at (show q∈R by rw[hR];exact List.mem_append_left _ hq)
    have:=hs.inj hz' hz (by rw[←hl',e,litV_negate])
    have:=hR1 q hq
    omega
  have hu:lookF f d=(3,z.lit):=by
   refine k_unit hzd ?_ (fun y hy hne=>?_) (fun y hy=>?_)
   ·have h1:=(hf z.lit hzb).1
    have h2:=(hf z.lit hzb).2
    have: ¬0<ofF f z.lit:=fun h=>hnot (h1.1 h)
    have: ¬ofF f z.lit<0:=fun h=>hnot2 (h2.1 h)
    omega
   ·refine((hf y (hb.lit hcd hy)).2).2 ?_
    obtain⟨q,hq,e,hqq⟩:=ho y hy hne
    rcases hqq with hqq|hqq
    ·refine .inr ⟨q,?_,e⟩
     rw[hR,List.mem_append]at hqq
     refine hqq.resolve_right fun hm=>?_
     rcases List.mem_cons.1 hm with h2|h2
     ·omega
     ·have:=hup.2.1.1 q h2
      omega
    ·exact .inl (by rw[Int.neg_neg];exact hqq)
   ·have:=(litB_iff y).1 (hb.lit hcd hy)
    omega
  rw[List.map_cons,List.cons_append,hd]
  unfold folGo
  rw[hu,if_neg (show¬(3:Nat)=2 by decide),if_pos rfl]
  show folGo (putF f z.lit) (R2.map (rcAt C its)++ [c]) (us++ [z.lit]) (i+1)=_
  rw[ih (R1++ [r]) (putF f z.lit) (us++ [z.lit]) (i+1) (by rw[hR];simp) (fun y hy=>by
   have:=says_put hf hzb hnot hnot2 y hy
   have key: ∀v,((-v∈L∨∃q∈R1,litAt its q=v)∨v=z.lit)↔(-v∈L∨∃q∈R1++ [r],litAt its q=v):=fun v=>by
    constructor
    ·rintro ((h1|⟨q,hq,e⟩)|e)
     ·exact .inl h1
     ·exact .inr ⟨q,List.mem_append_left _ hq,e⟩
     ·exact .inr ⟨r,by simp,hl.trans e.symm⟩
    ·rintro (h1|⟨q,hq,e⟩)
     ·exact .inl (.inl h1)
     ·rcases List.mem_append.1 hq with hq|hq
      ·exact .inl (.inr ⟨q,hq,e⟩)
      ·rw[List.mem_singleton.1 hq,hl]at e
       exact .inr e.symm
   exact⟨this.1.trans (key y),this.2.trans (key (-y))⟩)]
  rw[List.map_cons,hl,List.length_cons]
  simp only[List.append_assoc,List.singleton_append,Prod.mk.injEq,true_and,and_true]
  omega
theorem chain_need (h:Chain C its L c R) (hs:Sim T its):(needL (R.map (rcAt C its)++ [c]) (R.map (litAt its))).length=R.length+1:=by
 unfold needL
 rw[List.length_reverse,needGo_all]
 ·simp
 ·intro j hj hju
  rw[List.length_map]at hju
  obtain⟨r,hr⟩:=getElem_of hju
  have hrR:=List.mem_of_getElem? hr
  obtain⟨z,d,hz,hl,_⟩:=h.at hrR
  have hzb:=(hs.at_ r z hz).1
  have eu:(R.map (litAt its)).getD j 0=z.lit:=by
   rw[List.getD_eq_getElem?_getD,List.getElem?_map,hr]
   exact hl
  have en:z.lit=litN (-z.lit):=by rw[litN_eq (by rw[litB_minus];exact hzb),Int.neg_neg]
  rw[eu]
  right
  rcases h.need r hrR with h1|⟨r',z',d',h1,h2,h3,h4,h5⟩
  ·refine⟨R.length,hju,by simp,-z.lit,?_,en⟩
   rw[List.getD_eq_getElem?_getD,List.getElem?_append_right (by simp),List.length_map,Nat.sub_self]
   rw[hl]at h1
   exact h1
  ·obtain⟨i,hi⟩:=List.getElem?_of_mem h2
   have hil:=(List.getElem?_eq_some_iff.1 hi).1
   refine⟨i,?_,by simp;omega,-z.lit,?_,en⟩
   ·refine Classical.byContradiction fun hc=>?_
    rcases Nat.eq_or_lt_of_le (Nat.le_of_not_lt hc)with e|hlt
    ·subst e
     rw[hi]at hr
     have:=Option.some.inj hr
     omega
    ·have:=List.pairwise_iff_getElem.1 h.up i j hil hju hlt
     rw[(List.getElem?_eq_some_iff.1 hi).2,(List.getElem?_eq_some_iff.1 hr).2]at this
     omega
   ·rw[List.getD_eq_getElem?_getD,List.getElem?_append_left (by simpa using hil),List.getElem?_map,hi]
    show -z.lit∈rcAt C its r'
    unfold rcAt
    rw[rsAt_eq h3,h4]
    rw[hl]at h5
    exact h5
theorem chain_check (h:Chain C its L c R) (hs:Sim T its) (hb:FitB C) (hcb:clauseB c=true) (hL:clauseB L=true):chkP L (R.map (rcAt C its)++ [c])=(R.map (litAt its),R.length+1,0)∧(trimP L (R.map (rcAt C its)++ [c])).length=R.length+1:=by
 have hno:=h.no hs
 obtain⟨f,hf,hsays⟩:=asm_ok hL hno
 have hfol:=chain_fol h hs hb hcb R [] f [] 0 rfl (fun y hy=>by
  have:=hsays y hy
  have key: ∀v,(-v∈L)↔(-v∈L∨∃q∈([] :List Nat),litAt its q=v):=fun v=>⟨.inl,fun h=>h.elim id fun⟨q,hq,_⟩=>by cases hq⟩
  exact⟨this.1.trans (key y),this.2.trans (key (-y))⟩)
 have hck:chkP L (R.map (rcAt C its)++ [c])=(R.map (litAt its),R.length+1,0):=by
  unfold chkP
  rw[if_neg (by rw[alwL_no hno];decide),hf]
  simp only[hfol]
  simp
 refine⟨hck,?_⟩
 unfold trimP
 rw[hck,if_pos ⟨rfl,Nat.succ_ne_zero _⟩]
 show(needL (List.take (R.length+1) _) (R.map (litAt its))).length=_
 rw[List.take_of_length_le (by simp)]
 exact chain_need h hs
end
end Go.Proofs.YtoojmhjagipmdaaGreat
namespace Go.Proofs.YtoojmhjagipmdaaGreat
open Go.RowKit Go.Sort
def insRev (lt:Int→Int→Bool) (x:Int):List Int→List Int
 | []=> [x]
 | y::r=>if lt x y=true then y::insRev lt x r else x::y::r
end Go.Proofs.YtoojmhjagipmdaaGreat
namespace Go.Proofs.YtoojmhjagipmdaaGreat
open Go.RowKit
section
variable (lv:Int→Int)
def insL (x:Int) (r:List Int):List Int:=insRev (fun x y=>decide (lv y<lv x)) x r
def SrtL (r:List Int):Prop:=r.Pairwise fun a b=>lv a≤lv b
end
end Go.Proofs.YtoojmhjagipmdaaGreat
namespace Go.Proofs.YtoojmhjagipmdaaGreat
open Go.RowKit
section
variable (lv:Int→Int)
def rMx (out:Int):List Int→Int
 | []=>out
 | x::r=>rMx (if out=0∨lv out<lv x then x else out) r
def rMaxGo (wo out:Int):List Int→Int
 | []=>out
 | x::r=>rMaxGo wo (if x≠wo∧(out=0∨lv out<lv x)then x else out) r
def foldL (r xs:List Int):List Int:=xs.foldl (fun r x=>insL lv x r) r
end
end Go.Proofs.YtoojmhjagipmdaaGreat
namespace Go.Proofs.YtoojmhjagipmdaaGreat
open Go.RowKit Go.Shelf Go.Maps
attribute [local go_sem] Oper.semAt_some
theorem TrAt.cells {O:Nat→Prop} {w:World} {b:Nat} {T:Trl} (h:TrAt O w b T):TrAt (fun g=>O g∧∃c t f,w.heap[g]? =some (.cells c t f)) w b T:=by
 obtain⟨hk,gv,cv,ov,sv,h⟩:=h
 have hc: ∀{base size n:Nat} {e:TypeId} {v:Value} {xs:List Value},w.ownsRow base e size v n xs→∀g,v.ownBlock=some g→∃c t f,w.heap[g]? =some (.cells c t f):=fun h g hg=>by
  obtain⟨c,hc⟩:=own_type h g hg
  exact⟨c,_,_,hc⟩
 exact⟨hk,gv,cv,ov,sv,⟨fun g hg=>h.own g hg.1,⟨h.inb,_,_,_,h.block⟩,⟨h.invs,hc h.vars gv rfl⟩,h.block,h.vars,h.order,fun g hg=>⟨h.orderb g hg,hc h.order g hg⟩,h.starts,fun g hg=>⟨h.startsb g hg,hc h.starts g hg⟩⟩⟩
def TrX (w:World) (b:Nat) (T:Trl):Prop:= ∃O:Nat→Prop,TrAt O w b T
def KpB (X:Nat→Prop) (b:Nat) (A B:World):Prop:=KpC X A B∧∀T,TrX A b T→∃T',TrX B b T'∧T'.order=T.order
theorem KpB.refl (X:Nat→Prop) (b:Nat) (A:World):KpB X b A A:=⟨KpC.refl _ _,fun T h=>⟨T,h,rfl⟩⟩
theorem KpB.trans {X:Nat→Prop} {b:Nat} {A B C:World} (h:KpB X b A B) (k:KpB X b B C):KpB X b A C:=⟨h.1.trans k.1,fun T hT=>by
 obtain⟨T1,h1,e1⟩:=h.2 T hT
 obtain⟨T2,h2,e2⟩:=k.2 T1 h1
 exact⟨T2,h2,e2.trans e1⟩⟩
theorem KpB.putObj {X:Nat→Prop} {b:Nat} (W:World) (l:Nat) (o o':Obj) (h:W.heap[l]? =some o) (hc:o.isCells=false) (hw:o.isWalk=false):KpB X b W (W.putObj l o'):=by
 have hk:=KpC.putObj W l o o' h hc hw
 refine⟨hk.mono (fun _ _ e=>e.elim),fun T hT=>⟨T,?_,rfl⟩⟩
 obtain⟨O,hT⟩:=hT
 refine⟨_,hT.cells.kept hk.kept (fun g hg e=>?_)⟩
 obtain⟨_,c,t,f,hg⟩:=hg
 exact e.elim (fun e=>e.elim) (xo_cells hg)
abbrev UpX (o:List Int):Type:={x:Nat×Int // x.2∈o}
def upS (o:List Int):Nat→Nat→List (UpX o)
 | _,0=> []
 | k,n+1=>if h:k<o.length then⟨(k,o[k]),List.getElem_mem h⟩::upS o (k+1) n else []
def dvS {o:List Int} (x:UpX o):Array Value:= #[.int .i64 (x.1.1:Int),.int .i64 x.1.2]
end Go.Proofs.YtoojmhjagipmdaaGreat
namespace Go.Proofs.YtoojmhjagipmdaaGreat
open Go.RowKit Go.Shelf Go.Maps
attribute [local go_sem] Oper.semAt_some
def clr:List TV→List Int→List TV
 | vs,[]=>vs
 | vs,l::r=>clr (vs.set (litV l) ⟨0,0,0,0⟩) r
theorem clr_len (vs:List TV) (ls:List Int):(clr vs ls).length=vs.length:=by
 induction ls generalizing vs with
 | nil=>rfl
 | cons l ls ih=>simp only[clr,ih,List.length_set]
theorem clr_mem {vs:List TV} {ls:List Int} {s:TV} (h:s∈clr vs ls):s∈vs∨s=⟨0,0,0,0⟩:=by
 induction ls generalizing vs with
 | nil=>exact .inl h
 | cons l ls ih=>
  rcases ih h with h|h
  ·rcases List.mem_or_eq_of_mem_set h with h|h
   ·exact .inl h
   ·exact .inr h
  ·exact .inr h
def Trl.clear (T:Trl) (ls:List Int):Trl:=⟨clr T.vars ls,T.order,T.starts⟩
def Trl.back (T:Trl) (k e:Nat):Trl:=⟨clr T.vars (T.order.drop e),T.order.take e,T.starts.take (k+1)⟩
theorem Trl.Ok.clear {T:Trl} (h:T.Ok) (ls:List Int):(T.clear ls).Ok:=
 ⟨by show 1≤(clr T.vars ls).length∧(clr T.vars ls).length≤1048577;rw[clr_len];exact h.vars,h.order,h.starts,fun s hs=>(clr_mem hs).elim (h.each s) (fun e=>.inl (by rw[e]))⟩
theorem own_uniq {w:World} {base base' size n:Nat} {e e':TypeId} {v:Value} {xs ys:List Value} (h:w.ownsRow base e size v n xs) (h':w.ownsRow base' e' size v n ys):xs=ys:=by
 obtain⟨h0,h1⟩:=h
 obtain⟨k0,k1⟩:=h'
 rcases h1 with⟨hv,hn⟩|⟨g,cap,cur,hv,_,hg,_,_,_,hx⟩
 ·rcases k1 with⟨_,hn'⟩|⟨g,cap,cur,hv',_⟩
  ·subst hn
   rw[Nat.zero_mul]at h0 k0
   rw[List.eq_nil_of_length_eq_zero h0,List.eq_nil_of_length_eq_zero k0]
  ·rw[hv]at hv'
   cases hv'
 ·rcases k1 with⟨hv',_⟩|⟨g',cap',cur',hv',_,hg',_,_,_,hx'⟩
  ·rw[hv]at hv'
   cases hv'
  ·rw[hv]at hv'
   cases hv'
   rw[hg]at hg'
   cases hg'
   rw[←hx,←hx']
theorem TrX.order {w:World} {b:Nat} {T T':Trl} (h:TrX w b T) (h':TrX w b T'):T.order=T'.order:=by
 obtain⟨O,_,gv,cv,ov,sv,h⟩:=h
 obtain⟨O',_,gv',cv',ov',sv',h'⟩:=h'
 have hb:=h.block.symm.trans h'.block
 simp only[Option.some.injEq,Obj.cells.injEq,Array.mk.injEq,List.cons.injEq]at hb
 obtain⟨⟨_,ho,_⟩,_⟩:=hb
 subst ho
 have h1:=h.order
 have h2:=h'.order
 obtain⟨A,c,e1,_⟩:=mx_slice h1
 obtain⟨A',c',e2,_⟩:=mx_slice h2
 rw[e1]at e2
 simp only[Value.slice.injEq]at e2
 rw[e2.2.1]at h1
 have e3:=own_uniq h1 h2
 exact(List.map_inj_right (fun x y h=>by cases h;rfl)).1 e3
theorem Trl.Ok.back {T:Trl} (h:T.Ok) {k:Nat} (e:Nat) (hk:k<T.starts.length):(T.back k e).Ok:=by
 refine⟨?_,?_,⟨?_,?_⟩,fun s hs=>(clr_mem hs).elim (h.each s) (fun e=>.inl (by rw[e]))⟩
 ·show 1≤(clr T.vars (T.order.drop e)).length∧(clr T.vars (T.order.drop e)).length≤1048577
  rw[clr_len]
  exact h.vars
 ·show(T.order.take e).length≤_
  have:=h.order
  rw[List.length_take]
  omega
 ·show 1≤(T.starts.take (k+1)).length
  rw[List.length_take]
  omega
 ·show(T.starts.take (k+1)).length≤_
  have:=h.starts
  rw[List.length_take]
  omega
end Go.Proofs.YtoojmhjagipmdaaGreat
namespace Go.Proofs.YtoojmhjagipmdaaGreat
open Go.RowKit Go.Shelf
def addB (B:Nat→Prop) (W W':World) (g:Nat):Prop:=B g∨W.heap.size≤g∧g<W'.heap.size
def OwnB {α:Type} (N:Nat) (J:List α→(Nat→Prop)→World→Prop):Prop:=
 ∀pre B W W' row,J pre B W→W.grownBy W' row→(∀r,row=some r→N≤r∧¬B r)→J pre B W'
def SeqB {α:Type} (P:Program) (g:Nat) (lb:Array Value) (encs:α→Array Value) (X0:Nat→Prop) (S Sp:List α→Prop) (w:World):Prop:=
 ∀(l:Nat) (J Jx:List α→(Nat→Prop)→World→Prop) (W:World),Below w.heap.size w W→OwnB W.heap.size J→OwnB W.heap.size Jx→
  (∀pre B x W1,J pre B W1→W.heap.size≤W1.heap.size→(∀g,B g→W.heap.size≤g∧g<W1.heap.size)→YieldAt Fence.wide 7 P l (encs x) W1 fun e W'=>
   ((e= .returned (.bool true)∧J (pre++ [x]) (addB B W1 W') W')∨(e= .returned (.bool false)∧Jx (pre++ [x]) (addB B W1 W') W'))∧KpC (fun g=>X0 g∨B g) W1 W')→
  J [] (fun _=>False) W→
  CallsIn Fence.wide 9 P g (#[.func (.yield l) #[] #[]]++lb) W fun e W'=>(∃v,e= .returned v)∧((∃xs B,S xs∧J xs B W')∨(∃pre B,Sp pre∧Jx pre B W'))
def bPost {α:Type} (k:Nat) (X0:Nat→Prop) (I Ix:List α→(Nat→Prop)→World→Prop) (pre:List α) (B:Nat→Prop) (x:α) (W W':World):Exit→Act→World→Prop
 | .normal,_,W3=>KeepsRec W' W3∧KpC (fun g=>X0 g∨B g) W' W3∧I (pre++ [x]) (addB B W W3) W3
 | .exit n,_,W3=>n=k∧KeepsRec W' W3∧KpC (fun g=>X0 g∨B g) W' W3∧Ix (pre++ [x]) (addB B W W3) W3
 | .ret,_,_=>False
 | .goto _,_,_=>False
 | .panic _,_,_=>False
 | .outgrown,_,_=>False
theorem OwnB.putObj {α:Type} {N:Nat} {J:List α→(Nat→Prop)→World→Prop} (h:OwnB N J) {pre:List α} {B:Nat→Prop} {W:World} {l:Nat} (o':Obj) (hs:J pre B W) (hl:N≤l) (hB: ¬B l):J pre B (W.putObj l o'):=
 h pre B W _ (some l) hs (grownBy_putObj' W l o') (fun r e=>by cases e;exact⟨hl,hB⟩)
theorem OwnB.alloc {α:Type} {N:Nat} {J:List α→(Nat→Prop)→World→Prop} (h:OwnB N J) {pre:List α} {B:Nat→Prop} {W:World} (o:Obj) (hs:J pre B W):J pre B (W.alloc o):=
 h pre B W _ none hs (World.grownBy_alloc W o none) (fun r e=>by cases e)
theorem addB_putObj {B:Nat→Prop} {W W3:World} (l:Nat) (o:Obj):addB B W (W3.putObj l o)=addB B W W3:=by
 funext g
 unfold addB
 rw[show(W3.putObj l o).heap.size=W3.heap.size by simp]
set_option maxHeartbeats 1000000 in
theorem wpIn_range_B {α:Type} {P:Program} {g:Operand} {ps:Array Tmp} {assign body:Code} {Q:Exit→Act→World→Prop} {a:Act} {w:World} {gf:Nat} {lb:Array Value}
  (hg:a.eval g= .func (.func gf) #[] lb) (eg: ∀args w,(callFunc gf args).run P w= .ok (.enter gf args) w)
  {encs:α→Array Value} {X0:Nat→Prop} {S Sp:List α→Prop} {w0:World} (k:Nat) (hseq:SeqB P gf lb encs X0 S Sp w0) (hb0:Below w0.heap.size w0 w) (hps: ∀x,(encs x).size=ps.size)
  (I Ix:List α→(Nat→Prop)→World→Prop) (hI:OwnB w.heap.size I) (hIx:OwnB w.heap.size Ix) (h0:I [] (fun _=>False) w)
  (Fr:α→Act)
  (hassign: ∀(l:Nat) (x:α) (W:World) (K:Act→World→Prop),K (Fr x) W→
   assign.wpIn (Fence.wide.inRound l) 7 P (Exit.then K (fun _ _ _=>False)) { tmps:=(ps.zip (encs x)).foldl (fun t (p,v)=>t.setIfInBounds p v) a.tmps,defers:= [] } W)
  (hbody: ∀(l:Nat) (pre:List α) (B:Nat→Prop) (x:α) (W W':World),I pre B W→(∀g,B g→w.heap.size≤g∧g<W.heap.size)→w.heap.size≤W.heap.size→(∀j,j<w.heap.size→W.heap[j]? =W'.heap[j]?)→(∀j,B j→W.heap[j]? =W'.heap[j]?)→W'.heap.size=W.heap.size→I pre B W'→body.wpIn (Fence.wide.inRound l) 7 P (bPost k X0 I Ix pre B x W W') (Fr x) W')
  (hdone: ∀(D:Nat) (xs:List α) (B:Nat→Prop) (W:World),w.heap.size≤D→S xs→I xs B W→W.heap[D]? =some (.deferred (some []))→Q .normal { a with defers:={ target:=.collected D,args:= #[] }::a.defers } W)
  (hstop: ∀(D:Nat) (pre:List α) (B:Nat→Prop) (W:World),w.heap.size≤D→Sp pre→Ix pre B W→W.heap[D]? =some (.deferred (some []))→(Code.exit k).wpIn Fence.wide 10 P Q { a with defers:={ target:=.collected D,args:= #[] }::a.defers } W):
  (Code.rangeFunc g ps assign body).wpIn Fence.wide 10 P Q a w:=by
 refine wpIn_rangeFunc (fun fn hfn=>?_)
 obtain⟨rec,hrec⟩: ∃rec:LoopState→Option Code→Loop,rec=fun st pe=>{ state:=st,pending:=pe,fn,tmps:=a.tmps,params:=ps,assign,body,defers:=w.heap.size }:=⟨_,rfl⟩
 obtain⟨W1,hW1⟩: ∃W1,(w.alloc (.deferred (some []))).alloc (.loop (rec .ready none))=W1:=⟨_,rfl⟩
 have hz1:W1.heap.size=w.heap.size+2:=by rw[←hW1];simp
 have hL1:W1.heap[w.heap.size+1]? =some (.loop (rec .ready none)):=by
  have:=World.alloc_heap_new (w.alloc (.deferred (some []))) (.loop (rec .ready none))
  rwa [hW1,World.size_alloc]at this
 have hD1:W1.heap[w.heap.size]? =some (.deferred (some [])):=by
  rw[←hW1,Below.heap_alloc _ _ _ (by simp)]
  exact World.alloc_heap_new w _
 have hb1:Below w.heap.size w W1:=by rw[←hW1];exact(mx_al w _).alloc (by simp) _
 have hI1:I [] (fun _=>False) W1:=by rw[←hW1];exact hI.alloc _ (hI.alloc _ h0)
 have turn: ∀(W3:World) (r r':Loop),W3.heap[w.heap.size+1]? =some (.loop r)→W3.heap[w.heap.size]? =some (.deferred (some []))→(W3.putObj (w.heap.size+1) (.loop r')).heap[w.heap.size+1]? =some (.loop r')∧(W3.putObj (w.heap.size+1) (.loop r')).heap[w.heap.size]? =some (.deferred (some [])):=fun W3 r r' h1 h2=>
  ⟨World.putObj_heap_same (heap_lt h1),(World.putObj_heap_other (by omega)).trans h2⟩
 have own: ∀{I:List α→(Nat→Prop)→World→Prop},OwnB w.heap.size I→∀st pe,OwnB W1.heap.size (fun pre B W=>I pre B W∧W.heap[w.heap.size+1]? =some (.loop (rec st pe))∧W.heap[w.heap.size]? =some (.deferred (some []))∧∀j,B j→W1.heap.size≤j):=fun {I} hI st pe pre B W W' row h hg hr=>by
  obtain⟨h1,h2,h3,h4⟩:=h
  refine⟨hI pre B W W' row h1 hg (fun r e=>⟨by have:=(hr r e).1;omega,(hr r e).2⟩),(hg.block _ (heap_lt h2) (fun e=>?_)).trans h2,(hg.block _ (heap_lt h3) (fun e=>?_)).trans h3,h4⟩
  ·have:=(hr _ e.symm).1
   omega
  ·have:=(hr _ e.symm).1
   omega
 refine⟨w.heap.size+1,[{ target:=.collected w.heap.size,args:= #[] }],W1,{ target:=.fn (.func gf) lb,args:= #[.func (.yield (w.heap.size+1)) #[] #[]] },W1,gf,#[.func (.yield (w.heap.size+1)) #[] #[]]++lb,W1,?_,?_,fun _ _=>trivial,?_,fun h=>(by cases h),?_⟩
 ·rw[←hW1,hrec]
  exact run_enterLoop_outer _ _ _ _ _
 ·simp only[resolve,hg]
  simp[go_sem]
 ·simp[invoke,go_sem,eg]
 refine(hseq (w.heap.size+1) _ _ W1 (hb0.trans (hb1.mono hb0.size)) (own hI .ready none) (own hIx .done (some (.exit k))) ?_ ⟨hI1,hL1,hD1,fun j h=>h.elim⟩).mono ?_
 ·rintro pre B x W ⟨hi,hl,hd,hB⟩ hbW hBl
  have hy:=run_yield (P:=P) (args:=encs x) hl (by rw[hrec];exact hps x)
  rw[hrec]at hy
  refine⟨fn,_,assign,body,hy,roundIn_of_wpIn hfn (hassign _ x W _ ?_)⟩
  refine⟨_,run_beginRound hl (by rw[hrec]),?_⟩
  obtain⟨hl2,hd2⟩:=turn W _ { rec .ready none with state:=.busy } hl hd
  have hnB: ¬B (w.heap.size+1):=fun h=>by have:=hB _ h;omega
  have hk2:=KpC.putObj W (w.heap.size+1) _ (.loop { rec .ready none with state:=.busy }) hl rfl rfl
  refine wpIn_mono (hbody _ pre B x W _ hi (fun j h=>⟨by have:=hB j h;omega,(hBl j h).2⟩) (by omega) (fun j hj=>(World.putObj_heap_other (by omega)).symm) (fun j hj=>(World.putObj_heap_other (by intro e;exact hnB (by first|exact e▸hj|exact e.symm▸hj))).symm) (by simp) (hI.putObj _ hi (by omega) hnB)) ?_
  rintro e a3 W3 hq
  have hBW: ∀(W3:World),(W.putObj (w.heap.size+1) (.loop { rec .ready none with state:=.busy })).heap.size≤W3.heap.size→¬addB B W W3 (w.heap.size+1)∧∀j,addB B W W3 j→W1.heap.size≤j:=fun W3 _=>⟨fun h=>h.elim hnB (fun h=>by have:=heap_lt hl;omega),fun j h=>h.elim (hB j) (fun h=>by omega)⟩
  cases e with
  | normal=>
   obtain⟨hk3,hkp,hi3⟩:=hq
   have hl3:=hk3 _ _ hl2 rfl rfl
   have hd3:=hk3 _ _ hd2 rfl rfl
   have he:=run_endRound (P:=P) none hl3
   obtain⟨hl4,hd4⟩:=turn W3 _ (rec .ready none) hl3 hd3
   have hk4:=KpC.putObj W3 (w.heap.size+1) _ (.loop (rec .ready none)) hl3 rfl rfl
   obtain⟨hn3,hb3⟩:=hBW W3 hkp.size
   refine⟨_,_,he,?_⟩
   rw[hrec]at hl3 hl4 hd4 hk4 hk2 hkp⊢
   refine⟨.inl ⟨rfl,?_,hl4,hd4,fun j h=>hb3 j (by rwa [addB_putObj]at h)⟩,((hk2.mono (fun j _ h=>h.elim)).trans hkp).trans (hk4.mono (fun j _ h=>h.elim))⟩
   rw[addB_putObj]
   exact hI.putObj _ hi3 (by omega) hn3
  | exit n=>
   obtain⟨rfl,hk3,hkp,hi3⟩:=hq
   have hl3:=hk3 _ _ hl2 rfl rfl
   have hd3:=hk3 _ _ hd2 rfl rfl
   have he:=run_endRound (P:=P) (some (.exit n)) hl3
   obtain⟨hl4,hd4⟩:=turn W3 _ (rec .done (some (.exit n))) hl3 hd3
   have hk4:=KpC.putObj W3 (w.heap.size+1) _ (.loop (rec .done (some (.exit n)))) hl3 rfl rfl
   obtain⟨hn3,hb3⟩:=hBW W3 hkp.size
   refine⟨_,_,he,?_⟩
   rw[hrec]at hl3 hl4 hd4 hk4 hk2 hkp⊢
   refine⟨.inr ⟨rfl,?_,hl4,hd4,fun j h=>hb3 j (by rwa [addB_putObj]at h)⟩,((hk2.mono (fun j _ h=>h.elim)).trans hkp).trans (hk4.mono (fun j _ h=>h.elim))⟩
   rw[addB_putObj]
   exact hIx.putObj _ hi3 (by omega) hn3
  | ret=>exact hq.elim
  | goto t=>exact hq.elim
  | panic c=>exact hq.elim
  | outgrown=>exact hq.elim
 ·rintro e W2 ⟨⟨v,rfl⟩,⟨xs,B,hS,hi,hl,hd,hB⟩|⟨pre,B,hS,hi,hl,hd,hB⟩⟩
  ·have he:=run_endLoop (P:=P) hl (by rw[hrec];simp)
   obtain⟨_,hd4⟩:=turn W2 _ { rec .ready none with state:=.exhausted } hl hd
   refine⟨none,_,?_,hdone _ xs B _ (Nat.le_refl _) hS (hI.putObj _ hi (by omega) (fun h=>by have:=hB _ h;omega)) hd4⟩
   rw[hrec]at he⊢
   exact he
  ·have he:=run_endLoop (P:=P) hl (by rw[hrec];simp)
   obtain⟨_,hd4⟩:=turn W2 _ { rec .done (some (.exit k))with state:=.exhausted } hl hd
   refine⟨some (.exit k),_,?_,hstop _ pre B _ (Nat.le_refl _) hS (hIx.putObj _ hi (by omega) (fun h=>by have:=hB _ h;omega)) hd4⟩
   rw[hrec]at he⊢
   exact he
theorem wpIn_range_BE {α:Type} {P:Program} {g:Operand} {ps:Array Tmp} {assign body:Code} {Q:Exit→Act→World→Prop} {a:Act} {w:World} {gf:Nat} {lb:Array Value}
  (hg:a.eval g= .func (.func gf) #[] lb) (eg: ∀args w,(callFunc gf args).run P w= .ok (.enter gf args) w)
  {encs:α→Array Value} {X0:Nat→Prop} {S Sp:List α→Prop} {w0:World} (k:Nat) (hseq:SeqB P gf lb encs X0 S Sp w0) (hb0:Below w0.heap.size w0 w) (hps: ∀x,(encs x).size=ps.size)
  (I Ix:List α→(Nat→Prop)→World→Prop) (hI:OwnB w.heap.size I) (hIx:OwnB w.heap.size Ix) (h0:I [] (fun _=>False) w)
  (Fr:α→Act)
  (hassign: ∀(l:Nat) (x:α) (W:World) (K:Act→World→Prop),K (Fr x) W→
   assign.wpIn (Fence.wide.inRound l) 7 P (Exit.then K (fun _ _ _=>False)) { tmps:=(ps.zip (encs x)).foldl (fun t (p,v)=>t.setIfInBounds p v) a.tmps,defers:= [] } W)
  (hbody: ∀(l:Nat) (pre:List α) (B:Nat→Prop) (x:α) (W W':World),I pre B W→(∀g,B g→w.heap.size≤g∧g<W.heap.size)→w.heap.size≤W.heap.size→(∀j,j<w.heap.size→W.heap[j]? =W'.heap[j]?)→(∀j,B j→W.heap[j]? =W'.heap[j]?)→W'.heap.size=W.heap.size→I pre B W'→body.wpIn (Fence.wide.inRound l) 7 P (bPost k X0 I Ix pre B x W W') (Fr x) W')
  (Fin:List α→World→Prop) (hf1: ∀xs B W,S xs→I xs B W→Fin xs W) (hf2: ∀pre B W,Sp pre→Ix pre B W→Fin pre W)
  (hexit: ∀a W,Q .normal a W→(Code.exit k).wpIn Fence.wide 10 P Q a W)
  (hend: ∀(D:Nat) (xs:List α) (W:World),w.heap.size≤D→Fin xs W→W.heap[D]? =some (.deferred (some []))→Q .normal { a with defers:={ target:=.collected D,args:= #[] }::a.defers } W):
  (Code.rangeFunc g ps assign body).wpIn Fence.wide 10 P Q a w:=
 wpIn_range_B hg eg k hseq hb0 hps I Ix hI hIx h0 Fr hassign hbody (fun D xs B W h1 h2 h3 h4=>hend D xs W h1 (hf1 xs B W h2 h3) h4) (fun D pre B W h1 h2 h3 h4=>hexit _ _ (hend D pre W h1 (hf2 pre B W h2 h3) h4))
end Go.Proofs.YtoojmhjagipmdaaGreat
