/- Plain: what follows by hints holds wherever the hints do. Plain: steps of proofs. Plain: a checker of proofs: its entries, the last ID, what it reports; what a step does. package proof: a checker in memory; Proved, Last, Report, put. -/
import Derived.Test.YtkfgplfllddhnaaGreatV410
import Derived.Test.YtkfgplfllddhnaaGreatV404
import Derived.Test.YtkfgplfllddhnaaGreatV402
import Derived.Test.YtkfgplfllddhnaaGreatV403
import Derived.Test.YtkfgplfllddhnaaGreatV401
namespace Go.Proofs.YtkfgplfllddhnaaGreat
open Go.RowKit
structure Way (P:Int→Prop):Prop where
 one: ∀y,litB y=true→P y→¬P (-y)
 all: ∀y,litB y=true→P y∨P (-y)
def Under (f:Int→Int) (P:Int→Prop):Prop:= ∀y,litB y=true→0<ofF f y→P y
theorem ofF_minus (f:Int→Int) {y:Int} (hy:litB y=true):ofF f (-y)= -ofF f y:=by
 unfold ofF
 rw[litG_minus hy,litV_negate]
 cases litG y <;> simp
theorem luk_cons (f:Int→Int) (k:Nat) (u l:Int) (r:List Int):lukGo f k u (l::r)=if 0<ofF f l then(1,0)else if ofF f l<0∨l=u then lukGo f k u r else if u=0 then lukGo f 3 l r else lukGo f 4 u r:=rfl
theorem luk_not {f:Int→Int}: ∀(c:List Int) (k:Nat) (u:Int),k≠2→(lukGo f k u c).1≠2:=by
 intro c
 induction c with
 | nil=>exact fun k u h=>h
 | cons l r ih=>
  intro k u h
  rw[luk_cons]
  by_cases h1:0<ofF f l
  ·rw[if_pos h1]
   decide
  ·rw[if_neg h1]
   by_cases h2:ofF f l<0∨l=u
   ·rw[if_pos h2]
    exact ih k u h
   ·rw[if_neg h2]
    by_cases h3:u=0
    ·rw[if_pos h3]
     exact ih 3 l (by decide)
    ·rw[if_neg h3]
     exact ih 4 u (by decide)
theorem luk_two {f:Int→Int}: ∀(c:List Int),(∀y∈c,y≠0)→(lukGo f 2 0 c).1=2→∀y∈c,ofF f y<0:=by
 intro c
 induction c with
 | nil=>exact fun _ _ y hy=>by cases hy
 | cons l r ih=>
  intro h0 h y hy
  rw[luk_cons]at h
  by_cases h1:0<ofF f l
  ·rw[if_pos h1]at h
   cases h
  ·rw[if_neg h1]at h
   by_cases h2:ofF f l<0∨l=0
   ·rw[if_pos h2]at h
    have h3:=h2.resolve_right (h0 l List.mem_cons_self)
    rcases List.mem_cons.1 hy with e|hy
    ·rw[e];exact h3
    ·exact ih (fun y hy=>h0 y (List.mem_cons_of_mem _ hy)) h y hy
   ·rw[if_neg h2,if_pos rfl]at h
    exact absurd h (luk_not r 3 l (by decide))
theorem luk_four {f:Int→Int}: ∀(c:List Int) (u:Int),u≠0→(lukGo f 4 u c).1≠3:=by
 intro c
 induction c with
 | nil=>
  intro u _
  show(4:Nat)≠3
  decide
 | cons l r ih=>
  intro u hu
  rw[luk_cons]
  by_cases h1:0<ofF f l
  ·rw[if_pos h1]
   decide
  ·rw[if_neg h1]
   by_cases h2:ofF f l<0∨l=u
   ·rw[if_pos h2]
    exact ih u hu
   ·rw[if_neg h2,if_neg hu]
    exact ih u hu
theorem luk_three {f:Int→Int}: ∀(c:List Int) (u:Int),u≠0→(lukGo f 3 u c).1=3→(lukGo f 3 u c).2=u∧∀y∈c,ofF f y<0∨y=u:=by
 intro c
 induction c with
 | nil=>exact fun u _ _=>⟨rfl,fun y hy=>by cases hy⟩
 | cons l r ih=>
  intro u hu h
  rw[luk_cons]at h⊢
  by_cases h1:0<ofF f l
  ·rw[if_pos h1]at h
   cases h
  ·rw[if_neg h1]at h⊢
   by_cases h2:ofF f l<0∨l=u
   ·rw[if_pos h2]at h⊢
    obtain⟨a,b⟩:=ih u hu h
    refine⟨a,fun y hy=>?_⟩
    rcases List.mem_cons.1 hy with e|hy
    ·rw[e];exact h2
    ·exact b y hy
   ·rw[if_neg h2,if_neg hu]at h
    exact absurd h (luk_four r u hu)
theorem luk_unit {f:Int→Int}: ∀(c:List Int),(∀y∈c,y≠0)→(lukGo f 2 0 c).1=3→(lukGo f 2 0 c).2∈c∧ofF f (lukGo f 2 0 c).2=0∧∀y∈c,ofF f y<0∨y=(lukGo f 2 0 c).2:=by
 intro c
 induction c with
 | nil=>
  intro _ h
  cases h
 | cons l r ih=>
  intro h0 h
  have hl:=h0 l List.mem_cons_self
  rw[luk_cons]at h⊢
  by_cases h1:0<ofF f l
  ·rw[if_pos h1]at h
   cases h
  ·rw[if_neg h1]at h⊢
   by_cases h2:ofF f l<0∨l=0
   ·rw[if_pos h2]at h⊢
    have h3:=h2.resolve_right hl
    obtain⟨a,b,d⟩:=ih (fun y hy=>h0 y (List.mem_cons_of_mem _ hy)) h
    refine⟨List.mem_cons_of_mem _ a,b,fun y hy=>?_⟩
    rcases List.mem_cons.1 hy with e|hy
    ·rw[e];exact .inl h3
    ·exact d y hy
   ·rw[if_neg h2,if_pos rfl]at h⊢
    obtain⟨a,b⟩:=luk_three r l hl h
    rw[a]
    refine⟨List.mem_cons_self,by omega,fun y hy=>?_⟩
    rcases List.mem_cons.1 hy with e|hy
    ·exact .inr e
    ·exact b y hy
theorem clauseB_lit {c:List Int} (h:clauseB c=true) {y:Int} (hy:y∈c):litB y=true:=by
 unfold clauseB at h
 rw[Bool.and_eq_true]at h
 exact List.all_eq_true.1 h.2 y hy
theorem litB_ne {y:Int} (h:litB y=true):y≠0:=((litB_iff y).1 h).1
section
variable {P:Int→Prop} {f:Int→Int}
theorem Under.false_ (hw:Way P) (h:Under f P) {y:Int} (hy:litB y=true) (hn:ofF f y<0): ¬P y:=fun hp=>by
 have h1:=h (-y) (by rw[litB_minus];exact hy) (by rw[ofF_minus f hy];omega)
 exact hw.one y hy hp h1
theorem Under.put (h:Under f P) {x:Int} (hx:litB x=true) (hp:P x):Under (putF f x) P:=fun y hy h0=>by
 by_cases e:litV y=litV x
 ·rcases litV_two hx e.symm with e|e
  ·rw[e];exact hp
  ·rw[e,k_put_neg f hx]at h0
   omega
 ·rw[k_put_ne f e]at h0
  exact h y hy h0
theorem Under.zero:Under (fun _=>0) P:=fun y _ h=>by
 unfold ofF at h
 simp only at h
 split at h <;> omega
theorem asg_under: ∀(xs:List Int) (f g:Int→Int),Under f P→(∀x∈xs,P x)→asgGo f xs=some g→Under g P:=by
 intro xs
 induction xs with
 | nil=>
  intro f g hf _ h
  obtain rfl:=Option.some.inj h
  exact hf
 | cons x r ih=>
  intro f g hf hx h
  unfold asgGo at h
  split at h
  ·rename_i hc
   exact ih _ g (hf.put hc.1 (hx x List.mem_cons_self)) (fun y hy=>hx y (List.mem_cons_of_mem _ hy)) h
  ·cases h
theorem look_sound (hw:Way P) (h:Under f P) {c:List Int} (hc:clauseB c=true) (ht: ∃y∈c,P y):(lookF f c).1≠2∧((lookF f c).1=3→P (lookF f c).2∧litB (lookF f c).2=true):=by
 obtain⟨y,hy,hp⟩:=ht
 have h0: ∀y∈c,y≠0:=fun y hy=>litB_ne (clauseB_lit hc hy)
 refine⟨fun e=>?_,fun e=>?_⟩
 ·exact h.false_ hw (clauseB_lit hc hy) (luk_two c h0 e y hy) hp
 ·obtain⟨a,_,b⟩:=luk_unit c h0 e
  refine⟨?_,clauseB_lit hc a⟩
  rcases b y hy with b|b
  ·exact absurd hp (h.false_ hw (clauseB_lit hc hy) b)
  ·unfold lookF
   rw[←b]
   exact hp
theorem fol_sound (hw:Way P): ∀(hs:List (List Int)) (f:Int→Int) (us:List Int) (i:Nat),Under f P→(∀c∈hs,clauseB c=true)→(∀c∈hs,∃y∈c,P y)→(folGo f hs us i).2.2.1=false:=by
 intro hs
 induction hs with
 | nil=>exact fun _ _ _ _ _ _=>rfl
 | cons c r ih=>
  intro f us i hf hb ht
  obtain⟨h1,h2⟩:=look_sound hw hf (hb c List.mem_cons_self) (ht c List.mem_cons_self)
  unfold folGo
  rw[if_neg h1]
  split
  ·rename_i h3
   obtain⟨a,b⟩:=h2 h3
   exact ih _ _ _ (hf.put b a) (fun c hc=>hb c (List.mem_cons_of_mem _ hc)) (fun c hc=>ht c (List.mem_cons_of_mem _ hc))
  ·rfl
theorem chk_sound (hw:Way P) {c:List Int} {hs:List (List Int)} (hc:clauseB c=true) (hb: ∀d∈hs,clauseB d=true) (ht: ∀d∈hs,∃y∈d,P y) (h:(chkP c hs).2.2=0): ∃y∈c,P y:=by
 refine Classical.byContradiction fun hn=>?_
 have hn: ∀y∈c,P (-y):=fun y hy=>(hw.all y (clauseB_lit hc hy)).resolve_left fun hp=>hn ⟨y,hy,hp⟩
 have hno: ∀y∈c,-y∉c:=fun y hy hm=>by
  have h1:=hn y hy
  have h2:=hn _ hm
  exact hw.one (-y) (by rw[litB_minus];exact clauseB_lit hc hy) h1 h2
 have hal:alwL c=false:=alwL_no hno
 obtain⟨f,hf,hs2⟩:=asm_ok hc hno
 have hu:Under f P:=fun y hy h0=>by
  have h3:=((hs2 y hy).1).1 h0
  have:=hn _ h3
  rwa [Int.neg_neg]at this
 have h4:=fol_sound hw hs f [] 0 hu hb ht
 unfold chkP at h
 rw[if_neg (by rw[hal];decide),hf]at h
 simp only at h
 split at h
 ·cases h
 ·rename_i h5
  exact h5 ⟨h,h4⟩
end
abbrev Ents:=List (Int×List Int)
def ratFol (es:Ents):List Int→List Int→List Int×Bool×Int×Nat
 | asg,[]=>(asg,false,0,0)
 | asg,id::r=>match getA es id with
  | none=>([],false,id,91)
  | some c=>match asgF asg with
   | none=>([],false,id,81)
   | some f=>if(lookF f c).1=2 then(asg,true,0,0)else if(lookF f c).1=3 then ratFol es (asg++ [(lookF f c).2]) r else([],false,id,81)
def candB (p:Int) (c:List Int):Bool:=c.contains (litN p)&& !alwL c
def restGo (p:Int) (asg:List Int):List Int→List Int→List Int×Bool
 | out,[]=>(out,true)
 | out,l::r=>if l=litN p then restGo p asg out r else if asg.contains l=true then([],false)else restGo p asg (out++ [litN l]) r
def ratWant (es:Ents) (p:Int):List Int:=(es.filter fun x=>candB p x.2).map Prod.fst
def ratIds (want:List Int):Int→List Int→Int×Nat
 | _,[]=>(0,0)
 | last,g::r=>if want.contains g=false∨g≤last then(g,92)else ratIds want g r
def ratGrp (es:Ents) (p:Int) (gs:List (Int×List Int)):Int×Nat:=match (ratWant es p).find? fun id=> !(gs.map Prod.fst).contains id with
 | some id=>(id,92)
 | none=>ratIds (ratWant es p) 0 (gs.map Prod.fst)
def ratLoop (es:Ents) (p:Int) (asg:List Int):List (Int×List Int)→Int×Nat
 | []=>(0,0)
 | g::r=>if(restGo p asg [] ((getA es g.1).getD [])).2=false then ratLoop es p asg r else
  if(ratFol es (asg++(restGo p asg [] ((getA es g.1).getD [])).1) g.2).2.2.2≠0 then(ratFol es (asg++(restGo p asg [] ((getA es g.1).getD [])).1) g.2).2.2 else
  if(ratFol es (asg++(restGo p asg [] ((getA es g.1).getD [])).1) g.2).2.1=false then(g.1,93)else ratLoop es p asg r
def ratP (es:Ents) (c hs:List Int) (gs:List (Int×List Int)):Nat×Int×Nat:=
 if alwL c=true then(1,0,0)else
 if(ratFol es (asmL c) hs).2.2.2≠0 then(0,(ratFol es (asmL c) hs).2.2)else
 if(ratFol es (asmL c) hs).2.1=true then(1,0,0)else
 match c with
 | []=>(0,0,82)
 | p::_=>if(ratGrp es p gs).2≠0 then(0,ratGrp es p gs)else if(ratLoop es p (ratFol es (asmL c) hs).1 gs).2≠0 then(0,ratLoop es p (ratFol es (asmL c) hs).1 gs)else(2,0,0)
section
variable {P:Int→Prop} {es:Ents}
theorem ratFol_sound (hw:Way P) (hb: ∀x∈es,clauseB x.2=true) (ht: ∀x∈es,∃y∈x.2,P y): ∀(hs asg:List Int),(∀y∈asg,P y)→(ratFol es asg hs).2.1=false∧∀y∈(ratFol es asg hs).1,P y:=by
 intro hs
 induction hs with
 | nil=>exact fun asg h=>⟨rfl,h⟩
 | cons id r ih=>
  intro asg h
  unfold ratFol
  cases hg:getA es id with
  | none=>exact⟨rfl,fun y hy=>by cases hy⟩
  | some c=>
   simp only
   cases ha:asgF asg with
   | none=>exact⟨rfl,fun y hy=>by cases hy⟩
   | some f=>
    simp only
    have hm:=getA_some hg
    obtain⟨h1,h2⟩:=look_sound hw (asg_under asg _ f Under.zero h ha) (hb _ hm) (ht _ hm)
    rw[if_neg h1]
    split
    ·rename_i h3
     refine ih _ fun y hy=>?_
     rcases List.mem_append.1 hy with hy|hy
     ·exact h y hy
     ·rw[List.mem_singleton.1 hy]
      exact(h2 h3).1
    ·exact⟨rfl,fun y hy=>by cases hy⟩
theorem asm_under (hw:Way P) {c:List Int} (hc:clauseB c=true) (hn: ¬ ∃y∈c,P y): ∀y∈asmL c,P y:=fun y hy=>by
 have hr: ∀x∈c,litB x=true:=fun x hx=>clauseB_lit hc hx
 unfold asmL at hy
 rw[sortL_mem,List.mem_map]at hy
 obtain⟨z,hz,rfl⟩:=hy
 have hz:=(normL_has hr).1 hz
 rw[litN_eq (hr z hz)]
 exact(hw.all z (hr z hz)).resolve_left fun hp=>hn ⟨z,hz,hp⟩
theorem restGo_out (p:Int) (asg:List Int): ∀(c out:List Int),(restGo p asg out c).2=true→(restGo p asg out c).1=out++(c.filter fun l=>decide (l≠litN p)).map litN:=by
 intro c
 induction c with
 | nil=>intro out _;simp[restGo]
 | cons l r ih=>
  intro out h
  unfold restGo at h⊢
  split at h
  ·rename_i e
   rw[if_pos e,ih out h,List.filter_cons_of_neg (by simp[e])]
  ·rename_i e
   split at h
   ·cases h
   ·rename_i e2
    rw[if_neg e,if_neg e2,ih _ h,List.filter_cons_of_pos (by simp[e]),List.map_cons,List.append_assoc]
    rfl
theorem restGo_no (p:Int) (asg:List Int): ∀(c out:List Int),(restGo p asg out c).2=false→∃l∈c,l≠litN p∧l∈asg:=by
 intro c
 induction c with
 | nil=>intro out h;cases h
 | cons l r ih=>
  intro out h
  unfold restGo at h
  split at h
  ·obtain⟨a,b,d⟩:=ih out h
   exact⟨a,List.mem_cons_of_mem _ b,d⟩
  ·rename_i e
   split at h
   ·rename_i e2
    exact⟨l,List.mem_cons_self,e,List.contains_iff_mem.1 e2⟩
   ·obtain⟨a,b,d⟩:=ih _ h
    exact⟨a,List.mem_cons_of_mem _ b,d⟩
theorem ratLoop_sound (hw:Way P) (hb: ∀x∈es,clauseB x.2=true) (ht: ∀x∈es,∃y∈x.2,P y) {p:Int} {asg:List Int} (ha: ∀y∈asg,P y): ∀(gs:List (Int×List Int)),(ratLoop es p asg gs).2=0→∀g∈gs,∀c,getA es g.1=some c→∃y∈c,y≠litN p∧P y:=by
 intro gs
 induction gs with
 | nil=>intro _ g hg;cases hg
 | cons g r ih=>
  intro h g' hg' c hc
  unfold ratLoop at h
  have key:(ratLoop es p asg r).2=0∧(getA es g.1=some c→∃y∈c,y≠litN p∧P y):=by
   split at h
   ·rename_i h1
    refine⟨h,fun hgc=>?_⟩
    rw[hgc]at h1
    obtain⟨l,a,b,d⟩:=restGo_no p asg c [] h1
    exact⟨l,a,b,ha l d⟩
   ·rename_i h1
    split at h
    ·rename_i h2
     exact absurd h h2
    ·split at h
     ·cases h
     ·rename_i h2 h3
      refine⟨h,fun hgc=>?_⟩
      rw[hgc]at h1 h3
      have h1':(restGo p asg [] c).2=true:=by
       cases hx:(restGo p asg [] c).2 with
       | true=>rfl
       | false=>exact absurd hx h1
      refine Classical.byContradiction fun hn=>h3 ?_
      refine(ratFol_sound hw hb ht g.2 _ fun y hy=>?_).1
      rcases List.mem_append.1 hy with hy|hy
      ·exact ha y hy
      ·have e:=restGo_out p asg c [] h1'
       rw[List.nil_append]at e
       have hy:y∈(restGo p asg [] c).1:=hy
       rw[e]at hy
       obtain⟨z,hz,rfl⟩:=List.mem_map.1 hy
       obtain⟨hz1,hz2⟩:=List.mem_filter.1 hz
       have hzb:=clauseB_lit (hb _ (getA_some hgc)) hz1
       rw[litN_eq hzb]
       exact(hw.all z hzb).resolve_left fun hp=>hn ⟨z,hz1,of_decide_eq_true hz2,hp⟩
  rcases List.mem_cons.1 hg' with e|hg'
  ·rw[e]at hc
   exact key.2 hc
  ·exact ih key.1 g' hg' c hc
end
end Go.Proofs.YtkfgplfllddhnaaGreat
namespace Go.Proofs.YtkfgplfllddhnaaGreat
structure EStep where
 del:Bool
 id:Int
 lits:List Int
 hints:List Int
end Go.Proofs.YtkfgplfllddhnaaGreat
namespace Go.Proofs.YtkfgplfllddhnaaGreat
open Go.RowKit
structure Ckr where
 ents:Ents
 last:Int
 proved:Bool
 adds:Int
 dels:Int
 rats:Int
 largest:Int
def ckr0:Ckr:=⟨[],0,false,0,0,0,0⟩
def Ckr.put (k:Ckr) (id:Int) (c:List Int):Ckr:=
 ⟨putA k.ents id c,id,k.proved||c.isEmpty,k.adds,k.dels,k.rats,max k.largest (putA k.ents id c).length⟩
def Ckr.putAll (k:Ckr):Nat→List (List Int)→Ckr
 | _,[]=>k
 | i,c::r=>(k.put ((i:Int)+1) c).putAll (i+1) r
def ckrNew (cs:List (List Int)):Ckr:={ (ckr0.putAll 0 cs)with last:=cs.length }
def ckNamed (es:Ents):List Int→List (List Int)
 | []=> []
 | id::r=>match getA es id with
  | some c=>c::ckNamed es r
  | none=> []
def ckFol (es:Ents) (c hs:List Int):Bool×Int×Nat:=
 if(chkP c (ckNamed es hs)).2.2=0 then(true,0,0)else
 if(chkP c (ckNamed es hs)).2.2=81 then(false,hs.getD (chkP c (ckNamed es hs)).2.1 0,81)else
 if(ckNamed es hs).length<hs.length then(false,hs.getD (ckNamed es hs).length 0,91)else(false,0,0)
def splitGo:List Int→List (Int×List Int)→List Int→List Int×List (Int×List Int)
 | out,gs,[]=>(out,gs)
 | out,gs,h::r=>if h<0 then splitGo out (gs++ [(-h,[])]) r else
  match gs.getLast? with
  | some g=>splitGo out (gs.dropLast++ [(g.1,g.2++ [h])]) r
  | none=>splitGo (out++ [h]) gs r
def splitL (hs:List Int):List Int×List (Int×List Int):=splitGo [] [] hs
def ckAdd (es:Ents) (c hs:List Int):Nat×Int×Nat:=
 if(ckFol es c (splitL hs).1).2.2≠0 then(0,(ckFol es c (splitL hs).1).2)else
 if(ckFol es c (splitL hs).1).1=true then(1,0,0)else ratP es c (splitL hs).1 (splitL hs).2
def ckDel:Ents→List Int→Ents×Int×Nat
 | es,[]=>(es,0,0)
 | es,id::r=>if(getA es id).isNone=true then(es,id,91)else ckDel (delA es id) r
def stepB (s:EStep):Bool:=
 !(decide (s.id<0)||decide (1073741824<s.id)||(!s.del&&decide (s.id=0))||(s.del&&decide (0<s.lits.length))) &&
 (clauseB s.lits&&decide (s.hints.length≤65536)&& !(s.hints.any fun h=>decide (h=0)||decide (1073741824<h)||decide (h< -1073741824)||(s.del&&decide (h<0))))
def Ckr.do_ (k:Ckr) (s:EStep):Ckr×Nat×Int×Nat:=
 if k.proved=true then(k,0,0,0)else
 if stepB s=false then(k,0,0,70)else
 if s.id<k.last∨s.id=k.last∧s.del=false then(k,0,s.id,100)else
 if s.del=true then(if(ckDel k.ents s.hints).2.2=0 then({ k with ents:=(ckDel k.ents s.hints).1,last:=s.id,dels:=k.dels+1 },0,0,0)else(k,0,(ckDel k.ents s.hints).2))else
 if(ckAdd k.ents s.lits s.hints).2.2≠0 then(k,0,(ckAdd k.ents s.lits s.hints).2)else
 ({ (k.put s.id s.lits)with adds:=k.adds+1,rats:=if(ckAdd k.ents s.lits s.hints).1=2 then k.rats+1 else k.rats },(ckAdd k.ents s.lits s.hints).1,0,0)
structure Ckr.Ok (k:Ckr) (N:Nat):Prop where
 rise:Rising k.ents
 ids: ∀p∈k.ents,1≤p.1∧p.1≤1073741824∧p.1≤k.last
 cls: ∀p∈k.ents,clauseB p.2=true
 last0:0≤k.last
 last1:k.last≤1073741824
 len:k.ents.length≤N
 prv:k.proved=k.ents.any (fun p=>p.2.isEmpty)∨k.proved=false
 adds:0≤k.adds∧k.adds≤N
 dels:0≤k.dels∧k.dels≤N
 rats:0≤k.rats∧k.rats≤N
 larg:0≤k.largest∧k.largest≤N
end Go.Proofs.YtkfgplfllddhnaaGreat
namespace Go.Proofs.YtkfgplfllddhnaaGreat
open Go.RowKit Go.Maps
theorem wp_putK_at {P:Program} {kt t et:TypeId} {w:World} {b:Nat} {m:List (Int×Value)} {o:Oper} {a:Act} {K:Act→World→Prop} {Q:Exit→Act→World→Prop} (h:MapS P kt w b m) (KK:Keyed P kt) (hk:P.underlying kt=some (.int .i64)) (ht:P.underlying t=some (.map kt et))
  (mm x v:Operand) (hop:o.op=Op.mapUpdate t mm x v) (hm:a.eval mm= .map (some b)) (hn:m.length<maxLen) (i:Int) (y:Value) (hx:a.eval x= .int .i64 i) (hv:a.eval v=y) (hi:(Lit.int .i64 i).wf=true)
  (hK: ∀w',MapS P kt w' b (putA m i y)→w.grownBy w' (some b)→K (a.put o.dst undef) w'):Oper.wp P o a w K Q:=by
 obtain⟨w',hr,h2,h3⟩:=h.update KK hk ht hn hi y
 unfold Oper.wp execOp
 simp only[hop,hm,hx,hv,Sem.run_bind,Sem.run_pure,Result.andThen_ok,hr]
 exact hK w' h2 h3
theorem map_not_cells {P:Program} {kt:TypeId} {w:World} {b g:Nat} {m:List (Int×Value)} (h:MapS P kt w b m) {cs:Array Value} {t:TypeId} {f:Nat×Nat} (hg:w.heap[g]? =some (.cells cs t f)):g≠b:=by
 rintro rfl
 obtain⟨⟨es,cl,hb,_⟩,_⟩:=h
 rw[hg]at hb
 cases hb
abbrev MapI (w:World) (b:Nat) (m:List (Int×Value)):Prop:=MapS Tryz.prog 3 w b m
structure CkMem (base:Nat) (w:World) (b mb:Nat) (k:Ckr) (K:List (Int×(Value×List Int))):Prop where
 bb:base≤b
 bm:base≤mb
 box:w.heap[b]? =some (.cells #[.map (some mb),.int .i64 k.last,.bool k.proved,.int .i64 k.adds,.int .i64 k.dels,.int .i64 k.rats,.int .i64 k.largest] 84 (0,0))
 map:MapI w mb (mapV Prod.fst K)
 ents:k.ents=mapV Prod.snd K
 row: ∀p∈K,w.ownsRow base 58 1 p.2.1 p.2.2.length (p.2.2.map (Value.int .i64))
def CkAt (base:Nat) (w:World) (b:Nat) (k:Ckr):Prop:= ∃mb K,CkMem base w b mb k K
section
variable {base:Nat} {w w':World} {b mb:Nat} {k:Ckr} {K:List (Int×(Value×List Int))}
theorem CkMem.kept {O:Nat→Prop} (h:CkMem base w b mb k K) (q:Kept O w w') (hO: ∀g,base≤g→¬O g):CkMem base w' b mb k K where
 bb:=h.bb
 bm:=h.bm
 box:=(q.block b (heap_lt h.box) (hO b h.bb)).trans h.box
 map:=h.map.kept q (hO mb h.bm)
 ents:=h.ents
 row:=fun p hp=>own_kept (h.row p hp) q (fun g hg=>hO g (own_lt (h.row p hp) g hg).1)
theorem CkMem.below (h:CkMem base w b mb k K) (q:Below w.heap.size w w'):CkMem base w' b mb k K:=
 h.kept (O:=fun _=>False) (Kept.of_below q) (fun _ _ h=>h)
theorem CkAt.below (h:CkAt base w b k) (q:Below w.heap.size w w'):CkAt base w' b k:=by
 obtain⟨mb,K,h⟩:=h
 exact⟨mb,K,h.below q⟩
theorem CkMem.ne (h:CkMem base w b mb k K):b≠mb:=map_not_cells h.map h.box
theorem CkMem.notMap (h:CkMem base w b mb k K) {n0 size n:Nat} {e:TypeId} {v:Value} {xs:List Value} (hr:w.ownsRow n0 e size v n xs) {g:Nat} (hg:v.ownBlock=some g):g≠mb:=by
 obtain⟨c,hc⟩:=own_type hr g hg
 exact map_not_cells h.map hc
theorem CkMem.rowIn (h:CkMem base w b mb k K) {p:Int×(Value×List Int)} (hp:p∈K):IntsIn (fun g=>base≤g∧g≠b∧g≠mb) w p.2.1 p.2.2:=
 (IntsIn.of_own (h.row p hp)).mono fun g hg=>⟨hg.1,fun e=>mx_not (h.row p hp) h.box (by decide) (by rw[←e];exact hg.2),h.notMap (h.row p hp) hg.2⟩
theorem CkMem.grown (h:CkMem base w b mb k K) {v:Value} {n0 size n:Nat} {e:TypeId} {xs:List Value} (hr:w.ownsRow n0 e size v n xs) (he:58≠e) (hc:84≠e) (hg:w.grownBy w' v.ownBlock):CkMem base w' b mb k K where
 bb:=h.bb
 bm:=h.bm
 box:=(hg.block b (heap_lt h.box) (fun e2=>mx_not hr h.box hc e2.symm)).trans h.box
 map:=h.map.kept (Kept.grown hg) (fun e2=>h.notMap hr e2.symm rfl)
 ents:=h.ents
 row:=fun p hp=>own_kept (h.row p hp) (Kept.grown hg) (fun _ h1 h2=>mx_apart (h.row p hp) hr he h1 h2.symm)
theorem CkMem.cells (h:CkMem base w b mb k K):w.cell? ⟨b,0,none⟩=some (.map (some mb))∧w.cell? ⟨b,1,none⟩=some (.int .i64 k.last)∧w.cell? ⟨b,2,none⟩=some (.bool k.proved)∧w.cell? ⟨b,3,none⟩=some (.int .i64 k.adds)∧w.cell? ⟨b,4,none⟩=some (.int .i64 k.dels)∧w.cell? ⟨b,5,none⟩=some (.int .i64 k.rats)∧w.cell? ⟨b,6,none⟩=some (.int .i64 k.largest):=
 ⟨mx_cell (j:=0) h.box,mx_cell (j:=1) h.box,mx_cell (j:=2) h.box,mx_cell (j:=3) h.box,mx_cell (j:=4) h.box,mx_cell (j:=5) h.box,mx_cell (j:=6) h.box⟩
theorem CkMem.free (h:CkMem base w b mb k K) (j:Nat):w.frozen? ⟨b,j,none⟩=false:=by
 simp[World.frozen?,h.box]
theorem CkMem.len (h:CkMem base w b mb k K):K.length=k.ents.length:=by rw[h.ents,mapV_length]
theorem CkMem.rise (h:CkMem base w b mb k K):Rising K:=mapV_rising_of h.map.2.1
theorem CkMem.get (h:CkMem base w b mb k K) (id:Int):getA k.ents id=(getA K id).map Prod.snd:=by rw[h.ents,mapV_get]
theorem CkMem.look (h:CkMem base w b mb k K) {id:Int} (hid:(Lit.int .i64 id).wf=true) (c:Bool):(Instr.lookup 82 (.map (some mb)) (.int .i64 id) c).run Tryz.prog w= .ok (if c then .tuple #[((getA K id).map Prod.fst).getD (.slice none 0 0),.bool (getA K id).isSome]else((getA K id).map Prod.fst).getD (.slice none 0 0)) w:=by
 have:=h.map.look int_law Tryz.underlying3 Tryz.underlying82 (z:=.slice none 0 0) (by kernel_rfl) c hid
 rw[mapV_get,Option.isSome_map]at this
 exact this
theorem CkMem.set (h:CkMem base w b mb k K) {k':Ckr} {j:Nat} {v:Value} (hb:(w.setCell ⟨b,j,none⟩ v).heap[b]? =some (.cells #[.map (some mb),.int .i64 k'.last,.bool k'.proved,.int .i64 k'.adds,.int .i64 k'.dels,.int .i64 k'.rats,.int .i64 k'.largest] 84 (0,0))) (he:k'.ents=k.ents):CkMem base (w.setCell ⟨b,j,none⟩ v) b mb k' K:=by
 have hk:Kept (fun g=>g=b) w (w.setCell ⟨b,j,none⟩ v):=(Kept.refl (fun g=>g=b) w).setCell ⟨b,j,none⟩ v rfl
 exact {
  bb:=h.bb
  bm:=h.bm
  box:=hb
  map:=h.map.kept hk (fun e=>h.ne e.symm)
  ents:=by rw[he];exact h.ents
  row:=fun p hp=>own_kept (h.row p hp) hk (fun _ hg e=>mx_not (h.row p hp) h.box (by decide) (by rw[←e];exact hg)) }
theorem CkMem.setBelow (h:CkMem base w b mb k K) (j:Nat) (v:Value) (hb:base≤w.heap.size):Below base w (w.setCell ⟨b,j,none⟩ v):=
 ((Kept.refl (fun g=>g=b) w).setCell ⟨b,j,none⟩ v rfl).below (fun i e=>by rw[e];exact h.bb) hb
end
set_option maxHeartbeats 400000 in
theorem ck_proved {base:Nat} (b:Nat) (k:Ckr) (w:World) (h:CkAt base w b k):
  Calls Tryz.prog 23 #[.pointer (some ⟨b,0,none⟩)] w fun e w'=>e= .returned (.bool k.proved)∧w=w':=by
 obtain⟨mb,K,h⟩:=h
 obtain⟨-,-,c2,-⟩:=h.cells
 clear h
 go_enter Tryz.func23,Tryz.ntmps23
 go_wp2
 go_ret
 exact⟨rfl,rfl⟩
set_option maxHeartbeats 400000 in
theorem ck_last {base:Nat} (b:Nat) (k:Ckr) (w:World) (h:CkAt base w b k):
  Calls Tryz.prog 14 #[.pointer (some ⟨b,0,none⟩)] w fun e w'=>e= .returned (.int .i64 k.last)∧w=w':=by
 obtain⟨mb,K,h⟩:=h
 obtain⟨-,c1,-⟩:=h.cells
 clear h
 go_enter Tryz.func14,Tryz.ntmps14
 go_wp2
 go_ret
 exact⟨rfl,rfl⟩
def CkF (b:Nat) (w w':World):Prop:=Kept (fun g=>g=b∨∃o:Obj,w.heap[g]? =some o∧o.isCells=false) w w'
theorem CkF.of_below {b:Nat} {w w':World} (h:Below w.heap.size w w'):CkF b w w':=Kept.of_below h
theorem CkF.trans {b:Nat} {x y z:World} (h:CkF b x y) (k:CkF b y z):CkF b x z:=Kept.trans h k fun i hi ho=>by
 refine Classical.byContradiction fun hn=>?_
 rcases ho with ho|⟨o,h1,h2⟩
 ·exact hn (.inl ho)
 ·exact hn (.inr ⟨o,(h.block i hi hn).symm.trans h1,h2⟩)
theorem CkF.set (b:Nat) (w:World) (j:Nat) (v:Value):CkF b w (w.setCell ⟨b,j,none⟩ v):=((Kept.refl (fun g=>g=b) w).setCell ⟨b,j,none⟩ v rfl).mono fun _ _ e=>.inl e
theorem CkF.box {b:Nat} {w w':World} (h:Kept (fun g=>g=b) w w'):CkF b w w':=h.mono fun _ _ e=>.inl e
theorem CkF.map {b mb:Nat} {w w':World} {m:List (Int×Value)} (hm:MapI w mb m) (h:w.grownBy w' (some mb)):CkF b w w':=(Kept.grown h).mono fun i _ e=>by
 obtain⟨⟨es,cl,hb,_⟩,_⟩:=hm
 cases e
 exact .inr ⟨_,hb,rfl⟩
def Ckr.rep (k:Ckr):Value:=.agg #[.bool k.proved,.int .i64 k.adds,.int .i64 k.dels,.int .i64 k.rats,.int .i64 k.largest]
end Go.Proofs.YtkfgplfllddhnaaGreat
