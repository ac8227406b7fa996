/- Plain: what two clauses are resolved to follows from both, in two steps. Plain: a checker whose entries are numbered in order; steps that resolve two clauses are done. Plain: what the reference's checker does is what the program's does. Plain: whole proofs: what Check and Trim do; steps that follow by their hints. Plain: the reference's Trim: which hints, which steps are needed. Plain: reference 08: follow, Check, Trim. -/
import Derived.Test.YtajbmjpodeilpaaGreatDoorV221
import Derived.Test.YtajbmjpodeilpaaGreatDoorV220
import Derived.Test.YtajbmjpodeilpaaGreatDoorV224
namespace Go.Proofs.YtajbmjpodeilpaaGreatDoor
open Go.RowKit
def clashL (c:List Int):Bool:=c.any fun l=>c.contains (-l)
structure ResO (a b c:List Int) (l:Int):Prop where
 la:l∈a
 lb: -l∈b
 na: ∀y∈a,-y∉a
 nb: ∀y∈b,-y∉b
 nc: ∀y∈c,-y∉c
 mem: ∀y,y∈c↔(y∈a∨y∈b)∧y≠l∧y≠ -l
section
variable {a b c:List Int} {l:Int}
end
end Go.Proofs.YtajbmjpodeilpaaGreatDoor
namespace Go.Proofs.YtajbmjpodeilpaaGreatDoor
open Go.RowKit
def entsFrom:Nat→List (List Int)→Ents
 | _,[]=> []
 | i,c::r=>((i:Int)+1,c)::entsFrom (i+1) r
theorem entsFrom_mem: ∀{cs:List (List Int)} {i:Nat} {p:Int×List Int},p∈entsFrom i cs↔∃(j:Nat),cs[j]? =some p.2∧p.1=((i+j:Nat):Int)+1:=by
 intro cs
 induction cs with
 | nil=>intro i p;simp[entsFrom]
 | cons c r ih=>
  intro i p
  show p∈((i:Int)+1,c)::entsFrom (i+1) r↔_
  rw[List.mem_cons,ih]
  constructor
  ·rintro (e|⟨j,h1,h2⟩)
   ·exact⟨0,by rw[e];rfl,by rw[e];rfl⟩
   ·exact⟨j+1,h1,by rw[h2,show i+1+j=i+(j+1) by omega]⟩
  ·rintro ⟨j,h1,h2⟩
   cases j with
   | zero=>
    left
    obtain⟨a,b⟩:=p
    obtain rfl:=Option.some.inj h1
    exact Prod.ext h2 rfl
   | succ j=>exact .inr ⟨j,h1,by rw[h2,show i+1+j=i+(j+1) by omega]⟩
theorem entsFrom_rise: ∀(cs:List (List Int)) (i:Nat),Rising (entsFrom i cs):=by
 intro cs
 induction cs with
 | nil=>exact fun _=>List.Pairwise.nil
 | cons c r ih=>
  intro i
  refine List.pairwise_cons.2 ⟨fun p hp=>?_,ih (i+1)⟩
  obtain⟨j,_,h2⟩:=entsFrom_mem.1 hp
  show(i:Int)+1<p.1
  omega
theorem entsFrom_len: ∀(cs:List (List Int)) (i:Nat),(entsFrom i cs).length=cs.length:=by
 intro cs
 induction cs with
 | nil=>exact fun _=>rfl
 | cons c r ih=>exact fun i=>congrArg (· +1) (ih (i+1))
theorem insA_last {es:Ents} {x:Int} {v:List Int} (h: ∀p∈es,p.1<x):insA (x,v) es=es++ [(x,v)]:=by
 induction es with
 | nil=>rfl
 | cons y r ih=>
  unfold insA
  have h1:=h y List.mem_cons_self
  rw[if_neg (by show¬x<y.1;omega),ih (fun p hp=>h p (List.mem_cons_of_mem _ hp))]
  rfl
theorem delA_none {es:Ents} {x:Int} (h: ∀p∈es,p.1≠x):delA es x=es:=by
 unfold delA
 rw[List.filter_eq_self]
 exact fun p hp=>decide_eq_true (h p hp)
theorem putA_last {es:Ents} {x:Int} {v:List Int} (h: ∀p∈es,p.1<x):putA es x v=es++ [(x,v)]:=by
 unfold putA
 rw[delA_none (fun p hp=>by have:=h p hp;omega),insA_last h]
theorem entsFrom_snoc: ∀(cs:List (List Int)) (i:Nat) (c:List Int),entsFrom i cs++ [(((i+cs.length:Nat):Int)+1,c)]=entsFrom i (cs++ [c]):=by
 intro cs
 induction cs with
 | nil=>exact fun i c=>rfl
 | cons d r ih=>
  intro i c
  show((i:Int)+1,d)::(entsFrom (i+1) r++_)=((i:Int)+1,d)::entsFrom (i+1) (r++ [c])
  rw[←ih (i+1) c,show i+(d::r).length=i+1+r.length by rw[List.length_cons];omega]
theorem entsFrom_put (cs:List (List Int)) (c:List Int):putA (entsFrom 0 cs) ((cs.length:Int)+1) c=entsFrom 0 (cs++ [c]):=by
 rw[putA_last (fun p hp=>by
  obtain⟨j,h1,h2⟩:=entsFrom_mem.1 hp
  have:=(List.getElem?_eq_some_iff.1 h1).1
  omega),←entsFrom_snoc,Nat.zero_add]
theorem entsFrom_any (cs:List (List Int)): ∀i,(entsFrom i cs).any (fun p=>p.2.isEmpty)=cs.any List.isEmpty:=by
 induction cs with
 | nil=>exact fun _=>rfl
 | cons c r ih=>
  intro i
  show(c.isEmpty||(entsFrom (i+1) r).any _)=(c.isEmpty||r.any List.isEmpty)
  rw[ih]
def ckrOf (all:List (List Int)) (j:Nat):Ckr:=⟨entsFrom 0 all,all.length,all.any List.isEmpty,j,0,0,all.length⟩
theorem ckrOf_put (all:List (List Int)) (j:Nat) (c:List Int):(ckrOf all j).put ((all.length:Int)+1) c=ckrOf (all++ [c]) j:=by
 unfold Ckr.put ckrOf
 simp only[entsFrom_put,entsFrom_len,List.any_append,List.any_cons,List.any_nil,Bool.or_false,List.length_append,List.length_singleton]
 congr 1
 ·omega
theorem putAll_of: ∀(r all:List (List Int)),(ckrOf all 0).putAll all.length r=ckrOf (all++r) 0:=by
 intro r
 induction r with
 | nil=>intro all;rw[List.append_nil];rfl
 | cons c r ih=>
  intro all
  show((ckrOf all 0).put ((all.length:Int)+1) c).putAll (all.length+1) r=_
  have:=ih (all++ [c])
  rw[List.length_append,List.length_singleton,List.append_assoc]at this
  rw[ckrOf_put,this]
  rfl
theorem ckrNew_of (cs:List (List Int)):ckrNew cs=ckrOf cs 0:=by
 unfold ckrNew
 have:=putAll_of cs []
 rw[List.nil_append]at this
 have e:ckrOf [] 0=ckr0:=rfl
 rw[e]at this
 rw[show(ckr0.putAll 0 cs)=ckrOf cs 0 from this]
 rfl
theorem ckrOf_ok {all:List (List Int)} {j:Nat} (h: ∀c∈all,clauseB c=true) (hl:all.length≤1000) (hj:j≤1000):(ckrOf all j).Ok 1000 where
 rise:=entsFrom_rise all 0
 ids:=fun p hp=>by
  obtain⟨i,h1,h2⟩:=entsFrom_mem.1 hp
  have:=(List.getElem?_eq_some_iff.1 h1).1
  show 1≤p.1∧p.1≤1073741824∧p.1≤(all.length:Int)
  omega
 cls:=fun p hp=>by
  obtain⟨i,h1,h2⟩:=entsFrom_mem.1 hp
  exact h _ (List.mem_of_getElem? h1)
 last0:=Int.natCast_nonneg _
 last1:=by show(all.length:Int)≤_;omega
 len:=by show(entsFrom 0 all).length≤_;rw[entsFrom_len];exact hl
 prv:=.inl (entsFrom_any all 0).symm
 adds:=⟨Int.natCast_nonneg _,by show(j:Int)≤_;omega⟩
 dels:=⟨Int.le_refl _,by show(0:Int)≤_;omega⟩
 rats:=⟨Int.le_refl _,by show(0:Int)≤_;omega⟩
 larg:=⟨Int.natCast_nonneg _,by show(all.length:Int)≤_;omega⟩
theorem splitGo_pos: ∀(hs out:List Int),(∀h∈hs,0<h)→splitGo out [] hs=(out++hs,[]):=by
 intro hs
 induction hs with
 | nil=>intro out _;rw[List.append_nil];rfl
 | cons h r ih=>
  intro out hp
  have h0:=hp h List.mem_cons_self
  unfold splitGo
  rw[if_neg (by omega)]
  show splitGo (out++ [h]) [] r=_
  rw[ih _ (fun x hx=>hp x (List.mem_cons_of_mem _ hx)),List.append_assoc]
  rfl
theorem split_pos {hs:List Int} (h: ∀x∈hs,0<x):splitL hs=(hs,[]):=by
 unfold splitL
 rw[splitGo_pos hs [] h,List.nil_append]
def joinGo (l:Int):List Int→List Int→List Int
 | out,[]=>out
 | out,x::r=>joinGo l (if x≠l∧x≠ -l∧out.contains x=false then out++ [x]else out) r
def joinL (a b:List Int) (l:Int):List Int:=sortI (joinGo l [] (a++b))
def Lit6 (c:List Int):Prop:=c.length≤13∧∀y∈c,litB y=true∧litV y<7
theorem Lit6.clause {c:List Int} (h:Lit6 c):clauseB c=true:=by
 unfold clauseB
 rw[Bool.and_eq_true,decide_eq_true_eq,List.all_eq_true]
 exact⟨by have:=h.1;omega,fun y hy=>(h.2 y hy).1⟩
def resPick (a b:List Int):Option Int:=a.find? fun l=>b.contains (-l)&& !clashL a&& !clashL b
def resNew (all:List (List Int)) (i k:Nat):Option (List Int):=match resPick (all.getD i []) (all.getD k [])with
 | none=>none
 | some l=>if(clashL (joinL (all.getD i []) (all.getD k []) l)||all.contains (joinL (all.getD i []) (all.getD k []) l))=true then none else some (joinL (all.getD i []) (all.getD k []) l)
def resGo (most:Nat):Nat→List Int→List (List Int)→List EStep→List EStep
 | _,[],_,out=>out
 | n,o::r,all,out=>if out.length<most∧0<all.length then
   (match resNew all (o.toNat%all.length) ((o.toNat/7+n)%all.length)with
    | none=>resGo most (n+1) r all out
    | some c=>resGo most (n+1) r (all++ [c]) (out++ [⟨false,(all.length:Int)+1,c,[((o.toNat%all.length:Nat):Int)+1,(((o.toNat/7+n)%all.length:Nat):Int)+1]⟩]))
  else out
def resL (cs:List (List Int)) (order:List Int) (most:Nat):List EStep:=resGo most 0 order cs []
def ResSteps (cs:List (List Int)) (l:List EStep):Prop:= ∀(j:Nat) (s:EStep),l[j]? =some s→∃(i k:Nat) (a b:List Int) (x:Int),
 s.del=false∧s.id=((cs.length+j:Nat):Int)+1∧s.hints= [(i:Int)+1,(k:Int)+1]∧i<cs.length+j∧k<cs.length+j∧(cs++l.map EStep.lits)[i]? =some a∧(cs++l.map EStep.lits)[k]? =some b∧ResO a b s.lits x∧s.lits∉cs++(l.take j).map EStep.lits∧Lit6 s.lits
end Go.Proofs.YtajbmjpodeilpaaGreatDoor
namespace Go.Proofs.YtajbmjpodeilpaaGreatDoor
open Go.RowKit
theorem asg_pos: ∀(xs:List Int) (f g:Int→Int),asgGo f xs=some g→∀y,litB y=true→(0<ofF g y↔y∈xs∨0<ofF f y)
 | [],f,g,h,y,_=>by
  obtain rfl:=Option.some.inj h
  simp
 | x::r,f,g,h,y,hy=>by
  unfold asgGo at h
  split at h
  ·rename_i hc
   rw[asg_pos r _ g h y hy,List.mem_cons]
   by_cases e:litV y=litV x
   ·rcases litV_two hc.1 e.symm with h1|h1
    ·subst h1
     rw[k_put_self]
     exact⟨fun _=>.inl (.inl rfl),fun _=>.inr (by decide)⟩
    ·subst h1
     rw[k_put_neg f hc.1,ofF_minus f hc.1]
     have h3:=hc.2
     have hne: -x≠x:=by have:=litB_ne hc.1;omega
     exact⟨fun h2=>h2.elim (fun h2=>.inl (.inr h2)) (fun h2=>by omega),fun h2=>h2.elim (fun h2=>h2.elim (fun h2=>absurd h2 hne) .inl) (fun h2=>by omega)⟩
   ·rw[k_put_ne f e]
    have hne:y≠x:=fun h=>e (by rw[h])
    exact⟨fun h2=>h2.elim (fun h2=>.inl (.inr h2)) .inr,fun h2=>h2.elim (fun h2=>h2.elim (fun h2=>absurd h2 hne) .inl) .inr⟩
  ·cases h
theorem ofF_zero (y:Int):ofF (fun _=>0) y=0:=by unfold ofF;split <;> rfl
theorem asgF_says {xs:List Int} {f:Int→Int} (h:asgF xs=some f):Says f (fun y=>y∈xs):=by
 have key: ∀y,litB y=true→(0<ofF f y↔y∈xs):=fun y hy=>by
  rw[asg_pos xs _ f h y hy,ofF_zero]
  exact⟨fun h=>h.resolve_right (by decide),.inl⟩
 refine fun y hy=>⟨key y hy,?_⟩
 show ofF f y<0↔ -y∈xs
 rw[←key (-y) (by rw[litB_minus];exact hy),ofF_minus f hy]
 omega
theorem Says.same {f:Int→Int} {P Q:Int→Prop} (h:Says f P) (hpq: ∀y,P y↔Q y):Says f Q:=fun y hy=>⟨(h y hy).1.trans (hpq y),(h y hy).2.trans (hpq (-y))⟩
def frOk (k:Nat) (u:Int) (fr:List Int):Prop:=(fr= []∧k=2∧u=0)∨(fr= [u]∧k=3∧u≠0)∨(2≤fr.length∧k=4∧u≠0)
theorem rLook_go {f:Int→Int} {all:List Int} (hs:Says f (fun y=>y∈all)): ∀(c fr:List Int) (k:Nat) (u:Int),(∀y∈c,litB y=true)→frOk k u fr→rLook all c fr=lukGo f k u c
 | [],fr,k,u,_,h=>by
  unfold rLook lukGo
  rcases h with⟨rfl,rfl,rfl⟩|⟨rfl,rfl,h⟩|⟨h1,rfl,h⟩
  ·rfl
  ·rfl
  ·rw[if_neg (by omega),if_neg (by omega)]
   rfl
 | x::r,fr,k,u,hl,h=>by
  have hx:=hl x List.mem_cons_self
  have hr: ∀y∈r,litB y=true:=fun y hy=>hl y (List.mem_cons_of_mem _ hy)
  have hx0:=litB_ne hx
  obtain⟨s1,s2⟩:=hs x hx
  rw[luk_cons,rLook]
  by_cases h1:x∈all
  ·rw[if_pos (List.contains_iff_mem.2 h1),if_pos (s1.2 h1)]
  ·rw[if_neg (fun e=>h1 (List.contains_iff_mem.1 e)),if_neg (fun e=>h1 (s1.1 e))]
   by_cases h2: -x∈all
   ·rw[if_neg (fun e=>by rw[List.contains_iff_mem.2 h2]at e;cases e.1),if_pos (.inl (s2.2 h2))]
    exact rLook_go hs r fr k u hr h
   ·have h3:all.contains (-x)=false:=Bool.eq_false_iff.2 fun e=>h2 (List.contains_iff_mem.1 e)
    have h4: ¬ofF f x<0:=fun e=>h2 (s2.1 e)
    rcases h with⟨rfl,rfl,rfl⟩|⟨rfl,rfl,h⟩|⟨h5,rfl,h⟩
    ·rw[if_pos ⟨h3,rfl⟩,if_neg (by omega),if_pos rfl]
     exact rLook_go hs r [x] 3 x hr (.inr (.inl ⟨rfl,rfl,hx0⟩))
    ·by_cases h6:x=u
     ·rw[if_neg (fun e=>by have:=e.2;rw[h6]at this;simp at this),if_pos (.inr h6)]
      exact rLook_go hs r [u] 3 u hr (.inr (.inl ⟨rfl,rfl,h⟩))
     ·rw[if_pos ⟨h3,by simpa using h6⟩,if_neg (by omega),if_neg h]
      exact rLook_go hs r ([u]++ [x]) 4 u hr (.inr (.inr ⟨by simp,rfl,h⟩))
    ·have h7:(if ofF f x<0∨x=u then lukGo f 4 u r else if u=0 then lukGo f 3 x r else lukGo f 4 u r)=lukGo f 4 u r:=by
      split
      ·rfl
      ·first|rfl|rw[if_neg h]
     rw[h7]
     split
     ·exact rLook_go hs r _ 4 u hr (.inr (.inr ⟨by rw[List.length_append];omega,rfl,h⟩))
     ·exact rLook_go hs r _ 4 u hr (.inr (.inr ⟨h5,rfl,h⟩))
theorem rLook_eq {f:Int→Int} {asg all c:List Int} (h:asgF asg=some f) (hm: ∀y,y∈asg↔y∈all) (hc: ∀y∈c,litB y=true):rLook all c []=lookF f c:=
 rLook_go ((asgF_says h).same hm) c [] 2 0 hc (.inl ⟨rfl,rfl,rfl⟩)
section
variable {es:Ents}
theorem rFol_eq (hb: ∀x∈es,clauseB x.2=true): ∀(hs asg all:List Int) (f:Int→Int),asgF asg=some f→(∀y,y∈asg↔y∈all)→(rFol es all hs).2=(ratFol es asg hs).2∧((ratFol es asg hs).2.2.2=0→∀y,y∈(ratFol es asg hs).1↔y∈(rFol es all hs).1)
 | [],asg,all,f,_,hm=>⟨rfl,fun _=>hm⟩
 | id::r,asg,all,f,hf,hm=>by
  rw[rFol,ratFol]
  cases hg:getA es id with
  | none=>exact⟨rfl,fun h=>by cases h⟩
  | some c=>
   have hc:=hb _ (getA_some hg)
   have hcl: ∀y∈c,litB y=true:=fun y hy=>clauseB_lit hc hy
   simp only[hf]
   rw[rLook_eq hf hm hcl]
   by_cases h2:(lookF f c).1=2
   ·rw[if_pos h2,if_pos h2]
    exact⟨rfl,fun _=>hm⟩
   ·rw[if_neg h2,if_neg h2]
    by_cases h3:(lookF f c).1=3
    ·rw[if_pos h3,if_pos h3]
     obtain⟨h4,h5⟩:=lookF_unit (show lookF f c=(3,(lookF f c).2)from Prod.ext h3 rfl)
     refine rFol_eq hb r _ _ _ (asgF_snoc hf (hcl _ h4) h5) fun y=>?_
     rw[List.mem_append,List.mem_append,hm y]
    ·rw[if_neg h3,if_neg h3]
     exact⟨rfl,fun h=>by cases h⟩
theorem asmL_mem {c:List Int} (hc:clauseB c=true) (y:Int):y∈asmL c↔ -y∈c:=by
 have hr: ∀x∈c,litB x=true:=fun x hx=>clauseB_lit hc hx
 unfold asmL
 rw[sortL_mem,List.mem_map]
 constructor
 ·rintro ⟨z,hz,rfl⟩
  have hz:=(normL_has hr).1 hz
  rw[litN_eq (hr z hz),Int.neg_neg]
  exact hz
 ·intro h
  exact⟨-y,(normL_has hr).2 h,by rw[litN_eq (hr _ h),Int.neg_neg]⟩
theorem alwR_eq {c:List Int} (hc:clauseB c=true):alwR c=alwL c:=by
 cases hl:alwL c with
 | true=>
  obtain⟨y,h1,h2⟩:=alwL_two hl
  exact List.any_eq_true.2 ⟨y,h1,List.contains_iff_mem.2 h2⟩
 | false=>
  obtain⟨f,hf⟩:=asm_some hc hl
  have hs:=asgF_says hf
  refine Bool.eq_false_iff.2 fun h=>?_
  obtain⟨y,h1,h2⟩:=List.any_eq_true.1 h
  have h2:=List.contains_iff_mem.1 h2
  obtain⟨a,b⟩:=hs y (clauseB_lit hc h1)
  have h3:=a.2 ((asmL_mem hc y).2 h2)
  have h4:=b.2 ((asmL_mem hc (-y)).2 (by rw[Int.neg_neg];exact h1))
  omega
theorem rCand_eq (hb: ∀x∈es,clauseB x.2=true) {p:Int} (hp:litB p=true):rCand p es=ratWant es p:=by
 unfold rCand ratWant
 congr 1
 refine List.filter_congr fun x hx=>?_
 unfold candB
 rw[litN_eq hp,alwR_eq (hb x hx)]
theorem rOpen_eq {p:Int} (hp:litB p=true) {asg all:List Int} (hm: ∀y,y∈asg↔y∈all): ∀(c out al:List Int),(∀y∈c,litB y=true)→(∀y,y∈asg++out↔y∈al)→(rOpen all p al c).2=(restGo p asg out c).2∧((restGo p asg out c).2=true→∀y,y∈asg++(restGo p asg out c).1↔y∈(rOpen all p al c).1)
 | [],out,al,_,ho=>⟨rfl,fun _=>ho⟩
 | x::r,out,al,hl,ho=>by
  have hx:=hl x List.mem_cons_self
  have hr: ∀y∈r,litB y=true:=fun y hy=>hl y (List.mem_cons_of_mem _ hy)
  rw[rOpen,restGo,litN_eq hp]
  by_cases h1:x= -p
  ·rw[if_pos h1,if_pos h1]
   exact rOpen_eq hp hm r out al hr ho
  ·rw[if_neg h1,if_neg h1]
   by_cases h2:x∈asg
   ·rw[if_pos (List.contains_iff_mem.2 ((hm x).1 h2)),if_pos (List.contains_iff_mem.2 h2)]
    exact⟨rfl,fun h=>by cases h⟩
   ·rw[if_neg (fun e=>h2 ((hm x).2 (List.contains_iff_mem.1 e))),if_neg (fun e=>h2 (List.contains_iff_mem.1 e)),litN_eq hx]
    refine rOpen_eq hp hm r _ _ hr fun y=>?_
    rw[←List.append_assoc,List.mem_append,List.mem_append (s:=al),ho y]
theorem rLoop_eq (hb: ∀x∈es,clauseB x.2=true) {p:Int} (hp:litB p=true) {asg all:List Int} {f:Int→Int} (hf:asgF asg=some f) (hm: ∀y,y∈asg↔y∈all): ∀(gs:List (Int×List Int)),(∀g∈gs,∃c,getA es g.1=some c∧candB p c=true)→
  ratLoop es p asg gs=(rLoop es p all gs).getD (0,0)∧∀x,rLoop es p all gs=some x→x.2≠0
 | [],_=>⟨rfl,fun x h=>by cases h⟩
 | g::r,hg=>by
  obtain⟨c,h1,h2⟩:=hg g List.mem_cons_self
  have ih:=rLoop_eq hb hp hf hm r fun g hg'=>hg g (List.mem_cons_of_mem _ hg')
  have hc:=hb _ (getA_some h1)
  have hcl: ∀y∈c,litB y=true:=fun y hy=>clauseB_lit hc hy
  have hal:alwL c=false:=by
   unfold candB at h2
   rw[Bool.and_eq_true,Bool.not_eq_true']at h2
   exact h2.2
  obtain⟨o1,o2⟩:=rOpen_eq hp hm c [] all hcl (fun y=>by rw[List.append_nil];exact hm y)
  rw[ratLoop,rLoop,h1,Option.getD_some,o1]
  by_cases h3:(restGo p asg [] c).2=false
  ·rw[if_pos h3,if_pos h3]
   exact ih
  ·rw[if_neg h3,if_neg h3]
   have h3':(restGo p asg [] c).2=true:=by simpa using h3
   obtain⟨g',hg'⟩:=rest_asg hf hc hal h3'
   obtain⟨q1,q2⟩:=rFol_eq hb g.2 _ _ g' hg' (o2 h3')
   rw[q1]
   by_cases h4:(ratFol es (asg++(restGo p asg [] c).1) g.2).2.2.2≠0
   ·rw[if_pos h4,if_pos h4]
    exact⟨rfl,fun x hx=>by rw[←Option.some.inj hx];exact h4⟩
   ·rw[if_neg h4,if_neg h4]
    by_cases h5:(ratFol es (asg++(restGo p asg [] c).1) g.2).2.1=false
    ·rw[if_pos h5,if_pos h5]
     exact⟨rfl,fun x hx=>by rw[←Option.some.inj hx];show(93:Nat)≠0;decide⟩
    ·rw[if_neg h5,if_neg h5]
     exact ih
theorem rIds_eq {want:List Int} (hw: ∀x∈want,1≤x): ∀(gs:List (Int×List Int)) (q:Option Int) (last:Int),(q=none∧last=0)∨q=some last→
  ratIds want last (gs.map Prod.fst)=((rIdsGo want q gs).map fun x=>(x,92)).getD (0,0)
 | [],q,last,_=>rfl
 | g::r,q,last,h=>by
  rw[List.map_cons,ratIds,rIdsGo]
  by_cases h1:g.1∈want
  ·have h1':want.contains g.1=true:=List.contains_iff_mem.2 h1
   have h2:=hw _ h1
   have h3:(want.contains g.1=false∨g.1≤last)↔(want.contains g.1=false∨notUp q g.1=true):=by
    rw[h1']
    rcases h with⟨rfl,rfl⟩|rfl
    ·exact⟨fun h=>h.elim (fun h=>by cases h) (fun h=>by omega),fun h=>h.elim (fun h=>by cases h) (fun h=>by cases h)⟩
    ·exact⟨fun h=>h.elim .inl (fun h=>.inr (decide_eq_true h)),fun h=>h.elim .inl (fun h=>.inr (of_decide_eq_true h))⟩
   by_cases h4:want.contains g.1=false∨g.1≤last
   ·rw[if_pos h4,if_pos (h3.1 h4)]
    rfl
   ·rw[if_neg h4,if_neg (fun e=>h4 (h3.2 e))]
    exact rIds_eq hw r _ _ (.inr rfl)
  ·have h1':want.contains g.1=false:=Bool.eq_false_iff.2 fun e=>h1 (List.contains_iff_mem.1 e)
   rw[if_pos (.inl h1'),if_pos (.inl h1')]
   rfl
theorem rFst_eq (gs:List (Int×List Int)) (want:List Int):rFst gs want=want.find? fun id=> !(gs.map Prod.fst).contains id:=by
 unfold rFst
 congr 1
 funext id
 congr 1
 induction gs with
 | nil=>rfl
 | cons g r ih=>
  rw[List.any_cons,ih,List.map_cons,List.contains_cons]
  congr 1
  exact Bool.eq_iff_iff.2 ⟨fun h=>beq_iff_eq.2 (beq_iff_eq.1 h).symm,fun h=>beq_iff_eq.2 (beq_iff_eq.1 h).symm⟩
theorem rChk_eq (hr:Rising es) (hb: ∀x∈es,clauseB x.2=true) (hi: ∀x∈es,1≤x.1) {c out:List Int} (hc:clauseB c=true) (hout:alwR c=false→∀y,y∈out↔ -y∈c) (hs:List Int) (gs:List (Int×List Int)):rChk es out c hs gs=ratP es c hs gs:=by
 unfold rChk ratP
 rw[alwR_eq hc]
 by_cases hal:alwL c=true
 ·rw[if_pos hal,if_pos hal]
 ·rw[if_neg hal,if_neg hal]
  have hal:alwL c=false:=by simpa using hal
  have hm: ∀y,y∈asmL c↔y∈out:=fun y=>by rw[asmL_mem hc,hout (by rw[alwR_eq hc,hal])]
  obtain⟨f,hf⟩:=asm_some hc hal
  obtain⟨q1,q2⟩:=rFol_eq hb hs _ _ f hf hm
  rw[q1]
  by_cases h4:(ratFol es (asmL c) hs).2.2.2≠0
  ·rw[if_pos h4,if_pos h4]
  ·rw[if_neg h4,if_neg h4]
   have h4:(ratFol es (asmL c) hs).2.2.2=0:=by simpa using h4
   by_cases h5:(ratFol es (asmL c) hs).2.1=true
   ·rw[if_pos h5,if_pos h5]
   ·rw[if_neg h5,if_neg h5]
    cases c with
    | nil=>rfl
    | cons p r=>
     have hp:litB p=true:=clauseB_lit hc List.mem_cons_self
     obtain⟨⟨g,hg⟩,_⟩:=ratFol_asg hb hs _ f hf h4
     simp only
     rw[rCand_eq hb hp]
     have hw: ∀x∈ratWant es p,1≤x:=fun x hx=>by
      unfold ratWant at hx
      obtain⟨z,hz,rfl⟩:=List.mem_map.1 hx
      exact hi _ (List.mem_filter.1 hz).1
     cases hF:rFst gs (ratWant es p)with
     | some id=>
      have hG:ratGrp es p gs=(id,92):=by
       unfold ratGrp
       rw[←rFst_eq,hF]
      rw[hG]
      rfl
     | none=>
      have hG:ratGrp es p gs=((rIdsGo (ratWant es p) none gs).map fun x=>(x,92)).getD (0,0):=by
       unfold ratGrp
       rw[←rFst_eq,hF]
       exact rIds_eq hw gs none 0 (.inl ⟨rfl,rfl⟩)
      cases hI:rIdsGo (ratWant es p) none gs with
      | some id=>
       rw[hI]at hG
       rw[hG]
       rfl
      | none=>
       rw[hI]at hG
       rw[hG]
       have hG2:(ratGrp es p gs).2=0:=by rw[hG];rfl
       obtain⟨l1,l2⟩:=rLoop_eq hb hp hg (q2 h4) gs (grp_cand hr hG2)
       rw[l1]
       cases hL:rLoop es p (rFol es out hs).1 gs with
       | some x=>
        show(0,x)=_
        rw[if_neg (by decide),Option.getD_some,if_pos (l2 x hL)]
       | none=>
        rfl
theorem fol_rat (hb: ∀x∈es,clauseB x.2=true): ∀(hs asg:List Int) (f:Int→Int) (us:List Int) (i:Nat),asgF asg=some f→
  ((folGo f (ckNamed es hs) us i).2.2.2=81∧(∃j,(folGo f (ckNamed es hs) us i).2.1=i+j∧(ratFol es asg hs).2=(false,hs.getD j 0,81)))∨
  ((folGo f (ckNamed es hs) us i).2.2.2=0∧(folGo f (ckNamed es hs) us i).2.2.1=true∧(ratFol es asg hs).2=(true,0,0))∨
  ((folGo f (ckNamed es hs) us i).2.2.2=0∧(folGo f (ckNamed es hs) us i).2.2.1=false∧(ratFol es asg hs).2=if(ckNamed es hs).length<hs.length then(false,hs.getD (ckNamed es hs).length 0,91)else(false,0,0))
 | [],asg,f,us,i,_=>.inr (.inr ⟨rfl,rfl,rfl⟩)
 | id::r,asg,f,us,i,hf=>by
  rw[ckNamed,ratFol]
  cases hg:getA es id with
  | none=>exact .inr (.inr ⟨rfl,rfl,rfl⟩)
  | some c=>
   have hc:=hb _ (getA_some hg)
   simp only[hf]
   rw[folGo]
   by_cases h2:(lookF f c).1=2
   ·rw[if_pos h2,if_pos h2]
    exact .inr (.inl ⟨rfl,rfl,rfl⟩)
   ·rw[if_neg h2,if_neg h2]
    by_cases h3:(lookF f c).1=3
    ·rw[if_pos h3,if_pos h3]
     obtain⟨h4,h5⟩:=lookF_unit (show lookF f c=(3,(lookF f c).2)from Prod.ext h3 rfl)
     have hu:=clauseB_lit hc h4
     rcases fol_rat hb r (asg++ [(lookF f c).2]) _ (us++ [(lookF f c).2]) (i+1) (asgF_snoc hf hu h5)with⟨a,j,b,d⟩|h|⟨a,b,d⟩
     ·exact .inl ⟨a,j+1,by rw[b];omega,by rw[d,List.getD_cons_succ]⟩
     ·exact .inr (.inl h)
     ·refine .inr (.inr ⟨a,b,?_⟩)
      rw[d,List.length_cons,List.length_cons,List.getD_cons_succ]
      by_cases h6:(ckNamed es r).length<r.length
      ·rw[if_pos h6,if_pos (by omega)]
      ·rw[if_neg h6,if_neg (by omega)]
    ·rw[if_neg h3,if_neg h3]
     exact .inl ⟨rfl,0,rfl,rfl⟩
theorem ckAdd_eq (hb: ∀x∈es,clauseB x.2=true) {c:List Int} (hc:clauseB c=true) (hs:List Int):ckAdd es c hs=ratP es c (splitL hs).1 (splitL hs).2:=by
 obtain⟨h1,hh1⟩: ∃h1,(splitL hs).1=h1:=⟨_,rfl⟩
 obtain⟨gs,hgs⟩: ∃gs,(splitL hs).2=gs:=⟨_,rfl⟩
 unfold ckAdd
 rw[hh1,hgs]
 by_cases hal:alwL c=true
 ·have hk:ckFol es c h1=(true,0,0):=by
   unfold ckFol
   rw[if_pos (by unfold chkP;rw[if_pos hal])]
  rw[hk,if_neg (by simp),if_pos rfl]
  unfold ratP
  rw[if_pos hal]
 ·have hal':alwL c=false:=by simpa using hal
  obtain⟨f,hf⟩:=asm_some hc hal'
  have hchk:chkP c (ckNamed es h1)=((folGo f (ckNamed es h1) [] 0).1,(folGo f (ckNamed es h1) [] 0).2.1,if(folGo f (ckNamed es h1) [] 0).2.2.2=0∧(folGo f (ckNamed es h1) [] 0).2.2.1=false then 82 else(folGo f (ckNamed es h1) [] 0).2.2.2):=by
   unfold chkP
   rw[if_neg hal,hf]
  obtain⟨F,hF⟩: ∃F,folGo f (ckNamed es h1) [] 0=F:=⟨_,rfl⟩
  have hfr:=fol_rat hb h1 (asmL c) f [] 0 hf
  rw[hF]at hchk hfr
  have he:(chkP c (ckNamed es h1)).2.2=if F.2.2.2=0∧F.2.2.1=false then 82 else F.2.2.2:=by rw[hchk]
  have hn:(chkP c (ckNamed es h1)).2.1=F.2.1:=by rw[hchk]
  rcases hfr with⟨a,j,b,d⟩|⟨a,b,d⟩|⟨a,b,d⟩
  ·rw[if_neg (fun h=>by rw[a]at h;cases h.1),a]at he
   rw[b,Nat.zero_add]at hn
   have hk:ckFol es c h1=(false,h1.getD j 0,81):=by
    unfold ckFol
    rw[he,hn,if_neg (by decide),if_pos rfl]
   rw[hk,if_pos (show(81:Nat)≠0 by decide)]
   unfold ratP
   rw[if_neg hal,d,if_pos (show(81:Nat)≠0 by decide)]
  ·rw[if_neg (fun h=>by rw[b]at h;cases h.2),a]at he
   have hk:ckFol es c h1=(true,0,0):=by
    unfold ckFol
    rw[he,if_pos rfl]
   rw[hk,if_neg (show¬(0:Nat)≠0 by decide),if_pos rfl]
   unfold ratP
   rw[if_neg hal,d,if_neg (show¬(0:Nat)≠0 by decide),if_pos rfl]
  ·rw[if_pos ⟨a,b⟩]at he
   by_cases h6:(ckNamed es h1).length<h1.length
   ·have hk:ckFol es c h1=(false,h1.getD (ckNamed es h1).length 0,91):=by
     unfold ckFol
     rw[he,if_neg (by decide),if_neg (by decide),if_pos h6]
    rw[if_pos h6]at d
    rw[hk,if_pos (show(91:Nat)≠0 by decide)]
    unfold ratP
    rw[if_neg hal,d,if_pos (show(91:Nat)≠0 by decide)]
   ·have hk:ckFol es c h1=(false,0,0):=by
     unfold ckFol
     rw[he,if_neg (by decide),if_neg (by decide),if_neg h6]
    rw[hk,if_neg (show¬(0:Nat)≠0 by decide),if_neg (show¬(false:Bool)=true by decide)]
end
theorem rDo_eq {k:Ckr} {N:Nat} (h:k.Ok N) {s:EStep} {out:List Int} (hout:alwR s.lits=false→∀y,y∈out↔ -y∈s.lits):rDo out k s=k.do_ s:=by
 unfold rDo Ckr.do_
 by_cases h1:k.proved=true
 ·rw[if_pos h1,if_pos h1]
 ·rw[if_neg h1,if_neg h1]
  by_cases h2:stepB s=false
  ·rw[if_pos h2,if_pos h2]
  ·rw[if_neg h2,if_neg h2]
   by_cases h3:s.id<k.last∨s.id=k.last∧s.del=false
   ·rw[if_pos h3,if_pos h3]
   ·rw[if_neg h3,if_neg h3]
    by_cases h4:s.del=true
    ·rw[if_pos h4,if_pos h4]
    ·rw[if_neg h4,if_neg h4]
     have h2:stepB s=true:=by simpa using h2
     have h4:s.del=false:=by simpa using h4
     have hc:=(stepB_addR h2 h4).1
     have hlast:k.last<s.id:=by
      refine Classical.byContradiction fun hn=>h3 ?_
      rcases Int.lt_or_eq_of_le (Int.not_lt.1 hn)with h5|h5
      ·exact .inl h5
      ·exact .inr ⟨h5,h4⟩
     rw[rChk_eq h.rise h.cls (fun x hx=>(h.ids x hx).1) hc hout,ckAdd_eq h.cls hc]
     have hput:k.putR s.id s.lits=k.put s.id s.lits:=by
      unfold Ckr.putR Ckr.put
      rw[putA_last fun p hp=>by have:=(h.ids p hp).2.2;omega,List.length_append,List.length_singleton]
     rw[hput]
theorem putR_of (all:List (List Int)) (c:List Int):(ckrOf all 0).putR ((all.length:Int)+1) c=ckrOf (all++ [c]) 0:=by
 rw[←ckrOf_put]
 unfold Ckr.putR Ckr.put
 have hlt: ∀p∈(ckrOf all 0).ents,p.1<(all.length:Int)+1:=fun p hp=>by
  obtain⟨j,h1,h2⟩:=entsFrom_mem.1 (show p∈entsFrom 0 all from hp)
  have:=(List.getElem?_eq_some_iff.1 h1).1
  rw[h2]
  omega
 rw[putA_last hlt,List.length_append,List.length_singleton]
theorem putAllR_of: ∀(r all:List (List Int)),(ckrOf all 0).putAllR all.length r=ckrOf (all++r) 0
 | [],all=>by rw[List.append_nil];rfl
 | c::r,all=>by
  rw[Ckr.putAllR,putR_of]
  have:=putAllR_of r (all++ [c])
  rw[List.length_append,List.length_singleton,List.append_assoc]at this
  exact this
theorem rNew_eq (cs:List (List Int)):ckr0.putAllR 0 cs=ckrNew cs:=by
 rw[ckrNew_of]
 exact putAllR_of cs []
end Go.Proofs.YtajbmjpodeilpaaGreatDoor
namespace Go.Proofs.YtajbmjpodeilpaaGreatDoor
open Go.RowKit
def runGo:Ckr→List EStep→Nat→Ckr×Nat×Nat
 | k,[],n=>(k,n,0)
 | k,s::r,n=>if k.proved=true then(k,n,0)else if(k.do_ s).2.2.2≠0 then((k.do_ s).1,n,(k.do_ s).2.2.2)else runGo (k.do_ s).1 r (n+1)
def runE (r:Ckr×Nat×Nat):Nat:=if r.2.2≠0 then r.2.2 else if r.1.proved=true then 0 else 101
def trimS (k:Ckr) (s:EStep):EStep:=⟨false,s.id,s.lits,(trimP s.lits (ckNamed k.ents (splitL s.hints).1)).map fun j=>(splitL s.hints).1.getD j.toNat 0⟩
def trmGo:Ckr→List EStep→Nat→List EStep→List EStep×Nat×Bool
 | _,[],i,out=>(out,i,true)
 | k,s::r,i,out=>if k.proved=true then(out,i,true)else if(k.do_ s).2.1=2 then(out,i,false)else
  trmGo (k.do_ s).1 r (i+1) (if(k.do_ s).2.1=1 then out++ [trimS k s]else out)
def needI (f:Int→Int) (hs:List Int):Int→Int:=hs.foldl (fun f id=>fun z=>if z=id then 1 else f z) f
def bkGo:(Int→Int)→List EStep→List EStep→List EStep
 | _,[],out=>out
 | f,s::r,out=>if 0<s.lits.length∧f s.id=0 then bkGo f r out else bkGo (needI f s.hints) r (out++ [s])
def bkL (done:List EStep):List EStep:=(bkGo (fun _=>0) done.reverse []).reverse
def sEnt (s:EStep):Int×List Int:=(s.id,s.lits)
def pEnts (cs:List (List Int)) (p:List EStep):Ents:=entsFrom 0 cs++p.map sEnt
def pLast (cs:List (List Int)) (p:List EStep):Int:=match p.getLast? with
 | some s=>s.id
 | none=>cs.length
def ckrP (cs:List (List Int)) (p:List EStep):Ckr:=⟨pEnts cs p,pLast cs p,cs.any List.isEmpty||p.any (fun s=>s.lits.isEmpty),(p.length:Nat),0,0,((cs.length+p.length:Nat):Int)⟩
theorem pLast_snoc (cs:List (List Int)) (p:List EStep) (s:EStep):pLast cs (p++ [s])=s.id:=by
 unfold pLast
 rw[List.getLast?_append]
 rfl
structure Grw1 (cs:List (List Int)) (p:List EStep):Prop where
 asc:p.Pairwise fun a b=>a.id<b.id
 lo: ∀s∈p,(cs.length:Int)<s.id
theorem Grw1.below {cs:List (List Int)} {p:List EStep} (h:Grw1 cs p): ∀q∈pEnts cs p,q.1≤pLast cs p:=fun q hq=>by
 unfold pEnts at hq
 unfold pLast
 rcases List.mem_append.1 hq with hq|hq
 ·obtain⟨j,h1,h2⟩:=entsFrom_mem.1 hq
  have hj:=(List.getElem?_eq_some_iff.1 h1).1
  cases hx:p.getLast? with
  | none=>show q.1≤(cs.length:Int);omega
  | some s=>
   have:=h.lo s (List.mem_of_getLast? hx)
   show q.1≤s.id
   omega
 ·obtain⟨s,hs,rfl⟩:=List.mem_map.1 hq
  cases hx:p.getLast? with
  | none=>
   rw[List.getLast?_eq_none_iff.1 hx]at hs
   cases hs
  | some z=>
   show s.id≤z.id
   obtain⟨ys,hys⟩:=List.getLast?_eq_some_iff.1 hx
   have ha:=h.asc
   rw[hys]at hs ha
   rw[List.pairwise_append]at ha
   rcases List.mem_append.1 hs with hs|hs
   ·have:=ha.2.2 s hs z (by simp)
    omega
   ·rw[List.mem_singleton.1 hs]
    exact Int.le_refl _
theorem Grw1.last {cs:List (List Int)} {p:List EStep} (h:Grw1 cs p):(cs.length:Int)≤pLast cs p:=by
 unfold pLast
 cases hx:p.getLast? with
 | none=>exact Int.le_refl _
 | some s=>
  have:=h.lo s (List.mem_of_getLast? hx)
  show(cs.length:Int)≤s.id
  omega
theorem Grw1.rise {cs:List (List Int)} {p:List EStep} (h:Grw1 cs p):Rising (pEnts cs p):=by
 unfold Rising pEnts
 rw[List.pairwise_append]
 refine⟨entsFrom_rise cs 0,?_,fun a ha b hb=>?_⟩
 ·rw[List.pairwise_map]
  exact h.asc
 ·obtain⟨j,h1,h2⟩:=entsFrom_mem.1 ha
  have hj:=(List.getElem?_eq_some_iff.1 h1).1
  obtain⟨s,hs,rfl⟩:=List.mem_map.1 hb
  have:=h.lo s hs
  show a.1<s.id
  omega
theorem ckrP_put {cs:List (List Int)} {p:List EStep} (h:Grw1 cs p) {s:EStep} (hs:pLast cs p<s.id):{ ((ckrP cs p).put s.id s.lits)with adds:=(ckrP cs p).adds+1 }=ckrP cs (p++ [s]):=by
 have e:putA (pEnts cs p) s.id s.lits=pEnts cs (p++ [s]):=by
  rw[putA_last fun q hq=>by have:=h.below q hq;omega]
  unfold pEnts
  rw[List.map_append,List.append_assoc]
  rfl
 have el:(pEnts cs (p++ [s])).length=cs.length+(p.length+1):=by
  unfold pEnts
  rw[List.length_append,entsFrom_len,List.length_map,List.length_append,List.length_singleton]
 unfold Ckr.put ckrP
 simp only[e,el,pLast_snoc,List.any_append,List.any_cons,List.any_nil,Bool.or_false,Bool.or_assoc,List.length_append,List.length_singleton,Ckr.mk.injEq,true_and]
 first|omega|(refine⟨?_,?_⟩ <;> omega)
theorem stepB_add {s:EStep} (hd:s.del=false) (h1:1≤s.id) (h2:s.id≤1073741824) (hc:clauseB s.lits=true) (hl:s.hints.length≤65536) (hh: ∀h∈s.hints,0<h∧h≤1073741824):stepB s=true:=by
 unfold stepB
 rw[hd,hc]
 simp only[Bool.not_false,Bool.true_and,Bool.false_and,Bool.or_false,Bool.and_eq_true,Bool.not_eq_true',Bool.or_eq_false_iff,decide_eq_false_iff_not,decide_eq_true_eq,List.any_eq_false,Bool.or_eq_true,not_or]
 refine⟨⟨⟨by omega,by omega⟩,by omega⟩,hl,fun h hm=>?_⟩
 have:=hh h hm
 omega
structure Addy (s:EStep):Prop where
 del:s.del=false
 id0:1≤s.id
 id1:s.id≤1073741824
 cls:clauseB s.lits=true
 len:s.hints.length≤65536
 pos: ∀h∈s.hints,0<h∧h≤1073741824
theorem Addy.stepB {s:EStep} (h:Addy s):stepB s=true:=stepB_add h.del h.id0 h.id1 h.cls h.len h.pos
theorem Addy.split {s:EStep} (h:Addy s):splitL s.hints=(s.hints,[]):=split_pos fun x hx=>(h.pos x hx).1
section
variable {cs:List (List Int)} {p:List EStep} {s:EStep}
theorem do_rup (h:Grw1 cs p) (hp:(ckrP cs p).proved=false) (hs:Addy s) (hl:pLast cs p<s.id) (hk:(chkP s.lits (ckNamed (pEnts cs p) s.hints)).2.2=0):(ckrP cs p).do_ s=(ckrP cs (p++ [s]),1,0,0):=by
 have hadd:ckAdd (pEnts cs p) s.lits s.hints=(1,0,0):=by
  unfold ckAdd ckFol
  rw[hs.split]
  simp only
  rw[hk,if_pos rfl]
  rfl
 unfold Ckr.do_
 rw[if_neg (by rw[hp];decide),if_neg (by rw[hs.stepB];decide),if_neg (by
  rintro (h1|⟨h1,_⟩)
  ·have:(ckrP cs p).last=pLast cs p:=rfl
   omega
  ·have:(ckrP cs p).last=pLast cs p:=rfl
   omega),if_neg (by rw[hs.del];decide)]
 have e3:ckAdd (ckrP cs p).ents s.lits s.hints=(1,0,0):=hadd
 rw[if_neg (by rw[e3];decide)]
 have e:=ckrP_put h hl
 simp only[e3]
 rw[if_neg (by decide)]
 rw[←e]
 rfl
end
theorem named_all {es:Ents} {g:Int→List Int}: ∀(hs:List Int),(∀h∈hs,getA es h=some (g h))→ckNamed es hs=hs.map g:=by
 intro hs
 induction hs with
 | nil=>exact fun _=>rfl
 | cons h r ih=>
  intro hh
  unfold ckNamed
  rw[hh h List.mem_cons_self]
  simp only
  rw[ih fun x hx=>hh x (List.mem_cons_of_mem _ hx),List.map_cons]
end Go.Proofs.YtajbmjpodeilpaaGreatDoor
namespace Go.Proofs.YtajbmjpodeilpaaGreatDoor
open Go.RowKit
def rBit (hs:List (List Int)) (us:List Int) (n i:Nat) (t:List Bool):Bool:=
 decide (i+1=n)||((hs.drop (i+1)).zip t).any fun p=>p.2&&p.1.contains (-(us.getD i 0))
def rNd (hs:List (List Int)) (us:List Int) (n:Nat):Nat→List Bool
 | 0=> []
 | k+1=>rBit hs us n (n-(k+1)) (rNd hs us n k)::rNd hs us n k
def idxGo:Nat→List Bool→List Int
 | _,[]=> []
 | i,b::r=>if b=true then(i:Int)::idxGo (i+1) r else idxGo (i+1) r
def rWo (hs:List (List Int)) (us:List Int):List Int:=idxGo 0 (rNd hs us hs.length hs.length)
def Wants (hs:List (List Int)) (k:Nat) (t:List Bool) (z:Int):Prop:=((hs.drop k).zip t).any (fun p=>p.2&&p.1.contains (-z))=true
def tBit (s:EStep) (r:List EStep) (t:List Bool):Bool:=s.lits.isEmpty||(r.zip t).any fun p=>p.2&&p.1.hints.contains s.id
def rTn:List EStep→List Bool
 | []=> []
 | s::r=>tBit s r (rTn r)::rTn r
def rPick:List EStep→List Bool→List EStep
 | s::r,b::t=>if b=true then s::rPick r t else rPick r t
 | _,_=> []
end Go.Proofs.YtajbmjpodeilpaaGreatDoor
namespace Go.Proofs.YtajbmjpodeilpaaGreatDoor
open Go.RowKit
def rFolC:List Int→List (List Int)→Nat→List Int×Nat×Bool×Nat
 | all,[],i=>(all,i,false,0)
 | all,c::r,i=>if(rLook all c []).1=2 then(all,i+1,true,0)else if(rLook all c []).1=3 then rFolC (all++ [(rLook all c []).2]) r (i+1)else([],i,false,81)
section
variable {c out:List Int} {hs:List (List Int)}
end
end Go.Proofs.YtajbmjpodeilpaaGreatDoor
