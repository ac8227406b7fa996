/- Plain: a checker whose entries are numbered in order; steps that resolve two clauses are done. Plain: whole proofs: what Check and Trim do; steps that follow by their hints. package proof: Check, at a right formula. -/
import Derived.Test.YtkfgplfllddhnaaGreatDoorV723
import Derived.Test.YtkfgplfllddhnaaGreatDoorV718
namespace Go.Proofs.YtkfgplfllddhnaaGreatDoor
open Go.RowKit
def entsFrom:Nat→List (List Int)→Ents
 | _,[]=> []
 | i,c::r=>((i:Int)+1,c)::entsFrom (i+1) r
theorem entsFrom_mem: ∀{cs:List (List Int)} {i:Nat} {p:Int×List Int},p∈entsFrom i cs↔∃(j:Nat),cs[j]? =some p.2∧p.1=((i+j:Nat):Int)+1:=by
 intro cs
 induction cs with
 | nil=>intro i p;simp[entsFrom]
 | cons c r ih=>
  intro i p
  show p∈((i:Int)+1,c)::entsFrom (i+1) r↔_
  rw[List.mem_cons,ih]
  constructor
  ·rintro (e|⟨j,h1,h2⟩)
   ·exact⟨0,by rw[e];rfl,by rw[e];rfl⟩
   ·exact⟨j+1,h1,by rw[h2,show i+1+j=i+(j+1) by omega]⟩
  ·rintro ⟨j,h1,h2⟩
   cases j with
   | zero=>
    left
    obtain⟨a,b⟩:=p
    obtain rfl:=Option.some.inj h1
    exact Prod.ext h2 rfl
   | succ j=>exact .inr ⟨j,h1,by rw[h2,show i+1+j=i+(j+1) by omega]⟩
theorem entsFrom_rise: ∀(cs:List (List Int)) (i:Nat),Rising (entsFrom i cs):=by
 intro cs
 induction cs with
 | nil=>exact fun _=>List.Pairwise.nil
 | cons c r ih=>
  intro i
  refine List.pairwise_cons.2 ⟨fun p hp=>?_,ih (i+1)⟩
  obtain⟨j,_,h2⟩:=entsFrom_mem.1 hp
  show(i:Int)+1<p.1
  omega
theorem entsFrom_len: ∀(cs:List (List Int)) (i:Nat),(entsFrom i cs).length=cs.length:=by
 intro cs
 induction cs with
 | nil=>exact fun _=>rfl
 | cons c r ih=>exact fun i=>congrArg (· +1) (ih (i+1))
theorem entsFrom_get {cs:List (List Int)} {j:Nat} {c:List Int} (h:cs[j]? =some c):getA (entsFrom 0 cs) ((j:Int)+1)=some c:=
 getA_of (entsFrom_rise cs 0) (entsFrom_mem.2 ⟨j,h,by rw[Nat.zero_add]⟩)
theorem entsFrom_none {cs:List (List Int)} {x:Int} (h:x<1∨(cs.length:Int)<x):getA (entsFrom 0 cs) x=none:=by
 rw[getA_none]
 intro v hv
 obtain⟨j,h1,h2⟩:=entsFrom_mem.1 hv
 have:=(List.getElem?_eq_some_iff.1 h1).1
 simp only at h2
 omega
theorem insA_last {es:Ents} {x:Int} {v:List Int} (h: ∀p∈es,p.1<x):insA (x,v) es=es++ [(x,v)]:=by
 induction es with
 | nil=>rfl
 | cons y r ih=>
  unfold insA
  have h1:=h y List.mem_cons_self
  rw[if_neg (by show¬x<y.1;omega),ih (fun p hp=>h p (List.mem_cons_of_mem _ hp))]
  rfl
theorem delA_none {es:Ents} {x:Int} (h: ∀p∈es,p.1≠x):delA es x=es:=by
 unfold delA
 rw[List.filter_eq_self]
 exact fun p hp=>decide_eq_true (h p hp)
theorem putA_last {es:Ents} {x:Int} {v:List Int} (h: ∀p∈es,p.1<x):putA es x v=es++ [(x,v)]:=by
 unfold putA
 rw[delA_none (fun p hp=>by have:=h p hp;omega),insA_last h]
theorem entsFrom_snoc: ∀(cs:List (List Int)) (i:Nat) (c:List Int),entsFrom i cs++ [(((i+cs.length:Nat):Int)+1,c)]=entsFrom i (cs++ [c]):=by
 intro cs
 induction cs with
 | nil=>exact fun i c=>rfl
 | cons d r ih=>
  intro i c
  show((i:Int)+1,d)::(entsFrom (i+1) r++_)=((i:Int)+1,d)::entsFrom (i+1) (r++ [c])
  rw[←ih (i+1) c,show i+(d::r).length=i+1+r.length by rw[List.length_cons];omega]
theorem entsFrom_put (cs:List (List Int)) (c:List Int):putA (entsFrom 0 cs) ((cs.length:Int)+1) c=entsFrom 0 (cs++ [c]):=by
 rw[putA_last (fun p hp=>by
  obtain⟨j,h1,h2⟩:=entsFrom_mem.1 hp
  have:=(List.getElem?_eq_some_iff.1 h1).1
  omega),←entsFrom_snoc,Nat.zero_add]
theorem entsFrom_any (cs:List (List Int)): ∀i,(entsFrom i cs).any (fun p=>p.2.isEmpty)=cs.any List.isEmpty:=by
 induction cs with
 | nil=>exact fun _=>rfl
 | cons c r ih=>
  intro i
  show(c.isEmpty||(entsFrom (i+1) r).any _)=(c.isEmpty||r.any List.isEmpty)
  rw[ih]
def ckrOf (all:List (List Int)) (j:Nat):Ckr:=⟨entsFrom 0 all,all.length,all.any List.isEmpty,j,0,0,all.length⟩
theorem ckrOf_put (all:List (List Int)) (j:Nat) (c:List Int):(ckrOf all j).put ((all.length:Int)+1) c=ckrOf (all++ [c]) j:=by
 unfold Ckr.put ckrOf
 simp only[entsFrom_put,entsFrom_len,List.any_append,List.any_cons,List.any_nil,Bool.or_false,List.length_append,List.length_singleton]
 congr 1
 ·omega
theorem putAll_of: ∀(r all:List (List Int)),(ckrOf all 0).putAll all.length r=ckrOf (all++r) 0:=by
 intro r
 induction r with
 | nil=>intro all;rw[List.append_nil];rfl
 | cons c r ih=>
  intro all
  show((ckrOf all 0).put ((all.length:Int)+1) c).putAll (all.length+1) r=_
  have:=ih (all++ [c])
  rw[List.length_append,List.length_singleton,List.append_assoc]at this
  rw[ckrOf_put,this]
  rfl
theorem ckrNew_of (cs:List (List Int)):ckrNew cs=ckrOf cs 0:=by
 unfold ckrNew
 have:=putAll_of cs []
 rw[List.nil_append]at this
 have e:ckrOf [] 0=ckr0:=rfl
 rw[e]at this
 rw[show(ckr0.putAll 0 cs)=ckrOf cs 0 from this]
 rfl
theorem ckrOf_ok {all:List (List Int)} {j:Nat} (h: ∀c∈all,clauseB c=true) (hl:all.length≤1000) (hj:j≤1000):(ckrOf all j).Ok 1000 where
 rise:=entsFrom_rise all 0
 ids:=fun p hp=>by
  obtain⟨i,h1,h2⟩:=entsFrom_mem.1 hp
  have:=(List.getElem?_eq_some_iff.1 h1).1
  show 1≤p.1∧p.1≤1073741824∧p.1≤(all.length:Int)
  omega
 cls:=fun p hp=>by
  obtain⟨i,h1,h2⟩:=entsFrom_mem.1 hp
  exact h _ (List.mem_of_getElem? h1)
 last0:=Int.natCast_nonneg _
 last1:=by show(all.length:Int)≤_;omega
 len:=by show(entsFrom 0 all).length≤_;rw[entsFrom_len];exact hl
 prv:=.inl (entsFrom_any all 0).symm
 adds:=⟨Int.natCast_nonneg _,by show(j:Int)≤_;omega⟩
 dels:=⟨Int.le_refl _,by show(0:Int)≤_;omega⟩
 rats:=⟨Int.le_refl _,by show(0:Int)≤_;omega⟩
 larg:=⟨Int.natCast_nonneg _,by show(all.length:Int)≤_;omega⟩
theorem splitGo_pos: ∀(hs out:List Int),(∀h∈hs,0<h)→splitGo out [] hs=(out++hs,[]):=by
 intro hs
 induction hs with
 | nil=>intro out _;rw[List.append_nil];rfl
 | cons h r ih=>
  intro out hp
  have h0:=hp h List.mem_cons_self
  unfold splitGo
  rw[if_neg (by omega)]
  show splitGo (out++ [h]) [] r=_
  rw[ih _ (fun x hx=>hp x (List.mem_cons_of_mem _ hx)),List.append_assoc]
  rfl
theorem split_pos {hs:List Int} (h: ∀x∈hs,0<x):splitL hs=(hs,[]):=by
 unfold splitL
 rw[splitGo_pos hs [] h,List.nil_append]
def joinGo (l:Int):List Int→List Int→List Int
 | out,[]=>out
 | out,x::r=>joinGo l (if x≠l∧x≠ -l∧out.contains x=false then out++ [x]else out) r
def joinL (a b:List Int) (l:Int):List Int:=sortI (joinGo l [] (a++b))
def Lit6 (c:List Int):Prop:=c.length≤13∧∀y∈c,litB y=true∧litV y<7
theorem Lit6.clause {c:List Int} (h:Lit6 c):clauseB c=true:=by
 unfold clauseB
 rw[Bool.and_eq_true,decide_eq_true_eq,List.all_eq_true]
 exact⟨by have:=h.1;omega,fun y hy=>(h.2 y hy).1⟩
def resPick (a b:List Int):Option Int:=a.find? fun l=>b.contains (-l)&& !clashL a&& !clashL b
def resNew (all:List (List Int)) (i k:Nat):Option (List Int):=match resPick (all.getD i []) (all.getD k [])with
 | none=>none
 | some l=>if(clashL (joinL (all.getD i []) (all.getD k []) l)||all.contains (joinL (all.getD i []) (all.getD k []) l))=true then none else some (joinL (all.getD i []) (all.getD k []) l)
def resGo (most:Nat):Nat→List Int→List (List Int)→List EStep→List EStep
 | _,[],_,out=>out
 | n,o::r,all,out=>if out.length<most∧0<all.length then
   (match resNew all (o.toNat%all.length) ((o.toNat/7+n)%all.length)with
    | none=>resGo most (n+1) r all out
    | some c=>resGo most (n+1) r (all++ [c]) (out++ [⟨false,(all.length:Int)+1,c,[((o.toNat%all.length:Nat):Int)+1,(((o.toNat/7+n)%all.length:Nat):Int)+1]⟩]))
  else out
def resL (cs:List (List Int)) (order:List Int) (most:Nat):List EStep:=resGo most 0 order cs []
def ResSteps (cs:List (List Int)) (l:List EStep):Prop:= ∀(j:Nat) (s:EStep),l[j]? =some s→∃(i k:Nat) (a b:List Int) (x:Int),
 s.del=false∧s.id=((cs.length+j:Nat):Int)+1∧s.hints= [(i:Int)+1,(k:Int)+1]∧i<cs.length+j∧k<cs.length+j∧(cs++l.map EStep.lits)[i]? =some a∧(cs++l.map EStep.lits)[k]? =some b∧ResO a b s.lits x∧s.lits∉cs++(l.take j).map EStep.lits∧Lit6 s.lits
end Go.Proofs.YtkfgplfllddhnaaGreatDoor
namespace Go.Proofs.YtkfgplfllddhnaaGreatDoor
open Go.RowKit
def runGo:Ckr→List EStep→Nat→Ckr×Nat×Nat
 | k,[],n=>(k,n,0)
 | k,s::r,n=>if k.proved=true then(k,n,0)else if(k.do_ s).2.2.2≠0 then((k.do_ s).1,n,(k.do_ s).2.2.2)else runGo (k.do_ s).1 r (n+1)
def runE (r:Ckr×Nat×Nat):Nat:=if r.2.2≠0 then r.2.2 else if r.1.proved=true then 0 else 101
def trimS (k:Ckr) (s:EStep):EStep:=⟨false,s.id,s.lits,(trimP s.lits (ckNamed k.ents (splitL s.hints).1)).map fun j=>(splitL s.hints).1.getD j.toNat 0⟩
def trmGo:Ckr→List EStep→Nat→List EStep→List EStep×Nat×Bool
 | _,[],i,out=>(out,i,true)
 | k,s::r,i,out=>if k.proved=true then(out,i,true)else if(k.do_ s).2.1=2 then(out,i,false)else
  trmGo (k.do_ s).1 r (i+1) (if(k.do_ s).2.1=1 then out++ [trimS k s]else out)
def needI (f:Int→Int) (hs:List Int):Int→Int:=hs.foldl (fun f id=>fun z=>if z=id then 1 else f z) f
def bkGo:(Int→Int)→List EStep→List EStep→List EStep
 | _,[],out=>out
 | f,s::r,out=>if 0<s.lits.length∧f s.id=0 then bkGo f r out else bkGo (needI f s.hints) r (out++ [s])
def bkL (done:List EStep):List EStep:=(bkGo (fun _=>0) done.reverse []).reverse
def sEnt (s:EStep):Int×List Int:=(s.id,s.lits)
def pEnts (cs:List (List Int)) (p:List EStep):Ents:=entsFrom 0 cs++p.map sEnt
def pLast (cs:List (List Int)) (p:List EStep):Int:=match p.getLast? with
 | some s=>s.id
 | none=>cs.length
def ckrP (cs:List (List Int)) (p:List EStep):Ckr:=⟨pEnts cs p,pLast cs p,cs.any List.isEmpty||p.any (fun s=>s.lits.isEmpty),(p.length:Nat),0,0,((cs.length+p.length:Nat):Int)⟩
theorem pLast_snoc (cs:List (List Int)) (p:List EStep) (s:EStep):pLast cs (p++ [s])=s.id:=by
 unfold pLast
 rw[List.getLast?_append]
 rfl
structure Grw1 (cs:List (List Int)) (p:List EStep):Prop where
 asc:p.Pairwise fun a b=>a.id<b.id
 lo: ∀s∈p,(cs.length:Int)<s.id
theorem Grw1.below {cs:List (List Int)} {p:List EStep} (h:Grw1 cs p): ∀q∈pEnts cs p,q.1≤pLast cs p:=fun q hq=>by
 unfold pEnts at hq
 unfold pLast
 rcases List.mem_append.1 hq with hq|hq
 ·obtain⟨j,h1,h2⟩:=entsFrom_mem.1 hq
  have hj:=(List.getElem?_eq_some_iff.1 h1).1
  cases hx:p.getLast? with
  | none=>show q.1≤(cs.length:Int);omega
  | some s=>
   have:=h.lo s (List.mem_of_getLast? hx)
   show q.1≤s.id
   omega
 ·obtain⟨s,hs,rfl⟩:=List.mem_map.1 hq
  cases hx:p.getLast? with
  | none=>
   rw[List.getLast?_eq_none_iff.1 hx]at hs
   cases hs
  | some z=>
   show s.id≤z.id
   obtain⟨ys,hys⟩:=List.getLast?_eq_some_iff.1 hx
   have ha:=h.asc
   rw[hys]at hs ha
   rw[List.pairwise_append]at ha
   rcases List.mem_append.1 hs with hs|hs
   ·have:=ha.2.2 s hs z (by simp)
    omega
   ·rw[List.mem_singleton.1 hs]
    exact Int.le_refl _
theorem Grw1.last {cs:List (List Int)} {p:List EStep} (h:Grw1 cs p):(cs.length:Int)≤pLast cs p:=by
 unfold pLast
 cases hx:p.getLast? with
 | none=>exact Int.le_refl _
 | some s=>
  have:=h.lo s (List.mem_of_getLast? hx)
  show(cs.length:Int)≤s.id
  omega
theorem Grw1.rise {cs:List (List Int)} {p:List EStep} (h:Grw1 cs p):Rising (pEnts cs p):=by
 unfold Rising pEnts
 rw[List.pairwise_append]
 refine⟨entsFrom_rise cs 0,?_,fun a ha b hb=>?_⟩
 ·rw[List.pairwise_map]
  exact h.asc
 ·obtain⟨j,h1,h2⟩:=entsFrom_mem.1 ha
  have hj:=(List.getElem?_eq_some_iff.1 h1).1
  obtain⟨s,hs,rfl⟩:=List.mem_map.1 hb
  have:=h.lo s hs
  show a.1<s.id
  omega
theorem ckrP_put {cs:List (List Int)} {p:List EStep} (h:Grw1 cs p) {s:EStep} (hs:pLast cs p<s.id):{ ((ckrP cs p).put s.id s.lits)with adds:=(ckrP cs p).adds+1 }=ckrP cs (p++ [s]):=by
 have e:putA (pEnts cs p) s.id s.lits=pEnts cs (p++ [s]):=by
  rw[putA_last fun q hq=>by have:=h.below q hq;omega]
  unfold pEnts
  rw[List.map_append,List.append_assoc]
  rfl
 have el:(pEnts cs (p++ [s])).length=cs.length+(p.length+1):=by
  unfold pEnts
  rw[List.length_append,entsFrom_len,List.length_map,List.length_append,List.length_singleton]
 unfold Ckr.put ckrP
 simp only[e,el,pLast_snoc,List.any_append,List.any_cons,List.any_nil,Bool.or_false,Bool.or_assoc,List.length_append,List.length_singleton,Ckr.mk.injEq,true_and]
 first|omega|(refine⟨?_,?_⟩ <;> omega)
theorem stepB_add {s:EStep} (hd:s.del=false) (h1:1≤s.id) (h2:s.id≤1073741824) (hc:clauseB s.lits=true) (hl:s.hints.length≤65536) (hh: ∀h∈s.hints,0<h∧h≤1073741824):stepB s=true:=by
 unfold stepB
 rw[hd,hc]
 simp only[Bool.not_false,Bool.true_and,Bool.false_and,Bool.or_false,Bool.and_eq_true,Bool.not_eq_true',Bool.or_eq_false_iff,decide_eq_false_iff_not,decide_eq_true_eq,List.any_eq_false,Bool.or_eq_true,not_or]
 refine⟨⟨⟨by omega,by omega⟩,by omega⟩,hl,fun h hm=>?_⟩
 have:=hh h hm
 omega
structure Addy (s:EStep):Prop where
 del:s.del=false
 id0:1≤s.id
 id1:s.id≤1073741824
 cls:clauseB s.lits=true
 len:s.hints.length≤65536
 pos: ∀h∈s.hints,0<h∧h≤1073741824
theorem Addy.stepB {s:EStep} (h:Addy s):stepB s=true:=stepB_add h.del h.id0 h.id1 h.cls h.len h.pos
theorem Addy.split {s:EStep} (h:Addy s):splitL s.hints=(s.hints,[]):=split_pos fun x hx=>(h.pos x hx).1
section
variable {cs:List (List Int)} {p:List EStep} {s:EStep}
theorem do_rup (h:Grw1 cs p) (hp:(ckrP cs p).proved=false) (hs:Addy s) (hl:pLast cs p<s.id) (hk:(chkP s.lits (ckNamed (pEnts cs p) s.hints)).2.2=0):(ckrP cs p).do_ s=(ckrP cs (p++ [s]),1,0,0):=by
 have hadd:ckAdd (pEnts cs p) s.lits s.hints=(1,0,0):=by
  unfold ckAdd ckFol
  rw[hs.split]
  simp only
  rw[hk,if_pos rfl]
  rfl
 unfold Ckr.do_
 rw[if_neg (by rw[hp];decide),if_neg (by rw[hs.stepB];decide),if_neg (by
  rintro (h1|⟨h1,_⟩)
  ·have:(ckrP cs p).last=pLast cs p:=rfl
   omega
  ·have:(ckrP cs p).last=pLast cs p:=rfl
   omega),if_neg (by rw[hs.del];decide)]
 have e3:ckAdd (ckrP cs p).ents s.lits s.hints=(1,0,0):=hadd
 rw[if_neg (by rw[e3];decide)]
 have e:=ckrP_put h hl
 simp only[e3]
 rw[if_neg (by decide)]
 rw[←e]
 rfl
theorem do_cut (hp:(ckrP cs p).proved=false) (hs:Addy s) (hl:pLast cs p<s.id) (hk:(chkP s.lits (ckNamed (pEnts cs p) s.hints)).2.2=82) (hn:(ckNamed (pEnts cs p) s.hints).length<s.hints.length):((ckrP cs p).do_ s).2.2.2=91:=by
 have hf:(ckFol (pEnts cs p) s.lits s.hints).2.2=91:=by
  unfold ckFol
  rw[hk,if_neg (by decide),if_neg (by decide),if_pos hn]
 have hadd:(ckAdd (pEnts cs p) s.lits s.hints).2.2=91:=by
  unfold ckAdd
  rw[hs.split]
  simp only
  rw[if_pos (by rw[hf];decide)]
  exact hf
 unfold Ckr.do_
 rw[if_neg (by rw[hp];decide),if_neg (by rw[hs.stepB];decide),if_neg (by
  rintro (h1|⟨h1,_⟩)
  ·have:(ckrP cs p).last=pLast cs p:=rfl
   omega
  ·have:(ckrP cs p).last=pLast cs p:=rfl
   omega),if_neg (by rw[hs.del];decide)]
 have e3:(ckAdd (ckrP cs p).ents s.lits s.hints).2.2=91:=hadd
 rw[if_pos (by rw[e3];decide)]
 exact e3
end
theorem named_all {es:Ents} {g:Int→List Int}: ∀(hs:List Int),(∀h∈hs,getA es h=some (g h))→ckNamed es hs=hs.map g:=by
 intro hs
 induction hs with
 | nil=>exact fun _=>rfl
 | cons h r ih=>
  intro hh
  unfold ckNamed
  rw[hh h List.mem_cons_self]
  simp only
  rw[ih fun x hx=>hh x (List.mem_cons_of_mem _ hx),List.map_cons]
theorem named_cut {es:Ents} {g:Int→List Int} {h:Int} (hn:getA es h=none) (hs2:List Int): ∀(hs1:List Int),(∀h∈hs1,getA es h=some (g h))→ckNamed es (hs1++h::hs2)=hs1.map g:=by
 intro hs1
 induction hs1 with
 | nil=>
  intro _
  show ckNamed es (h::hs2)= []
  unfold ckNamed
  rw[hn]
 | cons x r ih=>
  intro hh
  rw[List.cons_append]
  unfold ckNamed
  rw[hh x List.mem_cons_self]
  simp only
  rw[ih fun x hx=>hh x (List.mem_cons_of_mem _ hx),List.map_cons]
end Go.Proofs.YtkfgplfllddhnaaGreatDoor
namespace Go.Proofs.YtkfgplfllddhnaaGreatDoor
open Go.RowKit Go.Maps
def repZ:Value:=.agg #[.bool false,.int .i64 0,.int .i64 0,.int .i64 0,.int .i64 0]
def runRep (r:Ckr×Nat×Nat):Value:=if runE r=0 then r.1.rep else repZ
theorem res_chk456 {fn:Func} (h:fn.results= #[.cell 4 39,.tmp 5,.tmp 6]) {w:World} {r:Nat} {c0 c1 c2 c3 c4:Value} {t:TypeId} (hb:w.heap[r]? =some (.cells #[c0,c1,c2,c3,c4] t (0,0))) (tmps:Array Value) (t4:tmps[4]?.getD undef= .pointer (some ⟨r,0,none⟩)):
  (results fn tmps).run Tryz.prog w= .ok (.tuple #[.agg #[c0,c1,c2,c3,c4],tmps[5]?.getD undef,tmps[6]?.getD undef]) w:=by
 have p0:w.cell? ⟨r,0,none⟩=some c0:=mx_cell (j:=0) hb
 have p1:w.cell? ⟨r,1,none⟩=some c1:=mx_cell (j:=1) hb
 have p2:w.cell? ⟨r,2,none⟩=some c2:=mx_cell (j:=2) hb
 have p3:w.cell? ⟨r,3,none⟩=some c3:=mx_cell (j:=3) hb
 have p4:w.cell? ⟨r,4,none⟩=some c4:=mx_cell (j:=4) hb
 simp[results,h,go_sem,t4,p0,p1,p2,p3,p4]
theorem rep_err {R:Ckr×Nat×Nat} {k:Ckr} {n e E:Nat} (hR:R=(k,n,e)) (hE:runE R=E) (h0:E≠0):Ending.returned (.tuple #[.agg #[.bool false,.int .i64 0,.int .i64 0,.int .i64 0,.int .i64 0],.int .i64 (n:Int),.int .i64 (E:Int)])= .returned (.tuple #[runRep R,.int .i64 (R.2.1:Nat),.int .i64 (runE R:Nat)]):=by
 unfold runRep
 rw[hE,if_neg h0,hR]
 rfl
theorem rep_ok {R:Ckr×Nat×Nat} {k:Ckr} {n:Nat} {a d r l:Int} (hR:R=(k,n,0)) (hp:k.proved=true) (hf:k.rep= .agg #[.bool true,.int .i64 a,.int .i64 d,.int .i64 r,.int .i64 l]):Ending.returned (.tuple #[.agg #[.bool true,.int .i64 a,.int .i64 d,.int .i64 r,.int .i64 l],.int .i64 (n:Int),.int .i64 0])= .returned (.tuple #[runRep R,.int .i64 (R.2.1:Nat),.int .i64 (runE R:Nat)]):=by
 have hE:runE R=0:=by
  rw[hR]
  show(if(0:Nat)≠0 then _ else if k.proved=true then 0 else 101)=0
  rw[hp]
  rfl
 unfold runRep
 rw[hE,if_pos rfl,hR]
 simp only
 rw[hf]
 rfl
theorem run_step {k:Ckr} {l:List EStep} {j:Nat} {s:EStep} (h:l[j]? =some s) (n:Nat):runGo k (l.drop j) n=if k.proved=true then(k,n,0)else if(k.do_ s).2.2.2≠0 then((k.do_ s).1,n,(k.do_ s).2.2.2)else runGo (k.do_ s).1 (l.drop (j+1)) (n+1):=by
 have hlt:=(List.getElem?_eq_some_iff.1 h).1
 rw[List.drop_eq_getElem_cons hlt]
 rw[List.getElem?_eq_getElem hlt]at h
 rw[Option.some.inj h]
 rfl
theorem run_nil (k:Ckr) (n:Nat):runGo k [] n=(k,n,0):=rfl
set_option maxRecDepth 100000 in
set_option maxHeartbeats 4000000 in
theorem proof_check {O Os:Nat→Prop} (n:Int) (lv sv:Value) (cs:List (List Int)) (l:List EStep) (w:World) (h:ClsIn O w lv cs) (hc: ∀c∈cs,clauseB c=true) (hn:cs.length≤1000) (hf:fchk n cs=(-1,0)) (hs:StepIn Os w sv l) (hl:l.length≤1000) (hls: ∀s∈l,s.lits.length≤100000000∧s.hints.length≤100000000):
  Calls Tryz.prog 8 #[.agg #[.int .i64 n,lv],sv] w fun e w'=>e= .returned (.tuple #[runRep (runGo (ckrNew cs) l 0),.int .i64 ((runGo (ckrNew cs) l 0).2.1:Nat),.int .i64 (runE (runGo (ckrNew cs) l 0):Nat)])∧Below w.heap.size w w':=by
 obtain⟨W0,hW0⟩: ∃x,w.alloc (.cells #[.int .i64 n,lv] 26)=x:=⟨_,rfl⟩
 obtain⟨W1,hW1⟩: ∃x,W0.alloc (.cells #[.bool false,.int .i64 0,.int .i64 0,.int .i64 0,.int .i64 0] 39)=x:=⟨_,rfl⟩
 have hb0:Below w.heap.size w W0:=by rw[←hW0];exact mx_al _ _
 have hb1:Below W0.heap.size W0 W1:=by rw[←hW1];exact mx_al _ _
 have hz0:W0.heap.size=w.heap.size+1:=by rw[←hW0];simp
 have hz1:W1.heap.size=w.heap.size+2:=by rw[←hW1];simp[hz0]
 have hbf:W0.heap[w.heap.size]? =some (.cells #[.int .i64 n,lv] 26 (0,0)):=by rw[←hW0];exact World.alloc_heap_new _ _
 have hbf1:=(hb1.block _ (heap_lt hbf)).trans hbf
 have b0:W1.cell? ⟨w.heap.size,0,none⟩=some (.int .i64 n):=mx_cell (j:=0) hbf1
 have b1:W1.cell? ⟨w.heap.size,1,none⟩=some lv:=mx_cell (j:=1) hbf1
 have hbr:W1.heap[w.heap.size+1]? =some (.cells #[.bool false,.int .i64 0,.int .i64 0,.int .i64 0,.int .i64 0] 39 (0,0)):=by rw[←hW1,←hz0];exact World.alloc_heap_new _ _
 have hbw:Below w.heap.size w W1:=hb0.trans (hb1.mono (by omega))
 have HNEW:=Lib.hid (ck_new n lv cs W1 (h.below hbw) hc hn hf)
 have HBX:=Lib.hid (fun(X:World) (hx:Below W1.heap.size W1 X)=>show X.heap[w.heap.size+1]? =some (.cells #[.bool false,.int .i64 0,.int .i64 0,.int .i64 0,.int .i64 0] 39 (0,0))∧Below w.heap.size w X from⟨(hx.block _ (heap_lt hbr)).trans hbr,hbw.trans (hx.mono hbw.size)⟩)
 have HSI:=Lib.hid (fun(X:World) (hx:Below W1.heap.size W1 X)=>(hs.below hbw).below hx)
 obtain⟨R,hR⟩: ∃R,runGo (ckrNew cs) l 0=R:=⟨_,rfl⟩
 rw[hR]
 have HR:=Lib.hid (show R=runGo (ckrNew cs) (l.drop 0) 0 from by rw[List.drop_zero];exact hR.symm)
 have HOK:=Lib.hid (show(ckrNew cs).Ok (1000+0)from by rw[ckrNew_of];exact ckrOf_ok hc hn (Nat.zero_le _))
 have HLS:=Lib.hid hls
 obtain⟨A,c,rfl,hcc,_⟩:=h
 obtain⟨As,cs',rfl,hcs,_⟩:=hs
 have HW0:=Lib.hid hW0
 have HW1:=Lib.hid hW1
 clear hb0 hb1 hbf hbf1 hbr hbw hR hc hf hls hW0 hW1
 go_enter Tryz.func8,Tryz.ntmps8
 go_upto_region 1 with fail
 try rw[HW0.out]
 try rw[HW1.out]
 go_wp2_with fail
 refine wp_scope_straight ?_
 go_wp2_with fail
 refine HNEW.out.mono ?_
 rintro e w2 ⟨b,rfl,hck,hb2⟩
 have HCK:=Lib.hid hck
 have HB2:=Lib.hid hb2
 clear hck hb2 HNEW b0 b1
 go_wp2_with fail
 refine wp_label ?_
 go_wp2_with fail
 go_loopw [8,9] (fun ev iv wr=> ∃(k:Nat) (kk:Ckr),k≤l.length∧ev= .int .i64 0∧iv= .int .i64 k∧Hid (R=runGo kk (l.drop k) k)∧Hid (kk.Ok (1000+k))∧Hid (CkAt W1.heap.size wr b kk)∧Hid (Below W1.heap.size W1 wr)) (fun _ i _=>l.length-(intOf i).toNat)
 case atStart=>exact⟨0,ckrNew cs,Nat.zero_le _,rfl,rfl,HR,HOK,HCK,HB2⟩
 case round=>
  obtain⟨k,kk,hk,rfl,rfl,HRk,HOKk,HCKk,HBk⟩:=hrel
  obtain⟨p,hp⟩: ∃p,kk.proved=p:=⟨_,rfl⟩
  have hpv:=ck_proved b kk wr HCKk.out
  have hrp:=ck_report b kk wr HCKk.out
  unfold Ckr.rep at hrp
  obtain⟨ra,hra⟩: ∃p,kk.adds=p:=⟨_,rfl⟩
  obtain⟨rd,hrd⟩: ∃p,kk.dels=p:=⟨_,rfl⟩
  obtain⟨rr,hrr⟩: ∃p,kk.rats=p:=⟨_,rfl⟩
  obtain⟨rl,hrl⟩: ∃p,kk.largest=p:=⟨_,rfl⟩
  rw[hp]at hpv hrp
  rw[hra,hrd,hrr,hrl]at hrp
  have HPV:=Lib.hid hpv
  have HREP:=Lib.hid hrp
  have HP:=Lib.hid hp
  have HRF:=Lib.hid (show kk.rep= .agg #[.bool p,.int .i64 ra,.int .i64 rd,.int .i64 rr,.int .i64 rl]from by unfold Ckr.rep;rw[hp,hra,hrd,hrr,hrl])
  clear hpv hrp hp hra hrd hrr hrl
  by_cases hlt:k<l.length
  ·obtain⟨s,hs⟩:=getElem_of hlt
   have hst:=HRk.out.trans (run_step hs k)
   rw[HP.out]at hst
   cases p with
   | true=>
    have HRZ:=Lib.hid (rep_ok (R:=R) (n:=k) (hst.trans (if_pos rfl)) HP.out HRF.out)
    clear hs hst
    go_wp2_with fail
    refine HPV.out.mono ?_
    rintro e w' ⟨rfl,rfl⟩
    go_wp2_with fail
    refine HPV.out.mono ?_
    rintro e w' ⟨rfl,rfl⟩
    go_wp2_with fail
    refine HREP.out.mono ?_
    rintro e w6 ⟨rfl,hb6⟩
    obtain⟨hbx,hlow⟩:=HBX.out w6 (HBk.out.trans (hb6.mono HBk.out.size))
    have r0:=mx_cell (j:=0) hbx
    have r1:=mx_cell (j:=1) hbx
    have r2:=mx_cell (j:=2) hbx
    have r3:=mx_cell (j:=3) hbx
    have r4:=mx_cell (j:=4) hbx
    have f0:=free_at (j:=0) hbx
    have f1:=free_at (j:=1) hbx
    have f2:=free_at (j:=2) hbx
    have f3:=free_at (j:=3) hbx
    have f4:=free_at (j:=4) hbx
    obtain⟨wy,hwy,hby,hky⟩:=five_setR hbx (.bool true) (.int .i64 ra) (.int .i64 rd) (.int .i64 rr) (.int .i64 rl)
    have HBY:=Lib.hid hby
    have HFIN:=Lib.hid (hlow.trans (hky.below (fun i e=>by rw[e];exact Nat.le_succ _) hlow.size))
    clear hbx hlow hky hby hb6
    go_wp2_with fail
    try rw[hwy]
    rw[Exit.noGoto_ret]
    refine bodyPost_ret (res_chk456 rfl HBY.out _ rfl) rfl ?_
    exact⟨HRZ.out,HFIN.out⟩
   | false=>
    have hst2:=hst.trans (if_neg (by decide))
    obtain⟨A',c',hAc,_,_,hxs⟩:=HSI.out wr HBk.out
    simp only[Value.slice.injEq,true_and]at hAc
    obtain⟨rfl,rfl⟩:=hAc
    obtain⟨g,o,ul,uh,rfl,hg,_,d0,d1,d2,d3,hul,huh⟩:=hxs k s hs
    obtain⟨hl1,hl2⟩:=HLS.out s (List.mem_of_getElem? hs)
    have HDO:=Lib.hid (ck_do_all b kk s ul uh wr HCKk.out HBk.out.size HOKk.out (by omega) hul huh (by omega) (by omega))
    have HOKn:=Lib.hid (do_ok (s:=s) HOKk.out)
    obtain⟨D,hD⟩: ∃D,kk.do_ s=D:=⟨_,rfl⟩
    rw[hD]at HDO HOKn hst2
    have HST:=Lib.hid hst2
    obtain⟨Dk,Dt,Di,De⟩:=D
    obtain⟨Aul,cul,rfl,_⟩:=hul
    obtain⟨Auh,cuh,rfl,_⟩:=huh
    clear hs hst hst2 hxs hD
    go_wp2_with fail
    refine HPV.out.mono ?_
    rintro e w' ⟨rfl,rfl⟩
    go_wp2_with fail
    refine HDO.out.mono ?_
    rintro e w5 ⟨rfl,hck5,hb5,-⟩
    have HCK5:=Lib.hid hck5
    have HB5:=Lib.hid (HBk.out.trans hb5)
    clear hck5 hb5 HDO d0 d1 d2 d3
    by_cases hE:De=0
    ·subst hE
     have HRn:=Lib.hid (show R=runGo Dk (l.drop (k+1)) (k+1)from HST.out.trans (if_neg (fun h=>h rfl)))
     clear HST
     go_wp2_with fail
     go_roundw
     case rel=>exact⟨k+1,Dk,by omega,rfl,by go_num,HRn,HOKn,HCK5,HB5⟩
     case measure=>simp[intOf];omega
    ·have q0:((De:Int)==0)=false:=beq_eq_false_iff_ne.2 (by omega)
     have q1:((De:Int) != 0)=true:=by rw[bne,q0];rfl
     have HRZ:=Lib.hid (rep_err (R:=R) (n:=k) (E:=De) (k:=Dk) (HST.out.trans (if_pos hE)) (by rw[HST.out.trans (if_pos hE)];exact if_pos hE) hE)
     obtain⟨wz,hwz⟩: ∃z,w5=z:=⟨_,rfl⟩
     have HBZ:=Lib.hid (show Below W1.heap.size W1 wz from hwz▸HB5.out)
     rw[hwz]
     clear HST hE hwz
     obtain⟨hbx,hlow⟩:=HBX.out wz HBZ.out
     have r0:=mx_cell (j:=0) hbx
     have r1:=mx_cell (j:=1) hbx
     have r2:=mx_cell (j:=2) hbx
     have r3:=mx_cell (j:=3) hbx
     have r4:=mx_cell (j:=4) hbx
     have f0:=free_at (j:=0) hbx
     have f1:=free_at (j:=1) hbx
     have f2:=free_at (j:=2) hbx
     have f3:=free_at (j:=3) hbx
     have f4:=free_at (j:=4) hbx
     obtain⟨wy,hwy,hby,hky⟩:=five_setR hbx (.bool false) (.int .i64 0) (.int .i64 0) (.int .i64 0) (.int .i64 0)
     have HBY:=Lib.hid hby
     have HFIN:=Lib.hid (hlow.trans (hky.below (fun i e=>by rw[e];exact Nat.le_succ _) hlow.size))
     clear hbx hlow hky hby
     go_wp2_with fail
     try rw[hwy]
     rw[Exit.noGoto_ret]
     refine bodyPost_ret (res_chk456 rfl HBY.out _ rfl) rfl ?_
     exact⟨HRZ.out,HFIN.out⟩
  ·obtain rfl:k=l.length:=by omega
   have hst:R=(kk,l.length,0):=by rw[HRk.out,List.drop_length,run_nil]
   cases p with
   | true=>
    have HRZ:=Lib.hid (rep_ok (R:=R) (n:=l.length) hst HP.out HRF.out)
    clear hst
    go_wp2_with fail
    refine HPV.out.mono ?_
    rintro e w' ⟨rfl,rfl⟩
    go_wp2_with fail
    refine HREP.out.mono ?_
    rintro e w6 ⟨rfl,hb6⟩
    obtain⟨hbx,hlow⟩:=HBX.out w6 (HBk.out.trans (hb6.mono HBk.out.size))
    have r0:=mx_cell (j:=0) hbx
    have r1:=mx_cell (j:=1) hbx
    have r2:=mx_cell (j:=2) hbx
    have r3:=mx_cell (j:=3) hbx
    have r4:=mx_cell (j:=4) hbx
    have f0:=free_at (j:=0) hbx
    have f1:=free_at (j:=1) hbx
    have f2:=free_at (j:=2) hbx
    have f3:=free_at (j:=3) hbx
    have f4:=free_at (j:=4) hbx
    obtain⟨wy,hwy,hby,hky⟩:=five_setR hbx (.bool true) (.int .i64 ra) (.int .i64 rd) (.int .i64 rr) (.int .i64 rl)
    have HBY:=Lib.hid hby
    have HFIN:=Lib.hid (hlow.trans (hky.below (fun i e=>by rw[e];exact Nat.le_succ _) hlow.size))
    clear hbx hlow hky hby hb6
    go_wp2_with fail
    try rw[hwy]
    rw[Exit.noGoto_ret]
    refine bodyPost_ret (res_chk456 rfl HBY.out _ rfl) rfl ?_
    exact⟨HRZ.out,HFIN.out⟩
   | false=>
    have HRZ:=Lib.hid (rep_err (R:=R) (n:=l.length) (E:=101) (k:=kk) hst (by
     rw[hst]
     show(if(0:Nat)≠0 then _ else if kk.proved=true then 0 else 101)=101
     rw[HP.out]
     rfl) (by decide))
    have HBZ:=Lib.hid HBk.out
    clear hst
    go_wp2_with fail
    refine HPV.out.mono ?_
    rintro e w' ⟨rfl,rfl⟩
    obtain⟨wz,hwz⟩: ∃z,wr=z:=⟨_,rfl⟩
    rw[hwz]at HBZ⊢
    clear hwz
    obtain⟨hbx,hlow⟩:=HBX.out wz HBZ.out
    have r0:=mx_cell (j:=0) hbx
    have r1:=mx_cell (j:=1) hbx
    have r2:=mx_cell (j:=2) hbx
    have r3:=mx_cell (j:=3) hbx
    have r4:=mx_cell (j:=4) hbx
    have f0:=free_at (j:=0) hbx
    have f1:=free_at (j:=1) hbx
    have f2:=free_at (j:=2) hbx
    have f3:=free_at (j:=3) hbx
    have f4:=free_at (j:=4) hbx
    obtain⟨wy,hwy,hby,hky⟩:=five_setR hbx (.bool false) (.int .i64 0) (.int .i64 0) (.int .i64 0) (.int .i64 0)
    have HBY:=Lib.hid hby
    have HFIN:=Lib.hid (hlow.trans (hky.below (fun i e=>by rw[e];exact Nat.le_succ _) hlow.size))
    clear hbx hlow hky hby
    go_wp2_with fail
    try rw[hwy]
    rw[Exit.noGoto_ret]
    refine bodyPost_ret (res_chk456 rfl HBY.out _ rfl) rfl ?_
    exact⟨HRZ.out,HFIN.out⟩
end Go.Proofs.YtkfgplfllddhnaaGreatDoor
