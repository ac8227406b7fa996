/- Plain: a checker whose entries are numbered in order; steps that resolve two clauses are done. Moves of a region that draws in a fence; package rat: the candidates' iterator. -/
import Derived.Test.YtcbjjdpngeabgaaGreatDoorV821
import Derived.Test.YtcbjjdpngeabgaaGreatDoorV813
import Derived.Test.YtcbjjdpngeabgaaGreatDoorV812
import Derived.Test.YtcbjjdpngeabgaaGreatDoorV820
import Derived.Test.YtcbjjdpngeabgaaGreatDoorV814
import Derived.Test.YtcbjjdpngeabgaaGreatDoorV817
import Derived.Test.YtcbjjdpngeabgaaGreatDoorV819
import Derived.Test.YtcbjjdpngeabgaaGreatDoorV800
namespace Go.Proofs.YtcbjjdpngeabgaaGreatDoor
open Go.RowKit
def entsFrom:Nat→List (List Int)→Ents
 | _,[]=> []
 | i,c::r=>((i:Int)+1,c)::entsFrom (i+1) r
theorem entsFrom_mem: ∀{cs:List (List Int)} {i:Nat} {p:Int×List Int},p∈entsFrom i cs↔∃(j:Nat),cs[j]? =some p.2∧p.1=((i+j:Nat):Int)+1:=by
 intro cs
 induction cs with
 | nil=>intro i p;simp[entsFrom]
 | cons c r ih=>
  intro i p
  show p∈((i:Int)+1,c)::entsFrom (i+1) r↔_
  rw[List.mem_cons,ih]
  constructor
  ·rintro (e|⟨j,h1,h2⟩)
   ·exact⟨0,by rw[e];rfl,by rw[e];rfl⟩
   ·exact⟨j+1,h1,by rw[h2,show i+1+j=i+(j+1) by omega]⟩
  ·rintro ⟨j,h1,h2⟩
   cases j with
   | zero=>
    left
    obtain⟨a,b⟩:=p
    obtain rfl:=Option.some.inj h1
    exact Prod.ext h2 rfl
   | succ j=>exact .inr ⟨j,h1,by rw[h2,show i+1+j=i+(j+1) by omega]⟩
theorem entsFrom_rise: ∀(cs:List (List Int)) (i:Nat),Rising (entsFrom i cs):=by
 intro cs
 induction cs with
 | nil=>exact fun _=>List.Pairwise.nil
 | cons c r ih=>
  intro i
  refine List.pairwise_cons.2 ⟨fun p hp=>?_,ih (i+1)⟩
  obtain⟨j,_,h2⟩:=entsFrom_mem.1 hp
  show(i:Int)+1<p.1
  omega
theorem entsFrom_len: ∀(cs:List (List Int)) (i:Nat),(entsFrom i cs).length=cs.length:=by
 intro cs
 induction cs with
 | nil=>exact fun _=>rfl
 | cons c r ih=>exact fun i=>congrArg (· +1) (ih (i+1))
theorem insA_last {es:Ents} {x:Int} {v:List Int} (h: ∀p∈es,p.1<x):insA (x,v) es=es++ [(x,v)]:=by
 induction es with
 | nil=>rfl
 | cons y r ih=>
  unfold insA
  have h1:=h y List.mem_cons_self
  rw[if_neg (by show¬x<y.1;omega),ih (fun p hp=>h p (List.mem_cons_of_mem _ hp))]
  rfl
theorem delA_none {es:Ents} {x:Int} (h: ∀p∈es,p.1≠x):delA es x=es:=by
 unfold delA
 rw[List.filter_eq_self]
 exact fun p hp=>decide_eq_true (h p hp)
theorem putA_last {es:Ents} {x:Int} {v:List Int} (h: ∀p∈es,p.1<x):putA es x v=es++ [(x,v)]:=by
 unfold putA
 rw[delA_none (fun p hp=>by have:=h p hp;omega),insA_last h]
theorem entsFrom_snoc: ∀(cs:List (List Int)) (i:Nat) (c:List Int),entsFrom i cs++ [(((i+cs.length:Nat):Int)+1,c)]=entsFrom i (cs++ [c]):=by
 intro cs
 induction cs with
 | nil=>exact fun i c=>rfl
 | cons d r ih=>
  intro i c
  show((i:Int)+1,d)::(entsFrom (i+1) r++_)=((i:Int)+1,d)::entsFrom (i+1) (r++ [c])
  rw[←ih (i+1) c,show i+(d::r).length=i+1+r.length by rw[List.length_cons];omega]
theorem entsFrom_put (cs:List (List Int)) (c:List Int):putA (entsFrom 0 cs) ((cs.length:Int)+1) c=entsFrom 0 (cs++ [c]):=by
 rw[putA_last (fun p hp=>by
  obtain⟨j,h1,h2⟩:=entsFrom_mem.1 hp
  have:=(List.getElem?_eq_some_iff.1 h1).1
  omega),←entsFrom_snoc,Nat.zero_add]
theorem entsFrom_any (cs:List (List Int)): ∀i,(entsFrom i cs).any (fun p=>p.2.isEmpty)=cs.any List.isEmpty:=by
 induction cs with
 | nil=>exact fun _=>rfl
 | cons c r ih=>
  intro i
  show(c.isEmpty||(entsFrom (i+1) r).any _)=(c.isEmpty||r.any List.isEmpty)
  rw[ih]
def ckrOf (all:List (List Int)) (j:Nat):Ckr:=⟨entsFrom 0 all,all.length,all.any List.isEmpty,j,0,0,all.length⟩
theorem ckrOf_put (all:List (List Int)) (j:Nat) (c:List Int):(ckrOf all j).put ((all.length:Int)+1) c=ckrOf (all++ [c]) j:=by
 unfold Ckr.put ckrOf
 simp only[entsFrom_put,entsFrom_len,List.any_append,List.any_cons,List.any_nil,Bool.or_false,List.length_append,List.length_singleton]
 congr 1
 ·omega
theorem putAll_of: ∀(r all:List (List Int)),(ckrOf all 0).putAll all.length r=ckrOf (all++r) 0:=by
 intro r
 induction r with
 | nil=>intro all;rw[List.append_nil];rfl
 | cons c r ih=>
  intro all
  show((ckrOf all 0).put ((all.length:Int)+1) c).putAll (all.length+1) r=_
  have:=ih (all++ [c])
  rw[List.length_append,List.length_singleton,List.append_assoc]at this
  rw[ckrOf_put,this]
  rfl
theorem ckrNew_of (cs:List (List Int)):ckrNew cs=ckrOf cs 0:=by
 unfold ckrNew
 have:=putAll_of cs []
 rw[List.nil_append]at this
 have e:ckrOf [] 0=ckr0:=rfl
 rw[e]at this
 rw[show(ckr0.putAll 0 cs)=ckrOf cs 0 from this]
 rfl
theorem ckrOf_ok {all:List (List Int)} {j:Nat} (h: ∀c∈all,clauseB c=true) (hl:all.length≤1000) (hj:j≤1000):(ckrOf all j).Ok 1000 where
 rise:=entsFrom_rise all 0
 ids:=fun p hp=>by
  obtain⟨i,h1,h2⟩:=entsFrom_mem.1 hp
  have:=(List.getElem?_eq_some_iff.1 h1).1
  show 1≤p.1∧p.1≤1073741824∧p.1≤(all.length:Int)
  omega
 cls:=fun p hp=>by
  obtain⟨i,h1,h2⟩:=entsFrom_mem.1 hp
  exact h _ (List.mem_of_getElem? h1)
 last0:=Int.natCast_nonneg _
 last1:=by show(all.length:Int)≤_;omega
 len:=by show(entsFrom 0 all).length≤_;rw[entsFrom_len];exact hl
 prv:=.inl (entsFrom_any all 0).symm
 adds:=⟨Int.natCast_nonneg _,by show(j:Int)≤_;omega⟩
 dels:=⟨Int.le_refl _,by show(0:Int)≤_;omega⟩
 rats:=⟨Int.le_refl _,by show(0:Int)≤_;omega⟩
 larg:=⟨Int.natCast_nonneg _,by show(all.length:Int)≤_;omega⟩
theorem splitGo_pos: ∀(hs out:List Int),(∀h∈hs,0<h)→splitGo out [] hs=(out++hs,[]):=by
 intro hs
 induction hs with
 | nil=>intro out _;rw[List.append_nil];rfl
 | cons h r ih=>
  intro out hp
  have h0:=hp h List.mem_cons_self
  unfold splitGo
  rw[if_neg (by omega)]
  show splitGo (out++ [h]) [] r=_
  rw[ih _ (fun x hx=>hp x (List.mem_cons_of_mem _ hx)),List.append_assoc]
  rfl
theorem split_pos {hs:List Int} (h: ∀x∈hs,0<x):splitL hs=(hs,[]):=by
 unfold splitL
 rw[splitGo_pos hs [] h,List.nil_append]
def joinGo (l:Int):List Int→List Int→List Int
 | out,[]=>out
 | out,x::r=>joinGo l (if x≠l∧x≠ -l∧out.contains x=false then out++ [x]else out) r
def joinL (a b:List Int) (l:Int):List Int:=sortI (joinGo l [] (a++b))
theorem joinGo_mem (l:Int): ∀(xs out:List Int) (y:Int),y∈joinGo l out xs↔y∈out∨y∈xs∧y≠l∧y≠ -l:=by
 intro xs
 induction xs with
 | nil=>intro out y;simp[joinGo]
 | cons x r ih=>
  intro out y
  unfold joinGo
  rw[ih]
  by_cases hc:x≠l∧x≠ -l∧out.contains x=false
  ·rw[if_pos hc]
   simp only[List.mem_append,List.mem_cons,List.not_mem_nil,or_false]
   constructor
   ·rintro ((g|g)|⟨g1,g2⟩)
    ·exact .inl g
    ·exact .inr ⟨.inl g,by rw[g];exact⟨hc.1,hc.2.1⟩⟩
    ·exact .inr ⟨.inr g1,g2⟩
   ·rintro (g|⟨g1|g1,g2⟩)
    ·exact .inl (.inl g)
    ·exact .inl (.inr g1)
    ·exact .inr ⟨g1,g2⟩
  ·rw[if_neg hc]
   simp only[List.mem_cons]
   constructor
   ·rintro (g|⟨g1,g2⟩)
    ·exact .inl g
    ·exact .inr ⟨.inr g1,g2⟩
   ·rintro (g|⟨g1|g1,g2⟩)
    ·exact .inl g
    ·left
     cases hx:out.contains x with
     | true=>rw[g1];exact List.contains_iff_mem.1 hx
     | false=>exact absurd ⟨g1▸g2.1,g1▸g2.2,hx⟩ hc
    ·exact .inr ⟨g1,g2⟩
theorem joinGo_nodup (l:Int): ∀(xs out:List Int),out.Nodup→(joinGo l out xs).Nodup:=by
 intro xs
 induction xs with
 | nil=>exact fun _ h=>h
 | cons x r ih=>
  intro out h
  unfold joinGo
  refine ih _ ?_
  split
  ·rename_i hc
   rw[List.nodup_append]
   refine⟨h,by simp,fun a ha b hb e=>?_⟩
   rw[List.mem_singleton.1 hb]at e
   have:=List.contains_iff_mem.2 (e▸ha)
   rw[hc.2.2]at this
   cases this
  ·exact h
theorem joinL_mem (a b:List Int) (l y:Int):y∈joinL a b l↔(y∈a∨y∈b)∧y≠l∧y≠ -l:=by
 unfold joinL
 rw[sI_mem,joinGo_mem,List.mem_append]
 simp
theorem joinL_nodup (a b:List Int) (l:Int):(joinL a b l).Nodup:=((List.mergeSort_perm _ _).nodup_iff).2 (joinGo_nodup l _ _ List.nodup_nil)
def Lit6 (c:List Int):Prop:=c.length≤13∧∀y∈c,litB y=true∧litV y<7
theorem Lit6.clause {c:List Int} (h:Lit6 c):clauseB c=true:=by
 unfold clauseB
 rw[Bool.and_eq_true,decide_eq_true_eq,List.all_eq_true]
 exact⟨by have:=h.1;omega,fun y hy=>(h.2 y hy).1⟩
theorem join_six {a b:List Int} (ha:Lit6 a) (hb:Lit6 b) (l:Int):Lit6 (joinL a b l):=by
 have hm: ∀y∈joinL a b l,litB y=true∧litV y<7:=fun y hy=>by
  rcases ((joinL_mem a b l y).1 hy).1 with h|h
  ·exact ha.2 y h
  ·exact hb.2 y h
 refine⟨?_,hm⟩
 have:=List.Nodup.length_le_of_subset (l₁:=joinL a b l) (l₂:= [-6,-5,-4,-3,-2,-1,0,1,2,3,4,5,6]) (joinL_nodup a b l) (fun y hy=>by
  obtain⟨h1,h2⟩:=hm y hy
  have:=litV_pos h1
  simp only[List.mem_cons,List.not_mem_nil,or_false]
  omega)
 exact this
def resPick (a b:List Int):Option Int:=a.find? fun l=>b.contains (-l)&& !clashL a&& !clashL b
def resNew (all:List (List Int)) (i k:Nat):Option (List Int):=match resPick (all.getD i []) (all.getD k [])with
 | none=>none
 | some l=>if(clashL (joinL (all.getD i []) (all.getD k []) l)||all.contains (joinL (all.getD i []) (all.getD k []) l))=true then none else some (joinL (all.getD i []) (all.getD k []) l)
theorem resNew_some {all:List (List Int)} {i k:Nat} {c:List Int} (h:resNew all i k=some c): ∃l,ResO (all.getD i []) (all.getD k []) c l∧c=joinL (all.getD i []) (all.getD k []) l∧c∉all:=by
 unfold resNew at h
 split at h
 ·cases h
 ·rename_i l hl
  split at h
  ·cases h
  ·rename_i hn
   obtain rfl:=Option.some.inj h
   unfold resPick at hl
   have h1:=List.mem_of_find?_eq_some hl
   have h2:=List.find?_some hl
   simp only[Bool.and_eq_true,Bool.not_eq_true']at h2
   rw[Bool.or_eq_true,not_or]at hn
   have hcl:clashL (joinL (all.getD i []) (all.getD k []) l)=false:=by
    cases hx:clashL (joinL (all.getD i []) (all.getD k []) l)with
    | false=>rfl
    | true=>exact absurd hx hn.1
   exact⟨l,⟨h1,List.contains_iff_mem.1 h2.1.1,clash_no h2.1.2,clash_no h2.2,clash_no hcl,joinL_mem _ _ l⟩,rfl,fun hm=>hn.2 (List.contains_iff_mem.2 hm)⟩
def resGo (most:Nat):Nat→List Int→List (List Int)→List EStep→List EStep
 | _,[],_,out=>out
 | n,o::r,all,out=>if out.length<most∧0<all.length then
   (match resNew all (o.toNat%all.length) ((o.toNat/7+n)%all.length)with
    | none=>resGo most (n+1) r all out
    | some c=>resGo most (n+1) r (all++ [c]) (out++ [⟨false,(all.length:Int)+1,c,[((o.toNat%all.length:Nat):Int)+1,(((o.toNat/7+n)%all.length:Nat):Int)+1]⟩]))
  else out
def resL (cs:List (List Int)) (order:List Int) (most:Nat):List EStep:=resGo most 0 order cs []
def ResSteps (cs:List (List Int)) (l:List EStep):Prop:= ∀(j:Nat) (s:EStep),l[j]? =some s→∃(i k:Nat) (a b:List Int) (x:Int),
 s.del=false∧s.id=((cs.length+j:Nat):Int)+1∧s.hints= [(i:Int)+1,(k:Int)+1]∧i<cs.length+j∧k<cs.length+j∧(cs++l.map EStep.lits)[i]? =some a∧(cs++l.map EStep.lits)[k]? =some b∧ResO a b s.lits x∧s.lits∉cs++(l.take j).map EStep.lits∧Lit6 s.lits
theorem ResSteps.snoc {cs:List (List Int)} {l:List EStep} (h:ResSteps cs l) (h6: ∀c∈cs++l.map EStep.lits,Lit6 c) {i k:Nat} (hi:i<cs.length+l.length) (hk:k<cs.length+l.length) {c:List Int} (hc:resNew (cs++l.map EStep.lits) i k=some c):
  ResSteps cs (l++ [⟨false,((cs.length+l.length:Nat):Int)+1,c,[(i:Int)+1,(k:Int)+1]⟩])∧Lit6 c:=by
 obtain⟨x,ho,hj,hn⟩:=resNew_some hc
 have hil:i<(cs++l.map EStep.lits).length:=by rw[List.length_append,List.length_map];exact hi
 have hkl:k<(cs++l.map EStep.lits).length:=by rw[List.length_append,List.length_map];exact hk
 obtain⟨a,ha⟩: ∃a,(cs++l.map EStep.lits)[i]? =some a:=⟨_,List.getElem?_eq_getElem hil⟩
 obtain⟨b,hb⟩: ∃b,(cs++l.map EStep.lits)[k]? =some b:=⟨_,List.getElem?_eq_getElem hkl⟩
 have ea:(cs++l.map EStep.lits).getD i []=a:=by rw[List.getD_eq_getElem?_getD,ha];rfl
 have eb:(cs++l.map EStep.lits).getD k []=b:=by rw[List.getD_eq_getElem?_getD,hb];rfl
 rw[ea,eb]at ho hj
 have h6c:Lit6 c:=by rw[hj];exact join_six (h6 a (List.mem_of_getElem? ha)) (h6 b (List.mem_of_getElem? hb)) x
 refine⟨fun j s hs=>?_,h6c⟩
 rw[List.map_append,←List.append_assoc]
 rcases Nat.lt_trichotomy j l.length with hlt|e|hgt
 ·rw[List.getElem?_append_left hlt]at hs
  obtain⟨i',k',a',b',x',h1,h2,h3,h4,h5,h7,h8,h9,h10,h11⟩:=h j s hs
  refine⟨i',k',a',b',x',h1,h2,h3,h4,h5,?_,?_,h9,?_,h11⟩
  ·rw[List.getElem?_append_left (by rw[List.length_append,List.length_map];omega)]
   exact h7
  ·rw[List.getElem?_append_left (by rw[List.length_append,List.length_map];omega)]
   exact h8
  ·rw[List.take_append_of_le_length (by omega)]
   exact h10
 ·subst e
  rw[List.getElem?_append_right (Nat.le_refl _),Nat.sub_self]at hs
  obtain rfl:=Option.some.inj hs
  refine⟨i,k,a,b,x,rfl,rfl,rfl,hi,hk,?_,?_,ho,?_,h6c⟩
  ·rw[List.getElem?_append_left hil]
   exact ha
  ·rw[List.getElem?_append_left hkl]
   exact hb
  ·rw[List.take_append_of_le_length (Nat.le_refl _),List.take_length]
   exact hn
 ·rw[List.getElem?_eq_none (by rw[List.length_append,List.length_singleton];omega)]at hs
  cases hs
theorem resGo_ok (cs:List (List Int)) (most:Nat): ∀(order:List Int) (n:Nat) (out:List EStep),ResSteps cs out→(∀c∈cs++out.map EStep.lits,Lit6 c)→out.length≤most→ResSteps cs (resGo most n order (cs++out.map EStep.lits) out)∧(resGo most n order (cs++out.map EStep.lits) out).length≤most:=by
 intro order
 induction order with
 | nil=>exact fun n out h _ hl=>⟨h,hl⟩
 | cons o r ih=>
  intro n out h h6 hl
  unfold resGo
  split
  ·rename_i hc
   have hlen:(cs++out.map EStep.lits).length=cs.length+out.length:=by rw[List.length_append,List.length_map]
   split
   ·exact ih (n+1) out h h6 hl
   ·rename_i c hr
    obtain⟨g1,g2⟩:=h.snoc h6 (i:=o.toNat%(cs++out.map EStep.lits).length) (k:=(o.toNat/7+n)%(cs++out.map EStep.lits).length) (by rw[←hlen];exact Nat.mod_lt _ hc.2) (by rw[←hlen];exact Nat.mod_lt _ hc.2) hr
    rw[←hlen]at g1
    have e:cs++out.map EStep.lits++ [c]=cs++(out++ [(⟨false,(((cs++out.map EStep.lits).length:Nat):Int)+1,c,[((o.toNat%(cs++out.map EStep.lits).length:Nat):Int)+1,(((o.toNat/7+n)%(cs++out.map EStep.lits).length:Nat):Int)+1]⟩:EStep)]).map EStep.lits:=by
     rw[List.map_append,List.append_assoc]
     rfl
    rw[e]
    refine ih (n+1) _ g1 (fun d hd=>?_) ?_
    ·rw[←e]at hd
     rcases List.mem_append.1 hd with hd|hd
     ·exact h6 d hd
     ·rw[List.mem_singleton.1 hd]
      exact g2
    ·rw[List.length_append,List.length_singleton]
     omega
  ·exact⟨h,hl⟩
theorem resL_ok {cs:List (List Int)} (h6: ∀c∈cs,Lit6 c) (order:List Int) (most:Nat):ResSteps cs (resL cs order most)∧(resL cs order most).length≤most:=by
 have:=resGo_ok cs most order 0 [] (fun j s hs=>by cases hs) (by rw[List.map_nil,List.append_nil];exact h6) (Nat.zero_le _)
 rw[List.map_nil,List.append_nil]at this
 exact this
end Go.Proofs.YtcbjjdpngeabgaaGreatDoor
namespace Go.Proofs.YtcbjjdpngeabgaaGreatDoor
open Go.RowKit Go.Shelf
attribute [local go_sem] Oper.semAt_some
section
variable {P:Program} {F:Fence} {n:Nat}
theorem takeI {md:Region.Mode} {ops:Array Oper} {Q:Exit→Act→World→Prop} (i d:Nat) {oi:Oper} {v:Value} {fuel:Nat} {listed:Array Bool} {a a':Act} {w:World}
  (h:wpAnyIn F n P md ops Q fuel (listed.setIfInBounds i true) a' w) (hro:F.round=none:=by rfl)
  (hi:ops[i]? =some oi:=by rfl) (hd:oi.dst=some d:=by rfl) (hs:Region.noSelect ops=true:=by kernel_rfl) (hf:Region.free md ops listed i=true:=by kernel_rfl) (hr:(Region.ready md ops listed).contains i=true:=by kernel_rfl)
  (hQ: ∀c (a:Act) w,Q (.panic c) (a.put oi.dst v) w→Q (.panic c) a w:=by exact fun _ _ _ h=>h) (hw:Region.wanted oi (yielded ops a.tmps)=true:=by rfl)
  (hy: ∀w,(execOp a.eval oi).run P w= .ok (.value v) w:=by(intro wq;go_simp;try with_reducible rfl)) (hab: ∀w,oi.about P w a.eval=none:=by(intro wq;rfl))
  (ha:a.put (some d) v=a':=by(conv=>lhs;simp only[Act.put,List.setIfInBounds_toArray,List.set_cons_zero,List.set_cons_succ])):wpAnyIn F n P md ops Q (fuel+1) listed a w:=
 wpAnyIn_take hro hi hs hf hr hQ ⟨.inl ⟨hw,hy⟩,hab⟩ (by rw[hd,ha];exact h)
theorem takeJ {md:Region.Mode} {ops:Array Oper} {Q:Exit→Act→World→Prop} (i d:Nat) {oi:Oper} {fuel:Nat} {listed:Array Bool} {a a':Act} {w:World}
  (h:wpAnyIn F n P md ops Q fuel (listed.setIfInBounds i true) a' w) (hro:F.round=none:=by rfl)
  (hi:ops[i]? =some oi:=by rfl) (hd:oi.dst=some d:=by rfl) (hs:Region.noSelect ops=true:=by kernel_rfl) (hf:Region.free md ops listed i=true:=by kernel_rfl) (hr:(Region.ready md ops listed).contains i=true:=by kernel_rfl)
  (hQ: ∀c (a:Act) w,Q (.panic c) (a.put oi.dst undef) w→Q (.panic c) a w:=by exact fun _ _ _ h=>h) (hw:Region.wanted oi (yielded ops a.tmps)=false:=by rfl)
  (hab: ∀w,oi.about P w a.eval=none:=by(intro wq;rfl))
  (ha:a.put (some d) undef=a':=by(conv=>lhs;simp only[Act.put,List.setIfInBounds_toArray,List.set_cons_zero,List.set_cons_succ])):wpAnyIn F n P md ops Q (fuel+1) listed a w:=
 wpAnyIn_take hro hi hs hf hr hQ ⟨.inr ⟨hw,rfl⟩,hab⟩ (by rw[hd,ha];exact h)
theorem readyI {md:Region.Mode} {ops:Array Oper} {Q:Exit→Act→World→Prop} (i:Nat) {o:Oper} {fuel:Nat} {listed:Array Bool} {a:Act} {w:World}
  (h: ∀K':Act→World→Prop,Shut (∀a w,wpAnyIn F n P md ops Q fuel (listed.setIfInBounds i true) a w→K' a w)→Oper.wpIn F n P o a w K' Q)
  (ho:ops[i]? =some o:=by rfl) (hr:Region.ready md ops listed= [i]:=by kernel_rfl) (hw:Region.wanted o (yielded ops a.tmps)=true:=by rfl):wpAnyIn F n P md ops Q (fuel+1) listed a w:=
 wpAnyIn_ready hr (by simp) (AllReadyIn.cons ho (fun K' hK=>by rw[if_pos hw];exact h K' hK) AllReadyIn.nil)
theorem readyU {md:Region.Mode} {ops:Array Oper} {Q:Exit→Act→World→Prop} (i d:Nat) {o:Oper} {fuel:Nat} {listed:Array Bool} {a a':Act} {w:World}
  (h:wpAnyIn F n P md ops Q fuel (listed.setIfInBounds i true) a' w) (hF: ∀f,F.fn f:=by exact fun _=>trivial)
  (ho:ops[i]? =some o:=by rfl) (hd:o.dst=some d:=by rfl) (hr:Region.ready md ops listed= [i]:=by kernel_rfl) (hw:Region.wanted o (yielded ops a.tmps)=false:=by rfl)
  (ha:a.put (some d) undef=a':=by(conv=>lhs;simp only[Act.put,List.setIfInBounds_toArray,List.set_cons_zero,List.set_cons_succ])):wpAnyIn F n P md ops Q (fuel+1) listed a w:=
 wpAnyIn_ready hr (by simp) (AllReadyIn.cons ho (fun K' hK=>by rw[if_neg (by rw[hw];decide),hd,ha];exact⟨fun f _=>hF f,hK _ _ h⟩) AllReadyIn.nil)
theorem readyI2 {md:Region.Mode} {ops:Array Oper} {Q:Exit→Act→World→Prop} (i j:Nat) {o p:Oper} {fuel:Nat} {listed:Array Bool} {a:Act} {w:World}
  (h: ∀K':Act→World→Prop,Shut (∀a w,wpAnyIn F n P md ops Q fuel (listed.setIfInBounds i true) a w→K' a w)→Oper.wpIn F n P o a w K' Q)
  (h2: ∀K':Act→World→Prop,Shut (∀a w,wpAnyIn F n P md ops Q fuel (listed.setIfInBounds j true) a w→K' a w)→Oper.wpIn F n P p a w K' Q)
  (ho:ops[i]? =some o:=by rfl) (hp:ops[j]? =some p:=by rfl) (hr:Region.ready md ops listed= [i,j]:=by kernel_rfl) (hw:Region.wanted o (yielded ops a.tmps)=true:=by rfl) (hw2:Region.wanted p (yielded ops a.tmps)=true:=by rfl):wpAnyIn F n P md ops Q (fuel+1) listed a w:=
 wpAnyIn_ready hr (by simp) (AllReadyIn.cons ho (fun K' hK=>by rw[if_pos hw];exact h K' hK) (AllReadyIn.cons hp (fun K' hK=>by rw[if_pos hw2];exact h2 K' hK) AllReadyIn.nil))
end
theorem via {T R:Prop} (f:T→R) (t:T):R:=f t
theorem EntIn.narrow {O:Nat→Prop} {w:World} {v:Value} {es:Ents} (h:EntIn O w v es):EntIn (fun g=>O g∧¬XO w g) w v es:=by
 obtain⟨A,c,hv,hc,hn,hx⟩:=h
 refine⟨A,c,hv,hc,hn,fun i p hi=>?_⟩
 obtain⟨g,o,u,h1,h2,h3,h4,h5,h6⟩:=hx i p hi
 exact⟨g,o,u,h1,h2,⟨h3,xo_cell h4⟩,h4,h5,h6.narrow⟩
def cvv (x:Nat×Int):Array Value:= #[.int .i64 (x.1:Int)]
structure CPre (es:Ents) (_:Nat) (pre:List (Nat×Int)) (x:Nat×Int) (_:World):Prop where
 at_: ∃c,es[x.1]? =some (x.2,c)
 few:pre.length<es.length
theorem want_cons (p:Int) (x:Int×List Int) (es:Ents):ratWant (x::es) p=if candB p x.2=true then x.1::ratWant es p else ratWant es p:=by
 unfold ratWant
 rw[List.filter_cons]
 split <;> rfl
theorem want_len (p:Int) (es:Ents):(ratWant es p).length≤es.length:=by
 unfold ratWant
 rw[List.length_map]
 exact List.length_filter_le _ _
set_option maxRecDepth 100000 in
set_option maxHeartbeats 4000000 in
theorem cand_stops {O:Nat→Prop} (X0:Nat→Prop) (Bl Bp:Nat) (lv:Value) (es:Ents) (p:Int) (w:World) (hBl:w.cell? ⟨Bl,0,none⟩=some lv) (hBp:w.cell? ⟨Bp,0,none⟩=some (.int .i64 p)) (h:EntIn O w lv es) (ho:EntOk es) (hX0: ∀g,X0 g→¬O g∧g≠Bl∧g≠Bp):
  SeqM Tryz.prog 144 #[.pointer (some ⟨Bl,0,none⟩),.pointer (some ⟨Bp,0,none⟩)] cvv (CPre es) (fun _ W W'=>KpC X0 W W') (fun _ _ _=>True) (fun ys=>ys.map Prod.snd=ratWant es p) (fun _=>True) w:=by
 intro l J Jx W hW hJ hJx hY h0
 have hBl':=World.block_lt_of_cell? w _ hBl
 have hBp':=World.block_lt_of_cell? w _ hBp
 have e1:W.cell? ⟨Bl,0,none⟩=some lv:=(hW.cell (p:=⟨Bl,0,none⟩) hBl').trans hBl
 have HBP:=Lib.hid (show W.cell? ⟨Bp,0,none⟩=some (.int .i64 p)from(hW.cell (p:=⟨Bp,0,none⟩) hBp').trans hBp)
 have hzW:=hW.size
 have HE:=Lib.hid (h.below hW).narrow
 have HOK:=Lib.hid ho
 have HJ:=Lib.hid hJ
 have HY:=Lib.hid hY
 have HX0:=Lib.hid hX0
 have H0:=Lib.hid h0
 have hlen:=ho.len
 obtain⟨q,hq⟩: ∃q,litN p=q:=⟨_,rfl⟩
 have HNG:=Lib.hid (fun W=>lit_neg p W)
 rw[hq]at HNG
 have HQ:=Lib.hid hq
 obtain⟨A,c,rfl,hc,_,_⟩:=h
 clear hBl hBp hW hJ hJx hY hX0 h0 ho hq hBl'
 refine callsIn_of_wp Tryz.func144 rfl trivial ?_ rfl
 simp only[Tryz.ntmps144,List.size_toArray,List.length_cons,List.length_nil,Nat.reduceAdd,Nat.reduceSub,Array.replicate_succ,Array.replicate_zero,List.push_toArray,List.append_toArray,List.nil_append,List.cons_append]
 gi_wp2
 clear e1
 gi_loopw [8] (fun i wr=> ∃(k:Nat) (pre:List (Nat×Int)),k≤es.length∧i= .int .i64 k∧Hid (pre.length≤k)∧Hid (pre.map Prod.snd++ratWant (es.drop k) p=ratWant es p)∧Hid (KpC X0 W wr)∧Hid (J pre wr)) (fun i _=>es.length-(intOf i).toNat)
 case atStart=>exact⟨0,[],Nat.zero_le _,rfl,Lib.hid (Nat.le_refl _),Lib.hid rfl,Lib.hid (KpC.refl _ _),H0⟩
 case round=>
  obtain⟨k,pre,hk,rfl,HPL,HP,HK,HJS⟩:=hrel
  by_cases hlt:k<es.length
  ·obtain⟨x,hxk⟩:=getElem_of hlt
   have hin:=HE.out.kept HK.out.kept (fun g hg ho=>ho.elim (fun h=>(HX0.out g h).1 hg.1) hg.2)
   obtain⟨A',c',hAc,_,_,hxs⟩:=hin
   simp only[Value.slice.injEq,true_and]at hAc
   obtain⟨rfl,rfl⟩:=hAc
   obtain⟨g,o,u,rfl,hg,_,d0,d1,hu⟩:=hxs k x hxk
   have ep:wr.cell? ⟨Bp,0,none⟩=some (.int .i64 p):=(HK.out.kept.cell (p:=⟨Bp,0,none⟩) (Nat.lt_of_lt_of_le hBp' hzW) (fun h=>h.elim (fun h=>(HX0.out _ h).2.2 rfl) (xo_cell HBP.out))).trans HBP.out
   have hxm:=List.mem_of_getElem? hxk
   have hxl:=clause_len (HOK.out.cls x hxm)
   have HXK:=Lib.hid hxk
   have HDK:=Lib.hid (show es.drop k=x::es.drop (k+1)from by
    rw[List.drop_eq_getElem_cons hlt]
    rw[List.getElem?_eq_getElem hlt]at hxk
    rw[Option.some.inj hxk])
   have HP2:=Lib.hid (show pre.map Prod.snd++(if candB p x.2=true then x.1::ratWant (es.drop (k+1)) p else ratWant (es.drop (k+1)) p)=ratWant es p from by
    rw[←want_cons,←HDK.out]
    exact HP.out)
   obtain⟨id,d⟩:=x
   simp only at d0 d1 hu hxl HP2
   obtain⟨W1,W2,W3,hW1,hW2,hW3,f0,f1,f2,y0,y1,y2,hbx,hb3⟩:=two_new wr (.int .i64 0) (.slice none 0 0) (.int .i64 id) u 50
   have hb3D:=hb3.trans ((mx_drew W3).mono hb3.size)
   obtain⟨wD,hwD⟩: ∃z,W3.drew=z:=⟨_,rfl⟩
   rw[hwD]at hb3D
   have hbxD:wD.heap[wr.heap.size]? =some (.cells #[.int .i64 id,u] 50 (0,0)):=by rw[←hwD];exact hbx
   have z1:=mx_cell (j:=1) hbxD
   have epD:wD.cell? ⟨Bp,0,none⟩=some (.int .i64 p):=(hb3D.cell (p:=⟨Bp,0,none⟩) (World.block_lt_of_cell? wr _ ep)).trans ep
   have HCT:=Lib.hid (contains_c u d q wD (hu.below hb3D) (by omega))
   have HAL:=Lib.hid (always_any u d wD (hu.below hb3D) (by omega))
   have HKD:=Lib.hid (HK.out.trans (KpC.of_below (X:=X0) hb3D))
   have HJD:=Lib.hid (own_from_below' HJ.out HJS.out hb3D)
   obtain⟨Au,cu,rfl,_⟩:=hu
   clear hxk hxs hxm hbx hbxD hb3D
   gi_wp2_with fail
   clear hW1 hW2 hb3 d0 d1 f0 f1 f2 y0 y1 y2 ep
   refine wpIn_region_any (by kernel_rfl) ?_
   change wpAnyIn _ _ _ _ _ _ _ _ _ (World.drew _)
   rw[hwD]
   clear hW3 hwD W1 W2 W3
   apply via
   ·intro TAIL
    refine takeI 0 13 ?_
    refine readyI2 1 2 (fun K hK=>?_) (fun K hK=>?_)
    ·go_simp
     refine hK.out _ _ ?_
     refine readyI 2 (fun K hK=>?_)
     go_simp
     refine hK.out _ _ ?_
     refine readyI 3 (fun K hK=>?_)
     go_simp
     refine⟨trivial,?_⟩
     refine(callsIn_wide.2 (HNG.out _)).mono ?_
     rintro e w' ⟨rfl,rfl⟩
     refine hK.out _ _ ?_
     exact TAIL
    ·go_simp
     refine hK.out _ _ ?_
     refine readyI2 1 3 (fun K hK=>?_) (fun K hK=>?_)
     ·go_simp
      refine hK.out _ _ ?_
      refine readyI 3 (fun K hK=>?_)
      go_simp
      refine⟨trivial,?_⟩
      refine(callsIn_wide.2 (HNG.out _)).mono ?_
      rintro e w' ⟨rfl,rfl⟩
      refine hK.out _ _ ?_
      exact TAIL
     ·go_simp
      refine⟨trivial,?_⟩
      refine(callsIn_wide.2 (HNG.out _)).mono ?_
      rintro e w' ⟨rfl,rfl⟩
      refine hK.out _ _ ?_
      refine readyI 1 (fun K hK=>?_)
      go_simp
      refine hK.out _ _ ?_
      exact TAIL
   ·refine readyI 4 (fun K hK=>?_)
    go_simp
    refine⟨trivial,?_⟩
    refine(callsIn_wide.2 HCT.out).mono ?_
    rintro e w' ⟨rfl,rfl⟩
    refine hK.out _ _ ?_
    clear hK
    have hcd:candB p d=(d.contains q&& !alwL d):=by unfold candB;rw[HQ.out]
    rw[hcd]at HP2
    obtain⟨ct,hct⟩: ∃b,d.contains q=b:=⟨_,rfl⟩
    obtain⟨al,hal⟩: ∃b,alwL d=b:=⟨_,rfl⟩
    rw[hal]at HAL HP2
    rw[hct]at HP2⊢
    clear hcd hct hal HCT
    cases ct with
    | false=>
     have HP3:=Lib.hid (show pre.map Prod.snd++ratWant (es.drop (k+1)) p=ratWant es p from HP2.out)
     clear HP2
     refine takeI 5 18 ?_
     refine takeJ 6 19 ?_
     refine takeJ 7 20 ?_
     refine readyU 8 21 ?_
     refine takeJ 9 22 ?_
     refine takeI 10 23 ?_
     refine takeI 11 24 ?_
     refine takeJ 12 25 ?_
     refine takeJ 13 26 ?_
     refine readyU 14 27 ?_
     refine takeJ 15 28 ?_
     refine takeI 16 29 ?_
     refine wpAnyIn_done (by kernel_rfl) ?_ _
     gi_wp2_with fail
     go_roundw
     case rel=>exact⟨k+1,pre,by omega,by go_num,Lib.hid (by have:=HPL.out;omega),HP3,HKD,HJD⟩
     case measure=>simp[intOf];omega
    | true=>
     refine takeI 5 18 ?_
     refine takeI 6 19 ?_
     refine readyI 7 (fun K hK=>?_)
     go_simp
     refine hK.out _ _ ?_
     clear hK
     refine readyI 8 (fun K hK=>?_)
     go_simp
     refine⟨trivial,?_⟩
     refine(callsIn_wide.2 HAL.out).mono ?_
     rintro e wA ⟨rfl,hbA⟩
     refine hK.out _ _ ?_
     have HKA:=Lib.hid (HKD.out.trans (KpC.of_below (X:=X0) hbA))
     have HJA:=Lib.hid (own_from_below' HJ.out HJD.out hbA)
     clear hK hbA HAL
     cases al with
     | true=>
      have HP3:=Lib.hid (show pre.map Prod.snd++ratWant (es.drop (k+1)) p=ratWant es p from HP2.out)
      clear HP2
      refine takeI 9 22 ?_
      refine takeI 10 23 ?_
      refine takeI 11 24 ?_
      refine takeJ 12 25 ?_
      refine takeJ 13 26 ?_
      refine readyU 14 27 ?_
      refine takeJ 15 28 ?_
      refine takeI 16 29 ?_
      refine wpAnyIn_done (by kernel_rfl) ?_ _
      gi_wp2_with fail
      go_roundw
      case rel=>exact⟨k+1,pre,by omega,by go_num,Lib.hid (by have:=HPL.out;omega),HP3,HKA,HJA⟩
      case measure=>simp[intOf];omega
     | false=>
      have HP3:=Lib.hid (show(pre++ [(k,id)]).map Prod.snd++ratWant (es.drop (k+1)) p=ratWant es p from by
       rw[←HP2.out,List.map_append,List.append_assoc]
       rfl)
      clear HP2
      refine takeI 9 22 ?_
      refine takeI 10 23 ?_
      refine takeI 11 24 ?_
      refine takeI 12 25 ?_
      refine takeI 13 26 ?_
      obtain⟨fn,tmps,assign,body,hy,hR⟩:=yield_any 8 (HY.out pre (k,id) wA HJA.out ⟨⟨d,HXK.out⟩,by have:=HPL.out;omega⟩)
      dsimp only[cvv]at hy
      have HRR:=Lib.hid hR
      clear hR
      refine readyI 14 (fun K hK=>?_)
      go_simp
      refine HRR.out.mono ?_
      rintro e W5 (⟨rfl,hJ5,hk5⟩|⟨rfl,hJx5,_⟩)
      ·refine hK.out _ _ ?_
       have HJ5:=Lib.hid hJ5
       have HK5:=Lib.hid (HKA.out.trans hk5)
       clear hK hJ5 hk5 hy
       refine takeI 15 28 ?_
       refine takeI 16 29 ?_
       refine wpAnyIn_done (by kernel_rfl) ?_ _
       gi_wp2_with fail
       go_roundw
       case rel=>exact⟨k+1,pre++ [(k,id)],by omega,by go_num,Lib.hid (by have:=HPL.out;simp;omega),HP3,HK5,HJ5⟩
       case measure=>simp[intOf];omega
      ·refine hK.out _ _ ?_
       clear hK hy
       refine takeI 15 28 ?_
       refine takeI 16 29 ?_
       refine wpAnyIn_done (by kernel_rfl) ?_ _
       gi_wp2
       refine bodyPost_ret (results_none rfl _ _ _) rfl ?_
       exact⟨⟨_,rfl⟩,.inr ⟨_,trivial,hJx5⟩⟩
  ·obtain rfl:k=es.length:=by omega
   gi_wp2
   go_end0
   refine⟨⟨_,rfl⟩,.inl ⟨pre,?_,HJS.out⟩⟩
   have:=HP.out
   rw[List.drop_length]at this
   have e:ratWant [] p= []:=rfl
   rwa [e,List.append_nil]at this
end Go.Proofs.YtcbjjdpngeabgaaGreatDoor
