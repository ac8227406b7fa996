/- Plain: proofs whose steps follow by their hints: Check accepts them; what Trim leaves of them is accepted too, is the same trimmed again, and no step of it can be left out. Plain: what Trim leaves of a proof whose steps follow by their hints. -/
import Derived.Test.YtkfgplfllddhnaaGreatV519
import Derived.Test.YtkfgplfllddhnaaGreatV522
namespace Go.Proofs.YtkfgplfllddhnaaGreat
open Go.RowKit
def clOf (cs:List (List Int)) (l:List EStep) (h:Int):List Int:=(cs++l.map EStep.lits).getD (h-1).toNat []
structure RupL (cs:List (List Int)) (l:List EStep):Prop where
 cls: ∀c∈cs,clauseB c=true
 small:cs.length+l.length≤1000
 at_: ∀(j:Nat) (s:EStep),l[j]? =some s→s.del=false∧s.id=((cs.length+j:Nat):Int)+1∧clauseB s.lits=true∧s.hints.length≤65536∧(∀h∈s.hints,1≤h∧h≤((cs.length+j:Nat):Int))∧(chkP s.lits (s.hints.map (clOf cs l))).2.2=0
section
variable {cs:List (List Int)} {l:List EStep}
theorem RupL.clOf_ok (h:RupL cs l) (x:Int):clauseB (clOf cs l x)=true:=by
 unfold clOf
 rw[List.getD_eq_getElem?_getD]
 cases hx:(cs++l.map EStep.lits)[(x-1).toNat]? with
 | none=>rfl
 | some c=>
  show clauseB c=true
  rcases List.mem_append.1 (List.mem_of_getElem? hx)with hm|hm
  ·exact h.cls c hm
  ·obtain⟨s,hs,rfl⟩:=List.mem_map.1 hm
   obtain⟨j,hj⟩:=List.getElem?_of_mem hs
   exact(h.at_ j s hj).2.2.1
structure Part (cs:List (List Int)) (l p:List EStep):Prop where
 asc:p.Pairwise fun a b=>a.id<b.id
 of: ∀s∈p,∃(j:Nat) (x:EStep),l[j]? =some x∧x.id=s.id∧x.lits=s.lits
theorem Part.grw {p:List EStep} (h:Part cs l p) (hl:RupL cs l):Grw1 cs p:=⟨h.asc,fun s hs=>by
 obtain⟨j,x,h1,h2,_⟩:=h.of s hs
 have:=(hl.at_ j x h1).2.1
 omega⟩
theorem Part.get {p:List EStep} (h:Part cs l p) (hl:RupL cs l) {x:Int} (h1:1≤x) (hx:x≤(cs.length:Int)∨∃s∈p,s.id=x):getA (pEnts cs p) x=some (clOf cs l x):=by
 refine getA_of (h.grw hl).rise ?_
 unfold pEnts
 rcases hx with hx|⟨s,hs,hx⟩
 ·refine List.mem_append_left _ (entsFrom_mem.2 ⟨(x-1).toNat,?_,by simp only;omega⟩)
  show cs[(x-1).toNat]? =some (clOf cs l x)
  unfold clOf
  rw[List.getD_eq_getElem?_getD,List.getElem?_append_left (by omega),List.getElem?_eq_getElem (by omega)]
  rfl
 ·obtain⟨j,z,a1,a2,a3⟩:=h.of s hs
  have hid:=(hl.at_ j z a1).2.1
  have hj:=(List.getElem?_eq_some_iff.1 a1).1
  refine List.mem_append_right _ (List.mem_map.2 ⟨s,hs,?_⟩)
  show(s.id,s.lits)=(x,clOf cs l x)
  unfold clOf
  rw[List.getD_eq_getElem?_getD,List.getElem?_append_right (by omega),List.getElem?_map,show(x-1).toNat-cs.length=j by omega,a1,hx,←a3]
  rfl
theorem pEnts_none {p:List EStep} {x:Int} (h1:(cs.length:Int)<x) (hx: ∀s∈p,s.id≠x):getA (pEnts cs p) x=none:=by
 rw[getA_none]
 intro v hv
 unfold pEnts at hv
 rcases List.mem_append.1 hv with hv|hv
 ·obtain⟨j,a1,a2⟩:=entsFrom_mem.1 hv
  have hj:=(List.getElem?_eq_some_iff.1 a1).1
  simp only at a2
  omega
 ·obtain⟨s,hs,e⟩:=List.mem_map.1 hv
  exact hx s hs (congrArg Prod.fst e)
theorem Part.take {p:List EStep} (h:Part cs l p) (k:Nat):Part cs l (p.take k):=⟨h.asc.sublist (List.take_sublist _ _),fun s hs=>h.of s (List.mem_of_mem_take hs)⟩
theorem RupL.part (h:RupL cs l):Part cs l l:=⟨by
 rw[List.pairwise_iff_getElem]
 intro i j hi hj hij
 have h1:=(h.at_ i _ (List.getElem?_eq_getElem hi)).2.1
 have h2:=(h.at_ j _ (List.getElem?_eq_getElem hj)).2.1
 omega,fun s hs=>by
 obtain⟨j,hj⟩:=List.getElem?_of_mem hs
 exact⟨j,s,hj,rfl,rfl⟩⟩
theorem RupL.addy (h:RupL cs l) {j:Nat} {s:EStep} (hj:l[j]? =some s):Addy s:=by
 obtain⟨a1,a2,a3,a4,a5,_⟩:=h.at_ j s hj
 have hjl:=(List.getElem?_eq_some_iff.1 hj).1
 have:=h.small
 exact⟨a1,by omega,by omega,a3,a4,fun x hx=>by
  have:=a5 x hx
  omega⟩
structure Full (cs:List (List Int)) (l p:List EStep):Prop where
 part:Part cs l p
 addy: ∀s∈p,Addy s
 chk: ∀s∈p,(chkP s.lits (s.hints.map (clOf cs l))).2.2=0
 there: ∀s∈p,∀h∈s.hints,h<s.id∧(h≤(cs.length:Int)∨∃z∈p,z.id=h)
theorem RupL.full (h:RupL cs l):Full cs l l where
 part:=h.part
 addy:=fun s hs=>by
  obtain⟨j,hj⟩:=List.getElem?_of_mem hs
  exact h.addy hj
 chk:=fun s hs=>by
  obtain⟨j,hj⟩:=List.getElem?_of_mem hs
  exact(h.at_ j s hj).2.2.2.2.2
 there:=fun s hs x hx=>by
  obtain⟨j,hj⟩:=List.getElem?_of_mem hs
  obtain⟨_,a2,_,_,a5,_⟩:=h.at_ j s hj
  have h5:=a5 x hx
  refine⟨by omega,?_⟩
  rcases Int.lt_or_le (cs.length:Int) x with h6|h6
  ·right
   have hjl:=(List.getElem?_eq_some_iff.1 hj).1
   have hil:(x-1).toNat-cs.length<l.length:=by omega
   obtain⟨z,hz⟩: ∃z,l[(x-1).toNat-cs.length]? =some z:=⟨_,List.getElem?_eq_getElem hil⟩
   refine⟨z,List.mem_of_getElem? hz,?_⟩
   have:=(h.at_ _ z hz).2.1
   omega
  ·exact .inl h6
theorem Full.named {p q r:List EStep} {s:EStep} (h:Full cs l p) (hl:RupL cs l) (e:p=q++s::r):ckNamed (pEnts cs q) s.hints=s.hints.map (clOf cs l):=by
 have hs:s∈p:=by rw[e];simp
 have hq:Part cs l q:=by
  have:=h.part.take q.length
  rw[e,List.take_left]at this
  exact this
 refine named_all s.hints fun x hx=>?_
 obtain⟨h1,h2⟩:=h.there s hs x hx
 refine hq.get hl (by have:=((h.addy s hs).pos x hx).1;omega) (h2.imp id fun⟨z,hz,hzx⟩=>⟨z,?_,hzx⟩)
 have ha:=h.part.asc
 rw[e]at hz ha
 rcases List.mem_append.1 hz with hz|hz
 ·exact hz
 ·rw[List.pairwise_append,List.pairwise_cons]at ha
  rcases List.mem_cons.1 hz with hz|hz
  ·subst hz
   omega
  ·have:=ha.2.1.1 z hz
   omega
theorem Full.step {p q r:List EStep} {s:EStep} (h:Full cs l p) (hl:RupL cs l) (e:p=q++s::r) (hp:(ckrP cs q).proved=false):(ckrP cs q).do_ s=(ckrP cs (q++ [s]),1,0,0):=by
 have hs:s∈p:=by rw[e];simp
 have hq:Part cs l q:=by
  have:=h.part.take q.length
  rw[e,List.take_left]at this
  exact this
 have hg:Grw1 cs p:=h.part.grw hl
 refine do_rup (hq.grw hl) hp (h.addy s hs) ?_ (by rw[h.named hl e];exact h.chk s hs)
 have ha:=hg.asc
 have hlo:=hg.lo s hs
 unfold pLast
 cases hx:q.getLast? with
 | none=>exact hlo
 | some z=>
  rw[e,List.pairwise_append]at ha
  exact ha.2.2 z (List.mem_of_getLast? hx) s List.mem_cons_self
theorem Full.run {p:List EStep} (h:Full cs l p) (hl:RupL cs l): ∀(r q:List EStep),p=q++r→∃m,m≤p.length∧q.length≤m∧runGo (ckrP cs q) r q.length=(ckrP cs (p.take m),m,0)∧(∀i,q.length≤i→i<m→(ckrP cs (p.take i)).proved=false)∧(m<p.length→(ckrP cs (p.take m)).proved=true):=by
 intro r
 induction r with
 | nil=>
  intro q e
  rw[List.append_nil]at e
  subst e
  exact⟨p.length,Nat.le_refl _,Nat.le_refl _,by rw[List.take_length];rfl,fun i h1 h2=>by omega,fun h=>by omega⟩
 | cons s r ih=>
  intro q e
  have hql:q.length<p.length:=by rw[e];simp
  have htk:p.take q.length=q:=by rw[e,List.take_left]
  cases hp:(ckrP cs q).proved with
  | true=>
   refine⟨q.length,Nat.le_of_lt hql,Nat.le_refl _,?_,fun i h1 h2=>by omega,fun _=>by rw[htk];exact hp⟩
   unfold runGo
   rw[if_pos hp,htk]
  | false=>
   have hst:=h.step hl e hp
   obtain⟨m,a1,a2,a3,a4,a5⟩:=ih (q++ [s]) (by rw[e];simp)
   rw[List.length_append,List.length_singleton]at a2 a3 a4
   refine⟨m,a1,by omega,?_,fun i h1 h2=>?_,a5⟩
   ·unfold runGo
    rw[if_neg (by rw[hp];decide),hst,if_neg (by simp)]
    exact a3
   ·rcases Nat.eq_or_lt_of_le h1 with h3|h3
    ·rw[←h3,htk]
     exact hp
    ·exact a4 i h3 h2
theorem prv_take {p:List EStep} {m:Nat} (hm: ∀i,i<m→(ckrP cs (p.take i)).proved=false):(0<m→cs.any List.isEmpty=false)∧∀(i:Nat) (s:EStep),i+1<m→p[i]? =some s→s.lits≠ []:=by
 refine⟨fun h=>?_,fun i s hi hs hn=>?_⟩
 ·have:=hm 0 h
  unfold ckrP at this
  simp only[List.take_zero,List.any_nil,Bool.or_false]at this
  exact this
 ·have:=hm (i+1) hi
  unfold ckrP at this
  simp only[Bool.or_eq_false_iff]at this
  have h2:=List.any_eq_false.1 this.2 s (List.mem_of_getElem? (by rw[List.getElem?_take_of_lt (Nat.lt_succ_self i)];exact hs))
  rw[hn]at h2
  exact h2 rfl
end
theorem do_proved {k:Ckr} {s:EStep} (h:(k.do_ s).1.proved=true):k.proved=true∨s.lits= []:=by
 unfold Ckr.do_ at h
 split at h
 ·exact .inl h
 ·split at h
  ·exact .inl h
  ·split at h
   ·exact .inl h
   ·split at h
    ·split at h
     ·exact .inl h
     ·exact .inl h
    ·split at h
     ·exact .inl h
     ·have h:(k.proved||s.lits.isEmpty)=true:=h
      rw[Bool.or_eq_true]at h
      exact h.imp id List.isEmpty_iff.1
theorem run_proved: ∀(r:List EStep) (k:Ckr) (n:Nat),(runGo k r n).1.proved=true→k.proved=true∨∃s∈r,s.lits= []:=by
 intro r
 induction r with
 | nil=>exact fun k n h=>.inl h
 | cons s r ih=>
  intro k n h
  unfold runGo at h
  split at h
  ·exact .inl h
  ·split at h
   ·exact(do_proved h).imp id fun h=>⟨s,List.mem_cons_self,h⟩
   ·rcases ih _ _ h with h1|⟨z,h1,h2⟩
    ·exact(do_proved h1).imp id fun h=>⟨s,List.mem_cons_self,h⟩
    ·exact .inr ⟨z,List.mem_cons_of_mem _ h1,h2⟩
theorem needI_or {z:Int}: ∀(hs:List Int) (f:Int→Int),needI f hs z≠0↔f z≠0∨z∈hs:=by
 intro hs
 induction hs with
 | nil=>exact fun f=>⟨.inl,fun h=>h.elim id (fun h=>by cases h)⟩
 | cons x r ih=>
  intro f
  refine(ih (fun z=>if z=x then 1 else f z)).trans ?_
  rw[List.mem_cons]
  constructor
  ·rintro (h|h)
   ·by_cases e:z=x
    ·exact .inr (.inl e)
    ·rw[if_neg e]at h
     exact .inl h
   ·exact .inr (.inr h)
  ·rintro (h|h|h)
   ·left
    split
    ·decide
    ·exact h
   ·left
    rw[if_pos h]
    decide
   ·exact .inr h
theorem bkGo_spec: ∀(r:List EStep) (f:Int→Int) (out:List EStep),r.Pairwise (fun a b=>b.id<a.id)→(∀d∈r,∀h∈d.hints,h<d.id)→
  ∃S:List EStep,bkGo f r out=out++S∧S.Sublist r∧∀d∈r,(d∈S↔(d.lits= []∨f d.id≠0∨∃e∈S,d.id∈e.hints)):=by
 intro r
 induction r with
 | nil=>exact fun f out _ _=>⟨[],(List.append_nil _).symm,List.Sublist.refl _,fun d hd=>by cases hd⟩
 | cons s r ih=>
  intro f out hp hh
  rw[List.pairwise_cons]at hp
  by_cases hk:0<s.lits.length∧f s.id=0
  ·obtain⟨S,h1,h2,h3⟩:=ih f out hp.2 (fun d hd=>hh d (List.mem_cons_of_mem _ hd))
   refine⟨S,by unfold bkGo;rw[if_pos hk,h1],h2.trans (List.sublist_cons_self _ _),fun d hd=>?_⟩
   rcases List.mem_cons.1 hd with e|hd
   ·subst e
    constructor
    ·intro h
     have:=hp.1 d (h2.subset h)
     omega
    ·rintro (h|h|⟨e,h,h4⟩)
     ·rw[h]at hk
      exact absurd hk.1 (by simp)
     ·exact absurd hk.2 h
     ·have:=hp.1 e (h2.subset h)
      have:=hh e (List.mem_cons_of_mem _ (h2.subset h)) _ h4
      omega
   ·exact h3 d hd
  ·obtain⟨S,h1,h2,h3⟩:=ih (needI f s.hints) (out++ [s]) hp.2 (fun d hd=>hh d (List.mem_cons_of_mem _ hd))
   refine⟨s::S,by unfold bkGo;rw[if_neg hk,h1,List.append_assoc];rfl,h2.cons_cons s,fun d hd=>?_⟩
   rcases List.mem_cons.1 hd with e|hd
   ·subst e
    refine⟨fun _=>?_,fun _=>List.mem_cons_self⟩
    rcases Nat.eq_zero_or_pos d.lits.length with h4|h4
    ·exact .inl (List.eq_nil_of_length_eq_zero h4)
    ·exact .inr (.inl fun h=>hk ⟨h4,h⟩)
   ·have hne:d≠s:=fun e=>by
     have:=hp.1 d hd
     rw[e]at this
     omega
    rw[List.mem_cons]
    constructor
    ·rintro (h|h)
     ·exact absurd h hne
     ·rcases (h3 d hd).1 h with h4|h4|⟨e,h4,h5⟩
      ·exact .inl h4
      ·rcases (needI_or _ _).1 h4 with h5|h5
       ·exact .inr (.inl h5)
       ·exact .inr (.inr ⟨s,List.mem_cons_self,h5⟩)
      ·exact .inr (.inr ⟨e,List.mem_cons_of_mem _ h4,h5⟩)
    ·intro h
     refine .inr ((h3 d hd).2 ?_)
     rcases h with h4|h4|⟨e,h4,h5⟩
     ·exact .inl h4
     ·exact .inr (.inl ((needI_or _ _).2 (.inl h4)))
     ·rcases List.mem_cons.1 h4 with h6|h4
      ·subst h6
       exact .inr (.inl ((needI_or _ _).2 (.inr h5)))
      ·exact .inr (.inr ⟨e,h4,h5⟩)
theorem bkL_spec {done:List EStep} (hp:done.Pairwise (fun a b=>a.id<b.id)) (hh: ∀d∈done,∀h∈d.hints,h<d.id):(bkL done).Sublist done∧∀d∈done,(d∈bkL done↔(d.lits= []∨∃e∈bkL done,d.id∈e.hints)):=by
 obtain⟨S,h1,h2,h3⟩:=bkGo_spec done.reverse (fun _=>0) [] (List.pairwise_reverse.2 hp) (fun d hd=>hh d (List.mem_reverse.1 hd))
 have e:bkL done=S.reverse:=by
  unfold bkL
  rw[h1,List.nil_append]
 rw[e]
 refine⟨by rw[←List.reverse_reverse done];exact h2.reverse,fun d hd=>?_⟩
 have:=h3 d (List.mem_reverse.2 hd)
 rw[List.mem_reverse,this]
 simp only[List.mem_reverse,ne_eq,not_true_eq_false,false_or]
end Go.Proofs.YtkfgplfllddhnaaGreat
namespace Go.Proofs.YtkfgplfllddhnaaGreat
open Go.RowKit
theorem asc_len: ∀(T:List Nat) (a n:Nat),(∀j∈T,a≤j∧j<n)→T.Pairwise (fun x y=>x<y)→T.length≤n-a:=by
 intro T
 induction T with
 | nil=>exact fun _ _ _ _=>Nat.zero_le _
 | cons x T ih=>
  intro a n h hp
  rw[List.pairwise_cons]at hp
  have h1:=h x List.mem_cons_self
  have:=ih (x+1) n (fun j hj=>⟨hp.1 j hj,(h j (List.mem_cons_of_mem _ hj)).2⟩) hp.2
  rw[List.length_cons]
  omega
theorem asc_uniq {p:List EStep} (h:p.Pairwise fun a b=>a.id<b.id) {s z:EStep} (hs:s∈p) (hz:z∈p) (e:s.id=z.id):s=z:=by
 obtain⟨a1,a2⟩:=List.getElem?_of_mem hs
 obtain⟨b1,b2⟩:=List.getElem?_of_mem hz
 rw[List.pairwise_iff_getElem]at h
 have a3:=List.getElem?_eq_some_iff.1 a2
 have b3:=List.getElem?_eq_some_iff.1 b2
 rcases Nat.lt_trichotomy a1 b1 with h5|h5|h5
 ·have:=h a1 b1 a3.1 b3.1 h5
  rw[a3.2,b3.2]at this
  omega
 ·subst h5
  rw[a2]at b2
  exact Option.some.inj b2
 ·have:=h b1 a1 b3.1 a3.1 h5
  rw[a3.2,b3.2]at this
  omega
def tS (cs:List (List Int)) (l:List EStep) (s:EStep):EStep:=⟨false,s.id,s.lits,(trimP s.lits (s.hints.map (clOf cs l))).map fun j=>s.hints.getD j.toNat 0⟩
structure TStep (cs:List (List Int)) (l:List EStep) (s d:EStep):Prop where
 del:d.del=false
 id:d.id=s.id
 lits:d.lits=s.lits
 sub: ∀x∈d.hints,x∈s.hints
 len:d.hints.length≤s.hints.length
 chk:(chkP d.lits (d.hints.map (clOf cs l))).2.2=0
 again:tS cs l d=d
 few: ∀k,k<d.hints.length→(chkP d.lits ((d.hints.map (clOf cs l)).take k)).2.2=82
section
variable {cs:List (List Int)} {l:List EStep}
theorem tS_ok (hl:RupL cs l) {s:EStep} (hc:clauseB s.lits=true) (hk:(chkP s.lits (s.hints.map (clOf cs l))).2.2=0):TStep cs l s (tS cs l s):=by
 obtain⟨T,hT⟩:=trim_law hc (fun d hd=>by
  obtain⟨x,_,rfl⟩:=List.mem_map.1 hd
  exact hl.clOf_ok x) hk
 have hlt: ∀j∈T,j<s.hints.length:=fun j hj=>by
  have:=hT.lt j hj
  rwa [List.length_map]at this
 have hh:(tS cs l s).hints=T.map fun j=>s.hints.getD j 0:=by
  show(trimP s.lits (s.hints.map (clOf cs l))).map _=_
  rw[hT.eq,List.map_map]
  rfl
 have hm:(tS cs l s).hints.map (clOf cs l)=T.map fun j=>(s.hints.map (clOf cs l)).getD j []:=by
  rw[hh,List.map_map]
  refine List.map_congr_left fun j hj=>?_
  have:=hlt j hj
  show clOf cs l (s.hints.getD j 0)=_
  rw[List.getD_eq_getElem?_getD,List.getElem?_eq_getElem this,List.getD_eq_getElem?_getD,List.getElem?_map,List.getElem?_eq_getElem this]
  rfl
 have hlen:(tS cs l s).hints.length=T.length:=by rw[hh,List.length_map]
 exact {
  del:=rfl
  id:=rfl
  lits:=rfl
  sub:=fun x hx=>by
   rw[hh]at hx
   obtain⟨j,hj,rfl⟩:=List.mem_map.1 hx
   have:=hlt j hj
   rw[List.getD_eq_getElem?_getD,List.getElem?_eq_getElem this]
   exact List.getElem_mem this
  len:=by
   rw[hlen]
   have:=asc_len T 0 s.hints.length (fun j hj=>⟨Nat.zero_le _,hlt j hj⟩) hT.asc
   omega
  chk:=by
   show(chkP s.lits _).2.2=0
   rw[hm]
   exact hT.ok
  again:=by
   obtain⟨d,hd⟩: ∃d,tS cs l s=d:=⟨_,rfl⟩
   have e1:trimP d.lits (d.hints.map (clOf cs l))=(List.range d.hints.length).map Int.ofNat:=by
    rw[←hd,hm,hlen]
    exact hT.again
   have e2:d.del=false:=by rw[←hd];rfl
   rw[hd]
   unfold tS
   rw[e1,List.map_map]
   have e3:(List.range d.hints.length).map ((fun j:Int=>d.hints.getD j.toNat 0) ∘ Int.ofNat)=d.hints:=by
    refine List.ext_getElem? fun i=>?_
    rw[List.getElem?_map]
    by_cases hi:i<d.hints.length
    ·rw[List.getElem?_range hi,List.getElem?_eq_getElem hi]
     show some (d.hints.getD i 0)=_
     rw[List.getD_eq_getElem?_getD,List.getElem?_eq_getElem hi]
     rfl
    ·rw[List.getElem?_eq_none (by rw[List.length_range];omega),List.getElem?_eq_none (by omega)]
     rfl
   rw[e3,←e2]
  few:=fun k hk=>by
   rw[hlen]at hk
   show(chkP s.lits _).2.2=82
   rw[hm]
   exact hT.few k hk }
theorem Full.trm {p:List EStep} (h:Full cs l p) (hl:RupL cs l): ∀(r q out:List EStep),p=q++r→∃m,m≤p.length∧q.length≤m∧trmGo (ckrP cs q) r q.length out=(out++((p.take m).drop q.length).map (tS cs l),m,true)∧(∀i,q.length≤i→i<m→(ckrP cs (p.take i)).proved=false)∧(m<p.length→(ckrP cs (p.take m)).proved=true):=by
 intro r
 induction r with
 | nil=>
  intro q out e
  rw[List.append_nil]at e
  subst e
  refine⟨p.length,Nat.le_refl _,Nat.le_refl _,?_,fun i h1 h2=>by omega,fun h=>by omega⟩
  rw[List.take_length,List.drop_length,List.map_nil,List.append_nil]
  rfl
 | cons s r ih=>
  intro q out e
  have hql:q.length<p.length:=by rw[e];simp
  have htk:p.take q.length=q:=by rw[e,List.take_left]
  cases hp:(ckrP cs q).proved with
  | true=>
   refine⟨q.length,Nat.le_of_lt hql,Nat.le_refl _,?_,fun i h1 h2=>by omega,fun _=>by rw[htk];exact hp⟩
   unfold trmGo
   rw[if_pos hp,htk,List.drop_length,List.map_nil,List.append_nil]
  | false=>
   have hst:=h.step hl e hp
   have hnm:=h.named hl e
   have hs:s∈p:=by rw[e];simp
   have hts:trimS (ckrP cs q) s=tS cs l s:=by
    have e2:(ckrP cs q).ents=pEnts cs q:=rfl
    unfold trimS tS
    rw[(h.addy s hs).split,e2]
    simp only
    rw[hnm]
   obtain⟨m,a1,a2,a3,a4,a5⟩:=ih (q++ [s]) (out++ [tS cs l s]) (by rw[e];simp)
   rw[List.length_append,List.length_singleton]at a2 a3 a4
   refine⟨m,a1,by omega,?_,fun i h1 h2=>?_,a5⟩
   ·unfold trmGo
    rw[if_neg (by rw[hp];decide),hst,if_neg (by simp),if_pos rfl,hts]
    simp only
    rw[a3]
    have hd:(p.take m).drop q.length=s::(p.take m).drop (q.length+1):=by
     have hlt:q.length<(p.take m).length:=by rw[List.length_take];omega
     rw[List.drop_eq_getElem_cons hlt]
     congr 1
     rw[List.getElem_take]
     have h1:p[q.length]? =some s:=by rw[e,List.getElem?_append_right (Nat.le_refl _),Nat.sub_self];rfl
     rw[List.getElem?_eq_getElem hql]at h1
     exact Option.some.inj h1
    rw[hd,List.map_cons,List.append_assoc]
    rfl
   ·rcases Nat.eq_or_lt_of_le h1 with h3|h3
    ·rw[←h3,htk]
     exact hp
    ·exact a4 i h3 h2
theorem Full.cut {p:List EStep} (h:Full cs l p) (hl:RupL cs l) (hfew: ∀s∈p,∀k,k<s.hints.length→(chkP s.lits ((s.hints.map (clOf cs l)).take k)).2.2=82) {z:EStep} (hz:z∈p) (hzl:(cs.length:Int)<z.id) (hcs:cs.any List.isEmpty=false) (hone: ∀a b x y,p=a++x::b→y∈b→x.lits≠ []):
  ∀(r q q':List EStep),p=q++r→(∀s,s∈q'↔s∈q∧s≠z)→q'.Pairwise (fun a b=>a.id<b.id)→(∃e∈r,z.id∈e.hints)→(runGo (ckrP cs q') (r.filter fun s=>decide (s.id≠z.id)) q'.length).2.2≠0:=by
 intro r
 induction r with
 | nil=>exact fun _ _ _ _ _ ⟨e,he,_⟩=>by cases he
 | cons s r ih=>
  intro q q' e hq hqa hex
  have hs:s∈p:=by rw[e];simp
  have hg:=h.part.grw hl
  have hasc:=h.part.asc
  rw[e,List.pairwise_append,List.pairwise_cons]at hasc
  by_cases hsz:s.id=z.id
  ·obtain rfl:=asc_uniq h.part.asc hs hz hsz
   rw[List.filter_cons_of_neg (by simp)]
   refine ih (q++ [s]) q' (by rw[e];simp) (fun x=>?_) hqa ?_
   ·rw[hq,List.mem_append,List.mem_singleton]
    constructor
    ·exact fun⟨a,b⟩=>⟨.inl a,b⟩
    ·exact fun⟨a,b⟩=>⟨a.resolve_right b,b⟩
   ·obtain⟨d,hd,hd2⟩:=hex
    rcases List.mem_cons.1 hd with e2|hd
    ·subst e2
     have:=(h.there d hs _ hd2).1
     omega
    ·exact⟨d,hd,hd2⟩
  ·have hsz2:s≠z:=fun e=>hsz (by rw[e])
   rw[List.filter_cons_of_pos (by simpa using hsz)]
   have hpart:Part cs l q':=⟨hqa,fun x hx=>h.part.of x (by rw[e];exact List.mem_append_left _ ((hq x).1 hx).1)⟩
   have hpv:(ckrP cs q').proved=false:=by
    show(cs.any List.isEmpty||q'.any fun s=>s.lits.isEmpty)=false
    rw[hcs,Bool.false_or]
    refine List.any_eq_false.2 fun x hx hx2=>?_
    have hxq:=((hq x).1 hx).1
    obtain⟨a,b,e3⟩:=List.append_of_mem hxq
    exact hone a (b++s::r) x s (by rw[e,e3];simp) (by simp) (List.isEmpty_iff.1 hx2)
   have hlast:pLast cs q'<s.id:=by
    unfold pLast
    cases hx:q'.getLast? with
    | none=>exact hg.lo s hs
    | some y=>exact hasc.2.2 y ((hq y).1 (List.mem_of_getLast? hx)).1 s List.mem_cons_self
   have hat: ∀x∈s.hints,x≠z.id→getA (pEnts cs q') x=some (clOf cs l x):=fun x hx hne=>by
    obtain⟨h1,h2⟩:=h.there s hs x hx
    refine hpart.get hl (by have:=((h.addy s hs).pos x hx).1;omega) (h2.imp id fun⟨y,hy,hyx⟩=>⟨y,(hq y).2 ⟨?_,fun e2=>hne (by rw[←hyx,e2])⟩,hyx⟩)
    rw[e]at hy
    rcases List.mem_append.1 hy with hy|hy
    ·exact hy
    ·rcases List.mem_cons.1 hy with hy|hy
     ·subst hy
      omega
     ·have:=hasc.2.1.1 y hy
      omega
   unfold runGo
   rw[if_neg (by rw[hpv];decide)]
   by_cases hin:z.id∈s.hints
   ·obtain⟨hs1,hs2,e4,hno⟩:=List.eq_append_cons_of_mem hin
    have hnone:getA (pEnts cs q') z.id=none:=pEnts_none hzl fun x hx ex=>by
     obtain⟨hxq,hxz⟩:=(hq x).1 hx
     exact hxz (asc_uniq h.part.asc (by rw[e];exact List.mem_append_left _ hxq) hz ex)
    have hnm:ckNamed (pEnts cs q') s.hints=hs1.map (clOf cs l):=by
     rw[e4]
     exact named_cut hnone hs2 hs1 fun x hx=>hat x (by rw[e4];exact List.mem_append_left _ hx) (fun e5=>hno (e5▸hx))
    have hlt:hs1.length<s.hints.length:=by rw[e4];simp
    have hk:=hfew s hs hs1.length hlt
    have hd:=do_cut (cs:=cs) (p:=q') (s:=s) hpv (h.addy s hs) hlast (by
     rw[hnm,←hk,e4,List.map_append,List.take_append_of_le_length (by rw[List.length_map];exact Nat.le_refl _),List.take_of_length_le (by rw[List.length_map];exact Nat.le_refl _)]) (by rw[hnm,List.length_map];exact hlt)
    rw[if_pos (by rw[hd];decide)]
    show((ckrP cs q').do_ s).2.2.2≠0
    rw[hd]
    decide
   ·have hnm:ckNamed (pEnts cs q') s.hints=s.hints.map (clOf cs l):=named_all s.hints fun x hx=>hat x hx (fun e5=>hin (e5▸hx))
    have hd:=do_rup (hpart.grw hl) hpv (h.addy s hs) hlast (by rw[hnm];exact h.chk s hs)
    rw[hd,if_neg (by simp)]
    have:=ih (q++ [s]) (q'++ [s]) (by rw[e];simp) (fun x=>?_) ?_ ?_
    ·rw[List.length_append,List.length_singleton]at this
     exact this
    ·rw[List.mem_append,List.mem_append,hq,List.mem_singleton]
     constructor
     ·rintro (⟨a,b⟩|a)
      ·exact⟨.inl a,b⟩
      ·exact⟨.inr a,by rw[a];exact hsz2⟩
     ·rintro ⟨a|a,b⟩
      ·exact .inl ⟨a,b⟩
      ·exact .inr a
    ·rw[List.pairwise_append]
     refine⟨hqa,List.pairwise_singleton _ _,fun a ha b hb=>?_⟩
     rw[List.mem_singleton.1 hb]
     exact hasc.2.2 a ((hq a).1 ha).1 s List.mem_cons_self
    ·obtain⟨d,hd1,hd2⟩:=hex
     rcases List.mem_cons.1 hd1 with e2|hd1
     ·subst e2
      exact absurd hd2 hin
     ·exact⟨d,hd1,hd2⟩
end
end Go.Proofs.YtkfgplfllddhnaaGreat
