/- Plain: proofs whose steps follow by their hints: Check accepts them; what Trim leaves of them is accepted too, is the same trimmed again, and no step of it can be left out. Plain: what Trim leaves of a proof whose steps follow by their hints. -/
import Derived.Test.YtajbmjpodeilpaaGreatV119
import Derived.Test.YtajbmjpodeilpaaGreatV126
namespace Go.Proofs.YtajbmjpodeilpaaGreat
open Go.RowKit
def clOf (cs:List (List Int)) (l:List EStep) (h:Int):List Int:=(cs++l.map EStep.lits).getD (h-1).toNat []
structure RupL (cs:List (List Int)) (l:List EStep):Prop where
 cls: ∀c∈cs,clauseB c=true
 small:cs.length+l.length≤1000
 at_: ∀(j:Nat) (s:EStep),l[j]? =some s→s.del=false∧s.id=((cs.length+j:Nat):Int)+1∧clauseB s.lits=true∧s.hints.length≤65536∧(∀h∈s.hints,1≤h∧h≤((cs.length+j:Nat):Int))∧(chkP s.lits (s.hints.map (clOf cs l))).2.2=0
section
variable {cs:List (List Int)} {l:List EStep}
structure Part (cs:List (List Int)) (l p:List EStep):Prop where
 asc:p.Pairwise fun a b=>a.id<b.id
 of: ∀s∈p,∃(j:Nat) (x:EStep),l[j]? =some x∧x.id=s.id∧x.lits=s.lits
theorem Part.grw {p:List EStep} (h:Part cs l p) (hl:RupL cs l):Grw1 cs p:=⟨h.asc,fun s hs=>by
 obtain⟨j,x,h1,h2,_⟩:=h.of s hs
 have:=(hl.at_ j x h1).2.1
 omega⟩
theorem Part.get {p:List EStep} (h:Part cs l p) (hl:RupL cs l) {x:Int} (h1:1≤x) (hx:x≤(cs.length:Int)∨∃s∈p,s.id=x):getA (pEnts cs p) x=some (clOf cs l x):=by
 refine getA_of (h.grw hl).rise ?_
 unfold pEnts
 rcases hx with hx|⟨s,hs,hx⟩
 ·refine List.mem_append_left _ (entsFrom_mem.2 ⟨(x-1).toNat,?_,by simp only;omega⟩)
  show cs[(x-1).toNat]? =some (clOf cs l x)
  unfold clOf
  rw[List.getD_eq_getElem?_getD,List.getElem?_append_left (by omega),List.getElem?_eq_getElem (by omega)]
  rfl
 ·obtain⟨j,z,a1,a2,a3⟩:=h.of s hs
  have hid:=(hl.at_ j z a1).2.1
  have hj:=(List.getElem?_eq_some_iff.1 a1).1
  refine List.mem_append_right _ (List.mem_map.2 ⟨s,hs,?_⟩)
  show(s.id,s.lits)=(x,clOf cs l x)
  unfold clOf
  rw[List.getD_eq_getElem?_getD,List.getElem?_append_right (by omega),List.getElem?_map,show(x-1).toNat-cs.length=j by omega,a1,hx,←a3]
  rfl
theorem Part.take {p:List EStep} (h:Part cs l p) (k:Nat):Part cs l (p.take k):=⟨h.asc.sublist (List.take_sublist _ _),fun s hs=>h.of s (List.mem_of_mem_take hs)⟩
theorem RupL.part (h:RupL cs l):Part cs l l:=⟨by
 rw[List.pairwise_iff_getElem]
 intro i j hi hj hij
 have h1:=(h.at_ i _ (List.getElem?_eq_getElem hi)).2.1
 have h2:=(h.at_ j _ (List.getElem?_eq_getElem hj)).2.1
 omega,fun s hs=>by
 obtain⟨j,hj⟩:=List.getElem?_of_mem hs
 exact⟨j,s,hj,rfl,rfl⟩⟩
theorem RupL.addy (h:RupL cs l) {j:Nat} {s:EStep} (hj:l[j]? =some s):Addy s:=by
 obtain⟨a1,a2,a3,a4,a5,_⟩:=h.at_ j s hj
 have hjl:=(List.getElem?_eq_some_iff.1 hj).1
 have:=h.small
 exact⟨a1,by omega,by omega,a3,a4,fun x hx=>by
  have:=a5 x hx
  omega⟩
structure Full (cs:List (List Int)) (l p:List EStep):Prop where
 part:Part cs l p
 addy: ∀s∈p,Addy s
 chk: ∀s∈p,(chkP s.lits (s.hints.map (clOf cs l))).2.2=0
 there: ∀s∈p,∀h∈s.hints,h<s.id∧(h≤(cs.length:Int)∨∃z∈p,z.id=h)
theorem Full.named {p q r:List EStep} {s:EStep} (h:Full cs l p) (hl:RupL cs l) (e:p=q++s::r):ckNamed (pEnts cs q) s.hints=s.hints.map (clOf cs l):=by
 have hs:s∈p:=by rw[e];simp
 have hq:Part cs l q:=by
  have:=h.part.take q.length
  rw[e,List.take_left]at this
  exact this
 refine named_all s.hints fun x hx=>?_
 obtain⟨h1,h2⟩:=h.there s hs x hx
 refine hq.get hl (by have:=((h.addy s hs).pos x hx).1;omega) (h2.imp id fun⟨z,hz,hzx⟩=>⟨z,?_,hzx⟩)
 have ha:=h.part.asc
 rw[e]at hz ha
 rcases List.mem_append.1 hz with hz|hz
 ·exact hz
 ·rw[List.pairwise_append,List.pairwise_cons]at ha
  rcases List.mem_cons.1 hz with hz|hz
  ·subst hz
   omega
  ·have:=ha.2.1.1 z hz
   omega
theorem Full.step {p q r:List EStep} {s:EStep} (h:Full cs l p) (hl:RupL cs l) (e:p=q++s::r) (hp:(ckrP cs q).proved=false):(ckrP cs q).do_ s=(ckrP cs (q++ [s]),1,0,0):=by
 have hs:s∈p:=by rw[e];simp
 have hq:Part cs l q:=by
  have:=h.part.take q.length
  rw[e,List.take_left]at this
  exact this
 have hg:Grw1 cs p:=h.part.grw hl
 refine do_rup (hq.grw hl) hp (h.addy s hs) ?_ (by rw[h.named hl e];exact h.chk s hs)
 have ha:=hg.asc
 have hlo:=hg.lo s hs
 unfold pLast
 cases hx:q.getLast? with
 | none=>exact hlo
 | some z=>
  rw[e,List.pairwise_append]at ha
  exact ha.2.2 z (List.mem_of_getLast? hx) s List.mem_cons_self
theorem Full.run {p:List EStep} (h:Full cs l p) (hl:RupL cs l): ∀(r q:List EStep),p=q++r→∃m,m≤p.length∧q.length≤m∧runGo (ckrP cs q) r q.length=(ckrP cs (p.take m),m,0)∧(∀i,q.length≤i→i<m→(ckrP cs (p.take i)).proved=false)∧(m<p.length→(ckrP cs (p.take m)).proved=true):=by
 intro r
 induction r with
 | nil=>
  intro q e
  rw[List.append_nil]at e
  subst e
  exact⟨p.length,Nat.le_refl _,Nat.le_refl _,by rw[List.take_length];rfl,fun i h1 h2=>by omega,fun h=>by omega⟩
 | cons s r ih=>
  intro q e
  have hql:q.length<p.length:=by rw[e];simp
  have htk:p.take q.length=q:=by rw[e,List.take_left]
  cases hp:(ckrP cs q).proved with
  | true=>
   refine⟨q.length,Nat.le_of_lt hql,Nat.le_refl _,?_,fun i h1 h2=>by omega,fun _=>by rw[htk];exact hp⟩
   unfold runGo
   rw[if_pos hp,htk]
  | false=>
   have hst:=h.step hl e hp
   obtain⟨m,a1,a2,a3,a4,a5⟩:=ih (q++ [s]) (by rw[e];simp)
   rw[List.length_append,List.length_singleton]at a2 a3 a4
   refine⟨m,a1,by omega,?_,fun i h1 h2=>?_,a5⟩
   ·unfold runGo
    rw[if_neg (by rw[hp];decide),hst,if_neg (by simp)]
    exact a3
   ·rcases Nat.eq_or_lt_of_le h1 with h3|h3
    ·rw[←h3,htk]
     exact hp
    ·exact a4 i h3 h2
end
end Go.Proofs.YtajbmjpodeilpaaGreat
namespace Go.Proofs.YtajbmjpodeilpaaGreat
open Go.RowKit
theorem asc_len: ∀(T:List Nat) (a n:Nat),(∀j∈T,a≤j∧j<n)→T.Pairwise (fun x y=>x<y)→T.length≤n-a:=by
 intro T
 induction T with
 | nil=>exact fun _ _ _ _=>Nat.zero_le _
 | cons x T ih=>
  intro a n h hp
  rw[List.pairwise_cons]at hp
  have h1:=h x List.mem_cons_self
  have:=ih (x+1) n (fun j hj=>⟨hp.1 j hj,(h j (List.mem_cons_of_mem _ hj)).2⟩) hp.2
  rw[List.length_cons]
  omega
def tS (cs:List (List Int)) (l:List EStep) (s:EStep):EStep:=⟨false,s.id,s.lits,(trimP s.lits (s.hints.map (clOf cs l))).map fun j=>s.hints.getD j.toNat 0⟩
structure TStep (cs:List (List Int)) (l:List EStep) (s d:EStep):Prop where
 del:d.del=false
 id:d.id=s.id
 lits:d.lits=s.lits
 sub: ∀x∈d.hints,x∈s.hints
 len:d.hints.length≤s.hints.length
 chk:(chkP d.lits (d.hints.map (clOf cs l))).2.2=0
 again:tS cs l d=d
 few: ∀k,k<d.hints.length→(chkP d.lits ((d.hints.map (clOf cs l)).take k)).2.2=82
section
variable {cs:List (List Int)} {l:List EStep}
end
end Go.Proofs.YtajbmjpodeilpaaGreat
