/- Plain: proofs whose steps follow by their hints: Check accepts them; what Trim leaves of them is accepted too, is the same trimmed again, and no step of it can be left out. Plain: what Trim leaves of a proof whose steps follow by their hints. Plain: Trim, whole: it proves it too, is the same trimmed again, and without any of its steps it does not. Plain: steps that resolve follow by their hints, with a step that nobody needs in front too; what Check says of them. The examples of chapter 10: awake. slices.Backward and slices.Reverse at steps. slices.Reverse at steps. package proof: Trim, at a right formula. -/
import Derived.Test.YtcbjjdpngeabgaaGreatDoorV825
import Derived.Test.YtcbjjdpngeabgaaGreatDoorV828
import Derived.Test.YtcbjjdpngeabgaaGreatDoorV821
import Derived.Test.YtcbjjdpngeabgaaGreatDoorV829
import Derived.Test.YtcbjjdpngeabgaaGreatDoorV824
import Derived.Test.YtcbjjdpngeabgaaGreatDoorV823
namespace Go.Proofs.YtcbjjdpngeabgaaGreatDoor
open Go.RowKit
def clOf (cs:List (List Int)) (l:List EStep) (h:Int):List Int:=(cs++l.map EStep.lits).getD (h-1).toNat []
structure RupL (cs:List (List Int)) (l:List EStep):Prop where
 cls: ∀c∈cs,clauseB c=true
 small:cs.length+l.length≤1000
 at_: ∀(j:Nat) (s:EStep),l[j]? =some s→s.del=false∧s.id=((cs.length+j:Nat):Int)+1∧clauseB s.lits=true∧s.hints.length≤65536∧(∀h∈s.hints,1≤h∧h≤((cs.length+j:Nat):Int))∧(chkP s.lits (s.hints.map (clOf cs l))).2.2=0
section
variable {cs:List (List Int)} {l:List EStep}
structure Part (cs:List (List Int)) (l p:List EStep):Prop where
 asc:p.Pairwise fun a b=>a.id<b.id
 of: ∀s∈p,∃(j:Nat) (x:EStep),l[j]? =some x∧x.id=s.id∧x.lits=s.lits
theorem Part.grw {p:List EStep} (h:Part cs l p) (hl:RupL cs l):Grw1 cs p:=⟨h.asc,fun s hs=>by
 obtain⟨j,x,h1,h2,_⟩:=h.of s hs
 have:=(hl.at_ j x h1).2.1
 omega⟩
theorem Part.get {p:List EStep} (h:Part cs l p) (hl:RupL cs l) {x:Int} (h1:1≤x) (hx:x≤(cs.length:Int)∨∃s∈p,s.id=x):getA (pEnts cs p) x=some (clOf cs l x):=by
 refine getA_of (h.grw hl).rise ?_
 unfold pEnts
 rcases hx with hx|⟨s,hs,hx⟩
 ·refine List.mem_append_left _ (entsFrom_mem.2 ⟨(x-1).toNat,?_,by simp only;omega⟩)
  show cs[(x-1).toNat]? =some (clOf cs l x)
  unfold clOf
  rw[List.getD_eq_getElem?_getD,List.getElem?_append_left (by omega),List.getElem?_eq_getElem (by omega)]
  rfl
 ·obtain⟨j,z,a1,a2,a3⟩:=h.of s hs
  have hid:=(hl.at_ j z a1).2.1
  have hj:=(List.getElem?_eq_some_iff.1 a1).1
  refine List.mem_append_right _ (List.mem_map.2 ⟨s,hs,?_⟩)
  show(s.id,s.lits)=(x,clOf cs l x)
  unfold clOf
  rw[List.getD_eq_getElem?_getD,List.getElem?_append_right (by omega),List.getElem?_map,show(x-1).toNat-cs.length=j by omega,a1,hx,←a3]
  rfl
theorem pEnts_none {p:List EStep} {x:Int} (h1:(cs.length:Int)<x) (hx: ∀s∈p,s.id≠x):getA (pEnts cs p) x=none:=by
 rw[getA_none]
 intro v hv
 unfold pEnts at hv
 rcases List.mem_append.1 hv with hv|hv
 ·obtain⟨j,a1,a2⟩:=entsFrom_mem.1 hv
  have hj:=(List.getElem?_eq_some_iff.1 a1).1
  simp only at a2
  omega
 ·obtain⟨s,hs,e⟩:=List.mem_map.1 hv
  exact hx s hs (congrArg Prod.fst e)
theorem Part.take {p:List EStep} (h:Part cs l p) (k:Nat):Part cs l (p.take k):=⟨h.asc.sublist (List.take_sublist _ _),fun s hs=>h.of s (List.mem_of_mem_take hs)⟩
theorem RupL.part (h:RupL cs l):Part cs l l:=⟨by
 rw[List.pairwise_iff_getElem]
 intro i j hi hj hij
 have h1:=(h.at_ i _ (List.getElem?_eq_getElem hi)).2.1
 have h2:=(h.at_ j _ (List.getElem?_eq_getElem hj)).2.1
 omega,fun s hs=>by
 obtain⟨j,hj⟩:=List.getElem?_of_mem hs
 exact⟨j,s,hj,rfl,rfl⟩⟩
theorem RupL.addy (h:RupL cs l) {j:Nat} {s:EStep} (hj:l[j]? =some s):Addy s:=by
 obtain⟨a1,a2,a3,a4,a5,_⟩:=h.at_ j s hj
 have hjl:=(List.getElem?_eq_some_iff.1 hj).1
 have:=h.small
 exact⟨a1,by omega,by omega,a3,a4,fun x hx=>by
  have:=a5 x hx
  omega⟩
structure Full (cs:List (List Int)) (l p:List EStep):Prop where
 part:Part cs l p
 addy: ∀s∈p,Addy s
 chk: ∀s∈p,(chkP s.lits (s.hints.map (clOf cs l))).2.2=0
 there: ∀s∈p,∀h∈s.hints,h<s.id∧(h≤(cs.length:Int)∨∃z∈p,z.id=h)
theorem RupL.full (h:RupL cs l):Full cs l l where
 part:=h.part
 addy:=fun s hs=>by
  obtain⟨j,hj⟩:=List.getElem?_of_mem hs
  exact h.addy hj
 chk:=fun s hs=>by
  obtain⟨j,hj⟩:=List.getElem?_of_mem hs
  exact(h.at_ j s hj).2.2.2.2.2
 there:=fun s hs x hx=>by
  obtain⟨j,hj⟩:=List.getElem?_of_mem hs
  obtain⟨_,a2,_,_,a5,_⟩:=h.at_ j s hj
  have h5:=a5 x hx
  refine⟨by omega,?_⟩
  rcases Int.lt_or_le (cs.length:Int) x with h6|h6
  ·right
   have hjl:=(List.getElem?_eq_some_iff.1 hj).1
   have hil:(x-1).toNat-cs.length<l.length:=by omega
   obtain⟨z,hz⟩: ∃z,l[(x-1).toNat-cs.length]? =some z:=⟨_,List.getElem?_eq_getElem hil⟩
   refine⟨z,List.mem_of_getElem? hz,?_⟩
   have:=(h.at_ _ z hz).2.1
   omega
  ·exact .inl h6
theorem Full.named {p q r:List EStep} {s:EStep} (h:Full cs l p) (hl:RupL cs l) (e:p=q++s::r):ckNamed (pEnts cs q) s.hints=s.hints.map (clOf cs l):=by
 have hs:s∈p:=by rw[e];simp
 have hq:Part cs l q:=by
  have:=h.part.take q.length
  rw[e,List.take_left]at this
  exact this
 refine named_all s.hints fun x hx=>?_
 obtain⟨h1,h2⟩:=h.there s hs x hx
 refine hq.get hl (by have:=((h.addy s hs).pos x hx).1;omega) (h2.imp id fun⟨z,hz,hzx⟩=>⟨z,?_,hzx⟩)
 have ha:=h.part.asc
 rw[e]at hz ha
 rcases List.mem_append.1 hz with hz|hz
 ·exact hz
 ·rw[List.pairwise_append,List.pairwise_cons]at ha
  rcases List.mem_cons.1 hz with hz|hz
  ·subst hz
   omega
  ·have:=ha.2.1.1 z hz
   omega
theorem Full.step {p q r:List EStep} {s:EStep} (h:Full cs l p) (hl:RupL cs l) (e:p=q++s::r) (hp:(ckrP cs q).proved=false):(ckrP cs q).do_ s=(ckrP cs (q++ [s]),1,0,0):=by
 have hs:s∈p:=by rw[e];simp
 have hq:Part cs l q:=by
  have:=h.part.take q.length
  rw[e,List.take_left]at this
  exact this
 have hg:Grw1 cs p:=h.part.grw hl
 refine do_rup (hq.grw hl) hp (h.addy s hs) ?_ (by rw[h.named hl e];exact h.chk s hs)
 have ha:=hg.asc
 have hlo:=hg.lo s hs
 unfold pLast
 cases hx:q.getLast? with
 | none=>exact hlo
 | some z=>
  rw[e,List.pairwise_append]at ha
  exact ha.2.2 z (List.mem_of_getLast? hx) s List.mem_cons_self
theorem Full.run {p:List EStep} (h:Full cs l p) (hl:RupL cs l): ∀(r q:List EStep),p=q++r→∃m,m≤p.length∧q.length≤m∧runGo (ckrP cs q) r q.length=(ckrP cs (p.take m),m,0)∧(∀i,q.length≤i→i<m→(ckrP cs (p.take i)).proved=false)∧(m<p.length→(ckrP cs (p.take m)).proved=true):=by
 intro r
 induction r with
 | nil=>
  intro q e
  rw[List.append_nil]at e
  subst e
  exact⟨p.length,Nat.le_refl _,Nat.le_refl _,by rw[List.take_length];rfl,fun i h1 h2=>by omega,fun h=>by omega⟩
 | cons s r ih=>
  intro q e
  have hql:q.length<p.length:=by rw[e];simp
  have htk:p.take q.length=q:=by rw[e,List.take_left]
  cases hp:(ckrP cs q).proved with
  | true=>
   refine⟨q.length,Nat.le_of_lt hql,Nat.le_refl _,?_,fun i h1 h2=>by omega,fun _=>by rw[htk];exact hp⟩
   unfold runGo
   rw[if_pos hp,htk]
  | false=>
   have hst:=h.step hl e hp
   obtain⟨m,a1,a2,a3,a4,a5⟩:=ih (q++ [s]) (by rw[e];simp)
   rw[List.length_append,List.length_singleton]at a2 a3 a4
   refine⟨m,a1,by omega,?_,fun i h1 h2=>?_,a5⟩
   ·unfold runGo
    rw[if_neg (by rw[hp];decide),hst,if_neg (by simp)]
    exact a3
   ·rcases Nat.eq_or_lt_of_le h1 with h3|h3
    ·rw[←h3,htk]
     exact hp
    ·exact a4 i h3 h2
end
end Go.Proofs.YtcbjjdpngeabgaaGreatDoor
namespace Go.Proofs.YtcbjjdpngeabgaaGreatDoor
open Go.RowKit
theorem asc_uniq {p:List EStep} (h:p.Pairwise fun a b=>a.id<b.id) {s z:EStep} (hs:s∈p) (hz:z∈p) (e:s.id=z.id):s=z:=by
 obtain⟨a1,a2⟩:=List.getElem?_of_mem hs
 obtain⟨b1,b2⟩:=List.getElem?_of_mem hz
 rw[List.pairwise_iff_getElem]at h
 have a3:=List.getElem?_eq_some_iff.1 a2
 have b3:=List.getElem?_eq_some_iff.1 b2
 rcases Nat.lt_trichotomy a1 b1 with h5|h5|h5
 ·have:=h a1 b1 a3.1 b3.1 h5
  rw[a3.2,b3.2]at this
  omega
 ·subst h5
  rw[a2]at b2
  exact Option.some.inj b2
 ·have:=h b1 a1 b3.1 a3.1 h5
  rw[a3.2,b3.2]at this
  omega
def tS (cs:List (List Int)) (l:List EStep) (s:EStep):EStep:=⟨false,s.id,s.lits,(trimP s.lits (s.hints.map (clOf cs l))).map fun j=>s.hints.getD j.toNat 0⟩
structure TStep (cs:List (List Int)) (l:List EStep) (s d:EStep):Prop where
 del:d.del=false
 id:d.id=s.id
 lits:d.lits=s.lits
 sub: ∀x∈d.hints,x∈s.hints
 len:d.hints.length≤s.hints.length
 chk:(chkP d.lits (d.hints.map (clOf cs l))).2.2=0
 again:tS cs l d=d
 few: ∀k,k<d.hints.length→(chkP d.lits ((d.hints.map (clOf cs l)).take k)).2.2=82
section
variable {cs:List (List Int)} {l:List EStep}
theorem Full.trm {p:List EStep} (h:Full cs l p) (hl:RupL cs l): ∀(r q out:List EStep),p=q++r→∃m,m≤p.length∧q.length≤m∧trmGo (ckrP cs q) r q.length out=(out++((p.take m).drop q.length).map (tS cs l),m,true)∧(∀i,q.length≤i→i<m→(ckrP cs (p.take i)).proved=false)∧(m<p.length→(ckrP cs (p.take m)).proved=true):=by
 intro r
 induction r with
 | nil=>
  intro q out e
  rw[List.append_nil]at e
  subst e
  refine⟨p.length,Nat.le_refl _,Nat.le_refl _,?_,fun i h1 h2=>by omega,fun h=>by omega⟩
  rw[List.take_length,List.drop_length,List.map_nil,List.append_nil]
  rfl
 | cons s r ih=>
  intro q out e
  have hql:q.length<p.length:=by rw[e];simp
  have htk:p.take q.length=q:=by rw[e,List.take_left]
  cases hp:(ckrP cs q).proved with
  | true=>
   refine⟨q.length,Nat.le_of_lt hql,Nat.le_refl _,?_,fun i h1 h2=>by omega,fun _=>by rw[htk];exact hp⟩
   unfold trmGo
   rw[if_pos hp,htk,List.drop_length,List.map_nil,List.append_nil]
  | false=>
   have hst:=h.step hl e hp
   have hnm:=h.named hl e
   have hs:s∈p:=by rw[e];simp
   have hts:trimS (ckrP cs q) s=tS cs l s:=by
    have e2:(ckrP cs q).ents=pEnts cs q:=rfl
    unfold trimS tS
    rw[(h.addy s hs).split,e2]
    simp only
    rw[hnm]
   obtain⟨m,a1,a2,a3,a4,a5⟩:=ih (q++ [s]) (out++ [tS cs l s]) (by rw[e];simp)
   rw[List.length_append,List.length_singleton]at a2 a3 a4
   refine⟨m,a1,by omega,?_,fun i h1 h2=>?_,a5⟩
   ·unfold trmGo
    rw[if_neg (by rw[hp];decide),hst,if_neg (by simp),if_pos rfl,hts]
    simp only
    rw[a3]
    have hd:(p.take m).drop q.length=s::(p.take m).drop (q.length+1):=by
     have hlt:q.length<(p.take m).length:=by rw[List.length_take];omega
     rw[List.drop_eq_getElem_cons hlt]
     congr 1
     rw[List.getElem_take]
     have h1:p[q.length]? =some s:=by rw[e,List.getElem?_append_right (Nat.le_refl _),Nat.sub_self];rfl
     rw[List.getElem?_eq_getElem hql]at h1
     exact Option.some.inj h1
    rw[hd,List.map_cons,List.append_assoc]
    rfl
   ·rcases Nat.eq_or_lt_of_le h1 with h3|h3
    ·rw[←h3,htk]
     exact hp
    ·exact a4 i h3 h2
theorem Full.cut {p:List EStep} (h:Full cs l p) (hl:RupL cs l) (hfew: ∀s∈p,∀k,k<s.hints.length→(chkP s.lits ((s.hints.map (clOf cs l)).take k)).2.2=82) {z:EStep} (hz:z∈p) (hzl:(cs.length:Int)<z.id) (hcs:cs.any List.isEmpty=false) (hone: ∀a b x y,p=a++x::b→y∈b→x.lits≠ []):
  ∀(r q q':List EStep),p=q++r→(∀s,s∈q'↔s∈q∧s≠z)→q'.Pairwise (fun a b=>a.id<b.id)→(∃e∈r,z.id∈e.hints)→(runGo (ckrP cs q') (r.filter fun s=>decide (s.id≠z.id)) q'.length).2.2≠0:=by
 intro r
 induction r with
 | nil=>exact fun _ _ _ _ _ ⟨e,he,_⟩=>by cases he
 | cons s r ih=>
  intro q q' e hq hqa hex
  have hs:s∈p:=by rw[e];simp
  have hg:=h.part.grw hl
  have hasc:=h.part.asc
  rw[e,List.pairwise_append,List.pairwise_cons]at hasc
  by_cases hsz:s.id=z.id
  ·obtain rfl:=asc_uniq h.part.asc hs hz hsz
   rw[List.filter_cons_of_neg (by simp)]
   refine ih (q++ [s]) q' (by rw[e];simp) (fun x=>?_) hqa ?_
   ·rw[hq,List.mem_append,List.mem_singleton]
    constructor
    ·exact fun⟨a,b⟩=>⟨.inl a,b⟩
    ·exact fun⟨a,b⟩=>⟨a.resolve_right b,b⟩
   ·obtain⟨d,hd,hd2⟩:=hex
    rcases List.mem_cons.1 hd with e2|hd
    ·subst e2
     have:=(h.there d hs _ hd2).1
     omega
    ·exact⟨d,hd,hd2⟩
  ·have hsz2:s≠z:=fun e=>hsz (by rw[e])
   rw[List.filter_cons_of_pos (by simpa using hsz)]
   have hpart:Part cs l q':=⟨hqa,fun x hx=>h.part.of x (by rw[e];exact List.mem_append_left _ ((hq x).1 hx).1)⟩
   have hpv:(ckrP cs q').proved=false:=by
    show(cs.any List.isEmpty||q'.any fun s=>s.lits.isEmpty)=false
    rw[hcs,Bool.false_or]
    refine List.any_eq_false.2 fun x hx hx2=>?_
    have hxq:=((hq x).1 hx).1
    obtain⟨a,b,e3⟩:=List.append_of_mem hxq
    exact hone a (b++s::r) x s (by rw[e,e3];simp) (by simp) (List.isEmpty_iff.1 hx2)
   have hlast:pLast cs q'<s.id:=by
    unfold pLast
    cases hx:q'.getLast? with
    | none=>exact hg.lo s hs
    | some y=>exact hasc.2.2 y ((hq y).1 (List.mem_of_getLast? hx)).1 s List.mem_cons_self
   have hat: ∀x∈s.hints,x≠z.id→getA (pEnts cs q') x=some (clOf cs l x):=fun x hx hne=>by
    obtain⟨h1,h2⟩:=h.there s hs x hx
    refine hpart.get hl (by have:=((h.addy s hs).pos x hx).1;omega) (h2.imp id fun⟨y,hy,hyx⟩=>⟨y,(hq y).2 ⟨?_,fun e2=>hne (by rw[←hyx,e2])⟩,hyx⟩)
    rw[e]at hy
    rcases List.mem_append.1 hy with hy|hy
    ·exact hy
    ·rcases List.mem_cons.1 hy with hy|hy
     ·subst hy
      omega
     ·have:=hasc.2.1.1 y hy
      omega
   unfold runGo
   rw[if_neg (by rw[hpv];decide)]
   by_cases hin:z.id∈s.hints
   ·obtain⟨hs1,hs2,e4,hno⟩:=List.eq_append_cons_of_mem hin
    have hnone:getA (pEnts cs q') z.id=none:=pEnts_none hzl fun x hx ex=>by
     obtain⟨hxq,hxz⟩:=(hq x).1 hx
     exact hxz (asc_uniq h.part.asc (by rw[e];exact List.mem_append_left _ hxq) hz ex)
    have hnm:ckNamed (pEnts cs q') s.hints=hs1.map (clOf cs l):=by
     rw[e4]
     exact named_cut hnone hs2 hs1 fun x hx=>hat x (by rw[e4];exact List.mem_append_left _ hx) (fun e5=>hno (e5▸hx))
    have hlt:hs1.length<s.hints.length:=by rw[e4];simp
    have hk:=hfew s hs hs1.length hlt
    have hd:=do_cut (cs:=cs) (p:=q') (s:=s) hpv (h.addy s hs) hlast (by
     rw[hnm,←hk,e4,List.map_append,List.take_append_of_le_length (by rw[List.length_map];exact Nat.le_refl _),List.take_of_length_le (by rw[List.length_map];exact Nat.le_refl _)]) (by rw[hnm,List.length_map];exact hlt)
    rw[if_pos (by rw[hd];decide)]
    show((ckrP cs q').do_ s).2.2.2≠0
    rw[hd]
    decide
   ·have hnm:ckNamed (pEnts cs q') s.hints=s.hints.map (clOf cs l):=named_all s.hints fun x hx=>hat x hx (fun e5=>hin (e5▸hx))
    have hd:=do_rup (hpart.grw hl) hpv (h.addy s hs) hlast (by rw[hnm];exact h.chk s hs)
    rw[hd,if_neg (by simp)]
    have:=ih (q++ [s]) (q'++ [s]) (by rw[e];simp) (fun x=>?_) ?_ ?_
    ·rw[List.length_append,List.length_singleton]at this
     exact this
    ·rw[List.mem_append,List.mem_append,hq,List.mem_singleton]
     constructor
     ·rintro (⟨a,b⟩|a)
      ·exact⟨.inl a,b⟩
      ·exact⟨.inr a,by rw[a];exact hsz2⟩
     ·rintro ⟨a|a,b⟩
      ·exact .inl ⟨a,b⟩
      ·exact .inr a
    ·rw[List.pairwise_append]
     refine⟨hqa,List.pairwise_singleton _ _,fun a ha b hb=>?_⟩
     rw[List.mem_singleton.1 hb]
     exact hasc.2.2 a ((hq a).1 ha).1 s List.mem_cons_self
    ·obtain⟨d,hd1,hd2⟩:=hex
     rcases List.mem_cons.1 hd1 with e2|hd1
     ·subst e2
      exact absurd hd2 hin
     ·exact⟨d,hd1,hd2⟩
end
end Go.Proofs.YtcbjjdpngeabgaaGreatDoor
namespace Go.Proofs.YtcbjjdpngeabgaaGreatDoor
open Go.RowKit
section
variable {cs:List (List Int)} {l:List EStep}
structure TrimW (cs:List (List Int)) (l G:List EStep):Prop where
 full:Full cs l G
 len:G.length≤l.length
 run:runGo (ckrNew cs) G 0=(ckrP cs G,G.length,0)
 prv:(ckrP cs G).proved=true
 trm:trmGo (ckrNew cs) G 0 []=(G,G.length,true)
 bk:bkL G=G
 sub: ∀s∈G,∃x∈l,x.id=s.id∧x.lits=s.lits∧∀h∈s.hints,h∈x.hints
 cut: ∀i,i<G.length→runE (runGo (ckrNew cs) (G.eraseIdx i) 0)≠0
end
end Go.Proofs.YtcbjjdpngeabgaaGreatDoor
namespace Go.Proofs.YtcbjjdpngeabgaaGreatDoor
open Go.RowKit
def moveS (n:Nat) (s:EStep):EStep:=⟨false,s.id+1,s.lits,s.hints.map fun h=>if(n:Int)<h then h+1 else h⟩
def moveL (cs:List (List Int)) (l:List EStep):List EStep:=⟨false,(cs.length:Int)+1,cs.getD 0 [],[1]⟩::l.map (moveS cs.length)
section
variable {cs:List (List Int)} {l:List EStep}
structure ChkR (cs:List (List Int)) (l:List EStep) (m:Nat):Prop where
 le:m≤l.length
 run:runGo (ckrNew cs) l 0=(ckrP cs (l.take m),m,0)
 pre: ∀i,i<m→(ckrP cs (l.take i)).proved=false
 stop:m<l.length→(ckrP cs (l.take m)).proved=true
theorem ChkR.none {m:Nat} (h:ChkR cs l m) (ha:cs.any List.isEmpty=false) (hn: ∀s∈l,s.lits≠ []):m=l.length∧(ckrP cs (l.take m)).proved=false:=by
 have key: ∀i,(ckrP cs (l.take i)).proved=false:=fun i=>by
  show(cs.any List.isEmpty||(l.take i).any fun s=>s.lits.isEmpty)=false
  rw[ha,Bool.false_or]
  exact List.any_eq_false.2 fun x hx hx2=>hn x (List.mem_of_mem_take hx) (List.isEmpty_iff.1 hx2)
 refine⟨?_,key m⟩
 rcases Nat.lt_or_ge m l.length with h1|h1
 ·have:=h.stop h1
  rw[key m]at this
  cases this
 ·have:=h.le
  omega
theorem ChkR.first {m d:Nat} (h:ChkR cs l m) (ha:cs.any List.isEmpty=false) (hd: ∃s,l[d]? =some s∧s.lits= []) (hf: ∀i s,i<d→l[i]? =some s→s.lits≠ []):m=d+1∧(ckrP cs (l.take m)).proved=true:=by
 obtain⟨s,hs,hs2⟩:=hd
 have hdl:=(List.getElem?_eq_some_iff.1 hs).1
 have hpr:(ckrP cs (l.take (d+1))).proved=true:=by
  show(cs.any List.isEmpty||(l.take (d+1)).any fun s=>s.lits.isEmpty)=true
  rw[Bool.or_eq_true]
  refine .inr (List.any_eq_true.2 ⟨s,List.mem_of_getElem? (i:=d) ?_,by rw[hs2];rfl⟩)
  rw[List.getElem?_take_of_lt (Nat.lt_succ_self d)]
  exact hs
 have hm:m=d+1:=by
  rcases Nat.lt_trichotomy m (d+1)with h1|h1|h1
  ·have h2:=h.stop (by omega)
   have h3:(cs.any List.isEmpty||(l.take m).any fun s=>s.lits.isEmpty)=true:=h2
   rw[ha,Bool.false_or]at h3
   obtain⟨z,hz,hz2⟩:=List.any_eq_true.1 h3
   obtain⟨i,hi⟩:=List.getElem?_of_mem hz
   have hil:=(List.getElem?_eq_some_iff.1 hi).1
   rw[List.length_take]at hil
   rw[List.getElem?_take_of_lt (by omega)]at hi
   exact absurd (List.isEmpty_iff.1 hz2) (hf i z (by omega) hi)
  ·exact h1
  ·have:=h.pre (d+1) h1
   rw[hpr]at this
   cases this
 exact⟨hm,by rw[hm];exact hpr⟩
end
end Go.Proofs.YtcbjjdpngeabgaaGreatDoor
namespace Go.Proofs.YtcbjjdpngeabgaaGreatDoor
open Go.RowKit
end Go.Proofs.YtcbjjdpngeabgaaGreatDoor
namespace Go.Proofs.YtcbjjdpngeabgaaGreatDoor
open Go.RowKit Go.Shelf Go.Maps
attribute [local go_sem] Oper.semAt_some
def bsv (x:StV×Nat):Array Value:= #[.int .i64 (x.2:Int),.agg #[.bool x.1.1.del,.int .i64 x.1.1.id,.slice x.1.2.1.1 x.1.1.lits.length x.1.2.1.2,.slice x.1.2.2.1 x.1.1.hints.length x.1.2.2.2]]
def BSPre (xs:List StV) (_:Nat) (pre:List (StV×Nat)) (x:StV×Nat) (_:World):Prop:=pre++ [x] <+: xs.zipIdx.reverse
def BSPost (X:Nat→Prop) (_:StV×Nat) (W W':World):Prop:=KpC X W W'
theorem BSPost.turn {X:Nat→Prop} {x:StV×Nat} {W W3:World} {l:Nat} {r r':Loop} (h:BSPost X x W W3) (hl:W3.heap[l]? =some (.loop r)):BSPost X x W (W3.putObj l (.loop r')):=
 KpC.trans h ((KpC.putObj W3 l _ _ hl rfl rfl).mono (fun _ _ e=>e.elim))
end Go.Proofs.YtcbjjdpngeabgaaGreatDoor
namespace Go.Proofs.YtcbjjdpngeabgaaGreatDoor
open Go.RowKit
def RevAt (K K':List StV) (i:Nat):Prop:=K'.length=K.length∧∀t,K'[t]? =if t<i∨K.length-i≤t then K.reverse[t]? else K[t]?
theorem RevAt.zero (K:List StV):RevAt K K 0:=⟨rfl,fun t=>by
 by_cases h:t<K.length
 ·rw[if_neg (by omega)]
 ·rw[List.getElem?_eq_none (by omega),List.getElem?_eq_none (by rw[List.length_reverse];omega)]
  split <;> rfl⟩
theorem RevAt.mem {K K':List StV} {i:Nat} (h:RevAt K K' i) {t:Nat} {x:StV} (hx:K'[t]? =some x):x∈K:=by
 rw[h.2 t]at hx
 split at hx
 ·exact List.mem_reverse.1 (List.mem_of_getElem? hx)
 ·exact List.mem_of_getElem? hx
theorem RevAt.step {K K':List StV} {i:Nat} (h:RevAt K K' i) (hi:i+1<K.length-i) {x y:StV} (hx:K'[i]? =some x) (hy:K'[K.length-1-i]? =some y):RevAt K ((K'.set i y).set (K.length-1-i) x) (i+1):=by
 obtain⟨h1,h2⟩:=h
 refine⟨by rw[List.length_set,List.length_set,h1],fun t=>?_⟩
 have hx2:K[i]? =some x:=by
  rw[h2 i,if_neg (by omega)]at hx
  exact hx
 have hy2:K[K.length-1-i]? =some y:=by
  rw[h2,if_neg (by omega)]at hy
  exact hy
 rw[List.getElem?_set,List.length_set,h1,List.getElem?_set,h1]
 by_cases e1:K.length-1-i=t
 ·rw[if_pos e1,if_pos (by omega),if_pos (by omega),←e1,List.getElem?_reverse (by omega),show K.length-1-(K.length-1-i)=i by omega,hx2]
 ·rw[if_neg e1]
  by_cases e2:i=t
  ·rw[if_pos e2,if_pos (by omega),if_pos (by omega),←e2,List.getElem?_reverse (by omega),hy2]
  ·rw[if_neg e2,h2 t]
   by_cases e3:t<i∨K.length-i≤t
   ·rw[if_pos e3,if_pos (by omega)]
   ·rw[if_neg e3,if_neg (by omega)]
theorem RevAt.done {K K':List StV} {i:Nat} (h:RevAt K K' i) (hi:K.length≤2*i+1):K'=K.reverse:=by
 obtain⟨h1,h2⟩:=h
 refine List.ext_getElem? fun t=>?_
 rw[h2 t]
 split
 ·rfl
 ·rename_i e
  have et:t=i:=by omega
  subst et
  rcases Nat.lt_or_ge t K.length with h3|h3
  ·rw[List.getElem?_reverse h3,show K.length-1-t=t by omega]
  ·rw[List.getElem?_eq_none h3,List.getElem?_eq_none (by rw[List.length_reverse];exact h3)]
end Go.Proofs.YtcbjjdpngeabgaaGreatDoor
namespace Go.Proofs.YtcbjjdpngeabgaaGreatDoor
open Go.RowKit Go.Shelf Go.Maps
attribute [local go_sem] Oper.semAt_some
theorem cell_cells {w:World} {p:Addr} {v:Value} (h:w.cell? p=some v): ∃o:Obj,w.heap[p.block]? =some o∧o.isCells=true:=by
 unfold World.cell? at h
 cases ho:w.heap[p.block]? with
 | none=>rw[ho]at h;cases h
 | some o=>
  refine⟨o,rfl,?_⟩
  rw[ho]at h
  cases o <;> simp_all [Obj.isCells]
theorem ckf_not {b:Nat} {w:World} {p:Addr} {v:Value} (h:w.cell? p=some v) (hb:p.block≠b): ¬(p.block=b∨∃o:Obj,w.heap[p.block]? =some o∧o.isCells=false):=by
 obtain⟨o,h1,h2⟩:=cell_cells h
 rintro (e|⟨o',h3,h4⟩)
 ·exact hb e
 ·rw[h1]at h3
  cases h3
  rw[h2]at h4
  cases h4
theorem CkF.cell {b:Nat} {w w':World} (k:CkF b w w') {p:Addr} {v:Value} (h:w.cell? p=some v) (hb:p.block≠b):w'.cell? p=some v:=
 (Kept.cell k (World.block_lt_of_cell? w _ h) (ckf_not h hb)).trans h
theorem CkF.block {b:Nat} {w w':World} (k:CkF b w w') {g:Nat} {cs:Array Value} {t:TypeId} {z:Nat×Nat} (h:w.heap[g]? =some (.cells cs t z)) (hb:g≠b):w'.heap[g]? =some (.cells cs t z):=
 (Kept.block k g (heap_lt h) (by
  rintro (e|⟨o,h1,h2⟩)
  ·exact hb e
  ·rw[h]at h1
   cases h1
   cases h2)).trans h
def TrimOut (R:Ckr×Nat×Nat) (T:List EStep×Nat×Bool) (n0:Nat) (w':World) (e:Ending):Prop:=
 if runE R≠0 then e= .returned (.tuple #[.slice none 0 0,.int .i64 (R.2.1:Nat),.int .i64 (runE R:Nat)])else
 if T.2.2=false then e= .returned (.tuple #[.slice none 0 0,.int .i64 (T.2.1:Nat),.int .i64 102])else
 ∃v K,e= .returned (.tuple #[v,.int .i64 (-1),.int .i64 0])∧K.map Prod.fst=bkL T.1∧StMem n0 w' v K
theorem TrimOut.bad {R:Ckr×Nat×Nat} {T:List EStep×Nat×Bool} {n0:Nat} {w':World} {E:Nat} (hE:runE R=E) (h:E≠0):TrimOut R T n0 w' (.returned (.tuple #[.slice none 0 0,.int .i64 (R.2.1:Nat),.int .i64 (E:Nat)])):=by
 unfold TrimOut
 rw[hE,if_pos h]
theorem TrimOut.kind {R:Ckr×Nat×Nat} {T:List EStep×Nat×Bool} {n0 k:Nat} {w':World} {xs:List EStep} (hE:runE R=0) (h:T=(xs,k,false)):TrimOut R T n0 w' (.returned (.tuple #[.slice none 0 0,.int .i64 (k:Nat),.int .i64 102])):=by
 unfold TrimOut
 rw[hE,if_neg (fun h=>h rfl),h,if_pos rfl]
theorem TrimOut.good {R:Ckr×Nat×Nat} {T:List EStep×Nat×Bool} {n0 k:Nat} {w':World} {xs:List EStep} (hE:runE R=0) (h:T=(xs,k,true)) {v:Value} {K:List StV} (hK:K.map Prod.fst=bkL xs) (hm:StMem n0 w' v K):TrimOut R T n0 w' (.returned (.tuple #[v,.int .i64 (-1),.int .i64 0])):=by
 unfold TrimOut
 rw[hE,if_neg (fun h=>h rfl),h,if_neg (fun h=>by cases h)]
 exact⟨v,K,rfl,hK,hm⟩
def KOk (x:StV):Prop:=x.1.hints.length≤65536∧(Lit.int .i64 x.1.id).wf=true∧∀h∈x.1.hints,(Lit.int .i64 h).wf=true
structure BkI (w5:World) (z:Nat) (pre:List (StV×Nat)) (W:World):Prop where
 ex: ∃v n,Boxed W z 31 v∧W.ownsRow z 41 4 v ((pre.map Prod.fst).foldl bkStep (fun _=>0,[])).2.length (((pre.map Prod.fst).foldl bkStep (fun _=>0,[])).2.flatMap stcell)∧(∀g,v.ownBlock=some g→w5.heap.size≤g)∧MapAt W (z+1) n ((pre.map Prod.fst).foldl bkStep (fun _=>0,[])).1∧n≤pre.length*65536
 mp:Boxed W (z+2) 65 (.map (some (z+1)))
 kept:KpC (fun g=>z≤g∧g≠z+3) w5 W
 low:Below z w5 W
theorem bk_snoc (pre:List (StV×Nat)) (x:StV×Nat):((pre++ [x]).map Prod.fst).foldl bkStep (fun _=>0,[])=bkStep ((pre.map Prod.fst).foldl bkStep (fun _=>0,[])) x.1:=by
 rw[List.map_append,List.foldl_append]
 rfl
theorem BkI.skip {w5:World} {z:Nat} {pre:List (StV×Nat)} {x:StV×Nat} {W:World} (h:BkI w5 z pre W) (hs:bkStep ((pre.map Prod.fst).foldl bkStep (fun _=>0,[])) x.1=(pre.map Prod.fst).foldl bkStep (fun _=>0,[])):BkI w5 z (pre++ [x]) W where
 ex:=by
  obtain⟨v,n,h1,h2,h3,h4,h5⟩:=h.ex
  rw[bk_snoc,hs]
  exact⟨v,n,h1,h2,h3,h4,Nat.le_trans h5 (Nat.mul_le_mul_right _ (by rw[List.length_append];exact Nat.le_add_right _ _))⟩
 mp:=h.mp
 kept:=h.kept
 low:=h.low
theorem BkI.add {w5:World} {z:Nat} {pre:List (StV×Nat)} {x:StV×Nat} {W':World} {f f':Int→Int} {S S':List StV} {v':Value} {n':Nat} (hs:(pre.map Prod.fst).foldl bkStep (fun _=>0,[])=(f,S)) (hb:bkStep (f,S) x.1=(f',S')) (h1:Boxed W' z 31 v') (h2:W'.ownsRow z 41 4 v' S'.length (S'.flatMap stcell)) (h3: ∀g,v'.ownBlock=some g→w5.heap.size≤g) (h4:MapAt W' (z+1) n' f') (h5:n'≤(pre.length+1)*65536) (h6:Boxed W' (z+2) 65 (.map (some (z+1)))) (h7:KpC (fun g=>z≤g∧g≠z+3) w5 W') (h8:Below z w5 W'):BkI w5 z (pre++ [x]) W' where
 ex:=by
  rw[bk_snoc,hs,hb]
  exact⟨v',n',h1,h2,h3,h4,Nat.le_trans h5 (Nat.mul_le_mul_right _ (by rw[List.length_append,List.length_singleton];exact Nat.le_refl _))⟩
 mp:=h6
 kept:=h7
 low:=h8
theorem bki_own (w5:World) (z:Nat) {N:Nat} (hN:w5.heap.size≤N) (hz:z+3<w5.heap.size):OwnFrom N (BkI w5 z):=fun pre W W' row h hg hr=>by
 obtain⟨v,n,h1,h2,h3,h4,h5⟩:=h.ex
 exact⟨⟨v,n,boxed_grown h1 hg (fun q e=>(hr q e).2),own_nocells h2 hg (fun q e=>(hr q e).2),h3,h4.kept (Kept.grown hg) (fun e=>by have:=(hr _ e.symm).1;omega),h5⟩,boxed_grown h.mp hg (fun q e=>(hr q e).2),h.kept.trans ((KpC.of_grown hg).mono fun g _ e=>by have:=(hr g e.symm).1;exact⟨by omega,by omega⟩),h.low.grown hg (by have:=h.low.size;omega) (fun q e=>by have:=(hr q e).1;omega)⟩
structure BkMid (w5:World) (z:Nat) (K:List StV) (pre:List (StV×Nat)) (x:StV×Nat) (W:World) (B:Nat) (W':World):Prop where
 bi:BkI w5 z pre W'
 pr:BSPre K 0 pre x W'
 po:KpC (fun g=>z≤g∧g≠z+3) W W'
 lo:w5.heap.size≤B
 lt: ∀v,Boxed W' z 31 v→∀g,v.ownBlock=some g→g<B
 box:W'.heap[B]? =some (.cells #[.bool x.1.1.del,.int .i64 x.1.1.id,.slice x.1.2.1.1 x.1.1.lits.length x.1.2.1.2,.slice x.1.2.2.1 x.1.1.hints.length x.1.2.2.2] 41 (0,0))
theorem BkMid.turn {w5:World} {z:Nat} {K:List StV} {pre:List (StV×Nat)} {x:StV×Nat} {W W':World} {B l:Nat} {q q':Loop} (hz:z+3<w5.heap.size) (hl:w5.heap.size≤l) (h2:W'.heap[l]? =some (.loop q)) (h:BkMid w5 z K pre x W B W'):BkMid w5 z K pre x W B (W'.putObj l (.loop q')) where
 bi:=(bki_own w5 z (Nat.le_refl _) hz).putObj _ h.bi hl h2 rfl
 pr:=h.pr
 po:=h.po.trans ((KpC.putObj W' l _ _ h2 rfl rfl).mono (fun _ _ e=>e.elim))
 lo:=h.lo
 lt:=fun v hv g hg=>by
  have hne:z≠l:=by omega
  have e:(W'.putObj l (.loop q')).heap[z]? =W'.heap[z]? :=World.putObj_heap_other hne
  exact h.lt v (show W'.heap[z]? =_ from e▸hv) g hg
 box:=(World.putObj_heap_other (by
  rintro rfl
  rw[h.box]at h2
  cases h2)).trans h.box
end Go.Proofs.YtcbjjdpngeabgaaGreatDoor
