/- Plain: what Trim leaves of a proof whose steps follow by their hints. -/
import Derived.Test.YtkfgplfllddhnaaGreatDoorV725
namespace Go.Proofs.YtkfgplfllddhnaaGreatDoor
open Go.RowKit
theorem asc_len: ∀(T:List Nat) (a n:Nat),(∀j∈T,a≤j∧j<n)→T.Pairwise (fun x y=>x<y)→T.length≤n-a:=by
 intro T
 induction T with
 | nil=>exact fun _ _ _ _=>Nat.zero_le _
 | cons x T ih=>
  intro a n h hp
  rw[List.pairwise_cons]at hp
  have h1:=h x List.mem_cons_self
  have:=ih (x+1) n (fun j hj=>⟨hp.1 j hj,(h j (List.mem_cons_of_mem _ hj)).2⟩) hp.2
  rw[List.length_cons]
  omega
theorem asc_uniq {p:List EStep} (h:p.Pairwise fun a b=>a.id<b.id) {s z:EStep} (hs:s∈p) (hz:z∈p) (e:s.id=z.id):s=z:=by
 obtain⟨a1,a2⟩:=List.getElem?_of_mem hs
 obtain⟨b1,b2⟩:=List.getElem?_of_mem hz
 rw[List.pairwise_iff_getElem]at h
 have a3:=List.getElem?_eq_some_iff.1 a2
 have b3:=List.getElem?_eq_some_iff.1 b2
 rcases Nat.lt_trichotomy a1 b1 with h5|h5|h5
 ·have:=h a1 b1 a3.1 b3.1 h5
  rw[a3.2,b3.2]at this
  omega
 ·subst h5
  rw[a2]at b2
  exact Option.some.inj b2
 ·have:=h b1 a1 b3.1 a3.1 h5
  rw[a3.2,b3.2]at this
  omega
def tS (cs:List (List Int)) (l:List EStep) (s:EStep):EStep:=⟨false,s.id,s.lits,(trimP s.lits (s.hints.map (clOf cs l))).map fun j=>s.hints.getD j.toNat 0⟩
structure TStep (cs:List (List Int)) (l:List EStep) (s d:EStep):Prop where
 del:d.del=false
 id:d.id=s.id
 lits:d.lits=s.lits
 sub: ∀x∈d.hints,x∈s.hints
 len:d.hints.length≤s.hints.length
 chk:(chkP d.lits (d.hints.map (clOf cs l))).2.2=0
 again:tS cs l d=d
 few: ∀k,k<d.hints.length→(chkP d.lits ((d.hints.map (clOf cs l)).take k)).2.2=82
section
variable {cs:List (List Int)} {l:List EStep}
theorem Full.trm {p:List EStep} (h:Full cs l p) (hl:RupL cs l): ∀(r q out:List EStep),p=q++r→∃m,m≤p.length∧q.length≤m∧trmGo (ckrP cs q) r q.length out=(out++((p.take m).drop q.length).map (tS cs l),m,true)∧(∀i,q.length≤i→i<m→(ckrP cs (p.take i)).proved=false)∧(m<p.length→(ckrP cs (p.take m)).proved=true):=by
 intro r
 induction r with
 | nil=>
  intro q out e
  rw[List.append_nil]at e
  subst e
  refine⟨p.length,Nat.le_refl _,Nat.le_refl _,?_,fun i h1 h2=>by omega,fun h=>by omega⟩
  rw[List.take_length,List.drop_length,List.map_nil,List.append_nil]
  rfl
 | cons s r ih=>
  intro q out e
  have hql:q.length<p.length:=by rw[e];simp
  have htk:p.take q.length=q:=by rw[e,List.take_left]
  cases hp:(ckrP cs q).proved with
  | true=>
   refine⟨q.length,Nat.le_of_lt hql,Nat.le_refl _,?_,fun i h1 h2=>by omega,fun _=>by rw[htk];exact hp⟩
   unfold trmGo
   rw[if_pos hp,htk,List.drop_length,List.map_nil,List.append_nil]
  | false=>
   have hst:=h.step hl e hp
   have hnm:=h.named hl e
   have hs:s∈p:=by rw[e];simp
   have hts:trimS (ckrP cs q) s=tS cs l s:=by
    have e2:(ckrP cs q).ents=pEnts cs q:=rfl
    unfold trimS tS
    rw[(h.addy s hs).split,e2]
    simp only
    rw[hnm]
   obtain⟨m,a1,a2,a3,a4,a5⟩:=ih (q++ [s]) (out++ [tS cs l s]) (by rw[e];simp)
   rw[List.length_append,List.length_singleton]at a2 a3 a4
   refine⟨m,a1,by omega,?_,fun i h1 h2=>?_,a5⟩
   ·unfold trmGo
    rw[if_neg (by rw[hp];decide),hst,if_neg (by simp),if_pos rfl,hts]
    simp only
    rw[a3]
    have hd:(p.take m).drop q.length=s::(p.take m).drop (q.length+1):=by
     have hlt:q.length<(p.take m).length:=by rw[List.length_take];omega
     rw[List.drop_eq_getElem_cons hlt]
     congr 1
     rw[List.getElem_take]
     have h1:p[q.length]? =some s:=by rw[e,List.getElem?_append_right (Nat.le_refl _),Nat.sub_self];rfl
     rw[List.getElem?_eq_getElem hql]at h1
     exact Option.some.inj h1
    rw[hd,List.map_cons,List.append_assoc]
    rfl
   ·rcases Nat.eq_or_lt_of_le h1 with h3|h3
    ·rw[←h3,htk]
     exact hp
    ·exact a4 i h3 h2
theorem Full.cut {p:List EStep} (h:Full cs l p) (hl:RupL cs l) (hfew: ∀s∈p,∀k,k<s.hints.length→(chkP s.lits ((s.hints.map (clOf cs l)).take k)).2.2=82) {z:EStep} (hz:z∈p) (hzl:(cs.length:Int)<z.id) (hcs:cs.any List.isEmpty=false) (hone: ∀a b x y,p=a++x::b→y∈b→x.lits≠ []):
  ∀(r q q':List EStep),p=q++r→(∀s,s∈q'↔s∈q∧s≠z)→q'.Pairwise (fun a b=>a.id<b.id)→(∃e∈r,z.id∈e.hints)→(runGo (ckrP cs q') (r.filter fun s=>decide (s.id≠z.id)) q'.length).2.2≠0:=by
 intro r
 induction r with
 | nil=>exact fun _ _ _ _ _ ⟨e,he,_⟩=>by cases he
 | cons s r ih=>
  intro q q' e hq hqa hex
  have hs:s∈p:=by rw[e];simp
  have hg:=h.part.grw hl
  have hasc:=h.part.asc
  rw[e,List.pairwise_append,List.pairwise_cons]at hasc
  by_cases hsz:s.id=z.id
  ·obtain rfl:=asc_uniq h.part.asc hs hz hsz
   rw[List.filter_cons_of_neg (by simp)]
   refine ih (q++ [s]) q' (by rw[e];simp) (fun x=>?_) hqa ?_
   ·rw[hq,List.mem_append,List.mem_singleton]
    constructor
    ·exact fun⟨a,b⟩=>⟨.inl a,b⟩
    ·exact fun⟨a,b⟩=>⟨a.resolve_right b,b⟩
   ·obtain⟨d,hd,hd2⟩:=hex
    rcases List.mem_cons.1 hd with e2|hd
    ·subst e2
     have:=(h.there d hs _ hd2).1
     omega
    ·exact⟨d,hd,hd2⟩
  ·have hsz2:s≠z:=fun e=>hsz (by rw[e])
   rw[List.filter_cons_of_pos (by simpa using hsz)]
   have hpart:Part cs l q':=⟨hqa,fun x hx=>h.part.of x (by rw[e];exact List.mem_append_left _ ((hq x).1 hx).1)⟩
   have hpv:(ckrP cs q').proved=false:=by
    show(cs.any List.isEmpty||q'.any fun s=>s.lits.isEmpty)=false
    rw[hcs,Bool.false_or]
    refine List.any_eq_false.2 fun x hx hx2=>?_
    have hxq:=((hq x).1 hx).1
    obtain⟨a,b,e3⟩:=List.append_of_mem hxq
    exact hone a (b++s::r) x s (by rw[e,e3];simp) (by simp) (List.isEmpty_iff.1 hx2)
   have hlast:pLast cs q'<s.id:=by
    unfold pLast
    cases hx:q'.getLast? with
    | none=>exact hg.lo s hs
    | some y=>exact hasc.2.2 y ((hq y).1 (List.mem_of_getLast? hx)).1 s List.mem_cons_self
   have hat: ∀x∈s.hints,x≠z.id→getA (pEnts cs q') x=some (clOf cs l x):=fun x hx hne=>by
    obtain⟨h1,h2⟩:=h.there s hs x hx
    refine hpart.get hl (by have:=((h.addy s hs).pos x hx).1;omega) (h2.imp id fun⟨y,hy,hyx⟩=>⟨y,(hq y).2 ⟨?_,fun e2=>hne (by rw[←hyx,e2])⟩,hyx⟩)
    rw[e]at hy
    rcases List.mem_append.1 hy with hy|hy
    ·exact hy
    ·rcases List.mem_cons.1 hy with hy|hy
     ·subst hy
      omega
     ·have:=hasc.2.1.1 y hy
      omega
   unfold runGo
   rw[if_neg (by rw[hpv];decide)]
   by_cases hin:z.id∈s.hints
   ·obtain⟨hs1,hs2,e4,hno⟩:=List.eq_append_cons_of_mem hin
    have hnone:getA (pEnts cs q') z.id=none:=pEnts_none hzl fun x hx ex=>by
     obtain⟨hxq,hxz⟩:=(hq x).1 hx
     exact hxz (asc_uniq h.part.asc (by rw[e];exact List.mem_append_left _ hxq) hz ex)
    have hnm:ckNamed (pEnts cs q') s.hints=hs1.map (clOf cs l):=by
     rw[e4]
     exact named_cut hnone hs2 hs1 fun x hx=>hat x (by rw[e4];exact List.mem_append_left _ hx) (fun e5=>hno (e5▸hx))
    have hlt:hs1.length<s.hints.length:=by rw[e4];simp
    have hk:=hfew s hs hs1.length hlt
    have hd:=do_cut (cs:=cs) (p:=q') (s:=s) hpv (h.addy s hs) hlast (by
     rw[hnm,←hk,e4,List.map_append,List.take_append_of_le_length (by rw[List.length_map];exact Nat.le_refl _),List.take_of_length_le (by rw[List.length_map];exact Nat.le_refl _)]) (by rw[hnm,List.length_map];exact hlt)
    rw[if_pos (by rw[hd];decide)]
    show((ckrP cs q').do_ s).2.2.2≠0
    rw[hd]
    decide
   ·have hnm:ckNamed (pEnts cs q') s.hints=s.hints.map (clOf cs l):=named_all s.hints fun x hx=>hat x hx (fun e5=>hin (e5▸hx))
    have hd:=do_rup (hpart.grw hl) hpv (h.addy s hs) hlast (by rw[hnm];exact h.chk s hs)
    rw[hd,if_neg (by simp)]
    have:=ih (q++ [s]) (q'++ [s]) (by rw[e];simp) (fun x=>?_) ?_ ?_
    ·rw[List.length_append,List.length_singleton]at this
     exact this
    ·rw[List.mem_append,List.mem_append,hq,List.mem_singleton]
     constructor
     ·rintro (⟨a,b⟩|a)
      ·exact⟨.inl a,b⟩
      ·exact⟨.inr a,by rw[a];exact hsz2⟩
     ·rintro ⟨a|a,b⟩
      ·exact .inl ⟨a,b⟩
      ·exact .inr a
    ·rw[List.pairwise_append]
     refine⟨hqa,List.pairwise_singleton _ _,fun a ha b hb=>?_⟩
     rw[List.mem_singleton.1 hb]
     exact hasc.2.2 a ((hq a).1 ha).1 s List.mem_cons_self
    ·obtain⟨d,hd1,hd2⟩:=hex
     rcases List.mem_cons.1 hd1 with e2|hd1
     ·subst e2
      exact absurd hd2 hin
     ·exact⟨d,hd1,hd2⟩
end
end Go.Proofs.YtkfgplfllddhnaaGreatDoor
