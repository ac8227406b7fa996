/- Plain: Trim, whole: it proves it too, is the same trimmed again, and without any of its steps it does not. Plain: steps that resolve follow by their hints, with a step that nobody needs in front too; what Check says of them. -/
import Derived.Test.YtkfgplfllddhnaaGreatV526
import Derived.Test.YtkfgplfllddhnaaGreatV514
namespace Go.Proofs.YtkfgplfllddhnaaGreat
open Go.RowKit
theorem filter_ne {p:List EStep} (h:p.Pairwise fun a b=>a.id<b.id): ∀{i:Nat} {z:EStep},p[i]? =some z→p.filter (fun s=>decide (s.id≠z.id))=p.eraseIdx i:=by
 induction p with
 | nil=>intro i z hz;simp at hz
 | cons x p ih=>
  intro i z hz
  rw[List.pairwise_cons]at h
  cases i with
  | zero=>
   obtain rfl:x=z:=by simpa using hz
   rw[List.filter_cons_of_neg (by simp),List.eraseIdx_cons_zero]
   refine List.filter_eq_self.2 fun a ha=>?_
   have:=h.1 a ha
   exact decide_eq_true (by omega)
  | succ i=>
   rw[List.getElem?_cons_succ]at hz
   have:=h.1 z (List.mem_of_getElem? hz)
   have hne:x.id≠z.id:=by omega
   rw[List.filter_cons_of_pos (by simpa using hne),List.eraseIdx_cons_succ,ih h.2 hz]
section
variable {cs:List (List Int)} {l:List EStep}
structure TrimW (cs:List (List Int)) (l G:List EStep):Prop where
 full:Full cs l G
 len:G.length≤l.length
 run:runGo (ckrNew cs) G 0=(ckrP cs G,G.length,0)
 prv:(ckrP cs G).proved=true
 trm:trmGo (ckrNew cs) G 0 []=(G,G.length,true)
 bk:bkL G=G
 sub: ∀s∈G,∃x∈l,x.id=s.id∧x.lits=s.lits∧∀h∈s.hints,h∈x.hints
 cut: ∀i,i<G.length→runE (runGo (ckrNew cs) (G.eraseIdx i) 0)≠0
theorem trim_whole (hl:RupL cs l) {m:Nat} (hm:m≤l.length) (hpre: ∀i,i<m→(ckrP cs (l.take i)).proved=false) (hpr:(ckrP cs (l.take m)).proved=true):TrimW cs l (bkL ((l.take m).map (tS cs l))):=by
 have hf:=hl.full
 obtain⟨D,hD⟩: ∃D,(l.take m).map (tS cs l)=D:=⟨_,rfl⟩
 rw[hD]
 have hDl:D.length=m:=by rw[←hD,List.length_map,List.length_take,Nat.min_eq_left hm]
 have hDat: ∀(j:Nat) (d:EStep),D[j]? =some d→∃s,l[j]? =some s∧TStep cs l s d∧j<m:=fun j d hj=>by
  rw[←hD,List.getElem?_map]at hj
  have hjm:j<m:=by
   refine Classical.byContradiction fun hc=>?_
   rw[List.getElem?_eq_none (by rw[List.length_take];omega)]at hj
   cases hj
  rw[List.getElem?_take_of_lt hjm]at hj
  cases hs:l[j]? with
  | none=>rw[hs]at hj;cases hj
  | some s=>
   rw[hs]at hj
   have:=Option.some.inj hj
   obtain⟨_,_,a3,_,_,a6⟩:=hl.at_ j s hs
   exact⟨s,rfl,this▸tS_ok hl a3 a6,hjm⟩
 have hDid: ∀(j:Nat) (d:EStep),D[j]? =some d→d.id=((cs.length+j:Nat):Int)+1:=fun j d hj=>by
  obtain⟨s,h1,h2,_⟩:=hDat j d hj
  rw[h2.id]
  exact(hl.at_ j s h1).2.1
 have hDasc:D.Pairwise fun a b=>a.id<b.id:=by
  rw[List.pairwise_iff_getElem]
  intro i j hi hj hij
  have:=hDid i _ (List.getElem?_eq_getElem hi)
  have:=hDid j _ (List.getElem?_eq_getElem hj)
  omega
 have hDh: ∀(j:Nat) (d:EStep),D[j]? =some d→∀h∈d.hints,1≤h∧h≤((cs.length+j:Nat):Int):=fun j d hj h hh=>by
  obtain⟨s,h1,h2,_⟩:=hDat j d hj
  exact(hl.at_ j s h1).2.2.2.2.1 h (h2.sub h hh)
 obtain⟨hsub,hmem⟩:=bkL_spec hDasc (fun d hd h hh=>by
  obtain⟨j,hj⟩:=List.getElem?_of_mem hd
  have:=hDh j d hj h hh
  have:=hDid j d hj
  omega)
 obtain⟨G,hG⟩: ∃G,bkL D=G:=⟨_,rfl⟩
 rw[hG]at hsub hmem⊢
 have hGD: ∀s∈G,∃j x,D[j]? =some s∧l[j]? =some x∧TStep cs l x s∧j<m:=fun s hs=>by
  obtain⟨j,hj⟩:=List.getElem?_of_mem (hsub.subset hs)
  obtain⟨x,h1,h2,h3⟩:=hDat j s hj
  exact⟨j,x,hj,h1,h2,h3⟩
 have hGf:Full cs l G:={
  part:=⟨hDasc.sublist hsub,fun s hs=>by
   obtain⟨j,x,_,h2,h3,_⟩:=hGD s hs
   exact⟨j,x,h2,h3.id.symm,h3.lits.symm⟩⟩
  addy:=fun s hs=>by
   obtain⟨j,x,_,h2,h3,_⟩:=hGD s hs
   have hx:=hl.addy h2
   exact⟨h3.del,h3.id▸hx.id0,h3.id▸hx.id1,h3.lits▸hx.cls,Nat.le_trans h3.len hx.len,fun h hh=>hx.pos h (h3.sub h hh)⟩
  chk:=fun s hs=>by
   obtain⟨j,x,_,h2,h3,_⟩:=hGD s hs
   exact h3.chk
  there:=fun s hs h hh=>by
   obtain⟨j,x,h1,h2,h3,_⟩:=hGD s hs
   have h4:=hDh j s h1 h hh
   have h5:=hDid j s h1
   refine⟨by omega,?_⟩
   rcases Int.lt_or_le (cs.length:Int) h with h6|h6
   ·right
    have hjl:=(List.getElem?_eq_some_iff.1 h1).1
    obtain⟨z,hz⟩: ∃z,D[(h-1).toNat-cs.length]? =some z:=⟨_,List.getElem?_eq_getElem (by omega)⟩
    have hzi:=hDid _ z hz
    have e:z.id=h:=by omega
    exact⟨z,(hmem z (List.mem_of_getElem? hz)).2 (.inr ⟨s,hs,e▸hh⟩),e⟩
   ·exact .inl h6 }
 have hpt:=prv_take (cs:=cs) (p:=l) hpre
 have hone: ∀a b x y,G=a++x::b→y∈b→x.lits≠ []:=fun a b x y e hy hn=>by
  obtain⟨j,z,h1,h2,h3,h4⟩:=hGD x (by rw[e];simp)
  obtain⟨j',_,g1,_,_,g4⟩:=hGD y (by rw[e];simp[hy])
  have h5:=hDid j x h1
  have g5:=hDid j' y g1
  have ha:=hGf.part.asc
  rw[e,List.pairwise_append,List.pairwise_cons]at ha
  have:=ha.2.1.1 y hy
  exact hpt.2 j z (by omega) h2 (h3.lits▸hn)
 have hcs:G≠ []→cs.any List.isEmpty=false:=fun hne=>by
  obtain⟨s,hs⟩:=List.exists_mem_of_ne_nil G hne
  obtain⟨j,_,_,_,_,h4⟩:=hGD s hs
  exact hpt.1 (by omega)
 have hprv:(ckrP cs G).proved=true:=by
  show(cs.any List.isEmpty||G.any fun s=>s.lits.isEmpty)=true
  have h1:(cs.any List.isEmpty||(l.take m).any fun s=>s.lits.isEmpty)=true:=hpr
  rw[Bool.or_eq_true]at h1⊢
  refine h1.imp id fun h1=>?_
  obtain⟨s,hs,hs2⟩:=List.any_eq_true.1 h1
  have h2:tS cs l s∈D:=by rw[←hD];exact List.mem_map.2 ⟨s,hs,rfl⟩
  have h3:(tS cs l s).lits= []:=List.isEmpty_iff.1 hs2
  refine List.any_eq_true.2 ⟨tS cs l s,(hmem _ h2).2 (.inl h3),?_⟩
  rw[h3]
  rfl
 have hnp: ∀k,k<G.length→(ckrP cs (G.take k)).proved=false:=fun k hk=>by
  show(cs.any List.isEmpty||(G.take k).any fun s=>s.lits.isEmpty)=false
  rw[hcs (by rintro e;rw[e]at hk;cases hk),Bool.false_or]
  refine List.any_eq_false.2 fun x hx hx2=>?_
  obtain⟨a,b,e⟩:=List.append_of_mem hx
  have e2:G=a++x::(b++G.drop k):=by
   conv=>lhs;rw[←List.take_append_drop k G,e]
   simp
  obtain⟨y,hy⟩:=List.exists_mem_of_ne_nil (G.drop k) (fun h=>by
   have:=congrArg List.length h
   rw[List.length_drop,List.length_nil]at this
   omega)
  exact hone a _ x y e2 (List.mem_append_right _ hy) (List.isEmpty_iff.1 hx2)
 have hfin: ∀m',m'≤G.length→(m'<G.length→(ckrP cs (G.take m')).proved=true)→m'=G.length:=fun m' h1 h2=>by
  rcases Nat.lt_or_ge m' G.length with h3|h3
  ·have:=h2 h3
   rw[hnp m' h3]at this
   cases this
  ·omega
 have htS: ∀s∈G,tS cs l s=s:=fun s hs=>by
  obtain⟨_,_,_,_,h3,_⟩:=hGD s hs
  exact h3.again
 refine⟨hGf,?_,?_,hprv,?_,?_,fun s hs=>?_,fun i hi=>?_⟩
 ·have:=hsub.length_le
  omega
 ·obtain⟨m',a1,_,a3,_,a5⟩:=hGf.run hl G [] rfl
  rw[hfin m' a1 a5,List.take_length]at a3
  rw[←ckrP_nil]
  exact a3
 ·obtain⟨m',a1,_,a3,_,a5⟩:=hGf.trm hl G [] [] rfl
  have e:=hfin m' a1 a5
  subst e
  rw[List.take_length,List.length_nil,List.drop_zero,List.nil_append,List.map_congr_left htS,List.map_id']at a3
  rw[←ckrP_nil]
  exact a3
 ·obtain⟨g1,g2⟩:=bkL_spec (done:=G) hGf.part.asc (fun d hd h hh=>(hGf.there d hd h hh).1)
  have hall: ∀(n:Nat) (r:List EStep) (d:EStep) (q:List EStep),r.length=n→G=q++d::r→d∈bkL G:=by
   intro n
   induction n using Nat.strongRecOn with
   | _ n ih=>
    intro r d q hr e
    have hd:d∈G:=by rw[e];simp
    refine(g2 d hd).2 (((hmem d (hsub.subset hd)).1 hd).imp id fun⟨z,hz,hz2⟩=>⟨z,?_,hz2⟩)
    have hlt:=(hGf.there z hz _ hz2).1
    have ha:=hGf.part.asc
    have hz':=hz
    rw[e]at hz' ha
    rw[List.pairwise_append,List.pairwise_cons]at ha
    rcases List.mem_append.1 hz' with h5|h5
    ·have:=ha.2.2 z h5 d List.mem_cons_self
     omega
    ·rcases List.mem_cons.1 h5 with h5|h5
     ·rw[h5]at hlt
      omega
     ·obtain⟨a,b,e2⟩:=List.append_of_mem h5
      refine ih b.length ?_ b z (q++d::a) rfl (by rw[e,e2];simp)
      rw[←hr,e2]
      simp
      omega
  refine g1.eq_of_length_le ?_
  have hnd:G.Nodup:=hGf.part.asc.imp fun h e=>by
   rw[e]at h
   omega
  have hsubset: ∀d∈G,d∈bkL G:=fun d hd=>by
   obtain⟨a,b,e⟩:=List.append_of_mem hd
   exact hall b.length b d a rfl e
  exact hnd.length_le_of_subset hsubset
 ·obtain⟨j,x,_,h2,h3,_⟩:=hGD s hs
  exact⟨x,List.mem_of_getElem? h2,h3.id.symm,h3.lits.symm,h3.sub⟩
 ·obtain⟨z,hz⟩: ∃z,G[i]? =some z:=⟨_,List.getElem?_eq_getElem hi⟩
  have hzG:=List.mem_of_getElem? hz
  have hc0:cs.any List.isEmpty=false:=hcs (by rintro e;rw[e]at hi;cases hi)
  rw[←filter_ne hGf.part.asc hz]
  unfold runE
  rcases (hmem z (hsub.subset hzG)).1 hzG with h1|⟨e,he,he2⟩
  ·split
   ·rename_i h2
    exact h2
   ·split
    ·rename_i h2
     rcases run_proved _ _ _ h2 with h3|⟨s,hs,hs2⟩
     ·rw[←ckrP_nil]at h3
      have h3:(cs.any List.isEmpty||false)=true:=h3
      rw[hc0]at h3
      cases h3
     ·obtain⟨hsG,hsz⟩:=List.mem_filter.1 hs
      have hsz:=of_decide_eq_true hsz
      obtain⟨a,b,e⟩:=List.append_of_mem hsG
      have hz2:=hzG
      rw[e]at hz2
      rcases List.mem_append.1 hz2 with h4|h4
      ·obtain⟨a1,a2,e2⟩:=List.append_of_mem h4
       exact absurd h1 (hone a1 (a2++s::b) z s (by rw[e,e2];simp) (by simp))
      ·rcases List.mem_cons.1 h4 with h4|h4
       ·exact absurd (congrArg EStep.id h4.symm) hsz
       ·exact absurd hs2 (hone a b s z e h4)
    ·decide
  ·have hzl:(cs.length:Int)<z.id:=(hGf.part.grw hl).lo z hzG
   have:=hGf.cut hl (fun s hs k hk=>by
    obtain⟨_,_,_,_,h3,_⟩:=hGD s hs
    exact h3.few k hk) hzG hzl hc0 hone G [] [] rfl (fun s=>⟨fun h=>(by cases h),fun h=>(by cases h.1)⟩) List.Pairwise.nil ⟨e,he,he2⟩
   rw[ckrP_nil,List.length_nil]at this
   rw[if_pos this]
   exact this
end
end Go.Proofs.YtkfgplfllddhnaaGreat
namespace Go.Proofs.YtkfgplfllddhnaaGreat
open Go.RowKit
def moveS (n:Nat) (s:EStep):EStep:=⟨false,s.id+1,s.lits,s.hints.map fun h=>if(n:Int)<h then h+1 else h⟩
def moveL (cs:List (List Int)) (l:List EStep):List EStep:=⟨false,(cs.length:Int)+1,cs.getD 0 [],[1]⟩::l.map (moveS cs.length)
section
variable {cs:List (List Int)} {l:List EStep}
theorem clOf_nat (i:Nat):clOf cs l ((i:Int)+1)=(cs++l.map EStep.lits).getD i []:=by
 unfold clOf
 rw[show((i:Int)+1-1).toNat=i by omega]
theorem rupL_res (h:ResSteps cs l) (hc: ∀c∈cs,clauseB c=true) (hs:cs.length+l.length≤1000):RupL cs l:=by
 have hcl: ∀c∈cs++l.map EStep.lits,clauseB c=true:=fun c hm=>by
  rcases List.mem_append.1 hm with hm|hm
  ·exact hc c hm
  ·obtain⟨s,hs,rfl⟩:=List.mem_map.1 hm
   obtain⟨j,hj⟩:=List.getElem?_of_mem hs
   obtain⟨_,_,_,_,_,_,_,_,_,_,_,_,_,_,h6⟩:=h j s hj
   exact h6.clause
 refine⟨hc,hs,fun j s hj=>?_⟩
 obtain⟨i,k,a,b,x,a1,a2,a3,a4,a5,a6,a7,a8,_,a10⟩:=h j s hj
 refine⟨a1,a2,a10.clause,by rw[a3];simp,fun y hy=>?_,?_⟩
 ·rw[a3]at hy
  rcases List.mem_cons.1 hy with e|hy
  ·omega
  ·have:=List.mem_singleton.1 hy
   omega
 ·rw[a3,List.map_cons,List.map_cons,List.map_nil,clOf_nat,clOf_nat,List.getD_eq_getElem?_getD,a6,List.getD_eq_getElem?_getD,a7]
  show(chkP s.lits [a,b]).2.2=0
  rw[res_chk a8 (hcl a (List.mem_of_getElem? a6)) (hcl b (List.mem_of_getElem? a7)) a10.clause]
theorem chk_self {c:List Int} (hc:clauseB c=true):(chkP c [c]).2.2=0:=by
 by_cases ha:alwL c=true
 ·unfold chkP
  rw[if_pos ha]
 ·have ha:alwL c=false:=by
   cases hx:alwL c with
   | true=>exact absurd hx ha
   | false=>rfl
  have:=chc_chk (ds:= []) (us:= []) (c:=c) hc (fun d hd=>by cases hd) hc ha (alwL_not hc ha) ⟨Chs.nil c,fun y hy=>.inl hy⟩ []
  have e:chkP c [c]=_:=this
  rw[e]
theorem clOf_move (hl:0<cs.length) {h:Int} (h1:1≤h):clOf cs (moveL cs l) (if(cs.length:Int)<h then h+1 else h)=clOf cs l h:=by
 unfold clOf moveL
 simp only[List.map_cons,List.map_map]
 have e:(EStep.lits ∘ moveS cs.length)=EStep.lits:=rfl
 rw[e]
 obtain⟨c0,hc0⟩: ∃c0,cs.getD 0 []=c0:=⟨_,rfl⟩
 rw[hc0,List.getD_eq_getElem?_getD,List.getD_eq_getElem?_getD]
 split
 ·rw[List.getElem?_append_right (by omega),List.getElem?_append_right (by omega),show(h+1-1).toNat-cs.length=((h-1).toNat-cs.length)+1 by omega,List.getElem?_cons_succ]
 ·rw[List.getElem?_append_left (by omega),List.getElem?_append_left (by omega)]
theorem rupL_move (h:RupL cs l) (hl:0<cs.length) (hs:cs.length+l.length<1000):RupL cs (moveL cs l):=by
 refine⟨h.cls,by unfold moveL;rw[List.length_cons,List.length_map];omega,fun j s hj=>?_⟩
 have hc0:clauseB (cs.getD 0 [])=true:=by
  rw[List.getD_eq_getElem?_getD,List.getElem?_eq_getElem hl]
  exact h.cls _ (List.getElem_mem hl)
 cases j with
 | zero=>
  obtain rfl:_=s:=Option.some.inj hj
  refine⟨rfl,by simp,hc0,by simp,fun x hx=>?_,?_⟩
  ·have:=List.mem_singleton.1 hx
   omega
  ·show(chkP (cs.getD 0 []) [clOf cs (moveL cs l) 1]).2.2=0
   have e:clOf cs (moveL cs l) 1=cs.getD 0 []:=by
    have:=clOf_nat (cs:=cs) (l:=moveL cs l) 0
    rw[show((0:Nat):Int)+1=1 from rfl]at this
    rw[this,List.getD_eq_getElem?_getD,List.getElem?_append_left hl,List.getD_eq_getElem?_getD]
   rw[e]
   exact chk_self hc0
 | succ j=>
  have hj2:(l.map (moveS cs.length))[j]? =some s:=by
   unfold moveL at hj
   rwa [List.getElem?_cons_succ]at hj
  rw[List.getElem?_map]at hj2
  cases hz:l[j]? with
  | none=>rw[hz]at hj2;cases hj2
  | some z=>
   rw[hz]at hj2
   obtain rfl:moveS cs.length z=s:=Option.some.inj hj2
   obtain⟨a1,a2,a3,a4,a5,a6⟩:=h.at_ j z hz
   refine⟨rfl,by show z.id+1=_;omega,a3,by show(z.hints.map _).length≤_;rw[List.length_map];exact a4,fun x hx=>?_,?_⟩
   ·obtain⟨y,hy,e⟩:=List.mem_map.1 hx
    have:=a5 y hy
    split at e <;> omega
   ·show(chkP z.lits ((z.hints.map fun h=>if(cs.length:Int)<h then h+1 else h).map (clOf cs (moveL cs l)))).2.2=0
    rw[List.map_map,←a6]
    congr 3
    refine List.map_congr_left fun y hy=>?_
    exact clOf_move hl (a5 y hy).1
structure ChkR (cs:List (List Int)) (l:List EStep) (m:Nat):Prop where
 le:m≤l.length
 run:runGo (ckrNew cs) l 0=(ckrP cs (l.take m),m,0)
 pre: ∀i,i<m→(ckrP cs (l.take i)).proved=false
 stop:m<l.length→(ckrP cs (l.take m)).proved=true
theorem chk_rup (h:RupL cs l): ∃m,ChkR cs l m:=by
 obtain⟨m,a1,_,a3,a4,a5⟩:=h.full.run h l [] rfl
 rw[ckrP_nil]at a3
 exact⟨m,a1,a3,fun i hi=>a4 i (Nat.zero_le _) hi,a5⟩
theorem ChkR.none {m:Nat} (h:ChkR cs l m) (ha:cs.any List.isEmpty=false) (hn: ∀s∈l,s.lits≠ []):m=l.length∧(ckrP cs (l.take m)).proved=false:=by
 have key: ∀i,(ckrP cs (l.take i)).proved=false:=fun i=>by
  show(cs.any List.isEmpty||(l.take i).any fun s=>s.lits.isEmpty)=false
  rw[ha,Bool.false_or]
  exact List.any_eq_false.2 fun x hx hx2=>hn x (List.mem_of_mem_take hx) (List.isEmpty_iff.1 hx2)
 refine⟨?_,key m⟩
 rcases Nat.lt_or_ge m l.length with h1|h1
 ·have:=h.stop h1
  rw[key m]at this
  cases this
 ·have:=h.le
  omega
theorem ChkR.first {m d:Nat} (h:ChkR cs l m) (ha:cs.any List.isEmpty=false) (hd: ∃s,l[d]? =some s∧s.lits= []) (hf: ∀i s,i<d→l[i]? =some s→s.lits≠ []):m=d+1∧(ckrP cs (l.take m)).proved=true:=by
 obtain⟨s,hs,hs2⟩:=hd
 have hdl:=(List.getElem?_eq_some_iff.1 hs).1
 have hpr:(ckrP cs (l.take (d+1))).proved=true:=by
  show(cs.any List.isEmpty||(l.take (d+1)).any fun s=>s.lits.isEmpty)=true
  rw[Bool.or_eq_true]
  refine .inr (List.any_eq_true.2 ⟨s,List.mem_of_getElem? (i:=d) ?_,by rw[hs2];rfl⟩)
  rw[List.getElem?_take_of_lt (Nat.lt_succ_self d)]
  exact hs
 have hm:m=d+1:=by
  rcases Nat.lt_trichotomy m (d+1)with h1|h1|h1
  ·have h2:=h.stop (by omega)
   have h3:(cs.any List.isEmpty||(l.take m).any fun s=>s.lits.isEmpty)=true:=h2
   rw[ha,Bool.false_or]at h3
   obtain⟨z,hz,hz2⟩:=List.any_eq_true.1 h3
   obtain⟨i,hi⟩:=List.getElem?_of_mem hz
   have hil:=(List.getElem?_eq_some_iff.1 hi).1
   rw[List.length_take]at hil
   rw[List.getElem?_take_of_lt (by omega)]at hi
   exact absurd (List.isEmpty_iff.1 hz2) (hf i z (by omega) hi)
  ·exact h1
  ·have:=h.pre (d+1) h1
   rw[hpr]at this
   cases this
 exact⟨hm,by rw[hm];exact hpr⟩
end
end Go.Proofs.YtkfgplfllddhnaaGreat
