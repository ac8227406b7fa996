/- The examples of chapter 10: awake. IndexFunc at steps; what is resolved: plain. Plain: a log of what is resolved is a proof (EmitProves). -/
import Derived.Test.YtcbjjdpngeabgaaGreatDoorV831
import Derived.Test.YtcbjjdpngeabgaaGreatDoorV830
import Derived.Test.YtcbjjdpngeabgaaGreatDoorV811
namespace Go.Proofs.YtcbjjdpngeabgaaGreatDoor
open Go.RowKit
end Go.Proofs.YtcbjjdpngeabgaaGreatDoor
namespace Go.Proofs.YtcbjjdpngeabgaaGreatDoor
open Go.RowKit
def TellsS (O:Nat→Prop) (w:World) (F:Nat) (caps:Array Value) (ss:List EStep) (P:EStep→Bool):Prop:= ∀W,Below w.heap.size w W→∀ul uh s,s∈ss→IntsIn O W ul s.lits→IntsIn O W uh s.hints→Calls Tryz.prog F (#[.agg #[.bool s.del,.int .i64 s.id,ul,uh]]++caps) W fun e w'=>e= .returned (.bool (P s))∧Below W.heap.size W w'
theorem empty_len (c:List Int):((c.length:Int)==0)=c.isEmpty:=by
 cases c with
 | nil=>rfl
 | cons x r=>exact beq_eq_false_iff_ne.2 (by rw[List.length_cons];omega)
theorem made_six (xss:List (List Int)): ∀c∈(xss.take 14).map madeL,Lit6 c:=fun c hc=>by
 obtain⟨xs,_,rfl⟩:=List.mem_map.1 hc
 unfold madeL
 refine⟨?_,fun y hy=>?_⟩
 ·rw[List.length_map,List.length_take]
  omega
 ·obtain⟨x,_,rfl⟩:=List.mem_map.1 hy
  obtain⟨h1,h2⟩:=madeLit_rng x
  have hb:litB (madeLit x)=true:=(litB_iff _).2 (by omega)
  exact⟨hb,by have:=(litV_pos hb).2;omega⟩
theorem lit6_fgo: ∀(cs:List (List Int)) (i:Nat),(∀c∈cs,Lit6 c)→fchkGo 6 i cs=(-1,0)
 | [],_,_=>rfl
 | c::r,i,h=>by
  have hc:=h c List.mem_cons_self
  unfold fchkGo
  rw[if_neg (by rw[hc.clause];decide),if_neg (by
   rw[show c.any (beyB 6)=false from List.any_eq_false.2 fun y hy=>by
    obtain⟨h1,h2⟩:=hc.2 y hy
    unfold beyB
    rw[h1,decide_eq_false (by omega)]
    decide]
   decide)]
  exact lit6_fgo r (i+1) fun d hd=>h d (List.mem_cons_of_mem _ hd)
theorem lit6_fchk {cs:List (List Int)} (h: ∀c∈cs,Lit6 c) (hn:cs.length≤1000):fchk 6 cs=(-1,0):=by
 unfold fchk
 rw[if_neg (by decide),if_neg (by omega)]
 exact lit6_fgo cs 0 h
end Go.Proofs.YtcbjjdpngeabgaaGreatDoor
namespace Go.Proofs.YtcbjjdpngeabgaaGreatDoor
open Go.RowKit
def runC (k:Ckr) (l:List EStep):Ckr:=l.foldl (fun k s=>(k.do_ s).1) k
theorem runC_snoc (k:Ckr) (l:List EStep) (s:EStep):runC k (l++ [s])=((runC k l).do_ s).1:=by
 unfold runC
 rw[List.foldl_append]
 rfl
theorem runC_still {k:Ckr} (h:k.proved=true): ∀l:List EStep,runC k l=k:=by
 intro l
 induction l with
 | nil=>rfl
 | cons s r ih=>
  show runC ((k.do_ s).1) r=k
  unfold Ckr.do_
  rw[if_pos h]
  exact ih
def RunOk (k0:Ckr) (l:List EStep):Prop:= ∀(j:Nat) (s:EStep),l[j]? =some s→((runC k0 (l.take j)).do_ s).2.2.2=0∧((runC k0 (l.take j)).do_ s).2.1≠2
theorem RunOk.nil (k0:Ckr):RunOk k0 []:=fun j s h=>by simp at h
theorem RunOk.snoc {k0:Ckr} {l:List EStep} {s:EStep} (h:RunOk k0 l) (h1:((runC k0 l).do_ s).2.2.2=0) (h2:((runC k0 l).do_ s).2.1≠2):RunOk k0 (l++ [s]):=fun j t hj=>by
 rcases Nat.lt_trichotomy j l.length with hl|hl|hl
 ·rw[List.getElem?_append_left hl]at hj
  rw[List.take_append_of_le_length (Nat.le_of_lt hl)]
  exact h j t hj
 ·subst hl
  rw[List.getElem?_append_right (Nat.le_refl _),Nat.sub_self]at hj
  obtain rfl:=Option.some.inj hj
  rw[List.take_append_of_le_length (Nat.le_refl _),List.take_length]
  exact⟨h1,h2⟩
 ·rw[List.getElem?_eq_none (by rw[List.length_append,List.length_singleton];omega)]at hj
  cases hj
theorem RunOk.still {k0:Ckr} (h:k0.proved=true) (l:List EStep):RunOk k0 l:=fun j s _=>by
 rw[runC_still h]
 unfold Ckr.do_
 rw[if_pos h]
 exact⟨rfl,by show(0:Nat)≠2;decide⟩
def keptE (all:List (List Int)) (gone:List Int):Ents:=(entsFrom 0 all).filter fun p=> !gone.contains p.1
theorem keptE_mem {all:List (List Int)} {gone:List Int} {p:Int×List Int}:p∈keptE all gone↔p∈entsFrom 0 all∧p.1∉gone:=by
 unfold keptE
 rw[List.mem_filter,Bool.not_eq_true',←Bool.not_eq_true,List.contains_iff_mem]
theorem keptE_rise (all:List (List Int)) (gone:List Int):Rising (keptE all gone):=List.Pairwise.filter _ (entsFrom_rise all 0)
theorem keptE_get {all:List (List Int)} {gone:List Int} {j:Nat} {c:List Int} (hj:all[j]? =some c) (hg:(j:Int)+1∉gone):getA (keptE all gone) ((j:Int)+1)=some c:=
 getA_of (keptE_rise all gone) (keptE_mem.2 ⟨entsFrom_mem.2 ⟨j,hj,by rw[Nat.zero_add]⟩,hg⟩)
theorem keptE_put {all:List (List Int)} {gone:List Int} (hg: ∀x∈gone,x≤(all.length:Int)) (c:List Int):putA (keptE all gone) ((all.length:Int)+1) c=keptE (all++ [c]) gone:=by
 rw[putA_last (fun p hp=>by
  obtain⟨h1,_⟩:=keptE_mem.1 hp
  obtain⟨j,h2,h3⟩:=entsFrom_mem.1 h1
  have:=(List.getElem?_eq_some_iff.1 h2).1
  omega)]
 unfold keptE
 rw[←entsFrom_snoc,List.filter_append,Nat.zero_add]
 congr 1
 rw[List.filter_cons_of_pos]
 ·rfl
 ·rw[Bool.not_eq_true',←Bool.not_eq_true,List.contains_iff_mem]
  intro h
  have:=hg _ h
  simp only at this
  omega
theorem keptE_del (all:List (List Int)) (gone:List Int) (x:Int):delA (keptE all gone) x=keptE all (gone++ [x]):=by
 unfold keptE delA
 rw[List.filter_filter]
 refine List.filter_congr fun p _=>?_
 rw[Bool.eq_iff_iff,Bool.and_eq_true,decide_eq_true_eq,Bool.not_eq_true',Bool.not_eq_true',←Bool.not_eq_true,←Bool.not_eq_true,List.contains_iff_mem,List.contains_iff_mem,List.mem_append,List.mem_singleton,not_or]
 exact⟨fun⟨a,b⟩=>⟨b,a⟩,fun⟨a,b⟩=>⟨b,a⟩⟩
structure LC (cs all:List (List Int)) (L:ELog):Prop where
 run:RunOk (ckrNew cs) L.steps
 ents:(runC (ckrNew cs) L.steps).ents=keptE all L.gone
 last:(runC (ckrNew cs) L.steps).last=(L.last:Int)
 prv:(runC (ckrNew cs) L.steps).proved=L.done
section
variable {cs all:List (List Int)} {L:ELog}
theorem LC.new (he:cs.any List.isEmpty=false):LC cs cs (newLog cs.length) where
 run:=RunOk.nil _
 ents:=by
  show(ckrNew cs).ents=keptE cs []
  rw[ckrNew_of]
  unfold keptE
  symm
  exact List.filter_eq_self.2 fun p _=>rfl
 last:=by
  show(ckrNew cs).last=_
  rw[ckrNew_of]
  rfl
 prv:=by
  show(ckrNew cs).proved=false
  rw[ckrNew_of]
  exact he
theorem LC.learn (h:LC cs all L) (hd:L.done=false) (hl:all.length=L.last) (hg: ∀x∈L.gone,x≤(L.last:Int)) (hs:L.last≤1000) {i k:Nat} {a b c:List Int} {x:Int} (hi:all[i]? =some a) (hk:all[k]? =some b) (hgi:(i:Int)+1∉L.gone) (hgk:(k:Int)+1∉L.gone) (ho:ResO a b c x) (ha:clauseB a=true) (hb:clauseB b=true) (hc:clauseB c=true):LC cs (all++ [c]) (L.learn c [(i:Int)+1,(k:Int)+1]):=by
 obtain⟨K,hK⟩: ∃K,runC (ckrNew cs) L.steps=K:=⟨_,rfl⟩
 have hents:=h.ents
 have hlast:=h.last
 have hprv:=h.prv
 rw[hK]at hents hlast hprv
 have hil:=(List.getElem?_eq_some_iff.1 hi).1
 have hkl:=(List.getElem?_eq_some_iff.1 hk).1
 have hsb:stepB ⟨false,(L.last:Int)+1,c,[(i:Int)+1,(k:Int)+1]⟩=true:=by
  unfold stepB
  simp only[hc,List.length_cons,List.length_nil,List.any_cons,List.any_nil,Bool.false_and,Bool.or_false,Bool.not_false,Bool.true_and]
  simp only[Bool.and_eq_true,Bool.not_eq_true',Bool.or_eq_false_iff,decide_eq_false_iff_not,decide_eq_true_eq]
  refine⟨⟨⟨by omega,by omega⟩,by omega⟩,by omega,⟨⟨by omega,by omega⟩,by omega⟩,⟨by omega,by omega⟩,by omega⟩
 have hadd:ckAdd K.ents c [(i:Int)+1,(k:Int)+1]=(1,0,0):=by
  have hnm:ckNamed K.ents [(i:Int)+1,(k:Int)+1]= [a,b]:=by
   rw[hents]
   simp only[ckNamed,keptE_get hi hgi,keptE_get hk hgk]
  unfold ckAdd ckFol
  rw[split_pos (fun x hx=>by
   rcases List.mem_cons.1 hx with e|hx
   ·omega
   ·have:=List.mem_singleton.1 hx
    omega)]
  simp only
  rw[hnm,res_chk ho ha hb hc,if_pos rfl]
  rfl
 have hdo:K.do_ ⟨false,(L.last:Int)+1,c,[(i:Int)+1,(k:Int)+1]⟩=({ (K.put ((L.last:Int)+1) c)with adds:=K.adds+1,rats:=K.rats },1,0,0):=by
  unfold Ckr.do_
  rw[if_neg (by rw[hprv,hd];decide),if_neg (by rw[hsb];decide),if_neg (by
   rw[hlast]
   show¬((L.last:Int)+1<(L.last:Int)∨(L.last:Int)+1=(L.last:Int)∧false=false)
   omega),if_neg (by show¬(false=true);decide)]
  show(if(ckAdd K.ents c [(i:Int)+1,(k:Int)+1]).2.2≠0 then _ else _)=_
  rw[if_neg (by rw[hadd];decide)]
  simp only[hadd]
  rfl
 have hr2:runC (ckrNew cs) (L.learn c [(i:Int)+1,(k:Int)+1]).steps= { (K.put ((L.last:Int)+1) c)with adds:=K.adds+1,rats:=K.rats }:=by
  show runC (ckrNew cs) (L.steps++ [⟨false,((L.last:Nat):Int)+1,c,[(i:Int)+1,(k:Int)+1]⟩])=_
  rw[runC_snoc,hK,hdo]
 refine⟨?_,?_,?_,?_⟩
 ·show RunOk (ckrNew cs) (L.steps++ [⟨false,((L.last:Nat):Int)+1,c,[(i:Int)+1,(k:Int)+1]⟩])
  refine h.run.snoc ?_ ?_
  ·rw[hK,hdo]
  ·rw[hK,hdo]
   show(1:Nat)≠2
   decide
 ·rw[hr2]
  show putA K.ents ((L.last:Int)+1) c=keptE (all++ [c]) L.gone
  rw[hents,←hl]
  exact keptE_put (fun x hx=>by have:=hg x hx;omega) c
 ·rw[hr2]
  show(L.last:Int)+1=((L.last+1:Nat):Int)
  omega
 ·rw[hr2]
  show(K.proved||c.isEmpty)=c.isEmpty
  rw[hprv,hd,Bool.false_or]
theorem LC.forget (h:LC cs all L) (hd:L.done=false) (hl:all.length=L.last) (hs:L.last≤1000) {x:Int} (hx:L.has x=true):LC cs all (L.addDel [x]):=by
 obtain⟨K,hK⟩: ∃K,runC (ckrNew cs) L.steps=K:=⟨_,rfl⟩
 have hents:=h.ents
 have hlast:=h.last
 have hprv:=h.prv
 rw[hK]at hents hlast hprv
 obtain⟨h1,h2,h3⟩:=has_rng hx
 have hsb:stepB ⟨true,(L.last:Int),[],[x]⟩=true:=by
  unfold stepB
  rw[show clauseB []=true from by decide]
  simp only[List.length_nil,List.length_cons,List.any_cons,List.any_nil,Bool.false_and,Bool.or_false,Bool.not_true,Bool.true_and]
  simp only[Bool.and_eq_true,Bool.not_eq_true',Bool.or_eq_false_iff,decide_eq_false_iff_not,decide_eq_true_eq]
  omega
 obtain⟨j,hj⟩: ∃j:Nat,x=(j:Int)+1:=⟨(x-1).toNat,by omega⟩
 obtain⟨c,hc⟩: ∃c,all[j]? =some c:=⟨_,List.getElem?_eq_getElem (by omega)⟩
 have hget:getA K.ents x=some c:=by
  rw[hents,hj]
  exact keptE_get hc (by rw[←hj];exact h3)
 have hdel:ckDel K.ents [x]=(delA K.ents x,0,0):=by
  unfold ckDel
  rw[hget,if_neg (by simp)]
  rfl
 have hdo:K.do_ ⟨true,(L.last:Int),[],[x]⟩=({ K with ents:=delA K.ents x,last:=(L.last:Int),dels:=K.dels+1 },0,0,0):=by
  unfold Ckr.do_
  rw[if_neg (by rw[hprv,hd];decide),if_neg (by rw[hsb];decide),if_neg (by
   rw[hlast]
   show¬((L.last:Int)<(L.last:Int)∨(L.last:Int)=(L.last:Int)∧true=false)
   simp),if_pos rfl]
  show(if(ckDel K.ents [x]).2.2=0 then _ else _)=_
  rw[if_pos (by rw[hdel])]
  simp only[hdel]
 have hr2:runC (ckrNew cs) (L.addDel [x]).steps= { K with ents:=delA K.ents x,last:=(L.last:Int),dels:=K.dels+1 }:=by
  show runC (ckrNew cs) (L.steps++ [⟨true,((L.last:Nat):Int),[],[x]⟩])=_
  rw[runC_snoc,hK,hdo]
 refine⟨?_,?_,?_,?_⟩
 ·show RunOk (ckrNew cs) (L.steps++ [⟨true,((L.last:Nat):Int),[],[x]⟩])
  refine h.run.snoc ?_ ?_
  ·rw[hK,hdo]
  ·rw[hK,hdo]
   show(0:Nat)≠2
   decide
 ·rw[hr2]
  show delA K.ents x=keptE all (L.gone++ [x])
  rw[hents]
  exact keptE_del all L.gone x
 ·rw[hr2]
  rfl
 ·rw[hr2]
  exact hprv
end
theorem delA_len1: ∀(l:Ents) (g:Int) (v:List Int),Rising l→(g,v)∈l→(delA l g).length+1=l.length:=by
 intro l
 induction l with
 | nil=>intro g v _ h;cases h
 | cons y r ih=>
  intro g v hr h
  have hr2:=List.pairwise_cons.1 hr
  unfold delA
  by_cases hy:y.1=g
  ·rw[List.filter_cons_of_neg (by simpa using hy)]
   have:r.filter (fun p=>decide (p.1≠g))=r:=List.filter_eq_self.2 fun p hp=>decide_eq_true (by
    have:y.1<p.1:=hr2.1 p hp
    omega)
   rw[this,List.length_cons]
  ·rw[List.filter_cons_of_pos (by simpa using hy),List.length_cons,List.length_cons]
   have hm:(g,v)∈r:=(List.mem_cons.1 h).resolve_left fun e=>hy (by rw[←e])
   have:=ih g v hr2.2 hm
   unfold delA at this
   omega
theorem filter_len: ∀(gone:List Int) (l:Ents),gone.Nodup→Rising l→(∀x∈gone,∃v,(x,v)∈l)→(l.filter fun p=> !gone.contains p.1).length+gone.length=l.length:=by
 intro gone
 induction gone with
 | nil=>
  intro l _ _ _
  have e:(l.filter fun p=> !([] :List Int).contains p.1)=l:=List.filter_eq_self.2 fun p _=>rfl
  rw[e]
  rfl
 | cons g r ih=>
  intro l hn hr hm
  rw[List.nodup_cons]at hn
  obtain⟨v,hv⟩:=hm g List.mem_cons_self
  have h1:=delA_len1 l g v hr hv
  have h2:=ih (delA l g) hn.2 (hr.del g) fun x hx=>by
   obtain⟨u,hu⟩:=hm x (List.mem_cons_of_mem _ hx)
   exact⟨u,delA_mem.2 ⟨hu,fun e=>hn.1 (e▸hx)⟩⟩
  have e:(l.filter fun p=> !(g::r).contains p.1)=(delA l g).filter fun p=> !r.contains p.1:=by
   unfold delA
   rw[List.filter_filter]
   refine List.filter_congr fun p _=>?_
   rw[Bool.eq_iff_iff,Bool.and_eq_true,decide_eq_true_eq,Bool.not_eq_true',Bool.not_eq_true',←Bool.not_eq_true,←Bool.not_eq_true,List.contains_iff_mem,List.contains_iff_mem,List.mem_cons,not_or]
   exact⟨fun⟨a,b⟩=>⟨b,a⟩,fun⟨a,b⟩=>⟨b,a⟩⟩
  rw[e,List.length_cons]
  omega
theorem keptE_len {all:List (List Int)} {L:ELog} (hi:L.Inv) (hl:all.length=L.last):(keptE all L.gone).length=L.count:=by
 have h:=filter_len L.gone (entsFrom 0 all) hi.gone (entsFrom_rise all 0) fun x hx=>by
  obtain⟨h1,h2⟩:=hi.rng x hx
  obtain⟨c,hc⟩: ∃c,all[(x-1).toNat]? =some c:=⟨_,List.getElem?_eq_getElem (by omega)⟩
  exact⟨c,entsFrom_mem.2 ⟨(x-1).toNat,hc,by simp only;omega⟩⟩
 rw[entsFrom_len]at h
 have:=hi.cnt
 unfold keptE
 omega
theorem keptE_has {all:List (List Int)} {L:ELog} (hl:all.length=L.last) {p:Int×List Int} (hp:p∈keptE all L.gone):L.has p.1=true:=by
 obtain⟨h1,h2⟩:=keptE_mem.1 hp
 obtain⟨j,h3,h4⟩:=entsFrom_mem.1 h1
 have:=(List.getElem?_eq_some_iff.1 h3).1
 unfold ELog.has
 rw[Bool.and_eq_true,decide_eq_true_eq,Bool.not_eq_true',←Bool.not_eq_true,List.contains_iff_mem]
 exact⟨⟨by omega,by omega⟩,h2⟩
structure KI (cs:List (List Int)) (ss:List EStep) (i:Nat) (L:ELog):Prop where
 inv:L.Inv
 last:L.last=cs.length+i
 len:L.steps.length≤2*i
 few: ∀s∈L.steps,s.lits.length≤13∧s.hints.length≤2
 lc:cs.any List.isEmpty=false→LC cs (cs++(ss.take i).map EStep.lits) L
def Fut (ss:List EStep) (i:Nat) (L:ELog):Prop:= ∀(j:Nat) (s:EStep),i≤j→ss[j]? =some s→∀h∈s.hints,h∉L.gone
section
variable {cs:List (List Int)} {ss:List EStep} {i:Nat} {L:ELog}
theorem KI.new (hn:cs.length≤14):KI cs ss 0 (newLog cs.length)∧Fut ss 0 (newLog cs.length):=
 ⟨⟨inv_new _ (by omega),rfl,Nat.le_refl _,(fun s hs=>by cases hs),fun he=>by
  rw[List.take_zero,List.map_nil,List.append_nil]
  exact LC.new he⟩,fun j s _ _ h _ hg=>by cases hg⟩
theorem KI.learn (h:KI cs ss i L) (hf:Fut ss i L) (hr:ResSteps cs ss) (h6: ∀c∈cs,Lit6 c) (hn:cs.length≤14) (hl:ss.length≤20) (hd:L.done=false) {s:EStep} (hs:ss[i]? =some s):
  learnErr L s.lits s.hints=0∧s.id=(L.last:Int)+1∧KI cs ss (i+1) (L.learn s.lits s.hints)∧Fut ss (i+1) (L.learn s.lits s.hints)∧(L.learn s.lits s.hints).join=false∧(L.learn s.lits s.hints).steps.length+1≤2*(i+1):=by
 obtain⟨a,k,x,y,z,e1,e2,e3,e4,e5,e6,e7,e8,e9,e10⟩:=hr i s hs
 have hil:=(List.getElem?_eq_some_iff.1 hs).1
 have hlast:=h.last
 have hlen:=h.len
 have hga:(a:Int)+1∉L.gone:=hf i s (Nat.le_refl _) hs _ (by rw[e3];exact List.mem_cons_self)
 have hgk:(k:Int)+1∉L.gone:=hf i s (Nat.le_refl _) hs _ (by rw[e3];exact List.mem_cons_of_mem _ List.mem_cons_self)
 have hhas: ∀q:Nat,q<cs.length+i→(q:Int)+1∉L.gone→L.has ((q:Int)+1)=true:=fun q hq hg=>by
  unfold ELog.has
  rw[Bool.and_eq_true,decide_eq_true_eq,Bool.not_eq_true',←Bool.not_eq_true,List.contains_iff_mem]
  exact⟨⟨by omega,by omega⟩,hg⟩
 have herr:learnErr L s.lits s.hints=0:=by
  unfold learnErr
  rw[hd,if_neg (by decide),if_neg (by rw[e10.clause];decide),if_neg (by rw[e3];show¬65536<2;decide),if_neg (by
   rw[e3]
   simp only[List.any_cons,List.any_nil,hhas a e4 hga,hhas k e5 hgk]
   decide),if_neg (by
   unfold ELog.full
   rw[decide_eq_false (by omega),decide_eq_false (by omega)]
   decide)]
 have hat: ∀(q:Nat) (c:List Int),q<cs.length+i→(cs++ss.map EStep.lits)[q]? =some c→(cs++(ss.take i).map EStep.lits)[q]? =some c:=fun q c hq hc=>by
  rcases Nat.lt_or_ge q cs.length with h1|h1
  ·rw[List.getElem?_append_left h1]at hc⊢
   exact hc
  ·rw[List.getElem?_append_right h1,List.getElem?_map]at hc⊢
   rw[List.getElem?_take_of_lt (by omega)]
   exact hc
 have hcl: ∀(q:Nat) (c:List Int),(cs++ss.map EStep.lits)[q]? =some c→clauseB c=true:=fun q c hc=>by
  rcases List.mem_append.1 (List.mem_of_getElem? hc)with hm|hm
  ·exact(h6 c hm).clause
  ·obtain⟨t,ht,rfl⟩:=List.mem_map.1 hm
   obtain⟨j,hj⟩:=List.getElem?_of_mem ht
   obtain⟨_,_,_,_,_,_,_,_,_,_,_,_,_,_,h9⟩:=hr j t hj
   exact h9.clause
 have hall:(cs++(ss.take i).map EStep.lits).length=L.last:=by rw[List.length_append,List.length_map,List.length_take,hlast];omega
 refine⟨herr,by rw[e2,hlast],⟨inv_learn h.inv herr,by show L.last+1=_;omega,?_,fun t ht=>?_,fun he=>?_⟩,fun j t hj ht=>?_,?_,?_⟩
 ·show(L.steps++_).length≤_
  rw[List.length_append,List.length_singleton]
  omega
 ·rcases List.mem_append.1 ht with ht|ht
  ·exact h.few t ht
  ·rw[List.mem_singleton.1 ht]
   exact⟨e10.1,by show s.hints.length≤2;rw[e3];exact Nat.le_refl _⟩
 ·have hlc:=(h.lc he).learn hd hall (fun x hx=>(h.inv.rng x hx).2) (by omega) (hat a x e4 e6) (hat k y e5 e7) hga hgk e8 (hcl a x e6) (hcl k y e7) e10.clause
  rw[←e3]at hlc
  rw[List.take_add_one,hs,List.map_append,←List.append_assoc]
  exact hlc
 ·exact hf j t (by omega) ht
 ·unfold ELog.join ELog.learn
  simp
 ·show(L.steps++_).length+1≤_
  rw[List.length_append,List.length_singleton]
  omega
theorem KI.forget (h:KI cs ss i L) (hl:ss.length≤20) (hn:cs.length≤14) (hi:i≤ss.length) (hd:L.done=false) (hj:L.join=false) (hlen2:L.steps.length+1≤2*i) (x:Int):
  (L.has x=false→forgetErr L [x]≠0∧forgetLog L [x]=L)∧
  (L.has x=true→forgetErr L [x]=0∧forgetNum L [x]=1∧forgetLog L [x]=L.addDel [x]∧(L.addDel [x]).has x=false∧KI cs ss i (L.addDel [x])∧(Fut ss i L→(∀(j:Nat) (t:EStep),i≤j→ss[j]? =some t→x∉t.hints)→Fut ss i (L.addDel [x]))):=by
 have hlast:=h.last
 have hlen:=h.len
 constructor
 ·intro hx
  have hb:badGo L [] [x]= [x]:=by
   unfold badGo
   rw[hx]
   rfl
  have he:forgetErr L [x]=170:=by
   unfold forgetErr
   rw[hd,if_neg (by decide),hb,if_pos (by simp)]
  refine⟨by rw[he];decide,?_⟩
  unfold forgetLog
  rw[he,if_neg (by simp)]
 ·intro hx
  have hb:badGo L [] [x]= []:=by
   unfold badGo
   rw[hx]
   rfl
  have hfg:L.forget [x]=L.addDel [x]:=by
   unfold ELog.forget
   unfold ELog.join at hj
   split
   ·rename_i t ht
    rw[ht]at hj
    simp only at hj
    rw[hj]
    rfl
   ·rfl
  have htot:L.tot [x]=1:=by
   unfold ELog.tot
   unfold ELog.join at hj
   split
   ·rename_i t ht
    rw[ht]at hj
    simp only at hj
    rw[hj]
    rfl
   ·rfl
  have he:forgetErr L [x]=0:=by
   unfold forgetErr
   rw[hd,if_neg (by decide),hb,if_neg (by simp),if_neg (by simp),htot,if_neg (by decide),if_neg (by omega)]
  have hnum:forgetNum L [x]=1:=by
   unfold forgetNum
   rw[hd,if_neg (by decide),hb]
   simp only
   rw[if_pos he]
   rfl
  have hinv:=inv_forget h.inv he (by simp)
  rw[hfg]at hinv
  have hall:(cs++(ss.take i).map EStep.lits).length=L.last:=by rw[List.length_append,List.length_map,List.length_take,hlast];omega
  refine⟨he,hnum,?_,?_,⟨hinv,hlast,?_,fun t ht=>?_,fun hc=>?_⟩,fun hf hno j t hj2 ht y hy hg=>?_⟩
  ·unfold forgetLog
   rw[if_pos ⟨he,by simp⟩,hfg]
  ·unfold ELog.has ELog.addDel
   simp
  ·show(L.steps++_).length≤_
   rw[List.length_append,List.length_singleton]
   exact hlen2
  ·rcases List.mem_append.1 ht with ht|ht
   ·exact h.few t ht
   ·rw[List.mem_singleton.1 ht]
    exact⟨Nat.zero_le _,by show 1≤2;decide⟩
  ·exact(h.lc hc).forget hd hall (by omega) hx
  ·rcases List.mem_append.1 hg with hg|hg
   ·exact hf j t hj2 ht y hy hg
   ·rw[List.mem_singleton.1 hg]at hy
    exact hno j t hj2 ht hy
end
end Go.Proofs.YtcbjjdpngeabgaaGreatDoor
