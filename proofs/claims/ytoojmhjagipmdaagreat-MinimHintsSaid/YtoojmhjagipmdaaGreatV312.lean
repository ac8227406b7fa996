/- The watch, plainly: what is propagated level by level. Clauses in memory. An arena and a trail that are apart, in own blocks; clauses added, calls played. An arena with clauses, a trail with calls (package salvorlaw14: Put). -/
import Derived.Test.YtoojmhjagipmdaaGreatV311
import Derived.Test.YtoojmhjagipmdaaGreatV301
import Derived.Test.YtoojmhjagipmdaaGreatV305
import Derived.Test.YtoojmhjagipmdaaGreatV304
import Derived.Test.YtoojmhjagipmdaaGreatV309
namespace Go.Proofs.YtoojmhjagipmdaaGreat
open Go.RowKit
variable {T:Trl} {its:List RIt}
theorem eachGo_mem {x:Int} (c:List Int) (o:List Int):x∈eachGo o c↔x∈o∨x∈c:=by
 induction c generalizing o with
 | nil=>simp[eachGo]
 | cons l r ih=>
  unfold eachGo
  rw[ih,List.mem_cons]
  split
  ·rename_i h
   have hm:l∈o:=by simpa using h
   constructor
   ·rintro (h|h)
    ·exact .inl h
    ·exact .inr (.inr h)
   ·rintro (h|rfl|h)
    ·exact .inl h
    ·exact .inl hm
    ·exact .inr h
  ·rw[List.mem_append,List.mem_singleton,or_assoc]
theorem eachL_mem {x:Int} {c:List Int}:x∈eachL c↔x∈c:=by
 unfold eachL
 rw[eachGo_mem]
 simp
theorem eachGo_nodup (c:List Int) {o:List Int} (h:o.Nodup):(eachGo o c).Nodup:=by
 induction c generalizing o with
 | nil=>exact h
 | cons l r ih=>
  unfold eachGo
  apply ih
  split
  ·exact h
  ·rename_i hc
   have hm:l∉o:=by simpa using hc
   rw[List.nodup_append]
   refine⟨h,by simp,fun a ha b hb=>?_⟩
   rw[List.mem_singleton]at hb
   subst hb
   rintro rfl
   exact hm ha
theorem eachL_nodup (c:List Int):(eachL c).Nodup:=eachGo_nodup c List.nodup_nil
theorem eachGo_len (c:List Int) (o:List Int):(eachGo o c).length≤o.length+c.length:=by
 induction c generalizing o with
 | nil=>simp[eachGo]
 | cons l r ih=>
  unfold eachGo
  have:=ih (if o.contains l=true then o else o++ [l])
  have h2:(if o.contains l=true then o else o++ [l]).length≤o.length+1:=by
   split
   ·omega
   ·simp
  simp only[List.length_cons]
  omega
theorem eachL_len (c:List Int):(eachL c).length≤c.length:=by
 have:=eachGo_len c []
 unfold eachL
 simpa using this
def Has (its:List RIt) (y:Int):Prop:= ∃(p:Nat) (x:RIt),its[p]? =some x∧x.lit=y
def HasAt (its:List RIt) (n:Nat) (y:Int):Prop:= ∃(p:Nat) (x:RIt),p<n∧its[p]? =some x∧x.lit=y
theorem HasAt.mono {its its':List RIt} (hp:its <+: its') {n n':Nat} (hn:n≤n') {y:Int} (h:HasAt its n y):HasAt its' n' y:=by
 obtain⟨p,x,h1,h2,h3⟩:=h
 obtain⟨t,rfl⟩:=hp
 exact⟨p,x,by omega,by rw[List.getElem?_append_left (List.getElem?_eq_some_iff.1 h2).1];exact h2,h3⟩
theorem HasAt.has {its:List RIt} {n:Nat} {y:Int} (h:HasAt its n y):Has its y:=by
 obtain⟨p,x,_,h2,h3⟩:=h
 exact⟨p,x,h2,h3⟩
theorem Has.at {its:List RIt} {y:Int} (h:Has its y):HasAt its its.length y:=by
 obtain⟨p,x,h2,h3⟩:=h
 exact⟨p,x,(List.getElem?_eq_some_iff.1 h2).1,h2,h3⟩
theorem pre_get {its its':List RIt} (hp:its <+: its') {p:Nat} {x:RIt} (h:its[p]? =some x):its'[p]? =some x:=by
 obtain⟨t,rfl⟩:=hp
 rw[List.getElem?_append_left (List.getElem?_eq_some_iff.1 h).1]
 exact h
def Rsn (C:Int→Option (List Int)) (its:List RIt):Prop:=
 ∀(p:Nat) (x:RIt),its[p]? =some x→x.reason≠0→∃c,C x.reason=some c∧x.lit∈c∧∀y∈c,y≠x.lit→HasAt its p (-y)
theorem Rsn.snoc {C:Int→Option (List Int)} {its:List RIt} (h:Rsn C its) {x:RIt} (hx:x.reason≠0→∃c,C x.reason=some c∧x.lit∈c∧∀y∈c,y≠x.lit→Has its (-y)):Rsn C (its++ [x]):=by
 intro p z hz hr
 have hpre:its <+: its++ [x]:=⟨[x],rfl⟩
 rcases Nat.lt_or_ge p its.length with hp|hp
 ·rw[List.getElem?_append_left hp]at hz
  obtain⟨c,h1,h2,h3⟩:=h p z hz hr
  exact⟨c,h1,h2,fun y hy hne=>(h3 y hy hne).mono hpre (Nat.le_refl _)⟩
 ·have h1:=(List.getElem?_eq_some_iff.1 hz).1
  rw[List.length_append,List.length_singleton]at h1
  obtain rfl:p=its.length:=by omega
  rw[List.getElem?_append_right (Nat.le_refl _),Nat.sub_self]at hz
  obtain rfl:x=z:=by simpa using hz
  obtain⟨c,h1,h2,h3⟩:=hx hr
  exact⟨c,h1,h2,fun y hy hne=>(h3 y hy hne).at.mono hpre (Nat.le_refl _)⟩
theorem Rsn.take {C:Int→Option (List Int)} {its:List RIt} (h:Rsn C its) (n:Nat):Rsn C (its.take n):=by
 intro p x hx hr
 have hp:=(List.getElem?_eq_some_iff.1 hx).1
 rw[List.length_take]at hp
 rw[List.getElem?_take,if_pos (by omega)]at hx
 obtain⟨c,h1,h2,h3⟩:=h p x hx hr
 refine⟨c,h1,h2,fun y hy hne=>?_⟩
 obtain⟨q,z,hq,hz,hl⟩:=h3 y hy hne
 exact⟨q,z,hq,by rw[List.getElem?_take,if_pos (by omega)];exact hz,hl⟩
structure HInv (C:Int→Option (List Int)) (its:List RIt) (now:Int) (S:Wst):Prop where
 bnd:S.Bnd
 link:S.Link
 kn: ∀id k,S.kn id=some k→∃c,C id=some c∧k.lits=eachL c
 two: ∀id k c,S.kn id=some k→C id=some c→k.by_= []→alwL c=true∨k.lits.length≤1
 alw: ∀id k c,S.kn id=some k→C id=some c→alwL c=true→k.by_= []
 w: ∀id k a,S.kn id=some k→a∈k.by_→∀(p:Nat) (x:RIt),p<S.looked→its[p]? =some x→x.lit= -a→∃(q:Nat) (y:RIt),its[q]? =some y∧y.lit=k.other a∧y.level≤x.level
 cur: ∀(p:Nat) (x:RIt),S.looked≤p→its[p]? =some x→x.level=now
 len:S.looked≤its.length
 rs:Rsn C its
structure HMid (C:Int→Option (List Int)) (its:List RIt) (now:Int) (S:Wst) (l:Int) (todo:List Int):Prop where
 inv:HInv C its now S
 at_: ∃x,its[S.looked]? =some x∧x.lit= -l
 sub: ∀id∈todo,id∈S.row l
 nd:todo.Nodup
 done: ∀id k,S.kn id=some k→l∈k.by_→id∉todo→Has its (k.other l)
theorem HInv.fit {C:Int→Option (List Int)} {now:Int} {S:Wst} (h:HInv C its now S) {id:Int} {k:Kn} (hk:S.kn id=some k): ∀y∈k.lits,litB y=true:=(h.bnd.kn hk).2.2.2
theorem Kn.two_of {k:Kn} (h:k.by_= []∨∃a b,a≠b∧k.by_= [a,b]∧a∈k.lits∧b∈k.lits) {l:Int} (hl:l∈k.by_): ∃a b,a≠b∧k.by_= [a,b]∧a∈k.lits∧b∈k.lits:=by
 rcases h with h|h
 ·rw[h]at hl
  cases hl
 ·exact h
theorem Kn.by_lits {k:Kn} (h:k.by_= []∨∃a b,a≠b∧k.by_= [a,b]∧a∈k.lits∧b∈k.lits) {l:Int} (hl:l∈k.by_):l∈k.lits:=by
 obtain⟨a,b,_,h2,ha,hb⟩:=Kn.two_of h hl
 rw[h2]at hl
 rcases List.mem_cons.1 hl with rfl|hl
 ·exact ha
 ·rw[List.mem_singleton.1 hl]
  exact hb
theorem looked_drop (S:Wst) (l id:Int):(S.drop l id).looked=S.looked:=by
 unfold Wst.drop
 split <;> rfl
theorem looked_move (S:Wst) (id l x:Int) (k:Kn):(S.move id l x k).looked=S.looked:=looked_drop S l id
inductive LookOut (A:Arn) (C:Int→Option (List Int)) (T:Trl) (its:List RIt) (S:Wst) (l id:Int) (todo:List Int):Prop
 | goes (its':List RIt) (T':Trl) (S':Wst) (he:lookOne A T S l id=(T',S',false)) (hs:Sim T' its') (hp:its <+: its') (hm:HMid C its' T.now S' l todo) (hn:T'.now=T.now) (hv:T'.vars.length=T.vars.length) (hl:S'.looked=S.looked)
 | fails (he:lookOne A T S l id=(T,S,true)) (hf: ∃c,C id=some c∧∀y∈c,Has its (-y))
theorem look_one {A:Arn} {C:Int→Option (List Int)} {S:Wst} {l id:Int} {todo:List Int} (hs:Sim T its) (h:HMid C its T.now S l (id::todo)) (hA: ∀id k,S.kn id=some k→(A.find id).isSome=true) (hV: ∀id c,C id=some c→∀y∈c,litV y<T.vars.length):
  LookOut A C T its S l id todo:=by
 have hm:=h.sub id List.mem_cons_self
 obtain⟨k,hk,hl⟩:=(h.inv.link l id).1 hm
 have hkb:=h.inv.bnd.kn hk
 obtain⟨c,hc,hkc⟩:=h.inv.kn id k hk
 obtain⟨a,b,hab,hab2,_,_⟩:=Kn.two_of hkb.2.1 hl
 obtain⟨o1,o2,o3⟩:=Kn.other_mem hab hab2 hl
 have hol:=Kn.by_lits hkb.2.1 o1
 have hll:=Kn.by_lits hkb.2.1 hl
 have hob:=hkb.2.2.2 _ hol
 have hlb:=hkb.2.2.2 _ hll
 obtain⟨x0,hx0,hx0l⟩:=h.at_
 have hnd:=List.nodup_cons.1 h.nd
 have e0:lookOne A T S l id=if T.tru (k.other l)=true then(T,S,false)else match k.next T l with
   | some x=>(T,S.move id l x k,false)
   | none=>if T.fal (k.other l)=true then(T,S,true)else(T.assigned (k.other l) id,S,false):=by
  unfold lookOne
  rw[if_neg (by rw[hA id k hk];decide),hk]
  rfl
 have rest: ∀j∈todo,j∈S.row l:=fun j hj=>h.sub j (List.mem_cons_of_mem _ hj)
 by_cases ht:T.tru (k.other l)=true
 ·rw[if_pos ht]at e0
  refine .goes its T S e0 hs (List.prefix_refl _) ⟨h.inv,h.at_,rest,hnd.2,fun j k' hk' hl' hj=>?_⟩ rfl rfl rfl
  by_cases hji:j=id
  ·subst hji
   rw[hk]at hk'
   obtain rfl:=Option.some.inj hk'
   exact(hs.tru_iff hob).1 ht
  ·exact h.done j k' hk' hl' (by simp[hji,hj])
 ·rw[if_neg ht]at e0
  cases hnx:k.next T l with
  | some x=>
   rw[hnx]at e0
   have h1:=List.mem_of_find?_eq_some hnx
   have h2:=List.find?_some hnx
   rw[Bool.and_eq_true,decide_eq_true_eq]at h2
   obtain⟨⟨hxl,hxo⟩,hxf⟩:=h2
   have hxf':T.fal x=false:=by simpa using hxf
   obtain⟨m1,m2,m3,m4,m5,m6⟩:=move_ok h.inv.bnd h.inv.link hk hl h1 hxl hxo
   have hmv:=Kn.move_mem (l:=l) x hab2
   have hxb:=hkb.2.2.2 x h1
   have knM: ∀j k',(S.move id l x k).kn j=some k'→(j=id∧k'=k.move l x)∨(j≠id∧S.kn j=some k'):=fun j k' hk'=>by
    rw[m6]at hk'
    split at hk'
    ·rename_i e
     exact .inl ⟨e,(Option.some.inj hk').symm⟩
    ·rename_i e
     exact .inr ⟨e,hk'⟩
   have hbm:(k.move l x).by_≠ []:=fun e=>by
    have:=(hmv x).2 (.inl rfl)
    rw[e]at this
    cases this
   refine .goes its T _ e0 hs (List.prefix_refl _) ⟨⟨m4,m5,fun j k' hk'=>?_,fun j k' c' hk' hc' hb'=>?_,fun j k' c' hk' hc' ha'=>?_,fun j k' a' hk' ha' p z hp hz hzl=>?_,fun p z hp hz=>h.inv.cur p z (by rwa [looked_move]at hp) hz,by rw[looked_move];exact h.inv.len,h.inv.rs⟩,by rw[looked_move];exact h.at_,fun j hj=>?_,hnd.2,fun j k' hk' hl' hj=>?_⟩ rfl rfl (looked_move _ _ _ _ _)
   ·rcases knM j k' hk' with⟨rfl,rfl⟩|⟨_,hk''⟩
    ·exact⟨c,hc,hkc⟩
    ·exact h.inv.kn j k' hk''
   ·rcases knM j k' hk' with⟨rfl,rfl⟩|⟨_,hk''⟩
    ·exact absurd hb' hbm
    ·exact h.inv.two j k' c' hk'' hc' hb'
   ·rcases knM j k' hk' with⟨rfl,rfl⟩|⟨_,hk''⟩
    ·have:=h.inv.alw j k c' hk hc' ha'
     rw[this]at hl
     cases hl
    ·exact h.inv.alw j k' c' hk'' hc' ha'
   ·rcases knM j k' hk' with⟨rfl,rfl⟩|⟨_,hk''⟩
    ·rcases (hmv a').1 ha' with rfl|rfl
     ·
      exact absurd ((hs.fal_iff hxb).2 ⟨p,z,hz,hzl⟩) (by rw[hxf'];decide)
     ·
      have hp':p<S.looked:=by rwa [looked_move]at hp
      obtain⟨q,y,hq,hyl,_⟩:=h.inv.w j k (k.other l) hk o1 p z hp' hz hzl
      have hoo:k.other (k.other l)=l:=by
       obtain⟨_,h5,h6⟩:=Kn.other_mem hab hab2 o1
       rcases (h6 l).1 hl with e|e
       ·exact absurd e (Ne.symm o2)
       ·exact e.symm
      rw[hoo]at hyl
      have hf:=(hs.fal_iff hlb).2 ⟨_,x0,hx0,hx0l⟩
      have htt:=(hs.tru_iff hlb).2 ⟨q,y,hq,hyl⟩
      unfold Trl.fal at hf
      unfold Trl.tru at htt
      rw[decide_eq_true_eq]at hf htt
      omega
    ·exact h.inv.w j k' a' hk'' ha' p z (by rwa [looked_move]at hp) hz hzl
   ·have hne:j≠id:=fun e=>hnd.1 (e▸hj)
    rw[m5 l j,m6,if_neg hne]
    exact(h.inv.link l j).1 (rest j hj)
   ·rcases knM j k' hk' with⟨rfl,rfl⟩|⟨hne,hk''⟩
    ·rcases (hmv l).1 hl' with e|e
     ·exact absurd e.symm hxl
     ·exact absurd e.symm o2
    ·exact h.done j k' hk'' hl' (by simp[hne,hj])
  | none=>
   rw[hnx]at e0
   simp only[]at e0
   have hall: ∀y∈k.lits,y≠k.other l→Has its (-y):=fun y hy hne=>by
    by_cases hyl:y=l
    ·rw[hyl]
     exact⟨_,x0,hx0,hx0l⟩
    ·have:=List.find?_eq_none.1 hnx y hy
     simp only[ne_eq,Bool.and_eq_true,decide_eq_true_eq,Bool.not_eq_true',not_and,Bool.not_eq_false]at this
     exact(hs.fal_iff (hkb.2.2.2 y hy)).1 (this ⟨hyl,hne⟩)
   by_cases hf:T.fal (k.other l)=true
   ·rw[if_pos hf]at e0
    refine .fails e0 ⟨c,hc,fun y hy=>?_⟩
    have hyk:y∈k.lits:=by rw[hkc,eachL_mem];exact hy
    by_cases hyo:y=k.other l
    ·rw[hyo]
     exact(hs.fal_iff hob).1 hf
    ·exact hall y hyk hyo
   ·rw[if_neg hf]at e0
    have hoc:k.other l∈c:=by rw[←eachL_mem,←hkc];exact hol
    have hae:=assign_ok (T:=T) hob (hV id c hc _ hoc) (r:=id) (by omega) (by simpa using hf) (by simpa using ht)
    have hs':=hs.snoc hae
    have hpre:its <+: its++ [(⟨k.other l,id,T.now⟩:RIt)]:=⟨_,rfl⟩
    refine .goes _ _ S e0 hs' hpre ⟨⟨h.inv.bnd,h.inv.link,h.inv.kn,h.inv.two,h.inv.alw,fun j k' a' hk' ha' p z hp hz hzl=>?_,fun p z hp hz=>?_,?_,?_⟩,⟨x0,pre_get hpre hx0,hx0l⟩,rest,hnd.2,fun j k' hk' hl' hj=>?_⟩ (assigned_now _ _ _) (assigned_vars _ _ _) rfl
    ·have hpl:p<its.length:=Nat.lt_of_lt_of_le hp h.inv.len
     rw[List.getElem?_append_left hpl]at hz
     obtain⟨q,y,hq,h3⟩:=h.inv.w j k' a' hk' ha' p z hp hz hzl
     exact⟨q,y,pre_get hpre hq,h3⟩
    ·rcases Nat.lt_or_ge p its.length with hpl|hpl
     ·rw[List.getElem?_append_left hpl]at hz
      exact h.inv.cur p z hp hz
     ·have h1:=(List.getElem?_eq_some_iff.1 hz).1
      rw[List.length_append,List.length_singleton]at h1
      obtain rfl:p=its.length:=by omega
      rw[List.getElem?_append_right (Nat.le_refl _),Nat.sub_self]at hz
      obtain rfl:_=z:=by simpa using hz
      rfl
    ·have:=h.inv.len
     simp
     omega
    ·refine h.inv.rs.snoc (fun _=>⟨c,hc,hoc,fun y hy hne=>?_⟩)
     exact hall y (by rw[hkc,eachL_mem];exact hy) hne
    ·by_cases hji:j=id
     ·subst hji
      rw[hk]at hk'
      obtain rfl:=Option.some.inj hk'
      exact⟨its.length,⟨k.other l,j,T.now⟩,by rw[List.getElem?_append_right (Nat.le_refl _),Nat.sub_self];rfl,rfl⟩
     ·obtain⟨p,z,hz,hzl⟩:=h.done j k' hk' hl' (by simp[hji,hj])
      exact⟨p,z,pre_get hpre hz,hzl⟩
theorem lookGo_cons (A:Arn) (T:Trl) (S:Wst) (l id:Int) (r:List Int):lookGo A T S l (id::r)=if(lookOne A T S l id).2.2=true then((lookOne A T S l id).1,(lookOne A T S l id).2.1,some id)else lookGo A (lookOne A T S l id).1 (lookOne A T S l id).2.1 l r:=rfl
inductive PlaceOut (A:Arn) (C:Int→Option (List Int)) (T:Trl) (its:List RIt) (S:Wst) (l:Int) (ids:List Int):Prop
 | goes (its':List RIt) (T':Trl) (S':Wst) (he:lookGo A T S l ids=(T',S',none)) (hs:Sim T' its') (hp:its <+: its') (hm:HMid C its' T.now S' l []) (hn:T'.now=T.now) (hv:T'.vars.length=T.vars.length) (hl:S'.looked=S.looked)
 | fails (its':List RIt) (T':Trl) (S':Wst) (id:Int) (he:lookGo A T S l ids=(T',S',some id)) (hs:Sim T' its') (hp:its <+: its') (hm:HInv C its' T.now S') (hn:T'.now=T.now) (hv:T'.vars.length=T.vars.length) (hl:S'.looked=S.looked) (hf: ∃c,C id=some c∧∀y∈c,Has its' (-y))
theorem known_move {S:Wst} {id l x:Int} {k:Kn} (h:S.Bnd) (hL:S.Link) (hk:S.kn id=some k) (hl:l∈k.by_) (hx:x∈k.lits) (hxl:x≠l) (hxo:x≠k.other l) (j:Int):((S.move id l x k).kn j).isSome=(S.kn j).isSome:=by
 rw[(move_ok h hL hk hl hx hxl hxo).2.2.2.2.2]
 split
 ·rename_i e
  rw[e,hk]
  rfl
 ·rfl
theorem lookOne_known (A:Arn) (T:Trl) {S:Wst} (h:S.Bnd) (hL:S.Link) {l id:Int} (hm:id∈S.row l) (hA:(A.find id).isSome=true) (j:Int):((lookOne A T S l id).2.1.kn j).isSome=(S.kn j).isSome:=by
 obtain⟨k,hk,hl⟩:=(hL l id).1 hm
 unfold lookOne
 rw[if_neg (by rw[hA];decide),hk]
 simp only[]
 split
 ·rfl
 ·split
  ·rename_i x hx
   have h1:=List.mem_of_find?_eq_some hx
   have h2:=List.find?_some hx
   rw[Bool.and_eq_true,decide_eq_true_eq]at h2
   exact known_move h hL hk hl h1 h2.1.1 h2.1.2 j
  ·split <;> rfl
theorem look_place {A:Arn} {C:Int→Option (List Int)} (hV0:Nat) (hV: ∀id c,C id=some c→∀y∈c,litV y<hV0) {l:Int} (ids:List Int): ∀{T:Trl} {its:List RIt} {S:Wst},T.vars.length=hV0→Sim T its→HMid C its T.now S l ids→(∀id k,S.kn id=some k→(A.find id).isSome=true)→
  PlaceOut A C T its S l ids:=by
 induction ids with
 | nil=>exact fun {T its S} _ hs h _=>.goes its T S rfl hs (List.prefix_refl _) h rfl rfl rfl
 | cons id r ih=>
  intro T its S hV1 hs h hA
  have hm:=h.sub id List.mem_cons_self
  have hkn:=lookOne_known A T h.inv.bnd h.inv.link hm (by
   obtain⟨k,hk,_⟩:=(h.inv.link l id).1 hm
   exact hA id k hk)
  rcases look_one hs h hA (by rw[hV1];exact hV)with⟨its',T',S',he,hs',hp,hm',hn,hv,hl⟩|⟨he,hf⟩
  ·have e1:lookGo A T S l (id::r)=lookGo A T' S' l r:=by
    rw[lookGo_cons,he]
    exact if_neg (show¬false=true by decide)
   rw[he]at hkn
   have hA': ∀id k,S'.kn id=some k→(A.find id).isSome=true:=fun j k' hk'=>by
    have h2:=hkn j
    rw[show(T',S',false).2.1.kn j=some k' from hk']at h2
    obtain⟨k2,hk2⟩:=Option.isSome_iff_exists.1 (h2.symm.trans rfl)
    exact hA j k2 hk2
   rw[←hn]at hm'
   rcases ih (hv.trans hV1) hs' hm' hA' with⟨its2,T2,S2,he2,hs2,hp2,hm2,hn2,hv2,hl2⟩|⟨its2,T2,S2,id2,he2,hs2,hp2,hm2,hn2,hv2,hl2,hf2⟩
   ·exact .goes its2 T2 S2 (e1.trans he2) hs2 (hp.trans hp2) (hn▸hm2) (hn2.trans hn) (hv2.trans hv) (hl2.trans hl)
   ·exact .fails its2 T2 S2 id2 (e1.trans he2) hs2 (hp.trans hp2) (hn▸hm2) (hn2.trans hn) (hv2.trans hv) (hl2.trans hl) hf2
  ·refine .fails its T S id ?_ hs (List.prefix_refl _) h.inv rfl rfl rfl hf
   rw[lookGo_cons,he]
   exact if_pos rfl
theorem HMid.step {C:Int→Option (List Int)} {its:List RIt} {now:Int} {S:Wst} {l:Int} (h:HMid C its now S l []) (hlev: ∀x∈its,x.level≤now):HInv C its now S.step:=by
 obtain⟨x0,hx0,hx0l⟩:=h.at_
 refine⟨⟨h.inv.bnd.kr,h.inv.bnd.kb,h.inv.bnd.kl,h.inv.bnd.orr,h.inv.bnd.ob⟩,h.inv.link,h.inv.kn,h.inv.two,h.inv.alw,fun id k a hk ha p x hp hx hxl=>?_,fun p x hp hx=>h.inv.cur p x (Nat.le_of_succ_le hp) hx,(List.getElem?_eq_some_iff.1 hx0).1,h.inv.rs⟩
 have hp':p<S.looked+1:=hp
 rcases Nat.lt_or_ge p S.looked with hlt|hge
 ·exact h.inv.w id k a hk ha p x hlt hx hxl
 ·obtain rfl:p=S.looked:=by omega
  rw[hx0]at hx
  obtain rfl:=Option.some.inj hx
  have hal:a=l:=by omega
  rw[hal]at ha⊢
  obtain⟨q,y,hq,hyl⟩:=h.done id k hk ha (by simp)
  refine⟨q,y,hq,hyl,?_⟩
  rw[h.inv.cur _ _ (Nat.le_refl _) hx0]
  exact hlev y (List.mem_of_getElem? hq)
inductive PropOut (A:Arn) (C:Int→Option (List Int)) (T:Trl) (its:List RIt) (S:Wst) (n:Nat):Prop
 | goes (its':List RIt) (T':Trl) (S':Wst) (he:propGo A n T S=(T',S',none)) (hs:Sim T' its') (hp:its <+: its') (hm:HInv C its' T.now S') (hn:T'.now=T.now) (hv:T'.vars.length=T.vars.length) (hl:S'.looked=its'.length)
 | fails (its':List RIt) (T':Trl) (S':Wst) (id:Int) (he:propGo A n T S=(T',S',some id)) (hs:Sim T' its') (hp:its <+: its') (hm:HInv C its' T.now S') (hn:T'.now=T.now) (hv:T'.vars.length=T.vars.length) (hf: ∃c,C id=some c∧∀y∈c,Has its' (-y))
theorem lookGo_known (A:Arn) {l:Int} (ids:List Int): ∀{T:Trl} {S:Wst},S.Bnd→S.Link→(∀id∈ids,id∈S.row l)→ids.Nodup→(∀id k,S.kn id=some k→(A.find id).isSome=true)→∀j,((lookGo A T S l ids).2.1.kn j).isSome=(S.kn j).isSome:=by
 induction ids with
 | nil=>exact fun _ _ _ _ _ j=>rfl
 | cons id r ih=>
  intro T S hb hL hsub hnd hA j
  have hm:=hsub id List.mem_cons_self
  have hok:=lookOne_ok A T hb hL hm
  have hkn:=lookOne_known A T hb hL hm (by
   obtain⟨k,hk,_⟩:=(hL l id).1 hm
   exact hA id k hk)
  unfold lookGo
  split
  ·exact hkn j
  ·have hn2:=List.nodup_cons.1 hnd
   rw[ih hok.1 hok.2 (fun i hi=>lookOne_row A T hb hL hm (hsub i (List.mem_cons_of_mem _ hi)) (fun e=>hn2.1 (e▸hi))) hn2.2 (fun i k hk=>?_)]
   ·exact hkn j
   ·have h2:=hkn i
    rw[hk]at h2
    obtain⟨k2,hk2⟩:=Option.isSome_iff_exists.1 (h2.symm.trans rfl)
    exact hA i k2 hk2
theorem up_nodup {r:List Int} (h:r.Pairwise (· < ·)):r.Nodup:=h.imp (fun h e=>by omega)
theorem prop_go {A:Arn} {C:Int→Option (List Int)} (hV0:Nat) (hV: ∀id c,C id=some c→∀y∈c,litV y<hV0) (n:Nat): ∀{T:Trl} {its:List RIt} {S:Wst},T.vars.length=hV0→Sim T its→HInv C its T.now S→(∀id k,S.kn id=some k→(A.find id).isSome=true)→hV0<n+S.looked+1→
  PropOut A C T its S n:=by
 induction n with
 | zero=>
  intro T its S hV1 hs h _ hn
  refine .goes its T S rfl hs (List.prefix_refl _) h rfl rfl ?_
  have h1:=h.len
  rcases hs.len with h2|h2
  ·omega
  ·rw[h2]at h1⊢
   simp at h1⊢
   exact h1
 | succ n ih=>
  intro T its S hV1 hs h hA hn
  cases hy:T.order[S.looked]? with
  | none=>
   have e:propGo A (n+1) T S=(T,S,none):=by
    unfold propGo
    rw[hy]
   refine .goes its T S e hs (List.prefix_refl _) h rfl rfl ?_
   rw[hs.order,List.getElem?_map,Option.map_eq_none_iff,List.getElem?_eq_none_iff]at hy
   have:=h.len
   omega
  | some y=>
   have hy2:=hy
   rw[hs.order,List.getElem?_map]at hy
   cases hx:its[S.looked]? with
   | none=>rw[hx]at hy;cases hy
   | some x=>
    rw[hx]at hy
    obtain rfl:x.lit=y:=by simpa using hy
    have hxb:=hs.litb (List.mem_of_getElem? hx)
    have hln:litN x.lit= -x.lit:=by unfold litN;rw[if_pos hxb]
    have hrow:=h.bnd.row (litN x.lit)
    have hmid:HMid C its T.now S (litN x.lit) (S.row (litN x.lit)):=⟨h,⟨x,hx,by rw[hln];omega⟩,fun id hid=>hid,up_nodup hrow.1,fun id k hk hl hid=>absurd ((h.link _ _).2 ⟨k,hk,hl⟩) hid⟩
    have hkn:=lookGo_known A (T:=T) (S.row (litN x.lit)) h.bnd h.link (fun id hid=>hid) (up_nodup hrow.1) hA
    rcases look_place (A:=A) hV0 hV _ hV1 hs hmid hA with⟨its',T',S',he,hs',hp,hm',hn',hv,hl⟩|⟨its',T',S',id,he,hs',hp,hm',hn',hv,hl,hf⟩
    ·have e1:propGo A (n+1) T S=propGo A n T' S'.step:=by
      conv=>lhs;unfold propGo
      rw[hy2]
      simp only[]
      rw[he]
     have hst:=hm'.step (fun z hz=>by rw[←hn'];exact(hs'.lev z hz).2)
     rw[←hn']at hst
     rw[he]at hkn
     have hA': ∀id k,S'.step.kn id=some k→(A.find id).isSome=true:=fun j k' hk'=>by
      have h2:=hkn j
      rw[show(T',S',(none:Option Int)).2.1.kn j=some k' from hk']at h2
      obtain⟨k2,hk2⟩:=Option.isSome_iff_exists.1 (h2.symm.trans rfl)
      exact hA j k2 hk2
     have hlk:S'.step.looked=S.looked+1:=by rw[←hl];rfl
     rcases ih (hv.trans hV1) hs' hst hA' (by rw[hlk];omega)with⟨its2,T2,S2,he2,hs2,hp2,hm2,hn2,hv2,hl2⟩|⟨its2,T2,S2,id2,he2,hs2,hp2,hm2,hn2,hv2,hf2⟩
     ·exact .goes its2 T2 S2 (e1.trans he2) hs2 (hp.trans hp2) (hn'▸hm2) (hn2.trans hn') (hv2.trans hv) hl2
     ·exact .fails its2 T2 S2 id2 (e1.trans he2) hs2 (hp.trans hp2) (hn'▸hm2) (hn2.trans hn') (hv2.trans hv) hf2
    ·refine .fails its' T' S' id ?_ hs' hp hm' hn' hv hf
     unfold propGo
     rw[hy2]
     simp only[]
     rw[he]
end Go.Proofs.YtoojmhjagipmdaaGreat
namespace Go.Proofs.YtoojmhjagipmdaaGreat
open Go.RowKit
def ClsAt (w:World) (v:Value) (cs:List (List Int)):Prop:=
 ∃A c,v= .slice A cs.length c∧∀i xs,cs[i]? =some xs→∃g o u,A=some ⟨g,o,none⟩∧g<w.heap.size∧w.cell? ⟨g,o+i,none⟩=some u∧IntsIn (fun g=>g<w.heap.size) w u xs
theorem ClsAt.below {w w':World} {v:Value} {cs:List (List Int)} (h:ClsAt w v cs) (hb:Below w.heap.size w w'):ClsAt w' v cs:=by
 obtain⟨A,c,hv,hx⟩:=h
 refine⟨A,c,hv,fun i xs hi=>?_⟩
 obtain⟨g,o,u,h1,h2,h3,h4⟩:=hx i xs hi
 exact⟨g,o,u,h1,Nat.lt_of_lt_of_le h2 hb.size,(hb.cell (p:=⟨g,o+i,none⟩) h2).trans h3,(h4.below hb).mono (fun g hg=>Nat.lt_of_lt_of_le hg hb.size)⟩
theorem ClsAt.nil (w:World):ClsAt w (.slice none 0 0) []:=⟨none,0,rfl,fun i xs h=>by simp at h⟩
end Go.Proofs.YtoojmhjagipmdaaGreat
namespace Go.Proofs.YtoojmhjagipmdaaGreat
open Go.RowKit
structure ActP where
 push:Bool
 l:Int
 by_:Int
def ActsIn (w:World) (v:Value) (acs:List ActP):Prop:=
 ∃A c,v= .slice A acs.length c∧∀i a,acs[i]? =some a→∃g o,A=some ⟨g,o,none⟩∧g<w.heap.size∧w.cell? ⟨g,o+i*3,none⟩=some (.bool a.push)∧w.cell? ⟨g,o+i*3+1,none⟩=some (.int .i64 a.l)∧w.cell? ⟨g,o+i*3+2,none⟩=some (.int .i64 a.by_)
theorem ActsIn.below {w w':World} {v:Value} {acs:List ActP} (h:ActsIn w v acs) (hb:Below w.heap.size w w'):ActsIn w' v acs:=by
 obtain⟨A,c,hv,hx⟩:=h
 refine⟨A,c,hv,fun i a hi=>?_⟩
 obtain⟨g,o,h1,h2,h3,h4,h5⟩:=hx i a hi
 exact⟨g,o,h1,Nat.lt_of_lt_of_le h2 hb.size,(hb.cell (p:=⟨g,o+i*3,none⟩) h2).trans h3,(hb.cell (p:=⟨g,o+i*3+1,none⟩) h2).trans h4,(hb.cell (p:=⟨g,o+i*3+2,none⟩) h2).trans h5⟩
theorem ActsIn.nil (w:World):ActsIn w (.slice none 0 0) []:=⟨none,0,rfl,fun i xs h=>by simp at h⟩
def Arn.put (A:Arn) (id:Int) (c:List Int):Arn:=if clauseB c=true then A.add id c else A
def addAll:Arn→Nat→List (List Int)→Arn
 | A,_,[]=>A
 | A,i,c::cs=>addAll (A.put ((i:Int)+1) c) (i+1) cs
def Trl.play (T:Trl) (a:ActP):Trl:=if a.push=true then T.push else T.assigned a.l a.by_
def playAll:Trl→List ActP→Trl
 | T,[]=>T
 | T,a::acs=>playAll (T.play a) acs
def arn0:Arn:=⟨[],[],0,0,0⟩
def trl0 (n:Nat):Trl:=⟨List.replicate (n+1) ⟨0,0,0,0⟩,[],[0]⟩
structure Arn.Low (A:Arn) (k:Nat):Prop where
 last:A.last≤(k:Int)
 used:A.used≤k*1000
 store:A.store.length≤k*1000
 all:A.all.length≤k
 count:A.count≤k
theorem Arn.Low.next {A:Arn} {k:Nat} (h:A.Low k) (c:List Int) (hc:c.length≤1000):(A.put ((k:Int)+1) c).Low (k+1):=by
 obtain⟨h1,h2,h3,h4,h5⟩:=h
 have e:(k+1)*1000=k*1000+1000:=Nat.succ_mul k 1000
 have u1:A.used+c.length≤(k+1)*1000:=e▸Nat.add_le_add h2 hc
 have u2:A.store.length+c.length≤(k+1)*1000:=e▸Nat.add_le_add h3 hc
 have v1:A.used≤(k+1)*1000:=Nat.le_trans (Nat.le_add_right _ _) u1
 have v2:A.store.length≤(k+1)*1000:=Nat.le_trans (Nat.le_add_right _ _) u2
 clear e h2 h3
 unfold Arn.put
 split
 ·refine⟨?_,u1,?_,?_,?_⟩
  ·simp[Arn.add]
  ·simp only[Arn.add,List.length_append]
   exact u2
  ·simp only[Arn.add,List.length_append,List.length_cons,List.length_nil]
   exact Nat.succ_le_succ h4
  ·simp only[Arn.add]
   exact Nat.succ_le_succ h5
 ·exact⟨by clear u1 u2 v1 v2;omega,v1,v2,Nat.le_succ_of_le h4,Nat.le_succ_of_le h5⟩
structure Trl.Low (T:Trl) (k:Nat):Prop where
 order:T.order.length≤k
 starts:T.starts.length≤k+1
theorem Trl.Low.next {T:Trl} {k:Nat} (h:T.Low k) (a:ActP):(T.play a).Low (k+1):=by
 obtain⟨h1,h2⟩:=h
 unfold Trl.play
 split
 ·exact⟨by simp only[Trl.push];omega,by simp only[Trl.push,List.length_append,List.length_cons,List.length_nil];omega⟩
 ·unfold Trl.assigned
  split
  ·exact⟨by simp only[Trl.assign,List.length_append,List.length_cons,List.length_nil];omega,by simp only[Trl.assign];omega⟩
  ·exact⟨by omega,by omega⟩
def PutAt (n:Nat) (w:World) (a b:Nat) (A:Arn) (T:Trl):Prop:=
 n≤w.heap.size∧∃OA OT:Nat→Prop,ArAt OA w a A∧TrAt OT w b T∧(∀g,OA g→n≤g)∧(∀g,OT g→n≤g)∧∀g,OA g→¬OT g
theorem PutAt.below {n:Nat} {w w':World} {a b:Nat} {A:Arn} {T:Trl} (h:PutAt n w a b A T) (hb:Below w.heap.size w w'):PutAt n w' a b A T:=by
 obtain⟨h0,OA,OT,h1,h2,h3⟩:=h
 exact⟨Nat.le_trans h0 hb.size,OA,OT,h1.below hb,h2.below hb,h3⟩
theorem ArAt.own {O:Nat→Prop} {w:World} {a:Nat} {A:Arn} (h:ArAt O w a A): ∀g,O g→g<w.heap.size:=by
 obtain⟨_,stv,alv,hm⟩:=h
 exact hm.own
theorem TrAt.own {O:Nat→Prop} {w:World} {b:Nat} {T:Trl} (h:TrAt O w b T): ∀g,O g→g<w.heap.size:=by
 obtain⟨_,gv,cv,ov,sv,hm⟩:=h
 exact hm.own
theorem PutAt.arena {n:Nat} {w w':World} {a b:Nat} {A':Arn} {T:Trl} {OA OT:Nat→Prop} (h0:n≤w.heap.size) (h2:TrAt OT w b T) (h3: ∀g,OA g→n≤g) (h4: ∀g,OT g→n≤g) (h5: ∀g,OA g→¬OT g) (k:ArNext OA w w' a A'):PutAt n w' a b A' T∧Below n w w':=by
 obtain⟨hA,hk⟩:=k
 have ho:=h2.own
 refine⟨⟨Nat.le_trans h0 hk.size,_,OT,hA,h2.kept hk (fun g hg ha=>h5 g ha hg),fun g hg=>?_,h4,fun g hg ht=>?_⟩,hk.below h3 h0⟩
 ·rcases hg with hg|hg
  ·exact h3 g hg
  ·omega
 ·rcases hg with hg|hg
  ·exact h5 g hg ht
  ·have:=ho g ht
   omega
theorem PutAt.trail {n:Nat} {w w':World} {a b:Nat} {A:Arn} {T':Trl} {OA OT:Nat→Prop} (h0:n≤w.heap.size) (h2:ArAt OA w a A) (h3: ∀g,OA g→n≤g) (h4: ∀g,OT g→n≤g) (h5: ∀g,OA g→¬OT g) (k:TrNext OT w w' b T'):PutAt n w' a b A T'∧Below n w w':=by
 obtain⟨hT,hk⟩:=k
 have ho:=h2.own
 refine⟨⟨Nat.le_trans h0 hk.size,OA,_,h2.kept hk h5,hT,h3,fun g hg=>?_,fun g hg ht=>?_⟩,hk.below h4 h0⟩
 ·rcases hg with hg|hg
  ·exact h4 g hg
  ·omega
 ·rcases ht with ht|ht
  ·exact h5 g hg ht
  ·have:=ho g hg
   omega
theorem put_add {n:Nat} {w:World} {a b:Nat} {A:Arn} {T:Trl} {k:Nat} (cv:Value) (c:List Int) (h:PutAt n w a b A T) (hl:A.Low k) (hk:k<1000) (hc:IntsIn (fun g=>g<w.heap.size) w cv c) (hcl:c.length≤1000):
  Calls Tryz.prog 92 #[.pointer (some ⟨a,0,none⟩),.int .i64 ((k:Int)+1),cv] w fun e w'=>(∃x:Int,e= .returned (.int .i64 x))∧PutAt n w' a b (A.put ((k:Int)+1) c) T∧Below n w w':=by
 obtain⟨h0,OA,OT,h1,h2,h3,h4,h5⟩:=h
 obtain⟨l1,l2,l3,l4,l5⟩:=hl
 cases hr:clauseB c with
 | true=>
  have e:A.put ((k:Int)+1) c=A.add ((k:Int)+1) c:=by unfold Arn.put;rw[if_pos hr]
  rw[e]
  refine(ar_add a A ((k:Int)+1) cv c w h1 hc hr (by omega) (by omega) (by omega) (by omega) (by omega) (by omega) (by omega)).mono ?_
  rintro e w' ⟨rfl,hn⟩
  exact⟨⟨_,rfl⟩,PutAt.arena h0 h2 h3 h4 h5 hn⟩
 | false=>
  have e:A.put ((k:Int)+1) c=A:=by unfold Arn.put;rw[if_neg (by rw[hr];decide)]
  rw[e]
  refine(ar_add_bad a A ((k:Int)+1) cv c w h1 hc hr (by omega)).mono ?_
  rintro e w' ⟨rfl,rfl⟩
  exact⟨⟨_,rfl⟩,⟨h0,OA,OT,h1,h2,h3,h4,h5⟩,Below.refl _ _⟩
theorem put_push {n:Nat} {w:World} {a b:Nat} {A:Arn} {T:Trl} {k:Nat} (h:PutAt n w a b A T) (hl:T.Low k) (hk:k<1000):
  Calls Tryz.prog 53 #[.pointer (some ⟨b,0,none⟩)] w fun e w'=>e= .returned (.int .i64 0)∧PutAt n w' a b A T.push∧Below n w w':=by
 obtain⟨h0,OA,OT,h1,h2,h3,h4,h5⟩:=h
 have:=hl.starts
 refine(tr_push b T w h2 (by omega)).mono ?_
 rintro e w' ⟨rfl,hn⟩
 exact⟨rfl,PutAt.trail h0 h1 h3 h4 h5 hn⟩
theorem put_assign {n:Nat} {w:World} {a b:Nat} {A:Arn} {T:Trl} {k:Nat} (l r:Int) (h:PutAt n w a b A T) (hl:T.Low k) (hk:k<1000):
  Calls Tryz.prog 54 #[.pointer (some ⟨b,0,none⟩),.int .i64 l,.int .i64 r] w fun e w'=>e= .returned (.int .i64 (T.assignErr l r:Nat))∧PutAt n w' a b A (T.assigned l r)∧Below n w w':=by
 obtain⟨h0,OA,OT,h1,h2,h3,h4,h5⟩:=h
 have:=hl.order
 refine(tr_assign b T l r w h2 (by omega)).mono ?_
 rintro e w' ⟨rfl,hn⟩
 exact⟨rfl,PutAt.trail h0 h1 h3 h4 h5 hn⟩
end Go.Proofs.YtoojmhjagipmdaaGreat
namespace Go.Proofs.YtoojmhjagipmdaaGreat
open Go.RowKit
set_option maxRecDepth 100000 in
set_option maxHeartbeats 2000000 in
theorem put_any (n:Nat) (cv av:Value) (cs:List (List Int)) (acs:List ActP) (w:World) (hn:n≤1048576) (hc:ClsAt w cv cs) (ha:ActsIn w av acs) (hcl:cs.length≤1000) (hce: ∀c∈cs,c.length≤1000) (hal:acs.length≤1000):
  Calls Tryz.prog 48 #[.int .i64 (n:Int),cv,av] w fun e w'=> ∃a b,e= .returned (.tuple #[.pointer (some ⟨a,0,none⟩),.pointer (some ⟨b,0,none⟩),.bool true])∧PutAt w.heap.size w' a b (addAll arn0 0 cs) (playAll (trl0 n) acs)∧Below w.heap.size w w':=by
 have HCC:=Lib.hid hc
 have HAA:=Lib.hid ha
 have HCE:=Lib.hid hce
 obtain⟨Ac,cc,rfl,_⟩:=hc
 obtain⟨Aa,ca,rfl,_⟩:=ha
 clear hce
 go_enter Tryz.func48,Tryz.ntmps48
 go_wp2_with fail
 refine(ar_new w).mono ?_
 rintro e w1 ⟨rfl,har,hw1⟩
 have hb1:Below w.heap.size w w1:=by rw[hw1];exact mx_al _ _
 have HAR:=Lib.hid har
 have HB1:=Lib.hid hb1
 have hz1:w.heap.size<w1.heap.size:=by rw[hw1];simp
 clear har hw1 hb1
 go_wp2_with fail
 refine(tr_new n w1 hn).mono ?_
 rintro e w2 ⟨b,rfl,htr,hb2⟩
 have hP:PutAt w.heap.size w2 w.heap.size b arn0 (trl0 n):=⟨Nat.le_trans (Nat.le_of_lt hz1) hb2.size,_,_,HAR.out.below hb2,htr,fun g hg=>Nat.le_of_eq hg.symm,fun g hg=>by have:=hg.1;omega,fun g hg ht=>by have:=ht.1;have e:g=w.heap.size:=hg;omega⟩
 have HP:=Lib.hid hP
 have HB2:=Lib.hid (HB1.out.trans (hb2.mono HB1.out.size))
 clear hP htr hb2
 go_wp2_with fail
 go_loopw [34] (fun i wr=> ∃(k:Nat) (A:Arn),k≤cs.length∧i= .int .i64 k∧Hid (addAll arn0 0 cs=addAll A k (cs.drop k))∧Hid (A.Low k)∧Hid (Below w.heap.size w wr)∧Hid (PutAt w.heap.size wr w.heap.size b A (trl0 n))) (fun i _=>cs.length-(intOf i).toNat)
 case atStart=>exact⟨0,arn0,Nat.zero_le _,rfl,Lib.hid rfl,Lib.hid ⟨by decide,by decide,by decide,by decide,by decide⟩,HB2,HP⟩
 case round=>
  obtain⟨k,A,hk,rfl,HF,HL,HW,HPW⟩:=hrel
  by_cases hlt:k<cs.length
  ·obtain⟨c,hck⟩:=getElem_of hlt
   obtain⟨A',c',hAc,hxs⟩:=HCC.out.below HW.out
   simp only[Value.slice.injEq,true_and]at hAc
   obtain⟨rfl,rfl⟩:=hAc
   obtain⟨g,o,u,rfl,hg,d0,hu⟩:=hxs k c hck
   have hdk:cs.drop k=c::cs.drop (k+1):=by
    rw[List.drop_eq_getElem_cons hlt]
    rw[List.getElem?_eq_getElem hlt]at hck
    rw[Option.some.inj hck]
   have hcl':=HCE.out c (List.mem_of_getElem? hck)
   have HN:=Lib.hid (show addAll arn0 0 cs=addAll (A.put ((k:Int)+1) c) (k+1) (cs.drop (k+1))from by rw[HF.out,hdk];rfl)
   have HL2:=Lib.hid (HL.out.next c hcl')
   have HCA:=Lib.hid (put_add u c HPW.out HL.out (by omega) hu hcl')
   clear hck hxs hdk hu
   go_wp2_with fail
   refine HCA.out.mono ?_
   rintro e w3 ⟨⟨x,rfl⟩,hp3,hb3⟩
   have HP3:=Lib.hid hp3
   have HB3:=Lib.hid (HW.out.trans hb3)
   clear hp3 hb3 d0 HCA
   go_wp2_with fail
   go_roundw
   case rel=>exact⟨k+1,_,by omega,by go_num,HN,HL2,HB3,HP3⟩
   case measure=>simp[intOf];omega
  ·obtain rfl:k=cs.length:=by omega
   have hF:=HF.out
   rw[List.drop_length,show addAll A cs.length []=A from rfl]at hF
   have HFA:=Lib.hid hF
   clear hF
   go_wp2_with fail
   go_loopw [47] (fun i wr=> ∃(m:Nat) (T:Trl),m≤acs.length∧i= .int .i64 m∧Hid (playAll (trl0 n) acs=playAll T (acs.drop m))∧Hid (T.Low m)∧Hid (Below w.heap.size w wr)∧Hid (PutAt w.heap.size wr w.heap.size b A T)) (fun i _=>acs.length-(intOf i).toNat)
   case atStart=>exact⟨0,trl0 n,Nat.zero_le _,rfl,Lib.hid rfl,Lib.hid ⟨Nat.zero_le _,Nat.le_refl _⟩,HW,HPW⟩
   case round=>
    obtain⟨m,T,hm,rfl,HG,HLT,HW2,HPT⟩:=hrel
    by_cases hlt2:m<acs.length
    ·obtain⟨ac,hac⟩:=getElem_of hlt2
     obtain⟨A',c',hAc,hxs⟩:=HAA.out.below HW2.out
     simp only[Value.slice.injEq,true_and]at hAc
     obtain⟨rfl,rfl⟩:=hAc
     obtain⟨g,o,rfl,hg,d0,d1,d2⟩:=hxs m ac hac
     have hdk:acs.drop m=ac::acs.drop (m+1):=by
      rw[List.drop_eq_getElem_cons hlt2]
      rw[List.getElem?_eq_getElem hlt2]at hac
      rw[Option.some.inj hac]
     have HN:=Lib.hid (show playAll (trl0 n) acs=playAll (T.play ac) (acs.drop (m+1))from by rw[HG.out,hdk];rfl)
     have HL2:=Lib.hid (HLT.out.next ac)
     obtain⟨W3,hW3⟩: ∃x,wr.alloc (.cells #[.bool ac.push,.int .i64 ac.l,.int .i64 ac.by_] 90)=x:=⟨_,rfl⟩
     have hb3:Below wr.heap.size wr W3:=by rw[←hW3];exact mx_al _ _
     have HP3:=Lib.hid (HPT.out.below hb3)
     have HB3:=Lib.hid (HW2.out.trans (hb3.mono HW2.out.size))
     have HW3:=Lib.hid hW3
     clear hac hxs hdk hW3 hb3
     cases hpu:ac.push with
     | true=>
      have HPL:=Lib.hid (show T.play ac=T.push from by unfold Trl.play;rw[if_pos hpu])
      have HPU:=Lib.hid (put_push HP3.out HLT.out (by omega))
      rw[hpu]at d0 HW3
      clear hpu
      go_wp2_with fail
      rw[HW3.out]
      refine HPU.out.mono ?_
      rintro e w4 ⟨rfl,hp4,hb4⟩
      have HP4:=Lib.hid hp4
      have HB4:=Lib.hid (HB3.out.trans hb4)
      clear hp4 hb4 d0 d1 d2 HPU HW3
      go_wp2_with fail
      go_roundw
      case rel=>exact⟨m+1,_,by omega,by go_num,HN,HL2,HB4,Lib.hid (by rw[HPL.out];exact HP4.out)⟩
      case measure=>simp[intOf];omega
     | false=>
      have HPL:=Lib.hid (show T.play ac=T.assigned ac.l ac.by_ from by unfold Trl.play;rw[if_neg (by rw[hpu];decide)])
      have HPU:=Lib.hid (put_assign ac.l ac.by_ HP3.out HLT.out (by omega))
      rw[hpu]at d0 HW3
      clear hpu
      go_wp2_with fail
      rw[HW3.out]
      refine HPU.out.mono ?_
      rintro e w4 ⟨rfl,hp4,hb4⟩
      have HP4:=Lib.hid hp4
      have HB4:=Lib.hid (HB3.out.trans hb4)
      clear hp4 hb4 d0 d1 d2 HPU HW3
      go_wp2_with fail
      go_roundw
      case rel=>exact⟨m+1,_,by omega,by go_num,HN,HL2,HB4,Lib.hid (by rw[HPL.out];exact HP4.out)⟩
      case measure=>simp[intOf];omega
    ·obtain rfl:m=acs.length:=by omega
     have hG:=HG.out
     rw[List.drop_length,show playAll T []=T from rfl]at hG
     have HGA:=Lib.hid hG
     clear hG
     go_wp2_with fail
     go_ret3
     exact⟨_,_,rfl,by rw[HFA.out,HGA.out];exact HPT.out,HW2.out⟩
end Go.Proofs.YtoojmhjagipmdaaGreat
