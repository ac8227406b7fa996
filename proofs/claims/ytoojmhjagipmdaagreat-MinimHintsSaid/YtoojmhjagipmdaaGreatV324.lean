/- Plain: a watch whose clauses are known from the level 0 on: what its calls keep. package rup: Look. package salvorlaw13: assigned. Calls at a watch, its arena and its trail: what a law's function keeps. package salvorlaw13: reasons, complete, decide. Plain: the example of chapter 13. Plain: a watch that begins with clauses. -/
import Derived.Test.YtoojmhjagipmdaaGreatV319
import Derived.Test.YtoojmhjagipmdaaGreatV312
import Derived.Test.YtoojmhjagipmdaaGreatV322
import Derived.Test.YtoojmhjagipmdaaGreatV323
import Derived.Test.YtoojmhjagipmdaaGreatV314
import Derived.Test.YtoojmhjagipmdaaGreatV300
import Derived.Test.YtoojmhjagipmdaaGreatV316
namespace Go.Proofs.YtoojmhjagipmdaaGreat
open Go.RowKit
def Has0 (its:List RIt) (y:Int):Prop:= ∃(p:Nat) (x:RIt),its[p]? =some x∧x.lit=y∧x.level=0
theorem Has0.has {its:List RIt} {y:Int} (h:Has0 its y):Has its y:=by
 obtain⟨p,x,h1,h2,_⟩:=h
 exact⟨p,x,h1,h2⟩
theorem Has0.pre {its its':List RIt} (hp:its <+: its') {y:Int} (h:Has0 its y):Has0 its' y:=by
 obtain⟨p,x,h1,h2⟩:=h
 exact⟨p,x,pre_get hp h1,h2⟩
theorem Has.pre {its its':List RIt} (hp:its <+: its') {y:Int} (h:Has its y):Has its' y:=by
 obtain⟨p,x,h1,h2⟩:=h
 exact⟨p,x,pre_get hp h1,h2⟩
def Sta (T:Trl) (its:List RIt):Prop:= ∀(k:Nat) (s:Int),T.starts[k]? =some s→(0≤s∧s≤(its.length:Int))∧∀(p:Nat) (x:RIt),its[p]? =some x→((p:Int)<s↔x.level<(k:Int))
structure St (C:Int→Option (List Int)) (T:Trl) (its:List RIt) (S:Wst):Prop where
 sim:Sim T its
 vars:T.vars.length=7
 sta:Sta T its
 inv:HInv C its T.now S
def Fit6 (C:Int→Option (List Int)):Prop:= ∀id c,C id=some c→(1≤id∧id≤1000)∧c.length≤6∧∀y∈c,litB y=true∧litV y<7
theorem Fit6.right {C:Int→Option (List Int)} (h:Fit6 C) {id:Int} {c:List Int} (hc:C id=some c):clauseB c=true:=by
 obtain⟨_,h2,h3⟩:=h id c hc
 unfold clauseB
 rw[Bool.and_eq_true,decide_eq_true_eq,List.all_eq_true]
 exact⟨by omega,fun y hy=>(h3 y hy).1⟩
section
variable {C:Int→Option (List Int)} {T:Trl} {its:List RIt} {S:Wst}
theorem Sim.uniq {its':List RIt} (h:Sim T its) (h':Sim T its'):its=its':=by
 have hl:its.map RIt.lit=its'.map RIt.lit:=h.order.symm.trans h'.order
 have hlen:its.length=its'.length:=by
  have:=congrArg List.length hl
  rwa [List.length_map,List.length_map]at this
 refine List.ext_getElem? fun p=>?_
 cases hx:its[p]? with
 | none=>
  rw[List.getElem?_eq_none_iff]at hx
  exact(List.getElem?_eq_none_iff.2 (by omega)).symm
 | some x=>
  have hp:=(List.getElem?_eq_some_iff.1 hx).1
  obtain⟨y,hy⟩:=getElem_of (show p<its'.length by omega)
  rw[hy]
  have e1:(its.map RIt.lit)[p]? =(its'.map RIt.lit)[p]? :=by rw[hl]
  rw[List.getElem?_map,List.getElem?_map,hx,hy]at e1
  have e2:x.lit=y.lit:=Option.some.inj e1
  have e3:=(h.at_ p x hx).2
  rw[e2,(h'.at_ p y hy).2]at e3
  have e4:=Option.some.inj e3
  simp only[TV.mk.injEq]at e4
  obtain⟨a1,a2,_,_⟩:=e4
  congr 1
  cases x
  cases y
  simp only at e2 a1 a2
  subst e2
  subst a1
  subst a2
  rfl
theorem sim_val {y:Int} (h1:T.fal y=false) (h2:T.tru y=false):T.val y=0:=by
 unfold Trl.fal at h1
 unfold Trl.tru at h2
 rw[decide_eq_false_iff_not]at h1 h2
 omega
theorem sim_tru (h:Sim T its) {y:Int} (hh:Has its y):T.val y=1:=by
 obtain⟨p,x,hp,e⟩:=hh
 have:=(h.val_at hp y (by rw[e])).2
 rw[if_pos e]at this
 rw[h.val,this]
theorem free_err (hv:T.vars.length=7) {l r:Int} (hl:litB l=true) (hlv:litV l<7) (h0:T.val l=0) (hr:0≤r∧r≤1073741824):T.assignErr l r=0:=by
 have hp:=(litV_pos hl).1
 unfold Trl.assignErr
 obtain⟨s,hs⟩:=getElem_of (show litV l<T.vars.length by omega)
 have ha:T.at (litV l:Nat)=some s:=by
  unfold Trl.at
  rw[if_pos (by omega),Int.toNat_natCast]
  exact hs
 rw[ha]
 unfold Trl.val at h0
 rw[ha]at h0
 simp only at h0⊢
 have hsn:=litS_ne l
 have hz:s.value=0:=(Int.mul_eq_zero.1 h0).resolve_right hsn
 rw[if_neg (by omega),if_neg (by omega)]
theorem assigned_starts (l r:Int):(T.assigned l r).starts=T.starts:=by
 unfold Trl.assigned
 split <;> rfl
theorem now_eq:T.now=(T.starts.length:Int)-1:=rfl
theorem Sta.snoc {T':Trl} (h:Sta T its) (hst:T'.starts=T.starts) (l r:Int):Sta T' (its++ [⟨l,r,T.now⟩]):=by
 intro k s hs
 rw[hst]at hs
 have hk:=(List.getElem?_eq_some_iff.1 hs).1
 obtain⟨h1,h2⟩:=h k s hs
 refine⟨⟨h1.1,by rw[List.length_append];simp;omega⟩,fun p x hp=>?_⟩
 rw[List.getElem?_append]at hp
 split at hp
 ·exact h2 p x hp
 ·rename_i hpl
  have hx:=List.mem_singleton.1 (List.mem_of_getElem? hp)
  subst hx
  rw[now_eq]
  simp only
  omega
def PT (T:Trl):Prop:= ∃its,Sim T its∧Sta T its
theorem PT.assigned (h:PT T) (l r:Int):PT (T.assigned l r):=by
 obtain⟨its,h1,h2⟩:=h
 by_cases he:T.assignErr l r=0
 ·exact⟨_,h1.snoc he,h2.snoc (assigned_starts l r) l r⟩
 ·have e:T.assigned l r=T:=by unfold Trl.assigned;rw[if_neg he]
  rw[e]
  exact⟨its,h1,h2⟩
theorem PT.lookOne {A:Arn} (h:PT T) (l id:Int):PT (lookOne A T S l id).1:=by
 unfold Proofs.YtoojmhjagipmdaaGreat.lookOne
 split
 ·exact h
 ·split
  ·exact h
  ·split
   ·exact h
   ·split
    ·exact h
    ·split
     ·exact h
     ·exact h.assigned _ _
theorem PT.lookGo {A:Arn} (l:Int) (ids:List Int): ∀{T:Trl} {S:Wst},PT T→PT (lookGo A T S l ids).1:=by
 induction ids with
 | nil=>exact fun h=>h
 | cons id r ih=>
  intro T S h
  rw[lookGo_cons]
  split
  ·exact h.lookOne l id
  ·exact ih (h.lookOne l id)
theorem PT.propGo {A:Arn} (n:Nat): ∀{T:Trl} {S:Wst},PT T→PT (propGo A n T S).1:=by
 induction n with
 | zero=>exact fun h=>h
 | succ n ih=>
  intro T S h
  unfold Proofs.YtoojmhjagipmdaaGreat.propGo
  split
  ·exact h
  ·rename_i y hy
   have hg:=PT.lookGo (A:=A) (S:=S) (litN y) (S.row (litN y)) h
   split
   ·rename_i he
    rw[he]at hg
    exact hg
   ·rename_i he
    rw[he]at hg
    exact ih hg
theorem st0 (C:Int→Option (List Int)):St C (trl0 6) [] ⟨[],[],0⟩ where
 sim:=⟨rfl,by decide,(fun p x h=>by simp at h),(fun v s h _=>by
  have:=List.mem_of_getElem? h
  rw[(List.mem_replicate.1 this).2]),(fun p q x y _ h=>by simp at h),(fun x h=>by cases h),by decide⟩
 vars:=rfl
 sta:=fun k s hs=>by
  have hk:=(List.getElem?_eq_some_iff.1 hs).1
  have hk0:k=0:=by
   have:(trl0 6).starts.length=1:=rfl
   omega
  subst hk0
  have:s=0:=by
   have e:(trl0 6).starts[0]? =some 0:=rfl
   rw[e]at hs
   exact(Option.some.inj hs).symm
  subst this
  exact⟨⟨Int.le_refl _,by simp⟩,fun p x hp=>by simp at hp⟩
 inv:=⟨⟨List.Pairwise.nil,(fun p hp=>by cases hp),(fun p hp=>by cases hp),List.Pairwise.nil,(fun p hp=>by cases hp)⟩,(fun l id=>⟨fun h=>(by cases h),fun⟨k,hk,_⟩=>by cases hk⟩),(fun id k hk=>by cases hk),(fun id k c hk=>by cases hk),(fun id k c hk=>by cases hk),(fun id k a hk=>by cases hk),(fun p x _ hp=>by simp at hp),Nat.le_refl _,fun p x hp=>by simp at hp⟩
theorem St.assign (h:St C T its S) {l r:Int} (he:T.assignErr l r=0) (hr:r≠0→∃c,C r=some c∧l∈c∧∀y∈c,y≠l→Has its (-y)):St C (T.assigned l r) (its++ [⟨l,r,T.now⟩]) S where
 sim:=h.sim.snoc he
 vars:=(assigned_vars T l r).trans h.vars
 sta:=h.sta.snoc (assigned_starts l r) l r
 inv:=by
  rw[assigned_now]
  have hi:=h.inv
  refine⟨hi.bnd,hi.link,hi.kn,hi.two,hi.alw,fun id k a hk ha p x hp hx hxl=>?_,fun p x hp hx=>?_,by rw[List.length_append];have:=hi.len;omega,hi.rs.snoc hr⟩
  ·have hpl:p<its.length:=by have:=hi.len;omega
   rw[List.getElem?_append_left hpl]at hx
   obtain⟨q,y,hq,h1,h2⟩:=hi.w id k a hk ha p x hp hx hxl
   exact⟨q,y,by rw[List.getElem?_append_left (List.getElem?_eq_some_iff.1 hq).1];exact hq,h1,h2⟩
  ·rw[List.getElem?_append]at hx
   split at hx
   ·exact hi.cur p x hp hx
   ·rw[List.mem_singleton.1 (List.mem_of_getElem? hx)]
theorem addTwo_cases (T:Trl) (c:List Int):(∃a b,addTwo T c= [a,b]∧a≠b∧a∈c∧b∈c)∨(eachL c).length≤1∧addTwo T c=eachL c:=by
 have hp:(T.first (eachL c)).Perm (eachL c):=by
  unfold Trl.first
  exact(List.Perm.append_left _ (stab_perm T _)).trans (by
   have:=List.filter_append_perm (fun x=> !T.fal x) (eachL c)
   simpa using this)
 have hn:=hp.nodup_iff.2 (eachL_nodup c)
 unfold addTwo
 cases hf:T.first (eachL c)with
 | nil=>
  rw[hf]at hp
  right
  rw[List.nil_perm.1 hp]
  exact⟨Nat.zero_le _,rfl⟩
 | cons a r=>
  rw[hf]at hp hn
  cases r with
  | nil=>
   right
   rw[List.singleton_perm.1 hp |>.symm]
   exact⟨Nat.le_refl _,rfl⟩
  | cons b r=>
   left
   refine⟨a,b,rfl,fun e=>?_,?_,?_⟩
   ·exact(List.nodup_cons.1 hn).1 (e▸List.mem_cons_self)
   ·exact eachL_mem.1 (hp.mem_iff.1 List.mem_cons_self)
   ·exact eachL_mem.1 (hp.mem_iff.1 (List.mem_cons_of_mem _ List.mem_cons_self))
theorem addBy_ok (h:S.Bnd) (hL:S.Link) {id:Int} {c:List Int} (hn:S.kn id=none) (hid:1≤id∧id≤1073741824) (hc:c.length≤4096∧∀l∈c,litB l=true) (T:Trl):
  ∃bs,(S.addBy id (eachL c) (addTwo T c)).Bnd∧(S.addBy id (eachL c) (addTwo T c)).Link∧(S.addBy id (eachL c) (addTwo T c)).looked=S.looked∧(∀j,(S.addBy id (eachL c) (addTwo T c)).kn j=if j=id then some ⟨bs,eachL c⟩else S.kn j)∧(bs= []∧(eachL c).length≤1∨bs≠ []):=by
 have hc':(eachL c).length≤4096∧∀l∈eachL c,litB l=true:=⟨Nat.le_trans (eachL_len c) hc.1,fun l hl=>hc.2 l (eachL_mem.1 hl)⟩
 rcases addTwo_cases T c with⟨a,b,e,hab,ha,hb⟩|⟨hl,e⟩
 ·rw[e]
  obtain⟨h1,h2,h3,h4,h5,h6⟩:=watch_two h hL hn hid hc' hab (eachL_mem.2 ha) (eachL_mem.2 hb)
  exact⟨[a,b],h5,h6,rfl,fun j=>Wst.kn_set h id ⟨[a,b],eachL c⟩ j,.inr (by simp)⟩
 ·have e2:S.addBy id (eachL c) (addTwo T c)=S.set id ⟨[],eachL c⟩:=by
   rw[e]
   unfold Wst.addBy
   split
   ·rename_i a b h
    rw[h]at hl
    simp at hl
   ·rfl
  rw[e2]
  obtain⟨h1,h2⟩:=watch_none h hL hn hid hc'
  exact⟨[],h1,h2,rfl,fun j=>Wst.kn_set h id ⟨[],eachL c⟩ j,.inl ⟨rfl,hl⟩⟩
theorem HInv.added {S':Wst} (h:HInv C its T.now S) (h0:S.looked=0) {id:Int} {c bs:List Int} (hc:C id=some c) (hb:S'.Bnd) (hL:S'.Link) (hlk:S'.looked=S.looked) (hkn: ∀j,S'.kn j=if j=id then some ⟨bs,eachL c⟩else S.kn j)
  (h2:bs= []→alwL c=true∨(eachL c).length≤1) (h3:alwL c=true→bs= []):HInv C its T.now S' where
 bnd:=hb
 link:=hL
 kn:=fun j k hk=>by
  rw[hkn]at hk
  split at hk
  ·rename_i e
   subst e
   rw[←Option.some.inj hk]
   exact⟨c,hc,rfl⟩
  ·exact h.kn j k hk
 two:=fun j k c' hk hc' hby=>by
  rw[hkn]at hk
  split at hk
  ·rename_i e
   subst e
   rw[hc]at hc'
   obtain rfl:=Option.some.inj hc'
   rw[←Option.some.inj hk]at hby⊢
   exact h2 hby
  ·exact h.two j k c' hk hc' hby
 alw:=fun j k c' hk hc' ha=>by
  rw[hkn]at hk
  split at hk
  ·rename_i e
   subst e
   rw[hc]at hc'
   obtain rfl:=Option.some.inj hc'
   rw[←Option.some.inj hk]
   exact h3 ha
  ·exact h.alw j k c' hk hc' ha
 w:=fun j k a _ _ p x hp=>by omega
 cur:=fun p x hp hx=>h.cur p x (by omega) hx
 len:=by omega
 rs:=h.rs
theorem St.add (h:St C T its S) (hF:Fit6 C) (hlk:S.looked=0) {id:Int} {c:List Int} (hc:C id=some c) (hk:S.kn id=none):
  ∃its',St C (addOk T S id c).T its' (addOk T S id c).S∧its <+: its'∧(addOk T S id c).T.now=T.now∧(addOk T S id c).S.looked=0∧(∀j,((addOk T S id c).S.kn j).isSome=(decide (j=id)||(S.kn j).isSome))∧
   ((alwL c=true∧(addOk T S id c).res=4∧its'=its∧(addOk T S id c).T=T)∨
    (alwL c=false∧(addOk T S id c).res=addKind T (addTwo T c)∧((addKind T (addTwo T c)=2∧(addOk T S id c).T=T.assigned ((addTwo T c).headD 0) id∧its'=its++ [⟨(addTwo T c).headD 0,id,T.now⟩])∨(addKind T (addTwo T c)≠2∧its'=its∧(addOk T S id c).T=T)))):=by
 obtain⟨hid,hcl,hcb⟩:=hF id c hc
 have hid':1≤id∧id≤1073741824:=⟨hid.1,by omega⟩
 have hc4:c.length≤4096∧∀l∈c,litB l=true:=⟨by omega,fun y hy=>(hcb y hy).1⟩
 have hi:=h.inv
 have isS: ∀{S':Wst} {bs:List Int},(∀j,S'.kn j=if j=id then some ⟨bs,eachL c⟩else S.kn j)→∀j,(S'.kn j).isSome=(decide (j=id)||(S.kn j).isSome):=fun hkn j=>by
  rw[hkn]
  by_cases e:j=id
  ·rw[if_pos e,decide_eq_true e]
   rfl
  ·rw[if_neg e,decide_eq_false e]
   rfl
 cases ha:alwL c with
 | true=>
  have e:addOk T S id c=⟨4,0,T,S.set id ⟨[],eachL c⟩⟩:=by unfold addOk;rw[if_pos ha]
  rw[e]
  obtain⟨h1,h2⟩:=watch_none hi.bnd hi.link hk hid' (c:=eachL c) ⟨Nat.le_trans (eachL_len c) hc4.1,fun l hl=>hc4.2 l (eachL_mem.1 hl)⟩
  have hkn:=fun j=>Wst.kn_set hi.bnd id ⟨[],eachL c⟩ j
  exact⟨its,⟨h.sim,h.vars,h.sta,hi.added hlk hc h1 h2 rfl hkn (fun _=>.inl ha) (fun _=>rfl)⟩,List.prefix_refl _,rfl,hlk,isS hkn,.inl ⟨rfl,rfl,rfl,rfl⟩⟩
 | false=>
  have e:addOk T S id c=⟨addKind T (addTwo T c),0,if addKind T (addTwo T c)=2 then T.assigned ((addTwo T c).headD 0) id else T,S.addBy id (eachL c) (addTwo T c)⟩:=by unfold addOk;rw[if_neg (by rw[ha];decide)]
  rw[e]
  obtain⟨bs,h1,h2,h3,h4,h5⟩:=addBy_ok hi.bnd hi.link hk hid' hc4 T
  have hs':St C T its (S.addBy id (eachL c) (addTwo T c)):=⟨h.sim,h.vars,h.sta,hi.added hlk hc h1 h2 h3 h4 (fun hb=>by
   rcases h5 with h5|h5
   · exact .inr h5.2
   · exact absurd hb h5) (fun h=>by rw[ha]at h;cases h)⟩
  by_cases hk2:addKind T (addTwo T c)=2
  ·obtain⟨f,hf,hff⟩:=k_its (fun x hx=>h.sim.litb hx) h.sim.nodup
   rcases add_kind h.sim hc4.2 hff with⟨h6,_⟩|⟨a,h6,h7,ha1,ha2,ha3,ha4,ha5⟩|⟨h6,_⟩|⟨h6,_⟩
   · rw[h6]at hk2;cases hk2
   · simp only[hk2,if_true]
     rw[ha4]
     have herr:=free_err h.vars (hcb a ha1).1 (hcb a ha1).2 (sim_val ha2 ha3) (r:=id) ⟨by omega,by omega⟩
     refine⟨_,hs'.assign herr (fun _=>⟨c,hc,ha1,fun y hy hne=>(h.sim.fal_iff (hcb y hy).1).1 (ha5 y hy hne)⟩),⟨_,rfl⟩,assigned_now _ _ _,h3.trans hlk,isS h4,.inr ⟨by trivial,by trivial,.inl ⟨by trivial,by trivial,by trivial⟩⟩⟩
   · rw[h6]at hk2;cases hk2
   · rw[h6]at hk2;cases hk2
  ·simp only[if_neg hk2]
   exact⟨its,hs',List.prefix_refl _,by trivial,h3.trans hlk,isS h4,.inr ⟨by trivial,by trivial,.inr ⟨hk2,by trivial,by trivial⟩⟩⟩
def One (C:Int→Option (List Int)) (K:Int→Prop) (its:List RIt):Prop:= ∀id c,K id→C id=some c→alwL c=false→(eachL c).length≤1→∃y∈c,Has0 its y
theorem One.pre {K:Int→Prop} {its':List RIt} (h:One C K its) (hp:its <+: its'):One C K its':=fun id c hk hc ha hl=>by
 obtain⟨y,hy,h0⟩:=h id c hk hc ha hl
 exact⟨y,hy,h0.pre hp⟩
theorem propGo_known (A:Arn) (n:Nat): ∀{T:Trl} {S:Wst},S.Bnd→S.Link→(∃its,Sim T its)→(∀id k,S.kn id=some k→(A.find id).isSome=true)→∀j,((propGo A n T S).2.1.kn j).isSome=(S.kn j).isSome:=by
 induction n with
 | zero=>exact fun _ _ _ _ _=>rfl
 | succ n ih=>
  intro T S hb hL hs hA j
  unfold propGo
  split
  ·rfl
  ·rename_i y hy
   have hr:=hb.row (litN y)
   have hg:=lookGo_known A (T:=T) (S.row (litN y)) hb hL (fun id hid=>hid) (up_nodup hr.1) hA
   have ha:=lookGo_all A (T:=T) (S.row (litN y)) hb hL hs (fun id hid=>hid) (up_nodup hr.1)
   split
   ·rename_i T' S' id he
    rw[he]at hg
    exact hg j
   ·rename_i T' S' he
    rw[he]at hg ha
    obtain⟨h1,h2,h3,_,_⟩:=ha
    refine(ih (S:=S'.step) ⟨h1.kr,h1.kb,h1.kl,h1.orr,h1.ob⟩ h2 h3 (fun id k hk=>?_) j).trans (hg j)
    have h4:=hg id
    rw[show(T',S',(none:Option Int)).2.1.kn id=some k from hk]at h4
    obtain⟨k2,hk2⟩:=Option.isSome_iff_exists.1 (h4.symm.trans rfl)
    exact hA id k2 hk2
theorem propW_known (A:Arn) {T:Trl} {S:Wst} (hb:S.Bnd) (hL:S.Link) (hA: ∀id k,S.kn id=some k→(A.find id).isSome=true) (hs: ∃its,Sim T its) (j:Int):((propW A T S).2.1.kn j).isSome=(S.kn j).isSome:=
 propGo_known A _ hb hL hs hA j
theorem St.prop {A:Arn} (h:St C T its S) (hF:Fit6 C) (hA: ∀id k,S.kn id=some k→(A.find id).isSome=true):
  ∃its',St C (propW A T S).1 its' (propW A T S).2.1∧its <+: its'∧(propW A T S).1.now=T.now∧(∀j,((propW A T S).2.1.kn j).isSome=(S.kn j).isSome)∧
   ((propW A T S).2.2=none∧(propW A T S).2.1.looked=its'.length∨∃id c,(propW A T S).2.2=some id∧C id=some c∧∀y∈c,Has its' (-y)):=by
 have hpt:=PT.propGo (A:=A) (T.vars.length+1) (S:=S) (T:=T) ⟨its,h.sim,h.sta⟩
 have hkn:=fun j=>propW_known A h.inv.bnd h.inv.link hA ⟨its,h.sim⟩ j
 have hsta: ∀{its'},Sim (propW A T S).1 its'→Sta (propW A T S).1 its':=fun hs=>by
  obtain⟨i2,h1,h2⟩:=hpt
  rw[hs.uniq h1]
  exact h2
 rcases prop_go 7 (fun id c hc y hy=>((hF id c hc).2.2 y hy).2) (T.vars.length+1) h.vars h.sim h.inv hA (by rw[h.vars];omega)with⟨its',T',S',he,hs,hp,hm,hn,hv,hl⟩|⟨its',T',S',id,he,hs,hp,hm,hn,hv,hf⟩
 ·have e:propW A T S=(T',S',none):=he
  rw[e]at hsta hkn⊢
  exact⟨its',⟨hs,hv.trans h.vars,hsta hs,by rw[hn];exact hm⟩,hp,hn,hkn,.inl ⟨rfl,hl⟩⟩
 ·have e:propW A T S=(T',S',some id):=he
  rw[e]at hsta hkn⊢
  obtain⟨c,hc,hcf⟩:=hf
  exact⟨its',⟨hs,hv.trans h.vars,hsta hs,by rw[hn];exact hm⟩,hp,hn,hkn,.inr ⟨id,c,rfl,hc,hcf⟩⟩
theorem push_now:T.push.now=T.now+1:=by
 simp only[Trl.push,Trl.now,List.length_append,List.length_cons,List.length_nil]
 omega
theorem St.push (h:St C T its S) (hl:S.looked=its.length):St C T.push its S where
 sim:=⟨h.sim.order,h.sim.size,h.sim.at_,h.sim.free,h.sim.mono,fun x hx=>by
  have:=h.sim.pos x hx
  rw[push_now]
  omega,by have:=h.sim.now;rw[push_now];omega⟩
 vars:=h.vars
 sta:=fun k s hs=>by
  have hs':(T.starts++ [(T.order.length:Int)])[k]? =some s:=hs
  rw[List.getElem?_append]at hs'
  split at hs'
  ·exact h.sta k s hs'
  ·rename_i hk
   have hol:T.order.length=its.length:=by rw[h.sim.order,List.length_map]
   have hkl:k=T.starts.length:=by
    have:=(List.getElem?_eq_some_iff.1 hs').1
    simp only[List.length_cons,List.length_nil]at this
    omega
   have hse:=List.mem_singleton.1 (List.mem_of_getElem? hs')
   subst hse
   refine⟨⟨by omega,by omega⟩,fun p x hp=>?_⟩
   have hpl:=(List.getElem?_eq_some_iff.1 hp).1
   have:=h.sim.pos x (List.mem_of_getElem? hp)
   rw[now_eq]at this
   omega
 inv:=by
  have hi:=h.inv
  refine⟨hi.bnd,hi.link,hi.kn,hi.two,hi.alw,hi.w,fun p x hp hx=>?_,hi.len,hi.rs⟩
  have:=(List.getElem?_eq_some_iff.1 hx).1
  omega
theorem clr_get (ls:List Int): ∀(vs:List TV) (v:Nat),(∀l∈ls,litV l≠v)→(clr vs ls)[v]? =vs[v]? :=by
 induction ls with
 | nil=>exact fun _ _ _=>rfl
 | cons l ls ih=>
  intro vs v h
  unfold clr
  rw[ih _ _ (fun x hx=>h x (List.mem_cons_of_mem _ hx)),List.getElem?_set_ne (h l List.mem_cons_self)]
theorem clr_hit (ls:List Int): ∀(vs:List TV) (v:Nat) (s:TV),(∃l∈ls,litV l=v)→(clr vs ls)[v]? =some s→s.value=0:=by
 induction ls with
 | nil=>exact fun _ _ _ ⟨_,h,_⟩=>by cases h
 | cons l ls ih=>
  intro vs v s h hs
  unfold clr at hs
  by_cases hr: ∃x∈ls,litV x=v
  ·exact ih _ v s hr hs
  ·obtain⟨x,hx,e⟩:=h
   rw[clr_get ls _ v (fun y hy e2=>hr ⟨y,hy,e2⟩)]at hs
   rcases List.mem_cons.1 hx with rfl|hx
   ·subst e
    have hlt:litV x<vs.length:=by
     have:=(List.getElem?_eq_some_iff.1 hs).1
     rwa [List.length_set]at this
    rw[List.getElem?_set_self hlt]at hs
    rw[←Option.some.inj hs]
   ·exact absurd ⟨x,hx,e⟩ hr
theorem back_sim (h:Sim T its) (hst:Sta T its) {j:Nat} {e:Int} (hj:j+1<T.starts.length) (he:T.starts[j+1]? =some e):
  (Sim (T.back j e.toNat) (its.take e.toNat)∧Sta (T.back j e.toNat) (its.take e.toNat))∧(T.back j e.toNat).now=j:=by
 obtain⟨⟨he0,hel⟩,hlv⟩:=hst (j+1) e he
 obtain⟨n,rfl⟩: ∃n:Nat,e=n:=⟨e.toNat,by omega⟩
 rw[Int.toNat_natCast]
 have hnl:n≤its.length:=by omega
 have hol:T.order.length=its.length:=by rw[h.order,List.length_map]
 have htl:(its.take n).length=n:=by rw[List.length_take];omega
 have hget: ∀{p:Nat} {x:RIt},(its.take n)[p]? =some x→p<n∧its[p]? =some x:=fun {p x} hp=>by
  have hpl:=(List.getElem?_eq_some_iff.1 hp).1
  rw[htl]at hpl
  rw[List.getElem?_take,if_pos hpl]at hp
  exact⟨hpl,hp⟩
 have hput: ∀{p:Nat} {x:RIt},p<n→its[p]? =some x→(its.take n)[p]? =some x:=fun hp hx=>by
  rw[List.getElem?_take,if_pos hp]
  exact hx
 have hnow:(T.back j n).now=j:=by
  show((T.starts.take (j+1)).length:Int)-1=j
  rw[List.length_take]
  omega
 have hnT:(j:Int)<T.now:=by rw[now_eq];omega
 have hlev: ∀{p:Nat} {x:RIt},its[p]? =some x→(p<n↔x.level<(j:Int)+1):=fun hx=>by
  have:=hlv _ _ hx
  omega
 have hdrop: ∀l∈T.order.drop n,∃(q:Nat) (y:RIt),n≤q∧its[q]? =some y∧y.lit=l:=fun l hl=>by
  obtain⟨i,hi,e2⟩:=List.getElem_of_mem hl
  have e3:(T.order.drop n)[i]? =some l:=by rw[List.getElem?_eq_getElem hi,e2]
  rw[List.getElem?_drop,h.order,List.getElem?_map]at e3
  cases hy:its[n+i]? with
  | none=>rw[hy]at e3;cases e3
  | some y=>
   rw[hy]at e3
   exact⟨n+i,y,by omega,hy,Option.some.inj e3⟩
 refine⟨⟨?_,?_⟩,hnow⟩
 ·refine⟨?_,?_,fun p x hp=>?_,fun v s hv hf=>?_,fun p q x y hpq hp hq=>?_,fun x hx=>?_,?_⟩
  ·show T.order.take n=(its.take n).map RIt.lit
   rw[h.order,List.map_take]
  ·show(clr T.vars (T.order.drop n)).length≤_
   rw[clr_len]
   exact h.size
  ·obtain⟨hpn,hp⟩:=hget hp
   obtain⟨h1,h2⟩:=h.at_ p x hp
   refine⟨h1,?_⟩
   show(clr T.vars (T.order.drop n))[litV x.lit]? =_
   rw[clr_get]
   ·exact h2
   ·intro l hl e3
    obtain⟨q,y,hq,hy,rfl⟩:=hdrop l hl
    have:=h.inj hy hp e3
    omega
  ·have hv':(clr T.vars (T.order.drop n))[v]? =some s:=hv
   by_cases hh: ∃l∈T.order.drop n,litV l=v
   ·exact clr_hit _ _ _ _ hh hv'
   ·rw[clr_get _ _ _ (fun l hl e3=>hh ⟨l,hl,e3⟩)]at hv'
    refine h.free v s hv' (fun x hx e3=>?_)
    obtain⟨p,hp,e4⟩:=List.getElem_of_mem hx
    have hxp:its[p]? =some x:=by rw[List.getElem?_eq_getElem hp,e4]
    by_cases hpn:p<n
    ·exact hf x (List.mem_of_getElem? (hput hpn hxp)) e3
    ·refine hh ⟨x.lit,?_,e3⟩
     refine List.mem_of_getElem? (i:=p-n) ?_
     rw[List.getElem?_drop,h.order,List.getElem?_map,show n+(p-n)=p by omega,hxp]
     rfl
  ·exact h.mono p q x y hpq (hget hp).2 (hget hq).2
  ·obtain⟨p,hp,e4⟩:=List.getElem_of_mem hx
   obtain⟨hpn,hxp⟩:=hget (show(its.take n)[p]? =some x by rw[List.getElem?_eq_getElem hp,e4])
   have h1:=(hlev hxp).1 hpn
   have h2:=h.pos x (List.mem_of_getElem? hxp)
   rw[hnow]
   omega
  ·rw[hnow]
   omega
 ·intro k s hs
  have hs':(T.starts.take (j+1))[k]? =some s:=hs
  have hk:=(List.getElem?_eq_some_iff.1 hs').1
  rw[List.length_take]at hk
  rw[List.getElem?_take,if_pos (by omega)]at hs'
  obtain⟨⟨h1,h2⟩,h3⟩:=hst k s hs'
  refine⟨⟨h1,?_⟩,fun p x hp=>h3 p x (hget hp).2⟩
  rw[htl]
  refine Int.not_lt.1 fun hlt=>?_
  obtain⟨x,hx⟩:=getElem_of (show n<its.length by omega)
  have h4:=(h3 n x hx).1 hlt
  have h5:=(hlev hx).2 (by omega)
  omega
theorem PT.push (h:PT T):PT T.push:=by
 obtain⟨its,h1,h2⟩:=h
 refine⟨its,⟨h1.order,h1.size,h1.at_,h1.free,h1.mono,fun x hx=>?_,?_⟩,fun k s hs=>?_⟩
 ·have:=h1.pos x hx
  rw[push_now]
  omega
 ·have:=h1.now
  rw[push_now]
  omega
 ·have hs':(T.starts++ [(T.order.length:Int)])[k]? =some s:=hs
  rw[List.getElem?_append]at hs'
  split at hs'
  ·exact h2 k s hs'
  ·rename_i hk
   have hol:T.order.length=its.length:=by rw[h1.order,List.length_map]
   have hkl:k=T.starts.length:=by
    have:=(List.getElem?_eq_some_iff.1 hs').1
    simp only[List.length_cons,List.length_nil]at this
    omega
   have hse:=List.mem_singleton.1 (List.mem_of_getElem? hs')
   subst hse
   refine⟨⟨by omega,by omega⟩,fun p x hp=>?_⟩
   have hpl:=(List.getElem?_eq_some_iff.1 hp).1
   have:=h1.pos x (List.mem_of_getElem? hp)
   rw[now_eq]at this
   omega
theorem PT.backed (h:PT T) (j:Int):PT (T.backed j):=by
 unfold Trl.backed
 split
 ·rename_i hc
  obtain⟨its,h1,h2⟩:=h
  obtain⟨k,rfl⟩: ∃k:Nat,j=k:=⟨j.toNat,by omega⟩
  rw[Int.toNat_natCast]
  have hlt:k+1<T.starts.length:=by omega
  obtain⟨s,hs⟩:=getElem_of hlt
  have e1:T.starts.getD (k+1) 0=s:=by rw[List.getD_eq_getElem?_getD,hs];rfl
  rw[e1]
  exact⟨_,(back_sim h1 h2 hlt hs).1⟩
 ·exact h
theorem St.back (h:St C T its S) {j:Nat} {e:Int} (hj:j+1<T.starts.length) (he:T.starts[j+1]? =some e):
  St C (T.back j e.toNat) (its.take e.toNat) ⟨S.known,S.of,min S.looked (T.back j e.toNat).order.length⟩∧min S.looked (T.back j e.toNat).order.length=(its.take e.toNat).length∧(∀y,Has0 its y→Has0 (its.take e.toNat) y)∧(T.back j e.toNat).now=j:=by
 have hbs:=(back_sim h.sim h.sta hj he).1
 obtain⟨⟨he0,hel⟩,hlv⟩:=h.sta (j+1) e he
 obtain⟨n,rfl⟩: ∃n:Nat,e=n:=⟨e.toNat,by omega⟩
 rw[Int.toNat_natCast]at hbs⊢
 have hnl:n≤its.length:=by omega
 have hol:T.order.length=its.length:=by rw[h.sim.order,List.length_map]
 have htl:(its.take n).length=n:=by rw[List.length_take];omega
 have hto:(T.back j n).order.length=n:=by
  show(T.order.take n).length=n
  rw[List.length_take]
  omega
 have hget: ∀{p:Nat} {x:RIt},(its.take n)[p]? =some x→p<n∧its[p]? =some x:=fun {p x} hp=>by
  have hpl:=(List.getElem?_eq_some_iff.1 hp).1
  rw[htl]at hpl
  rw[List.getElem?_take,if_pos hpl]at hp
  exact⟨hpl,hp⟩
 have hput: ∀{p:Nat} {x:RIt},p<n→its[p]? =some x→(its.take n)[p]? =some x:=fun hp hx=>by
  rw[List.getElem?_take,if_pos hp]
  exact hx
 have hnow:(T.back j n).now=j:=by
  show((T.starts.take (j+1)).length:Int)-1=j
  rw[List.length_take]
  omega
 have hnT:(j:Int)<T.now:=by rw[now_eq];omega
 have hlev: ∀{p:Nat} {x:RIt},its[p]? =some x→(p<n↔x.level<(j:Int)+1):=fun hx=>by
  have:=hlv _ _ hx
  omega
 have hlook:min S.looked n=n:=by
  refine Nat.min_eq_right (Nat.le_of_not_lt fun hlt=>?_)
  obtain⟨x,hx⟩:=getElem_of (show S.looked<its.length by omega)
  have h1:=h.inv.cur S.looked x (Nat.le_refl _) hx
  have h2:=(hlev hx).1 hlt
  omega
 refine⟨⟨?_,?_,?_,?_⟩,by rw[hto,htl,hlook],fun y ⟨p,x,hp,e1,e2⟩=>⟨p,x,hput ((hlev hp).2 (by omega)) hp,e1,e2⟩,hnow⟩
 ·exact hbs.1
 ·show(clr T.vars (T.order.drop n)).length=7
  rw[clr_len]
  exact h.vars
 ·exact hbs.2
 ·rw[hnow,hto,hlook]
  have hi:=h.inv
  refine⟨⟨hi.bnd.kr,hi.bnd.kb,hi.bnd.kl,hi.bnd.orr,hi.bnd.ob⟩,hi.link,hi.kn,hi.two,hi.alw,fun id k a hk ha p x hp hx hxl=>?_,fun p x hp hx=>?_,by rw[htl];exact Nat.le_refl _,hi.rs.take n⟩
  ·obtain⟨hpn,hx'⟩:=hget hx
   have hpl:p<S.looked:=by
    have hp':p<n:=hp
    omega
   obtain⟨q,y,hq,h1,h2⟩:=hi.w id k a hk ha p x hpl hx' hxl
   have:=(hlev hx').1 hpn
   exact⟨q,y,hput ((hlev hq).2 (by omega)) hq,h1,h2⟩
  ·have hp':n≤p:=hp
   have:=(hget hx).1
   omega
end
end Go.Proofs.YtoojmhjagipmdaaGreat
namespace Go.Proofs.YtoojmhjagipmdaaGreat
open Go.RowKit Go.Maps Go.Shelf
theorem IntsIn.take {O:Nat→Prop} {w:World} {A:Option Addr} {n c:Nat} {xs:List Int} (h:IntsIn O w (.slice A n c) xs) {k:Nat} (hk:k≤xs.length):IntsIn O w (.slice A k c) (xs.take k):=by
 obtain⟨A',c',e,hc,hn,hx⟩:=h
 cases e
 have hl:(xs.take k).length=k:=by rw[List.length_take];omega
 refine⟨A,c,by rw[hl],by omega,hn,fun i x hi=>?_⟩
 have hik:=(List.getElem?_eq_some_iff.1 hi).1
 rw[List.getElem?_take,if_pos (by omega)]at hi
 exact hx i x hi
end Go.Proofs.YtoojmhjagipmdaaGreat
namespace Go.Proofs.YtoojmhjagipmdaaGreat
open Go.RowKit Go.Maps Go.Shelf
end Go.Proofs.YtoojmhjagipmdaaGreat
namespace Go.Proofs.YtoojmhjagipmdaaGreat
open Go.RowKit
structure Lw (w0 w:World) (lab:Nat→Nat) (b ab tb:Nat) (A:Arn) (T:Trl) (S:Wst):Prop where
 sys:SysAt w lab b ab tb A T S
 ge: ∀g,lab g≠0→w0.heap.size≤g
 hb:Below w0.heap.size w0 w
def LwNext (w0 w w':World) (lab:Nat→Nat) (b ab tb:Nat) (A:Arn) (T:Trl) (S:Wst):Prop:= ∃lab',Lw w0 w' lab' b ab tb A T S∧Labs lab lab' w w'
section
variable {w0 w w':World} {lab:Nat→Nat} {b ab tb:Nat} {A A':Arn} {T T':Trl} {S S':Wst}
theorem Lw.below (h:Lw w0 w lab b ab tb A T S) (k:Below w.heap.size w w'):Lw w0 w' lab b ab tb A T S:=⟨h.sys.below k,h.ge,h.hb.trans (k.mono h.hb.size)⟩
theorem Lw.next (h:Lw w0 w lab b ab tb A T S) (k:SysNext w w' lab b ab tb A' T' S'):LwNext w0 w w' lab b ab tb A' T' S':=by
 obtain⟨lab',h1,h2⟩:=k
 exact⟨lab',⟨h1,h2.ge h.ge h.hb.size,h.hb.trans (h2.below h.ge h.hb.size)⟩,h2⟩
theorem LwNext.sys {b2:Nat} (h:LwNext w0 w w' lab b2 ab tb A T S):SysNext w w' lab b2 ab tb A T S:=by
 obtain⟨l,h1,h2⟩:=h
 exact⟨l,h1.sys,h2⟩
theorem lw_push (h:Lw w0 w lab b ab tb A T S) (hn:T.starts.length<1048576):
  Calls Tryz.prog 53 #[.pointer (some ⟨tb,0,none⟩)] w fun e w'=>e= .returned (.int .i64 0)∧LwNext w0 w w' lab b ab tb A T.push S:=by
 refine(tr_push tb T w h.sys.tr hn).mono ?_
 rintro e w' ⟨rfl,hb⟩
 exact⟨rfl,h.next (h.sys.tr_next hb)⟩
theorem lw_assign (h:Lw w0 w lab b ab tb A T S) (l r:Int) (hno:T.order.length<1048576):
  Calls Tryz.prog 54 #[.pointer (some ⟨tb,0,none⟩),.int .i64 l,.int .i64 r] w fun e w'=>e= .returned (.int .i64 (T.assignErr l r:Nat))∧LwNext w0 w w' lab b ab tb A (T.assigned l r) S:=by
 refine(tr_assign tb T l r w h.sys.tr hno).mono ?_
 rintro e w' ⟨rfl,hb⟩
 exact⟨rfl,h.next (h.sys.tr_next hb)⟩
theorem lw_add (h:Lw w0 w lab b ab tb A T S) (id:Int) (hwf:(Lit.int .i64 id).wf=true) (hA: ∀c,A.get id=some c→c.length<20∧clauseB c=true∧1≤id∧id≤1073741824) (hno:T.order.length<1048576) (hL:S.Link):
  Calls Tryz.prog 52 #[.pointer (some ⟨b,0,none⟩),.int .i64 id] w fun e w'=>e= .returned (.tuple #[.int .u8 ((addW A T S id).res:Nat),.int .i64 ((addW A T S id).err:Nat)])∧LwNext w0 w w' lab b ab tb A (addW A T S id).T (addW A T S id).S:=by
 refine(wa_add b ab tb A T S id w lab h.sys hwf hA hno hL).mono ?_
 rintro e w' ⟨rfl,hb⟩
 exact⟨rfl,h.next hb⟩
theorem lw_prop (h:Lw w0 w lab b ab tb A T S) (hL:S.Link) (hsim: ∃its,Sim T its) (hfew:T.vars.length≤1000000):
  Calls Tryz.prog 38 #[.pointer (some ⟨b,0,none⟩)] w fun e w'=>e= .returned (.tuple #[.int .i64 ((propW A T S).2.2.getD 0),.bool (propW A T S).2.2.isSome,.int .i64 0])∧LwNext w0 w w' lab b ab tb A (propW A T S).1 (propW A T S).2.1:=by
 refine(wa_propagate b ab tb A T S w lab h.sys hL hsim hfew).mono ?_
 rintro e w' ⟨rfl,hb⟩
 exact⟨rfl,h.next hb⟩
theorem Sim.pushT {its:List RIt} (h:Sim T its):Sim T.push its:=⟨h.order,h.size,h.at_,h.free,h.mono,fun x hx=>by
 have:=h.pos x hx
 have e:T.push.now=T.now+1:=by simp only[Trl.push,Trl.now,List.length_append,List.length_cons,List.length_nil];omega
 omega,by
 have:=h.now
 have e:T.push.now=T.now+1:=by simp only[Trl.push,Trl.now,List.length_append,List.length_cons,List.length_nil];omega
 omega⟩
theorem Sim.few {its:List RIt} (h:Sim T its) (hv:T.vars.length=7):T.order.length≤6:=by
 have:=h.len
 rw[h.order,List.length_map]
 rcases this with h|h
 ·omega
 ·rw[h]
  exact Nat.zero_le _
theorem Sim.fit {its:List RIt} (h:Sim T its): ∀l∈T.order,litV l<T.vars.length:=fun l hl=>by
 rw[h.order]at hl
 obtain⟨x,hx,rfl⟩:=List.mem_map.1 hl
 obtain⟨p,hp,e⟩:=List.getElem_of_mem hx
 exact(h.varlt (p:=p) (x:=x) (by rw[List.getElem?_eq_getElem hp,e])).2
end
end Go.Proofs.YtoojmhjagipmdaaGreat
namespace Go.Proofs.YtoojmhjagipmdaaGreat
open Go.RowKit
def clsC (cs:List (List Int)) (id:Int):Option (List Int):=if 1≤id then cs[(id-1).toNat]? else none
theorem clsC_some {cs:List (List Int)} {id:Int} {c:List Int} (h:clsC cs id=some c): ∃n:Nat,id=n+1∧cs[n]? =some c∧n<cs.length:=by
 unfold clsC at h
 split at h
 ·exact⟨(id-1).toNat,by omega,h,(List.getElem?_eq_some_iff.1 h).1⟩
 ·cases h
end Go.Proofs.YtoojmhjagipmdaaGreat
namespace Go.Proofs.YtoojmhjagipmdaaGreat
open Go.RowKit
def x13L:List (List Int):= [[1,2,3],[-1,4],[-4,-2,-2],[5]]
def x13A:Arn:=addAll arn0 0 x13L
def x13S0:Wst:=⟨[],[],0⟩
def x13S1:Wst:=x13S0.addBy 1 [1,2,3] [1,2]
def x13S2:Wst:=x13S1.addBy 2 [-1,4] [-1,4]
def x13S3:Wst:=x13S2.addBy 3 [-4,-2] [-4,-2]
def x13S4:Wst:=x13S3.addBy 4 [5] [5]
def x13T0:Trl:=trl0 5
def x13T4:Trl:=x13T0.assigned 5 4
def x13T5:Trl:=x13T4.push.assigned (-2) 0
def x13T6:Trl:=(propW x13A x13T5 x13S4).1
def x13S6:Wst:=(propW x13A x13T5 x13S4).2.1
def x13T7:Trl:=x13T6.push.assigned (-3) 0
def x13T8:Trl:=(propW x13A x13T7 x13S6).1
def x13S8:Wst:=(propW x13A x13T7 x13S6).2.1
def x13T9:Trl:=x13T8.backed 0
def x13S9:Wst:=⟨x13S8.known,x13S8.of,min x13S8.looked x13T9.order.length⟩
def x13T10:Trl:=x13T9.push.assigned 2 0
def x13T11:Trl:=x13T10.assigned 4 0
def x13T12:Trl:=(propW x13A x13T11 x13S9).1
def x13S12:Wst:=(propW x13A x13T11 x13S9).2.1
def x13R:Nat→Trl×Wst
 | 0=>(x13T0,x13S0)
 | 1=>(x13T0,x13S1)
 | 2=>(x13T0,x13S2)
 | 3=>(x13T0,x13S3)
 | _=>(x13T4,x13S4)
def x13K (k:Nat):Nat:=if k=3 then 2 else 1
theorem PT.sim {T:Trl} (h:PT T): ∃its,Sim T its:=by
 obtain⟨its,h1,_⟩:=h
 exact⟨its,h1⟩
theorem PT.sta {T:Trl} (h:PT T): ∀s∈T.starts,0≤s∧s≤(T.order.length:Int):=fun s hs=>by
 obtain⟨its,h1,h2⟩:=h
 obtain⟨k,hk,e⟩:=List.getElem_of_mem hs
 have:=(h2 k s (by rw[List.getElem?_eq_getElem hk,e])).1
 rw[h1.order,List.length_map]
 exact this
theorem PT.fit {T:Trl} (h:PT T): ∀l∈T.order,litV l<T.vars.length:=by
 obtain⟨its,h1,_⟩:=h
 exact h1.fit
end Go.Proofs.YtoojmhjagipmdaaGreat
namespace Go.Proofs.YtoojmhjagipmdaaGreat
open Go.RowKit
def Six (cs:List (List Int)):Prop:=cs.length≤900∧∀c∈cs,c.length≤6∧∀y∈c,litB y=true∧litV y<7
theorem Six.right {cs:List (List Int)} (h:Six cs) {c:List Int} (hc:c∈cs):clauseB c=true∧c.length≤6:=by
 obtain⟨h2,h3⟩:=h.2 c hc
 refine⟨?_,h2⟩
 unfold clauseB
 rw[Bool.and_eq_true,decide_eq_true_eq,List.all_eq_true]
 exact⟨by omega,fun y hy=>(h3 y hy).1⟩
theorem Six.fit {cs:List (List Int)} (h:Six cs):Fit6 (clsC cs):=fun id c hc=>by
 obtain⟨n,rfl,hn,hl⟩:=clsC_some hc
 obtain⟨h2,h3⟩:=h.2 c (List.mem_of_getElem? hn)
 have:=h.1
 exact⟨by omega,h2,h3⟩
theorem get_cls {cs:List (List Int)} (h:Six cs) (j:Int):(addAll arn0 0 cs).get j=clsC cs j:=by
 have hl:=h.1
 rw[(addAll_get cs arn0 0 inv0 (by decide) (by omega) j).1]
 unfold clsC
 by_cases hj:1≤j
 ·rw[if_pos (by omega),if_pos hj,show(j-((0:Nat):Int)-1).toNat=(j-1).toNat by omega]
  cases hc:cs[(j-1).toNat]? with
  | none=>rfl
  | some c=>
   show(if clauseB c=true then some c else none)=some c
   rw[if_pos (h.right (List.mem_of_getElem? hc)).1]
 ·rw[if_neg (by omega),if_neg hj]
  exact Arn.get_low _ (by omega)
theorem get_find {A:Arn} {id:Int} {c:List Int} (h:A.get id=some c):(A.find id).isSome=true:=by
 cases hf:A.find id with
 | some p=>rfl
 | none=>
  unfold Arn.get Arn.ent at h
  rw[hf]at h
  cases h
section
variable {C:Int→Option (List Int)} {T:Trl} {its:List RIt} {S:Wst}
theorem St.find {cs:List (List Int)} (h6:Six cs) (h:St (clsC cs) T its S): ∀id k,S.kn id=some k→((addAll arn0 0 cs).find id).isSome=true:=fun id k hk=>by
 obtain⟨c,hc,_⟩:=h.inv.kn id k hk
 exact get_find ((get_cls h6 id).trans hc)
theorem addTwo_one {c:List Int} (hl:(eachL c).length≤1) (T:Trl):addTwo T c=eachL c:=by
 rcases addTwo_cases T c with⟨a,b,e,hab,ha,hb⟩|⟨_,e⟩
 ·have ha':=eachL_mem.2 ha
  have hb':=eachL_mem.2 hb
  cases he:eachL c with
  | nil=>rw[he]at ha';cases ha'
  | cons x r=>
   rw[he]at hl ha' hb'
   have hr:r= []:=List.eq_nil_of_length_eq_zero (by simpa using hl)
   subst hr
   exact absurd ((List.mem_singleton.1 ha').trans (List.mem_singleton.1 hb').symm) hab
 ·exact e
inductive StartO (c:List Int) (K I:Nat) (U:Int) (T':Trl) (its':List RIt):Prop
 | alw (ha:alwL c=true) (hk:K=4)
 | fails (ha:alwL c=false) (hk:K=3) (hi:I=2) (hf: ∀y∈c,Has its' (-y))
 | unit (ha:alwL c=false) (hk:K=2) (hi:I=3) (hv:T'.val U=1) (ho: ∃y∈c,Has its' y)
 | rests (ha:alwL c=false) (hk:K=1) (hi:I≠2∧I≠3) (ho:(eachL c).length≤1→∃y∈c,Has its' y)
theorem start_step (h:St C T its S) (hF:Fit6 C) (hlk:S.looked=0) {id:Int} {c:List Int} (hc:C id=some c) (hk:S.kn id=none) {f:Int→Int} (hff: ∀y,litB y=true→((0<ofF f y↔Has its y)∧(ofF f y<0↔Has its (-y)))):
  ∃its',St C (addOk T S id c).T its' (addOk T S id c).S∧its <+: its'∧(addOk T S id c).T.now=T.now∧(addOk T S id c).S.looked=0∧(∀j,((addOk T S id c).S.kn j).isSome=(decide (j=id)||(S.kn j).isSome))∧
   StartO c (addOk T S id c).res (lookF f c).1 (lookF f c).2 (addOk T S id c).T its':=by
 obtain⟨its',h1,h2,h3,h4,h5,h6⟩:=h.add hF hlk hc hk
 refine⟨its',h1,h2,h3,h4,h5,?_⟩
 have hcb:=(hF id c hc).2.2
 rcases h6 with⟨ha,hr,_,_⟩|⟨ha,hr,h6⟩
 ·exact .alw ha hr
 ·rcases add_kind h.sim (fun y hy=>(hcb y hy).1) hff with⟨a6,a7,a8⟩|⟨a,a6,a7,ha1,ha2,ha3,ha4,ha5⟩|⟨a6,a7,y,hy,ht⟩|⟨a6,a7,a8⟩
  ·rw[a7]
   exact .fails ha (hr.trans a6) rfl (fun y hy=>((h.sim.fal_iff (hcb y hy).1).1 (a8 y hy)).imp fun p ⟨x,hx,e⟩=>⟨x,pre_get h2 hx,e⟩)
  ·rw[a7]
   rcases h6 with⟨_,hT,hi⟩|⟨hne,_⟩
   ·have hh:Has its' a:=by
     rw[hi,ha4]
     exact⟨its.length,⟨a,id,T.now⟩,by simp,rfl⟩
    exact .unit ha (hr.trans a6) rfl (sim_tru h1.sim hh) ⟨a,ha1,hh⟩
   ·exact absurd a6 hne
  ·rw[a7]
   refine .rests ha (hr.trans a6) (by simp) (fun _=>⟨y,hy,?_⟩)
   exact Has.pre h2 ((h.sim.tru_iff (hcb y hy).1).1 ht)
  ·rw[a7]
   refine .rests ha (hr.trans a6) (by simp) (fun hl=>?_)
   rw[addTwo_one hl T]at a6
   cases he:eachL c with
   | nil=>rw[he]at a6;cases a6
   | cons x r=>
    rw[he]at hl a6
    have hr2:r= []:=List.eq_nil_of_length_eq_zero (by simpa using hl)
    subst hr2
    have hx:x∈c:=eachL_mem.1 (by rw[he];exact List.mem_cons_self)
    have e:addKind T [x]=if T.fal x=true then 3 else if T.tru x=true then 1 else 2:=rfl
    rw[e,a8 x hx]at a6
    split at a6
    ·cases a6
    ·cases a6
theorem has0_now (h:Sim T its) (h0:T.now=0) {y:Int} (hy:Has its y):Has0 its y:=by
 obtain⟨p,x,hp,e⟩:=hy
 have:=h.pos x (List.mem_of_getElem? hp)
 exact⟨p,x,hp,e,by omega⟩
def PZ (B:Int→Prop) (T:Trl):Prop:= ∃its,Sim T its∧∀x∈its,x.reason=0→B x.lit
theorem PZ.assigned {B:Int→Prop} (h:PZ B T) (l r:Int) (hr:r=0→B l):PZ B (T.assigned l r):=by
 obtain⟨its,h1,h2⟩:=h
 by_cases he:T.assignErr l r=0
 ·refine⟨_,h1.snoc he,fun x hx h0=>?_⟩
  rcases List.mem_append.1 hx with hx|hx
  ·exact h2 x hx h0
  ·rw[List.mem_singleton.1 hx]at h0⊢
   exact hr h0
 ·have e:T.assigned l r=T:=by unfold Trl.assigned;rw[if_neg he]
  rw[e]
  exact⟨its,h1,h2⟩
theorem PZ.lookOne {B:Int→Prop} {A:Arn} (h:PZ B T) (l id:Int) (hid:id≠0):PZ B (lookOne A T S l id).1:=by
 unfold Proofs.YtoojmhjagipmdaaGreat.lookOne
 split
 ·exact h
 ·split
  ·exact h
  ·split
   ·exact h
   ·split
    ·exact h
    ·split
     ·exact h
     ·exact h.assigned _ _ (fun e=>absurd e hid)
theorem PZ.lookGo {B:Int→Prop} {A:Arn} (l:Int) (ids:List Int): ∀{T:Trl} {S:Wst},(∀id∈ids,id≠0)→PZ B T→PZ B (lookGo A T S l ids).1:=by
 induction ids with
 | nil=>exact fun _ h=>h
 | cons id r ih=>
  intro T S hid h
  have h1:=h.lookOne (A:=A) (S:=S) l id (hid id List.mem_cons_self)
  rw[lookGo_cons]
  split
  ·exact h1
  ·exact ih (fun j hj=>hid j (List.mem_cons_of_mem _ hj)) h1
theorem PZ.propGo {B:Int→Prop} {A:Arn} (n:Nat): ∀{T:Trl} {S:Wst},S.Bnd→S.Link→(∃its,Sim T its)→PZ B T→PZ B (propGo A n T S).1:=by
 induction n with
 | zero=>exact fun _ _ _ h=>h
 | succ n ih=>
  intro T S hb hL hs h
  unfold Proofs.YtoojmhjagipmdaaGreat.propGo
  split
  ·exact h
  ·rename_i y hy
   have hr:=hb.row (litN y)
   have hg:=PZ.lookGo (A:=A) (S:=S) (litN y) (S.row (litN y)) (fun id hid=>by have:=(hr.2 id hid).1;omega) h
   have ha:=lookGo_all A (T:=T) (S.row (litN y)) hb hL hs (fun id hid=>hid) (up_nodup hr.1)
   split
   ·rename_i he
    rw[he]at hg
    exact hg
   ·rename_i T' S' he
    rw[he]at hg ha
    obtain⟨h1,h2,h3,_,_⟩:=ha
    exact ih (S:=S'.step) ⟨h1.kr,h1.kb,h1.kl,h1.orr,h1.ob⟩ h2 h3 hg
theorem addOk_pz {B:Int→Prop} (h:PZ B T) {id:Int} {c:List Int} (hid:id≠0):PZ B (addOk T S id c).T:=by
 unfold addOk
 split
 ·exact h
 ·show PZ B (if addKind T (addTwo T c)=2 then T.assigned ((addTwo T c).headD 0) id else T)
  split
  ·exact h.assigned _ _ (fun e=>absurd e hid)
  ·exact h
structure Beg (cs:List (List Int)) (k:Nat) (T:Trl) (its:List RIt) (S:Wst) (fl:Bool):Prop where
 st:St (clsC cs) T its S
 now:T.now=0
 lk:S.looked=0
 kn: ∀j,(S.kn j).isSome=decide (1≤j∧j≤(k:Int))
 one:fl=false→One (clsC cs) (fun j=>1≤j∧j≤(k:Int)) its
 bad:fl=true→∃c∈cs,∀y∈c,Has its (-y)
 pz:PZ (fun _=>False) T
theorem beg0 (cs:List (List Int)):Beg cs 0 (trl0 6) [] ⟨[],[],0⟩ false where
 st:=st0 _
 now:=rfl
 lk:=rfl
 kn:=fun j=>by
  rw[decide_eq_false (by omega)]
  rfl
 one:=fun _ id c hk _ _ _=>by omega
 bad:=fun h=>by cases h
 pz:=⟨[],(st0 (fun _=>none)).sim,fun x hx=>by cases hx⟩
theorem Beg.next {cs:List (List Int)} {k:Nat} {fl:Bool} (h:Beg cs k T its S fl) (h6:Six cs) {c:List Int} (hc:cs[k]? =some c) {f:Int→Int} (hff: ∀y,litB y=true→((0<ofF f y↔Has its y)∧(ofF f y<0↔Has its (-y)))):
  ∃its',Beg cs (k+1) (addOk T S ((k:Int)+1) c).T its' (addOk T S ((k:Int)+1) c).S (fl||decide ((addOk T S ((k:Int)+1) c).res=3))∧StartO c (addOk T S ((k:Int)+1) c).res (lookF f c).1 (lookF f c).2 (addOk T S ((k:Int)+1) c).T its':=by
 have hcc:clsC cs ((k:Int)+1)=some c:=by
  unfold clsC
  rw[if_pos (by omega),show((k:Int)+1-1).toNat=k by omega]
  exact hc
 have hn:S.kn ((k:Int)+1)=none:=by
  have:=h.kn ((k:Int)+1)
  rw[decide_eq_false (by omega)]at this
  exact Option.isSome_eq_false_iff.1 this |> Option.isNone_iff_eq_none.1
 obtain⟨its',h1,h2,h3,h4,h5,ho⟩:=start_step h.st h6.fit h.lk hcc hn hff
 refine⟨its',⟨h1,h3.trans h.now,h4,fun j=>?_,fun hf=>?_,fun hf=>?_,addOk_pz h.pz (by omega)⟩,ho⟩
 ·rw[h5,h.kn]
  by_cases e:j=(k:Int)+1
  ·subst e
   simp
   omega
  ·rw[decide_eq_false e,Bool.false_or]
   congr 1
   apply propext
   omega
 ·rw[Bool.or_eq_false_iff]at hf
  intro j d hj hd ha hl
  by_cases e:j=(k:Int)+1
  ·subst e
   rw[hcc]at hd
   obtain rfl:=Option.some.inj hd
   have key: ∃y∈c,Has its' y:=by
    rcases ho with⟨a1,_⟩|⟨_,a2,_⟩|⟨_,_,_,_,a5⟩|⟨_,_,_,a4⟩
    ·rw[a1]at ha;cases ha
    ·rw[a2]at hf;cases hf.2
    ·exact a5
    ·exact a4 hl
   obtain⟨y,hy,hh⟩:=key
   exact⟨y,hy,has0_now h1.sim (h3.trans h.now) hh⟩
  ·obtain⟨y,hy,hh⟩:=h.one hf.1 j d (by omega) hd ha hl
   exact⟨y,hy,hh.pre h2⟩
 ·rw[Bool.or_eq_true]at hf
  rcases hf with hf|hf
  ·obtain⟨d,hd,hh⟩:=h.bad hf
   exact⟨d,hd,fun y hy=>(hh y hy).pre h2⟩
  ·have hf:=of_decide_eq_true hf
   rcases ho with⟨_,a2⟩|⟨_,_,_,a4⟩|⟨_,a2,_⟩|⟨_,a2,_⟩
   ·rw[a2]at hf;cases hf
   ·exact⟨c,List.mem_of_getElem? hc,a4⟩
   ·rw[a2]at hf;cases hf
   ·rw[a2]at hf;cases hf
structure Run (cs:List (List Int)) (T:Trl) (its:List RIt) (S:Wst):Prop where
 st:St (clsC cs) T its S
 kn: ∀j,(S.kn j).isSome=(clsC cs j).isSome
 one:One (clsC cs) (fun _=>True) its
 lk:S.looked=its.length
theorem Beg.all {cs:List (List Int)} {fl:Bool} (h:Beg cs cs.length T its S fl) (j:Int):(S.kn j).isSome=(clsC cs j).isSome:=by
 rw[h.kn]
 unfold clsC
 by_cases h1:1≤j
 ·rw[if_pos h1]
  cases hc:cs[(j-1).toNat]? with
  | none=>
   rw[List.getElem?_eq_none_iff]at hc
   exact decide_eq_false (by omega)
  | some c=>
   have:=(List.getElem?_eq_some_iff.1 hc).1
   exact decide_eq_true (by omega)
 ·rw[if_neg h1]
  exact decide_eq_false (by omega)
theorem Beg.ones {cs:List (List Int)} (h:Beg cs cs.length T its S false):One (clsC cs) (fun _=>True) its:=fun id c _ hc ha hl=>by
 obtain⟨n,hn,_,hl2⟩:=clsC_some hc
 exact h.one rfl id c (by omega) hc ha hl
end
end Go.Proofs.YtoojmhjagipmdaaGreat
