/- Plain: the hints that are left of trimmed ones lead to the conflict too, all of them are needed, and fewer do not. -/
import Derived.Test.YtkfgplfllddhnaaGreatV509
namespace Go.Proofs.YtkfgplfllddhnaaGreat
open Go.RowKit
theorem alwL_not {c:List Int} (hc:clauseB c=true) (h:alwL c=false): ∀y∈c,-y∉c:=fun y hy hn=>by
 have hr: ∀x∈c,litB x=true:=fun x hx=>clauseB_lit hc hx
 unfold alwL at h
 rw[hc,Bool.true_and]at h
 have key:=alw_pair (xs:=normL c) (fun x hx=>hr x ((normL_has hr).1 hx)) (normL_pair hr) h
 have hy0:=litB_ne (hr y hy)
 rcases Int.lt_or_gt_of_ne hy0 with e|e
 ·exact key (-y) ((normL_has hr).2 hn) (by omega) y ((normL_has hr).2 hy) (by omega)
 ·exact key y ((normL_has hr).2 hy) e (-y) ((normL_has hr).2 hn) rfl
structure Chs (L:List Int) (ds:List (List Int)) (us:List Int):Prop where
 len:ds.length=us.length
 at_: ∀(j:Nat) (u:Int) (d:List Int),us[j]? =some u→ds[j]? =some d→u∈d∧litB u=true∧u∉L∧ -u∉L∧∀y∈d,y≠u→y∈L∨∃i,i<j∧us[i]? =some (-y)
 inj: ∀(i j:Nat) (u v:Int),i<j→us[i]? =some u→us[j]? =some v→litV u≠litV v
theorem Chs.nil (L:List Int):Chs L [] []:=⟨rfl,fun j u d h=>by simp at h,fun i j u v _ h=>by simp at h⟩
section
variable {L us:List Int} {ds:List (List Int)}
theorem Chs.snoc (h:Chs L ds us) {u:Int} {d:List Int} (h1:u∈d) (h2:litB u=true) (h3:u∉L) (h4: -u∉L) (h5:u∉us) (h6: -u∉us) (h7: ∀y∈d,y≠u→y∈L∨ -y∈us):Chs L (ds++ [d]) (us++ [u]) where
 len:=by rw[List.length_append,List.length_append,h.len];rfl
 at_:=fun j v e hj hd=>by
  rcases Nat.lt_or_ge j us.length with hl|hl
  ·rw[List.getElem?_append_left hl]at hj
   rw[List.getElem?_append_left (by rw[h.len];exact hl)]at hd
   obtain⟨a1,a2,a3,a4,a5⟩:=h.at_ j v e hj hd
   refine⟨a1,a2,a3,a4,fun y hy hne=>(a5 y hy hne).imp id fun⟨i,b1,b2⟩=>⟨i,b1,?_⟩⟩
   rw[List.getElem?_append_left (by omega)]
   exact b2
  ·have hj2:=(List.getElem?_eq_some_iff.1 hj).1
   rw[List.length_append,List.length_singleton]at hj2
   obtain rfl:j=us.length:=by omega
   rw[List.getElem?_append_right (Nat.le_refl _),Nat.sub_self]at hj
   rw[List.getElem?_append_right (by rw[h.len];exact Nat.le_refl _),h.len,Nat.sub_self]at hd
   obtain rfl:=Option.some.inj hj
   obtain rfl:=Option.some.inj hd
   refine⟨h1,h2,h3,h4,fun y hy hne=>(h7 y hy hne).imp id fun hm=>?_⟩
   obtain⟨i,hi⟩:=List.getElem?_of_mem hm
   have hil:=(List.getElem?_eq_some_iff.1 hi).1
   exact⟨i,hil,by rw[List.getElem?_append_left hil];exact hi⟩
 inj:=fun i j v z hij hi hj=>by
  have hj2:=(List.getElem?_eq_some_iff.1 hj).1
  rw[List.length_append,List.length_singleton]at hj2
  rw[List.getElem?_append_left (by omega)]at hi
  rcases Nat.lt_or_ge j us.length with hl|hl
  ·rw[List.getElem?_append_left hl]at hj
   exact h.inj i j v z hij hi hj
  ·obtain rfl:j=us.length:=by omega
   rw[List.getElem?_append_right (Nat.le_refl _),Nat.sub_self]at hj
   obtain rfl:=Option.some.inj hj
   intro e
   have hm:=List.mem_of_getElem? hi
   rcases litV_two h2 e.symm with e2|e2
   ·exact h5 (e2▸hm)
   ·exact h6 (e2▸hm)
theorem fol_chs: ∀(r ds:List (List Int)) (us:List Int) (f:Int→Int),Chs L ds us→Says f (fun y=> -y∈L∨y∈us)→(∀c∈r,clauseB c=true)→(folGo f r us ds.length).2.2.1=true→
  ∃ds' d us',folGo f r us ds.length=(us',ds'.length+1,true,0)∧(ds++r).take (ds'.length+1)=ds'++ [d]∧Chs L ds' us'∧∀y∈d,y∈L∨ -y∈us':=by
 intro r
 induction r with
 | nil=>exact fun ds us f _ _ _ h=>by cases h
 | cons c r ih=>
  intro ds us f h hs hb hf
  have hcb:=hb c List.mem_cons_self
  have h0: ∀y∈c,y≠0:=fun y hy=>litB_ne (clauseB_lit hcb hy)
  have hneg: ∀y∈c,ofF f y<0→y∈L∨ -y∈us:=fun y hy hn=>by
   have h2: - -y∈L∨ -y∈us:=((hs y (clauseB_lit hcb hy)).2).1 hn
   rwa [Int.neg_neg]at h2
  unfold folGo at hf⊢
  by_cases h2:(lookF f c).1=2
  ·rw[if_pos h2]at hf⊢
   refine⟨ds,c,us,rfl,?_,h,fun y hy=>hneg y hy (luk_two c h0 h2 y hy)⟩
   rw[List.take_append,List.take_of_length_le (Nat.le_succ _),Nat.add_sub_cancel_left]
   rfl
  ·rw[if_neg h2]at hf⊢
   by_cases h3:(lookF f c).1=3
   ·rw[if_pos h3]at hf⊢
    obtain⟨a1,a2,a3⟩:=luk_unit c h0 h3
    have hub:=clauseB_lit hcb a1
    obtain⟨u,hu⟩: ∃u,(lookF f c).2=u:=⟨_,rfl⟩
    have a2':ofF f u=0:=by rw[←hu];exact a2
    have a1':u∈c:=by rw[←hu];exact a1
    have hub':litB u=true:=by rw[←hu];exact hub
    rw[hu]at hf⊢
    have hp: ¬(-u∈L∨u∈us):=fun hp=>by
     have:=((hs u hub').1).2 hp
     omega
    have hn: ¬(- -u∈L∨ -u∈us):=fun hp=>by
     have:=((hs u hub').2).2 hp
     omega
    have hch:Chs L (ds++ [c]) (us++ [u]):=h.snoc a1' hub' (fun h=>hn (.inl (by rw[Int.neg_neg];exact h))) (fun h=>hp (.inl h)) (fun h=>hp (.inr h)) (fun h=>hn (.inr h)) (fun y hy hne=>hneg y hy ((a3 y hy).resolve_right (fun e=>hne (e.trans hu))))
    have hs2:Says (putF f u) (fun y=> -y∈L∨y∈us++ [u]):=fun y hy=>by
     have h4:=says_put hs hub' hp hn y hy
     have key: ∀v:Int,((-v∈L∨v∈us)∨v=u)↔(-v∈L∨v∈us++ [u]):=fun v=>by
      rw[List.mem_append,List.mem_singleton,or_assoc]
     exact⟨h4.1.trans (key y),h4.2.trans (key (-y))⟩
    have hl:(ds++ [c]).length=ds.length+1:=by rw[List.length_append,List.length_singleton]
    have:=ih (ds++ [c]) (us++ [u]) (putF f u) hch hs2 (fun d hd=>hb d (List.mem_cons_of_mem _ hd)) (by rw[hl];exact hf)
    rw[hl,List.append_assoc]at this
    exact this
   ·rw[if_neg h3]at hf
    cases hf
theorem chs_fol (tail:List (List Int)): ∀(ds2 ds1:List (List Int)) (us2 us1:List Int) (f:Int→Int) (i:Nat),Chs L (ds1++ds2) (us1++us2)→ds2.length=us2.length→(∀d∈ds2,clauseB d=true)→Says f (fun y=> -y∈L∨y∈us1)→
  ∃f',Says f' (fun y=> -y∈L∨y∈us1++us2)∧folGo f (ds2++tail) us1 i=folGo f' tail (us1++us2) (i+ds2.length):=by
 intro ds2
 induction ds2 with
 | nil=>
  intro ds1 us2 us1 f i h hl _ hs
  obtain rfl:us2= []:=List.eq_nil_of_length_eq_zero hl.symm
  exact⟨f,by rw[List.append_nil];exact hs,by rw[List.append_nil];rfl⟩
 | cons d ds2 ih=>
  intro ds1 us2 us1 f i h hl hb hs
  cases us2 with
  | nil=>cases hl
  | cons u us2=>
   have hl1:ds1.length=us1.length:=by
    have:=h.len
    rw[List.length_append,List.length_append]at this
    omega
   obtain⟨a1,a2,a3,a4,a5⟩:=h.at_ us1.length u d (by simp) (by rw[List.getElem?_append_right (by omega),hl1,Nat.sub_self];rfl)
   have hdb:=hb d List.mem_cons_self
   have hnu: ∀v∈us1,litV v≠litV u:=fun v hv=>by
    obtain⟨j,hj⟩:=List.getElem?_of_mem hv
    have hjl:=(List.getElem?_eq_some_iff.1 hj).1
    exact h.inj j us1.length v u hjl (by rw[List.getElem?_append_left hjl];exact hj) (by simp)
   have hp: ¬(-u∈L∨u∈us1):=fun h=>h.elim a4 (fun h=>hnu u h rfl)
   have hn: ¬(- -u∈L∨ -u∈us1):=fun h=>h.elim (fun h=>a3 (by rwa [Int.neg_neg]at h)) (fun h=>hnu _ h (litV_negate u))
   have hlk:lookF f d=(3,u):=k_unit a1 (by
    have h1:=(hs u a2).1
    have h2:=(hs u a2).2
    have: ¬0<ofF f u:=fun h=>hp (h1.1 h)
    have: ¬ofF f u<0:=fun h=>hn (h2.1 h)
    omega) (fun y hy hne=>((hs y (clauseB_lit hdb hy)).2).2 (by
     rcases a5 y hy hne with h1|⟨i,h1,h2⟩
     ·exact .inl (by rw[Int.neg_neg];exact h1)
     ·rw[List.getElem?_append_left h1]at h2
      exact .inr (List.mem_of_getElem? h2))) (fun y hy=>litB_ne (clauseB_lit hdb hy))
   have hs2:Says (putF f u) (fun y=> -y∈L∨y∈us1++ [u]):=fun y hy=>by
    have h4:=says_put hs a2 hp hn y hy
    have key: ∀v:Int,((-v∈L∨v∈us1)∨v=u)↔(-v∈L∨v∈us1++ [u]):=fun v=>by
     rw[List.mem_append,List.mem_singleton,or_assoc]
    exact⟨h4.1.trans (key y),h4.2.trans (key (-y))⟩
   obtain⟨f',b1,b2⟩:=ih (ds1++ [d]) us2 (us1++ [u]) (putF f u) (i+1) (by rw[List.append_assoc,List.append_assoc];exact h) (by simpa using hl) (fun e he=>hb e (List.mem_cons_of_mem _ he)) hs2
   refine⟨f',by rw[List.append_assoc]at b1;exact b1,?_⟩
   rw[List.cons_append]
   have e1:folGo f (d::(ds2++tail)) us1 i=folGo (putF f u) (ds2++tail) (us1++ [u]) (i+1):=by
    conv=>lhs;unfold folGo
    rw[hlk,if_neg (show¬(3:Nat)=2 by decide),if_pos rfl]
   rw[e1]
   show folGo (putF f u) (ds2++tail) (us1++ [u]) (i+1)=_
   rw[b2,List.append_assoc,List.length_cons,show i+1+ds2.length=i+(ds2.length+1) by omega]
   rfl
end
structure Chc (L:List Int) (ds:List (List Int)) (us:List Int) (c:List Int):Prop where
 chs:Chs L ds us
 con: ∀y∈c,y∈L∨ -y∈us
section
variable {L us c:List Int} {ds hs:List (List Int)}
theorem says_nil {f:Int→Int} (h:Says f (fun y=> -y∈L)):Says f (fun y=> -y∈L∨y∈([] :List Int)):=fun y hy=>by
 have:=h y hy
 have key: ∀v:Int,-v∈L↔ -v∈L∨v∈([] :List Int):=fun v=>⟨.inl,fun h=>h.resolve_right (fun h=>by cases h)⟩
 exact⟨this.1.trans (key y),this.2.trans (key (-y))⟩
theorem chk_chc (hL:clauseB L=true) (hb: ∀d∈hs,clauseB d=true) (hal:alwL L=false) (hno: ∀y∈L,-y∉L) (h:(chkP L hs).2.2=0):
  ∃ds' d us',chkP L hs=(us',ds'.length+1,0)∧hs.take (ds'.length+1)=ds'++ [d]∧Chc L ds' us' d:=by
 obtain⟨f,hf,hsy⟩:=asm_ok hL hno
 unfold chkP at h⊢
 rw[if_neg (by rw[hal];decide),hf]at h⊢
 simp only at h⊢
 have h1:(folGo f hs [] 0).2.2.1=true∧(folGo f hs [] 0).2.2.2=0:=by
  by_cases hc:(folGo f hs [] 0).2.2.2=0∧(folGo f hs [] 0).2.2.1=false
  ·rw[if_pos hc]at h
   cases h
  ·rw[if_neg hc]at h
   refine⟨?_,h⟩
   cases hx:(folGo f hs [] 0).2.2.1 with
   | true=>rfl
   | false=>exact absurd ⟨h,hx⟩ hc
 obtain⟨ds',d,us',a1,a2,a3,a4⟩:=fol_chs hs [] [] f (Chs.nil L) (says_nil hsy) hb h1.1
 have a1:folGo f hs [] 0=(us',ds'.length+1,true,0):=a1
 refine⟨ds',d,us',?_,by rw[List.nil_append]at a2;exact a2,a3,a4⟩
 rw[a1]
 rfl
theorem chc_chk (hL:clauseB L=true) (hb: ∀d∈ds,clauseB d=true) (hcb:clauseB c=true) (hal:alwL L=false) (hno: ∀y∈L,-y∉L) (h:Chc L ds us c) (more:List (List Int)):chkP L (ds++c::more)=(us,ds.length+1,0):=by
 obtain⟨f,hf,hsy⟩:=asm_ok hL hno
 obtain⟨f',a1,a2⟩:=chs_fol (c::more) ds [] us [] f 0 (by simpa using h.chs) h.chs.len hb (says_nil hsy)
 rw[List.nil_append,Nat.zero_add]at a2
 rw[List.nil_append]at a1
 have hlk:lookF f' c=(2,0):=k_fail fun y hy=>((a1 y (clauseB_lit hcb hy)).2).2 (by show- -y∈L∨ -y∈us;rw[Int.neg_neg];exact h.con y hy)
 have a3:folGo f (ds++c::more) [] 0=(us,ds.length+1,true,0):=by
  rw[a2]
  unfold folGo
  rw[hlk,if_pos rfl]
 unfold chkP
 rw[if_neg (by rw[hal];decide),hf]
 simp only
 rw[a3]
 rfl
theorem chc_few (hL:clauseB L=true) (hb: ∀d∈ds,clauseB d=true) (hal:alwL L=false) (hno: ∀y∈L,-y∉L) (h:Chc L ds us c) {k:Nat} (hk:k≤ds.length):(chkP L (ds.take k)).2.2=82:=by
 obtain⟨f,hf,hsy⟩:=asm_ok hL hno
 have hlu:ds.length=us.length:=h.chs.len
 have hch:Chs L (ds.take k) (us.take k):={
  len:=by rw[List.length_take,List.length_take,hlu]
  at_:=fun j u d hu hd=>by
   have hjk:j<k:=by
    have:=(List.getElem?_eq_some_iff.1 hu).1
    rw[List.length_take]at this
    omega
   rw[List.getElem?_take_of_lt hjk]at hu hd
   obtain⟨b1,b2,b3,b4,b5⟩:=h.chs.at_ j u d hu hd
   refine⟨b1,b2,b3,b4,fun y hy hne=>(b5 y hy hne).imp id fun⟨i,e1,e2⟩=>⟨i,e1,?_⟩⟩
   rw[List.getElem?_take_of_lt (by omega)]
   exact e2
  inj:=fun i j u v hij hi hj=>by
   have hjk:j<k:=by
    have:=(List.getElem?_eq_some_iff.1 hj).1
    rw[List.length_take]at this
    omega
   rw[List.getElem?_take_of_lt (by omega)]at hi
   rw[List.getElem?_take_of_lt hjk]at hj
   exact h.chs.inj i j u v hij hi hj }
 obtain⟨f',a1,a2⟩:=chs_fol [] (ds.take k) [] (us.take k) [] f 0 (by simpa using hch) hch.len (fun d hd=>hb d (List.mem_of_mem_take hd)) (says_nil hsy)
 rw[List.append_nil,List.nil_append]at a2
 unfold chkP
 rw[if_neg (by rw[hal];decide),hf]
 simp only
 rw[a2]
 rfl
end
theorem needM_or {z:Int}: ∀(xs:List Int) (f:Int→Int),needM f xs z≠0↔f z≠0∨∃l∈xs,z=litN l:=by
 intro xs
 induction xs with
 | nil=>exact fun f=>⟨.inl,fun h=>h.elim id (fun⟨l,hl,_⟩=>by cases hl)⟩
 | cons x r ih=>
  intro f
  have:=ih (fun z=>if z=litN x then 1 else f z)
  refine this.trans ?_
  simp only[List.mem_cons]
  constructor
  ·rintro (h|⟨l,h1,h2⟩)
   ·by_cases e:z=litN x
    ·exact .inr ⟨x,.inl rfl,e⟩
    ·rw[if_neg e]at h
     exact .inl h
   ·exact .inr ⟨l,.inr h1,h2⟩
  ·rintro (h|⟨l,h1|h1,h2⟩)
   ·left
    split
    ·decide
    ·exact h
   ·left
    rw[h1]at h2
    rw[if_pos h2]
    decide
   ·exact .inr ⟨l,h1,h2⟩
theorem needGo_spec {hs:List (List Int)} {us:List Int}: ∀(k:Nat) (f:Int→Int) (out:List Int),∃T:List Nat,needGo hs us k f out=out++T.map Int.ofNat∧T.Pairwise (fun a b=>b<a)∧(∀j∈T,j<k)∧
  ∀j,j<k→(j∈T↔(us.length≤j∨f (us.getD j 0)≠0∨∃i∈T,j<i∧∃l∈hs.getD i [],us.getD j 0=litN l)):=by
 intro k
 induction k with
 | zero=>exact fun f out=>⟨[],(List.append_nil _).symm,List.Pairwise.nil,(fun j hj=>by cases hj),fun j hj=>by omega⟩
 | succ k ih=>
  intro f out
  by_cases hk:k<us.length∧f (us.getD k 0)=0
  ·obtain⟨T,h1,h2,h3,h4⟩:=ih f out
   refine⟨T,by unfold needGo;rw[if_pos hk,h1],h2,fun j hj=>by have:=h3 j hj;omega,fun j hj=>?_⟩
   by_cases e:j=k
   ·subst e
    constructor
    ·intro h
     have:=h3 j h
     omega
    ·rintro (h|h|⟨i,h,h5,_⟩)
     ·omega
     ·exact absurd hk.2 h
     ·have:=h3 i h
      omega
   ·exact h4 j (by omega)
  ·obtain⟨T,h1,h2,h3,h4⟩:=ih (needM f (hs.getD k [])) (out++ [(k:Int)])
   refine⟨k::T,?_,List.pairwise_cons.2 ⟨h3,h2⟩,fun j hj=>?_,fun j hj=>?_⟩
   ·unfold needGo
    rw[if_neg hk,h1,List.append_assoc]
    rfl
   ·rcases List.mem_cons.1 hj with e|hj
    ·omega
    ·have:=h3 j hj
     omega
   ·by_cases e:j=k
    ·subst e
     refine⟨fun _=>?_,fun _=>List.mem_cons_self⟩
     rcases Nat.lt_or_ge j us.length with hl|hl
     ·exact .inr (.inl fun h0=>hk ⟨hl,h0⟩)
     ·exact .inl hl
    ·have hjk:j<k:=by omega
     have h5:=h4 j hjk
     rw[List.mem_cons]
     constructor
     ·rintro (h|h)
      ·omega
      ·rcases h5.1 h with h6|h6|⟨i,h6,h7,h8⟩
       ·exact .inl h6
       ·rcases (needM_or _ _).1 h6 with h7|⟨l,h7,h8⟩
        ·exact .inr (.inl h7)
        ·exact .inr (.inr ⟨k,List.mem_cons_self,hjk,l,h7,h8⟩)
       ·exact .inr (.inr ⟨i,List.mem_cons_of_mem _ h6,h7,h8⟩)
     ·intro h
      refine .inr (h5.2 ?_)
      rcases h with h6|h6|⟨i,h6,h7,l,h8,h9⟩
      ·exact .inl h6
      ·exact .inr (.inl ((needM_or _ _).2 (.inl h6)))
      ·rcases List.mem_cons.1 h6 with e2|h6
       ·subst e2
        exact .inr (.inl ((needM_or _ _).2 (.inr ⟨l,h8,h9⟩)))
       ·exact .inr (.inr ⟨i,h6,h7,l,h8,h9⟩)
theorem needL_spec (hs:List (List Int)) (us:List Int): ∃T:List Nat,needL hs us=T.map Int.ofNat∧T.Pairwise (fun a b=>a<b)∧(∀j∈T,j<hs.length)∧
  ∀j,j<hs.length→(j∈T↔(us.length≤j∨∃i∈T,j<i∧∃l∈hs.getD i [],us.getD j 0=litN l)):=by
 obtain⟨T,h1,h2,h3,h4⟩:=needGo_spec (hs:=hs) (us:=us) hs.length (fun _=>0) []
 refine⟨T.reverse,?_,List.pairwise_reverse.2 h2,fun j hj=>h3 j (List.mem_reverse.1 hj),fun j hj=>?_⟩
 ·unfold needL
  rw[h1,List.nil_append,List.map_reverse]
 ·rw[List.mem_reverse,h4 j hj]
  simp only[List.mem_reverse,ne_eq,not_true_eq_false,false_or]
theorem asc_ext: ∀(a b:List Nat),a.Pairwise (fun x y=>x<y)→b.Pairwise (fun x y=>x<y)→(∀x,x∈a↔x∈b)→a=b:=by
 intro a
 induction a with
 | nil=>
  intro b _ _ h
  cases b with
  | nil=>rfl
  | cons y b=>exact absurd ((h y).2 List.mem_cons_self) (by simp)
 | cons x a ih=>
  intro b ha hb h
  cases b with
  | nil=>exact absurd ((h x).1 List.mem_cons_self) (by simp)
  | cons y b=>
   rw[List.pairwise_cons]at ha hb
   have hxy:x=y:=by
    rcases List.mem_cons.1 ((h x).1 List.mem_cons_self)with e|e
    ·exact e
    ·rcases List.mem_cons.1 ((h y).2 List.mem_cons_self)with e2|e2
     ·exact e2.symm
     ·have:=ha.1 y e2
      have:=hb.1 x e
      omega
   subst hxy
   rw[ih b ha.2 hb.2 fun z=>?_]
   constructor
   ·intro hz
    have:=ha.1 z hz
    rcases List.mem_cons.1 ((h z).1 (List.mem_cons_of_mem _ hz))with e|e
    ·omega
    ·exact e
   ·intro hz
    have:=hb.1 z hz
    rcases List.mem_cons.1 ((h z).2 (List.mem_cons_of_mem _ hz))with e|e
    ·omega
    ·exact e
theorem asc_at {T:List Nat} (h:T.Pairwise (fun x y=>x<y)) {a b i j:Nat} (ha:T[a]? =some i) (hb:T[b]? =some j):i<j↔a<b:=by
 have ha':=List.getElem?_eq_some_iff.1 ha
 have hb':=List.getElem?_eq_some_iff.1 hb
 constructor
 ·intro hij
  rcases Nat.lt_trichotomy a b with h1|h1|h1
  ·exact h1
  ·subst h1
   rw[ha]at hb
   have:=Option.some.inj hb
   omega
  ·have:=List.pairwise_iff_getElem.1 h b a hb'.1 ha'.1 h1
   rw[hb'.2,ha'.2]at this
   omega
 ·intro h1
  have:=List.pairwise_iff_getElem.1 h a b ha'.1 hb'.1 h1
  rw[hb'.2,ha'.2]at this
  exact this
section
variable {L us d:List Int} {ds:List (List Int)}
theorem chc_trim (h:Chc L ds us d): ∃T:List Nat,needL (ds++ [d]) us=(T++ [ds.length]).map Int.ofNat∧(∀j∈T,j<ds.length)∧T.Pairwise (fun a b=>a<b)∧
  Chc L (T.map fun j=>ds.getD j []) (T.map fun j=>us.getD j 0) d∧needL ((T.map fun j=>ds.getD j [])++ [d]) (T.map fun j=>us.getD j 0)=(List.range (T.length+1)).map Int.ofNat:=by
 have hlu:ds.length=us.length:=h.chs.len
 obtain⟨T1,h1,h2,h3,h4⟩:=needL_spec (ds++ [d]) us
 rw[List.length_append,List.length_singleton]at h3 h4
 obtain⟨T,hT⟩: ∃T:List Nat,T=T1.filter (fun j=>decide (j<ds.length)):=⟨_,rfl⟩
 have hTm: ∀j,j∈T↔j∈T1∧j<ds.length:=fun j=>by rw[hT,List.mem_filter,decide_eq_true_eq]
 have hTp:T.Pairwise (fun a b=>a<b):=by rw[hT];exact h2.filter _
 have hT1:T1=T++ [ds.length]:=by
  refine asc_ext _ _ h2 ?_ fun x=>?_
  ·rw[List.pairwise_append]
   exact⟨hTp,List.pairwise_singleton _ _,fun a ha b hb=>by rw[List.mem_singleton.1 hb];exact((hTm a).1 ha).2⟩
  ·rw[List.mem_append,hTm,List.mem_singleton]
   constructor
   ·intro hx
    have:=h3 x hx
    rcases Nat.lt_or_ge x ds.length with e|e
    ·exact .inl ⟨hx,e⟩
    ·exact .inr (by omega)
   ·rintro (hx|hx)
    ·exact hx.1
    ·exact(h4 x (by omega)).2 (.inl (by omega))
 have hds: ∀i,i<ds.length→(ds++ [d]).getD i []=ds.getD i []:=fun i hi=>by
  rw[List.getD_eq_getElem?_getD,List.getElem?_append_left hi,List.getD_eq_getElem?_getD]
 have hdd:(ds++ [d]).getD ds.length []=d:=by
  rw[List.getD_eq_getElem?_getD,List.getElem?_append_right (Nat.le_refl _),Nat.sub_self]
  rfl
 have hat: ∀j,j<ds.length→∃u e,us[j]? =some u∧ds[j]? =some e∧us.getD j 0=u∧ds.getD j []=e:=fun j hj=>by
  refine⟨us[j],ds[j],List.getElem?_eq_getElem (by omega),List.getElem?_eq_getElem hj,?_,?_⟩
  ·rw[List.getD_eq_getElem?_getD,List.getElem?_eq_getElem (by omega)];rfl
  ·rw[List.getD_eq_getElem?_getD,List.getElem?_eq_getElem hj];rfl
 have hclosed: ∀i∈T1,∀y∈(ds++ [d]).getD i [],∀j,j<i→us[j]? =some (-y)→j∈T:=fun i hi y hy j hj hu=>by
  have hjl:=(List.getElem?_eq_some_iff.1 hu).1
  refine(hTm j).2 ⟨(h4 j (by omega)).2 (.inr ⟨i,hi,hj,y,hy,?_⟩),by omega⟩
  have hyb:litB y=true:=by
   have hu2:=(h.chs.at_ j (-y) ds[j] hu (List.getElem?_eq_getElem (by omega))).2.1
   rwa [litB_minus]at hu2
  rw[List.getD_eq_getElem?_getD,hu,litN_eq hyb]
  rfl
 have hch:Chc L (T.map fun j=>ds.getD j []) (T.map fun j=>us.getD j 0) d:={
  chs:={
   len:=by rw[List.length_map,List.length_map]
   at_:=fun a u e hu he=>by
    rw[List.getElem?_map]at hu he
    cases hj:T[a]? with
    | none=>rw[hj]at hu;cases hu
    | some j=>
     rw[hj]at hu he
     have hjT:=List.mem_of_getElem? hj
     have hjl:=((hTm j).1 hjT).2
     obtain⟨u',e',b1,b2,b3,b4⟩:=hat j hjl
     have eu:u'=u:=b3.symm.trans (Option.some.inj hu)
     have ee:e'=e:=b4.symm.trans (Option.some.inj he)
     subst eu
     subst ee
     obtain⟨c1,c2,c3,c4,c5⟩:=h.chs.at_ j u' e' b1 b2
     refine⟨c1,c2,c3,c4,fun y hy hne=>(c5 y hy hne).imp id fun⟨i,e1,e2⟩=>?_⟩
     have hiT:=hclosed j ((hTm j).1 hjT).1 y (by rw[hds j hjl,b4];exact hy) i e1 e2
     obtain⟨b,hbb⟩:=List.getElem?_of_mem hiT
     refine⟨b,(asc_at hTp hbb hj).1 e1,?_⟩
     rw[List.getElem?_map,hbb]
     show some (us.getD i 0)=_
     rw[List.getD_eq_getElem?_getD,e2]
     rfl
   inj:=fun a b u v hab ha hb=>by
    rw[List.getElem?_map]at ha hb
    cases hi:T[a]? with
    | none=>rw[hi]at ha;cases ha
    | some i=>
     cases hj:T[b]? with
     | none=>rw[hj]at hb;cases hb
     | some j=>
      rw[hi]at ha
      rw[hj]at hb
      obtain⟨u',_,b1,_,b3,_⟩:=hat i ((hTm i).1 (List.mem_of_getElem? hi)).2
      obtain⟨v',_,c1,_,c3,_⟩:=hat j ((hTm j).1 (List.mem_of_getElem? hj)).2
      have eu:u'=u:=b3.symm.trans (Option.some.inj ha)
      have ev:v'=v:=c3.symm.trans (Option.some.inj hb)
      subst eu
      subst ev
      exact h.chs.inj i j _ _ ((asc_at hTp hi hj).2 hab) b1 c1 }
  con:=fun y hy=>(h.con y hy).imp id fun hm=>by
   obtain⟨j,hj⟩:=List.getElem?_of_mem hm
   have hjl:=(List.getElem?_eq_some_iff.1 hj).1
   have hjT:=hclosed ds.length (by rw[hT1];simp) y (by rw[hdd];exact hy) j (by omega) hj
   refine List.mem_map.2 ⟨j,hjT,?_⟩
   rw[List.getD_eq_getElem?_getD,hj]
   rfl }
 refine⟨T,by rw[h1,hT1],fun j hj=>((hTm j).1 hj).2,hTp,hch,?_⟩
 obtain⟨T2,g1,g2,g3,g4⟩:=needL_spec ((T.map fun j=>ds.getD j [])++ [d]) (T.map fun j=>us.getD j 0)
 rw[List.length_append,List.length_singleton,List.length_map]at g3 g4
 rw[List.length_map]at g4
 rw[g1]
 congr 1
 have hlast:T.length∈T2:=(g4 T.length (Nat.lt_succ_self _)).2 (.inl (Nat.le_refl _))
 have hall: ∀n a:Nat,a+n=T.length→a∈T2:=by
  intro n
  induction n using Nat.strongRecOn with
  | _ n ih=>
   intro a han
   rcases Nat.eq_zero_or_pos n with e|e
   ·obtain rfl:a=T.length:=by omega
    exact hlast
   ·obtain⟨j,hj⟩: ∃j,T[a]? =some j:=⟨_,List.getElem?_eq_getElem (by omega)⟩
    have hjT:=List.mem_of_getElem? hj
    obtain⟨hj1,hjl⟩:=(hTm j).1 hjT
    obtain⟨u,e',b1,b2,b3,b4⟩:=hat j hjl
    rcases (h4 j (by omega)).1 hj1 with h5|⟨i,hi,hji,l,hl,hul⟩
    ·omega
    ·refine(g4 a (by omega)).2 (.inr ?_)
     have eu:(T.map fun j=>us.getD j 0).getD a 0=us.getD j 0:=by
      rw[List.getD_eq_getElem?_getD,List.getElem?_map,hj]
      rfl
     rw[eu]
     rw[hT1,List.mem_append,List.mem_singleton]at hi
     rcases hi with hi|hi
     ·obtain⟨b,hbb⟩:=List.getElem?_of_mem hi
      have hbl:=(List.getElem?_eq_some_iff.1 hbb).1
      have hab:=(asc_at hTp hj hbb).1 hji
      refine⟨b,ih (T.length-b) (by omega) b (by omega),hab,l,?_,hul⟩
      rw[List.getD_eq_getElem?_getD,List.getElem?_append_left (by rw[List.length_map];exact hbl),List.getElem?_map,hbb]
      show l∈ds.getD i []
      rw[←hds i ((hTm i).1 hi).2]
      exact hl
     ·subst hi
      refine⟨T.length,hlast,by omega,l,?_,hul⟩
      rw[List.getD_eq_getElem?_getD,List.getElem?_append_right (by rw[List.length_map];exact Nat.le_refl _),List.length_map,Nat.sub_self]
      rw[hdd]at hl
      exact hl
 refine asc_ext _ _ g2 List.pairwise_lt_range fun x=>?_
 rw[List.mem_range]
 exact⟨g3 x,fun hx=>hall (T.length-x) x (by omega)⟩
end
structure TrimO (L:List Int) (hs:List (List Int)) (T:List Nat):Prop where
 eq:trimP L hs=T.map Int.ofNat
 lt: ∀j∈T,j<hs.length
 asc:T.Pairwise (fun a b=>a<b)
 ok:(chkP L (T.map fun j=>hs.getD j [])).2.2=0
 again:trimP L (T.map fun j=>hs.getD j [])=(List.range T.length).map Int.ofNat
 few: ∀k,k<T.length→(chkP L ((T.map fun j=>hs.getD j []).take k)).2.2=82
theorem trim_law {L:List Int} {hs:List (List Int)} (hL:clauseB L=true) (hb: ∀d∈hs,clauseB d=true) (h:(chkP L hs).2.2=0): ∃T,TrimO L hs T:=by
 by_cases hal:alwL L=true
 ·have hk: ∀hs,chkP L hs=([],0,0):=fun hs=>by unfold chkP;rw[if_pos hal]
  have ht: ∀hs,trimP L hs= []:=fun hs=>by unfold trimP;rw[hk,if_neg (by simp)]
  exact⟨[],ht _,(fun j hj=>(by cases hj)),List.Pairwise.nil,by rw[hk],by rw[ht];rfl,(fun k hk=>(by cases hk))⟩
 ·have hal:alwL L=false:=by
   cases hx:alwL L with
   | true=>exact absurd hx hal
   | false=>rfl
  have hno:=alwL_not hL hal
  obtain⟨ds,d,us,h1,h2,h3⟩:=chk_chc hL hb hal hno h
  have hlen:ds.length<hs.length:=by
   have:=congrArg List.length h2
   rw[List.length_take,List.length_append,List.length_singleton]at this
   omega
  have hm: ∀e∈ds++ [d],clauseB e=true:=fun e he=>hb e (List.mem_of_mem_take (by rw[h2];exact he))
  have hmd: ∀e∈ds,clauseB e=true:=fun e he=>hm e (List.mem_append_left _ he)
  have hdc:clauseB d=true:=hm d (by simp)
  obtain⟨T,g1,g2,g3,g4,g5⟩:=chc_trim h3
  have hget: ∀j,j<ds.length+1→hs.getD j []=(ds++ [d]).getD j []:=fun j hj=>by
   rw[←h2,List.getD_eq_getElem?_getD,List.getD_eq_getElem?_getD,List.getElem?_take_of_lt hj]
  have hmap:((T++ [ds.length]).map fun j=>hs.getD j [])=(T.map fun j=>ds.getD j [])++ [d]:=by
   rw[List.map_append]
   congr 1
   ·refine List.map_congr_left fun j hj=>?_
    have hjl:=g2 j hj
    rw[hget j (by omega),List.getD_eq_getElem?_getD,List.getElem?_append_left hjl,List.getD_eq_getElem?_getD]
   ·show [hs.getD ds.length []]=_
    rw[hget _ (Nat.lt_succ_self _),List.getD_eq_getElem?_getD,List.getElem?_append_right (Nat.le_refl _),Nat.sub_self]
    rfl
  have hmT: ∀e∈T.map (fun j=>ds.getD j []),clauseB e=true:=fun e he=>by
   obtain⟨j,hj,rfl⟩:=List.mem_map.1 he
   have hjl:=g2 j hj
   rw[List.getD_eq_getElem?_getD,List.getElem?_eq_getElem hjl]
   exact hmd _ (List.getElem_mem hjl)
  have hchk:=chc_chk hL hmT hdc hal hno g4 []
  refine⟨T++ [ds.length],?_,fun j hj=>?_,?_,?_,?_,fun k hk=>?_⟩
  ·unfold trimP
   rw[h1,if_pos ⟨rfl,Nat.succ_ne_zero _⟩]
   show needL (hs.take (ds.length+1)) us=_
   rw[h2,g1]
  ·rcases List.mem_append.1 hj with hj|hj
   ·have:=g2 j hj
    omega
   ·rw[List.mem_singleton.1 hj]
    exact hlen
  ·rw[List.pairwise_append]
   exact⟨g3,List.pairwise_singleton _ _,fun a ha b hb=>by rw[List.mem_singleton.1 hb];exact g2 a ha⟩
  ·rw[hmap,hchk]
  ·rw[hmap]
   unfold trimP
   rw[hchk,if_pos ⟨rfl,Nat.succ_ne_zero _⟩]
   show needL (((T.map fun j=>ds.getD j [])++ [d]).take _) _=_
   rw[List.take_of_length_le (by simp),g5,List.length_append,List.length_singleton]
  ·rw[hmap,List.length_append,List.length_singleton]at *
   rw[List.take_append_of_le_length (by rw[List.length_map];omega)]
   exact chc_few hL hmT hal hno g4 (by rw[List.length_map];omega)
end Go.Proofs.YtkfgplfllddhnaaGreat
