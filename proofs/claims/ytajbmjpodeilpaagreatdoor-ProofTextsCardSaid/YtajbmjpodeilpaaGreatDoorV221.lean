/- Plain: the hints that are left of trimmed ones lead to the conflict too, all of them are needed, and fewer do not. Plain: steps keep a checker right; as long as the formula has a model, the entries have one. Plain: what is assigned while a step of RAT is checked has values. Grow, Concat (package slices), at clauses and at literals. package proof: add, where unit propagation decides. -/
import Derived.Test.YtajbmjpodeilpaaGreatDoorV211
import Derived.Test.YtajbmjpodeilpaaGreatDoorV214
import Derived.Test.YtajbmjpodeilpaaGreatDoorV202
import Derived.Lib.AppendZeros
import Derived.Test.YtajbmjpodeilpaaGreatDoorV220
namespace Go.Proofs.YtajbmjpodeilpaaGreatDoor
open Go.RowKit
theorem alwL_not {c:List Int} (hc:clauseB c=true) (h:alwL c=false): ∀y∈c,-y∉c:=fun y hy hn=>by
 have hr: ∀x∈c,litB x=true:=fun x hx=>clauseB_lit hc hx
 unfold alwL at h
 rw[hc,Bool.true_and]at h
 have key:=alw_pair (xs:=normL c) (fun x hx=>hr x ((normL_has hr).1 hx)) (normL_pair hr) h
 have hy0:=litB_ne (hr y hy)
 rcases Int.lt_or_gt_of_ne hy0 with e|e
 ·exact key (-y) ((normL_has hr).2 hn) (by omega) y ((normL_has hr).2 hy) (by omega)
 ·exact key y ((normL_has hr).2 hy) e (-y) ((normL_has hr).2 hn) rfl
structure Chs (L:List Int) (ds:List (List Int)) (us:List Int):Prop where
 len:ds.length=us.length
 at_: ∀(j:Nat) (u:Int) (d:List Int),us[j]? =some u→ds[j]? =some d→u∈d∧litB u=true∧u∉L∧ -u∉L∧∀y∈d,y≠u→y∈L∨∃i,i<j∧us[i]? =some (-y)
 inj: ∀(i j:Nat) (u v:Int),i<j→us[i]? =some u→us[j]? =some v→litV u≠litV v
theorem Chs.nil (L:List Int):Chs L [] []:=⟨rfl,fun j u d h=>by simp at h,fun i j u v _ h=>by simp at h⟩
section
variable {L us:List Int} {ds:List (List Int)}
end
structure Chc (L:List Int) (ds:List (List Int)) (us:List Int) (c:List Int):Prop where
 chs:Chs L ds us
 con: ∀y∈c,y∈L∨ -y∈us
section
variable {L us c:List Int} {ds hs:List (List Int)}
end
theorem needM_or {z:Int}: ∀(xs:List Int) (f:Int→Int),needM f xs z≠0↔f z≠0∨∃l∈xs,z=litN l:=by
 intro xs
 induction xs with
 | nil=>exact fun f=>⟨.inl,fun h=>h.elim id (fun⟨l,hl,_⟩=>by cases hl)⟩
 | cons x r ih=>
  intro f
  have:=ih (fun z=>if z=litN x then 1 else f z)
  refine this.trans ?_
  simp only[List.mem_cons]
  constructor
  ·rintro (h|⟨l,h1,h2⟩)
   ·by_cases e:z=litN x
    ·exact .inr ⟨x,.inl rfl,e⟩
    ·rw[if_neg e]at h
     exact .inl h
   ·exact .inr ⟨l,.inr h1,h2⟩
  ·rintro (h|⟨l,h1|h1,h2⟩)
   ·left
    split
    ·decide
    ·exact h
   ·left
    rw[h1]at h2
    rw[if_pos h2]
    decide
   ·exact .inr ⟨l,h1,h2⟩
theorem needGo_spec {hs:List (List Int)} {us:List Int}: ∀(k:Nat) (f:Int→Int) (out:List Int),∃T:List Nat,needGo hs us k f out=out++T.map Int.ofNat∧T.Pairwise (fun a b=>b<a)∧(∀j∈T,j<k)∧
  ∀j,j<k→(j∈T↔(us.length≤j∨f (us.getD j 0)≠0∨∃i∈T,j<i∧∃l∈hs.getD i [],us.getD j 0=litN l)):=by
 intro k
 induction k with
 | zero=>exact fun f out=>⟨[],(List.append_nil _).symm,List.Pairwise.nil,(fun j hj=>by cases hj),fun j hj=>by omega⟩
 | succ k ih=>
  intro f out
  by_cases hk:k<us.length∧f (us.getD k 0)=0
  ·obtain⟨T,h1,h2,h3,h4⟩:=ih f out
   refine⟨T,by unfold needGo;rw[if_pos hk,h1],h2,fun j hj=>by have:=h3 j hj;omega,fun j hj=>?_⟩
   by_cases e:j=k
   ·subst e
    constructor
    ·intro h
     have:=h3 j h
     omega
    ·rintro (h|h|⟨i,h,h5,_⟩)
     ·omega
     ·exact absurd hk.2 h
     ·have:=h3 i h
      omega
   ·exact h4 j (by omega)
  ·obtain⟨T,h1,h2,h3,h4⟩:=ih (needM f (hs.getD k [])) (out++ [(k:Int)])
   refine⟨k::T,?_,List.pairwise_cons.2 ⟨h3,h2⟩,fun j hj=>?_,fun j hj=>?_⟩
   ·unfold needGo
    rw[if_neg hk,h1,List.append_assoc]
    rfl
   ·rcases List.mem_cons.1 hj with e|hj
    ·omega
    ·have:=h3 j hj
     omega
   ·by_cases e:j=k
    ·subst e
     refine⟨fun _=>?_,fun _=>List.mem_cons_self⟩
     rcases Nat.lt_or_ge j us.length with hl|hl
     ·exact .inr (.inl fun h0=>hk ⟨hl,h0⟩)
     ·exact .inl hl
    ·have hjk:j<k:=by omega
     have h5:=h4 j hjk
     rw[List.mem_cons]
     constructor
     ·rintro (h|h)
      ·omega
      ·rcases h5.1 h with h6|h6|⟨i,h6,h7,h8⟩
       ·exact .inl h6
       ·rcases (needM_or _ _).1 h6 with h7|⟨l,h7,h8⟩
        ·exact .inr (.inl h7)
        ·exact .inr (.inr ⟨k,List.mem_cons_self,hjk,l,h7,h8⟩)
       ·exact .inr (.inr ⟨i,List.mem_cons_of_mem _ h6,h7,h8⟩)
     ·intro h
      refine .inr (h5.2 ?_)
      rcases h with h6|h6|⟨i,h6,h7,l,h8,h9⟩
      ·exact .inl h6
      ·exact .inr (.inl ((needM_or _ _).2 (.inl h6)))
      ·rcases List.mem_cons.1 h6 with e2|h6
       ·subst e2
        exact .inr (.inl ((needM_or _ _).2 (.inr ⟨l,h8,h9⟩)))
       ·exact .inr (.inr ⟨i,h6,h7,l,h8,h9⟩)
theorem needL_spec (hs:List (List Int)) (us:List Int): ∃T:List Nat,needL hs us=T.map Int.ofNat∧T.Pairwise (fun a b=>a<b)∧(∀j∈T,j<hs.length)∧
  ∀j,j<hs.length→(j∈T↔(us.length≤j∨∃i∈T,j<i∧∃l∈hs.getD i [],us.getD j 0=litN l)):=by
 obtain⟨T,h1,h2,h3,h4⟩:=needGo_spec (hs:=hs) (us:=us) hs.length (fun _=>0) []
 refine⟨T.reverse,?_,List.pairwise_reverse.2 h2,fun j hj=>h3 j (List.mem_reverse.1 hj),fun j hj=>?_⟩
 ·unfold needL
  rw[h1,List.nil_append,List.map_reverse]
 ·rw[List.mem_reverse,h4 j hj]
  simp only[List.mem_reverse,ne_eq,not_true_eq_false,false_or]
section
variable {L us d:List Int} {ds:List (List Int)}
end
structure TrimO (L:List Int) (hs:List (List Int)) (T:List Nat):Prop where
 eq:trimP L hs=T.map Int.ofNat
 lt: ∀j∈T,j<hs.length
 asc:T.Pairwise (fun a b=>a<b)
 ok:(chkP L (T.map fun j=>hs.getD j [])).2.2=0
 again:trimP L (T.map fun j=>hs.getD j [])=(List.range T.length).map Int.ofNat
 few: ∀k,k<T.length→(chkP L ((T.map fun j=>hs.getD j []).take k)).2.2=82
end Go.Proofs.YtajbmjpodeilpaaGreatDoor
namespace Go.Proofs.YtajbmjpodeilpaaGreatDoor
open Go.RowKit
theorem putA_mem {m:Ents} {x:Int} {v:List Int} {p:Int×List Int}:p∈putA m x v↔p=(x,v)∨p∈m∧p.1≠x:=by
 unfold putA
 rw[insA_mem,delA_mem]
theorem ckDel_mem: ∀(ids:List Int) (es:Ents),∀p∈(ckDel es ids).1,p∈es:=by
 intro ids
 induction ids with
 | nil=>exact fun _ _ h=>h
 | cons id r ih=>
  intro es p hp
  unfold ckDel at hp
  split at hp
  ·exact hp
  ·exact(delA_mem.1 (ih _ p hp)).1
theorem ckDel_rise: ∀(ids:List Int) (es:Ents),Rising es→Rising (ckDel es ids).1:=by
 intro ids
 induction ids with
 | nil=>exact fun _ h=>h
 | cons id r ih=>
  intro es h
  unfold ckDel
  split
  ·exact h
  ·exact ih _ (h.del id)
theorem ckDel_len: ∀(ids:List Int) (es:Ents),(ckDel es ids).1.length≤es.length:=by
 intro ids
 induction ids with
 | nil=>exact fun _=>Nat.le_refl _
 | cons id r ih=>
  intro es
  unfold ckDel
  split
  ·exact Nat.le_refl _
  ·exact Nat.le_trans (ih _) (List.length_filter_le _ _)
theorem stepB_parts {s:EStep} (h:stepB s=true):0≤s.id∧s.id≤1073741824∧(s.del=false→s.id≠0)∧(s.del=true→s.lits= [])∧clauseB s.lits=true∧s.hints.length≤65536∧∀x∈s.hints,x≠0∧x≤1073741824∧ -1073741824≤x∧(s.del=true→0<x):=by
 unfold stepB at h
 simp only[Bool.and_eq_true,Bool.not_eq_true',Bool.or_eq_false_iff,Bool.and_eq_false_iff,decide_eq_false_iff_not,decide_eq_true_eq,Bool.not_eq_false',List.any_eq_false,Bool.or_eq_true,not_or,not_and]at h
 obtain⟨⟨⟨⟨h1,h2⟩,h3⟩,h4⟩,⟨h5,h6⟩,h7⟩:=h
 refine⟨by omega,by omega,fun e=>?_,fun e=>?_,h5,h6,fun x hx=>?_⟩
 ·rcases h3 with h3|h3
  ·rw[e]at h3;cases h3
  ·exact h3
 ·rcases h4 with h4|h4
  ·rw[e]at h4;cases h4
  ·exact List.length_eq_zero_iff.1 (by omega)
 ·obtain⟨⟨⟨a,b⟩,c⟩,d⟩:=h7 x hx
  exact⟨a,by omega,by omega,fun e=>by have:=d e;omega⟩
section
variable {k:Ckr} {s:EStep} {N:Nat}
inductive DoO (k:Ckr) (s:EStep) (r:Ckr×Nat×Int×Nat):Prop
 | done (h:k.proved=true) (e:r=(k,0,0,0))
 | bad (h:k.proved=false) (h1:r.1=k) (h2:r.2.1=0) (h3:r.2.2.2≠0)
 | del (h:k.proved=false) (hs:stepB s=true) (hl:k.last≤s.id) (hd:s.del=true) (he:(ckDel k.ents s.hints).2.2=0) (e:r=({ k with ents:=(ckDel k.ents s.hints).1,last:=s.id,dels:=k.dels+1 },0,0,0))
 | add (h:k.proved=false) (hs:stepB s=true) (hl:k.last<s.id) (hd:s.del=false) (he:(ckAdd k.ents s.lits s.hints).2.2=0) (e:r=({ (k.put s.id s.lits)with adds:=k.adds+1,rats:=if(ckAdd k.ents s.lits s.hints).1=2 then k.rats+1 else k.rats },(ckAdd k.ents s.lits s.hints).1,0,0))
theorem do_or (k:Ckr) (s:EStep):DoO k s (k.do_ s):=by
 unfold Ckr.do_
 cases hp:k.proved with
 | true=>rw[if_pos rfl];exact .done hp rfl
 | false=>
  rw[if_neg (by decide)]
  cases hs:stepB s with
  | false=>rw[if_pos rfl];exact .bad hp rfl rfl (by show(70:Nat)≠0;decide)
  | true=>
   rw[if_neg (by decide)]
   split
   ·exact .bad hp rfl rfl (by show(100:Nat)≠0;decide)
   ·rename_i h1
    cases hd:s.del with
    | true=>
     rw[if_pos rfl]
     split
     ·rename_i h2
      exact .del hp hs (by omega) hd h2 (by rw[hp])
     ·rename_i h2
      exact .bad hp rfl rfl h2
    | false=>
     rw[hd]at h1
     rw[if_neg (by decide)]
     split
     ·rename_i h2
      exact .bad hp rfl rfl h2
     ·rename_i h2
      exact .add hp hs (by
       have: ¬(s.id<k.last∨s.id=k.last∧false=false):=h1
       simp only[and_true]at this
       omega) hd (Classical.byContradiction h2) rfl
theorem any_put {es:Ents} {id:Int} {c:List Int} (h: ∀p∈es,p.1≠id):(putA es id c).any (fun p=>p.2.isEmpty)=(es.any (fun p=>p.2.isEmpty)||c.isEmpty):=by
 refine Bool.eq_iff_iff.2 ?_
 rw[Bool.or_eq_true,List.any_eq_true,List.any_eq_true]
 constructor
 ·rintro ⟨p,hp,e⟩
  rcases putA_mem.1 hp with rfl|⟨hp,_⟩
  ·exact .inr e
  ·exact .inl ⟨p,hp,e⟩
 ·rintro (⟨p,hp,e⟩|e)
  ·exact⟨p,putA_mem.2 (.inr ⟨hp,h p hp⟩),e⟩
  ·exact⟨_,putA_mem.2 (.inl rfl),e⟩
theorem Ckr.Ok.put (h:k.Ok N) {id:Int} {c:List Int} (hl:k.last<id) (h1:id≤1073741824) (hc:clauseB c=true):(k.put id c).Ok (N+1) where
 rise:=h.rise.put id c
 ids:=fun p hp=>by
  show 1≤p.1∧p.1≤1073741824∧p.1≤id
  have:=h.last0
  rcases putA_mem.1 hp with rfl|⟨hp,_⟩
  ·exact⟨by show 1≤id;omega,h1,Int.le_refl _⟩
  ·obtain⟨a,b,d⟩:=h.ids p hp
   exact⟨a,b,by omega⟩
 cls:=fun p hp=>by
  rcases putA_mem.1 hp with rfl|⟨hp,_⟩
  ·exact hc
  ·exact h.cls p hp
 last0:=by show 0≤id;have:=h.last0;omega
 last1:=h1
 len:=by
  have:=putA_length_le k.ents id c
  have:=h.len
  show(putA k.ents id c).length≤_
  omega
 prv:=by
  show(k.proved||c.isEmpty)=(putA k.ents id c).any (fun p=>p.2.isEmpty)∨(k.proved||c.isEmpty)=false
  rw[any_put (fun p hp=>by have:=(h.ids p hp).2.2;omega)]
  rcases h.prv with e|e
  ·exact .inl (by rw[e])
  ·rw[e]
   cases hc:c.isEmpty with
   | false=>exact .inr rfl
   | true=>left;simp
 adds:=⟨h.adds.1,by have:=h.adds.2;show k.adds≤_;omega⟩
 dels:=⟨h.dels.1,by have:=h.dels.2;show k.dels≤_;omega⟩
 rats:=⟨h.rats.1,by have:=h.rats.2;show k.rats≤_;omega⟩
 larg:=by
  have:=putA_length_le k.ents id c
  have:=h.len
  have:=h.larg
  show 0≤max k.largest ((putA k.ents id c).length:Int)∧max k.largest ((putA k.ents id c).length:Int)≤_
  omega
theorem do_ok (h:k.Ok N):(k.do_ s).1.Ok (N+1):=by
 have hmono:k.Ok (N+1):={ h with
  len:=Nat.le_succ_of_le h.len
  adds:=⟨h.adds.1,by have:=h.adds.2;omega⟩
  dels:=⟨h.dels.1,by have:=h.dels.2;omega⟩
  rats:=⟨h.rats.1,by have:=h.rats.2;omega⟩
  larg:=⟨h.larg.1,by have:=h.larg.2;omega⟩ }
 rcases do_or k s with⟨_,e⟩|⟨_,e,_⟩|⟨hp,hs,hl,hd,he,e⟩|⟨hp,hs,hl,hd,he,e⟩
 ·rw[e];exact hmono
 ·rw[e];exact hmono
 ·rw[e]
  obtain⟨s0,s1,_⟩:=stepB_parts hs
  exact {
   rise:=ckDel_rise _ _ h.rise
   ids:=fun p hp=>by
    obtain⟨a,b,d⟩:=h.ids p (ckDel_mem _ _ p hp)
    exact⟨a,b,Int.le_trans d hl⟩
   cls:=fun p hp=>h.cls p (ckDel_mem _ _ p hp)
   last0:=s0
   last1:=s1
   len:=Nat.le_trans (ckDel_len _ _) (Nat.le_succ_of_le h.len)
   prv:=.inr hp
   adds:=hmono.adds
   dels:=by
    have:=h.dels
    show 0≤k.dels+1∧k.dels+1≤_
    omega
   rats:=hmono.rats
   larg:=hmono.larg }
 ·rw[e]
  obtain⟨s0,s1,_,_,hc,_⟩:=stepB_parts hs
  have h2:=h.put hl s1 hc
  exact { h2 with
   adds:=by
    have:=h.adds
    show 0≤k.adds+1∧k.adds+1≤_
    omega
   rats:=by
    have:=h.rats
    show 0≤(if(ckAdd k.ents s.lits s.hints).1=2 then k.rats+1 else k.rats)∧(if(ckAdd k.ents s.lits s.hints).1=2 then k.rats+1 else k.rats)≤_
    split <;> omega }
def Ckr.Exact (k:Ckr):Prop:=k.proved=k.ents.any (fun p=>p.2.isEmpty)
end
def SatE (n:Nat) (es:Ents):Prop:= ∀p∈es,p.2.any (bitT n)=true
def SatN (es:Ents):Prop:= ∃n,n<128∧n%2=0∧SatE n es
theorem ratIds_mem {want:List Int}: ∀(gs:List Int) (last:Int),(ratIds want last gs).2=0→∀g∈gs,g∈want:=by
 intro gs
 induction gs with
 | nil=>intro _ _ g hg;cases hg
 | cons x r ih=>
  intro last h g hg
  unfold ratIds at h
  split at h
  ·cases h
  ·rename_i h1
   rcases List.mem_cons.1 hg with e|hg
   ·rw[e]
    refine List.contains_iff_mem.1 ?_
    cases hx:want.contains x with
    | true=>rfl
    | false=>exact absurd (.inl hx) h1
   ·exact ih _ h g hg
end Go.Proofs.YtajbmjpodeilpaaGreatDoor
namespace Go.Proofs.YtajbmjpodeilpaaGreatDoor
open Go.RowKit
theorem asg_from: ∀(xs:List Int) (f g:Int→Int),asgGo f xs=some g→∀y,litB y=true→ofF g y<0→ofF f y<0∨ -y∈xs:=by
 intro xs
 induction xs with
 | nil=>
  intro f g h y _ hn
  obtain rfl:=Option.some.inj h
  exact .inl hn
 | cons x r ih=>
  intro f g h y hy hn
  unfold asgGo at h
  split at h
  ·rename_i hc
   rcases ih _ g h y hy hn with h1|h1
   ·by_cases e:litV y=litV x
    ·rcases litV_two hc.1 e.symm with e|e
     ·rw[e,k_put_self]at h1
      omega
     ·right
      rw[e,Int.neg_neg]
      exact List.mem_cons_self
    ·rw[k_put_ne f e]at h1
     exact .inl h1
   ·exact .inr (List.mem_cons_of_mem _ h1)
  ·cases h
theorem asgF_neg {xs:List Int} {g:Int→Int} (h:asgF xs=some g) {y:Int} (hy:litB y=true) (hn:ofF g y<0): -y∈xs:=(asg_from xs _ g h y hy hn).resolve_left fun h0=>by
 unfold ofF at h0
 simp only at h0
 split at h0 <;> omega
theorem asgF_one {xs:List Int} {f:Int→Int} {x:Int} (h:asgF xs=some f) (hx:litB x=true) (h0:0≤ofF f x):asgF (xs++ [x])=some (putF f x):=by
 unfold asgF at h⊢
 rw[asgGo_snoc,h]
 exact if_pos ⟨hx,h0⟩
theorem asgF_more: ∀(ms xs:List Int) (f:Int→Int),asgF xs=some f→(∀m∈ms,litB m=true)→(∀m∈ms,-m∉xs∧ -m∉ms)→∃g,asgF (xs++ms)=some g:=by
 intro ms
 induction ms with
 | nil=>exact fun xs f h _ _=>⟨f,by rw[List.append_nil];exact h⟩
 | cons m r ih=>
  intro xs f h hb hn
  obtain⟨h1,h2⟩:=hn m List.mem_cons_self
  have hb1:=hb m List.mem_cons_self
  have h0:0≤ofF f m:=by
   refine Classical.byContradiction fun hc=>h1 ?_
   exact asgF_neg h hb1 (by omega)
  obtain⟨g,hg⟩:=ih (xs++ [m]) _ (asgF_one h hb1 h0) (fun x hx=>hb x (List.mem_cons_of_mem _ hx)) (fun x hx=>by
   obtain⟨a,b⟩:=hn x (List.mem_cons_of_mem _ hx)
   refine⟨fun hm=>?_,fun hm=>b (List.mem_cons_of_mem _ hm)⟩
   rcases List.mem_append.1 hm with hm|hm
   ·exact a hm
   ·exact b (List.mem_cons.2 (.inl (List.mem_singleton.1 hm))))
  exact⟨g,by rw[List.append_assoc]at hg;exact hg⟩
section
variable {es:Ents}
theorem ratFol_asg (hb: ∀x∈es,clauseB x.2=true): ∀(hs asg:List Int) (f:Int→Int),asgF asg=some f→(ratFol es asg hs).2.2.2=0→(∃g,asgF (ratFol es asg hs).1=some g)∧(ratFol es asg hs).1.length≤asg.length+hs.length:=by
 intro hs
 induction hs with
 | nil=>exact fun asg f h _=>⟨⟨f,h⟩,Nat.le_refl _⟩
 | cons id r ih=>
  intro asg f h he
  unfold ratFol at he⊢
  cases hg:getA es id with
  | none=>rw[hg]at he;cases he
  | some c=>
   rw[hg]at he
   simp only at he⊢
   rw[h]at he⊢
   simp only at he⊢
   split
   ·exact⟨⟨f,h⟩,by show asg.length≤_;omega⟩
   ·rename_i h2
    rw[if_neg h2]at he
    split
    ·rename_i h3
     rw[if_pos h3]at he
     have hcb:=hb _ (getA_some hg)
     obtain⟨a1,a2,_⟩:=luk_unit c (fun y hy=>litB_ne (clauseB_lit hcb hy)) h3
     obtain⟨b1,b2⟩:=ih (asg++ [(lookF f c).2]) _ (asgF_snoc h (clauseB_lit hcb a1) a2) he
     refine⟨b1,Nat.le_trans b2 ?_⟩
     rw[List.length_append,List.length_singleton,List.length_cons]
     omega
    ·rename_i h3
     rw[if_neg h3]at he
     cases he
theorem rest_asg {p:Int} {asg c:List Int} {f:Int→Int} (hf:asgF asg=some f) (hc:clauseB c=true) (hal:alwL c=false) (hr:(restGo p asg [] c).2=true): ∃g,asgF (asg++(restGo p asg [] c).1)=some g:=by
 have e:=restGo_out p asg c [] hr
 rw[List.nil_append]at e
 have hno:=alwL_not hc hal
 have hin: ∀l∈c,l≠litN p→l∉asg:=by
  have key: ∀(c out:List Int),(restGo p asg out c).2=true→∀l∈c,l≠litN p→l∉asg:=by
   intro c
   induction c with
   | nil=>exact fun _ _ l hl=>by cases hl
   | cons x r ih=>
    intro out h l hl hne
    unfold restGo at h
    split at h
    ·rename_i hx
     rcases List.mem_cons.1 hl with h1|h1
     ·exact absurd (h1.trans hx) hne
     ·exact ih _ h l h1 hne
    ·split at h
     ·cases h
     ·rename_i hx
      rcases List.mem_cons.1 hl with h1|h1
      ·rw[h1]
       exact fun hm=>hx (List.contains_iff_mem.2 hm)
      ·exact ih _ h l h1 hne
  exact key c [] hr
 rw[e]
 refine asgF_more _ _ f hf (fun m hm=>?_) (fun m hm=>?_)
 ·obtain⟨l,hl,rfl⟩:=List.mem_map.1 hm
  have hlb:=clauseB_lit hc ((List.mem_filter.1 hl).1)
  rw[litN_eq hlb,litB_minus]
  exact hlb
 ·obtain⟨l,hl,rfl⟩:=List.mem_map.1 hm
  obtain⟨hl1,hl2⟩:=List.mem_filter.1 hl
  have hlb:=clauseB_lit hc hl1
  rw[litN_eq hlb,Int.neg_neg]
  refine⟨hin l hl1 (of_decide_eq_true hl2),fun hm2=>?_⟩
  obtain⟨l',hl',e'⟩:=List.mem_map.1 hm2
  have hl'1:=(List.mem_filter.1 hl').1
  rw[litN_eq (clauseB_lit hc hl'1)]at e'
  refine hno l' hl'1 ?_
  rw[e']
  exact hl1
theorem rest_len {p:Int} {asg:List Int}: ∀(c out:List Int),(restGo p asg out c).1.length≤out.length+c.length:=by
 intro c
 induction c with
 | nil=>exact fun out=>Nat.le_refl _
 | cons x r ih=>
  intro out
  unfold restGo
  rw[List.length_cons]
  split
  ·have:=ih out
   omega
  ·split
   ·exact Nat.zero_le _
   ·have:=ih (out++ [litN x])
    rw[List.length_append,List.length_singleton]at this
    omega
theorem grp_cand (hr:Rising es) {p:Int} {gs:List (Int×List Int)} (h:(ratGrp es p gs).2=0): ∀g∈gs,∃c,getA es g.1=some c∧candB p c=true:=fun g hg=>by
 unfold ratGrp at h
 split at h
 ·cases h
 ·have hm:=ratIds_mem _ _ h g.1 (List.mem_map.2 ⟨g,hg,rfl⟩)
  unfold ratWant at hm
  obtain⟨x,hx,e⟩:=List.mem_map.1 hm
  obtain⟨hx1,hx2⟩:=List.mem_filter.1 hx
  exact⟨x.2,getA_of hr (by rw[←e];exact hx1),hx2⟩
end
theorem asm_len (c:List Int):(asmL c).length≤c.length:=by
 unfold asmL
 rw[sortL_length,List.length_map]
 exact normL_len c
end Go.Proofs.YtajbmjpodeilpaaGreatDoor
namespace Go.Proofs.YtajbmjpodeilpaaGreatDoor
open Go.RowKit
theorem flat_take {l:List (List Int)} {k:Nat} {c:List Int} (h:l[k]? =some c):(l.take (k+1)).flatten=(l.take k).flatten++c:=by
 rw[List.take_add_one,h]
 simp
theorem flat_le (l:List (List Int)) (k:Nat):(l.take k).flatten.length≤l.flatten.length:=by
 have:l.flatten.length=(l.take k).flatten.length+(l.drop k).flatten.length:=by
  rw[←List.length_append,←List.flatten_append,List.take_append_drop]
 omega
set_option maxRecDepth 100000 in
theorem grow_ll (k:Nat) (w:World) (hk:k≤1000000):
  Calls Tryz.prog 161 #[.slice none 0 0,.int .i64 (k:Int)] w fun e w'=> ∃v,e= .returned v∧w'.ownsRow w.heap.size 28 1 v 0 []∧Below w.heap.size w w':=by
 by_cases h0:k=0
 ·subst h0
  go_enter Tryz.func161,Tryz.ntmps161
  go_wp2_with fail
  go_ret
  exact⟨_,rfl,World.ownsRow_nil _ _ _ _,Below.refl _ _⟩
 ·have q0:decide ((k:Int)<0)=false:=by simp
  have q1:decide ((0:Int)<(k:Int))=true:=by simp;omega
  have q2:decide (0<k)=true:=by simp;omega
  obtain⟨i0,hi0,hz0,hz1,hz2⟩:=info_parts cinfo_lit
  have hrun:=fun ty=>Lib.run_append_nil_zeros (P:=Tryz.prog) w 29 3 ty 28 i0 (.int .i64 0) .i64 .i64 Tryz.underlying29 Tryz.underlying3 hi0 hz0 k (by omega) (by rw[hz1];omega) (by omega) (by rw[hz2];omega)
  have hge:=grownCap_ge w k 0 28
  have hle:=grownCap_le_maxLen w k 0 28 (by unfold maxLen;omega)
  obtain⟨cap,hcap⟩: ∃c,grownCap w k 0 28=c:=⟨_,rfl⟩
  rw[hcap]at hrun hge hle
  obtain⟨W1,hW1⟩: ∃x,w.drew.alloc (.cells (Builtin.zeroCells (Value.int .i64 0).cells k++Builtin.zeroCells (Value.int .i64 0).cells (cap-k)) 28)=x:=⟨_,rfl⟩
  rw[hW1]at hrun
  have hb1:Below w.heap.size w W1:=by rw[←hW1];exact(mx_drew w).trans (mx_al w.drew _)
  have hn1:W1.heap[w.heap.size]? =some (.cells (Builtin.zeroCells (Value.int .i64 0).cells k++Builtin.zeroCells (Value.int .i64 0).cells (cap-k)) 28 (0,0)):=by
   rw[←hW1]
   exact World.alloc_heap_new w.drew _
  have hown:W1.ownsRow w.heap.size 28 1 (.slice (some ⟨w.heap.size,0,none⟩) 0 cap) 0 []:=by
   refine⟨rfl,.inr ⟨w.heap.size,cap,_,rfl,Nat.le_refl _,hn1,Nat.zero_le _,hle,?_,by simp⟩⟩
   rw[Array.size_append,size_zeroCells,size_zeroCells]
   show k*1+(cap-k)*1=cap*1
   omega
  have HOWN:=Lib.hid hown
  have HB1:=Lib.hid hb1
  have HRUN:=Lib.hid hrun
  clear hrun hcap hW1 hb1 hn1 hown hi0 hz0 hz1 hz2
  go_enter Tryz.func161,Tryz.ntmps161
  go_wp2_with (at_builtin;refine Lib.wpList_append_run _ rfl _ _ 29 3 rfl _ _ rfl rfl _ _ (HRUN.out _) ?_)
  go_ret
  exact⟨_,rfl,HOWN.out,HB1.out⟩
set_option maxRecDepth 100000 in
set_option maxHeartbeats 1000000 in
theorem concat_ll (u:Value) (cs:List (List Int)) (w:World) (h:ClsAt w u cs) (hl:cs.flatten.length≤1000000) (hcl:cs.length≤1000000):
  Calls Tryz.prog 122 #[u] w fun e w'=> ∃v,e= .returned v∧w'.ownsRow w.heap.size 28 1 v cs.flatten.length (cs.flatten.map (Value.int .i64))∧Below w.heap.size w w':=by
 obtain⟨A,c,rfl,hx⟩:=h
 have HX:=Lib.hid hx
 clear hx
 obtain⟨i0,hi0,hz0,hz1,hz2⟩:=info_parts cinfo_lit
 have I0:=Lib.hid hi0
 have I1:=Lib.hid hz0
 have I2:=Lib.hid hz1
 have I3:=Lib.hid hz2
 clear hi0 hz0 hz1 hz2
 go_enter Tryz.func122,Tryz.ntmps122
 go_wp2_with fail
 go_loop [3,11] (fun s i=> ∃(k z:Nat),k≤cs.length∧i= .int .i64 k∧s= .int .i64 z∧z≤1000000∧Hid (z=(cs.take k).flatten.length)) (fun _ i=>cs.length-(intOf i).toNat)
 case atStart=>exact⟨0,0,Nat.zero_le _,rfl,rfl,by omega,Lib.hid rfl⟩
 case round=>
  obtain⟨k,z,hk,rfl,rfl,hz,HZ⟩:=hrel
  by_cases hlt:k<cs.length
  ·obtain⟨xs,hxs⟩:=getElem_of hlt
   obtain⟨g,o,v,rfl,hg,d0,hv⟩:=HX.out k xs hxs
   obtain⟨Av,cv,rfl,_⟩:=hv
   have hft:=flat_take hxs
   have hfl:=flat_le cs (k+1)
   have hz2:z+xs.length≤1000000:=by
    have:=HZ.out
    rw[hft,List.length_append]at hfl
    omega
   have HZ2:=Lib.hid (show z+xs.length=(cs.take (k+1)).flatten.length from by rw[hft,List.length_append,←HZ.out])
   clear hxs hft hfl
   have q0:decide ((z:Int)+(xs.length:Int)<0)=false:=by simp;omega
   go_wp2
   go_round
   case rel=>exact⟨k+1,z+xs.length,by omega,by go_num,by go_num,hz2,HZ2⟩
   case measure=>simp[intOf];omega
  ·obtain rfl:k=cs.length:=by omega
   go_wp2_with fail
   refine(grow_ll z w hz).mono ?_
   rintro e w1 ⟨v1,rfl,hown1,hb1⟩
   have HO1:=Lib.hid hown1
   have HB1:=Lib.hid hb1
   clear hown1 hb1
   go_wp2_with fail
   go_loopw [6,27] (fun s i wr=> ∃(k:Nat) (v:Value),k≤cs.length∧i= .int .i64 k∧v=s∧Hid (Below w.heap.size w wr)∧Hid (wr.ownsRow w.heap.size 28 1 v (cs.take k).flatten.length ((cs.take k).flatten.map (Value.int .i64)))) (fun _ i _=>cs.length-(intOf i).toNat)
   case atStart=>exact⟨0,v1,Nat.zero_le _,rfl,rfl,HB1,HO1⟩
   case round=>
    obtain⟨k,v,hk,rfl,rfl,HB,HO⟩:=hrel
    by_cases hlt2:k<cs.length
    ·obtain⟨xs,hxs⟩:=getElem_of hlt2
     obtain⟨g,o,v2,rfl,hg,d0',hv⟩:=HX.out k xs hxs
     have d0:=(HB.out.cell (p:=⟨g,o+k,none⟩) hg).trans d0'
     have hsrc:=(hv.below HB.out).src
     obtain⟨Av,cv,rfl,_⟩:=hv
     have hft:=flat_take hxs
     have hfl:=flat_le cs (k+1)
     rw[hft,List.length_append]at hfl
     have HFT:=Lib.hid hft
     have HSRC:=Lib.hid hsrc
     clear hxs hft hsrc d0'
     go_wp2_with (at_builtin;refine wpList_append_any rfl _ _ 29 rfl w.heap.size 28 i0 (.int .i64 0) 1 8 Tryz.underlying29 I0.out I1.out I2.out I3.out rfl (by decide) _ (cs.take k).flatten.length _ rfl HO.out _ xs.length (xs.map (Value.int .i64)) rfl HSRC.out (by simp) (by simp[Value.oneCell']) (by unfold maxLen;omega) (by omega) HB.out.size ?_;intro v' w4 hown hgrow _;have HO4:=Lib.hid hown;have HB4:=Lib.hid (below_kept HB.out (Kept.grown hgrow) (fun j hj=>(own_lt HO.out j hj.symm).1) HB.out.size);clear hown hgrow)
     go_roundw
     case rel=>exact⟨k+1,v',by omega,by go_num,rfl,HB4,Lib.hid (by rw[HFT.out,List.length_append,List.map_append];exact HO4.out)⟩
     case measure=>simp[intOf];omega
    ·obtain rfl:k=cs.length:=by omega
     go_wp2_with fail
     go_ret
     have ho:=HO.out
     rw[List.take_length]at ho
     exact⟨_,rfl,ho,HB.out⟩
end Go.Proofs.YtajbmjpodeilpaaGreatDoor
namespace Go.Proofs.YtajbmjpodeilpaaGreatDoor
open Go.RowKit Go.Maps
theorem splitGo_mem: ∀(hs out:List Int) (gs:List (Int×List Int)),(∀x∈(splitGo out gs hs).1,x∈out∨x∈hs)∧(splitGo out gs hs).1.length≤out.length+hs.length
 | [],out,gs=>⟨fun x hx=>.inl hx,Nat.le_refl _⟩
 | h::r,out,gs=>by
  unfold splitGo
  split
  ·obtain⟨h1,h2⟩:=splitGo_mem r out (gs++ [(-h,[])])
   exact⟨fun x hx=>(h1 x hx).imp id (List.mem_cons_of_mem _),by rw[List.length_cons];omega⟩
  ·split
   ·rename_i g hg
    obtain⟨h1,h2⟩:=splitGo_mem r out (gs.dropLast++ [(g.1,g.2++ [h])])
    exact⟨fun x hx=>(h1 x hx).imp id (List.mem_cons_of_mem _),by rw[List.length_cons];omega⟩
   ·obtain⟨h1,h2⟩:=splitGo_mem r (out++ [h]) gs
    refine⟨fun x hx=>?_,by rw[List.length_append,List.length_singleton]at h2;rw[List.length_cons];omega⟩
    rcases h1 x hx with h3|h3
    ·rcases List.mem_append.1 h3 with h4|h4
     ·exact .inl h4
     ·rw[List.mem_singleton.1 h4]
      exact .inr List.mem_cons_self
    ·exact .inr (List.mem_cons_of_mem _ h3)
theorem splitL_mem {hs:List Int} {x:Int} (h:x∈(splitL hs).1):x∈hs:=((splitGo_mem hs [] []).1 x h).resolve_left fun h=>by cases h
theorem splitL_len (hs:List Int):(splitL hs).1.length≤hs.length:=by
 have:=(splitGo_mem hs [] []).2
 rw[List.length_nil]at this
 exact Nat.le_trans this (by omega)
set_option maxRecDepth 100000 in
set_option maxHeartbeats 4000000 in
theorem ck_add_dec {base:Nat} {O Oc:Nat→Prop} (b:Nat) (k:Ckr) (lv hv:Value) (dl:Bool) (id:Int) (c hs:List Int) (w:World) (h:CkAt base w b k) (hb: ∀p∈k.ents,clauseB p.2=true) (hc:IntsIn Oc w lv c) (hcb:clauseB c=true) (hh:IntsIn O w hv hs) (hok: ∀x∈hs,x≠0∧ -1073741824≤x∧x≤1073741824) (hl:hs.length≤65536)
  (hd:(ckFol k.ents c (splitL hs).1).2.2≠0∨(ckFol k.ents c (splitL hs).1).1=true):
  Calls Tryz.prog 40 #[.pointer (some ⟨b,0,none⟩),.agg #[.bool dl,.int .i64 id,lv,hv]] w fun e w'=>e= .returned (.tuple #[.int .u8 ((ckAdd k.ents c hs).1:Nat),.int .i64 (ckAdd k.ents c hs).2.1,.int .i64 ((ckAdd k.ents c hs).2.2:Nat)])∧Below w.heap.size w w':=by
 obtain⟨W,hW⟩: ∃W,w.alloc (.cells #[.bool dl,.int .i64 id,lv,hv] 34)=W:=⟨_,rfl⟩
 have hbW:Below w.heap.size w W:=by rw[←hW];exact mx_al _ _
 have hn:W.heap[w.heap.size]? =some (.cells #[.bool dl,.int .i64 id,lv,hv] 34 (0,0)):=by rw[←hW];exact World.alloc_heap_new _ _
 have b3:W.cell? ⟨w.heap.size,3,none⟩=some hv:=mx_cell (j:=3) hn
 have hlt:=heap_lt hn
 have B2:=Lib.hid (show W.cell? ⟨w.heap.size,2,none⟩=some lv from mx_cell (j:=2) hn)
 have HSP:=Lib.hid (rat_split hv hs W (hh.below hbW) hok (by omega))
 obtain⟨F,hF⟩: ∃F,ckFol k.ents c (splitL hs).1=F:=⟨_,rfl⟩
 have hA:ckAdd k.ents c hs=if F.2.2≠0 then(0,F.2)else if F.1=true then(1,0,0)else ratP k.ents c (splitL hs).1 (splitL hs).2:=by
  unfold ckAdd
  rw[hF]
 rw[hF]at hd
 obtain⟨R,hR⟩: ∃R,ckAdd k.ents c hs=R:=⟨_,rfl⟩
 rw[hR]at hA⊢
 have HA:=Lib.hid hA
 have HFO:=Lib.hid (fun(X:World) (u:Value) (hx:Below W.heap.size W X) (hu:IntsIn (fun _=>True) X u (splitL hs).1)=>ck_follows b k lv u c (splitL hs).1 X ((h.below hbW).below hx) hb ((hc.below hbW).below hx) hcb hu (fun x hx=>by
  obtain⟨_,h1,h2⟩:=hok x (splitL_mem hx)
  exact wf64 (by omega) (by omega)) (Nat.le_trans (splitL_len hs) hl))
 rw[hF]at HFO
 have HB:=Lib.hid hbW
 obtain⟨S1,hS1⟩: ∃S1,(splitL hs).1=S1:=⟨_,rfl⟩
 rw[hS1]at HSP HFO
 obtain⟨fb,fi,fe⟩:=F
 obtain⟨Al,cl,rfl,_⟩:=hc
 obtain⟨Ah,ch,rfl,_⟩:=hh
 clear hbW hn hA hF hR hS1 h hb hok
 go_enter Tryz.func40,Tryz.ntmps40
 go_wp2_with fail
 refine HSP.out.mono ?_
 rintro e w1 ⟨u,v,K,rfl,hu,-,-,hb1⟩
 obtain⟨Au,cu,rfl,_⟩:=mx_slice hu
 have HU:=Lib.hid ((IntsIn.of_own hu).mono (O':=fun _=>True) fun _ _=>trivial)
 have HB1:=Lib.hid hb1
 have b2:=(HB1.out.cell (p:=⟨w.heap.size,2,none⟩) hlt).trans B2.out
 clear hu hb1 b3 HSP
 go_wp2_with fail
 refine(HFO.out w1 _ HB1.out HU.out).mono ?_
 rintro e w2 ⟨rfl,hb2⟩
 have HB2:=Lib.hid (HB.out.trans ((HB1.out.trans (hb2.mono HB1.out.size)).mono HB.out.size))
 clear hb2 b2 HFO
 by_cases h0:fe=0
 ·subst h0
  obtain rfl:fb=true:=hd.resolve_left (fun h=>h rfl)
  have HR:=Lib.hid (HA.out.trans ((if_neg (fun h=>h rfl)).trans (if_pos rfl)))
  clear HA hd
  go_wp2_with fail
  refine bodyPost_ret (v:=.tuple #[.int .u8 1,.int .i64 0,.int .i64 0]) (by simp[results,Tryz.results40,go_sem]) rfl ?_
  rw[HR.out]
  exact⟨rfl,HB2.out⟩
 ·have q0:((fe:Int)==0)=false:=beq_eq_false_iff_ne.2 (by omega)
  have q1:((fe:Int) != 0)=true:=by rw[bne,q0];rfl
  have HR:=Lib.hid (HA.out.trans (if_pos h0))
  clear HA hd
  go_wp2_with fail
  refine bodyPost_ret (v:=.tuple #[.int .u8 0,.int .i64 fi,.int .i64 (fe:Int)]) (by simp[results,Tryz.results40,go_sem]) rfl ?_
  rw[HR.out]
  exact⟨rfl,HB2.out⟩
end Go.Proofs.YtajbmjpodeilpaaGreatDoor
