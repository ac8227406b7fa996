/- Plain: the hints that are left of trimmed ones lead to the conflict too, all of them are needed, and fewer do not. Plain: what is assigned while a step of RAT is checked has values. package proof: add, where unit propagation decides. -/
import Derived.Test.YtkfgplfllddhnaaGreatV411
import Derived.Test.YtkfgplfllddhnaaGreatV416
import Derived.Test.YtkfgplfllddhnaaGreatV417
import Derived.Test.YtkfgplfllddhnaaGreatV420
namespace Go.Proofs.YtkfgplfllddhnaaGreat
open Go.RowKit
theorem alwL_not {c:List Int} (hc:clauseB c=true) (h:alwL c=false): ∀y∈c,-y∉c:=fun y hy hn=>by
 have hr: ∀x∈c,litB x=true:=fun x hx=>clauseB_lit hc hx
 unfold alwL at h
 rw[hc,Bool.true_and]at h
 have key:=alw_pair (xs:=normL c) (fun x hx=>hr x ((normL_has hr).1 hx)) (normL_pair hr) h
 have hy0:=litB_ne (hr y hy)
 rcases Int.lt_or_gt_of_ne hy0 with e|e
 ·exact key (-y) ((normL_has hr).2 hn) (by omega) y ((normL_has hr).2 hy) (by omega)
 ·exact key y ((normL_has hr).2 hy) e (-y) ((normL_has hr).2 hn) rfl
structure Chs (L:List Int) (ds:List (List Int)) (us:List Int):Prop where
 len:ds.length=us.length
 at_: ∀(j:Nat) (u:Int) (d:List Int),us[j]? =some u→ds[j]? =some d→u∈d∧litB u=true∧u∉L∧ -u∉L∧∀y∈d,y≠u→y∈L∨∃i,i<j∧us[i]? =some (-y)
 inj: ∀(i j:Nat) (u v:Int),i<j→us[i]? =some u→us[j]? =some v→litV u≠litV v
theorem Chs.nil (L:List Int):Chs L [] []:=⟨rfl,fun j u d h=>by simp at h,fun i j u v _ h=>by simp at h⟩
section
variable {L us:List Int} {ds:List (List Int)}
end
structure Chc (L:List Int) (ds:List (List Int)) (us:List Int) (c:List Int):Prop where
 chs:Chs L ds us
 con: ∀y∈c,y∈L∨ -y∈us
section
variable {L us c:List Int} {ds hs:List (List Int)}
end
theorem needM_or {z:Int}: ∀(xs:List Int) (f:Int→Int),needM f xs z≠0↔f z≠0∨∃l∈xs,z=litN l:=by
 intro xs
 induction xs with
 | nil=>exact fun f=>⟨.inl,fun h=>h.elim id (fun⟨l,hl,_⟩=>by cases hl)⟩
 | cons x r ih=>
  intro f
  have:=ih (fun z=>if z=litN x then 1 else f z)
  refine this.trans ?_
  simp only[List.mem_cons]
  constructor
  ·rintro (h|⟨l,h1,h2⟩)
   ·by_cases e:z=litN x
    ·exact .inr ⟨x,.inl rfl,e⟩
    ·rw[if_neg e]at h
     exact .inl h
   ·exact .inr ⟨l,.inr h1,h2⟩
  ·rintro (h|⟨l,h1|h1,h2⟩)
   ·left
    split
    ·decide
    ·exact h
   ·left
    rw[h1]at h2
    rw[if_pos h2]
    decide
   ·exact .inr ⟨l,h1,h2⟩
theorem needGo_spec {hs:List (List Int)} {us:List Int}: ∀(k:Nat) (f:Int→Int) (out:List Int),∃T:List Nat,needGo hs us k f out=out++T.map Int.ofNat∧T.Pairwise (fun a b=>b<a)∧(∀j∈T,j<k)∧
  ∀j,j<k→(j∈T↔(us.length≤j∨f (us.getD j 0)≠0∨∃i∈T,j<i∧∃l∈hs.getD i [],us.getD j 0=litN l)):=by
 intro k
 induction k with
 | zero=>exact fun f out=>⟨[],(List.append_nil _).symm,List.Pairwise.nil,(fun j hj=>by cases hj),fun j hj=>by omega⟩
 | succ k ih=>
  intro f out
  by_cases hk:k<us.length∧f (us.getD k 0)=0
  ·obtain⟨T,h1,h2,h3,h4⟩:=ih f out
   refine⟨T,by unfold needGo;rw[if_pos hk,h1],h2,fun j hj=>by have:=h3 j hj;omega,fun j hj=>?_⟩
   by_cases e:j=k
   ·subst e
    constructor
    ·intro h
     have:=h3 j h
     omega
    ·rintro (h|h|⟨i,h,h5,_⟩)
     ·omega
     ·exact absurd hk.2 h
     ·have:=h3 i h
      omega
   ·exact h4 j (by omega)
  ·obtain⟨T,h1,h2,h3,h4⟩:=ih (needM f (hs.getD k [])) (out++ [(k:Int)])
   refine⟨k::T,?_,List.pairwise_cons.2 ⟨h3,h2⟩,fun j hj=>?_,fun j hj=>?_⟩
   ·unfold needGo
    rw[if_neg hk,h1,List.append_assoc]
    rfl
   ·rcases List.mem_cons.1 hj with e|hj
    ·omega
    ·have:=h3 j hj
     omega
   ·by_cases e:j=k
    ·subst e
     refine⟨fun _=>?_,fun _=>List.mem_cons_self⟩
     rcases Nat.lt_or_ge j us.length with hl|hl
     ·exact .inr (.inl fun h0=>hk ⟨hl,h0⟩)
     ·exact .inl hl
    ·have hjk:j<k:=by omega
     have h5:=h4 j hjk
     rw[List.mem_cons]
     constructor
     ·rintro (h|h)
      ·omega
      ·rcases h5.1 h with h6|h6|⟨i,h6,h7,h8⟩
       ·exact .inl h6
       ·rcases (needM_or _ _).1 h6 with h7|⟨l,h7,h8⟩
        ·exact .inr (.inl h7)
        ·exact .inr (.inr ⟨k,List.mem_cons_self,hjk,l,h7,h8⟩)
       ·exact .inr (.inr ⟨i,List.mem_cons_of_mem _ h6,h7,h8⟩)
     ·intro h
      refine .inr (h5.2 ?_)
      rcases h with h6|h6|⟨i,h6,h7,l,h8,h9⟩
      ·exact .inl h6
      ·exact .inr (.inl ((needM_or _ _).2 (.inl h6)))
      ·rcases List.mem_cons.1 h6 with e2|h6
       ·subst e2
        exact .inr (.inl ((needM_or _ _).2 (.inr ⟨l,h8,h9⟩)))
       ·exact .inr (.inr ⟨i,h6,h7,l,h8,h9⟩)
theorem needL_spec (hs:List (List Int)) (us:List Int): ∃T:List Nat,needL hs us=T.map Int.ofNat∧T.Pairwise (fun a b=>a<b)∧(∀j∈T,j<hs.length)∧
  ∀j,j<hs.length→(j∈T↔(us.length≤j∨∃i∈T,j<i∧∃l∈hs.getD i [],us.getD j 0=litN l)):=by
 obtain⟨T,h1,h2,h3,h4⟩:=needGo_spec (hs:=hs) (us:=us) hs.length (fun _=>0) []
 refine⟨T.reverse,?_,List.pairwise_reverse.2 h2,fun j hj=>h3 j (List.mem_reverse.1 hj),fun j hj=>?_⟩
 ·unfold needL
  rw[h1,List.nil_append,List.map_reverse]
 ·rw[List.mem_reverse,h4 j hj]
  simp only[List.mem_reverse,ne_eq,not_true_eq_false,false_or]
section
variable {L us d:List Int} {ds:List (List Int)}
end
structure TrimO (L:List Int) (hs:List (List Int)) (T:List Nat):Prop where
 eq:trimP L hs=T.map Int.ofNat
 lt: ∀j∈T,j<hs.length
 asc:T.Pairwise (fun a b=>a<b)
 ok:(chkP L (T.map fun j=>hs.getD j [])).2.2=0
 again:trimP L (T.map fun j=>hs.getD j [])=(List.range T.length).map Int.ofNat
 few: ∀k,k<T.length→(chkP L ((T.map fun j=>hs.getD j []).take k)).2.2=82
end Go.Proofs.YtkfgplfllddhnaaGreat
namespace Go.Proofs.YtkfgplfllddhnaaGreat
open Go.RowKit
theorem asg_from: ∀(xs:List Int) (f g:Int→Int),asgGo f xs=some g→∀y,litB y=true→ofF g y<0→ofF f y<0∨ -y∈xs:=by
 intro xs
 induction xs with
 | nil=>
  intro f g h y _ hn
  obtain rfl:=Option.some.inj h
  exact .inl hn
 | cons x r ih=>
  intro f g h y hy hn
  unfold asgGo at h
  split at h
  ·rename_i hc
   rcases ih _ g h y hy hn with h1|h1
   ·by_cases e:litV y=litV x
    ·rcases litV_two hc.1 e.symm with e|e
     ·rw[e,k_put_self]at h1
      omega
     ·right
      rw[e,Int.neg_neg]
      exact List.mem_cons_self
    ·rw[k_put_ne f e]at h1
     exact .inl h1
   ·exact .inr (List.mem_cons_of_mem _ h1)
  ·cases h
theorem asgF_neg {xs:List Int} {g:Int→Int} (h:asgF xs=some g) {y:Int} (hy:litB y=true) (hn:ofF g y<0): -y∈xs:=(asg_from xs _ g h y hy hn).resolve_left fun h0=>by
 unfold ofF at h0
 simp only at h0
 split at h0 <;> omega
theorem asgF_one {xs:List Int} {f:Int→Int} {x:Int} (h:asgF xs=some f) (hx:litB x=true) (h0:0≤ofF f x):asgF (xs++ [x])=some (putF f x):=by
 unfold asgF at h⊢
 rw[asgGo_snoc,h]
 exact if_pos ⟨hx,h0⟩
theorem asgF_more: ∀(ms xs:List Int) (f:Int→Int),asgF xs=some f→(∀m∈ms,litB m=true)→(∀m∈ms,-m∉xs∧ -m∉ms)→∃g,asgF (xs++ms)=some g:=by
 intro ms
 induction ms with
 | nil=>exact fun xs f h _ _=>⟨f,by rw[List.append_nil];exact h⟩
 | cons m r ih=>
  intro xs f h hb hn
  obtain⟨h1,h2⟩:=hn m List.mem_cons_self
  have hb1:=hb m List.mem_cons_self
  have h0:0≤ofF f m:=by
   refine Classical.byContradiction fun hc=>h1 ?_
   exact asgF_neg h hb1 (by omega)
  obtain⟨g,hg⟩:=ih (xs++ [m]) _ (asgF_one h hb1 h0) (fun x hx=>hb x (List.mem_cons_of_mem _ hx)) (fun x hx=>by
   obtain⟨a,b⟩:=hn x (List.mem_cons_of_mem _ hx)
   refine⟨fun hm=>?_,fun hm=>b (List.mem_cons_of_mem _ hm)⟩
   rcases List.mem_append.1 hm with hm|hm
   ·exact a hm
   ·exact b (List.mem_cons.2 (.inl (List.mem_singleton.1 hm))))
  exact⟨g,by rw[List.append_assoc]at hg;exact hg⟩
section
variable {es:Ents}
theorem ratFol_asg (hb: ∀x∈es,clauseB x.2=true): ∀(hs asg:List Int) (f:Int→Int),asgF asg=some f→(ratFol es asg hs).2.2.2=0→(∃g,asgF (ratFol es asg hs).1=some g)∧(ratFol es asg hs).1.length≤asg.length+hs.length:=by
 intro hs
 induction hs with
 | nil=>exact fun asg f h _=>⟨⟨f,h⟩,Nat.le_refl _⟩
 | cons id r ih=>
  intro asg f h he
  unfold ratFol at he⊢
  cases hg:getA es id with
  | none=>rw[hg]at he;cases he
  | some c=>
   rw[hg]at he
   simp only at he⊢
   rw[h]at he⊢
   simp only at he⊢
   split
   ·exact⟨⟨f,h⟩,by show asg.length≤_;omega⟩
   ·rename_i h2
    rw[if_neg h2]at he
    split
    ·rename_i h3
     rw[if_pos h3]at he
     have hcb:=hb _ (getA_some hg)
     obtain⟨a1,a2,_⟩:=luk_unit c (fun y hy=>litB_ne (clauseB_lit hcb hy)) h3
     obtain⟨b1,b2⟩:=ih (asg++ [(lookF f c).2]) _ (asgF_snoc h (clauseB_lit hcb a1) a2) he
     refine⟨b1,Nat.le_trans b2 ?_⟩
     rw[List.length_append,List.length_singleton,List.length_cons]
     omega
    ·rename_i h3
     rw[if_neg h3]at he
     cases he
theorem rest_asg {p:Int} {asg c:List Int} {f:Int→Int} (hf:asgF asg=some f) (hc:clauseB c=true) (hal:alwL c=false) (hr:(restGo p asg [] c).2=true): ∃g,asgF (asg++(restGo p asg [] c).1)=some g:=by
 have e:=restGo_out p asg c [] hr
 rw[List.nil_append]at e
 have hno:=alwL_not hc hal
 have hin: ∀l∈c,l≠litN p→l∉asg:=by
  have key: ∀(c out:List Int),(restGo p asg out c).2=true→∀l∈c,l≠litN p→l∉asg:=by
   intro c
   induction c with
   | nil=>exact fun _ _ l hl=>by cases hl
   | cons x r ih=>
    intro out h l hl hne
    unfold restGo at h
    split at h
    ·rename_i hx
     rcases List.mem_cons.1 hl with h1|h1
     ·exact absurd (h1.trans hx) hne
     ·exact ih _ h l h1 hne
    ·split at h
     ·cases h
     ·rename_i hx
      rcases List.mem_cons.1 hl with h1|h1
      ·rw[h1]
       exact fun hm=>hx (List.contains_iff_mem.2 hm)
      ·exact ih _ h l h1 hne
  exact key c [] hr
 rw[e]
 refine asgF_more _ _ f hf (fun m hm=>?_) (fun m hm=>?_)
 ·obtain⟨l,hl,rfl⟩:=List.mem_map.1 hm
  have hlb:=clauseB_lit hc ((List.mem_filter.1 hl).1)
  rw[litN_eq hlb,litB_minus]
  exact hlb
 ·obtain⟨l,hl,rfl⟩:=List.mem_map.1 hm
  obtain⟨hl1,hl2⟩:=List.mem_filter.1 hl
  have hlb:=clauseB_lit hc hl1
  rw[litN_eq hlb,Int.neg_neg]
  refine⟨hin l hl1 (of_decide_eq_true hl2),fun hm2=>?_⟩
  obtain⟨l',hl',e'⟩:=List.mem_map.1 hm2
  have hl'1:=(List.mem_filter.1 hl').1
  rw[litN_eq (clauseB_lit hc hl'1)]at e'
  refine hno l' hl'1 ?_
  rw[e']
  exact hl1
theorem rest_len {p:Int} {asg:List Int}: ∀(c out:List Int),(restGo p asg out c).1.length≤out.length+c.length:=by
 intro c
 induction c with
 | nil=>exact fun out=>Nat.le_refl _
 | cons x r ih=>
  intro out
  unfold restGo
  rw[List.length_cons]
  split
  ·have:=ih out
   omega
  ·split
   ·exact Nat.zero_le _
   ·have:=ih (out++ [litN x])
    rw[List.length_append,List.length_singleton]at this
    omega
theorem grp_cand (hr:Rising es) {p:Int} {gs:List (Int×List Int)} (h:(ratGrp es p gs).2=0): ∀g∈gs,∃c,getA es g.1=some c∧candB p c=true:=fun g hg=>by
 unfold ratGrp at h
 split at h
 ·cases h
 ·have hm:=ratIds_mem _ _ h g.1 (List.mem_map.2 ⟨g,hg,rfl⟩)
  unfold ratWant at hm
  obtain⟨x,hx,e⟩:=List.mem_map.1 hm
  obtain⟨hx1,hx2⟩:=List.mem_filter.1 hx
  exact⟨x.2,getA_of hr (by rw[←e];exact hx1),hx2⟩
end
theorem asm_len (c:List Int):(asmL c).length≤c.length:=by
 unfold asmL
 rw[sortL_length,List.length_map]
 exact normL_len c
end Go.Proofs.YtkfgplfllddhnaaGreat
namespace Go.Proofs.YtkfgplfllddhnaaGreat
open Go.RowKit Go.Maps
theorem splitGo_mem: ∀(hs out:List Int) (gs:List (Int×List Int)),(∀x∈(splitGo out gs hs).1,x∈out∨x∈hs)∧(splitGo out gs hs).1.length≤out.length+hs.length
 | [],out,gs=>⟨fun x hx=>.inl hx,Nat.le_refl _⟩
 | h::r,out,gs=>by
  unfold splitGo
  split
  ·obtain⟨h1,h2⟩:=splitGo_mem r out (gs++ [(-h,[])])
   exact⟨fun x hx=>(h1 x hx).imp id (List.mem_cons_of_mem _),by rw[List.length_cons];omega⟩
  ·split
   ·rename_i g hg
    obtain⟨h1,h2⟩:=splitGo_mem r out (gs.dropLast++ [(g.1,g.2++ [h])])
    exact⟨fun x hx=>(h1 x hx).imp id (List.mem_cons_of_mem _),by rw[List.length_cons];omega⟩
   ·obtain⟨h1,h2⟩:=splitGo_mem r (out++ [h]) gs
    refine⟨fun x hx=>?_,by rw[List.length_append,List.length_singleton]at h2;rw[List.length_cons];omega⟩
    rcases h1 x hx with h3|h3
    ·rcases List.mem_append.1 h3 with h4|h4
     ·exact .inl h4
     ·rw[List.mem_singleton.1 h4]
      exact .inr List.mem_cons_self
    ·exact .inr (List.mem_cons_of_mem _ h3)
theorem splitL_mem {hs:List Int} {x:Int} (h:x∈(splitL hs).1):x∈hs:=((splitGo_mem hs [] []).1 x h).resolve_left fun h=>by cases h
theorem splitL_len (hs:List Int):(splitL hs).1.length≤hs.length:=by
 have:=(splitGo_mem hs [] []).2
 rw[List.length_nil]at this
 exact Nat.le_trans this (by omega)
set_option maxRecDepth 100000 in
set_option maxHeartbeats 4000000 in
theorem ck_add_dec {base:Nat} {O Oc:Nat→Prop} (b:Nat) (k:Ckr) (lv hv:Value) (dl:Bool) (id:Int) (c hs:List Int) (w:World) (h:CkAt base w b k) (hb: ∀p∈k.ents,clauseB p.2=true) (hc:IntsIn Oc w lv c) (hcb:clauseB c=true) (hh:IntsIn O w hv hs) (hok: ∀x∈hs,x≠0∧ -1073741824≤x∧x≤1073741824) (hl:hs.length≤65536)
  (hd:(ckFol k.ents c (splitL hs).1).2.2≠0∨(ckFol k.ents c (splitL hs).1).1=true):
  Calls Tryz.prog 43 #[.pointer (some ⟨b,0,none⟩),.agg #[.bool dl,.int .i64 id,lv,hv]] w fun e w'=>e= .returned (.tuple #[.int .u8 ((ckAdd k.ents c hs).1:Nat),.int .i64 (ckAdd k.ents c hs).2.1,.int .i64 ((ckAdd k.ents c hs).2.2:Nat)])∧Below w.heap.size w w':=by
 obtain⟨W,hW⟩: ∃W,w.alloc (.cells #[.bool dl,.int .i64 id,lv,hv] 39)=W:=⟨_,rfl⟩
 have hbW:Below w.heap.size w W:=by rw[←hW];exact mx_al _ _
 have hn:W.heap[w.heap.size]? =some (.cells #[.bool dl,.int .i64 id,lv,hv] 39 (0,0)):=by rw[←hW];exact World.alloc_heap_new _ _
 have b3:W.cell? ⟨w.heap.size,3,none⟩=some hv:=mx_cell (j:=3) hn
 have hlt:=heap_lt hn
 have B2:=Lib.hid (show W.cell? ⟨w.heap.size,2,none⟩=some lv from mx_cell (j:=2) hn)
 have HSP:=Lib.hid (rat_split hv hs W (hh.below hbW) hok (by omega))
 obtain⟨F,hF⟩: ∃F,ckFol k.ents c (splitL hs).1=F:=⟨_,rfl⟩
 have hA:ckAdd k.ents c hs=if F.2.2≠0 then(0,F.2)else if F.1=true then(1,0,0)else ratP k.ents c (splitL hs).1 (splitL hs).2:=by
  unfold ckAdd
  rw[hF]
 rw[hF]at hd
 obtain⟨R,hR⟩: ∃R,ckAdd k.ents c hs=R:=⟨_,rfl⟩
 rw[hR]at hA⊢
 have HA:=Lib.hid hA
 have HFO:=Lib.hid (fun(X:World) (u:Value) (hx:Below W.heap.size W X) (hu:IntsIn (fun _=>True) X u (splitL hs).1)=>ck_follows b k lv u c (splitL hs).1 X ((h.below hbW).below hx) hb ((hc.below hbW).below hx) hcb hu (fun x hx=>by
  obtain⟨_,h1,h2⟩:=hok x (splitL_mem hx)
  exact wf64 (by omega) (by omega)) (Nat.le_trans (splitL_len hs) hl))
 rw[hF]at HFO
 have HB:=Lib.hid hbW
 obtain⟨S1,hS1⟩: ∃S1,(splitL hs).1=S1:=⟨_,rfl⟩
 rw[hS1]at HSP HFO
 obtain⟨fb,fi,fe⟩:=F
 obtain⟨Al,cl,rfl,_⟩:=hc
 obtain⟨Ah,ch,rfl,_⟩:=hh
 clear hbW hn hA hF hR hS1 h hb hok
 go_enter Tryz.func43,Tryz.ntmps43
 go_wp2_with fail
 refine HSP.out.mono ?_
 rintro e w1 ⟨u,v,K,rfl,hu,-,-,hb1⟩
 obtain⟨Au,cu,rfl,_⟩:=mx_slice hu
 have HU:=Lib.hid ((IntsIn.of_own hu).mono (O':=fun _=>True) fun _ _=>trivial)
 have HB1:=Lib.hid hb1
 have b2:=(HB1.out.cell (p:=⟨w.heap.size,2,none⟩) hlt).trans B2.out
 clear hu hb1 b3 HSP
 go_wp2_with fail
 refine(HFO.out w1 _ HB1.out HU.out).mono ?_
 rintro e w2 ⟨rfl,hb2⟩
 have HB2:=Lib.hid (HB.out.trans ((HB1.out.trans (hb2.mono HB1.out.size)).mono HB.out.size))
 clear hb2 b2 HFO
 by_cases h0:fe=0
 ·subst h0
  obtain rfl:fb=true:=hd.resolve_left (fun h=>h rfl)
  have HR:=Lib.hid (HA.out.trans ((if_neg (fun h=>h rfl)).trans (if_pos rfl)))
  clear HA hd
  go_wp2_with fail
  refine bodyPost_ret (v:=.tuple #[.int .u8 1,.int .i64 0,.int .i64 0]) (by simp[results,Tryz.results43,go_sem]) rfl ?_
  rw[HR.out]
  exact⟨rfl,HB2.out⟩
 ·have q0:((fe:Int)==0)=false:=beq_eq_false_iff_ne.2 (by omega)
  have q1:((fe:Int) != 0)=true:=by rw[bne,q0];rfl
  have HR:=Lib.hid (HA.out.trans (if_pos h0))
  clear HA hd
  go_wp2_with fail
  refine bodyPost_ret (v:=.tuple #[.int .u8 0,.int .i64 fi,.int .i64 (fe:Int)]) (by simp[results,Tryz.results43,go_sem]) rfl ?_
  rw[HR.out]
  exact⟨rfl,HB2.out⟩
end Go.Proofs.YtkfgplfllddhnaaGreat
