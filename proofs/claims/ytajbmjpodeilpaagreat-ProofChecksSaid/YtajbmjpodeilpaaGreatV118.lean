/- Plain: what is assigned while a step of RAT is checked has values. Grow, Concat (package slices), at clauses and at literals. package proof: add, where unit propagation decides. package rat: Check, at right entries and a right clause. -/
import Derived.Test.YtajbmjpodeilpaaGreatV117
import Derived.Test.YtajbmjpodeilpaaGreatV109
import Derived.Test.YtajbmjpodeilpaaGreatV101
import Derived.Lib.AppendZeros
import Derived.Test.YtajbmjpodeilpaaGreatV116
namespace Go.Proofs.YtajbmjpodeilpaaGreat
open Go.RowKit
theorem asg_from: ∀(xs:List Int) (f g:Int→Int),asgGo f xs=some g→∀y,litB y=true→ofF g y<0→ofF f y<0∨ -y∈xs:=by
 intro xs
 induction xs with
 | nil=>
  intro f g h y _ hn
  obtain rfl:=Option.some.inj h
  exact .inl hn
 | cons x r ih=>
  intro f g h y hy hn
  unfold asgGo at h
  split at h
  ·rename_i hc
   rcases ih _ g h y hy hn with h1|h1
   ·by_cases e:litV y=litV x
    ·rcases litV_two hc.1 e.symm with e|e
     ·rw[e,k_put_self]at h1
      omega
     ·right
      rw[e,Int.neg_neg]
      exact List.mem_cons_self
    ·rw[k_put_ne f e]at h1
     exact .inl h1
   ·exact .inr (List.mem_cons_of_mem _ h1)
  ·cases h
theorem asgF_neg {xs:List Int} {g:Int→Int} (h:asgF xs=some g) {y:Int} (hy:litB y=true) (hn:ofF g y<0): -y∈xs:=(asg_from xs _ g h y hy hn).resolve_left fun h0=>by
 unfold ofF at h0
 simp only at h0
 split at h0 <;> omega
theorem asgF_one {xs:List Int} {f:Int→Int} {x:Int} (h:asgF xs=some f) (hx:litB x=true) (h0:0≤ofF f x):asgF (xs++ [x])=some (putF f x):=by
 unfold asgF at h⊢
 rw[asgGo_snoc,h]
 exact if_pos ⟨hx,h0⟩
theorem asgF_more: ∀(ms xs:List Int) (f:Int→Int),asgF xs=some f→(∀m∈ms,litB m=true)→(∀m∈ms,-m∉xs∧ -m∉ms)→∃g,asgF (xs++ms)=some g:=by
 intro ms
 induction ms with
 | nil=>exact fun xs f h _ _=>⟨f,by rw[List.append_nil];exact h⟩
 | cons m r ih=>
  intro xs f h hb hn
  obtain⟨h1,h2⟩:=hn m List.mem_cons_self
  have hb1:=hb m List.mem_cons_self
  have h0:0≤ofF f m:=by
   refine Classical.byContradiction fun hc=>h1 ?_
   exact asgF_neg h hb1 (by omega)
  obtain⟨g,hg⟩:=ih (xs++ [m]) _ (asgF_one h hb1 h0) (fun x hx=>hb x (List.mem_cons_of_mem _ hx)) (fun x hx=>by
   obtain⟨a,b⟩:=hn x (List.mem_cons_of_mem _ hx)
   refine⟨fun hm=>?_,fun hm=>b (List.mem_cons_of_mem _ hm)⟩
   rcases List.mem_append.1 hm with hm|hm
   ·exact a hm
   ·exact b (List.mem_cons.2 (.inl (List.mem_singleton.1 hm))))
  exact⟨g,by rw[List.append_assoc]at hg;exact hg⟩
section
variable {es:Ents}
theorem ratFol_asg (hb: ∀x∈es,clauseB x.2=true): ∀(hs asg:List Int) (f:Int→Int),asgF asg=some f→(ratFol es asg hs).2.2.2=0→(∃g,asgF (ratFol es asg hs).1=some g)∧(ratFol es asg hs).1.length≤asg.length+hs.length:=by
 intro hs
 induction hs with
 | nil=>exact fun asg f h _=>⟨⟨f,h⟩,Nat.le_refl _⟩
 | cons id r ih=>
  intro asg f h he
  unfold ratFol at he⊢
  cases hg:getA es id with
  | none=>rw[hg]at he;cases he
  | some c=>
   rw[hg]at he
   simp only at he⊢
   rw[h]at he⊢
   simp only at he⊢
   split
   ·exact⟨⟨f,h⟩,by show asg.length≤_;omega⟩
   ·rename_i h2
    rw[if_neg h2]at he
    split
    ·rename_i h3
     rw[if_pos h3]at he
     have hcb:=hb _ (getA_some hg)
     obtain⟨a1,a2,_⟩:=luk_unit c (fun y hy=>litB_ne (clauseB_lit hcb hy)) h3
     obtain⟨b1,b2⟩:=ih (asg++ [(lookF f c).2]) _ (asgF_snoc h (clauseB_lit hcb a1) a2) he
     refine⟨b1,Nat.le_trans b2 ?_⟩
     rw[List.length_append,List.length_singleton,List.length_cons]
     omega
    ·rename_i h3
     rw[if_neg h3]at he
     cases he
theorem rest_asg {p:Int} {asg c:List Int} {f:Int→Int} (hf:asgF asg=some f) (hc:clauseB c=true) (hal:alwL c=false) (hr:(restGo p asg [] c).2=true): ∃g,asgF (asg++(restGo p asg [] c).1)=some g:=by
 have e:=restGo_out p asg c [] hr
 rw[List.nil_append]at e
 have hno:=alwL_not hc hal
 have hin: ∀l∈c,l≠litN p→l∉asg:=by
  have key: ∀(c out:List Int),(restGo p asg out c).2=true→∀l∈c,l≠litN p→l∉asg:=by
   intro c
   induction c with
   | nil=>exact fun _ _ l hl=>by cases hl
   | cons x r ih=>
    intro out h l hl hne
    unfold restGo at h
    split at h
    ·rename_i hx
     rcases List.mem_cons.1 hl with h1|h1
     ·exact absurd (h1.trans hx) hne
     ·exact ih _ h l h1 hne
    ·split at h
     ·cases h
     ·rename_i hx
      rcases List.mem_cons.1 hl with h1|h1
      ·rw[h1]
       exact fun hm=>hx (List.contains_iff_mem.2 hm)
      ·exact ih _ h l h1 hne
  exact key c [] hr
 rw[e]
 refine asgF_more _ _ f hf (fun m hm=>?_) (fun m hm=>?_)
 ·obtain⟨l,hl,rfl⟩:=List.mem_map.1 hm
  have hlb:=clauseB_lit hc ((List.mem_filter.1 hl).1)
  rw[litN_eq hlb,litB_minus]
  exact hlb
 ·obtain⟨l,hl,rfl⟩:=List.mem_map.1 hm
  obtain⟨hl1,hl2⟩:=List.mem_filter.1 hl
  have hlb:=clauseB_lit hc hl1
  rw[litN_eq hlb,Int.neg_neg]
  refine⟨hin l hl1 (of_decide_eq_true hl2),fun hm2=>?_⟩
  obtain⟨l',hl',e'⟩:=List.mem_map.1 hm2
  have hl'1:=(List.mem_filter.1 hl').1
  rw[litN_eq (clauseB_lit hc hl'1)]at e'
  refine hno l' hl'1 ?_
  rw[e']
  exact hl1
theorem rest_len {p:Int} {asg:List Int}: ∀(c out:List Int),(restGo p asg out c).1.length≤out.length+c.length:=by
 intro c
 induction c with
 | nil=>exact fun out=>Nat.le_refl _
 | cons x r ih=>
  intro out
  unfold restGo
  rw[List.length_cons]
  split
  ·have:=ih out
   omega
  ·split
   ·exact Nat.zero_le _
   ·have:=ih (out++ [litN x])
    rw[List.length_append,List.length_singleton]at this
    omega
theorem grp_cand (hr:Rising es) {p:Int} {gs:List (Int×List Int)} (h:(ratGrp es p gs).2=0): ∀g∈gs,∃c,getA es g.1=some c∧candB p c=true:=fun g hg=>by
 unfold ratGrp at h
 split at h
 ·cases h
 ·have hm:=ratIds_mem _ _ h g.1 (List.mem_map.2 ⟨g,hg,rfl⟩)
  unfold ratWant at hm
  obtain⟨x,hx,e⟩:=List.mem_map.1 hm
  obtain⟨hx1,hx2⟩:=List.mem_filter.1 hx
  exact⟨x.2,getA_of hr (by rw[←e];exact hx1),hx2⟩
end
theorem asm_len (c:List Int):(asmL c).length≤c.length:=by
 unfold asmL
 rw[sortL_length,List.length_map]
 exact normL_len c
end Go.Proofs.YtajbmjpodeilpaaGreat
namespace Go.Proofs.YtajbmjpodeilpaaGreat
open Go.RowKit
theorem flat_take {l:List (List Int)} {k:Nat} {c:List Int} (h:l[k]? =some c):(l.take (k+1)).flatten=(l.take k).flatten++c:=by
 rw[List.take_add_one,h]
 simp
theorem flat_le (l:List (List Int)) (k:Nat):(l.take k).flatten.length≤l.flatten.length:=by
 have:l.flatten.length=(l.take k).flatten.length+(l.drop k).flatten.length:=by
  rw[←List.length_append,←List.flatten_append,List.take_append_drop]
 omega
set_option maxRecDepth 100000 in
theorem grow_ll (k:Nat) (w:World) (hk:k≤1000000):
  Calls Tryz.prog 149 #[.slice none 0 0,.int .i64 (k:Int)] w fun e w'=> ∃v,e= .returned v∧w'.ownsRow w.heap.size 55 1 v 0 []∧Below w.heap.size w w':=by
 by_cases h0:k=0
 ·subst h0
  go_enter Tryz.func149,Tryz.ntmps149
  go_wp2_with fail
  go_ret
  exact⟨_,rfl,World.ownsRow_nil _ _ _ _,Below.refl _ _⟩
 ·have q0:decide ((k:Int)<0)=false:=by simp
  have q1:decide ((0:Int)<(k:Int))=true:=by simp;omega
  have q2:decide (0<k)=true:=by simp;omega
  obtain⟨i0,hi0,hz0,hz1,hz2⟩:=info_parts cinfo_lit
  have hrun:=fun ty=>Lib.run_append_nil_zeros (P:=Tryz.prog) w 30 3 ty 55 i0 (.int .i64 0) .i64 .i64 Tryz.underlying30 Tryz.underlying3 hi0 hz0 k (by omega) (by rw[hz1];omega) (by omega) (by rw[hz2];omega)
  have hge:=grownCap_ge w k 0 55
  have hle:=grownCap_le_maxLen w k 0 55 (by unfold maxLen;omega)
  obtain⟨cap,hcap⟩: ∃c,grownCap w k 0 55=c:=⟨_,rfl⟩
  rw[hcap]at hrun hge hle
  obtain⟨W1,hW1⟩: ∃x,w.drew.alloc (.cells (Builtin.zeroCells (Value.int .i64 0).cells k++Builtin.zeroCells (Value.int .i64 0).cells (cap-k)) 55)=x:=⟨_,rfl⟩
  rw[hW1]at hrun
  have hb1:Below w.heap.size w W1:=by rw[←hW1];exact(mx_drew w).trans (mx_al w.drew _)
  have hn1:W1.heap[w.heap.size]? =some (.cells (Builtin.zeroCells (Value.int .i64 0).cells k++Builtin.zeroCells (Value.int .i64 0).cells (cap-k)) 55 (0,0)):=by
   rw[←hW1]
   exact World.alloc_heap_new w.drew _
  have hown:W1.ownsRow w.heap.size 55 1 (.slice (some ⟨w.heap.size,0,none⟩) 0 cap) 0 []:=by
   refine⟨rfl,.inr ⟨w.heap.size,cap,_,rfl,Nat.le_refl _,hn1,Nat.zero_le _,hle,?_,by simp⟩⟩
   rw[Array.size_append,size_zeroCells,size_zeroCells]
   show k*1+(cap-k)*1=cap*1
   omega
  have HOWN:=Lib.hid hown
  have HB1:=Lib.hid hb1
  have HRUN:=Lib.hid hrun
  clear hrun hcap hW1 hb1 hn1 hown hi0 hz0 hz1 hz2
  go_enter Tryz.func149,Tryz.ntmps149
  go_wp2_with (at_builtin;refine Lib.wpList_append_run _ rfl _ _ 30 3 rfl _ _ rfl rfl _ _ (HRUN.out _) ?_)
  go_ret
  exact⟨_,rfl,HOWN.out,HB1.out⟩
set_option maxRecDepth 100000 in
set_option maxHeartbeats 1000000 in
theorem concat_ll (u:Value) (cs:List (List Int)) (w:World) (h:ClsAt w u cs) (hl:cs.flatten.length≤1000000) (hcl:cs.length≤1000000):
  Calls Tryz.prog 128 #[u] w fun e w'=> ∃v,e= .returned v∧w'.ownsRow w.heap.size 55 1 v cs.flatten.length (cs.flatten.map (Value.int .i64))∧Below w.heap.size w w':=by
 obtain⟨A,c,rfl,hx⟩:=h
 have HX:=Lib.hid hx
 clear hx
 obtain⟨i0,hi0,hz0,hz1,hz2⟩:=info_parts cinfo_lit
 have I0:=Lib.hid hi0
 have I1:=Lib.hid hz0
 have I2:=Lib.hid hz1
 have I3:=Lib.hid hz2
 clear hi0 hz0 hz1 hz2
 go_enter Tryz.func128,Tryz.ntmps128
 go_wp2_with fail
 go_loop [3,11] (fun s i=> ∃(k z:Nat),k≤cs.length∧i= .int .i64 k∧s= .int .i64 z∧z≤1000000∧Hid (z=(cs.take k).flatten.length)) (fun _ i=>cs.length-(intOf i).toNat)
 case atStart=>exact⟨0,0,Nat.zero_le _,rfl,rfl,by omega,Lib.hid rfl⟩
 case round=>
  obtain⟨k,z,hk,rfl,rfl,hz,HZ⟩:=hrel
  by_cases hlt:k<cs.length
  ·obtain⟨xs,hxs⟩:=getElem_of hlt
   obtain⟨g,o,v,rfl,hg,d0,hv⟩:=HX.out k xs hxs
   obtain⟨Av,cv,rfl,_⟩:=hv
   have hft:=flat_take hxs
   have hfl:=flat_le cs (k+1)
   have hz2:z+xs.length≤1000000:=by
    have:=HZ.out
    rw[hft,List.length_append]at hfl
    omega
   have HZ2:=Lib.hid (show z+xs.length=(cs.take (k+1)).flatten.length from by rw[hft,List.length_append,←HZ.out])
   clear hxs hft hfl
   have q0:decide ((z:Int)+(xs.length:Int)<0)=false:=by simp;omega
   go_wp2
   go_round
   case rel=>exact⟨k+1,z+xs.length,by omega,by go_num,by go_num,hz2,HZ2⟩
   case measure=>simp[intOf];omega
  ·obtain rfl:k=cs.length:=by omega
   go_wp2_with fail
   refine(grow_ll z w hz).mono ?_
   rintro e w1 ⟨v1,rfl,hown1,hb1⟩
   have HO1:=Lib.hid hown1
   have HB1:=Lib.hid hb1
   clear hown1 hb1
   go_wp2_with fail
   go_loopw [6,27] (fun s i wr=> ∃(k:Nat) (v:Value),k≤cs.length∧i= .int .i64 k∧v=s∧Hid (Below w.heap.size w wr)∧Hid (wr.ownsRow w.heap.size 55 1 v (cs.take k).flatten.length ((cs.take k).flatten.map (Value.int .i64)))) (fun _ i _=>cs.length-(intOf i).toNat)
   case atStart=>exact⟨0,v1,Nat.zero_le _,rfl,rfl,HB1,HO1⟩
   case round=>
    obtain⟨k,v,hk,rfl,rfl,HB,HO⟩:=hrel
    by_cases hlt2:k<cs.length
    ·obtain⟨xs,hxs⟩:=getElem_of hlt2
     obtain⟨g,o,v2,rfl,hg,d0',hv⟩:=HX.out k xs hxs
     have d0:=(HB.out.cell (p:=⟨g,o+k,none⟩) hg).trans d0'
     have hsrc:=(hv.below HB.out).src
     obtain⟨Av,cv,rfl,_⟩:=hv
     have hft:=flat_take hxs
     have hfl:=flat_le cs (k+1)
     rw[hft,List.length_append]at hfl
     have HFT:=Lib.hid hft
     have HSRC:=Lib.hid hsrc
     clear hxs hft hsrc d0'
     go_wp2_with (at_builtin;refine wpList_append_any rfl _ _ 30 rfl w.heap.size 55 i0 (.int .i64 0) 1 8 Tryz.underlying30 I0.out I1.out I2.out I3.out rfl (by decide) _ (cs.take k).flatten.length _ rfl HO.out _ xs.length (xs.map (Value.int .i64)) rfl HSRC.out (by simp) (by simp[Value.oneCell']) (by unfold maxLen;omega) (by omega) HB.out.size ?_;intro v' w4 hown hgrow _;have HO4:=Lib.hid hown;have HB4:=Lib.hid (below_kept HB.out (Kept.grown hgrow) (fun j hj=>(own_lt HO.out j hj.symm).1) HB.out.size);clear hown hgrow)
     go_roundw
     case rel=>exact⟨k+1,v',by omega,by go_num,rfl,HB4,Lib.hid (by rw[HFT.out,List.length_append,List.map_append];exact HO4.out)⟩
     case measure=>simp[intOf];omega
    ·obtain rfl:k=cs.length:=by omega
     go_wp2_with fail
     go_ret
     have ho:=HO.out
     rw[List.take_length]at ho
     exact⟨_,rfl,ho,HB.out⟩
end Go.Proofs.YtajbmjpodeilpaaGreat
namespace Go.Proofs.YtajbmjpodeilpaaGreat
open Go.RowKit Go.Maps
theorem splitGo_mem: ∀(hs out:List Int) (gs:List (Int×List Int)),(∀x∈(splitGo out gs hs).1,x∈out∨x∈hs)∧(splitGo out gs hs).1.length≤out.length+hs.length
 | [],out,gs=>⟨fun x hx=>.inl hx,Nat.le_refl _⟩
 | h::r,out,gs=>by
  unfold splitGo
  split
  ·obtain⟨h1,h2⟩:=splitGo_mem r out (gs++ [(-h,[])])
   exact⟨fun x hx=>(h1 x hx).imp id (List.mem_cons_of_mem _),by rw[List.length_cons];omega⟩
  ·split
   ·rename_i g hg
    obtain⟨h1,h2⟩:=splitGo_mem r out (gs.dropLast++ [(g.1,g.2++ [h])])
    exact⟨fun x hx=>(h1 x hx).imp id (List.mem_cons_of_mem _),by rw[List.length_cons];omega⟩
   ·obtain⟨h1,h2⟩:=splitGo_mem r (out++ [h]) gs
    refine⟨fun x hx=>?_,by rw[List.length_append,List.length_singleton]at h2;rw[List.length_cons];omega⟩
    rcases h1 x hx with h3|h3
    ·rcases List.mem_append.1 h3 with h4|h4
     ·exact .inl h4
     ·rw[List.mem_singleton.1 h4]
      exact .inr List.mem_cons_self
    ·exact .inr (List.mem_cons_of_mem _ h3)
theorem splitL_mem {hs:List Int} {x:Int} (h:x∈(splitL hs).1):x∈hs:=((splitGo_mem hs [] []).1 x h).resolve_left fun h=>by cases h
theorem splitL_len (hs:List Int):(splitL hs).1.length≤hs.length:=by
 have:=(splitGo_mem hs [] []).2
 rw[List.length_nil]at this
 exact Nat.le_trans this (by omega)
set_option maxRecDepth 100000 in
set_option maxHeartbeats 4000000 in
theorem ck_add_dec {base:Nat} {O Oc:Nat→Prop} (b:Nat) (k:Ckr) (lv hv:Value) (dl:Bool) (id:Int) (c hs:List Int) (w:World) (h:CkAt base w b k) (hb: ∀p∈k.ents,clauseB p.2=true) (hc:IntsIn Oc w lv c) (hcb:clauseB c=true) (hh:IntsIn O w hv hs) (hok: ∀x∈hs,x≠0∧ -1073741824≤x∧x≤1073741824) (hl:hs.length≤65536)
  (hd:(ckFol k.ents c (splitL hs).1).2.2≠0∨(ckFol k.ents c (splitL hs).1).1=true):
  Calls Tryz.prog 63 #[.pointer (some ⟨b,0,none⟩),.agg #[.bool dl,.int .i64 id,lv,hv]] w fun e w'=>e= .returned (.tuple #[.int .u8 ((ckAdd k.ents c hs).1:Nat),.int .i64 (ckAdd k.ents c hs).2.1,.int .i64 ((ckAdd k.ents c hs).2.2:Nat)])∧Below w.heap.size w w':=by
 obtain⟨W,hW⟩: ∃W,w.alloc (.cells #[.bool dl,.int .i64 id,lv,hv] 34)=W:=⟨_,rfl⟩
 have hbW:Below w.heap.size w W:=by rw[←hW];exact mx_al _ _
 have hn:W.heap[w.heap.size]? =some (.cells #[.bool dl,.int .i64 id,lv,hv] 34 (0,0)):=by rw[←hW];exact World.alloc_heap_new _ _
 have b3:W.cell? ⟨w.heap.size,3,none⟩=some hv:=mx_cell (j:=3) hn
 have hlt:=heap_lt hn
 have B2:=Lib.hid (show W.cell? ⟨w.heap.size,2,none⟩=some lv from mx_cell (j:=2) hn)
 have HSP:=Lib.hid (rat_split hv hs W (hh.below hbW) hok (by omega))
 obtain⟨F,hF⟩: ∃F,ckFol k.ents c (splitL hs).1=F:=⟨_,rfl⟩
 have hA:ckAdd k.ents c hs=if F.2.2≠0 then(0,F.2)else if F.1=true then(1,0,0)else ratP k.ents c (splitL hs).1 (splitL hs).2:=by
  unfold ckAdd
  rw[hF]
 rw[hF]at hd
 obtain⟨R,hR⟩: ∃R,ckAdd k.ents c hs=R:=⟨_,rfl⟩
 rw[hR]at hA⊢
 have HA:=Lib.hid hA
 have HFO:=Lib.hid (fun(X:World) (u:Value) (hx:Below W.heap.size W X) (hu:IntsIn (fun _=>True) X u (splitL hs).1)=>ck_follows b k lv u c (splitL hs).1 X ((h.below hbW).below hx) hb ((hc.below hbW).below hx) hcb hu (fun x hx=>by
  obtain⟨_,h1,h2⟩:=hok x (splitL_mem hx)
  exact wf64 (by omega) (by omega)) (Nat.le_trans (splitL_len hs) hl))
 rw[hF]at HFO
 have HB:=Lib.hid hbW
 obtain⟨S1,hS1⟩: ∃S1,(splitL hs).1=S1:=⟨_,rfl⟩
 rw[hS1]at HSP HFO
 obtain⟨fb,fi,fe⟩:=F
 obtain⟨Al,cl,rfl,_⟩:=hc
 obtain⟨Ah,ch,rfl,_⟩:=hh
 clear hbW hn hA hF hR hS1 h hb hok
 go_enter Tryz.func63,Tryz.ntmps63
 go_wp2_with fail
 refine HSP.out.mono ?_
 rintro e w1 ⟨u,v,K,rfl,hu,-,-,hb1⟩
 obtain⟨Au,cu,rfl,_⟩:=mx_slice hu
 have HU:=Lib.hid ((IntsIn.of_own hu).mono (O':=fun _=>True) fun _ _=>trivial)
 have HB1:=Lib.hid hb1
 have b2:=(HB1.out.cell (p:=⟨w.heap.size,2,none⟩) hlt).trans B2.out
 clear hu hb1 b3 HSP
 go_wp2_with fail
 refine(HFO.out w1 _ HB1.out HU.out).mono ?_
 rintro e w2 ⟨rfl,hb2⟩
 have HB2:=Lib.hid (HB.out.trans ((HB1.out.trans (hb2.mono HB1.out.size)).mono HB.out.size))
 clear hb2 b2 HFO
 by_cases h0:fe=0
 ·subst h0
  obtain rfl:fb=true:=hd.resolve_left (fun h=>h rfl)
  have HR:=Lib.hid (HA.out.trans ((if_neg (fun h=>h rfl)).trans (if_pos rfl)))
  clear HA hd
  go_wp2_with fail
  refine bodyPost_ret (v:=.tuple #[.int .u8 1,.int .i64 0,.int .i64 0]) (by simp[results,Tryz.results63,go_sem]) rfl ?_
  rw[HR.out]
  exact⟨rfl,HB2.out⟩
 ·have q0:((fe:Int)==0)=false:=beq_eq_false_iff_ne.2 (by omega)
  have q1:((fe:Int) != 0)=true:=by rw[bne,q0];rfl
  have HR:=Lib.hid (HA.out.trans (if_pos h0))
  clear HA hd
  go_wp2_with fail
  refine bodyPost_ret (v:=.tuple #[.int .u8 0,.int .i64 fi,.int .i64 (fe:Int)]) (by simp[results,Tryz.results63,go_sem]) rfl ?_
  rw[HR.out]
  exact⟨rfl,HB2.out⟩
end Go.Proofs.YtajbmjpodeilpaaGreat
namespace Go.Proofs.YtajbmjpodeilpaaGreat
open Go.RowKit Go.Shelf
theorem three_new (w:World) (a b c:Value) (t:TypeId): ∃W,w.alloc (.cells #[a,b,c] t)=W∧Below w.heap.size w W∧∀X,Below W.heap.size W X→X.cell? ⟨w.heap.size,0,none⟩=some a∧X.cell? ⟨w.heap.size,1,none⟩=some b∧X.cell? ⟨w.heap.size,2,none⟩=some c:=by
 refine⟨_,rfl,mx_al _ _,fun X hX=>?_⟩
 have hn:(w.alloc (.cells #[a,b,c] t)).heap[w.heap.size]? =some (.cells #[a,b,c] t (0,0)):=World.alloc_heap_new _ _
 have e:=(hX.block w.heap.size (heap_lt hn)).trans hn
 exact⟨mx_cell (j:=0) e,mx_cell (j:=1) e,mx_cell (j:=2) e⟩
theorem loop_step {es:Ents} {p:Int} {asg:List Int} {gs:List (Int×List Int)} {j:Nat} {g:Int×List Int} {c:List Int} (hj:gs[j]? =some g) (hc:getA es g.1=some c):ratLoop es p asg (gs.drop j) =
  if(restGo p asg [] c).2=false then ratLoop es p asg (gs.drop (j+1))else
  if(ratFol es (asg++(restGo p asg [] c).1) g.2).2.2.2≠0 then(ratFol es (asg++(restGo p asg [] c).1) g.2).2.2 else
  if(ratFol es (asg++(restGo p asg [] c).1) g.2).2.1=false then(g.1,93)else ratLoop es p asg (gs.drop (j+1)):=by
 have hlt:=(List.getElem?_eq_some_iff.1 hj).1
 rw[List.drop_eq_getElem_cons hlt]
 rw[List.getElem?_eq_getElem hlt]at hj
 rw[Option.some.inj hj]
 conv=>lhs;unfold ratLoop
 rw[hc]
 rfl
set_option maxRecDepth 100000 in
set_option maxHeartbeats 8000000 in
theorem rat_check {O Oc Oh Og:Nat→Prop} (v cv hv gv:Value) (es:Ents) (c hs:List Int) (gs:List (Int×List Int)) (w:World) (h:EntIn O w v es) (ho:EntOk es) (hc:IntsIn Oc w cv c) (hcb:clauseB c=true) (hh:IntsIn Oh w hv hs) (hg:EntIn Og w gv gs) (hhl:hs.length≤70000) (hgl:gs.length≤70000) (hgh: ∀g∈gs,g.2.length≤70000):
  Calls Tryz.prog 91 #[v,.agg #[cv,hv,gv]] w fun e w'=>e= .returned (.tuple #[.int .u8 ((ratP es c hs gs).1:Nat),.int .i64 (ratP es c hs gs).2.1,.int .i64 ((ratP es c hs gs).2.2:Nat)])∧Below w.heap.size w w':=by
 obtain⟨W,hW,hbW,hS⟩:=three_new w cv hv gv 170
 have HS:=Lib.hid hS
 have HB:=Lib.hid hbW
 have HE:=Lib.hid (fun(X:World) (hx:Below W.heap.size W X)=>(h.below hbW).below hx)
 have HC:=Lib.hid (fun(X:World) (hx:Below W.heap.size W X)=>(hc.below hbW).below hx)
 have HH:=Lib.hid (fun(X:World) (hx:Below W.heap.size W X)=>(hh.below hbW).below hx)
 have HG:=Lib.hid (fun(X:World) (hx:Below W.heap.size W X)=>(hg.below hbW).below hx)
 have HO:=Lib.hid ho
 have HCB:=Lib.hid hcb
 have HGH:=Lib.hid hgh
 have hcl:=clause_len hcb
 have hel:=ho.len
 obtain⟨R,hR⟩: ∃R,ratP es c hs gs=R:=⟨_,rfl⟩
 rw[hR]
 have HR:=Lib.hid hR
 have HRT:=Lib.hid (rat_right v es W (h.below hbW) ho)
 have HAS:=Lib.hid (fun(X:World) (hx:Below W.heap.size W X)=>rup_assume cv c X (HC.out X hx) (by omega))
 obtain⟨Ae,ce,rfl,_⟩:=h
 obtain⟨Ac,cc,rfl,_⟩:=hc
 obtain⟨Ah,ch,rfl,_⟩:=hh
 obtain⟨Ag,cg,rfl,_⟩:=hg
 clear hbW hS ho hcb hgh hR
 go_enter Tryz.func91,Tryz.ntmps91
 go_wp2_with fail
 refine wp_scope_straight ?_
 go_wp2_with fail
 refine HRT.out.mono ?_
 rintro e w1 ⟨rfl,hb1⟩
 have HB1:=Lib.hid hb1
 obtain⟨b0,b1,b2⟩:=HS.out w1 hb1
 have HA1:=HAS.out w1 hb1
 unfold AsmOut at HA1
 rw[HCB.out]at HA1
 simp only[if_true]at HA1
 unfold ratP at HR
 obtain⟨al,hal⟩: ∃b,alwL c=b:=⟨_,rfl⟩
 rw[hal]at HA1 HR
 have HAL:=Lib.hid hal
 have HAA:=Lib.hid HA1
 clear hb1 HRT HAS HA1 hal
 go_wp2_with fail
 refine HAA.out.mono ?_
 rintro e w2 ⟨ha,hb2⟩
 cases al with
 | true=>
  obtain rfl:e=_:=ha
  have HR2:=Lib.hid (HR.out.symm.trans (if_pos rfl))
  have HB2:=Lib.hid (HB.out.trans ((HB1.out.trans (hb2.mono HB1.out.size)).mono HB.out.size))
  clear hb2 HR HAA b0 b1 b2
  go_wp2_with fail
  rw[Exit.noGoto_ret]
  refine bodyPost_ret (v:=.tuple #[.int .u8 1,.int .i64 0,.int .i64 0]) (by simp[results,Tryz.results91,go_sem]) rfl ?_
  rw[HR2.out]
  exact⟨rfl,HB2.out⟩
 | false=>
  obtain⟨av,rfl,hav⟩: ∃v,e= .returned (.tuple #[v,.bool false,.int .i64 0])∧w2.ownsRow w1.heap.size 55 1 v (asmL c).length ((asmL c).map (Value.int .i64)):=ha
  have HAV:=Lib.hid hav
  obtain⟨Aa,ca,rfl,_⟩:=mx_slice hav
  have HB2:=Lib.hid (HB1.out.trans (hb2.mono HB1.out.size))
  obtain⟨f,hf⟩:=asm_some HCB.out HAL.out
  have hr2:=HR.out.symm.trans (if_neg (by decide))
  obtain⟨c0,c1,c2⟩:=HS.out w2 HB2.out
  have hasl:=asm_len c
  have HFO:=Lib.hid (rat_follow _ es _ _ (asmL c) hs f w2 (HE.out w2 HB2.out) HO.out (IntsIn.of_own hav) hf (HH.out w2 HB2.out) (by omega) (by omega))
  obtain⟨F,hF⟩: ∃F,ratFol es (asmL c) hs=F:=⟨_,rfl⟩
  have HFA:=Lib.hid (fun h0=>ratFol_asg (es:=es) HO.out.cls hs (asmL c) f hf (show(ratFol es (asmL c) hs).2.2.2=0 from h0))
  rw[hF]at HFO hr2 HFA
  have HR2:=Lib.hid hr2
  obtain⟨asg,cf,fi,fe⟩:=F
  clear hb2 HR HAA b0 b1 b2 hav hf hr2 hF
  go_wp2_with fail
  refine HFO.out.mono ?_
  rintro e w3 ⟨u,rfl,hu,hb3⟩
  have HU:=Lib.hid hu
  have HB3:=Lib.hid (HB2.out.trans (hb3.mono HB2.out.size))
  obtain⟨d0,d1,d2⟩:=HS.out w3 HB3.out
  have HBW3:=Lib.hid (HB.out.trans (HB3.out.mono HB.out.size))
  clear hb3 HFO c0 c1 c2 hu
  by_cases h0:fe=0
  ·subst h0
   have hr3:=HR2.out.trans (if_neg (fun h=>h rfl))
   cases cf with
   | true=>
    have HR3:=Lib.hid (hr3.trans (if_pos rfl))
    clear HR2 hr3
    go_wp2_with fail
    rw[Exit.noGoto_ret]
    refine bodyPost_ret (v:=.tuple #[.int .u8 1,.int .i64 0,.int .i64 0]) (by simp[results,Tryz.results91,go_sem]) rfl ?_
    rw[HR3.out]
    exact⟨rfl,HBW3.out⟩
   | false=>
    have hr4:=hr3.trans (if_neg (by decide))
    cases c with
    | nil=>
     have HR3:=Lib.hid (show R=(0,0,82)from hr4)
     clear HR2 hr3 hr4
     go_wp2_with fail
     rw[Exit.noGoto_ret]
     refine bodyPost_ret (v:=.tuple #[.int .u8 0,.int .i64 0,.int .i64 82]) (by simp[results,Tryz.results91,go_sem]) rfl ?_
     rw[HR3.out]
     exact⟨rfl,HBW3.out⟩
    | cons p r=>
     obtain⟨⟨f2,hf2⟩,hal2⟩:=HFA.out rfl
     have HF2:=Lib.hid (show asgF asg=some f2 from hf2)
     have hal3:asg.length≤80000:=by
      have h1:asg.length≤(asmL (p::r)).length+hs.length:=hal2
      omega
     have HR3:=Lib.hid (show R=(if(ratGrp es p gs).2≠0 then(0,ratGrp es p gs)else if(ratLoop es p asg gs).2≠0 then(0,ratLoop es p asg gs)else(2,0,0))from hr4)
     clear HR2 hr3 hr4 HFA hf2 hal2
     obtain⟨n,hn⟩: ∃n,(p::r).length=n:=⟨_,rfl⟩
     obtain⟨A',c',hAc,_,_,hxs⟩:=HC.out w3 HB3.out
     simp only[Value.slice.injEq,true_and]at hAc
     obtain⟨rfl,rfl⟩:=hAc
     obtain⟨g,o,rfl,hg,_,e0⟩:=hxs 0 p rfl
     rw[Nat.add_zero]at e0
     rw[hn]at hcl d0⊢
     have hn1:(0:Int)<(n:Int):=by rw[←hn,List.length_cons];omega
     have hn2:0<n:=by omega
     have hn0:((n:Int)==0)=false:=beq_eq_false_iff_ne.2 (by omega)
     have hn3:(n==0)=false:=beq_eq_false_iff_ne.2 (by omega)
     have HGR:=Lib.hid (rat_groups _ _ es p gs w3 (HE.out w3 HB3.out) HO.out (HG.out w3 HB3.out) (by omega))
     obtain⟨G,hG⟩: ∃G,ratGrp es p gs=G:=⟨_,rfl⟩
     have HGC:=Lib.hid (fun h=>grp_cand (es:=es) HO.out.rise (p:=p) (gs:=gs) h)
     rw[hG]at HGR HR3 HGC
     obtain⟨gi,ge⟩:=G
     clear hn hxs hG
     go_wp2_with fail
     refine HGR.out.mono ?_
     rintro e w4 ⟨rfl,hb4⟩
     have HB4:=Lib.hid (HB3.out.trans (hb4.mono HB3.out.size))
     have HU4:=Lib.hid (HU.out.below hb4)
     obtain⟨-,-,g2⟩:=HS.out w4 HB4.out
     have HPRE:=Lib.hid (show(ge≠0→R=(0,gi,ge))∧(ge=0→R=(if(ratLoop es p asg (gs.drop 0)).2≠0 then(0,ratLoop es p asg (gs.drop 0))else(2,0,0)))from⟨fun h0=>HR3.out.trans (if_pos h0),fun h0=>by rw[List.drop_zero];exact HR3.out.trans (if_neg (fun h=>h h0))⟩)
     clear hb4 HGR d0 d1 d2 e0 HR3
     go_wp2_with fail
     refine wp_label ?_
     go_wp2_with fail
     clear g2
     go_loopw [9,12,73] (fun ev dv i wr=> ∃(k E:Nat) (I:Int),k≤gs.length∧ev= .int .i64 (E:Nat)∧dv= .int .i64 I∧i= .int .i64 k∧Hid ((E≠0→R=(0,I,E))∧(E=0→ge=0∧R=(if(ratLoop es p asg (gs.drop k)).2≠0 then(0,ratLoop es p asg (gs.drop k))else(2,0,0))))∧Hid (Below w4.heap.size w4 wr)) (fun _ _ i _=>gs.length-(intOf i).toNat)
     case atStart=>exact⟨0,ge,gi,Nat.zero_le _,rfl,rfl,rfl,Lib.hid ⟨HPRE.out.1,fun h=>⟨h,HPRE.out.2 h⟩⟩,Lib.hid (Below.refl _ _)⟩
     case round=>
      obtain⟨k,E,I,hk,rfl,rfl,rfl,HI,HBk⟩:=hrel
      have HBr:=Lib.hid (HB4.out.trans (HBk.out.mono HB4.out.size))
      have HBWr:=Lib.hid (HB.out.trans (HBr.out.mono HB.out.size))
      by_cases hlt:k<gs.length
      ·obtain⟨gx,hgx⟩:=getElem_of hlt
       obtain⟨A',c',hAc,_,_,hxs⟩:=HG.out wr HBr.out
       simp only[Value.slice.injEq,true_and]at hAc
       obtain⟨rfl,rfl⟩:=hAc
       obtain⟨gg,go,gu,rfl,hgg,_,t0,t1,hgu⟩:=hxs k gx hgx
       have HGX:=Lib.hid hgx
       obtain⟨W1,W2,W3,hW1,hW2,hW3,f0,f1,f2',y0,y1,y2,hbx,hb3⟩:=two_new wr (.int .i64 0) (.slice none 0 0) (.int .i64 gx.1) gu 138
       have HBX:=Lib.hid hbx
       have hb3W:=HBr.out.trans (hb3.mono HBr.out.size)
       have HB3':=Lib.hid hb3W
       have HK3:=Lib.hid (HBk.out.trans (hb3.mono HBk.out.size))
       have z0:=mx_cell (j:=0) hbx
       have HGU:=Lib.hid (hgu.below hb3)
       have hxl:=heap_lt hbx
       obtain⟨Au,cu,rfl,_⟩:=hgu
       by_cases hE:E=0
       ·subst hE
        obtain⟨hge,hRk⟩:=HI.out.2 rfl
        have HGE:=Lib.hid hge
        obtain⟨cc',hget,hcand⟩:=HGC.out hge gx (List.mem_of_getElem? hgx)
        have hst:=loop_step (es:=es) (p:=p) (asg:=asg) hgx hget
        have HRk:=Lib.hid hRk
        have HST:=Lib.hid hst
        have hcb':=HO.out.cls _ (getA_some hget)
        have hcl':=clause_len hcb'
        have HCB':=Lib.hid hcb'
        have hal':alwL cc'=false:=by
         unfold candB at hcand
         rw[Bool.and_eq_true,Bool.not_eq_true']at hcand
         exact hcand.2
        have HAL':=Lib.hid hal'
        have HGET:=Lib.hid hget
        have hghl:=HGH.out gx (List.mem_of_getElem? hgx)
        have HFI:=Lib.hid (rat_find _ es gx.1 W3 (HE.out W3 hb3W) HO.out.rise (by omega))
        obtain⟨gid,gh⟩:=gx
        simp only at t0 t1 HFI HGET HST z0 hghl HGU HBX
        clear hgx hxs hget hcand hst hcb' hal' hge hRk hbx hb3 hb3W HI
        go_wp2_with fail
        refine HFI.out.mono ?_
        rintro e w5 ⟨pi,ok,rfl,hfo,hb5⟩
        obtain⟨i0,rfl,hei⟩:=hfo.at_ cc' HGET.out
        obtain rfl:ok=true:=by rw[hfo.ok,HGET.out];rfl
        have HB5:=Lib.hid (HB3'.out.trans (hb5.mono HB3'.out.size))
        have HBX5:=Lib.hid ((hb5.block _ hxl).trans HBX.out)
        have HGU5:=Lib.hid (HGU.out.below hb5)
        have HK5:=Lib.hid (HK3.out.trans (hb5.mono HK3.out.size))
        have HU5:=Lib.hid (HU4.out.below HK5.out)
        have hil:=(List.getElem?_eq_some_iff.1 hei).1
        have hili:(i0:Int)<(es.length:Int):=by omega
        obtain⟨A',c',hAc,_,_,hxs⟩:=HE.out w5 HB5.out
        simp only[Value.slice.injEq,true_and]at hAc
        obtain⟨rfl,rfl⟩:=hAc
        obtain⟨ge',oe,ue,rfl,hge',_,_,de1,hue⟩:=hxs i0 _ hei
        have HRE:=Lib.hid (rat_rest ue u p cc' asg w5 hue HU5.out (by omega) (by omega))
        obtain⟨rs,hrs⟩: ∃rs,restGo p asg [] cc'=rs:=⟨_,rfl⟩
        have HRA:=Lib.hid (fun h=>rest_asg (p:=p) HF2.out HCB'.out HAL'.out h)
        have hrl:=rest_len (p:=p) (asg:=asg) cc' []
        rw[hrs]at HRE HRA hrl
        have hst:=HST.out
        rw[hrs]at hst
        have HST2:=Lib.hid hst
        obtain⟨Aue,cue,rfl,_⟩:=hue
        obtain⟨more,open_⟩:=rs
        simp only[List.length_nil,Nat.zero_add]at hrl
        clear hei hxs hfo hb5 hst hrs HST t0 t1 f0 f1 f2' y0 y1 y2 hW1 hW2 hW3 z0
        go_wp2_with fail
        refine HRE.out.mono ?_
        rintro e w6 ⟨rv,rfl,hrv,hb6⟩
        have HB6:=Lib.hid (HB5.out.trans (hb6.mono HB5.out.size))
        have HBX6:=Lib.hid ((hb6.block _ (heap_lt HBX5.out)).trans HBX5.out)
        have HGU6:=Lib.hid (HGU5.out.below hb6)
        have HU6:=Lib.hid (HU5.out.below hb6)
        have HK6:=Lib.hid (HK5.out.trans (hb6.mono HK5.out.size))
        have HRV:=Lib.hid (IntsIn.of_own hrv)
        clear hb6 HRE de1 hrv
        cases open_ with
        | false=>
         have HRn:=Lib.hid (show R=(if(ratLoop es p asg (gs.drop (k+1))).2≠0 then(0,ratLoop es p asg (gs.drop (k+1)))else(2,0,0))from by
          rw[HRk.out,HST2.out.trans (if_pos rfl)])
         clear HRk HST2
         go_wp2_with fail
         go_roundw
         case rel=>exact⟨k+1,0,_,by omega,rfl,rfl,by go_num,Lib.hid ⟨fun h=>absurd rfl h,fun _=>⟨HGE.out,HRn.out⟩⟩,HK6⟩
         case measure=>simp[intOf];omega
        | true=>
         obtain⟨f3,hf3⟩:=HRA.out rfl
         have hst3:=HST2.out.trans (if_neg (by decide))
         obtain⟨F2,hF2⟩: ∃F2,ratFol es (asg++more) gh=F2:=⟨_,rfl⟩
         have HF3:=Lib.hid (show asgF (asg++more)=some f3 from hf3)
         have HST3:=Lib.hid (show ratLoop es p asg (gs.drop k)=(if F2.2.2.2≠0 then F2.2.2 else if F2.2.1=false then(gid,93)else ratLoop es p asg (gs.drop (k+1)))from by rw[←hF2];exact hst3)
         have HFE:=Lib.hid hF2
         clear hst3 hf3 HST2 hF2
         go_upto_region 24 with fail
         have z1:=mx_cell (j:=1) HBX6.out
         have hxl6:=heap_lt HBX6.out
         obtain⟨Arv,crv,rfl,_⟩:=HRV.out
         obtain⟨Asv,csv,rfl,_⟩:=HU6.out
         refine wp_region_held_drew (S:=fun w'=>Below w6.heap.size w6 w') (by kernel_rfl) (mx_drew w6) (fun hS=>?_)
         obtain⟨xD,hxD⟩: ∃z,w6.drew=z:=⟨_,rfl⟩
         rw[hxD]at hS⊢
         clear hxD
         refine takeE 0 100 ?_
         refine takeE 1 101 ?_
         refine takeE 2 102 ?_
         refine takeE 5 105 ?_
         refine takeF 6 106 (fun wq hSw=>(hSw.cell (p:=⟨wr.heap.size,1,none⟩) hxl6).trans z1) ?_
         refine ready1 3 (fun K hK=>?_)
         go_simp
         obtain⟨w7,hw7⟩: ∃z,xD.alloc (.cells #[.slice Asv asg.length csv,.slice Arv more.length crv] 30)=z:=⟨_,rfl⟩
         have hb7:Below xD.heap.size xD w7:=by rw[←hw7];exact mx_al _ _
         have hn7:w7.heap[xD.heap.size]? =some (.cells #[.slice Asv asg.length csv,.slice Arv more.length crv] 30 (0,0)):=by rw[←hw7];exact World.alloc_heap_new _ _
         rw[hw7]
         have hS7:=hS.trans (hb7.mono hS.size)
         refine hK.out _ _ hS7 (fun _=>?_)
         clear hK
         have hu7:=(HU6.out.below hS7).lt
         have hr7:=(HRV.out.below hS7).lt
         have hca:ClsAt w7 (.slice (some ⟨xD.heap.size,0,none⟩) 2 2) [asg,more]:=⟨_,2,rfl,fun i xs hi=>by
          match i,hi with
          | 0,hi=>
           obtain rfl:=Option.some.inj hi
           exact⟨_,0,_,rfl,heap_lt hn7,mx_cell (j:=0) hn7,hu7.mono fun g h=>h.2⟩
          | 1,hi=>
           obtain rfl:=Option.some.inj hi
           exact⟨_,0,_,rfl,heap_lt hn7,mx_cell (j:=1) hn7,hr7.mono fun g h=>h.2⟩⟩
         refine ready1 4 (fun K hK=>?_)
         go_simp
         have hfl: [asg,more].flatten=asg++more:=by simp
         have hcc:=concat_ll _ _ w7 hca (by rw[hfl,List.length_append];omega) (by simp)
         rw[hfl]at hcc
         refine hcc.mono ?_
         rintro e w8 ⟨cv,rfl,hcv,hb8⟩
         have hS8:=hS7.trans (hb8.mono hS7.size)
         have HCV:=Lib.hid (IntsIn.of_own hcv)
         refine hK.out _ _ hS8 (fun _=>?_)
         clear hK hcc hca hb7 hn7 hw7 hu7 hr7 hcv
         refine ready1 7 (fun K hK=>?_)
         go_simp
         have hfo:=rat_follow _ es cv _ (asg++more) gh f3 w8 (HE.out w8 (HB6.out.trans (hS8.mono HB6.out.size))) HO.out HCV.out HF3.out (HGU6.out.below hS8) (by rw[List.length_append];omega) (by omega)
         rw[HFE.out]at hfo
         obtain⟨Ax,cf2,fi2,fe2⟩:=F2
         refine hfo.mono ?_
         rintro e w9 ⟨u9,rfl,-,hb9⟩
         have hS9:=hS8.trans (hb9.mono hS8.size)
         have HK9:=Lib.hid (HK6.out.trans (hS9.mono HK6.out.size))
         have HBX9:=Lib.hid ((hS9.block _ hxl6).trans HBX6.out)
         refine hK.out _ _ hS9 (fun _=>?_)
         clear hK hfo hb8 hb9 hS8 hS7 hS hfl z1 hxl6
         refine takeE 8 99 ?_
         refine takeE 9 108 ?_
         refine takeE 10 109 ?_
         refine takeE 11 110 ?_
         refine takeE 12 111 ?_
         refine takeE 13 11 ?_
         refine takeE 14 12 ?_
         refine takeE 15 9 ?_
         refine wpAnyH_done (by kernel_rfl) ?_ _
         by_cases h2:fe2=0
         ·subst h2
          have hst4:=HST3.out.trans (if_neg (fun h=>h rfl))
          cases cf2 with
          | true=>
           have HRn:=Lib.hid (show R=(if(ratLoop es p asg (gs.drop (k+1))).2≠0 then(0,ratLoop es p asg (gs.drop (k+1)))else(2,0,0))from by
            rw[HRk.out,hst4.trans (if_neg (fun h=>by cases h))])
           clear hst4 HST3 HRk
           go_wp2_with fail
           go_roundw
           case rel=>exact⟨k+1,0,_,by omega,rfl,rfl,by go_num,Lib.hid ⟨fun h=>absurd rfl h,fun _=>⟨HGE.out,HRn.out⟩⟩,HK9⟩
           case measure=>simp[intOf];omega
          | false=>
           have HRn:=Lib.hid (show R=(0,gid,93)from by
            rw[HRk.out,hst4.trans (if_pos rfl)]
            rfl)
           have z9:=mx_cell (j:=0) HBX9.out
           clear hst4 HST3 HRk
           go_wp2_with fail
           go_roundw
           case rel=>exact⟨k+1,93,_,by omega,rfl,rfl,by go_num,Lib.hid ⟨fun _=>HRn.out,fun h=>by cases h⟩,HK9⟩
           case measure=>simp[intOf];omega
         ·have q0:((fe2:Int)==0)=false:=beq_eq_false_iff_ne.2 (by omega)
          have HRn:=Lib.hid (show R=(0,fi2,fe2)from by
           rw[HRk.out,HST3.out.trans (if_pos h2)]
           exact if_pos h2)
          have H2:=Lib.hid h2
          clear HST3 HRk h2
          go_wp2_with fail
          go_roundw
          case rel=>exact⟨k+1,fe2,_,by omega,rfl,rfl,by go_num,Lib.hid ⟨fun _=>HRn.out,fun h=>absurd h H2.out⟩,HK9⟩
          case measure=>simp[intOf];omega
       ·have q0:((E:Int)==0)=false:=beq_eq_false_iff_ne.2 (by omega)
        have q1:((E:Int) != 0)=true:=by rw[bne,q0];rfl
        have HRn:=Lib.hid (HI.out.1 hE)
        clear hE hgx hxs hbx hb3 hb3W HI
        go_wp2_with fail
        rw[Exit.noGoto_ret]
        refine bodyPost_ret (v:=.tuple #[.int .u8 0,.int .i64 I,.int .i64 (E:Int)]) (by simp[results,Tryz.results91,go_sem]) rfl ?_
        rw[HRn.out]
        exact⟨rfl,HB.out.trans (HB3'.out.mono HB.out.size)⟩
      ·obtain rfl:k=gs.length:=by omega
       by_cases hE:E=0
       ·subst hE
        have HRn:=Lib.hid (show R=(2,0,0)from by
         have:=(HI.out.2 rfl).2
         rw[List.drop_length]at this
         exact this)
        clear HI
        go_wp2_with fail
        rw[Exit.noGoto_ret]
        refine bodyPost_ret (v:=.tuple #[.int .u8 2,.int .i64 0,.int .i64 0]) (by simp[results,Tryz.results91,go_sem]) rfl ?_
        rw[HRn.out]
        exact⟨rfl,HBWr.out⟩
       ·have q0:((E:Int)==0)=false:=beq_eq_false_iff_ne.2 (by omega)
        have q1:((E:Int) != 0)=true:=by rw[bne,q0];rfl
        have HRn:=Lib.hid (HI.out.1 hE)
        clear hE HI
        go_wp2_with fail
        rw[Exit.noGoto_ret]
        refine bodyPost_ret (v:=.tuple #[.int .u8 0,.int .i64 I,.int .i64 (E:Int)]) (by simp[results,Tryz.results91,go_sem]) rfl ?_
        rw[HRn.out]
        exact⟨rfl,HBWr.out⟩
  ·have q0:((fe:Int)==0)=false:=beq_eq_false_iff_ne.2 (by omega)
   have q1:((fe:Int) != 0)=true:=by rw[bne,q0];rfl
   have HR3:=Lib.hid (HR2.out.trans (if_pos h0))
   clear HR2 h0
   go_wp2_with fail
   rw[Exit.noGoto_ret]
   refine bodyPost_ret (v:=.tuple #[.int .u8 0,.int .i64 fi,.int .i64 (fe:Int)]) (by simp[results,Tryz.results91,go_sem]) rfl ?_
   rw[HR3.out]
   exact⟨rfl,HBW3.out⟩
end Go.Proofs.YtajbmjpodeilpaaGreat
