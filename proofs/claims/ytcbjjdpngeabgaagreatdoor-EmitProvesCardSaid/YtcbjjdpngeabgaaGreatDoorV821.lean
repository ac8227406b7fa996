/- Grow, Concat (package slices), at clauses and at literals. Plain: steps keep a checker right; as long as the formula has a model, the entries have one. Plain: what two clauses are resolved to follows from both, in two steps. Sort at rows that are owned (some laws turned from a worked proof of the kit). Plain: sorted numbers. -/
import Derived.Test.YtcbjjdpngeabgaaGreatDoorV812
import Derived.Test.YtcbjjdpngeabgaaGreatDoorV820
import Derived.Lib.AppendZeros
import Derived.Test.YtcbjjdpngeabgaaGreatDoorV817
import Derived.Test.YtcbjjdpngeabgaaGreatDoorV813
import Derived.Test.YtcbjjdpngeabgaaGreatDoorShelf
namespace Go.Proofs.YtcbjjdpngeabgaaGreatDoor
open Go.RowKit
set_option maxRecDepth 100000 in
theorem grow_c (k:Nat) (w:World) (hk:k≤1000000):
  Calls Tryz.prog 98 #[.slice none 0 0,.int .i64 (k:Int)] w fun e w'=> ∃v,e= .returned v∧w'.ownsRow w.heap.size 57 1 v 0 []∧Below w.heap.size w w':=by
 by_cases h0:k=0
 ·subst h0
  go_enter Tryz.func98,Tryz.ntmps98
  go_wp2_with fail
  go_ret
  exact⟨_,rfl,World.ownsRow_nil _ _ _ _,Below.refl _ _⟩
 ·have q0:decide ((k:Int)<0)=false:=by simp
  have q1:decide ((0:Int)<(k:Int))=true:=by simp;omega
  have q2:decide (0<k)=true:=by simp;omega
  obtain⟨i0,hi0,hz0,hz1,hz2⟩:=info_parts cinfo_lit
  have hrun:=fun ty=>Lib.run_append_nil_zeros (P:=Tryz.prog) w 38 3 ty 57 i0 (.int .i64 0) .i64 .i64 Tryz.underlying38 Tryz.underlying3 hi0 hz0 k (by omega) (by rw[hz1];omega) (by omega) (by rw[hz2];omega)
  have hge:=grownCap_ge w k 0 57
  have hle:=grownCap_le_maxLen w k 0 57 (by unfold maxLen;omega)
  obtain⟨cap,hcap⟩: ∃c,grownCap w k 0 57=c:=⟨_,rfl⟩
  rw[hcap]at hrun hge hle
  obtain⟨W1,hW1⟩: ∃x,w.drew.alloc (.cells (Builtin.zeroCells (Value.int .i64 0).cells k++Builtin.zeroCells (Value.int .i64 0).cells (cap-k)) 57)=x:=⟨_,rfl⟩
  rw[hW1]at hrun
  have hb1:Below w.heap.size w W1:=by rw[←hW1];exact(mx_drew w).trans (mx_al w.drew _)
  have hn1:W1.heap[w.heap.size]? =some (.cells (Builtin.zeroCells (Value.int .i64 0).cells k++Builtin.zeroCells (Value.int .i64 0).cells (cap-k)) 57 (0,0)):=by
   rw[←hW1]
   exact World.alloc_heap_new w.drew _
  have hown:W1.ownsRow w.heap.size 57 1 (.slice (some ⟨w.heap.size,0,none⟩) 0 cap) 0 []:=by
   refine⟨rfl,.inr ⟨w.heap.size,cap,_,rfl,Nat.le_refl _,hn1,Nat.zero_le _,hle,?_,by simp⟩⟩
   rw[Array.size_append,size_zeroCells,size_zeroCells]
   show k*1+(cap-k)*1=cap*1
   omega
  have HOWN:=Lib.hid hown
  have HB1:=Lib.hid hb1
  have HRUN:=Lib.hid hrun
  clear hrun hcap hW1 hb1 hn1 hown hi0 hz0 hz1 hz2
  go_enter Tryz.func98,Tryz.ntmps98
  go_wp2_with (at_builtin;refine Lib.wpList_append_run _ rfl _ _ 38 3 rfl _ _ rfl rfl _ _ (HRUN.out _) ?_)
  go_ret
  exact⟨_,rfl,HOWN.out,HB1.out⟩
theorem flat_take {l:List (List Int)} {k:Nat} {c:List Int} (h:l[k]? =some c):(l.take (k+1)).flatten=(l.take k).flatten++c:=by
 rw[List.take_add_one,h]
 simp
theorem flat_le (l:List (List Int)) (k:Nat):(l.take k).flatten.length≤l.flatten.length:=by
 have:l.flatten.length=(l.take k).flatten.length+(l.drop k).flatten.length:=by
  rw[←List.length_append,←List.flatten_append,List.take_append_drop]
 omega
set_option maxRecDepth 100000 in
set_option maxHeartbeats 1000000 in
theorem concat_c (u:Value) (cs:List (List Int)) (w:World) (h:ClsAt w u cs) (hl:cs.flatten.length≤1000000) (hcl:cs.length≤1000000):
  Calls Tryz.prog 74 #[u] w fun e w'=> ∃v,e= .returned v∧w'.ownsRow w.heap.size 57 1 v cs.flatten.length (cs.flatten.map (Value.int .i64))∧Below w.heap.size w w':=by
 obtain⟨A,c,rfl,hx⟩:=h
 have HX:=Lib.hid hx
 clear hx
 obtain⟨i0,hi0,hz0,hz1,hz2⟩:=info_parts cinfo_lit
 have I0:=Lib.hid hi0
 have I1:=Lib.hid hz0
 have I2:=Lib.hid hz1
 have I3:=Lib.hid hz2
 clear hi0 hz0 hz1 hz2
 go_enter Tryz.func74,Tryz.ntmps74
 go_wp2_with fail
 go_loop [3,11] (fun s i=> ∃(k z:Nat),k≤cs.length∧i= .int .i64 k∧s= .int .i64 z∧z≤1000000∧Hid (z=(cs.take k).flatten.length)) (fun _ i=>cs.length-(intOf i).toNat)
 case atStart=>exact⟨0,0,Nat.zero_le _,rfl,rfl,by omega,Lib.hid rfl⟩
 case round=>
  obtain⟨k,z,hk,rfl,rfl,hz,HZ⟩:=hrel
  by_cases hlt:k<cs.length
  ·obtain⟨xs,hxs⟩:=getElem_of hlt
   obtain⟨g,o,v,rfl,hg,d0,hv⟩:=HX.out k xs hxs
   obtain⟨Av,cv,rfl,_⟩:=hv
   have hft:=flat_take hxs
   have hfl:=flat_le cs (k+1)
   have hz2:z+xs.length≤1000000:=by
    have:=HZ.out
    rw[hft,List.length_append]at hfl
    omega
   have HZ2:=Lib.hid (show z+xs.length=(cs.take (k+1)).flatten.length from by rw[hft,List.length_append,←HZ.out])
   clear hxs hft hfl
   have q0:decide ((z:Int)+(xs.length:Int)<0)=false:=by simp;omega
   go_wp2
   go_round
   case rel=>exact⟨k+1,z+xs.length,by omega,by go_num,by go_num,hz2,HZ2⟩
   case measure=>simp[intOf];omega
  ·obtain rfl:k=cs.length:=by omega
   go_wp2_with fail
   refine(grow_c z w hz).mono ?_
   rintro e w1 ⟨v1,rfl,hown1,hb1⟩
   have HO1:=Lib.hid hown1
   have HB1:=Lib.hid hb1
   clear hown1 hb1
   go_wp2_with fail
   go_loopw [6,27] (fun s i wr=> ∃(k:Nat) (v:Value),k≤cs.length∧i= .int .i64 k∧v=s∧Hid (Below w.heap.size w wr)∧Hid (wr.ownsRow w.heap.size 57 1 v (cs.take k).flatten.length ((cs.take k).flatten.map (Value.int .i64)))) (fun _ i _=>cs.length-(intOf i).toNat)
   case atStart=>exact⟨0,v1,Nat.zero_le _,rfl,rfl,HB1,HO1⟩
   case round=>
    obtain⟨k,v,hk,rfl,rfl,HB,HO⟩:=hrel
    by_cases hlt2:k<cs.length
    ·obtain⟨xs,hxs⟩:=getElem_of hlt2
     obtain⟨g,o,v2,rfl,hg,d0',hv⟩:=HX.out k xs hxs
     have d0:=(HB.out.cell (p:=⟨g,o+k,none⟩) hg).trans d0'
     have hsrc:=(hv.below HB.out).src
     obtain⟨Av,cv,rfl,_⟩:=hv
     have hft:=flat_take hxs
     have hfl:=flat_le cs (k+1)
     rw[hft,List.length_append]at hfl
     have HFT:=Lib.hid hft
     have HSRC:=Lib.hid hsrc
     clear hxs hft hsrc d0'
     go_wp2_with (at_builtin;refine wpList_append_any rfl _ _ 38 rfl w.heap.size 57 i0 (.int .i64 0) 1 8 Tryz.underlying38 I0.out I1.out I2.out I3.out rfl (by decide) _ (cs.take k).flatten.length _ rfl HO.out _ xs.length (xs.map (Value.int .i64)) rfl HSRC.out (by simp) (by simp[Value.oneCell']) (by unfold maxLen;omega) (by omega) HB.out.size ?_;intro v' w4 hown hgrow _;have HO4:=Lib.hid hown;have HB4:=Lib.hid (below_kept HB.out (Kept.grown hgrow) (fun j hj=>(own_lt HO.out j hj.symm).1) HB.out.size);clear hown hgrow)
     go_roundw
     case rel=>exact⟨k+1,v',by omega,by go_num,rfl,HB4,Lib.hid (by rw[HFT.out,List.length_append,List.map_append];exact HO4.out)⟩
     case measure=>simp[intOf];omega
    ·obtain rfl:k=cs.length:=by omega
     go_wp2_with fail
     go_ret
     have ho:=HO.out
     rw[List.take_length]at ho
     exact⟨_,rfl,ho,HB.out⟩
set_option maxRecDepth 100000 in
theorem grow_ll (k:Nat) (w:World) (hk:k≤1000000):
  Calls Tryz.prog 119 #[.slice none 0 0,.int .i64 (k:Int)] w fun e w'=> ∃v,e= .returned v∧w'.ownsRow w.heap.size 57 1 v 0 []∧Below w.heap.size w w':=by
 by_cases h0:k=0
 ·subst h0
  go_enter Tryz.func119,Tryz.ntmps119
  go_wp2_with fail
  go_ret
  exact⟨_,rfl,World.ownsRow_nil _ _ _ _,Below.refl _ _⟩
 ·have q0:decide ((k:Int)<0)=false:=by simp
  have q1:decide ((0:Int)<(k:Int))=true:=by simp;omega
  have q2:decide (0<k)=true:=by simp;omega
  obtain⟨i0,hi0,hz0,hz1,hz2⟩:=info_parts cinfo_lit
  have hrun:=fun ty=>Lib.run_append_nil_zeros (P:=Tryz.prog) w 37 3 ty 57 i0 (.int .i64 0) .i64 .i64 Tryz.underlying37 Tryz.underlying3 hi0 hz0 k (by omega) (by rw[hz1];omega) (by omega) (by rw[hz2];omega)
  have hge:=grownCap_ge w k 0 57
  have hle:=grownCap_le_maxLen w k 0 57 (by unfold maxLen;omega)
  obtain⟨cap,hcap⟩: ∃c,grownCap w k 0 57=c:=⟨_,rfl⟩
  rw[hcap]at hrun hge hle
  obtain⟨W1,hW1⟩: ∃x,w.drew.alloc (.cells (Builtin.zeroCells (Value.int .i64 0).cells k++Builtin.zeroCells (Value.int .i64 0).cells (cap-k)) 57)=x:=⟨_,rfl⟩
  rw[hW1]at hrun
  have hb1:Below w.heap.size w W1:=by rw[←hW1];exact(mx_drew w).trans (mx_al w.drew _)
  have hn1:W1.heap[w.heap.size]? =some (.cells (Builtin.zeroCells (Value.int .i64 0).cells k++Builtin.zeroCells (Value.int .i64 0).cells (cap-k)) 57 (0,0)):=by
   rw[←hW1]
   exact World.alloc_heap_new w.drew _
  have hown:W1.ownsRow w.heap.size 57 1 (.slice (some ⟨w.heap.size,0,none⟩) 0 cap) 0 []:=by
   refine⟨rfl,.inr ⟨w.heap.size,cap,_,rfl,Nat.le_refl _,hn1,Nat.zero_le _,hle,?_,by simp⟩⟩
   rw[Array.size_append,size_zeroCells,size_zeroCells]
   show k*1+(cap-k)*1=cap*1
   omega
  have HOWN:=Lib.hid hown
  have HB1:=Lib.hid hb1
  have HRUN:=Lib.hid hrun
  clear hrun hcap hW1 hb1 hn1 hown hi0 hz0 hz1 hz2
  go_enter Tryz.func119,Tryz.ntmps119
  go_wp2_with (at_builtin;refine Lib.wpList_append_run _ rfl _ _ 37 3 rfl _ _ rfl rfl _ _ (HRUN.out _) ?_)
  go_ret
  exact⟨_,rfl,HOWN.out,HB1.out⟩
set_option maxRecDepth 100000 in
set_option maxHeartbeats 1000000 in
theorem concat_ll (u:Value) (cs:List (List Int)) (w:World) (h:ClsAt w u cs) (hl:cs.flatten.length≤1000000) (hcl:cs.length≤1000000):
  Calls Tryz.prog 90 #[u] w fun e w'=> ∃v,e= .returned v∧w'.ownsRow w.heap.size 57 1 v cs.flatten.length (cs.flatten.map (Value.int .i64))∧Below w.heap.size w w':=by
 obtain⟨A,c,rfl,hx⟩:=h
 have HX:=Lib.hid hx
 clear hx
 obtain⟨i0,hi0,hz0,hz1,hz2⟩:=info_parts cinfo_lit
 have I0:=Lib.hid hi0
 have I1:=Lib.hid hz0
 have I2:=Lib.hid hz1
 have I3:=Lib.hid hz2
 clear hi0 hz0 hz1 hz2
 go_enter Tryz.func90,Tryz.ntmps90
 go_wp2_with fail
 go_loop [3,11] (fun s i=> ∃(k z:Nat),k≤cs.length∧i= .int .i64 k∧s= .int .i64 z∧z≤1000000∧Hid (z=(cs.take k).flatten.length)) (fun _ i=>cs.length-(intOf i).toNat)
 case atStart=>exact⟨0,0,Nat.zero_le _,rfl,rfl,by omega,Lib.hid rfl⟩
 case round=>
  obtain⟨k,z,hk,rfl,rfl,hz,HZ⟩:=hrel
  by_cases hlt:k<cs.length
  ·obtain⟨xs,hxs⟩:=getElem_of hlt
   obtain⟨g,o,v,rfl,hg,d0,hv⟩:=HX.out k xs hxs
   obtain⟨Av,cv,rfl,_⟩:=hv
   have hft:=flat_take hxs
   have hfl:=flat_le cs (k+1)
   have hz2:z+xs.length≤1000000:=by
    have:=HZ.out
    rw[hft,List.length_append]at hfl
    omega
   have HZ2:=Lib.hid (show z+xs.length=(cs.take (k+1)).flatten.length from by rw[hft,List.length_append,←HZ.out])
   clear hxs hft hfl
   have q0:decide ((z:Int)+(xs.length:Int)<0)=false:=by simp;omega
   go_wp2
   go_round
   case rel=>exact⟨k+1,z+xs.length,by omega,by go_num,by go_num,hz2,HZ2⟩
   case measure=>simp[intOf];omega
  ·obtain rfl:k=cs.length:=by omega
   go_wp2_with fail
   refine(grow_ll z w hz).mono ?_
   rintro e w1 ⟨v1,rfl,hown1,hb1⟩
   have HO1:=Lib.hid hown1
   have HB1:=Lib.hid hb1
   clear hown1 hb1
   go_wp2_with fail
   go_loopw [6,27] (fun s i wr=> ∃(k:Nat) (v:Value),k≤cs.length∧i= .int .i64 k∧v=s∧Hid (Below w.heap.size w wr)∧Hid (wr.ownsRow w.heap.size 57 1 v (cs.take k).flatten.length ((cs.take k).flatten.map (Value.int .i64)))) (fun _ i _=>cs.length-(intOf i).toNat)
   case atStart=>exact⟨0,v1,Nat.zero_le _,rfl,rfl,HB1,HO1⟩
   case round=>
    obtain⟨k,v,hk,rfl,rfl,HB,HO⟩:=hrel
    by_cases hlt2:k<cs.length
    ·obtain⟨xs,hxs⟩:=getElem_of hlt2
     obtain⟨g,o,v2,rfl,hg,d0',hv⟩:=HX.out k xs hxs
     have d0:=(HB.out.cell (p:=⟨g,o+k,none⟩) hg).trans d0'
     have hsrc:=(hv.below HB.out).src
     obtain⟨Av,cv,rfl,_⟩:=hv
     have hft:=flat_take hxs
     have hfl:=flat_le cs (k+1)
     rw[hft,List.length_append]at hfl
     have HFT:=Lib.hid hft
     have HSRC:=Lib.hid hsrc
     clear hxs hft hsrc d0'
     go_wp2_with (at_builtin;refine wpList_append_any rfl _ _ 37 rfl w.heap.size 57 i0 (.int .i64 0) 1 8 Tryz.underlying37 I0.out I1.out I2.out I3.out rfl (by decide) _ (cs.take k).flatten.length _ rfl HO.out _ xs.length (xs.map (Value.int .i64)) rfl HSRC.out (by simp) (by simp[Value.oneCell']) (by unfold maxLen;omega) (by omega) HB.out.size ?_;intro v' w4 hown hgrow _;have HO4:=Lib.hid hown;have HB4:=Lib.hid (below_kept HB.out (Kept.grown hgrow) (fun j hj=>(own_lt HO.out j hj.symm).1) HB.out.size);clear hown hgrow)
     go_roundw
     case rel=>exact⟨k+1,v',by omega,by go_num,rfl,HB4,Lib.hid (by rw[HFT.out,List.length_append,List.map_append];exact HO4.out)⟩
     case measure=>simp[intOf];omega
    ·obtain rfl:k=cs.length:=by omega
     go_wp2_with fail
     go_ret
     have ho:=HO.out
     rw[List.take_length]at ho
     exact⟨_,rfl,ho,HB.out⟩
end Go.Proofs.YtcbjjdpngeabgaaGreatDoor
namespace Go.Proofs.YtcbjjdpngeabgaaGreatDoor
open Go.RowKit
theorem putA_mem {m:Ents} {x:Int} {v:List Int} {p:Int×List Int}:p∈putA m x v↔p=(x,v)∨p∈m∧p.1≠x:=by
 unfold putA
 rw[insA_mem,delA_mem]
theorem ckDel_mem: ∀(ids:List Int) (es:Ents),∀p∈(ckDel es ids).1,p∈es:=by
 intro ids
 induction ids with
 | nil=>exact fun _ _ h=>h
 | cons id r ih=>
  intro es p hp
  unfold ckDel at hp
  split at hp
  ·exact hp
  ·exact(delA_mem.1 (ih _ p hp)).1
theorem ckDel_rise: ∀(ids:List Int) (es:Ents),Rising es→Rising (ckDel es ids).1:=by
 intro ids
 induction ids with
 | nil=>exact fun _ h=>h
 | cons id r ih=>
  intro es h
  unfold ckDel
  split
  ·exact h
  ·exact ih _ (h.del id)
theorem ckDel_len: ∀(ids:List Int) (es:Ents),(ckDel es ids).1.length≤es.length:=by
 intro ids
 induction ids with
 | nil=>exact fun _=>Nat.le_refl _
 | cons id r ih=>
  intro es
  unfold ckDel
  split
  ·exact Nat.le_refl _
  ·exact Nat.le_trans (ih _) (List.length_filter_le _ _)
theorem stepB_parts {s:EStep} (h:stepB s=true):0≤s.id∧s.id≤1073741824∧(s.del=false→s.id≠0)∧(s.del=true→s.lits= [])∧clauseB s.lits=true∧s.hints.length≤65536∧∀x∈s.hints,x≠0∧x≤1073741824∧ -1073741824≤x∧(s.del=true→0<x):=by
 unfold stepB at h
 simp only[Bool.and_eq_true,Bool.not_eq_true',Bool.or_eq_false_iff,Bool.and_eq_false_iff,decide_eq_false_iff_not,decide_eq_true_eq,Bool.not_eq_false',List.any_eq_false,Bool.or_eq_true,not_or,not_and]at h
 obtain⟨⟨⟨⟨h1,h2⟩,h3⟩,h4⟩,⟨h5,h6⟩,h7⟩:=h
 refine⟨by omega,by omega,fun e=>?_,fun e=>?_,h5,h6,fun x hx=>?_⟩
 ·rcases h3 with h3|h3
  ·rw[e]at h3;cases h3
  ·exact h3
 ·rcases h4 with h4|h4
  ·rw[e]at h4;cases h4
  ·exact List.length_eq_zero_iff.1 (by omega)
 ·obtain⟨⟨⟨a,b⟩,c⟩,d⟩:=h7 x hx
  exact⟨a,by omega,by omega,fun e=>by have:=d e;omega⟩
section
variable {k:Ckr} {s:EStep} {N:Nat}
inductive DoO (k:Ckr) (s:EStep) (r:Ckr×Nat×Int×Nat):Prop
 | done (h:k.proved=true) (e:r=(k,0,0,0))
 | bad (h:k.proved=false) (h1:r.1=k) (h2:r.2.1=0) (h3:r.2.2.2≠0)
 | del (h:k.proved=false) (hs:stepB s=true) (hl:k.last≤s.id) (hd:s.del=true) (he:(ckDel k.ents s.hints).2.2=0) (e:r=({ k with ents:=(ckDel k.ents s.hints).1,last:=s.id,dels:=k.dels+1 },0,0,0))
 | add (h:k.proved=false) (hs:stepB s=true) (hl:k.last<s.id) (hd:s.del=false) (he:(ckAdd k.ents s.lits s.hints).2.2=0) (e:r=({ (k.put s.id s.lits)with adds:=k.adds+1,rats:=if(ckAdd k.ents s.lits s.hints).1=2 then k.rats+1 else k.rats },(ckAdd k.ents s.lits s.hints).1,0,0))
theorem do_or (k:Ckr) (s:EStep):DoO k s (k.do_ s):=by
 unfold Ckr.do_
 cases hp:k.proved with
 | true=>rw[if_pos rfl];exact .done hp rfl
 | false=>
  rw[if_neg (by decide)]
  cases hs:stepB s with
  | false=>rw[if_pos rfl];exact .bad hp rfl rfl (by show(70:Nat)≠0;decide)
  | true=>
   rw[if_neg (by decide)]
   split
   ·exact .bad hp rfl rfl (by show(100:Nat)≠0;decide)
   ·rename_i h1
    cases hd:s.del with
    | true=>
     rw[if_pos rfl]
     split
     ·rename_i h2
      exact .del hp hs (by omega) hd h2 (by rw[hp])
     ·rename_i h2
      exact .bad hp rfl rfl h2
    | false=>
     rw[hd]at h1
     rw[if_neg (by decide)]
     split
     ·rename_i h2
      exact .bad hp rfl rfl h2
     ·rename_i h2
      exact .add hp hs (by
       have: ¬(s.id<k.last∨s.id=k.last∧false=false):=h1
       simp only[and_true]at this
       omega) hd (Classical.byContradiction h2) rfl
theorem any_put {es:Ents} {id:Int} {c:List Int} (h: ∀p∈es,p.1≠id):(putA es id c).any (fun p=>p.2.isEmpty)=(es.any (fun p=>p.2.isEmpty)||c.isEmpty):=by
 refine Bool.eq_iff_iff.2 ?_
 rw[Bool.or_eq_true,List.any_eq_true,List.any_eq_true]
 constructor
 ·rintro ⟨p,hp,e⟩
  rcases putA_mem.1 hp with rfl|⟨hp,_⟩
  ·exact .inr e
  ·exact .inl ⟨p,hp,e⟩
 ·rintro (⟨p,hp,e⟩|e)
  ·exact⟨p,putA_mem.2 (.inr ⟨hp,h p hp⟩),e⟩
  ·exact⟨_,putA_mem.2 (.inl rfl),e⟩
theorem Ckr.Ok.put (h:k.Ok N) {id:Int} {c:List Int} (hl:k.last<id) (h1:id≤1073741824) (hc:clauseB c=true):(k.put id c).Ok (N+1) where
 rise:=h.rise.put id c
 ids:=fun p hp=>by
  show 1≤p.1∧p.1≤1073741824∧p.1≤id
  have:=h.last0
  rcases putA_mem.1 hp with rfl|⟨hp,_⟩
  ·exact⟨by show 1≤id;omega,h1,Int.le_refl _⟩
  ·obtain⟨a,b,d⟩:=h.ids p hp
   exact⟨a,b,by omega⟩
 cls:=fun p hp=>by
  rcases putA_mem.1 hp with rfl|⟨hp,_⟩
  ·exact hc
  ·exact h.cls p hp
 last0:=by show 0≤id;have:=h.last0;omega
 last1:=h1
 len:=by
  have:=putA_length_le k.ents id c
  have:=h.len
  show(putA k.ents id c).length≤_
  omega
 prv:=by
  show(k.proved||c.isEmpty)=(putA k.ents id c).any (fun p=>p.2.isEmpty)∨(k.proved||c.isEmpty)=false
  rw[any_put (fun p hp=>by have:=(h.ids p hp).2.2;omega)]
  rcases h.prv with e|e
  ·exact .inl (by rw[e])
  ·rw[e]
   cases hc:c.isEmpty with
   | false=>exact .inr rfl
   | true=>left;simp
 adds:=⟨h.adds.1,by have:=h.adds.2;show k.adds≤_;omega⟩
 dels:=⟨h.dels.1,by have:=h.dels.2;show k.dels≤_;omega⟩
 rats:=⟨h.rats.1,by have:=h.rats.2;show k.rats≤_;omega⟩
 larg:=by
  have:=putA_length_le k.ents id c
  have:=h.len
  have:=h.larg
  show 0≤max k.largest ((putA k.ents id c).length:Int)∧max k.largest ((putA k.ents id c).length:Int)≤_
  omega
theorem do_ok (h:k.Ok N):(k.do_ s).1.Ok (N+1):=by
 have hmono:k.Ok (N+1):={ h with
  len:=Nat.le_succ_of_le h.len
  adds:=⟨h.adds.1,by have:=h.adds.2;omega⟩
  dels:=⟨h.dels.1,by have:=h.dels.2;omega⟩
  rats:=⟨h.rats.1,by have:=h.rats.2;omega⟩
  larg:=⟨h.larg.1,by have:=h.larg.2;omega⟩ }
 rcases do_or k s with⟨_,e⟩|⟨_,e,_⟩|⟨hp,hs,hl,hd,he,e⟩|⟨hp,hs,hl,hd,he,e⟩
 ·rw[e];exact hmono
 ·rw[e];exact hmono
 ·rw[e]
  obtain⟨s0,s1,_⟩:=stepB_parts hs
  exact {
   rise:=ckDel_rise _ _ h.rise
   ids:=fun p hp=>by
    obtain⟨a,b,d⟩:=h.ids p (ckDel_mem _ _ p hp)
    exact⟨a,b,Int.le_trans d hl⟩
   cls:=fun p hp=>h.cls p (ckDel_mem _ _ p hp)
   last0:=s0
   last1:=s1
   len:=Nat.le_trans (ckDel_len _ _) (Nat.le_succ_of_le h.len)
   prv:=.inr hp
   adds:=hmono.adds
   dels:=by
    have:=h.dels
    show 0≤k.dels+1∧k.dels+1≤_
    omega
   rats:=hmono.rats
   larg:=hmono.larg }
 ·rw[e]
  obtain⟨s0,s1,_,_,hc,_⟩:=stepB_parts hs
  have h2:=h.put hl s1 hc
  exact { h2 with
   adds:=by
    have:=h.adds
    show 0≤k.adds+1∧k.adds+1≤_
    omega
   rats:=by
    have:=h.rats
    show 0≤(if(ckAdd k.ents s.lits s.hints).1=2 then k.rats+1 else k.rats)∧(if(ckAdd k.ents s.lits s.hints).1=2 then k.rats+1 else k.rats)≤_
    split <;> omega }
def Ckr.Exact (k:Ckr):Prop:=k.proved=k.ents.any (fun p=>p.2.isEmpty)
end
def SatE (n:Nat) (es:Ents):Prop:= ∀p∈es,p.2.any (bitT n)=true
def SatN (es:Ents):Prop:= ∃n,n<128∧n%2=0∧SatE n es
theorem ratIds_mem {want:List Int}: ∀(gs:List Int) (last:Int),(ratIds want last gs).2=0→∀g∈gs,g∈want:=by
 intro gs
 induction gs with
 | nil=>intro _ _ g hg;cases hg
 | cons x r ih=>
  intro last h g hg
  unfold ratIds at h
  split at h
  ·cases h
  ·rename_i h1
   rcases List.mem_cons.1 hg with e|hg
   ·rw[e]
    refine List.contains_iff_mem.1 ?_
    cases hx:want.contains x with
    | true=>rfl
    | false=>exact absurd (.inl hx) h1
   ·exact ih _ h g hg
end Go.Proofs.YtcbjjdpngeabgaaGreatDoor
namespace Go.Proofs.YtcbjjdpngeabgaaGreatDoor
open Go.RowKit
def clashL (c:List Int):Bool:=c.any fun l=>c.contains (-l)
theorem clash_no {c:List Int} (h:clashL c=false): ∀y∈c,-y∉c:=fun y hy hm=>by
 unfold clashL at h
 have:=List.any_eq_false.1 h y hy
 exact this (List.contains_iff_mem.2 hm)
structure ResO (a b c:List Int) (l:Int):Prop where
 la:l∈a
 lb: -l∈b
 na: ∀y∈a,-y∉a
 nb: ∀y∈b,-y∉b
 nc: ∀y∈c,-y∉c
 mem: ∀y,y∈c↔(y∈a∨y∈b)∧y≠l∧y≠ -l
section
variable {a b c:List Int} {l:Int}
theorem res_chk (h:ResO a b c l) (ha:clauseB a=true) (hb:clauseB b=true) (hc:clauseB c=true):chkP c [a,b]=([l],2,0):=by
 have hlb:=clauseB_lit ha h.la
 obtain⟨f,hf,hs⟩:=asm_ok hc h.nc
 have hneg: ∀y,litB y=true→(ofF f y<0↔y∈c):=fun y hy=>by
  rw[(hs y hy).2]
  show- -y∈c↔_
  rw[Int.neg_neg]
 have hpos: ∀y,litB y=true→(0<ofF f y↔ -y∈c):=fun y hy=>(hs y hy).1
 have hl0:ofF f l=0:=by
  have h1: ¬0<ofF f l:=fun e=>((h.mem _).1 ((hpos l hlb).1 e)).2.2 rfl
  have h2: ¬ofF f l<0:=fun e=>((h.mem _).1 ((hneg l hlb).1 e)).2.1 rfl
  omega
 have h1:lookF f a=(3,l):=by
  refine k_unit h.la hl0 (fun y hy hne=>?_) (fun y hy=>litB_ne (clauseB_lit ha hy))
  refine(hneg y (clauseB_lit ha hy)).2 ((h.mem y).2 ⟨.inl hy,hne,fun e=>?_⟩)
  exact h.na l h.la (e▸hy)
 have h2:lookF (putF f l) b=(2,0):=by
  refine k_fail fun y hy=>?_
  have hyb:=clauseB_lit hb hy
  by_cases e:y= -l
  ·rw[e,k_put_neg f hlb]
   decide
  ·have hyl:y≠l:=fun e2=>by
    have:=h.nb _ h.lb
    rw[Int.neg_neg]at this
    exact this (e2▸hy)
   have hv:litV y≠litV l:=fun ev=>by
    rcases litV_two hlb ev.symm with g|g
    ·exact hyl g
    ·exact e g
   rw[k_put_ne f hv]
   exact(hneg y hyb).2 ((h.mem y).2 ⟨.inr hy,hyl,e⟩)
 unfold chkP
 rw[if_neg (by rw[alwL_no h.nc];decide),hf]
 simp only
 have e:folGo f [a,b] [] 0=([l],2,true,0):=by
  unfold folGo
  rw[h1,if_neg (by show¬(3:Nat)=2;decide),if_pos rfl]
  unfold folGo
  rw[h2,if_pos rfl]
  rfl
 rw[e]
 rfl
end
end Go.Proofs.YtcbjjdpngeabgaaGreatDoor
namespace Go.Proofs.YtcbjjdpngeabgaaGreatDoor
open Go.RowKit Go.Sort
def sortI (xs:List Int):List Int:=xs.mergeSort fun x y=>decide (x≤y)
theorem sortI_length (xs:List Int):(sortI xs).length=xs.length:=by simp[sortI]
end Go.Proofs.YtcbjjdpngeabgaaGreatDoor
namespace Go.Proofs.YtcbjjdpngeabgaaGreatDoor
open Go.RowKit
theorem sI_mem (xs:List Int) (x:Int):x∈sortI xs↔x∈xs:=(List.mergeSort_perm xs _).mem_iff
theorem sI_sorted (xs:List Int):(sortI xs).Pairwise (· ≤ ·):=by
 have:=List.pairwise_mergeSort (le:=fun x y:Int=>decide (x≤y)) (fun a b c h1 h2=>by simp at *;omega) (fun a b=>by simp;omega) xs
 exact this.imp (fun h=>by simpa using h)
theorem sI_eq {xs ys:List Int} (hp:xs.Perm ys) (hs:ys.Pairwise (· ≤ ·)):sortI xs=ys:=
 List.Perm.eq_of_pairwise (le:=fun a b=>a≤b) (fun a b _ _ h1 h2=>by omega) (sI_sorted xs) hs ((List.mergeSort_perm _ _).trans hp)
end Go.Proofs.YtcbjjdpngeabgaaGreatDoor
