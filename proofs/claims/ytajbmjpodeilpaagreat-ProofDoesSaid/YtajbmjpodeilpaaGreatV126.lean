/- Steps and entries of the reference in rows of their own; salvorlaw07.Theirs, salvorlaw09.Theirs. package salvorlaw10: entries, is. Plain: whole proofs: what Check and Trim do; steps that follow by their hints. -/
import Derived.Test.YtajbmjpodeilpaaGreatV114
import Derived.Test.YtajbmjpodeilpaaGreatV125
import Derived.Test.YtajbmjpodeilpaaGreatV122
import Derived.Test.YtajbmjpodeilpaaGreatV107
import Derived.Test.YtajbmjpodeilpaaGreatV124
namespace Go.Proofs.YtajbmjpodeilpaaGreat
open Go.RowKit
theorem rstinfo:(Tryz.prog.info? 78).map (fun i=>(i.zero,i.size,i.bytes))=some (some (.agg #[.bool false,.int .i64 0,.slice none 0 0,.slice none 0 0]),4,64):=by kernel_rfl
structure RStM (n0:Nat) (w:World) (v:Value) (K:List StV):Prop where
 row:w.ownsRow n0 78 4 v K.length (K.flatMap stcell)
 lit: ∀x∈K,w.ownsRow n0 3 1 (Value.slice x.2.1.1 x.1.lits.length x.2.1.2) x.1.lits.length (x.1.lits.map (Value.int .i64))
 hnt: ∀x∈K,w.ownsRow n0 3 1 (Value.slice x.2.2.1 x.1.hints.length x.2.2.2) x.1.hints.length (x.1.hints.map (Value.int .i64))
section
variable {n0:Nat} {w w1:World} {v v':Value} {K:List StV}
theorem RStM.nil (n0:Nat) (w:World):RStM n0 w (.slice none 0 0) []:=⟨World.ownsRow_nil _ _ _ _,(fun x hx=>by cases hx),(fun x hx=>by cases hx)⟩
theorem RStM.kept {O:Nat→Prop} (h:RStM n0 w v K) (k:Kept O w w1) (h1: ∀g,v.ownBlock=some g→¬O g) (h2: ∀x∈K,∀g,(Value.slice x.2.1.1 x.1.lits.length x.2.1.2).ownBlock=some g→¬O g) (h3: ∀x∈K,∀g,(Value.slice x.2.2.1 x.1.hints.length x.2.2.2).ownBlock=some g→¬O g):RStM n0 w1 v K:=
 ⟨own_kept h.row k h1,fun x hx=>own_kept (h.lit x hx) k (h2 x hx),fun x hx=>own_kept (h.hnt x hx) k (h3 x hx)⟩
theorem RStM.below (h:RStM n0 w v K) (k:Below w.heap.size w w1):RStM n0 w1 v K:=⟨own_below h.row k,fun x hx=>own_below (h.lit x hx) k,fun x hx=>own_below (h.hnt x hx) k⟩
theorem RStM.push (h:RStM n0 w v K) (hg:w.grownBy w1 v.ownBlock) (x:StV) (hr:w1.ownsRow n0 78 4 v' (K.length+1) (K.flatMap stcell++stcell x)) (hl:w.ownsRow n0 3 1 (Value.slice x.2.1.1 x.1.lits.length x.2.1.2) x.1.lits.length (x.1.lits.map (Value.int .i64))) (hh:w.ownsRow n0 3 1 (Value.slice x.2.2.1 x.1.hints.length x.2.2.2) x.1.hints.length (x.1.hints.map (Value.int .i64))):RStM n0 w1 v' (K++ [x]) where
 row:=by
  rw[List.length_append,List.flatMap_append]
  simpa using hr
 lit:=fun y hy=>by
  have hy2:w.ownsRow n0 3 1 (Value.slice y.2.1.1 y.1.lits.length y.2.1.2) y.1.lits.length (y.1.lits.map (Value.int .i64)):=by
   rcases List.mem_append.1 hy with hy|hy
   ·exact h.lit y hy
   ·rw[List.mem_singleton.1 hy];exact hl
  exact own_kept hy2 (Kept.grown hg) (fun g h1 h2=>mx_apart hy2 h.row (by decide) h1 h2.symm)
 hnt:=fun y hy=>by
  have hy2:w.ownsRow n0 3 1 (Value.slice y.2.2.1 y.1.hints.length y.2.2.2) y.1.hints.length (y.1.hints.map (Value.int .i64)):=by
   rcases List.mem_append.1 hy with hy|hy
   ·exact h.hnt y hy
   ·rw[List.mem_singleton.1 hy];exact hh
  exact own_kept hy2 (Kept.grown hg) (fun g h1 h2=>mx_apart hy2 h.row (by decide) h1 h2.symm)
theorem RStM.mono {n1:Nat} (h:RStM n0 w v K) (hn:n1≤n0):RStM n1 w v K:=⟨own_mono h.row hn,fun x hx=>own_mono (h.lit x hx) hn,fun x hx=>own_mono (h.hnt x hx) hn⟩
theorem RStM.stepIn (h:RStM n0 w v K):StepIn (fun g=>n0≤g) w v (K.map Prod.fst):=by
 have hrow:=h.row
 rcases hrow.2 with⟨rfl,h0⟩|⟨g,cap,cur,rfl,hb,hg,hle,_⟩
 ·exact⟨none,0,by rw[List.length_map,h0],by rw[List.length_map,h0];exact Nat.le_refl _,fun _=>rfl,fun i p hi=>by
   have:=(List.getElem?_eq_some_iff.1 hi).1
   rw[List.length_map]at this
   omega⟩
 ·refine⟨_,cap,by rw[List.length_map],by rw[List.length_map];exact hle,(fun h=>by cases h),fun i p hi=>?_⟩
  rw[List.getElem?_map]at hi
  cases hx:K[i]? with
  | none=>rw[hx]at hi;cases hi
  | some x=>
   rw[hx]at hi
   obtain rfl:=Option.some.inj hi
   obtain⟨e0,e1,e2,e3⟩:=stcell_at K i x hx
   have hxm:=List.mem_of_getElem? hx
   exact⟨g,0,(Value.slice x.2.1.1 x.1.lits.length x.2.1.2),(Value.slice x.2.2.1 x.1.hints.length x.2.2.2),rfl,heap_lt hg,hb,by rw[Nat.zero_add];exact mx_at hrow e0,by rw[Nat.zero_add];exact mx_at hrow e1,by rw[Nat.zero_add];exact mx_at hrow e2,by rw[Nat.zero_add];exact mx_at hrow e3,(IntsIn.of_own (h.lit x hxm)).mono fun _ h=>h.1,(IntsIn.of_own (h.hnt x hxm)).mono fun _ h=>h.1⟩
end
structure EnMem (n0:Nat) (w:World) (v:Value) (K:List REn):Prop where
 row:w.ownsRow n0 148 2 v K.length (K.flatMap REn.cells)
 lit: ∀x∈K,w.ownsRow n0 3 1 x.2 x.1.2.length (x.1.2.map (Value.int .i64))
theorem EnMem.nil (n0:Nat) (w:World):EnMem n0 w (.slice none 0 0) []:=⟨World.ownsRow_nil _ _ _ _,fun x hx=>by cases hx⟩
theorem EnMem.below {n0:Nat} {w w1:World} {v:Value} {K:List REn} (h:EnMem n0 w v K) (k:Below w.heap.size w w1):EnMem n0 w1 v K:=⟨own_below h.row k,fun x hx=>own_below (h.lit x hx) k⟩
theorem EnMem.push {n0:Nat} {w w1:World} {v v':Value} {K:List REn} (h:EnMem n0 w v K) (hg:w.grownBy w1 v.ownBlock) (x:REn) (hr:w1.ownsRow n0 148 2 v' (K.length+1) (K.flatMap REn.cells++x.cells)) (hl:w.ownsRow n0 3 1 x.2 x.1.2.length (x.1.2.map (Value.int .i64))):EnMem n0 w1 v' (K++ [x]) where
 row:=by
  rw[List.length_append,List.flatMap_append]
  simpa using hr
 lit:=fun y hy=>by
  have hy2:w.ownsRow n0 3 1 y.2 y.1.2.length (y.1.2.map (Value.int .i64)):=by
   rcases List.mem_append.1 hy with hy|hy
   ·exact h.lit y hy
   ·rw[List.mem_singleton.1 hy];exact hl
  exact own_kept hy2 (Kept.grown hg) (fun g h1 h2=>mx_apart hy2 h.row (by decide) h1 h2.symm)
theorem EnMem.ents {n0:Nat} {w:World} {v:Value} {K:List REn} (h:EnMem n0 w v K):EntIn (fun g=>n0≤g) w v (K.map (·.1)):=by
 obtain⟨ho,hl⟩:=h
 rcases ho.2 with⟨rfl,h0⟩|⟨g,cap,cur,rfl,hBg,hg,hle,_⟩
 ·have:K= []:=List.eq_nil_of_length_eq_zero h0
  subst this
  exact⟨none,0,rfl,Nat.le_refl _,fun _=>rfl,fun i p hi=>by simp at hi⟩
 ·refine⟨_,cap,by rw[List.length_map],by rw[List.length_map];omega,(fun h=>by cases h),fun i p hi=>?_⟩
  rw[List.getElem?_map,Option.map_eq_some_iff]at hi
  obtain⟨x,hx,rfl⟩:=hi
  obtain⟨e0,e1⟩:=ricell_at K i x hx
  exact⟨g,0,x.2,rfl,heap_lt hg,hBg,by rw[Nat.zero_add];exact mx_at ho e0,by rw[Nat.zero_add];exact mx_at ho e1,(IntsIn.of_own (hl x (List.mem_of_getElem? hx))).mono fun _ h=>h.1⟩
set_option maxRecDepth 100000 in
set_option maxHeartbeats 4000000 in
theorem theirs_09 {O:Nat→Prop} (u:Value) (es:Ents) (w:World) (h:EntIn O w u es) (hl:es.length≤1000000) (hcl: ∀p∈es,p.2.length≤1000000):
  Calls Tryz.prog 84 #[u] w fun e w'=> ∃v K,e= .returned v∧EnMem w.heap.size w' v K∧K.map (·.1)=es∧Below w.heap.size w w':=by
 obtain⟨i0,hi,hz0,hz1,hz2⟩:=info_parts oinfo_ent
 have HC:=Lib.hid h
 have HCL:=Lib.hid hcl
 obtain⟨A,c,rfl,hc,_⟩:=h
 clear hcl
 go_enter Tryz.func84,Tryz.ntmps84
 go_wp2_with fail
 go_loopw [3,8] (fun v i wr=> ∃(k:Nat) (K:List REn),k≤es.length∧i= .int .i64 k∧Hid (K.map (·.1)=es.take k)∧Hid (Below w.heap.size w wr)∧Hid (EnMem w.heap.size wr v K)) (fun _ i _=>es.length-(intOf i).toNat)
 case atStart=>exact⟨0,[],Nat.zero_le _,rfl,Lib.hid rfl,Lib.hid (Below.refl _ _),Lib.hid (EnMem.nil _ _)⟩
 case round=>
  obtain⟨k,K,hk,rfl,HKM,HB,HR⟩:=hrel
  have hKl:K.length=k:=by
   have:=congrArg List.length HKM.out
   rw[List.length_map,List.length_take]at this
   omega
  have HKL:=Lib.hid hKl
  have h1:=HR.out.row
  rw[hKl]at h1
  obtain⟨Ao,co,rfl,_⟩:=mx_slice h1
  have HO1:=Lib.hid h1
  clear hKl h1
  by_cases hlt:k<es.length
  ·obtain⟨x,hxk⟩:=getElem_of hlt
   have HXL:=Lib.hid (HCL.out x (List.mem_of_getElem? hxk))
   obtain⟨A',c',hv,_,_,hx⟩:=HC.out
   simp only[Value.slice.injEq,true_and]at hv
   obtain⟨rfl,rfl⟩:=hv
   obtain⟨g,o,uv,rfl,hg,_,d0,d1,hu⟩:=hx k x hxk
   have d0:=(HB.out.cell (p:=⟨g,o+k*2,none⟩) hg).trans d0
   have d1:=(HB.out.cell (p:=⟨g,o+k*2+1,none⟩) hg).trans d1
   have hur:=hu.below HB.out
   obtain⟨Au,cu,rfl,_⟩:=hu
   obtain⟨W1,hW1,hb1,hx1,hz1'⟩:=al_new wr #[.int .i64 x.1,.slice Au x.2.length cu] 82
   have HM:=Lib.hid (fun(X:World) (hX:Below W1.heap.size W1 X)=>ints08 (.slice Au x.2.length cu) x.2 X ((hur.below hb1).below hX) HXL.out)
   have HTK:=Lib.hid (show es.take (k+1)=es.take k++ [x]from by
    rw[List.take_add_one,hxk]
    rfl)
   have HX1:=Lib.hid hx1
   have HW1:=Lib.hid hW1
   have HB1:=Lib.hid hb1
   have hbl:=heap_lt hx1
   have hwz:=HB.out.size
   clear hxk hx hur hx1 hb1 hW1
   go_upto_region 5 with fail
   rw[HW1.out]
   clear d0 d1
   refine wp_region_held_drew (S:=fun w'=>w'.cell? ⟨wr.heap.size,0,none⟩=some (.int .i64 x.1)∧w'.cell? ⟨wr.heap.size,1,none⟩=some (.slice Au x.2.length cu)) (by kernel_rfl) ⟨((mx_drew W1).cell (p:=⟨wr.heap.size,0,none⟩) hbl).trans (mx_cell (j:=0) HX1.out),((mx_drew W1).cell (p:=⟨wr.heap.size,1,none⟩) hbl).trans (mx_cell (j:=1) HX1.out)⟩ (fun hS=>?_)
   have hbD:=mx_drew W1
   obtain⟨xD,hxD⟩: ∃z,W1.drew=z:=⟨_,rfl⟩
   rw[hxD]at hS hbD⊢
   clear hxD
   refine takeE 0 12 ?_
   refine takeE 1 13 ?_
   refine takeF 2 14 (fun wq hSw=>hSw.1) ?_
   refine takeE 3 15 ?_
   refine takeF 4 16 (fun wq hSw=>hSw.2) ?_
   refine ready1 5 (fun KK hKK=>?_)
   go_simp
   refine(HM.out _ hbD).mono ?_
   rintro e w1 ⟨vx,rfl,hox,hb1⟩
   obtain⟨Ax,cx,rfl,_⟩:=mx_slice hox
   have hbr1:=hbD.trans (hb1.mono hbD.size)
   refine hKK.out _ _ ⟨(hbr1.cell (p:=⟨wr.heap.size,0,none⟩) hbl).trans (mx_cell (j:=0) HX1.out),(hbr1.cell (p:=⟨wr.heap.size,1,none⟩) hbl).trans (mx_cell (j:=1) HX1.out)⟩ (fun _=>?_)
   clear hKK
   refine takeE 6 18 ?_
   refine ready1 7 (fun KK hKK=>?_)
   go_simp
   obtain⟨w2,hw2,hb2,-,hzw2⟩:=al_new w1 #[.int .i64 x.1,.slice Ax x.2.length cx] 148
   rw[hw2]
   have hbr2:=hbr1.trans (hb2.mono hbr1.size)
   refine hKK.out _ _ ⟨(hbr2.cell (p:=⟨wr.heap.size,0,none⟩) hbl).trans (mx_cell (j:=0) HX1.out),(hbr2.cell (p:=⟨wr.heap.size,1,none⟩) hbl).trans (mx_cell (j:=1) HX1.out)⟩ (fun _=>?_)
   clear hKK
   have hwz1:=hbr1.size
   have hwz2:=hbr2.size
   have hbw2:=HB1.out.trans (hbr2.mono (by omega))
   refine ready1 8 (fun KK hKK=>?_)
   rw[if_pos (by rfl)]
   refine wp_append_at 20 (by rfl) _ _ 66 rfl w.heap.size 148 i0 (.agg #[.int .i64 0,.slice none 0 0]) 2 32 Tryz.underlying66 hi hz0 hz1 hz2 rfl (by decide) _ k _ (by rfl) (own_below HO1.out hbw2) ⟨w1.heap.size,0,none⟩ 1 1 [.int .i64 x.1,.slice Ax x.2.length cx] (by rfl) rfl (by rw[←hw2];exact cells_list_new _ _ _) (by simp[Value.oneCell']) (by unfold maxLen;omega) (by omega) (by omega) ?_
   intro v' w4 hown hgrow hat
   obtain⟨Av,cv,rfl,_⟩:=mx_slice hown
   have hgk:=Kept.grown hgrow
   have hblk:=(hgk.block wr.heap.size (Nat.lt_of_lt_of_le hbl hwz2) (fun e=>by
    have:=(own_lt HO1.out _ e.symm).2
    omega)).trans ((hbr2.block _ hbl).trans HX1.out)
   have hpush:=EnMem.push (HR.out.below hbw2) hgrow (x,.slice Ax x.2.length cx) (by rw[HKL.out];exact hown) (own_below (own_mono hox (by have:=hbD.size;omega)) hb2)
   have HP:=Lib.hid hpush
   have HB4:=Lib.hid ((HB.out.trans (hbw2.mono hwz)).grown hgrow (by omega) (fun g hg=>(own_lt HO1.out g hg).1))
   refine hKK.out _ _ ⟨mx_cell (j:=0) hblk,mx_cell (j:=1) hblk⟩ (fun _=>?_)
   clear hKK hown hgrow hat hgk hblk hpush hox hb1 hb2 hbr1 hbr2 hbD hw2 hzw2 hbw2 hS
   simp only[Act.put,List.setIfInBounds_toArray,List.set_cons_zero,List.set_cons_succ]
   refine takeE 9 3 ?_
   refine wpAnyH_done (by kernel_rfl) ?_ _
   go_wp2_with fail
   go_roundw
   case rel=>exact⟨k+1,_,by omega,by go_num,Lib.hid (by rw[List.map_append,HKM.out,HTK.out];rfl),HB4,HP⟩
   case measure=>simp[intOf];omega
  ·obtain rfl:k=es.length:=by omega
   have HKF:=Lib.hid (show K.map (·.1)=es from by rw[HKM.out,List.take_length])
   go_wp2_with fail
   go_ret
   exact⟨_,K,rfl,HR.out,HKF.out,HB.out⟩
set_option maxRecDepth 100000 in
set_option maxHeartbeats 4000000 in
theorem theirs_07 {O:Nat→Prop} (u:Value) (ss:List EStep) (w:World) (h:StepIn O w u ss) (hl:ss.length≤1000000) (hcl: ∀s∈ss,s.lits.length≤1000000∧s.hints.length≤1000000):
  Calls Tryz.prog 13 #[u] w fun e w'=> ∃v K,e= .returned v∧RStM w.heap.size w' v K∧K.map Prod.fst=ss∧Below w.heap.size w w':=by
 obtain⟨i0,hi,hz0,hz1,hz2⟩:=info_parts rstinfo
 have HC:=Lib.hid h
 have HCL:=Lib.hid hcl
 obtain⟨A,c,rfl,hc,_⟩:=h
 clear hcl
 go_enter Tryz.func13,Tryz.ntmps13
 go_wp2_with fail
 go_loopw [3,8] (fun v i wr=> ∃(k:Nat) (K:List StV),k≤ss.length∧i= .int .i64 k∧Hid (K.map Prod.fst=ss.take k)∧Hid (Below w.heap.size w wr)∧Hid (RStM w.heap.size wr v K)) (fun _ i _=>ss.length-(intOf i).toNat)
 case atStart=>exact⟨0,[],Nat.zero_le _,rfl,Lib.hid rfl,Lib.hid (Below.refl _ _),Lib.hid (RStM.nil _ _)⟩
 case round=>
  obtain⟨k,K,hk,rfl,HKM,HB,HR⟩:=hrel
  have hKl:K.length=k:=by
   have:=congrArg List.length HKM.out
   rw[List.length_map,List.length_take]at this
   omega
  have HKL:=Lib.hid hKl
  have h1:=HR.out.row
  rw[hKl]at h1
  obtain⟨Ao,co,rfl,_⟩:=mx_slice h1
  have HO1:=Lib.hid h1
  clear hKl h1
  by_cases hlt:k<ss.length
  ·obtain⟨x,hxk⟩:=getElem_of hlt
   obtain⟨xd,xi,xl,xh⟩:=x
   have HXL:=Lib.hid (HCL.out _ (List.mem_of_getElem? hxk))
   obtain⟨A',c',hv,_,_,hx⟩:=HC.out
   simp only[Value.slice.injEq,true_and]at hv
   obtain⟨rfl,rfl⟩:=hv
   obtain⟨g,o,ul,uh,rfl,hg,_,d0,d1,d2,d3,hul,huh⟩:=hx k _ hxk
   simp only at d0 d1 d2 d3 hul huh
   have d0:=(HB.out.cell (p:=⟨g,o+k*4,none⟩) hg).trans d0
   have d1:=(HB.out.cell (p:=⟨g,o+k*4+1,none⟩) hg).trans d1
   have d2:=(HB.out.cell (p:=⟨g,o+k*4+2,none⟩) hg).trans d2
   have d3:=(HB.out.cell (p:=⟨g,o+k*4+3,none⟩) hg).trans d3
   have hul:=hul.below HB.out
   have huh:=huh.below HB.out
   obtain⟨Al,cl,rfl,_⟩:=id hul
   obtain⟨Ah,ch,rfl,_⟩:=id huh
   obtain⟨W1,hW1,hb1,hx1,hz1'⟩:=al_new wr #[.bool xd,.int .i64 xi,.slice Al xl.length cl,.slice Ah xh.length ch] 34
   have HM:=Lib.hid (fun(X:World) (hX:Below W1.heap.size W1 X)=>ints02 (.slice Al xl.length cl) xl X ((hul.below hb1).below hX) HXL.out.1)
   have HN:=Lib.hid (fun(X:World) (hX:Below W1.heap.size W1 X)=>clone_i (.slice Ah xh.length ch) xh X ((huh.below hb1).below hX) (by have:=HXL.out.2;simp only at this;omega))
   have HTK:=Lib.hid (show ss.take (k+1)=ss.take k++ [⟨xd,xi,xl,xh⟩]from by
    rw[List.take_add_one,hxk]
    rfl)
   have HX1:=Lib.hid hx1
   have HW1:=Lib.hid hW1
   have HB1:=Lib.hid hb1
   have hbl:=heap_lt hx1
   have hwz:=HB.out.size
   clear hxk hx hul huh hx1 hb1 hW1
   go_upto_region 5 with fail
   rw[HW1.out]
   clear d0 d1 d2 d3
   have hbD:=mx_drew W1
   have c4: ∀X,Below W1.heap.size W1 X→X.cell? ⟨wr.heap.size,0,none⟩=some (.bool xd)∧X.cell? ⟨wr.heap.size,1,none⟩=some (.int .i64 xi)∧X.cell? ⟨wr.heap.size,2,none⟩=some (.slice Al xl.length cl)∧X.cell? ⟨wr.heap.size,3,none⟩=some (.slice Ah xh.length ch):=fun X hX=>⟨(hX.cell (p:=⟨wr.heap.size,0,none⟩) hbl).trans (mx_cell (j:=0) HX1.out),(hX.cell (p:=⟨wr.heap.size,1,none⟩) hbl).trans (mx_cell (j:=1) HX1.out),(hX.cell (p:=⟨wr.heap.size,2,none⟩) hbl).trans (mx_cell (j:=2) HX1.out),(hX.cell (p:=⟨wr.heap.size,3,none⟩) hbl).trans (mx_cell (j:=3) HX1.out)⟩
   refine wp_region_held_drew (S:=fun X=>X.cell? ⟨wr.heap.size,0,none⟩=some (.bool xd)∧X.cell? ⟨wr.heap.size,1,none⟩=some (.int .i64 xi)∧X.cell? ⟨wr.heap.size,2,none⟩=some (.slice Al xl.length cl)∧X.cell? ⟨wr.heap.size,3,none⟩=some (.slice Ah xh.length ch)) (by kernel_rfl) (c4 _ hbD) (fun hS=>?_)
   obtain⟨xD,hxD⟩: ∃z,W1.drew=z:=⟨_,rfl⟩
   rw[hxD]at hS hbD⊢
   clear hxD
   refine takeE 0 12 ?_
   refine takeE 1 13 ?_
   refine takeF 2 14 (fun wq hSw=>hSw.1) ?_
   refine takeE 3 15 ?_
   refine takeF 4 16 (fun wq hSw=>hSw.2.1) ?_
   refine takeE 5 17 ?_
   refine takeF 6 18 (fun wq hSw=>hSw.2.2.1) ?_
   refine takeE 8 20 ?_
   refine takeF 9 21 (fun wq hSw=>hSw.2.2.2) ?_
   refine ready1 7 (fun KK hKK=>?_)
   go_simp
   refine(HM.out _ hbD).mono ?_
   rintro e w1 ⟨vx,rfl,hox,hb1⟩
   have hbr1:=hbD.trans (hb1.mono hbD.size)
   refine hKK.out _ _ (c4 _ hbr1) (fun _=>?_)
   clear hKK
   refine ready1 10 (fun KK hKK=>?_)
   go_simp
   refine(HN.out _ hbr1).mono ?_
   rintro e w1' ⟨vh,rfl,hoh,hb1'⟩
   have hbr1':=hbr1.trans (hb1'.mono hbr1.size)
   refine hKK.out _ _ (c4 _ hbr1') (fun _=>?_)
   clear hKK
   obtain⟨Ax,cx,rfl,_⟩:=mx_slice hox
   obtain⟨Az,cz,rfl,_⟩:=mx_slice hoh
   refine takeE 11 23 ?_
   refine ready1 12 (fun KK hKK=>?_)
   go_simp
   obtain⟨w2,hw2,hb2,-,hzw2⟩:=al_new w1' #[.bool xd,.int .i64 xi,.slice Ax xl.length cx,.slice Az xh.length cz] 78
   rw[hw2]
   have hbr2:=hbr1'.trans (hb2.mono hbr1'.size)
   refine hKK.out _ _ (c4 _ hbr2) (fun _=>?_)
   clear hKK
   have hwz1:=hbr1.size
   have hwz1':=hbr1'.size
   have hwz2:=hbr2.size
   have hbw2:=HB1.out.trans (hbr2.mono (by omega))
   refine ready1 13 (fun KK hKK=>?_)
   rw[if_pos (by rfl)]
   refine wp_append_at 25 (by rfl) _ _ 40 rfl w.heap.size 78 i0 (.agg #[.bool false,.int .i64 0,.slice none 0 0,.slice none 0 0]) 4 64 Tryz.underlying40 hi hz0 hz1 hz2 rfl (by decide) _ k _ (by rfl) (own_below HO1.out hbw2) ⟨w1'.heap.size,0,none⟩ 1 1 [.bool xd,.int .i64 xi,.slice Ax xl.length cx,.slice Az xh.length cz] (by rfl) rfl (by rw[←hw2];exact cells_list_new _ _ _) (by simp[Value.oneCell']) (by unfold maxLen;omega) (by omega) (by omega) ?_
   intro v' w4 hown hgrow hat
   obtain⟨Av,cv,rfl,_⟩:=mx_slice hown
   have hgk:=Kept.grown hgrow
   have hblk:=(hgk.block wr.heap.size (Nat.lt_of_lt_of_le hbl hwz2) (fun e=>by
    have:=(own_lt HO1.out _ e.symm).2
    omega)).trans ((hbr2.block _ hbl).trans HX1.out)
   have hpush:=RStM.push (HR.out.below hbw2) hgrow (⟨xd,xi,xl,xh⟩,(Ax,cx),(Az,cz)) (by rw[HKL.out];exact hown) (own_below (own_below (own_mono hox (by have:=hbD.size;omega)) hb1') hb2) (own_below (own_mono hoh (by have:=hbr1.size;omega)) hb2)
   have HP:=Lib.hid hpush
   have HB4:=Lib.hid ((HB.out.trans (hbw2.mono hwz)).grown hgrow (by omega) (fun g hg=>(own_lt HO1.out g hg).1))
   refine hKK.out _ _ ⟨mx_cell (j:=0) hblk,mx_cell (j:=1) hblk,mx_cell (j:=2) hblk,mx_cell (j:=3) hblk⟩ (fun _=>?_)
   clear hKK hown hgrow hat hgk hblk hpush hox hoh hb1 hb1' hb2 hbr1 hbr1' hbr2 hbD hw2 hzw2 hbw2 hS c4
   simp only[Act.put,List.setIfInBounds_toArray,List.set_cons_zero,List.set_cons_succ]
   refine takeE 14 3 ?_
   refine wpAnyH_done (by kernel_rfl) ?_ _
   go_wp2_with fail
   go_roundw
   case rel=>exact⟨k+1,_,by omega,by go_num,Lib.hid (by rw[List.map_append,HKM.out,HTK.out];rfl),HB4,HP⟩
   case measure=>simp[intOf];omega
  ·obtain rfl:k=ss.length:=by omega
   have HKF:=Lib.hid (show K.map Prod.fst=ss from by rw[HKM.out,List.take_length])
   go_wp2_with fail
   go_ret
   exact⟨_,K,rfl,HR.out,HKF.out,HB.out⟩
end Go.Proofs.YtajbmjpodeilpaaGreat
namespace Go.Proofs.YtajbmjpodeilpaaGreat
open Go.RowKit
set_option maxRecDepth 100000 in
set_option maxHeartbeats 1000000 in
theorem ent_one {O O':Nat→Prop} (id:Int) (u v:Value) (xs:List Int) (w:World) (h1:IntsIn O w u xs) (h2:IntsIn O' w v xs) (hn:xs.length≤1000000):
  Calls Tryz.prog 85 #[.agg #[.int .i64 id,u],.agg #[.int .i64 id,v]] w fun e w'=>e= .returned (.bool true)∧Below w.heap.size w w':=by
 obtain⟨W1,hW1,hb1,hc1,hz1⟩:=al_new w #[.int .i64 id,u] 148
 obtain⟨W2,hW2,hb2,hc2,hz2⟩:=al_new W1 #[.int .i64 id,v] 148
 have hc12:=(hb2.block _ (heap_lt hc1)).trans hc1
 have hb12:=hb1.trans (hb2.mono hb1.size)
 have he:=eq_i u v xs xs W2 (h1.below hb12) (h2.below hb12) (by omega)
 rw[beq_self_eq_true]at he
 have HE:=Lib.hid he
 obtain⟨A,c,rfl,_⟩:=h1
 obtain⟨A',c',rfl,_⟩:=h2
 have a0:=mx_cell (j:=0) hc12
 have a1:=mx_cell (j:=1) hc12
 have b0:=mx_cell (j:=0) hc2
 have b1:=mx_cell (j:=1) hc2
 rw[hz1]at b0 b1
 have HW1:=Lib.hid hW1
 have HW2:=Lib.hid hW2
 have HB:=Lib.hid hb12
 clear hW1 hW2 hb1 hb2 hb12 hc1 hc2 hc12 hz1 hz2 he
 go_enter Tryz.func85,Tryz.ntmps85
 go_upto_region 1 with fail
 rw[HW1.out,HW2.out]
 go_wp2_with fail
 refine HE.out.mono ?_
 rintro e w3 ⟨rfl,n3,hn3⟩
 have hb3:Below W2.heap.size W2 w3:=by rw[hn3];exact mx_drewN W2 n3
 have HB3:=Lib.hid (HB.out.trans (hb3.mono HB.out.size))
 clear hn3 hb3
 go_wp2_with fail
 go_ret
 exact⟨rfl,HB3.out⟩
set_option maxRecDepth 100000 in
set_option maxHeartbeats 1000000 in
theorem entf_eq {O O':Nat→Prop} (u v:Value) (es:Ents) (w:World) (h1:EntIn O w u es) (h2:EntIn O' w v es) (hn:es.length≤1000000) (hcl: ∀p∈es,p.2.length≤1000000):
  Calls Tryz.prog 83 #[u,v,.func (.func 85) #[] #[]] w fun e w'=>e= .returned (.bool true)∧Below w.heap.size w w':=by
 have H1:=Lib.hid h1
 have H2:=Lib.hid h2
 have HS:=Lib.hid hcl
 obtain⟨A1,c1,rfl,hc1,_,_⟩:=h1
 obtain⟨A2,c2,rfl,hc2,_,_⟩:=h2
 obtain⟨L,hL⟩: ∃L,es.length=L:=⟨_,rfl⟩
 have HL:=Lib.hid hL
 rw[hL]at H1 H2 hc1 hc2 hn⊢
 clear hL hcl
 have hEN: ∀args w,(callFunc 85 args).run Tryz.prog w= .ok (.enter 85 args) w:=enters_of Tryz.func85 (by kernel_rfl) rfl
 go_enter Tryz.func83,Tryz.ntmps83
 go_wp2_with fail
 go_loopw [17] (fun iv wr=> ∃i:Nat,i≤L∧iv= .int .i64 i∧Hid (Below w.heap.size w wr)) (fun iv _=>L-(intOf iv).toNat)
 case atStart=>exact⟨0,Nat.zero_le _,rfl,Lib.hid (Below.refl _ _)⟩
 case round=>
  obtain⟨i,hi,rfl,HB⟩:=hrel
  by_cases hlt:i<L
  ·obtain⟨s,hs⟩: ∃s,es[i]? =some s:=⟨_,List.getElem?_eq_getElem (by rw[HL.out];exact hlt)⟩
   obtain⟨A',c',hAc,_,_,hxs⟩:=H1.out.below HB.out
   obtain⟨A'',c'',hAc',_,_,hys⟩:=H2.out.below HB.out
   simp only[Value.slice.injEq]at hAc hAc'
   obtain⟨rfl,-,rfl⟩:=hAc
   obtain⟨rfl,-,rfl⟩:=hAc'
   obtain⟨g,o,ul,rfl,hg,_,d0,d1,hul⟩:=hxs i s hs
   obtain⟨g',o',vl,rfl,hg',_,e0,e1,hvl⟩:=hys i s hs
   have hsl:=HS.out s (List.mem_of_getElem? hs)
   obtain⟨W1,hW1,hb1,hx1,hz1⟩:=al_new wr #[.int .i64 s.1,ul] 148
   obtain⟨W2,hW2,hb2,hx2,hz2⟩:=al_new W1 #[.int .i64 s.1,vl] 148
   have hb12:=hb1.trans (hb2.mono hb1.size)
   have hx12:=(hb2.block _ (heap_lt hx1)).trans hx1
   have HSM:=Lib.hid (ent_one s.1 ul vl s.2 W2 (hul.below hb12) (hvl.below hb12) hsl)
   have HB2:=Lib.hid (HB.out.trans (hb12.mono HB.out.size))
   obtain⟨Al,cl,rfl,_⟩:=hul
   obtain⟨Bl,dl,rfl,_⟩:=hvl
   have e0:=(hb1.cell (p:=⟨g',o'+i*2,none⟩) hg').trans e0
   have e1:=(hb1.cell (p:=⟨g',o'+i*2+1,none⟩) hg').trans e1
   have x0:=mx_cell (j:=0) hx12
   have x1:=mx_cell (j:=1) hx12
   have y0:=mx_cell (j:=0) hx2
   have y1:=mx_cell (j:=1) hx2
   have HW1:=Lib.hid hW1
   have HW2:=Lib.hid hW2
   clear hW1 hW2 hb1 hb2 hb12 hx1 hx2 hx12 hz1 hz2 hxs hys hs hsl
   go_upto_region 6 with fail
   rw[HW1.out]
   go_upto_region 7 with fail
   rw[HW2.out]
   go_wp2_with fail
   refine HSM.out.mono ?_
   rintro e w3 ⟨rfl,hb3⟩
   have HB3:=Lib.hid (HB2.out.trans (hb3.mono HB2.out.size))
   clear hb3 x0 x1 y0 y1 d0 d1 e0 e1
   go_wp2_with fail
   go_roundw
   case rel=>exact⟨i+1,by omega,by go_num,HB3⟩
   case measure=>simp[intOf];omega
  ·obtain rfl:i=L:=by omega
   go_wp2_with fail
   go_ret
   exact⟨rfl,HB.out⟩
set_option maxRecDepth 100000 in
set_option maxHeartbeats 1000000 in
theorem entries_10 {O O':Nat→Prop} (u v:Value) (es:Ents) (w:World) (h1:EntIn O w u es) (h2:EntIn O' w v es) (hn:es.length≤1000000) (hcl: ∀p∈es,p.2.length≤1000000):
  Calls Tryz.prog 60 #[u,v] w fun e w'=>e= .returned (.bool true)∧Below w.heap.size w w':=by
 have HT:=Lib.hid (theirs_09 u es w h1 hn hcl)
 have H2:=Lib.hid h2
 have HCL:=Lib.hid hcl
 obtain⟨A1,c1,rfl,hc1,_⟩:=h1
 obtain⟨A2,c2,rfl,hc2,_⟩:=h2
 clear hcl
 go_enter Tryz.func60,Tryz.ntmps60
 go_wp2_with fail
 refine HT.out.mono ?_
 rintro e w1 ⟨x,K,rfl,hK,hm,hb1⟩
 have hx:=hK.ents
 rw[hm]at hx
 have HX:=Lib.hid (entf_eq x _ es w1 hx (H2.out.below hb1) hn HCL.out)
 obtain⟨A3,c3,rfl,_⟩:=hx
 have HB1:=Lib.hid hb1
 clear hK hm hb1
 go_wp2_with fail
 refine HX.out.mono ?_
 rintro e w2 ⟨rfl,hb2⟩
 have HB2:=Lib.hid (HB1.out.trans (hb2.mono HB1.out.size))
 clear hb2
 go_wp2_with fail
 go_ret
 exact⟨rfl,HB2.out⟩
set_option maxRecDepth 100000 in
set_option maxHeartbeats 4000000 in
theorem is_10 {base N:Nat} {O:Nat→Prop} (b:Nat) (k:Ckr) (v:Value) (w:World) (h:CkAt base w b k) (hk:k.Ok N) (hN:N≤1000000) (hv:EntIn O w v k.ents):
  Calls Tryz.prog 26 #[.pointer (some ⟨b,0,none⟩),ckK v k] w fun e w'=>e= .returned (.bool true)∧Below w.heap.size w w':=by
 obtain⟨W,hW,hbW,hxW,hzW⟩:=al_new w #[v,.int .i64 k.last,.bool k.proved,.int .i64 k.adds,.int .i64 k.dels,.int .i64 k.rats,.int .i64 k.largest] 68
 have hlt:=heap_lt hxW
 have HC:=Lib.hid (show∀X,Below W.heap.size W X→CkAt base X b k from fun X hX=>(h.below hbW).below hX)
 have HV:=Lib.hid (show∀X,Below W.heap.size W X→EntIn O X v k.ents from fun X hX=>(hv.below hbW).below hX)
 have HK:=Lib.hid hk
 have HX:=Lib.hid (show∀X,Below W.heap.size W X→X.heap[w.heap.size]? =some (.cells #[v,.int .i64 k.last,.bool k.proved,.int .i64 k.adds,.int .i64 k.dels,.int .i64 k.rats,.int .i64 k.largest] 68 (0,0))from fun X hX=>(hX.block _ hlt).trans hxW)
 have HB:=Lib.hid hbW
 have HW:=Lib.hid hW
 have HNL:=Lib.hid (show k.ents.length≤1000000∧∀p∈k.ents,p.2.length≤1000000 from⟨by have:=hk.len;omega,fun p hp=>by
  have h1:=clause_len (hk.cls p hp)
  omega⟩)
 obtain⟨A,c,rfl,_⟩:=hv
 unfold Ckr.rep at *
 clear h hk hbW hxW hzW hW
 unfold ckK ckV
 go_enter Tryz.func26,Tryz.ntmps26
 go_upto_region 1 with fail
 rw[HW.out]
 refine wp_region_held_drew (S:=fun X=>Below W.heap.size W X) (by kernel_rfl) (mx_drew W) (fun hS=>?_)
 obtain⟨xD,hxD⟩: ∃z,W.drew=z:=⟨_,rfl⟩
 rw[hxD]at hS⊢
 clear hxD
 have e0:(k.proved==k.proved)=true:=beq_self_eq_true _
 have e1:(k.last==k.last)=true:=beq_self_eq_true _
 refine takeE 0 5 ?_
 refine takeE 2 7 ?_
 refine takeE 3 8 ?_
 refine takeF 4 9 (fun wq hSw=>mx_cell (j:=2) (HX.out wq hSw)) ?_
 refine ready1 1 (fun KK hKK=>?_)
 go_simp
 refine(ck_proved b k _ (HC.out _ hS)).mono ?_
 rintro e w1 ⟨rfl,rfl⟩
 refine hKK.out _ _ hS (fun _=>?_)
 clear hKK
 refine takeE 5 10 (v:=.bool true) ?_
 refine takeE 6 11 ?_
 refine takeE 7 12 ?_
 refine takeE 9 14 ?_
 refine takeF 10 15 (fun wq hSw=>mx_cell (j:=1) (HX.out wq hSw)) ?_
 refine ready1 8 (fun KK hKK=>?_)
 go_simp
 refine(ck_last b k _ (HC.out _ hS)).mono ?_
 rintro e w1 ⟨rfl,rfl⟩
 refine hKK.out _ _ hS (fun _=>?_)
 clear hKK
 refine takeE 11 16 (v:=.bool true) ?_
 refine takeE 12 17 ?_
 refine takeE 13 18 ?_
 refine takeE 14 19 ?_
 refine takeE 16 21 ?_
 refine takeF 17 22 (fun wq hSw=>And.intro (mx_cell (j:=2) (HX.out wq hSw)) (And.intro (mx_cell (j:=3) (HX.out wq hSw)) (And.intro (mx_cell (j:=4) (HX.out wq hSw)) (And.intro (mx_cell (j:=5) (HX.out wq hSw)) (mx_cell (j:=6) (HX.out wq hSw)))))) ?_
 refine ready1 15 (fun KK hKK=>?_)
 go_simp
 refine(ck_report b k _ (HC.out _ hS)).mono ?_
 rintro e w2 ⟨rfl,hb2⟩
 have hS2:=hS.trans (hb2.mono hS.size)
 refine hKK.out _ _ hS2 (fun _=>?_)
 clear hKK hb2 hS
 have hS:=hS2
 clear hS2
 unfold Ckr.rep
 refine takeE 18 23 (v:=.bool true) ?_
 refine takeE 19 24 ?_
 refine takeE 20 25 ?_
 refine takeE 21 26 ?_
 refine takeE 23 28 ?_
 refine takeF 24 29 (fun wq hSw=>mx_cell (j:=0) (HX.out wq hSw)) ?_
 refine ready1 22 (fun KK hKK=>?_)
 go_simp
 refine(ck_entries b k _ (HC.out _ hS) HK.out hN).mono ?_
 rintro e w3 ⟨ev,rfl,he,hb3⟩
 have hS3:=hS.trans (hb3.mono hS.size)
 refine hKK.out _ _ hS3 (fun _=>?_)
 clear hKK
 refine ready1 25 (fun KK hKK=>?_)
 go_simp
 refine(entries_10 ev _ k.ents w3 he (HV.out _ hS3) HNL.out.1 HNL.out.2).mono ?_
 rintro e w4 ⟨rfl,hb4⟩
 have hS4:=hS3.trans (hb4.mono hS3.size)
 refine hKK.out _ _ hS4 (fun _=>?_)
 have HBF:=Lib.hid (HB.out.trans (hS4.mono HB.out.size))
 clear hKK hb3 hb4 hS hS3 he
 refine takeE 26 31 ?_
 refine takeE 27 4 ?_
 refine wpAnyH_done (by kernel_rfl) ?_ _
 go_wp2_with fail
 go_ret
 exact⟨rfl,HBF.out⟩
end Go.Proofs.YtajbmjpodeilpaaGreat
namespace Go.Proofs.YtajbmjpodeilpaaGreat
open Go.RowKit
def runGo:Ckr→List EStep→Nat→Ckr×Nat×Nat
 | k,[],n=>(k,n,0)
 | k,s::r,n=>if k.proved=true then(k,n,0)else if(k.do_ s).2.2.2≠0 then((k.do_ s).1,n,(k.do_ s).2.2.2)else runGo (k.do_ s).1 r (n+1)
def runE (r:Ckr×Nat×Nat):Nat:=if r.2.2≠0 then r.2.2 else if r.1.proved=true then 0 else 101
def trimS (k:Ckr) (s:EStep):EStep:=⟨false,s.id,s.lits,(trimP s.lits (ckNamed k.ents (splitL s.hints).1)).map fun j=>(splitL s.hints).1.getD j.toNat 0⟩
def trmGo:Ckr→List EStep→Nat→List EStep→List EStep×Nat×Bool
 | _,[],i,out=>(out,i,true)
 | k,s::r,i,out=>if k.proved=true then(out,i,true)else if(k.do_ s).2.1=2 then(out,i,false)else
  trmGo (k.do_ s).1 r (i+1) (if(k.do_ s).2.1=1 then out++ [trimS k s]else out)
def needI (f:Int→Int) (hs:List Int):Int→Int:=hs.foldl (fun f id=>fun z=>if z=id then 1 else f z) f
def bkGo:(Int→Int)→List EStep→List EStep→List EStep
 | _,[],out=>out
 | f,s::r,out=>if 0<s.lits.length∧f s.id=0 then bkGo f r out else bkGo (needI f s.hints) r (out++ [s])
def bkL (done:List EStep):List EStep:=(bkGo (fun _=>0) done.reverse []).reverse
def sEnt (s:EStep):Int×List Int:=(s.id,s.lits)
def pEnts (cs:List (List Int)) (p:List EStep):Ents:=entsFrom 0 cs++p.map sEnt
def pLast (cs:List (List Int)) (p:List EStep):Int:=match p.getLast? with
 | some s=>s.id
 | none=>cs.length
def ckrP (cs:List (List Int)) (p:List EStep):Ckr:=⟨pEnts cs p,pLast cs p,cs.any List.isEmpty||p.any (fun s=>s.lits.isEmpty),(p.length:Nat),0,0,((cs.length+p.length:Nat):Int)⟩
theorem pLast_snoc (cs:List (List Int)) (p:List EStep) (s:EStep):pLast cs (p++ [s])=s.id:=by
 unfold pLast
 rw[List.getLast?_append]
 rfl
structure Grw1 (cs:List (List Int)) (p:List EStep):Prop where
 asc:p.Pairwise fun a b=>a.id<b.id
 lo: ∀s∈p,(cs.length:Int)<s.id
theorem Grw1.below {cs:List (List Int)} {p:List EStep} (h:Grw1 cs p): ∀q∈pEnts cs p,q.1≤pLast cs p:=fun q hq=>by
 unfold pEnts at hq
 unfold pLast
 rcases List.mem_append.1 hq with hq|hq
 ·obtain⟨j,h1,h2⟩:=entsFrom_mem.1 hq
  have hj:=(List.getElem?_eq_some_iff.1 h1).1
  cases hx:p.getLast? with
  | none=>show q.1≤(cs.length:Int);omega
  | some s=>
   have:=h.lo s (List.mem_of_getLast? hx)
   show q.1≤s.id
   omega
 ·obtain⟨s,hs,rfl⟩:=List.mem_map.1 hq
  cases hx:p.getLast? with
  | none=>
   rw[List.getLast?_eq_none_iff.1 hx]at hs
   cases hs
  | some z=>
   show s.id≤z.id
   obtain⟨ys,hys⟩:=List.getLast?_eq_some_iff.1 hx
   have ha:=h.asc
   rw[hys]at hs ha
   rw[List.pairwise_append]at ha
   rcases List.mem_append.1 hs with hs|hs
   ·have:=ha.2.2 s hs z (by simp)
    omega
   ·rw[List.mem_singleton.1 hs]
    exact Int.le_refl _
theorem Grw1.last {cs:List (List Int)} {p:List EStep} (h:Grw1 cs p):(cs.length:Int)≤pLast cs p:=by
 unfold pLast
 cases hx:p.getLast? with
 | none=>exact Int.le_refl _
 | some s=>
  have:=h.lo s (List.mem_of_getLast? hx)
  show(cs.length:Int)≤s.id
  omega
theorem Grw1.rise {cs:List (List Int)} {p:List EStep} (h:Grw1 cs p):Rising (pEnts cs p):=by
 unfold Rising pEnts
 rw[List.pairwise_append]
 refine⟨entsFrom_rise cs 0,?_,fun a ha b hb=>?_⟩
 ·rw[List.pairwise_map]
  exact h.asc
 ·obtain⟨j,h1,h2⟩:=entsFrom_mem.1 ha
  have hj:=(List.getElem?_eq_some_iff.1 h1).1
  obtain⟨s,hs,rfl⟩:=List.mem_map.1 hb
  have:=h.lo s hs
  show a.1<s.id
  omega
theorem ckrP_put {cs:List (List Int)} {p:List EStep} (h:Grw1 cs p) {s:EStep} (hs:pLast cs p<s.id):{ ((ckrP cs p).put s.id s.lits)with adds:=(ckrP cs p).adds+1 }=ckrP cs (p++ [s]):=by
 have e:putA (pEnts cs p) s.id s.lits=pEnts cs (p++ [s]):=by
  rw[putA_last fun q hq=>by have:=h.below q hq;omega]
  unfold pEnts
  rw[List.map_append,List.append_assoc]
  rfl
 have el:(pEnts cs (p++ [s])).length=cs.length+(p.length+1):=by
  unfold pEnts
  rw[List.length_append,entsFrom_len,List.length_map,List.length_append,List.length_singleton]
 unfold Ckr.put ckrP
 simp only[e,el,pLast_snoc,List.any_append,List.any_cons,List.any_nil,Bool.or_false,Bool.or_assoc,List.length_append,List.length_singleton,Ckr.mk.injEq,true_and]
 first|omega|(refine⟨?_,?_⟩ <;> omega)
theorem stepB_add {s:EStep} (hd:s.del=false) (h1:1≤s.id) (h2:s.id≤1073741824) (hc:clauseB s.lits=true) (hl:s.hints.length≤65536) (hh: ∀h∈s.hints,0<h∧h≤1073741824):stepB s=true:=by
 unfold stepB
 rw[hd,hc]
 simp only[Bool.not_false,Bool.true_and,Bool.false_and,Bool.or_false,Bool.and_eq_true,Bool.not_eq_true',Bool.or_eq_false_iff,decide_eq_false_iff_not,decide_eq_true_eq,List.any_eq_false,Bool.or_eq_true,not_or]
 refine⟨⟨⟨by omega,by omega⟩,by omega⟩,hl,fun h hm=>?_⟩
 have:=hh h hm
 omega
structure Addy (s:EStep):Prop where
 del:s.del=false
 id0:1≤s.id
 id1:s.id≤1073741824
 cls:clauseB s.lits=true
 len:s.hints.length≤65536
 pos: ∀h∈s.hints,0<h∧h≤1073741824
theorem Addy.stepB {s:EStep} (h:Addy s):stepB s=true:=stepB_add h.del h.id0 h.id1 h.cls h.len h.pos
theorem Addy.split {s:EStep} (h:Addy s):splitL s.hints=(s.hints,[]):=split_pos fun x hx=>(h.pos x hx).1
section
variable {cs:List (List Int)} {p:List EStep} {s:EStep}
theorem do_rup (h:Grw1 cs p) (hp:(ckrP cs p).proved=false) (hs:Addy s) (hl:pLast cs p<s.id) (hk:(chkP s.lits (ckNamed (pEnts cs p) s.hints)).2.2=0):(ckrP cs p).do_ s=(ckrP cs (p++ [s]),1,0,0):=by
 have hadd:ckAdd (pEnts cs p) s.lits s.hints=(1,0,0):=by
  unfold ckAdd ckFol
  rw[hs.split]
  simp only
  rw[hk,if_pos rfl]
  rfl
 unfold Ckr.do_
 rw[if_neg (by rw[hp];decide),if_neg (by rw[hs.stepB];decide),if_neg (by
  rintro (h1|⟨h1,_⟩)
  ·have:(ckrP cs p).last=pLast cs p:=rfl
   omega
  ·have:(ckrP cs p).last=pLast cs p:=rfl
   omega),if_neg (by rw[hs.del];decide)]
 have e3:ckAdd (ckrP cs p).ents s.lits s.hints=(1,0,0):=hadd
 rw[if_neg (by rw[e3];decide)]
 have e:=ckrP_put h hl
 simp only[e3]
 rw[if_neg (by decide)]
 rw[←e]
 rfl
end
theorem named_all {es:Ents} {g:Int→List Int}: ∀(hs:List Int),(∀h∈hs,getA es h=some (g h))→ckNamed es hs=hs.map g:=by
 intro hs
 induction hs with
 | nil=>exact fun _=>rfl
 | cons h r ih=>
  intro hh
  unfold ckNamed
  rw[hh h List.mem_cons_self]
  simp only
  rw[ih fun x hx=>hh x (List.mem_cons_of_mem _ hx),List.map_cons]
end Go.Proofs.YtajbmjpodeilpaaGreat
