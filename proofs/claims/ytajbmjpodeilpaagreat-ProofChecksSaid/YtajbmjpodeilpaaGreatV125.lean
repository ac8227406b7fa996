/- Reference of layer 8: Trim. Steps that a program builds: a row of its own, with rows of literals and of hints. Steps and entries of the reference in rows of their own; salvorlaw07.Theirs, salvorlaw09.Theirs. package salvorlaw10: entries, is. package proof: Check, at a right formula. -/
import Derived.Test.YtajbmjpodeilpaaGreatV124
import Derived.Test.YtajbmjpodeilpaaGreatV101
import Derived.Test.YtajbmjpodeilpaaGreatV112
import Derived.Test.YtajbmjpodeilpaaGreatV123
import Derived.Test.YtajbmjpodeilpaaGreatV113
import Derived.Test.YtajbmjpodeilpaaGreatV120
import Derived.Test.YtajbmjpodeilpaaGreatV107
import Derived.Test.YtajbmjpodeilpaaGreatV122
namespace Go.Proofs.YtajbmjpodeilpaaGreat
open Go.RowKit
theorem slc_cls (g o L c n:Nat) (h1:1≤n) (hn:n≤c) (X:World):(Instr.slice 36 (.slice (some ⟨g,o,none⟩) L c) none (some (.int .i64 (n:Int))) none).run Tryz.prog X= .ok (.slice (some ⟨g,o,none⟩) n c) X:=by
 refine(run_slice_h (P:=Tryz.prog) X 36 (some ⟨g,o,none⟩) L c (by kernel_rfl) .i64 (n:Int) (by omega) (by omega)).trans ?_
 have hs:((sizeOf (Tryz.prog.elem 36)).run Tryz.prog X)= .ok 1 X:=by kernel_rfl
 rw[hs]
 show Result.ok (sliced (some ⟨g,o,none⟩) 0 (n:Int).toNat c 1) X=_
 unfold sliced
 rw[if_neg (by omega)]
 simp[Addr.add]
theorem slc_tail (A:Option Addr) (L c m:Nat) (hm:m≤L) (X:World):(Instr.slice 32 (.slice A L c) (some (.int .i64 (m:Int))) none none).run Tryz.prog X= .ok (sliced A m L c 1) X:=by
 refine(run_slice_l (P:=Tryz.prog) X 32 A L c (by kernel_rfl) .i64 (m:Int) (by omega) (by omega)).trans ?_
 have hs:((sizeOf (Tryz.prog.elem 32)).run Tryz.prog X)= .ok 1 X:=by kernel_rfl
 rw[hs]
 rfl
theorem ints_tail {O:Nat→Prop} {w:World} {A:Option Addr} {L c:Nat} {xs ys:List Int} (h:IntsIn O w (.slice A L c) (xs++ys)):IntsIn O w (sliced A xs.length L c 1) ys:=by
 obtain⟨A',c',hv,hc,hn,hx⟩:=h
 simp only[Value.slice.injEq]at hv
 obtain⟨rfl,rfl,rfl⟩:=hv
 rw[List.length_append]at hc
 refine⟨_,c-xs.length,by unfold sliced;rw[List.length_append,Nat.add_sub_cancel_left],by omega,fun h=>?_,fun i x hi=>?_⟩
 ·split at h
  ·omega
  ·rw[Option.map_eq_none_iff]at h
   have:=hn h
   omega
 ·obtain⟨g,o,rfl,hg,hO,d⟩:=hx (xs.length+i) x (by rw[List.getElem?_append_right (by omega),Nat.add_sub_cancel_left];exact hi)
  have hil:=(List.getElem?_eq_some_iff.1 hi).1
  refine⟨g,o+xs.length,?_,hg,hO,by rw[Nat.add_assoc];exact d⟩
  rw[if_neg (by omega),Nat.mul_one]
  simp[Addr.add]
theorem trim_zero {c:List Int} {cs:List (List Int)} (h:(chkP c cs).2.2≠0∨(chkP c cs).2.1=0):trimP c cs= []:=by
 unfold trimP
 rw[if_neg (fun hh=>h.elim (fun h=>h hh.1) hh.2)]
theorem chk_some {c:List Int} {cs:List (List Int)} (hc:clauseB c=true) (h:(chkP c cs).2.1≠0):alwR c=false:=by
 refine Bool.eq_false_iff.2 fun ha=>h ?_
 rw[(chk_alw ha hc).1]
set_option maxRecDepth 100000 in
set_option maxHeartbeats 4000000 in
theorem ref_trim08 {O O'':Nat→Prop} (u hv:Value) (c:List Int) (cs:List (List Int)) (w:World) (h:IntsIn O w u c) (hh:ClsIn O'' w hv cs) (hl:cs.length≤65536) (hc:clauseB c=true) (hcs: ∀d∈cs,clauseB d=true):
  Calls Tryz.prog 45 #[u,hv] w fun e w'=>(∃v,e= .returned (.tuple #[v,.int .i64 ((chkP c cs).2.2:Nat)])∧w'.ownsRow w.heap.size 3 1 v (trimP c cs).length ((trimP c cs).map (Value.int .i64)))∧Below w.heap.size w w':=by
 have hcl:=clause_len hc
 have HK:=Lib.hid (ref_check08 u hv c cs w h hh hl hc hcs)
 have HA:=Lib.hid (fun(X:World) (hX:Below w.heap.size w X)=>ref_assume08 u c X (h.below hX) (by omega) (fun x hx=>clauseB_lit hc hx))
 have HCB:=Lib.hid hc
 have HCS:=Lib.hid hcs
 have HH:=Lib.hid hh
 obtain⟨OUT,hO⟩: ∃OUT,trimP c cs=OUT:=⟨_,rfl⟩
 obtain⟨n,hn⟩: ∃n,(chkP c cs).2.1=n:=⟨_,rfl⟩
 obtain⟨E,hE⟩: ∃E,(chkP c cs).2.2=E:=⟨_,rfl⟩
 have HO:=Lib.hid hO
 have HN:=Lib.hid hn
 have HE:=Lib.hid hE
 rw[hn,hE]at HK
 rw[hO,hE]
 obtain⟨A,k1,rfl,_⟩:=h
 obtain⟨A',k2,rfl,hk2,_,hx⟩:=hh
 have HX:=Lib.hid hx
 clear hO hn hE hc hcs hx
 go_enter Tryz.func45,Tryz.ntmps45
 go_wp2_with fail
 refine HK.out.mono ?_
 rintro e w1 ⟨rfl,hb1⟩
 have HB1:=Lib.hid hb1
 clear hb1
 by_cases hE0:E≠0
 ·have q0:((E:Int) != 0)=true:=bne_iff_ne.2 (by omega)
  have HF:=Lib.hid (show OUT= []from HO.out.symm.trans (trim_zero (.inl (by rw[HE.out];exact hE0))))
  go_wp2_with fail
  go_ret2
  exact⟨⟨_,rfl,by rw[HF.out];exact World.ownsRow_nil _ _ _ _⟩,HB1.out⟩
 have hE0:E=0:=by omega
 subst hE0
 by_cases hn0:n=0
 ·subst hn0
  have HF:=Lib.hid (show OUT= []from HO.out.symm.trans (trim_zero (.inr HN.out)))
  go_wp2_with fail
  go_ret2
  exact⟨⟨_,rfl,by rw[HF.out];exact World.ownsRow_nil _ _ _ _⟩,HB1.out⟩
 have q1:((n:Int)==0)=false:=beq_eq_false_iff_ne.2 (by omega)
 have hal:alwR c=false:=chk_some HCB.out (by rw[HN.out];exact hn0)
 have HAL:=Lib.hid hal
 have HA1:=HA.out w1 HB1.out
 rw[hal]at HA1
 have HA1:=Lib.hid HA1
 clear HA hal
 go_wp2_with fail
 refine HA1.out.mono ?_
 rintro e w2 ⟨⟨v,out,rfl,ho,hol,ho0,ho1⟩,hb2⟩
 obtain⟨hn1,hnl,us,htf,husl,husb,hwo⟩:=trim_fol HCB.out HAL.out (ho1 trivial) HCS.out HE.out HN.out
 obtain⟨x0,hx0⟩: ∃x,cs[0]? =some x:=⟨_,List.getElem?_eq_getElem (by omega)⟩
 obtain⟨g,o,_,rfl,_,_,_,_⟩:=HX.out 0 x0 hx0
 have HB2:=Lib.hid (HB1.out.trans (hb2.mono HB1.out.size))
 obtain⟨Ao,co,rfl,_⟩:=mx_slice ho
 have HCT:=Lib.hid (fun(X:World) (hX:Below w.heap.size w X)=>(HH.out.below hX).take hnl)
 have hcst: ∀d∈cs.take n,clauseB d=true:=fun d hd=>HCS.out d (List.mem_of_mem_take hd)
 have HF:=ref_follow08 (.slice Ao out.length co) (.slice (some ⟨g,o,none⟩) n k2) out (cs.take n) w2 (IntsIn.of_own ho) (HCT.out w2 HB2.out) (by omega) (by rw[List.length_take];omega) hcst
 obtain⟨⟨F1,F2,F3,F4⟩,hF⟩: ∃F,rFolC out (cs.take n) 0=F:=⟨_,rfl⟩
 rw[hF]at HF htf
 simp only at HF htf
 subst htf
 have HF:=Lib.hid HF
 have HWO:=Lib.hid (show rWo (cs.take n) us=OUT from hwo.trans HO.out)
 have HUS:=Lib.hid husl
 have HUB:=Lib.hid husb
 have HCST:=Lib.hid hcst
 have hslc:=slc_cls g o cs.length k2 n hn1 (by omega)
 have hnk:(n:Int)≤(k2:Int):=by omega
 have HNL:=Lib.hid hnl
 clear ho ho0 ho1 hb2 hwo hF husl husb hcst hx0 hk2
 go_wp2_with fail
 refine HF.out.mono ?_
 rintro e w3 ⟨v3,rfl,ho3,hb3⟩
 have HB3:=Lib.hid (HB2.out.trans (hb3.mono HB2.out.size))
 obtain⟨A3,c3,rfl,_⟩:=mx_slice ho3
 have HI3:=Lib.hid (ints_tail (IntsIn.of_own ho3))
 have hst:=slc_tail A3 (out++us).length c3 out.length (by rw[List.length_append];omega)
 obtain⟨SL,hSL⟩: ∃SL,sliced A3 out.length (out++us).length c3 1=SL:=⟨_,rfl⟩
 rw[hSL]at HI3
 simp only[hSL]at hst
 obtain⟨LA,hLA⟩: ∃LA,(out++us).length=LA:=⟨_,rfl⟩
 rw[hLA]at hst⊢
 have HW:=Lib.hid (fun(X:World) (hX:Below w3.heap.size w3 X)=>ref_without08 (.slice (some ⟨g,o,none⟩) n k2) SL (cs.take n) us X ((HCT.out w3 HB3.out).below hX) (HI3.out.below hX) (by rw[List.length_take];omega) (by rw[HUS.out,List.length_take];have:=HNL.out;omega) (fun d hd=>by have:=clause_len (HCST.out d hd);omega) HUB.out)
 rw[HWO.out]at HW
 clear ho3 hb3 hSL hLA HI3
 go_upto_region 6 with fail
 refine wp_region_held_drew (S:=fun X=>Below w3.heap.size w3 X) (by kernel_rfl) (mx_drew w3) (fun hS=>?_)
 obtain⟨xD,hxD⟩: ∃z,w3.drew=z:=⟨_,rfl⟩
 rw[hxD]at hS⊢
 clear hxD
 refine takeE 0 42 ?_
 refine takeE 1 43 ?_
 refine takeE 2 44 (v:=.slice (some ⟨g,o,none⟩) n k2) ?_
 refine takeE 3 45 ?_
 refine takeE 4 46 ?_
 refine takeE 5 47 ?_
 refine takeE 6 48 (v:=SL) ?_
 refine ready1 7 (fun KK hKK=>?_)
 go_simp
 refine(HW.out _ hS).mono ?_
 rintro e w4 ⟨⟨v4,rfl,ho4⟩,hb4⟩
 have hS2:=hS.trans (hb4.mono hS.size)
 have HB4:=Lib.hid (HB3.out.trans (hS2.mono HB3.out.size))
 have HO4:=Lib.hid (own_mono ho4 (Nat.le_trans HB3.out.size hS.size))
 refine hKK.out _ _ hS2 (fun _=>?_)
 clear hKK ho4 hb4 hS
 refine takeE 8 4 ?_
 refine takeE 9 5 ?_
 refine wpAnyH_done (by kernel_rfl) ?_ _
 go_wp2_with fail
 go_ret2
 exact⟨⟨_,rfl,HO4.out⟩,HB4.out⟩
end Go.Proofs.YtajbmjpodeilpaaGreat
namespace Go.Proofs.YtajbmjpodeilpaaGreat
open Go.RowKit
abbrev StV:=EStep×(Option Addr×Nat)×(Option Addr×Nat)
def stcell (x:StV):List Value:= [.bool x.1.del,.int .i64 x.1.id,(Value.slice x.2.1.1 x.1.lits.length x.2.1.2),(Value.slice x.2.2.1 x.1.hints.length x.2.2.2)]
theorem stcell_at: ∀(K:List StV) (i:Nat) (x:StV),K[i]? =some x→(K.flatMap stcell)[i*4]? =some (.bool x.1.del)∧(K.flatMap stcell)[i*4+1]? =some (.int .i64 x.1.id)∧(K.flatMap stcell)[i*4+2]? =some (Value.slice x.2.1.1 x.1.lits.length x.2.1.2)∧(K.flatMap stcell)[i*4+3]? =some (Value.slice x.2.2.1 x.1.hints.length x.2.2.2)
 | [],i,x,h=>by simp at h
 | y::K,0,x,h=>by
  obtain rfl:y=x:=by simpa using h
  exact⟨rfl,rfl,rfl,rfl⟩
 | y::K,i+1,x,h=>by
  have:=stcell_at K i x (by simpa using h)
  rw[show(i+1)*4=i*4+4 by omega]
  exact this
theorem stinfo:(Tryz.prog.info? 34).map (fun i=>(i.zero,i.size,i.bytes))=some (some (.agg #[.bool false,.int .i64 0,.slice none 0 0,.slice none 0 0]),4,64):=by kernel_rfl
structure StMem (n0:Nat) (w:World) (v:Value) (K:List StV):Prop where
 row:w.ownsRow n0 34 4 v K.length (K.flatMap stcell)
 lit: ∀x∈K,w.ownsRow n0 55 1 (Value.slice x.2.1.1 x.1.lits.length x.2.1.2) x.1.lits.length (x.1.lits.map (Value.int .i64))
 hnt: ∀x∈K,w.ownsRow n0 3 1 (Value.slice x.2.2.1 x.1.hints.length x.2.2.2) x.1.hints.length (x.1.hints.map (Value.int .i64))
section
variable {n0:Nat} {w w1:World} {v v':Value} {K:List StV}
theorem StMem.nil (n0:Nat) (w:World):StMem n0 w (.slice none 0 0) []:=⟨World.ownsRow_nil _ _ _ _,(fun x hx=>by cases hx),(fun x hx=>by cases hx)⟩
theorem StMem.kept {O:Nat→Prop} (h:StMem n0 w v K) (k:Kept O w w1) (h1: ∀g,v.ownBlock=some g→¬O g) (h2: ∀x∈K,∀g,(Value.slice x.2.1.1 x.1.lits.length x.2.1.2).ownBlock=some g→¬O g) (h3: ∀x∈K,∀g,(Value.slice x.2.2.1 x.1.hints.length x.2.2.2).ownBlock=some g→¬O g):StMem n0 w1 v K:=
 ⟨own_kept h.row k h1,fun x hx=>own_kept (h.lit x hx) k (h2 x hx),fun x hx=>own_kept (h.hnt x hx) k (h3 x hx)⟩
theorem StMem.below (h:StMem n0 w v K) (k:Below w.heap.size w w1):StMem n0 w1 v K:=⟨own_below h.row k,fun x hx=>own_below (h.lit x hx) k,fun x hx=>own_below (h.hnt x hx) k⟩
theorem StMem.push (h:StMem n0 w v K) (hg:w.grownBy w1 v.ownBlock) (x:StV) (hr:w1.ownsRow n0 34 4 v' (K.length+1) (K.flatMap stcell++stcell x)) (hl:w.ownsRow n0 55 1 (Value.slice x.2.1.1 x.1.lits.length x.2.1.2) x.1.lits.length (x.1.lits.map (Value.int .i64))) (hh:w.ownsRow n0 3 1 (Value.slice x.2.2.1 x.1.hints.length x.2.2.2) x.1.hints.length (x.1.hints.map (Value.int .i64))):StMem n0 w1 v' (K++ [x]) where
 row:=by
  rw[List.length_append,List.flatMap_append]
  simpa using hr
 lit:=fun y hy=>by
  have hy2:w.ownsRow n0 55 1 (Value.slice y.2.1.1 y.1.lits.length y.2.1.2) y.1.lits.length (y.1.lits.map (Value.int .i64)):=by
   rcases List.mem_append.1 hy with hy|hy
   ·exact h.lit y hy
   ·rw[List.mem_singleton.1 hy];exact hl
  exact own_kept hy2 (Kept.grown hg) (fun g h1 h2=>mx_apart hy2 h.row (by decide) h1 h2.symm)
 hnt:=fun y hy=>by
  have hy2:w.ownsRow n0 3 1 (Value.slice y.2.2.1 y.1.hints.length y.2.2.2) y.1.hints.length (y.1.hints.map (Value.int .i64)):=by
   rcases List.mem_append.1 hy with hy|hy
   ·exact h.hnt y hy
   ·rw[List.mem_singleton.1 hy];exact hh
  exact own_kept hy2 (Kept.grown hg) (fun g h1 h2=>mx_apart hy2 h.row (by decide) h1 h2.symm)
theorem StMem.mono {n1:Nat} (h:StMem n0 w v K) (hn:n1≤n0):StMem n1 w v K:=⟨own_mono h.row hn,fun x hx=>own_mono (h.lit x hx) hn,fun x hx=>own_mono (h.hnt x hx) hn⟩
theorem StMem.stepIn (h:StMem n0 w v K):StepIn (fun g=>n0≤g) w v (K.map Prod.fst):=by
 have hrow:=h.row
 rcases hrow.2 with⟨rfl,h0⟩|⟨g,cap,cur,rfl,hb,hg,hle,_⟩
 ·exact⟨none,0,by rw[List.length_map,h0],by rw[List.length_map,h0];exact Nat.le_refl _,fun _=>rfl,fun i p hi=>by
   have:=(List.getElem?_eq_some_iff.1 hi).1
   rw[List.length_map]at this
   omega⟩
 ·refine⟨_,cap,by rw[List.length_map],by rw[List.length_map];exact hle,(fun h=>by cases h),fun i p hi=>?_⟩
  rw[List.getElem?_map]at hi
  cases hx:K[i]? with
  | none=>rw[hx]at hi;cases hi
  | some x=>
   rw[hx]at hi
   obtain rfl:=Option.some.inj hi
   obtain⟨e0,e1,e2,e3⟩:=stcell_at K i x hx
   have hxm:=List.mem_of_getElem? hx
   exact⟨g,0,(Value.slice x.2.1.1 x.1.lits.length x.2.1.2),(Value.slice x.2.2.1 x.1.hints.length x.2.2.2),rfl,heap_lt hg,hb,by rw[Nat.zero_add];exact mx_at hrow e0,by rw[Nat.zero_add];exact mx_at hrow e1,by rw[Nat.zero_add];exact mx_at hrow e2,by rw[Nat.zero_add];exact mx_at hrow e3,(IntsIn.of_own (h.lit x hxm)).mono fun _ h=>h.1,(IntsIn.of_own (h.hnt x hxm)).mono fun _ h=>h.1⟩
end
end Go.Proofs.YtajbmjpodeilpaaGreat
namespace Go.Proofs.YtajbmjpodeilpaaGreat
open Go.RowKit
theorem rstinfo:(Tryz.prog.info? 78).map (fun i=>(i.zero,i.size,i.bytes))=some (some (.agg #[.bool false,.int .i64 0,.slice none 0 0,.slice none 0 0]),4,64):=by kernel_rfl
structure RStM (n0:Nat) (w:World) (v:Value) (K:List StV):Prop where
 row:w.ownsRow n0 78 4 v K.length (K.flatMap stcell)
 lit: ∀x∈K,w.ownsRow n0 3 1 (Value.slice x.2.1.1 x.1.lits.length x.2.1.2) x.1.lits.length (x.1.lits.map (Value.int .i64))
 hnt: ∀x∈K,w.ownsRow n0 3 1 (Value.slice x.2.2.1 x.1.hints.length x.2.2.2) x.1.hints.length (x.1.hints.map (Value.int .i64))
section
variable {n0:Nat} {w w1:World} {v v':Value} {K:List StV}
theorem RStM.nil (n0:Nat) (w:World):RStM n0 w (.slice none 0 0) []:=⟨World.ownsRow_nil _ _ _ _,(fun x hx=>by cases hx),(fun x hx=>by cases hx)⟩
theorem RStM.kept {O:Nat→Prop} (h:RStM n0 w v K) (k:Kept O w w1) (h1: ∀g,v.ownBlock=some g→¬O g) (h2: ∀x∈K,∀g,(Value.slice x.2.1.1 x.1.lits.length x.2.1.2).ownBlock=some g→¬O g) (h3: ∀x∈K,∀g,(Value.slice x.2.2.1 x.1.hints.length x.2.2.2).ownBlock=some g→¬O g):RStM n0 w1 v K:=
 ⟨own_kept h.row k h1,fun x hx=>own_kept (h.lit x hx) k (h2 x hx),fun x hx=>own_kept (h.hnt x hx) k (h3 x hx)⟩
theorem RStM.below (h:RStM n0 w v K) (k:Below w.heap.size w w1):RStM n0 w1 v K:=⟨own_below h.row k,fun x hx=>own_below (h.lit x hx) k,fun x hx=>own_below (h.hnt x hx) k⟩
theorem RStM.push (h:RStM n0 w v K) (hg:w.grownBy w1 v.ownBlock) (x:StV) (hr:w1.ownsRow n0 78 4 v' (K.length+1) (K.flatMap stcell++stcell x)) (hl:w.ownsRow n0 3 1 (Value.slice x.2.1.1 x.1.lits.length x.2.1.2) x.1.lits.length (x.1.lits.map (Value.int .i64))) (hh:w.ownsRow n0 3 1 (Value.slice x.2.2.1 x.1.hints.length x.2.2.2) x.1.hints.length (x.1.hints.map (Value.int .i64))):RStM n0 w1 v' (K++ [x]) where
 row:=by
  rw[List.length_append,List.flatMap_append]
  simpa using hr
 lit:=fun y hy=>by
  have hy2:w.ownsRow n0 3 1 (Value.slice y.2.1.1 y.1.lits.length y.2.1.2) y.1.lits.length (y.1.lits.map (Value.int .i64)):=by
   rcases List.mem_append.1 hy with hy|hy
   ·exact h.lit y hy
   ·rw[List.mem_singleton.1 hy];exact hl
  exact own_kept hy2 (Kept.grown hg) (fun g h1 h2=>mx_apart hy2 h.row (by decide) h1 h2.symm)
 hnt:=fun y hy=>by
  have hy2:w.ownsRow n0 3 1 (Value.slice y.2.2.1 y.1.hints.length y.2.2.2) y.1.hints.length (y.1.hints.map (Value.int .i64)):=by
   rcases List.mem_append.1 hy with hy|hy
   ·exact h.hnt y hy
   ·rw[List.mem_singleton.1 hy];exact hh
  exact own_kept hy2 (Kept.grown hg) (fun g h1 h2=>mx_apart hy2 h.row (by decide) h1 h2.symm)
theorem RStM.mono {n1:Nat} (h:RStM n0 w v K) (hn:n1≤n0):RStM n1 w v K:=⟨own_mono h.row hn,fun x hx=>own_mono (h.lit x hx) hn,fun x hx=>own_mono (h.hnt x hx) hn⟩
theorem RStM.stepIn (h:RStM n0 w v K):StepIn (fun g=>n0≤g) w v (K.map Prod.fst):=by
 have hrow:=h.row
 rcases hrow.2 with⟨rfl,h0⟩|⟨g,cap,cur,rfl,hb,hg,hle,_⟩
 ·exact⟨none,0,by rw[List.length_map,h0],by rw[List.length_map,h0];exact Nat.le_refl _,fun _=>rfl,fun i p hi=>by
   have:=(List.getElem?_eq_some_iff.1 hi).1
   rw[List.length_map]at this
   omega⟩
 ·refine⟨_,cap,by rw[List.length_map],by rw[List.length_map];exact hle,(fun h=>by cases h),fun i p hi=>?_⟩
  rw[List.getElem?_map]at hi
  cases hx:K[i]? with
  | none=>rw[hx]at hi;cases hi
  | some x=>
   rw[hx]at hi
   obtain rfl:=Option.some.inj hi
   obtain⟨e0,e1,e2,e3⟩:=stcell_at K i x hx
   have hxm:=List.mem_of_getElem? hx
   exact⟨g,0,(Value.slice x.2.1.1 x.1.lits.length x.2.1.2),(Value.slice x.2.2.1 x.1.hints.length x.2.2.2),rfl,heap_lt hg,hb,by rw[Nat.zero_add];exact mx_at hrow e0,by rw[Nat.zero_add];exact mx_at hrow e1,by rw[Nat.zero_add];exact mx_at hrow e2,by rw[Nat.zero_add];exact mx_at hrow e3,(IntsIn.of_own (h.lit x hxm)).mono fun _ h=>h.1,(IntsIn.of_own (h.hnt x hxm)).mono fun _ h=>h.1⟩
end
structure EnMem (n0:Nat) (w:World) (v:Value) (K:List REn):Prop where
 row:w.ownsRow n0 148 2 v K.length (K.flatMap REn.cells)
 lit: ∀x∈K,w.ownsRow n0 3 1 x.2 x.1.2.length (x.1.2.map (Value.int .i64))
theorem EnMem.nil (n0:Nat) (w:World):EnMem n0 w (.slice none 0 0) []:=⟨World.ownsRow_nil _ _ _ _,fun x hx=>by cases hx⟩
theorem EnMem.below {n0:Nat} {w w1:World} {v:Value} {K:List REn} (h:EnMem n0 w v K) (k:Below w.heap.size w w1):EnMem n0 w1 v K:=⟨own_below h.row k,fun x hx=>own_below (h.lit x hx) k⟩
theorem EnMem.push {n0:Nat} {w w1:World} {v v':Value} {K:List REn} (h:EnMem n0 w v K) (hg:w.grownBy w1 v.ownBlock) (x:REn) (hr:w1.ownsRow n0 148 2 v' (K.length+1) (K.flatMap REn.cells++x.cells)) (hl:w.ownsRow n0 3 1 x.2 x.1.2.length (x.1.2.map (Value.int .i64))):EnMem n0 w1 v' (K++ [x]) where
 row:=by
  rw[List.length_append,List.flatMap_append]
  simpa using hr
 lit:=fun y hy=>by
  have hy2:w.ownsRow n0 3 1 y.2 y.1.2.length (y.1.2.map (Value.int .i64)):=by
   rcases List.mem_append.1 hy with hy|hy
   ·exact h.lit y hy
   ·rw[List.mem_singleton.1 hy];exact hl
  exact own_kept hy2 (Kept.grown hg) (fun g h1 h2=>mx_apart hy2 h.row (by decide) h1 h2.symm)
theorem EnMem.ents {n0:Nat} {w:World} {v:Value} {K:List REn} (h:EnMem n0 w v K):EntIn (fun g=>n0≤g) w v (K.map (·.1)):=by
 obtain⟨ho,hl⟩:=h
 rcases ho.2 with⟨rfl,h0⟩|⟨g,cap,cur,rfl,hBg,hg,hle,_⟩
 ·have:K= []:=List.eq_nil_of_length_eq_zero h0
  subst this
  exact⟨none,0,rfl,Nat.le_refl _,fun _=>rfl,fun i p hi=>by simp at hi⟩
 ·refine⟨_,cap,by rw[List.length_map],by rw[List.length_map];omega,(fun h=>by cases h),fun i p hi=>?_⟩
  rw[List.getElem?_map,Option.map_eq_some_iff]at hi
  obtain⟨x,hx,rfl⟩:=hi
  obtain⟨e0,e1⟩:=ricell_at K i x hx
  exact⟨g,0,x.2,rfl,heap_lt hg,hBg,by rw[Nat.zero_add];exact mx_at ho e0,by rw[Nat.zero_add];exact mx_at ho e1,(IntsIn.of_own (hl x (List.mem_of_getElem? hx))).mono fun _ h=>h.1⟩
set_option maxRecDepth 100000 in
set_option maxHeartbeats 4000000 in
theorem theirs_07 {O:Nat→Prop} (u:Value) (ss:List EStep) (w:World) (h:StepIn O w u ss) (hl:ss.length≤1000000) (hcl: ∀s∈ss,s.lits.length≤1000000∧s.hints.length≤1000000):
  Calls Tryz.prog 13 #[u] w fun e w'=> ∃v K,e= .returned v∧RStM w.heap.size w' v K∧K.map Prod.fst=ss∧Below w.heap.size w w':=by
 obtain⟨i0,hi,hz0,hz1,hz2⟩:=info_parts rstinfo
 have HC:=Lib.hid h
 have HCL:=Lib.hid hcl
 obtain⟨A,c,rfl,hc,_⟩:=h
 clear hcl
 go_enter Tryz.func13,Tryz.ntmps13
 go_wp2_with fail
 go_loopw [3,8] (fun v i wr=> ∃(k:Nat) (K:List StV),k≤ss.length∧i= .int .i64 k∧Hid (K.map Prod.fst=ss.take k)∧Hid (Below w.heap.size w wr)∧Hid (RStM w.heap.size wr v K)) (fun _ i _=>ss.length-(intOf i).toNat)
 case atStart=>exact⟨0,[],Nat.zero_le _,rfl,Lib.hid rfl,Lib.hid (Below.refl _ _),Lib.hid (RStM.nil _ _)⟩
 case round=>
  obtain⟨k,K,hk,rfl,HKM,HB,HR⟩:=hrel
  have hKl:K.length=k:=by
   have:=congrArg List.length HKM.out
   rw[List.length_map,List.length_take]at this
   omega
  have HKL:=Lib.hid hKl
  have h1:=HR.out.row
  rw[hKl]at h1
  obtain⟨Ao,co,rfl,_⟩:=mx_slice h1
  have HO1:=Lib.hid h1
  clear hKl h1
  by_cases hlt:k<ss.length
  ·obtain⟨x,hxk⟩:=getElem_of hlt
   obtain⟨xd,xi,xl,xh⟩:=x
   have HXL:=Lib.hid (HCL.out _ (List.mem_of_getElem? hxk))
   obtain⟨A',c',hv,_,_,hx⟩:=HC.out
   simp only[Value.slice.injEq,true_and]at hv
   obtain⟨rfl,rfl⟩:=hv
   obtain⟨g,o,ul,uh,rfl,hg,_,d0,d1,d2,d3,hul,huh⟩:=hx k _ hxk
   simp only at d0 d1 d2 d3 hul huh
   have d0:=(HB.out.cell (p:=⟨g,o+k*4,none⟩) hg).trans d0
   have d1:=(HB.out.cell (p:=⟨g,o+k*4+1,none⟩) hg).trans d1
   have d2:=(HB.out.cell (p:=⟨g,o+k*4+2,none⟩) hg).trans d2
   have d3:=(HB.out.cell (p:=⟨g,o+k*4+3,none⟩) hg).trans d3
   have hul:=hul.below HB.out
   have huh:=huh.below HB.out
   obtain⟨Al,cl,rfl,_⟩:=id hul
   obtain⟨Ah,ch,rfl,_⟩:=id huh
   obtain⟨W1,hW1,hb1,hx1,hz1'⟩:=al_new wr #[.bool xd,.int .i64 xi,.slice Al xl.length cl,.slice Ah xh.length ch] 34
   have HM:=Lib.hid (fun(X:World) (hX:Below W1.heap.size W1 X)=>ints02 (.slice Al xl.length cl) xl X ((hul.below hb1).below hX) HXL.out.1)
   have HN:=Lib.hid (fun(X:World) (hX:Below W1.heap.size W1 X)=>clone_i (.slice Ah xh.length ch) xh X ((huh.below hb1).below hX) (by have:=HXL.out.2;simp only at this;omega))
   have HTK:=Lib.hid (show ss.take (k+1)=ss.take k++ [⟨xd,xi,xl,xh⟩]from by
    rw[List.take_add_one,hxk]
    rfl)
   have HX1:=Lib.hid hx1
   have HW1:=Lib.hid hW1
   have HB1:=Lib.hid hb1
   have hbl:=heap_lt hx1
   have hwz:=HB.out.size
   clear hxk hx hul huh hx1 hb1 hW1
   go_upto_region 5 with fail
   rw[HW1.out]
   clear d0 d1 d2 d3
   have hbD:=mx_drew W1
   have c4: ∀X,Below W1.heap.size W1 X→X.cell? ⟨wr.heap.size,0,none⟩=some (.bool xd)∧X.cell? ⟨wr.heap.size,1,none⟩=some (.int .i64 xi)∧X.cell? ⟨wr.heap.size,2,none⟩=some (.slice Al xl.length cl)∧X.cell? ⟨wr.heap.size,3,none⟩=some (.slice Ah xh.length ch):=fun X hX=>⟨(hX.cell (p:=⟨wr.heap.size,0,none⟩) hbl).trans (mx_cell (j:=0) HX1.out),(hX.cell (p:=⟨wr.heap.size,1,none⟩) hbl).trans (mx_cell (j:=1) HX1.out),(hX.cell (p:=⟨wr.heap.size,2,none⟩) hbl).trans (mx_cell (j:=2) HX1.out),(hX.cell (p:=⟨wr.heap.size,3,none⟩) hbl).trans (mx_cell (j:=3) HX1.out)⟩
   refine wp_region_held_drew (S:=fun X=>X.cell? ⟨wr.heap.size,0,none⟩=some (.bool xd)∧X.cell? ⟨wr.heap.size,1,none⟩=some (.int .i64 xi)∧X.cell? ⟨wr.heap.size,2,none⟩=some (.slice Al xl.length cl)∧X.cell? ⟨wr.heap.size,3,none⟩=some (.slice Ah xh.length ch)) (by kernel_rfl) (c4 _ hbD) (fun hS=>?_)
   obtain⟨xD,hxD⟩: ∃z,W1.drew=z:=⟨_,rfl⟩
   rw[hxD]at hS hbD⊢
   clear hxD
   refine takeE 0 12 ?_
   refine takeE 1 13 ?_
   refine takeF 2 14 (fun wq hSw=>hSw.1) ?_
   refine takeE 3 15 ?_
   refine takeF 4 16 (fun wq hSw=>hSw.2.1) ?_
   refine takeE 5 17 ?_
   refine takeF 6 18 (fun wq hSw=>hSw.2.2.1) ?_
   refine takeE 8 20 ?_
   refine takeF 9 21 (fun wq hSw=>hSw.2.2.2) ?_
   refine ready1 7 (fun KK hKK=>?_)
   go_simp
   refine(HM.out _ hbD).mono ?_
   rintro e w1 ⟨vx,rfl,hox,hb1⟩
   have hbr1:=hbD.trans (hb1.mono hbD.size)
   refine hKK.out _ _ (c4 _ hbr1) (fun _=>?_)
   clear hKK
   refine ready1 10 (fun KK hKK=>?_)
   go_simp
   refine(HN.out _ hbr1).mono ?_
   rintro e w1' ⟨vh,rfl,hoh,hb1'⟩
   have hbr1':=hbr1.trans (hb1'.mono hbr1.size)
   refine hKK.out _ _ (c4 _ hbr1') (fun _=>?_)
   clear hKK
   obtain⟨Ax,cx,rfl,_⟩:=mx_slice hox
   obtain⟨Az,cz,rfl,_⟩:=mx_slice hoh
   refine takeE 11 23 ?_
   refine ready1 12 (fun KK hKK=>?_)
   go_simp
   obtain⟨w2,hw2,hb2,-,hzw2⟩:=al_new w1' #[.bool xd,.int .i64 xi,.slice Ax xl.length cx,.slice Az xh.length cz] 78
   rw[hw2]
   have hbr2:=hbr1'.trans (hb2.mono hbr1'.size)
   refine hKK.out _ _ (c4 _ hbr2) (fun _=>?_)
   clear hKK
   have hwz1:=hbr1.size
   have hwz1':=hbr1'.size
   have hwz2:=hbr2.size
   have hbw2:=HB1.out.trans (hbr2.mono (by omega))
   refine ready1 13 (fun KK hKK=>?_)
   rw[if_pos (by rfl)]
   refine wp_append_at 25 (by rfl) _ _ 40 rfl w.heap.size 78 i0 (.agg #[.bool false,.int .i64 0,.slice none 0 0,.slice none 0 0]) 4 64 Tryz.underlying40 hi hz0 hz1 hz2 rfl (by decide) _ k _ (by rfl) (own_below HO1.out hbw2) ⟨w1'.heap.size,0,none⟩ 1 1 [.bool xd,.int .i64 xi,.slice Ax xl.length cx,.slice Az xh.length cz] (by rfl) rfl (by rw[←hw2];exact cells_list_new _ _ _) (by simp[Value.oneCell']) (by unfold maxLen;omega) (by omega) (by omega) ?_
   intro v' w4 hown hgrow hat
   obtain⟨Av,cv,rfl,_⟩:=mx_slice hown
   have hgk:=Kept.grown hgrow
   have hblk:=(hgk.block wr.heap.size (Nat.lt_of_lt_of_le hbl hwz2) (fun e=>by
    have:=(own_lt HO1.out _ e.symm).2
    omega)).trans ((hbr2.block _ hbl).trans HX1.out)
   have hpush:=RStM.push (HR.out.below hbw2) hgrow (⟨xd,xi,xl,xh⟩,(Ax,cx),(Az,cz)) (by rw[HKL.out];exact hown) (own_below (own_below (own_mono hox (by have:=hbD.size;omega)) hb1') hb2) (own_below (own_mono hoh (by have:=hbr1.size;omega)) hb2)
   have HP:=Lib.hid hpush
   have HB4:=Lib.hid ((HB.out.trans (hbw2.mono hwz)).grown hgrow (by omega) (fun g hg=>(own_lt HO1.out g hg).1))
   refine hKK.out _ _ ⟨mx_cell (j:=0) hblk,mx_cell (j:=1) hblk,mx_cell (j:=2) hblk,mx_cell (j:=3) hblk⟩ (fun _=>?_)
   clear hKK hown hgrow hat hgk hblk hpush hox hoh hb1 hb1' hb2 hbr1 hbr1' hbr2 hbD hw2 hzw2 hbw2 hS c4
   simp only[Act.put,List.setIfInBounds_toArray,List.set_cons_zero,List.set_cons_succ]
   refine takeE 14 3 ?_
   refine wpAnyH_done (by kernel_rfl) ?_ _
   go_wp2_with fail
   go_roundw
   case rel=>exact⟨k+1,_,by omega,by go_num,Lib.hid (by rw[List.map_append,HKM.out,HTK.out];rfl),HB4,HP⟩
   case measure=>simp[intOf];omega
  ·obtain rfl:k=ss.length:=by omega
   have HKF:=Lib.hid (show K.map Prod.fst=ss from by rw[HKM.out,List.take_length])
   go_wp2_with fail
   go_ret
   exact⟨_,K,rfl,HR.out,HKF.out,HB.out⟩
end Go.Proofs.YtajbmjpodeilpaaGreat
namespace Go.Proofs.YtajbmjpodeilpaaGreat
open Go.RowKit
end Go.Proofs.YtajbmjpodeilpaaGreat
namespace Go.Proofs.YtajbmjpodeilpaaGreat
open Go.RowKit Go.Maps
def repZ:Value:=.agg #[.bool false,.int .i64 0,.int .i64 0,.int .i64 0,.int .i64 0]
def runRep (r:Ckr×Nat×Nat):Value:=if runE r=0 then r.1.rep else repZ
theorem res_chk456 {fn:Func} (h:fn.results= #[.cell 4 43,.tmp 5,.tmp 6]) {w:World} {r:Nat} {c0 c1 c2 c3 c4:Value} {t:TypeId} (hb:w.heap[r]? =some (.cells #[c0,c1,c2,c3,c4] t (0,0))) (tmps:Array Value) (t4:tmps[4]?.getD undef= .pointer (some ⟨r,0,none⟩)):
  (results fn tmps).run Tryz.prog w= .ok (.tuple #[.agg #[c0,c1,c2,c3,c4],tmps[5]?.getD undef,tmps[6]?.getD undef]) w:=by
 have p0:w.cell? ⟨r,0,none⟩=some c0:=mx_cell (j:=0) hb
 have p1:w.cell? ⟨r,1,none⟩=some c1:=mx_cell (j:=1) hb
 have p2:w.cell? ⟨r,2,none⟩=some c2:=mx_cell (j:=2) hb
 have p3:w.cell? ⟨r,3,none⟩=some c3:=mx_cell (j:=3) hb
 have p4:w.cell? ⟨r,4,none⟩=some c4:=mx_cell (j:=4) hb
 simp[results,h,go_sem,t4,p0,p1,p2,p3,p4]
theorem rep_err {R:Ckr×Nat×Nat} {k:Ckr} {n e E:Nat} (hR:R=(k,n,e)) (hE:runE R=E) (h0:E≠0):Ending.returned (.tuple #[.agg #[.bool false,.int .i64 0,.int .i64 0,.int .i64 0,.int .i64 0],.int .i64 (n:Int),.int .i64 (E:Int)])= .returned (.tuple #[runRep R,.int .i64 (R.2.1:Nat),.int .i64 (runE R:Nat)]):=by
 unfold runRep
 rw[hE,if_neg h0,hR]
 rfl
theorem rep_ok {R:Ckr×Nat×Nat} {k:Ckr} {n:Nat} {a d r l:Int} (hR:R=(k,n,0)) (hp:k.proved=true) (hf:k.rep= .agg #[.bool true,.int .i64 a,.int .i64 d,.int .i64 r,.int .i64 l]):Ending.returned (.tuple #[.agg #[.bool true,.int .i64 a,.int .i64 d,.int .i64 r,.int .i64 l],.int .i64 (n:Int),.int .i64 0])= .returned (.tuple #[runRep R,.int .i64 (R.2.1:Nat),.int .i64 (runE R:Nat)]):=by
 have hE:runE R=0:=by
  rw[hR]
  show(if(0:Nat)≠0 then _ else if k.proved=true then 0 else 101)=0
  rw[hp]
  rfl
 unfold runRep
 rw[hE,if_pos rfl,hR]
 simp only
 rw[hf]
 rfl
theorem run_step {k:Ckr} {l:List EStep} {j:Nat} {s:EStep} (h:l[j]? =some s) (n:Nat):runGo k (l.drop j) n=if k.proved=true then(k,n,0)else if(k.do_ s).2.2.2≠0 then((k.do_ s).1,n,(k.do_ s).2.2.2)else runGo (k.do_ s).1 (l.drop (j+1)) (n+1):=by
 have hlt:=(List.getElem?_eq_some_iff.1 h).1
 rw[List.drop_eq_getElem_cons hlt]
 rw[List.getElem?_eq_getElem hlt]at h
 rw[Option.some.inj h]
 rfl
theorem run_nil (k:Ckr) (n:Nat):runGo k [] n=(k,n,0):=rfl
set_option maxRecDepth 100000 in
set_option maxHeartbeats 4000000 in
theorem proof_check {O Os:Nat→Prop} (n:Int) (lv sv:Value) (cs:List (List Int)) (l:List EStep) (w:World) (h:ClsIn O w lv cs) (hc: ∀c∈cs,clauseB c=true) (hn:cs.length≤1000) (hf:fchk n cs=(-1,0)) (hs:StepIn Os w sv l) (hl:l.length≤1000) (hls: ∀s∈l,s.lits.length≤100000000∧s.hints.length≤100000000):
  Calls Tryz.prog 14 #[.agg #[.int .i64 n,lv],sv] w fun e w'=>e= .returned (.tuple #[runRep (runGo (ckrNew cs) l 0),.int .i64 ((runGo (ckrNew cs) l 0).2.1:Nat),.int .i64 (runE (runGo (ckrNew cs) l 0):Nat)])∧Below w.heap.size w w':=by
 obtain⟨W0,hW0⟩: ∃x,w.alloc (.cells #[.int .i64 n,lv] 24)=x:=⟨_,rfl⟩
 obtain⟨W1,hW1⟩: ∃x,W0.alloc (.cells #[.bool false,.int .i64 0,.int .i64 0,.int .i64 0,.int .i64 0] 43)=x:=⟨_,rfl⟩
 have hb0:Below w.heap.size w W0:=by rw[←hW0];exact mx_al _ _
 have hb1:Below W0.heap.size W0 W1:=by rw[←hW1];exact mx_al _ _
 have hz0:W0.heap.size=w.heap.size+1:=by rw[←hW0];simp
 have hz1:W1.heap.size=w.heap.size+2:=by rw[←hW1];simp[hz0]
 have hbf:W0.heap[w.heap.size]? =some (.cells #[.int .i64 n,lv] 24 (0,0)):=by rw[←hW0];exact World.alloc_heap_new _ _
 have hbf1:=(hb1.block _ (heap_lt hbf)).trans hbf
 have b0:W1.cell? ⟨w.heap.size,0,none⟩=some (.int .i64 n):=mx_cell (j:=0) hbf1
 have b1:W1.cell? ⟨w.heap.size,1,none⟩=some lv:=mx_cell (j:=1) hbf1
 have hbr:W1.heap[w.heap.size+1]? =some (.cells #[.bool false,.int .i64 0,.int .i64 0,.int .i64 0,.int .i64 0] 43 (0,0)):=by rw[←hW1,←hz0];exact World.alloc_heap_new _ _
 have hbw:Below w.heap.size w W1:=hb0.trans (hb1.mono (by omega))
 have HNEW:=Lib.hid (ck_new n lv cs W1 (h.below hbw) hc hn hf)
 have HBX:=Lib.hid (fun(X:World) (hx:Below W1.heap.size W1 X)=>show X.heap[w.heap.size+1]? =some (.cells #[.bool false,.int .i64 0,.int .i64 0,.int .i64 0,.int .i64 0] 43 (0,0))∧Below w.heap.size w X from⟨(hx.block _ (heap_lt hbr)).trans hbr,hbw.trans (hx.mono hbw.size)⟩)
 have HSI:=Lib.hid (fun(X:World) (hx:Below W1.heap.size W1 X)=>(hs.below hbw).below hx)
 obtain⟨R,hR⟩: ∃R,runGo (ckrNew cs) l 0=R:=⟨_,rfl⟩
 rw[hR]
 have HR:=Lib.hid (show R=runGo (ckrNew cs) (l.drop 0) 0 from by rw[List.drop_zero];exact hR.symm)
 have HOK:=Lib.hid (show(ckrNew cs).Ok (1000+0)from by rw[ckrNew_of];exact ckrOf_ok hc hn (Nat.zero_le _))
 have HLS:=Lib.hid hls
 obtain⟨A,c,rfl,hcc,_⟩:=h
 obtain⟨As,cs',rfl,hcs,_⟩:=hs
 have HW0:=Lib.hid hW0
 have HW1:=Lib.hid hW1
 clear hb0 hb1 hbf hbf1 hbr hbw hR hc hf hls hW0 hW1
 go_enter Tryz.func14,Tryz.ntmps14
 go_upto_region 1 with fail
 try rw[HW0.out]
 try rw[HW1.out]
 go_wp2_with fail
 refine wp_scope_straight ?_
 go_wp2_with fail
 refine HNEW.out.mono ?_
 rintro e w2 ⟨b,rfl,hck,hb2⟩
 have HCK:=Lib.hid hck
 have HB2:=Lib.hid hb2
 clear hck hb2 HNEW b0 b1
 go_wp2_with fail
 refine wp_label ?_
 go_wp2_with fail
 go_loopw [8,9] (fun ev iv wr=> ∃(k:Nat) (kk:Ckr),k≤l.length∧ev= .int .i64 0∧iv= .int .i64 k∧Hid (R=runGo kk (l.drop k) k)∧Hid (kk.Ok (1000+k))∧Hid (CkAt W1.heap.size wr b kk)∧Hid (Below W1.heap.size W1 wr)) (fun _ i _=>l.length-(intOf i).toNat)
 case atStart=>exact⟨0,ckrNew cs,Nat.zero_le _,rfl,rfl,HR,HOK,HCK,HB2⟩
 case round=>
  obtain⟨k,kk,hk,rfl,rfl,HRk,HOKk,HCKk,HBk⟩:=hrel
  obtain⟨p,hp⟩: ∃p,kk.proved=p:=⟨_,rfl⟩
  have hpv:=ck_proved b kk wr HCKk.out
  have hrp:=ck_report b kk wr HCKk.out
  unfold Ckr.rep at hrp
  obtain⟨ra,hra⟩: ∃p,kk.adds=p:=⟨_,rfl⟩
  obtain⟨rd,hrd⟩: ∃p,kk.dels=p:=⟨_,rfl⟩
  obtain⟨rr,hrr⟩: ∃p,kk.rats=p:=⟨_,rfl⟩
  obtain⟨rl,hrl⟩: ∃p,kk.largest=p:=⟨_,rfl⟩
  rw[hp]at hpv hrp
  rw[hra,hrd,hrr,hrl]at hrp
  have HPV:=Lib.hid hpv
  have HREP:=Lib.hid hrp
  have HP:=Lib.hid hp
  have HRF:=Lib.hid (show kk.rep= .agg #[.bool p,.int .i64 ra,.int .i64 rd,.int .i64 rr,.int .i64 rl]from by unfold Ckr.rep;rw[hp,hra,hrd,hrr,hrl])
  clear hpv hrp hp hra hrd hrr hrl
  by_cases hlt:k<l.length
  ·obtain⟨s,hs⟩:=getElem_of hlt
   have hst:=HRk.out.trans (run_step hs k)
   rw[HP.out]at hst
   cases p with
   | true=>
    have HRZ:=Lib.hid (rep_ok (R:=R) (n:=k) (hst.trans (if_pos rfl)) HP.out HRF.out)
    clear hs hst
    go_wp2_with fail
    refine HPV.out.mono ?_
    rintro e w' ⟨rfl,rfl⟩
    go_wp2_with fail
    refine HPV.out.mono ?_
    rintro e w' ⟨rfl,rfl⟩
    go_wp2_with fail
    refine HREP.out.mono ?_
    rintro e w6 ⟨rfl,hb6⟩
    obtain⟨hbx,hlow⟩:=HBX.out w6 (HBk.out.trans (hb6.mono HBk.out.size))
    have r0:=mx_cell (j:=0) hbx
    have r1:=mx_cell (j:=1) hbx
    have r2:=mx_cell (j:=2) hbx
    have r3:=mx_cell (j:=3) hbx
    have r4:=mx_cell (j:=4) hbx
    have f0:=free_at (j:=0) hbx
    have f1:=free_at (j:=1) hbx
    have f2:=free_at (j:=2) hbx
    have f3:=free_at (j:=3) hbx
    have f4:=free_at (j:=4) hbx
    obtain⟨wy,hwy,hby,hky⟩:=five_setR hbx (.bool true) (.int .i64 ra) (.int .i64 rd) (.int .i64 rr) (.int .i64 rl)
    have HBY:=Lib.hid hby
    have HFIN:=Lib.hid (hlow.trans (hky.below (fun i e=>by rw[e];exact Nat.le_succ _) hlow.size))
    clear hbx hlow hky hby hb6
    go_wp2_with fail
    try rw[hwy]
    rw[Exit.noGoto_ret]
    refine bodyPost_ret (res_chk456 rfl HBY.out _ rfl) rfl ?_
    exact⟨HRZ.out,HFIN.out⟩
   | false=>
    have hst2:=hst.trans (if_neg (by decide))
    obtain⟨A',c',hAc,_,_,hxs⟩:=HSI.out wr HBk.out
    simp only[Value.slice.injEq,true_and]at hAc
    obtain⟨rfl,rfl⟩:=hAc
    obtain⟨g,o,ul,uh,rfl,hg,_,d0,d1,d2,d3,hul,huh⟩:=hxs k s hs
    obtain⟨hl1,hl2⟩:=HLS.out s (List.mem_of_getElem? hs)
    have HDO:=Lib.hid (ck_do_all b kk s ul uh wr HCKk.out HBk.out.size HOKk.out (by omega) hul huh (by omega) (by omega))
    have HOKn:=Lib.hid (do_ok (s:=s) HOKk.out)
    obtain⟨D,hD⟩: ∃D,kk.do_ s=D:=⟨_,rfl⟩
    rw[hD]at HDO HOKn hst2
    have HST:=Lib.hid hst2
    obtain⟨Dk,Dt,Di,De⟩:=D
    obtain⟨Aul,cul,rfl,_⟩:=hul
    obtain⟨Auh,cuh,rfl,_⟩:=huh
    clear hs hst hst2 hxs hD
    go_wp2_with fail
    refine HPV.out.mono ?_
    rintro e w' ⟨rfl,rfl⟩
    go_wp2_with fail
    refine HDO.out.mono ?_
    rintro e w5 ⟨rfl,hck5,hb5,-⟩
    have HCK5:=Lib.hid hck5
    have HB5:=Lib.hid (HBk.out.trans hb5)
    clear hck5 hb5 HDO d0 d1 d2 d3
    by_cases hE:De=0
    ·subst hE
     have HRn:=Lib.hid (show R=runGo Dk (l.drop (k+1)) (k+1)from HST.out.trans (if_neg (fun h=>h rfl)))
     clear HST
     go_wp2_with fail
     go_roundw
     case rel=>exact⟨k+1,Dk,by omega,rfl,by go_num,HRn,HOKn,HCK5,HB5⟩
     case measure=>simp[intOf];omega
    ·have q0:((De:Int)==0)=false:=beq_eq_false_iff_ne.2 (by omega)
     have q1:((De:Int) != 0)=true:=by rw[bne,q0];rfl
     have HRZ:=Lib.hid (rep_err (R:=R) (n:=k) (E:=De) (k:=Dk) (HST.out.trans (if_pos hE)) (by rw[HST.out.trans (if_pos hE)];exact if_pos hE) hE)
     obtain⟨wz,hwz⟩: ∃z,w5=z:=⟨_,rfl⟩
     have HBZ:=Lib.hid (show Below W1.heap.size W1 wz from hwz▸HB5.out)
     rw[hwz]
     clear HST hE hwz
     obtain⟨hbx,hlow⟩:=HBX.out wz HBZ.out
     have r0:=mx_cell (j:=0) hbx
     have r1:=mx_cell (j:=1) hbx
     have r2:=mx_cell (j:=2) hbx
     have r3:=mx_cell (j:=3) hbx
     have r4:=mx_cell (j:=4) hbx
     have f0:=free_at (j:=0) hbx
     have f1:=free_at (j:=1) hbx
     have f2:=free_at (j:=2) hbx
     have f3:=free_at (j:=3) hbx
     have f4:=free_at (j:=4) hbx
     obtain⟨wy,hwy,hby,hky⟩:=five_setR hbx (.bool false) (.int .i64 0) (.int .i64 0) (.int .i64 0) (.int .i64 0)
     have HBY:=Lib.hid hby
     have HFIN:=Lib.hid (hlow.trans (hky.below (fun i e=>by rw[e];exact Nat.le_succ _) hlow.size))
     clear hbx hlow hky hby
     go_wp2_with fail
     try rw[hwy]
     rw[Exit.noGoto_ret]
     refine bodyPost_ret (res_chk456 rfl HBY.out _ rfl) rfl ?_
     exact⟨HRZ.out,HFIN.out⟩
  ·obtain rfl:k=l.length:=by omega
   have hst:R=(kk,l.length,0):=by rw[HRk.out,List.drop_length,run_nil]
   cases p with
   | true=>
    have HRZ:=Lib.hid (rep_ok (R:=R) (n:=l.length) hst HP.out HRF.out)
    clear hst
    go_wp2_with fail
    refine HPV.out.mono ?_
    rintro e w' ⟨rfl,rfl⟩
    go_wp2_with fail
    refine HREP.out.mono ?_
    rintro e w6 ⟨rfl,hb6⟩
    obtain⟨hbx,hlow⟩:=HBX.out w6 (HBk.out.trans (hb6.mono HBk.out.size))
    have r0:=mx_cell (j:=0) hbx
    have r1:=mx_cell (j:=1) hbx
    have r2:=mx_cell (j:=2) hbx
    have r3:=mx_cell (j:=3) hbx
    have r4:=mx_cell (j:=4) hbx
    have f0:=free_at (j:=0) hbx
    have f1:=free_at (j:=1) hbx
    have f2:=free_at (j:=2) hbx
    have f3:=free_at (j:=3) hbx
    have f4:=free_at (j:=4) hbx
    obtain⟨wy,hwy,hby,hky⟩:=five_setR hbx (.bool true) (.int .i64 ra) (.int .i64 rd) (.int .i64 rr) (.int .i64 rl)
    have HBY:=Lib.hid hby
    have HFIN:=Lib.hid (hlow.trans (hky.below (fun i e=>by rw[e];exact Nat.le_succ _) hlow.size))
    clear hbx hlow hky hby hb6
    go_wp2_with fail
    try rw[hwy]
    rw[Exit.noGoto_ret]
    refine bodyPost_ret (res_chk456 rfl HBY.out _ rfl) rfl ?_
    exact⟨HRZ.out,HFIN.out⟩
   | false=>
    have HRZ:=Lib.hid (rep_err (R:=R) (n:=l.length) (E:=101) (k:=kk) hst (by
     rw[hst]
     show(if(0:Nat)≠0 then _ else if kk.proved=true then 0 else 101)=101
     rw[HP.out]
     rfl) (by decide))
    have HBZ:=Lib.hid HBk.out
    clear hst
    go_wp2_with fail
    refine HPV.out.mono ?_
    rintro e w' ⟨rfl,rfl⟩
    obtain⟨wz,hwz⟩: ∃z,wr=z:=⟨_,rfl⟩
    rw[hwz]at HBZ⊢
    clear hwz
    obtain⟨hbx,hlow⟩:=HBX.out wz HBZ.out
    have r0:=mx_cell (j:=0) hbx
    have r1:=mx_cell (j:=1) hbx
    have r2:=mx_cell (j:=2) hbx
    have r3:=mx_cell (j:=3) hbx
    have r4:=mx_cell (j:=4) hbx
    have f0:=free_at (j:=0) hbx
    have f1:=free_at (j:=1) hbx
    have f2:=free_at (j:=2) hbx
    have f3:=free_at (j:=3) hbx
    have f4:=free_at (j:=4) hbx
    obtain⟨wy,hwy,hby,hky⟩:=five_setR hbx (.bool false) (.int .i64 0) (.int .i64 0) (.int .i64 0) (.int .i64 0)
    have HBY:=Lib.hid hby
    have HFIN:=Lib.hid (hlow.trans (hky.below (fun i e=>by rw[e];exact Nat.le_succ _) hlow.size))
    clear hbx hlow hky hby
    go_wp2_with fail
    try rw[hwy]
    rw[Exit.noGoto_ret]
    refine bodyPost_ret (res_chk456 rfl HBY.out _ rfl) rfl ?_
    exact⟨HRZ.out,HFIN.out⟩
end Go.Proofs.YtajbmjpodeilpaaGreat
