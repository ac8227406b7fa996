/- package proof: Trim, at a right formula. -/
import Derived.Test.YtajbmjpodeilpaaGreatDoorV226
import Derived.Test.YtajbmjpodeilpaaGreatDoorV227
import Derived.Test.YtajbmjpodeilpaaGreatDoorV221
import Derived.Test.YtajbmjpodeilpaaGreatDoorV220
namespace Go.Proofs.YtajbmjpodeilpaaGreatDoor
open Go.RowKit Go.Shelf Go.Maps
attribute [local go_sem] Oper.semAt_some
theorem cell_cells {w:World} {p:Addr} {v:Value} (h:w.cell? p=some v): ∃o:Obj,w.heap[p.block]? =some o∧o.isCells=true:=by
 unfold World.cell? at h
 cases ho:w.heap[p.block]? with
 | none=>rw[ho]at h;cases h
 | some o=>
  refine⟨o,rfl,?_⟩
  rw[ho]at h
  cases o <;> simp_all [Obj.isCells]
theorem ckf_not {b:Nat} {w:World} {p:Addr} {v:Value} (h:w.cell? p=some v) (hb:p.block≠b): ¬(p.block=b∨∃o:Obj,w.heap[p.block]? =some o∧o.isCells=false):=by
 obtain⟨o,h1,h2⟩:=cell_cells h
 rintro (e|⟨o',h3,h4⟩)
 ·exact hb e
 ·rw[h1]at h3
  cases h3
  rw[h2]at h4
  cases h4
theorem CkF.cell {b:Nat} {w w':World} (k:CkF b w w') {p:Addr} {v:Value} (h:w.cell? p=some v) (hb:p.block≠b):w'.cell? p=some v:=
 (Kept.cell k (World.block_lt_of_cell? w _ h) (ckf_not h hb)).trans h
theorem IntsIn.ckf {b:Nat} {w w':World} {v:Value} {xs:List Int} (h:IntsIn (fun g=>g≠b) w v xs) (k:CkF b w w'):IntsIn (fun g=>g≠b) w' v xs:=by
 obtain⟨A,c,hv,hc,hn,hx⟩:=h
 refine⟨A,c,hv,hc,hn,fun i x hi=>?_⟩
 obtain⟨g,o,h1,h2,h3,h4⟩:=hx i x hi
 exact⟨g,o,h1,Nat.lt_of_lt_of_le h2 k.size,h3,k.cell h4 h3⟩
theorem ClsIn.ckf {b:Nat} {w w':World} {v:Value} {cs:List (List Int)} (h:ClsIn (fun g=>g≠b) w v cs) (k:CkF b w w'):ClsIn (fun g=>g≠b) w' v cs:=by
 obtain⟨A,c,hv,hc,hn,hx⟩:=h
 refine⟨A,c,hv,hc,hn,fun i x hi=>?_⟩
 obtain⟨g,o,u,h1,h2,h3,h4,h5⟩:=hx i x hi
 exact⟨g,o,u,h1,Nat.lt_of_lt_of_le h2 k.size,h3,k.cell h4 h3,h5.ckf k⟩
theorem CkF.block {b:Nat} {w w':World} (k:CkF b w w') {g:Nat} {cs:Array Value} {t:TypeId} {z:Nat×Nat} (h:w.heap[g]? =some (.cells cs t z)) (hb:g≠b):w'.heap[g]? =some (.cells cs t z):=
 (Kept.block k g (heap_lt h) (by
  rintro (e|⟨o,h1,h2⟩)
  ·exact hb e
  ·rw[h]at h1
   cases h1
   cases h2)).trans h
theorem four_setR {w5:World} {yb:Nat} {z0 z1 z2 z3:Value} {t:TypeId} (hb:w5.heap[yb]? =some (.cells #[z0,z1,z2,z3] t (0,0))) (a0 a1 a2 a3:Value): ∃wy,((((w5.setCell ⟨yb,0,none⟩ a0).setCell ⟨yb,1,none⟩ a1).setCell ⟨yb,2,none⟩ a2).setCell ⟨yb,3,none⟩ a3)=wy∧wy.heap[yb]? =some (.cells #[a0,a1,a2,a3] t (0,0))∧Kept (fun g=>g=yb) w5 wy:=by
 refine⟨_,rfl,?_,?_⟩
 ·have h1:=mx_set hb (j:=0) a0
  have h2:=mx_set h1 (j:=1) a1
  have h3:=mx_set h2 (j:=2) a2
  have h4:=mx_set h3 (j:=3) a3
  exact h4
 ·exact(((((Kept.refl (fun g=>g=yb) w5).setCell ⟨yb,0,none⟩ a0 rfl).setCell ⟨yb,1,none⟩ a1 rfl).setCell ⟨yb,2,none⟩ a2 rfl).setCell ⟨yb,3,none⟩ a3 rfl)
theorem four_new (w:World) (a0 a1 a2 a3:Value): ∃W1 W3,w.alloc (.cells #[.bool false,.int .i64 0,.slice none 0 0,.slice none 0 0] 34)=W1∧((((W1.setCell ⟨w.heap.size,0,none⟩ a0).setCell ⟨w.heap.size,1,none⟩ a1).setCell ⟨w.heap.size,2,none⟩ a2).setCell ⟨w.heap.size,3,none⟩ a3)=W3∧
  W1.heap[w.heap.size]? =some (.cells #[.bool false,.int .i64 0,.slice none 0 0,.slice none 0 0] 34 (0,0))∧W3.heap[w.heap.size]? =some (.cells #[a0,a1,a2,a3] 34 (0,0))∧Below w.heap.size w W3:=by
 have h1:(w.alloc (.cells #[.bool false,.int .i64 0,.slice none 0 0,.slice none 0 0] 34)).heap[w.heap.size]? =some (.cells #[.bool false,.int .i64 0,.slice none 0 0,.slice none 0 0] 34 (0,0)):=World.alloc_heap_new _ _
 obtain⟨W3,h2,h3,h4⟩:=four_setR h1 a0 a1 a2 a3
 exact⟨_,W3,rfl,h2,h1,h3,(mx_al w _).trans (h4.below (fun i e=>Nat.le_of_eq e.symm) (by simp))⟩
theorem rep_agg (R:Ckr×Nat×Nat): ∃a b c d e,runRep R= .agg #[.bool a,.int .i64 b,.int .i64 c,.int .i64 d,.int .i64 e]:=by
 unfold runRep
 split
 ·exact⟨_,_,_,_,_,rfl⟩
 ·exact⟨_,_,_,_,_,rfl⟩
def TrimOut (R:Ckr×Nat×Nat) (T:List EStep×Nat×Bool) (n0:Nat) (w':World) (e:Ending):Prop:=
 if runE R≠0 then e= .returned (.tuple #[.slice none 0 0,.int .i64 (R.2.1:Nat),.int .i64 (runE R:Nat)])else
 if T.2.2=false then e= .returned (.tuple #[.slice none 0 0,.int .i64 (T.2.1:Nat),.int .i64 102])else
 ∃v K,e= .returned (.tuple #[v,.int .i64 (-1),.int .i64 0])∧K.map Prod.fst=bkL T.1∧StMem n0 w' v K
theorem TrimOut.bad {R:Ckr×Nat×Nat} {T:List EStep×Nat×Bool} {n0:Nat} {w':World} {E:Nat} (hE:runE R=E) (h:E≠0):TrimOut R T n0 w' (.returned (.tuple #[.slice none 0 0,.int .i64 (R.2.1:Nat),.int .i64 (E:Nat)])):=by
 unfold TrimOut
 rw[hE,if_pos h]
theorem TrimOut.kind {R:Ckr×Nat×Nat} {T:List EStep×Nat×Bool} {n0 k:Nat} {w':World} {xs:List EStep} (hE:runE R=0) (h:T=(xs,k,false)):TrimOut R T n0 w' (.returned (.tuple #[.slice none 0 0,.int .i64 (k:Nat),.int .i64 102])):=by
 unfold TrimOut
 rw[hE,if_neg (fun h=>h rfl),h,if_pos rfl]
theorem TrimOut.good {R:Ckr×Nat×Nat} {T:List EStep×Nat×Bool} {n0 k:Nat} {w':World} {xs:List EStep} (hE:runE R=0) (h:T=(xs,k,true)) {v:Value} {K:List StV} (hK:K.map Prod.fst=bkL xs) (hm:StMem n0 w' v K):TrimOut R T n0 w' (.returned (.tuple #[v,.int .i64 (-1),.int .i64 0])):=by
 unfold TrimOut
 rw[hE,if_neg (fun h=>h rfl),h,if_neg (fun h=>by cases h)]
 exact⟨v,K,rfl,hK,hm⟩
theorem trm_step {k:Ckr} {l:List EStep} {j:Nat} {s:EStep} (h:l[j]? =some s) (out:List EStep):trmGo k (l.drop j) j out=if k.proved=true then(out,j,true)else if(k.do_ s).2.1=2 then(out,j,false)else trmGo (k.do_ s).1 (l.drop (j+1)) (j+1) (if(k.do_ s).2.1=1 then out++ [trimS k s]else out):=by
 have hlt:=(List.getElem?_eq_some_iff.1 h).1
 rw[List.drop_eq_getElem_cons hlt]
 rw[List.getElem?_eq_getElem hlt]at h
 rw[Option.some.inj h]
 rfl
theorem trm_nil (k:Ckr) (j:Nat) (out:List EStep):trmGo k [] j out=(out,j,true):=rfl
theorem do_right {k:Ckr} {s:EStep} (hp:k.proved=false) (h:(k.do_ s).2.2.2=0):stepB s=true:=by
 cases hs:stepB s with
 | true=>rfl
 | false=>
  unfold Ckr.do_ at h
  rw[if_neg (by rw[hp];decide),if_pos hs]at h
  cases h
theorem trim_idx (c:List Int) (hs:List (List Int)): ∀x∈trimP c hs,0≤x∧x<(hs.length:Int):=fun x hx=>by
 unfold trimP at hx
 split at hx
 ·obtain⟨T,h1,_,h3,_⟩:=needL_spec (hs.take (chkP c hs).2.1) (chkP c hs).1
  rw[h1]at hx
  obtain⟨j,hj,rfl⟩:=List.mem_map.1 hx
  have:=h3 j hj
  rw[List.length_take]at this
  show 0≤(j:Int)∧(j:Int)<_
  omega
 ·cases hx
theorem trim_len (c:List Int) (hs:List (List Int)):(trimP c hs).length≤hs.length:=by
 unfold trimP
 split
 ·obtain⟨T,h1,h2,h3,_⟩:=needL_spec (hs.take (chkP c hs).2.1) (chkP c hs).1
  rw[h1,List.length_map]
  have:=asc_len T 0 (hs.take (chkP c hs).2.1).length (fun j hj=>⟨Nat.zero_le _,h3 j hj⟩) h2
  rw[List.length_take]at this
  omega
 ·exact Nat.zero_le _
def KOk (x:StV):Prop:=x.1.hints.length≤65536∧(Lit.int .i64 x.1.id).wf=true∧∀h∈x.1.hints,(Lit.int .i64 h).wf=true
theorem needI_snoc {f:Int→Int} {hs:List Int} {h:Int}:needI f (hs++ [h])=fun z=>if z=h then 1 else needI f hs z:=by
 unfold needI
 rw[List.foldl_append]
 rfl
structure BkI (w5:World) (z:Nat) (pre:List (StV×Nat)) (W:World):Prop where
 ex: ∃v n,Boxed W z 35 v∧W.ownsRow z 34 4 v ((pre.map Prod.fst).foldl bkStep (fun _=>0,[])).2.length (((pre.map Prod.fst).foldl bkStep (fun _=>0,[])).2.flatMap stcell)∧(∀g,v.ownBlock=some g→w5.heap.size≤g)∧MapAt W (z+1) n ((pre.map Prod.fst).foldl bkStep (fun _=>0,[])).1∧n≤pre.length*65536
 mp:Boxed W (z+2) 115 (.map (some (z+1)))
 kept:KpC (fun g=>z≤g∧g≠z+3) w5 W
 low:Below z w5 W
theorem bk_snoc (pre:List (StV×Nat)) (x:StV×Nat):((pre++ [x]).map Prod.fst).foldl bkStep (fun _=>0,[])=bkStep ((pre.map Prod.fst).foldl bkStep (fun _=>0,[])) x.1:=by
 rw[List.map_append,List.foldl_append]
 rfl
theorem BkI.skip {w5:World} {z:Nat} {pre:List (StV×Nat)} {x:StV×Nat} {W:World} (h:BkI w5 z pre W) (hs:bkStep ((pre.map Prod.fst).foldl bkStep (fun _=>0,[])) x.1=(pre.map Prod.fst).foldl bkStep (fun _=>0,[])):BkI w5 z (pre++ [x]) W where
 ex:=by
  obtain⟨v,n,h1,h2,h3,h4,h5⟩:=h.ex
  rw[bk_snoc,hs]
  exact⟨v,n,h1,h2,h3,h4,Nat.le_trans h5 (Nat.mul_le_mul_right _ (by rw[List.length_append];exact Nat.le_add_right _ _))⟩
 mp:=h.mp
 kept:=h.kept
 low:=h.low
theorem BkI.add {w5:World} {z:Nat} {pre:List (StV×Nat)} {x:StV×Nat} {W':World} {f f':Int→Int} {S S':List StV} {v':Value} {n':Nat} (hs:(pre.map Prod.fst).foldl bkStep (fun _=>0,[])=(f,S)) (hb:bkStep (f,S) x.1=(f',S')) (h1:Boxed W' z 35 v') (h2:W'.ownsRow z 34 4 v' S'.length (S'.flatMap stcell)) (h3: ∀g,v'.ownBlock=some g→w5.heap.size≤g) (h4:MapAt W' (z+1) n' f') (h5:n'≤(pre.length+1)*65536) (h6:Boxed W' (z+2) 115 (.map (some (z+1)))) (h7:KpC (fun g=>z≤g∧g≠z+3) w5 W') (h8:Below z w5 W'):BkI w5 z (pre++ [x]) W' where
 ex:=by
  rw[bk_snoc,hs,hb]
  exact⟨v',n',h1,h2,h3,h4,Nat.le_trans h5 (Nat.mul_le_mul_right _ (by rw[List.length_append,List.length_singleton];exact Nat.le_refl _))⟩
 mp:=h6
 kept:=h7
 low:=h8
theorem bki_own (w5:World) (z:Nat) {N:Nat} (hN:w5.heap.size≤N) (hz:z+3<w5.heap.size):OwnFrom N (BkI w5 z):=fun pre W W' row h hg hr=>by
 obtain⟨v,n,h1,h2,h3,h4,h5⟩:=h.ex
 exact⟨⟨v,n,boxed_grown h1 hg (fun q e=>(hr q e).2),own_nocells h2 hg (fun q e=>(hr q e).2),h3,h4.kept (Kept.grown hg) (fun e=>by have:=(hr _ e.symm).1;omega),h5⟩,boxed_grown h.mp hg (fun q e=>(hr q e).2),h.kept.trans ((KpC.of_grown hg).mono fun g _ e=>by have:=(hr g e.symm).1;exact⟨by omega,by omega⟩),h.low.grown hg (by have:=h.low.size;omega) (fun q e=>by have:=(hr q e).1;omega)⟩
structure BkMid (w5:World) (z:Nat) (K:List StV) (pre:List (StV×Nat)) (x:StV×Nat) (W:World) (B:Nat) (W':World):Prop where
 bi:BkI w5 z pre W'
 pr:BSPre K 0 pre x W'
 po:KpC (fun g=>z≤g∧g≠z+3) W W'
 lo:w5.heap.size≤B
 lt: ∀v,Boxed W' z 35 v→∀g,v.ownBlock=some g→g<B
 box:W'.heap[B]? =some (.cells #[.bool x.1.1.del,.int .i64 x.1.1.id,.slice x.1.2.1.1 x.1.1.lits.length x.1.2.1.2,.slice x.1.2.2.1 x.1.1.hints.length x.1.2.2.2] 34 (0,0))
theorem BkMid.turn {w5:World} {z:Nat} {K:List StV} {pre:List (StV×Nat)} {x:StV×Nat} {W W':World} {B l:Nat} {q q':Loop} (hz:z+3<w5.heap.size) (hl:w5.heap.size≤l) (h2:W'.heap[l]? =some (.loop q)) (h:BkMid w5 z K pre x W B W'):BkMid w5 z K pre x W B (W'.putObj l (.loop q')) where
 bi:=(bki_own w5 z (Nat.le_refl _) hz).putObj _ h.bi hl h2 rfl
 pr:=h.pr
 po:=h.po.trans ((KpC.putObj W' l _ _ h2 rfl rfl).mono (fun _ _ e=>e.elim))
 lo:=h.lo
 lt:=fun v hv g hg=>by
  have hne:z≠l:=by omega
  have e:(W'.putObj l (.loop q')).heap[z]? =W'.heap[z]? :=World.putObj_heap_other hne
  exact h.lt v (show W'.heap[z]? =_ from e▸hv) g hg
 box:=(World.putObj_heap_other (by
  rintro rfl
  rw[h.box]at h2
  cases h2)).trans h.box
theorem res_456 {fn:Func} (h:fn.results= #[.tmp 4,.tmp 5,.tmp 6]) (tmps:Array Value) (w:World):(results fn tmps).run Tryz.prog w= .ok (.tuple #[tmps.getD 4 undef,tmps.getD 5 undef,tmps.getD 6 undef]) w:=by
 simp[results,h]
set_option maxRecDepth 100000 in
set_option maxHeartbeats 8000000 in
theorem proof_trim {O Os:Nat→Prop} (n:Int) (lv sv:Value) (cs:List (List Int)) (l:List EStep) (w:World) (h:ClsIn O w lv cs) (hc: ∀c∈cs,clauseB c=true) (hn:cs.length≤1000) (hf:fchk n cs=(-1,0)) (hs:StepIn Os w sv l) (hl:l.length≤1000) (hls: ∀s∈l,s.lits.length≤100000000∧s.hints.length≤100000000):
  Calls Tryz.prog 26 #[.agg #[.int .i64 n,lv],sv] w fun e w'=>TrimOut (runGo (ckrNew cs) l 0) (trmGo (ckrNew cs) l 0 []) w.heap.size w' e∧Below w.heap.size w w':=by
 obtain⟨W0,hW0⟩: ∃x,w.alloc (.cells #[.int .i64 n,lv] 24)=x:=⟨_,rfl⟩
 have hb0:Below w.heap.size w W0:=by rw[←hW0];exact mx_al _ _
 have hz0:W0.heap.size=w.heap.size+1:=by rw[←hW0];simp
 have hbf:W0.heap[w.heap.size]? =some (.cells #[.int .i64 n,lv] 24 (0,0)):=by rw[←hW0];exact World.alloc_heap_new _ _
 have b0:W0.cell? ⟨w.heap.size,0,none⟩=some (.int .i64 n):=mx_cell (j:=0) hbf
 have b1:W0.cell? ⟨w.heap.size,1,none⟩=some lv:=mx_cell (j:=1) hbf
 have HCH:=Lib.hid (proof_check n lv sv cs l W0 (h.below hb0) hc hn hf (hs.below hb0) hl hls)
 have HNEW:=Lib.hid (fun(X:World) (hx:Below W0.heap.size W0 X)=>ck_new n lv cs X ((h.below hb0).below hx) hc hn hf)
 have HSI:=Lib.hid (fun(X:World) (hx:Below W0.heap.size W0 X)=>(hs.below hb0).below hx)
 obtain⟨R,hR⟩: ∃R,runGo (ckrNew cs) l 0=R:=⟨_,rfl⟩
 obtain⟨T,hT⟩: ∃T,trmGo (ckrNew cs) l 0 []=T:=⟨_,rfl⟩
 rw[hR]at HCH⊢
 rw[hT]
 have HR:=Lib.hid (show R=runGo (ckrNew cs) (l.drop 0) 0 from by rw[List.drop_zero];exact hR.symm)
 have HT:=Lib.hid (show T=trmGo (ckrNew cs) (l.drop 0) 0 (([] :List StV).map Prod.fst)from by rw[List.drop_zero];exact hT.symm)
 have HOK:=Lib.hid (show(ckrNew cs).Ok (1000+0)from by rw[ckrNew_of];exact ckrOf_ok hc hn (Nat.zero_le _))
 have HLS:=Lib.hid hls
 have HF:=Lib.hid hbf
 obtain⟨A,c,rfl,hcc,_⟩:=h
 obtain⟨As,cs',rfl,hcs,_⟩:=hs
 have HW0:=Lib.hid hW0
 have HB0:=Lib.hid hb0
 obtain⟨ra,rb,rc,rd,re,hrp⟩:=rep_agg R
 rw[hrp]at HCH
 obtain⟨E,hE⟩: ∃E,runE R=E:=⟨_,rfl⟩
 rw[hE]at HCH
 have HE:=Lib.hid hE
 clear hb0 hbf hR hT hc hf hls hW0 hrp hE
 refine(callsIn_wide (n:=10)).1 ?_
 refine callsIn_of_wp_marks Tryz.func26 rfl trivial ?_ rfl
 simp only[Tryz.ntmps26,List.size_toArray,List.length_cons,List.length_nil,Nat.reduceAdd,Nat.reduceSub,Array.replicate_succ,Array.replicate_zero,List.push_toArray,List.append_toArray,List.nil_append,List.cons_append]
 gi_wp2_with fail
 try rw[HW0.out]
 refine⟨trivial,?_⟩
 refine(callsIn_wide.2 HCH.out).mono ?_
 rintro e w1 ⟨rfl,hb1⟩
 obtain⟨W1,hW1⟩: ∃x,w1.alloc (.cells #[.bool false,.int .i64 0,.int .i64 0,.int .i64 0,.int .i64 0] 45)=x:=⟨_,rfl⟩
 have hbx1:W1.heap[w1.heap.size]? =some (.cells #[.bool false,.int .i64 0,.int .i64 0,.int .i64 0,.int .i64 0] 45 (0,0)):=by rw[←hW1];exact World.alloc_heap_new _ _
 obtain⟨W2,hW2,hby,hky⟩:=five_setR hbx1 (.bool ra) (.int .i64 rb) (.int .i64 rc) (.int .i64 rd) (.int .i64 re)
 have hb12:Below w1.heap.size w1 W2:=by
  rw[←hW1]at hky
  exact(mx_al w1 _).trans (hky.below (fun i e=>Nat.le_of_eq e.symm) (by simp))
 have r0:=mx_cell (j:=0) hbx1
 have r1:=mx_cell (j:=1) hbx1
 have r2:=mx_cell (j:=2) hbx1
 have r3:=mx_cell (j:=3) hbx1
 have r4:=mx_cell (j:=4) hbx1
 have f0:=free_at (j:=0) hbx1
 have f1:=free_at (j:=1) hbx1
 have f2:=free_at (j:=2) hbx1
 have f3:=free_at (j:=3) hbx1
 have f4:=free_at (j:=4) hbx1
 have HB2:=Lib.hid (hb1.trans (hb12.mono hb1.size))
 have HBW2:=Lib.hid (HB0.out.trans (HB2.out.mono HB0.out.size))
 clear hb1 hbx1 hby hky hb12 HCH b0 b1
 by_cases h0:E=0
 ·subst h0
  have b0:W2.cell? ⟨w.heap.size,0,none⟩=some (.int .i64 n):=(HB2.out.cell (p:=⟨w.heap.size,0,none⟩) (heap_lt HF.out)).trans (mx_cell (j:=0) HF.out)
  have b1:W2.cell? ⟨w.heap.size,1,none⟩=some (.slice A cs.length c):=(HB2.out.cell (p:=⟨w.heap.size,1,none⟩) (heap_lt HF.out)).trans (mx_cell (j:=1) HF.out)
  have HN2:=Lib.hid (HNEW.out W2 HB2.out)
  gi_wp2_with fail
  try rw[hW2]
  clear r0 r1 r2 r3 r4 f0 f1 f2 f3 f4 hW1 hW2
  refine⟨trivial,?_⟩
  refine(callsIn_wide.2 HN2.out).mono ?_
  rintro e w3 ⟨b,rfl,hck,hb3⟩
  have HCK:=Lib.hid hck
  have HB3:=Lib.hid hb3
  have hzb:w.heap.size≤W2.heap.size:=HBW2.out.size
  obtain⟨N0,hN0⟩: ∃N0,W2.heap.size=N0:=⟨_,rfl⟩
  rw[hN0]at hzb HCK HB3
  have hN3:N0≤w3.heap.size:=by have:=HB3.out.size;omega
  clear hck hb3 HN2 b0 b1 HNEW
  gi_wp2_with fail
  gi_loopw [12,51] (fun dv iv wr=> ∃(k:Nat) (kk:Ckr) (K:List StV),k≤l.length∧iv= .int .i64 k∧K.length≤k∧Hid (R=runGo kk (l.drop k) k)∧Hid (T=trmGo kk (l.drop k) k (K.map Prod.fst))∧Hid (kk.Ok (1000+k))∧Hid (CkAt N0 wr b kk)∧Hid (StMem N0 wr dv K)∧Hid (∀x∈K,KOk x)∧Hid (Below N0 w3 wr)) (fun _ i _=>l.length-(intOf i).toNat)
  case atStart=>exact⟨0,ckrNew cs,[],Nat.zero_le _,rfl,Nat.le_refl _,HR,HT,HOK,HCK,Lib.hid (StMem.nil _ _),Lib.hid (fun x hx=>by cases hx),Lib.hid (Below.refl _ _)⟩
  case round=>
   obtain⟨k,kk,K,hk,rfl,hKl,HRk,HTk,HOKk,HCKk,HSTk,HKHk,HBk⟩:=hrel
   obtain⟨Adv,cdv,rfl,_⟩:=mx_slice HSTk.out.row
   have hNr:N0≤wr.heap.size:=by have:=HBk.out.size;omega
   obtain⟨p,hp⟩: ∃p,kk.proved=p:=⟨_,rfl⟩
   have HP:=Lib.hid hp
   have HBr:=Lib.hid (show Below W0.heap.size W0 wr from HB2.out.trans ((HB3.out.trans HBk.out).mono (by have:=HB2.out.size;omega)))
   clear hp
   by_cases hlt:k<l.length
   ·obtain⟨s,hs⟩:=getElem_of hlt
    have hst:=HRk.out.trans (run_step hs k)
    have htm:=HTk.out.trans (trm_step hs _)
    rw[HP.out]at hst htm
    obtain⟨A',c',hAc,_,_,hxs⟩:=HSI.out W0 (Below.refl _ _)
    simp only[Value.slice.injEq,true_and]at hAc
    obtain⟨rfl,rfl⟩:=hAc
    obtain⟨g,o,ul,uh,rfl,hg,_,d0',d1',d2',d3',hul0,huh0⟩:=hxs k s hs
    have d0:=(HBr.out.cell (p:=⟨g,o+k*4,none⟩) hg).trans d0'
    have d1:=(HBr.out.cell (p:=⟨g,o+k*4+1,none⟩) hg).trans d1'
    have d2:=(HBr.out.cell (p:=⟨g,o+k*4+2,none⟩) hg).trans d2'
    have d3:=(HBr.out.cell (p:=⟨g,o+k*4+3,none⟩) hg).trans d3'
    have hul:=hul0.below HBr.out
    have huh:=huh0.below HBr.out
    have HULX:=Lib.hid (fun(X:World) (hx:Below W0.heap.size W0 X)=>hul0.below hx)
    clear d0' d1' d2' d3' hul0 huh0
    obtain⟨hl1,hl2⟩:=HLS.out s (List.mem_of_getElem? hs)
    obtain⟨WA,wB,hWA,hwB,hbx1,hbxB,hbB⟩:=four_new wr (.bool s.del) (.int .i64 s.id) ul uh
    have r0:=mx_cell (j:=0) hbx1
    have r1:=mx_cell (j:=1) hbx1
    have r2:=mx_cell (j:=2) hbx1
    have r3:=mx_cell (j:=3) hbx1
    have f0:=free_at (j:=0) hbx1
    have f1:=free_at (j:=1) hbx1
    have f2:=free_at (j:=2) hbx1
    have f3:=free_at (j:=3) hbx1
    have HBXB:=Lib.hid hbxB
    have HBB:=Lib.hid (HBk.out.trans (hbB.mono hNr))
    have HBBr:=Lib.hid (HBr.out.trans (hbB.mono HBr.out.size))
    have HUL:=Lib.hid (hul.below hbB)
    have HUH:=Lib.hid (huh.below hbB)
    have HPB:=Lib.hid (ck_proved b kk wB (HCKk.out.below hbB))
    rw[HP.out]at HPB
    have HCKB:=Lib.hid (HCKk.out.below hbB)
    have HSTB:=Lib.hid (HSTk.out.below hbB)
    obtain⟨Aul,cul,rfl,_⟩:=hul
    obtain⟨Auh,cuh,rfl,_⟩:=huh
    cases p with
    | true=>
     have HTZ:=Lib.hid (show T=(K.map Prod.fst,k,true)from htm.trans (if_pos rfl))
     clear hs hst htm hxs hbx1 hbxB
     gi_wp2_with fail
     try rw[hwB]
     clear r0 r1 r2 r3 f0 f1 f2 f3 hWA hwB hbB d0 d1 d2 d3
     refine⟨trivial,?_⟩
     refine(callsIn_wide.2 HPB.out).mono ?_
     rintro e w' ⟨rfl,rfl⟩
     have hmm:=@run_makeMap Tryz.prog
     have hzz:N0≤wB.heap.size:=by have:=HBB.out.size;omega
     obtain⟨WR,hWR,hcR,hzR,hbR⟩: ∃x,wB.alloc (.cells #[.slice none 0 0] 35)=x∧Boxed x wB.heap.size 35 (.slice none 0 0)∧x.heap.size=wB.heap.size+1∧Below wB.heap.size wB x:=⟨_,rfl,Boxed.new _ _ _,by simp,mx_al _ _⟩
     obtain⟨WM,hWM,hmM,hzM,hbM⟩: ∃x,WR.alloc (.map #[] 0)=x∧MapAt x WR.heap.size 0 (fun _=>0)∧x.heap.size=wB.heap.size+2∧Below WR.heap.size WR x:=⟨_,rfl,MapAt.made WR,by simp[hzR],mx_al _ _⟩
     obtain⟨WP,hWP,hcP,hzP,hbP⟩: ∃x,WM.alloc (.cells #[.map (some (wB.heap.size+1))] 115)=x∧Boxed x WM.heap.size 115 (.map (some (wB.heap.size+1)))∧x.heap.size=wB.heap.size+3∧Below WM.heap.size WM x:=⟨_,rfl,Boxed.new _ _ _,by simp[hzM],mx_al _ _⟩
     obtain⟨WQ,hWQ,hzQ,hbQ,hBQ⟩: ∃x,WP.alloc (.cells #[.slice Adv K.length cdv] 35)=x∧x.heap.size=wB.heap.size+4∧Below WP.heap.size WP x∧x.cell? ⟨WP.heap.size,0,none⟩=some (.slice Adv K.length cdv):=⟨_,rfl,by simp[hzP],mx_al _ _,mx_cell (j:=0) (World.alloc_heap_new _ _)⟩
     have hbzQ:Below wB.heap.size wB WQ:=hbR.trans ((hbM.trans ((hbP.trans (hbQ.mono (by omega))).mono (by omega))).mono (by omega))
     have HXR:=Lib.hid (show Boxed WQ wB.heap.size 35 (.slice none 0 0)from((hbM.trans ((hbP.trans (hbQ.mono (by omega))).mono (by omega))).block _ (by omega)).trans hcR)
     have HXN:=Lib.hid (show Boxed WQ (wB.heap.size+2) 115 (.map (some (wB.heap.size+1)))from by
      have:=(hbQ.block _ (heap_lt hcP)).trans hcP
      rw[hzM]at this
      exact this)
     have HXM:=Lib.hid (show MapAt WQ (wB.heap.size+1) 0 (fun _=>0)from by
      have:=(hmM.below hbP).below hbQ
      rw[hzR]at this
      exact this)
     have HSQ:=Lib.hid (HSTB.out.below hbzQ)
     have HBQz:=Lib.hid hbzQ
     rw[hzP]at hBQ
     have HSEQ:=Lib.hid (bks_stops (X:=fun g=>wB.heap.size≤g∧g≠wB.heap.size+3) (wB.heap.size+3) _ K WQ hBQ (fun h=>h.2 rfl) HSQ.out.row (fun g hg h=>by
      have h1:=(own_lt HSTB.out.row g hg).2
      have h2:=h.1
      omega) (by omega))
     have HI0:=Lib.hid (show BkI WQ wB.heap.size [] WQ from⟨⟨_,0,HXR.out,World.ownsRow_nil _ _ _ _,(fun g hg=>by cases hg),HXM.out,Nat.le_refl _⟩,HXN.out,KpC.refl _ _,Below.refl _ _⟩)
     have HWR:=Lib.hid hWR
     have HWM:=Lib.hid hWM
     have HWP:=Lib.hid hWP
     have HWQ:=Lib.hid hWQ
     clear hWR hcR hbR hWM hmM hbM hWP hcP hWQ hbQ hBQ hbP hbzQ
     gi_wp2_with fail
     try rw[HWR.out]
     try rw[HWM.out]
     try rw[HWP.out]
     refine⟨trivial,?_⟩
     refine(callsIn_wide.2 (bks_run Adv K.length cdv WP)).mono ?_
     rintro e W' ⟨rfl,rfl⟩
     rw[HWQ.out,hzP]
     clear hmm
     gi_wp2_with fail
     refine wpIn_range_M (gf:=98) (lb:= #[.pointer (some ⟨wB.heap.size+3,0,none⟩)]) rfl (enters_of Tryz.func98 (by kernel_rfl) rfl) HSEQ.out (Below.refl _ _) (fun _=>rfl)
      (fun pre x W W3 l r r' h1 h2 h3 h4=>BSPost.turn h4 h3) (fun pre x W W3 l r r' h1 h2 h3 h4=>trivial)
      (BkI WQ wB.heap.size) (fun _ _=>False) (bki_own _ _ (Nat.le_refl _) (by omega)) (fun pre W W' row h _ _=>h) HI0.out
      ?frameB (BkMid WQ wB.heap.size K)
      (fun pre x W Bx W' l r r' h1 h2 h3 h4=>h4.turn (by omega) h1 h3)
      ?assignB ?bodyB ?doneB ?stopB
     case assignB=>
      rintro l pre x W KK hi hp hK
      dsimp only[bsv]
      obtain⟨WA,WB,hWA,hWB,hbx1,hbxB,hbB⟩:=four_new W (.bool x.1.1.del) (.int .i64 x.1.1.id) (.slice x.1.2.1.1 x.1.1.lits.length x.1.2.1.2) (.slice x.1.2.2.1 x.1.1.hints.length x.1.2.2.2)
      have r0:=mx_cell (j:=0) hbx1
      have r1:=mx_cell (j:=1) hbx1
      have r2:=mx_cell (j:=2) hbx1
      have r3:=mx_cell (j:=3) hbx1
      have f0:=free_at (j:=0) hbx1
      have f1:=free_at (j:=1) hbx1
      have f2:=free_at (j:=2) hbx1
      have f3:=free_at (j:=3) hbx1
      have hm:BkMid WQ wB.heap.size K pre x W W.heap.size WB:=⟨(by
       obtain⟨v,n,h1,h2,h3,h4,h5⟩:=hi.ex
       exact⟨⟨v,n,(hbB.block _ (heap_lt h1)).trans h1,own_below h2 hbB,h3,h4.below hbB,h5⟩,(hbB.block _ (heap_lt hi.mp)).trans hi.mp,hi.kept.trans (KpC.of_below hbB),hi.low.trans (hbB.mono (by have:=hi.low.size;omega))⟩),hp,KpC.of_below hbB,by have:=hi.low.size;omega,(fun v hv g hg=>by
       obtain⟨v',n',h1,h2,_⟩:=hi.ex
       have hv':Boxed WB wB.heap.size 35 v':=(hbB.block _ (heap_lt h1)).trans h1
       have e:v=v':=by
        have a:=hv.cell
        rw[hv'.cell]at a
        exact(Option.some.inj a).symm
       rw[e]at hg
       exact(own_lt h2 g hg).2),hbxB⟩
      have hK2:=hK _ _ (KeepsRec.of_below hbB) hm
      clear hm hK hp hi hbx1 hbxB
      gi_wp2
      try rw[hWB]
      revert hK2
      generalize W.heap.size=Bx
      intro hK2
      exact hK2
     case bodyB=>
      rintro l pre x W Bx W' hm
      obtain⟨v,n,hv,hr,hf,hmp,hnl0⟩:=hm.bi.ex
      have hxK:x.1∈K:=by
       have h1:=hm.pr
       unfold BSPre at h1
       have h2:=List.mem_map_of_mem (f:=Prod.fst) (List.mem_reverse.1 (h1.subset (List.mem_append_right _ (List.mem_singleton.2 rfl))))
       rw[List.zipIdx_map_fst]at h2
       exact h2
      have hkok:=HKHk.out x.1 hxK
      have hstp:((pre++ [x]).map Prod.fst).foldl bkStep (fun _=>0,[])=bkStep ((pre.map Prod.fst).foldl bkStep (fun _=>0,[])) x.1:=by
       rw[List.map_append,List.foldl_append]
       rfl
      obtain⟨st,hst⟩: ∃st,(pre.map Prod.fst).foldl bkStep (fun _=>0,[])=st:=⟨_,rfl⟩
      rw[hst]at hr hmp hstp
      obtain⟨f,S⟩:=st
      simp only at hr hmp
      have hSl:S.length≤pre.length:=by
       have:=bk_len (pre.map Prod.fst) (fun _=>0,[])
       rw[hst,List.length_map]at this
       simpa using this
      have hpl:pre.length<K.length:=by
       have h1:=hm.pr
       unfold BSPre at h1
       have:=h1.length_le
       rw[List.length_append,List.length_singleton,List.length_reverse,List.length_zipIdx]at this
       omega
      have HSTP:=Lib.hid hstp
      have HHR:=Lib.hid (HSQ.out.hnt x.1 hxK)
      have HSQL:=Lib.hid (show∀g,(Value.slice x.1.2.2.1 x.1.1.hints.length x.1.2.2.2).ownBlock=some g→g<wB.heap.size from fun g hg=>(own_lt (HSTB.out.hnt x.1 hxK) g hg).2)
      have HM:=Lib.hid hm
      have hbxl:=heap_lt hm.box
      have HBX:=Lib.hid hm.box
      have hlo:=hm.lo
      have hltB:=hm.lt v hv
      have m1:=hm.bi.mp.cell
      have hmpl:=heap_lt hm.bi.mp
      have hzW':wB.heap.size≤W'.heap.size:=by have:=hm.bi.low.size;omega
      have hzQW:WQ.heap.size≤W'.heap.size:=hm.bi.low.size
      obtain⟨⟨⟨dl,id,ls,hs⟩,⟨a1,c1⟩,⟨a2,c2⟩⟩,xi⟩:=x
      obtain⟨hk1,hk2,hk3⟩:=hkok
      simp only at hk1 hk2 hk3 hltB HHR HSQL
      have z0:=mx_cell (j:=0) HBX.out
      have z1:=mx_cell (j:=1) HBX.out
      have z2:=mx_cell (j:=2) HBX.out
      have z3:=mx_cell (j:=3) HBX.out
      simp only at z0 z1 z2 z3
      have hlk:=hmp.lookup hk2
      have HKW:=Lib.hid hk3
      have HFLD:=Lib.hid hst
      clear hm hxK hstp
      by_cases hskip:0<ls.length∧f id=0
      ·have hl0:decide ((0:Int)<(ls.length:Int))=true:=decide_eq_true (by omega)
       have hl0n:decide (0<ls.length)=true:=decide_eq_true hskip.1
       have hl0p:(0:Int)<(ls.length:Int):=by omega
       rw[hskip.2]at hlk
       have HFIN:=Lib.hid (show KeepsRec W' W'∧BkI WQ wB.heap.size (pre++ [((⟨dl,id,ls,hs⟩,(a1,c1),(a2,c2)),xi)]) W'∧BSPost (fun g=>wB.heap.size≤g∧g≠wB.heap.size+3) ((⟨dl,id,ls,hs⟩,(a1,c1),(a2,c2)),xi) W W' from
        ⟨KeepsRec.refl _,HM.out.bi.skip (by
         rw[hst]
         unfold bkStep
         exact if_pos hskip),HM.out.po⟩)
       clear hskip hv hr hf hmp hst
       gi_wp2_with fail
       exact HFIN.out
      ·have HSP2:=Lib.hid (show bkStep (f,S) (⟨dl,id,ls,hs⟩,(a1,c1),(a2,c2))=(needI f hs,S++ [(⟨dl,id,ls,hs⟩,(a1,c1),(a2,c2))])from by
        unfold bkStep
        rw[if_neg hskip])
       have hcond:ls.length=0∨(0<ls.length∧(f id==0)=false):=by
        rcases Nat.eq_zero_or_pos ls.length with e|e
        ·exact .inl e
        ·exact .inr ⟨e,beq_eq_false_iff_ne.2 fun h=>hskip ⟨e,h⟩⟩
       have q1:=hv.cell
       have q2:=hv.frozen
       obtain⟨A,cc,rfl,_⟩:=mx_slice hr
       have HV:=Lib.hid hv
       have HR3:=Lib.hid hr
       have HF:=Lib.hid hf
       have HMP:=Lib.hid hmp
       obtain⟨si,hsi,sz0,sz1,sz2⟩:=info_parts stinfo
       have HLW:=Lib.hid HM.out.bi.low
       clear hv hr hf hmp hskip hst
       rcases hcond with hc0|⟨hc0,hc1⟩
       ·have hl0:decide ((0:Int)<(ls.length:Int))=false:=decide_eq_false (by omega)
        have hl0n:decide (0<ls.length)=false:=decide_eq_false (by omega)
        clear hc0
        have HR5:=Lib.hid (own_rebase (b':=WQ.heap.size) HR3.out HF.out)
        gi_wp2_with (gi_at_builtin;go_must (refine wpListIn_append_own_at _ rfl _ _ 35 rfl WQ.heap.size 34 si (.agg #[.bool false,.int .i64 0,.slice none 0 0,.slice none 0 0]) 4 64 Tryz.underlying35 hsi sz0 sz1 sz2 rfl (by decide) _ S.length _ rfl (own_below HR5.out (mx_al W' _)) ⟨W'.heap.size,0,none⟩ 1 1 [.bool dl,.int .i64 id,.slice a1 ls.length c1,.slice a2 hs.length c2] rfl rfl (fun j u hj=>cells_list_new W' [.bool dl,.int .i64 id,.slice a1 ls.length c1,.slice a2 hs.length c2] 34 j u hj) (by simp[Value.oneCell']) (by unfold maxLen;omega) (by omega) (by simp;omega) ?_);intro v' w1 hown' hgrow hnl hat;obtain⟨g1,cap,rfl⟩:=ownsRow_succ hown';have hnew:=own_rebase (b':=wB.heap.size) hown' (fun g hg=>by have:=(own_lt hown' g hg).1;omega);have hA:=Boxed.appended HV.out (by decide) HR3.out hzW' (Nat.le_refl _) hnew hgrow;have q3:=hA.1.cell;have q4:=hA.1.frozen;have hkA:Kept (fun g=>(Value.slice A S.length cc).ownBlock=some g∨g=wB.heap.size) W' (w1.setCell ⟨wB.heap.size,0,none⟩ (.slice (some ⟨g1,0,none⟩) (S.length+1) cap)):=((Kept.of_below (mx_al W' _)).trans (O:=fun g=>(Value.slice A S.length cc).ownBlock=some g∨g=wB.heap.size) (Kept.grown hgrow) (fun i _ h=>.inl h.symm)).setCell ⟨wB.heap.size,0,none⟩ _ (.inr rfl);have n3:(w1.setCell ⟨wB.heap.size,0,none⟩ (.slice (some ⟨g1,0,none⟩) (S.length+1) cap)).cell? ⟨Bx,3,none⟩=some (.slice a2 hs.length c2):=(hkA.cell (p:=⟨Bx,3,none⟩) hbxl (by rintro (e|e);exact Nat.lt_irrefl _ (hltB _ e);simp only at e;omega)).trans z3)
        obtain⟨W2,hW2⟩: ∃x,w1.setCell ⟨wB.heap.size,0,none⟩ (.slice (some ⟨g1,0,none⟩) (S.length+1) cap)=x:=⟨_,rfl⟩
        have hkP:KpC (fun g=>wB.heap.size≤g∧g≠wB.heap.size+3) W' W2:=by
         rw[←hW2]
         exact((KpC.of_below (mx_al W' (.cells #[.bool dl,.int .i64 id,.slice a1 ls.length c1,.slice a2 hs.length c2] 34))).trans ((KpC.of_grown hgrow).mono (fun g _ h=>by have:=HF.out g h.symm;exact⟨by omega,by omega⟩))).trans ((KpC.of_grown (grownBy_setCell' w1 wB.heap.size _)).mono (fun g _ h=>by cases h;exact⟨by omega,by omega⟩))
        rw[hW2]at hA hkA⊢
        have hg1:=(own_lt hown' g1 rfl).1
        obtain⟨-,a2',a3,a4,a5⟩:=hA
        have HV2:=Lib.hid a2'
        have HR2:=Lib.hid a3
        have HA4:=Lib.hid (keepsRec_others a4)
        have HA5:=Lib.hid a5
        have HM2:=Lib.hid (HMP.out.kept hkA (by
         rintro (e|e)
         ·have:=HF.out _ e
          omega
         ·omega))
        have HP2:=Lib.hid ((hkA.block _ hmpl (by
         rintro (e|e)
         ·have:=HF.out _ e
          omega
         ·omega)).trans HM.out.bi.mp)
        have HH2:=Lib.hid (own_kept (own_kept HHR.out (O:=fun g=>wB.heap.size≤g) ⟨HLW.out.os,HLW.out.tape,HLW.out.output,HLW.out.size,fun i _ hn=>HLW.out.block i (by omega)⟩ (fun g hg h=>by have:=HSQL.out g hg;omega)) hkA (fun g hg h=>by
         have h1:=HSQL.out g hg
         rcases h with e|e
         ·have:=HF.out g e
          omega
         ·omega))
        have HU2:=Lib.hid ((IntsIn.of_own HH2.out).mono (O':=fun g=>g<wB.heap.size) fun g h=>HSQL.out g h.2)
        have HKP:=Lib.hid hkP
        have hnM:n≤65536000:=Nat.le_trans hnl0 (Nat.le_trans (Nat.mul_le_mul_right 65536 (show pre.length≤1000 by omega)) (by decide))
        clear hkP hkA a2' a3 a4 a5 hown' hgrow hnl hat hnew q1 q2 q3 q4 n3 z0 z1 z2 z3 hlk hW2 m1
        gi_loopw [138] (fun iv w4=> ∃(j:Nat),j≤hs.length∧iv= .int .i64 j∧Hid (MapAt w4 (wB.heap.size+1) (n+j) (needI f (hs.take j)))∧Hid (Kept (fun g=>g=wB.heap.size+1) W2 w4)) (fun iv _=>hs.length-(intOf iv).toNat)
        case atStart=>exact⟨0,Nat.zero_le _,rfl,HM2,Lib.hid (Kept.refl _ _)⟩
        case round=>
         rename World=>w4
         obtain⟨j,hj,rfl,HM4,HK4⟩:=hrel
         by_cases hlt:j<hs.length
         ·obtain⟨y,hyj⟩:=getElem_of hlt
          obtain⟨A',c',hAc,_,_,hxs⟩:=HU2.out
          simp only[Value.slice.injEq,true_and]at hAc
          obtain⟨rfl,rfl⟩:=hAc
          obtain⟨g,o,rfl,hg,hgo,e0⟩:=hxs j y hyj
          have d1:w4.cell? ⟨g,o+j,none⟩=some (.int .i64 y):=(HK4.out.cell (p:=⟨g,o+j,none⟩) hg (by simp only;omega)).trans e0
          have d2:w4.cell? ⟨wB.heap.size+1+1,0,none⟩=some (.map (some (wB.heap.size+1))):=mx_cell (j:=0) ((HK4.out.block (wB.heap.size+2) (heap_lt HP2.out) (by omega)).trans HP2.out)
          have HWY:=Lib.hid (HKW.out y (List.mem_of_getElem? hyj))
          have HTK:=Lib.hid (show needI f (hs.take (j+1))=fun z=>if z=y then 1 else needI f (hs.take j) z from by
           rw[List.take_add_one,hyj]
           exact needI_snoc)
          clear hxs hyj e0
          gi_wp2_with (gi_at_mapUpdate;go_must (refine wpListIn_put HM4.out rfl _ _ _ rfl rfl (by unfold maxLen;omega) y 1 rfl rfl HWY.out rfl ?_);intro w5 hm5 hg5)
          have HM5:=Lib.hid (show MapAt w5 (wB.heap.size+1) (n+(j+1)) (needI f (hs.take (j+1)))from by
           rw[HTK.out]
           exact hm5)
          have HK5:=Lib.hid (HK4.out.trans (O:=fun g=>g=wB.heap.size+1) (Kept.grown hg5) (fun i _ e=>Option.some.inj e))
          clear hm5 hg5 d1 d2
          gi_wp2
          go_roundw
          case rel=>exact⟨j+1,by omega,by go_num,HM5,HK5⟩
          case measure=>simp[intOf];omega
         ·obtain rfl:j=hs.length:=by omega
          have HMF:=Lib.hid (show MapAt w4 (wB.heap.size+1) (n+hs.length) (needI f hs)from by simpa [List.take_length] using HM4.out)
          have hK4:=HK4.out
          have hr4:=own_kept HR2.out hK4 (fun g hg e=>by
           obtain⟨cc',hc'⟩:=own_type HR2.out g hg
           obtain⟨D',⟨es',cl',hb',_⟩,_⟩:=HM2.out
           subst e
           rw[hc']at hb'
           cases hb')
          have HFIN:=Lib.hid (show KeepsRec W' w4∧BkI WQ wB.heap.size (pre++ [((⟨dl,id,ls,hs⟩,(a1,c1),(a2,c2)),xi)]) w4∧BSPost (fun g=>wB.heap.size≤g∧g≠wB.heap.size+3) ((⟨dl,id,ls,hs⟩,(a1,c1),(a2,c2)),xi) W w4 from by
           have hp4:KpC (fun g=>wB.heap.size≤g∧g≠wB.heap.size+3) W2 w4:=⟨hK4.os,hK4.tape,hK4.output,hK4.size,fun i o ho hX _=>(hK4.block i (heap_lt ho) (fun e=>hX ⟨by omega,by omega⟩)).trans ho⟩
           exact⟨HA4.out.trans (KeepsRec.of_kept hK4 (fun g o e ho=>.inr (by
            subst e
            obtain⟨D',⟨es',cl',hb',_⟩,_⟩:=HM2.out
            rw[hb']at ho
            cases ho
            rfl))),BkI.add HFLD.out HSP2.out ((hK4.block _ (heap_lt HV2.out) (by omega)).trans HV2.out) (by rw[List.length_append,List.flatMap_append];exact hr4) (fun g hg=>by cases hg;exact hg1) HMF.out (Nat.le_trans (Nat.add_le_add hnl0 hk1) (Nat.le_of_eq (Nat.succ_mul _ _).symm)) ((hK4.block _ (heap_lt HP2.out) (by omega)).trans HP2.out) ((HM.out.bi.kept.trans HKP.out).trans hp4) ((HLW.out.trans HA5.out).trans (hK4.below (fun i e=>by omega) (by have h1:=HLW.out.size;have h2:=HA5.out.size;omega))),(KpC.trans (KpC.trans HM.out.po HKP.out) hp4)⟩)
          clear hr4 hK4
          gi_wp2
          exact HFIN.out
       ·have hl0:decide ((0:Int)<(ls.length:Int))=true:=decide_eq_true (by omega)
        have hl0n:decide (0<ls.length)=true:=decide_eq_true hc0
        have HR5:=Lib.hid (own_rebase (b':=WQ.heap.size) HR3.out HF.out)
        gi_wp2_with (gi_at_builtin;go_must (refine wpListIn_append_own_at _ rfl _ _ 35 rfl WQ.heap.size 34 si (.agg #[.bool false,.int .i64 0,.slice none 0 0,.slice none 0 0]) 4 64 Tryz.underlying35 hsi sz0 sz1 sz2 rfl (by decide) _ S.length _ rfl (own_below HR5.out (mx_al W' _)) ⟨W'.heap.size,0,none⟩ 1 1 [.bool dl,.int .i64 id,.slice a1 ls.length c1,.slice a2 hs.length c2] rfl rfl (fun j u hj=>cells_list_new W' [.bool dl,.int .i64 id,.slice a1 ls.length c1,.slice a2 hs.length c2] 34 j u hj) (by simp[Value.oneCell']) (by unfold maxLen;omega) (by omega) (by simp;omega) ?_);intro v' w1 hown' hgrow hnl hat;obtain⟨g1,cap,rfl⟩:=ownsRow_succ hown';have hnew:=own_rebase (b':=wB.heap.size) hown' (fun g hg=>by have:=(own_lt hown' g hg).1;omega);have hA:=Boxed.appended HV.out (by decide) HR3.out hzW' (Nat.le_refl _) hnew hgrow;have q3:=hA.1.cell;have q4:=hA.1.frozen;have hkA:Kept (fun g=>(Value.slice A S.length cc).ownBlock=some g∨g=wB.heap.size) W' (w1.setCell ⟨wB.heap.size,0,none⟩ (.slice (some ⟨g1,0,none⟩) (S.length+1) cap)):=((Kept.of_below (mx_al W' _)).trans (O:=fun g=>(Value.slice A S.length cc).ownBlock=some g∨g=wB.heap.size) (Kept.grown hgrow) (fun i _ h=>.inl h.symm)).setCell ⟨wB.heap.size,0,none⟩ _ (.inr rfl);have n3:(w1.setCell ⟨wB.heap.size,0,none⟩ (.slice (some ⟨g1,0,none⟩) (S.length+1) cap)).cell? ⟨Bx,3,none⟩=some (.slice a2 hs.length c2):=(hkA.cell (p:=⟨Bx,3,none⟩) hbxl (by rintro (e|e);exact Nat.lt_irrefl _ (hltB _ e);simp only at e;omega)).trans z3)
        obtain⟨W2,hW2⟩: ∃x,w1.setCell ⟨wB.heap.size,0,none⟩ (.slice (some ⟨g1,0,none⟩) (S.length+1) cap)=x:=⟨_,rfl⟩
        have hkP:KpC (fun g=>wB.heap.size≤g∧g≠wB.heap.size+3) W' W2:=by
         rw[←hW2]
         exact((KpC.of_below (mx_al W' (.cells #[.bool dl,.int .i64 id,.slice a1 ls.length c1,.slice a2 hs.length c2] 34))).trans ((KpC.of_grown hgrow).mono (fun g _ h=>by have:=HF.out g h.symm;exact⟨by omega,by omega⟩))).trans ((KpC.of_grown (grownBy_setCell' w1 wB.heap.size _)).mono (fun g _ h=>by cases h;exact⟨by omega,by omega⟩))
        rw[hW2]at hA hkA⊢
        have hg1:=(own_lt hown' g1 rfl).1
        obtain⟨-,a2',a3,a4,a5⟩:=hA
        have HV2:=Lib.hid a2'
        have HR2:=Lib.hid a3
        have HA4:=Lib.hid (keepsRec_others a4)
        have HA5:=Lib.hid a5
        have HM2:=Lib.hid (HMP.out.kept hkA (by
         rintro (e|e)
         ·have:=HF.out _ e
          omega
         ·omega))
        have HP2:=Lib.hid ((hkA.block _ hmpl (by
         rintro (e|e)
         ·have:=HF.out _ e
          omega
         ·omega)).trans HM.out.bi.mp)
        have HH2:=Lib.hid (own_kept (own_kept HHR.out (O:=fun g=>wB.heap.size≤g) ⟨HLW.out.os,HLW.out.tape,HLW.out.output,HLW.out.size,fun i _ hn=>HLW.out.block i (by omega)⟩ (fun g hg h=>by have:=HSQL.out g hg;omega)) hkA (fun g hg h=>by
         have h1:=HSQL.out g hg
         rcases h with e|e
         ·have:=HF.out g e
          omega
         ·omega))
        have HU2:=Lib.hid ((IntsIn.of_own HH2.out).mono (O':=fun g=>g<wB.heap.size) fun g h=>HSQL.out g h.2)
        have HKP:=Lib.hid hkP
        have hnM:n≤65536000:=Nat.le_trans hnl0 (Nat.le_trans (Nat.mul_le_mul_right 65536 (show pre.length≤1000 by omega)) (by decide))
        clear hkP hkA a2' a3 a4 a5 hown' hgrow hnl hat hnew q1 q2 q3 q4 n3 z0 z1 z2 z3 hlk hW2 m1
        gi_loopw [138] (fun iv w4=> ∃(j:Nat),j≤hs.length∧iv= .int .i64 j∧Hid (MapAt w4 (wB.heap.size+1) (n+j) (needI f (hs.take j)))∧Hid (Kept (fun g=>g=wB.heap.size+1) W2 w4)) (fun iv _=>hs.length-(intOf iv).toNat)
        case atStart=>exact⟨0,Nat.zero_le _,rfl,HM2,Lib.hid (Kept.refl _ _)⟩
        case round=>
         rename World=>w4
         obtain⟨j,hj,rfl,HM4,HK4⟩:=hrel
         by_cases hlt:j<hs.length
         ·obtain⟨y,hyj⟩:=getElem_of hlt
          obtain⟨A',c',hAc,_,_,hxs⟩:=HU2.out
          simp only[Value.slice.injEq,true_and]at hAc
          obtain⟨rfl,rfl⟩:=hAc
          obtain⟨g,o,rfl,hg,hgo,e0⟩:=hxs j y hyj
          have d1:w4.cell? ⟨g,o+j,none⟩=some (.int .i64 y):=(HK4.out.cell (p:=⟨g,o+j,none⟩) hg (by simp only;omega)).trans e0
          have d2:w4.cell? ⟨wB.heap.size+1+1,0,none⟩=some (.map (some (wB.heap.size+1))):=mx_cell (j:=0) ((HK4.out.block (wB.heap.size+2) (heap_lt HP2.out) (by omega)).trans HP2.out)
          have HWY:=Lib.hid (HKW.out y (List.mem_of_getElem? hyj))
          have HTK:=Lib.hid (show needI f (hs.take (j+1))=fun z=>if z=y then 1 else needI f (hs.take j) z from by
           rw[List.take_add_one,hyj]
           exact needI_snoc)
          clear hxs hyj e0
          gi_wp2_with (gi_at_mapUpdate;go_must (refine wpListIn_put HM4.out rfl _ _ _ rfl rfl (by unfold maxLen;omega) y 1 rfl rfl HWY.out rfl ?_);intro w5 hm5 hg5)
          have HM5:=Lib.hid (show MapAt w5 (wB.heap.size+1) (n+(j+1)) (needI f (hs.take (j+1)))from by
           rw[HTK.out]
           exact hm5)
          have HK5:=Lib.hid (HK4.out.trans (O:=fun g=>g=wB.heap.size+1) (Kept.grown hg5) (fun i _ e=>Option.some.inj e))
          clear hm5 hg5 d1 d2
          gi_wp2
          go_roundw
          case rel=>exact⟨j+1,by omega,by go_num,HM5,HK5⟩
          case measure=>simp[intOf];omega
         ·obtain rfl:j=hs.length:=by omega
          have HMF:=Lib.hid (show MapAt w4 (wB.heap.size+1) (n+hs.length) (needI f hs)from by simpa [List.take_length] using HM4.out)
          have hK4:=HK4.out
          have hr4:=own_kept HR2.out hK4 (fun g hg e=>by
           obtain⟨cc',hc'⟩:=own_type HR2.out g hg
           obtain⟨D',⟨es',cl',hb',_⟩,_⟩:=HM2.out
           subst e
           rw[hc']at hb'
           cases hb')
          have HFIN:=Lib.hid (show KeepsRec W' w4∧BkI WQ wB.heap.size (pre++ [((⟨dl,id,ls,hs⟩,(a1,c1),(a2,c2)),xi)]) w4∧BSPost (fun g=>wB.heap.size≤g∧g≠wB.heap.size+3) ((⟨dl,id,ls,hs⟩,(a1,c1),(a2,c2)),xi) W w4 from by
           have hp4:KpC (fun g=>wB.heap.size≤g∧g≠wB.heap.size+3) W2 w4:=⟨hK4.os,hK4.tape,hK4.output,hK4.size,fun i o ho hX _=>(hK4.block i (heap_lt ho) (fun e=>hX ⟨by omega,by omega⟩)).trans ho⟩
           exact⟨HA4.out.trans (KeepsRec.of_kept hK4 (fun g o e ho=>.inr (by
            subst e
            obtain⟨D',⟨es',cl',hb',_⟩,_⟩:=HM2.out
            rw[hb']at ho
            cases ho
            rfl))),BkI.add HFLD.out HSP2.out ((hK4.block _ (heap_lt HV2.out) (by omega)).trans HV2.out) (by rw[List.length_append,List.flatMap_append];exact hr4) (fun g hg=>by cases hg;exact hg1) HMF.out (Nat.le_trans (Nat.add_le_add hnl0 hk1) (Nat.le_of_eq (Nat.succ_mul _ _).symm)) ((hK4.block _ (heap_lt HP2.out) (by omega)).trans HP2.out) ((HM.out.bi.kept.trans HKP.out).trans hp4) ((HLW.out.trans HA5.out).trans (hK4.below (fun i e=>by omega) (by have h1:=HLW.out.size;have h2:=HA5.out.size;omega))),(KpC.trans (KpC.trans HM.out.po HKP.out) hp4)⟩)
          clear hr4 hK4
          gi_wp2
          exact HFIN.out
     case doneB=>
      rintro D zs W hD hS hgi hDf
      obtain⟨v,n,hv,hr,hf,-,-⟩:=hgi.ex
      have hS:zs=K.zipIdx.reverse:=hS
      have hzs:zs.map Prod.fst=K.reverse:=by rw[hS,List.map_reverse,List.zipIdx_map_fst]
      rw[hzs]at hr
      obtain⟨st,hst⟩: ∃st,K.reverse.foldl bkStep (fun _=>0,[])=st:=⟨_,rfl⟩
      have hbk:=bk_fold K.reverse (fun _=>0) []
      have hsub:=bk_sub K.reverse (fun _=>0,[])
      have hlen:=bk_len K.reverse (fun _=>0,[])
      rw[hst]at hr hbk hsub hlen
      obtain⟨f,S⟩:=st
      simp only at hr hbk hsub hlen
      rw[List.length_reverse,List.length_nil,Nat.zero_add]at hlen
      have HOUT:=Lib.hid (show(S.reverse).map Prod.fst=bkL (K.map Prod.fst)from by
       unfold bkL
       rw[←List.map_reverse]
       rw[show bkGo (fun _=>0) (K.reverse.map Prod.fst) []=S.map Prod.fst from hbk,List.map_reverse])
      have HSUB:=Lib.hid (show∀y∈S,y∈K from fun y hy=>(hsub y hy).elim (fun h=>(by cases h)) (fun h=>List.mem_reverse.1 h))
      have q1:=hv.cell
      obtain⟨A,cc,rfl,_⟩:=mx_slice hr
      have HREV:=Lib.hid (rev_steps _ S W hr (by omega))
      have HV:=Lib.hid hv
      have HROW:=Lib.hid hr
      have HF:=Lib.hid hf
      have HLOW:=Lib.hid (show Below wB.heap.size wB W from HBQz.out.trans hgi.low)
      have HD:=Lib.hid hDf
      clear hv hr hf hgi hDf hS hzs hst hbk hsub
      gi_wp2_with fail
      refine⟨trivial,?_⟩
      refine(callsIn_wide.2 HREV.out).mono ?_
      rintro e W9 ⟨rfl,ho9,hk9⟩
      have hv9:Boxed W9 wB.heap.size 35 (.slice A S.length cc):=(hk9.block _ (heap_lt HV.out) (fun e=>by have:=HF.out _ e;omega)).trans HV.out
      have q9:=hv9.cell
      have hb9:Below wB.heap.size wB W9:=below_kept HLOW.out hk9 (fun i e=>by have:=HF.out i e;omega) (by have:=HLOW.out.size;omega)
      have hD9:W9.heap[D]? =some (.deferred (some [])):=(hk9.block D (heap_lt HD.out) (fun e=>by
       obtain⟨cur,hc⟩:=own_type HROW.out D e
       rw[HD.out]at hc
       cases hc)).trans HD.out
      have HD9:=Lib.hid hD9
      have HB9:=Lib.hid hb9
      have HO9:=Lib.hid ho9
      clear hk9 hv9 hD9 hb9 ho9 q1
      gi_wp2_with fail
      refine⟨by simp,.inl ⟨_,_,rfl,run_takeDeferred HD9.out,?_⟩⟩
      have hgw:=grownBy_putObj' W9 D (.deferred none)
      have hzD:wB.heap.size≤D:=by omega
      have hbf:Below wB.heap.size wB (W9.putObj D (.deferred none)):=HB9.out.grown hgw (by have:=HB9.out.size;omega) (fun g e=>by cases e;exact hzD)
      refine⟨_,res_456 rfl _ _,TrimOut.good HE.out HTZ.out HOUT.out ⟨?_,fun y hy=>?_,fun y hy=>?_⟩,HBW2.out.trans ((HB3.out.trans (HBB.out.trans (hbf.mono (by omega)))).mono hzb)⟩
      ·rw[List.length_reverse]
       exact own_mono (own_nocells HO9.out hgw (fun r e=>by cases e;exact⟨_,HD9.out,rfl⟩)) (by omega)
      ·exact own_mono (own_below (HSTB.out.lit y (HSUB.out y (List.mem_reverse.1 hy))) hbf) (by omega)
      ·exact own_mono (own_below (HSTB.out.hnt y (HSUB.out y (List.mem_reverse.1 hy))) hbf) (by omega)
     case stopB=>
      rintro D pre W hD _ hf _
      exact hf.elim
    | false=>
     have hst2:=hst.trans (if_neg (by decide))
     have htm2:=htm.trans (if_neg (by decide))
     have hD0:(kk.do_ s).2.2.2=0:=by
      refine Classical.byContradiction fun hne=>?_
      rw[if_pos hne]at hst2
      have hE:=HE.out
      rw[hst2]at hE
      unfold runE at hE
      rw[if_pos hne]at hE
      exact hne hE
     rw[if_neg (fun h=>h hD0)]at hst2
     have hsb:=do_right HP.out hD0
     have HSO:=Lib.hid (stepO hsb)
     have hhl:=(stepO hsb).len
     have HSP:=Lib.hid (rat_split _ s.hints wB HUH.out HSO.out.hok (by omega))
     have HDO:=Lib.hid (fun(X:World) (hx:Below wB.heap.size wB X)=>ck_do_all b kk s _ _ X (HCKB.out.below hx) (by have h1:=hx.size;have h2:=HBB.out.size;omega) HOKk.out (by omega) (HUL.out.below hx) (HUH.out.below hx) (by omega) (by omega))
     have HOKn:=Lib.hid (do_ok (s:=s) HOKk.out)
     have hts:trimS kk s=⟨false,s.id,s.lits,(trimP s.lits (ckNamed kk.ents (splitL s.hints).1)).map fun j=>(splitL s.hints).1.getD j.toNat 0⟩:=rfl
     obtain⟨hsl,hhsl⟩: ∃x,(splitL s.hints).1=x:=⟨_,rfl⟩
     have HHSL:=Lib.hid (show∀x∈hsl,(Lit.int .i64 x).wf=true from fun x hx=>by
      obtain⟨_,h1,h2⟩:=HSO.out.hok x (splitL_mem (hs:=s.hints) (by rw[hhsl];exact hx))
      exact wf64 (by omega) (by omega))
     have hsll:hsl.length≤65536:=by
      have:=splitL_len s.hints
      rw[hhsl]at this
      omega
     rw[hhsl]at HSP hts
     obtain⟨D,hD⟩: ∃D,kk.do_ s=D:=⟨_,rfl⟩
     rw[hD]at HDO HOKn hst2 htm2 hD0
     have HRn:=Lib.hid hst2
     have HTn:=Lib.hid htm2
     have HTS:=Lib.hid hts
     have HLB:=Lib.hid (show b<wB.heap.size from by
      obtain⟨_,_,hm⟩:=HCKB.out
      exact heap_lt hm.box)
     have HNM:=Lib.hid (fun(X:World) (u:Value) (hx:Below wB.heap.size wB X) (hu:IntsIn (fun _=>True) X u hsl)=>ck_named b kk u hsl X (HCKB.out.below hx) hu HHSL.out (by omega))
     obtain⟨Dk,Dt,Di,De⟩:=D
     simp only at hD0
     subst hD0
     clear hs hst hst2 htm htm2 hxs hbx1 hbxB hD hhsl hts hsb
     gi_wp2_with fail
     try rw[hwB]
     clear r0 r1 r2 r3 f0 f1 f2 f3 hWA hwB hbB d0 d1 d2 d3
     refine⟨trivial,?_⟩
     refine(callsIn_wide.2 HPB.out).mono ?_
     rintro e w' ⟨rfl,rfl⟩
     have t1:=mx_cell (j:=3) HBXB.out
     gi_wp2_with fail
     refine⟨trivial,?_⟩
     refine(callsIn_wide.2 HSP.out).mono ?_
     rintro e w4 ⟨u,gv,KG,rfl,hu,hgm,-,hb4⟩
     obtain⟨Au,cu,rfl,_⟩:=mx_slice hu
     obtain⟨Agv,cgv,rfl,_⟩:=mx_slice hgm.row
     have HU4:=Lib.hid hu
     have HB4:=Lib.hid hb4
     have HU4I:=Lib.hid ((IntsIn.of_own hu).mono (O':=fun _=>True) fun _ _=>trivial)
     clear hu hgm hb4 t1 HSP
     gi_wp2_with fail
     refine⟨trivial,?_⟩
     refine(callsIn_wide.2 (HNM.out w4 _ HB4.out HU4I.out)).mono ?_
     rintro e w5 ⟨nv,rfl,hna,hb5⟩
     have HNV:=Lib.hid (hna.cls (Nat.lt_of_lt_of_le HLB.out HB4.out.size))
     have HU5:=Lib.hid ((IntsIn.of_own (own_below HU4.out hb5)).mono (O':=fun g=>g≠b) fun g hg=>by have:=HLB.out;omega)
     have HB5:=Lib.hid (HB4.out.trans (hb5.mono HB4.out.size))
     obtain⟨Anv,cnv,rfl,_⟩:=id HNV.out
     have HBX5:=Lib.hid ((HB5.out.block _ (heap_lt HBXB.out)).trans HBXB.out)
     have t0:=mx_cell (j:=0) HBX5.out
     have t1:=mx_cell (j:=1) HBX5.out
     have t2:=mx_cell (j:=2) HBX5.out
     have t3:=mx_cell (j:=3) HBX5.out
     clear hna hb5 HNM HU4I
     gi_wp2_with fail
     refine⟨trivial,?_⟩
     refine(callsIn_wide.2 (HDO.out w5 HB5.out)).mono ?_
     rintro e w6 ⟨rfl,hck6,hb6,hf6⟩
     have HCK6:=Lib.hid hck6
     have HBk6:=Lib.hid ((HBB.out.trans (HB5.out.mono (by have:=HBB.out.size;omega))).trans hb6)
     have hbne:wr.heap.size≠b:=fun e=>by
      obtain⟨_,_,hm⟩:=HCKk.out
      have:=heap_lt hm.box
      omega
     have HBX6:=Lib.hid (hf6.block HBX5.out hbne)
     have HU6:=Lib.hid (HU5.out.ckf hf6)
     have HNV6:=Lib.hid (HNV.out.ckf hf6)
     have HST6:=Lib.hid (show StMem N0 w6 (.slice Adv K.length cdv) K from by
      obtain⟨_,_,hm⟩:=HCKB.out.below HB5.out
      exact(HSTB.out.below HB5.out).ckf hf6 hm.box)
     clear hck6 hb6 hf6 t0 t1 t2 t3 HDO
     by_cases h2:Dt=2
     ·subst h2
      have HTZ:=Lib.hid (TrimOut.kind (n0:=w.heap.size) (w':=w6) HE.out (HTn.out.trans (if_pos rfl)))
      gi_wp2_with fail
      exact⟨_,res_456 rfl _ _,HTZ.out,HBW2.out.trans ((HB3.out.trans HBk6.out).mono hzb)⟩
     ·have htn:=HTn.out.trans (if_neg h2)
      have q2:((Dt:Int)==2)=false:=beq_eq_false_iff_ne.2 (by omega)
      by_cases h1:Dt=1
      ·subst h1
       have HTn2:=Lib.hid (show T=trmGo Dk (l.drop (k+1)) (k+1) (K.map Prod.fst++ [trimS kk s])from htn.trans (by rw[if_pos rfl]))
       clear htn HTn h2 q2
       have hN6:N0≤w6.heap.size:=by have:=HBk6.out.size;omega
       have HBr6:=Lib.hid (show Below W0.heap.size W0 w6 from HB2.out.trans ((HB3.out.trans HBk6.out).mono (by have:=HB2.out.size;omega)))
       have HTRC:=Lib.hid (rup_Trim (O:=fun _=>True) _ _ s.lits (ckNamed kk.ents hsl) w6 ((HULX.out w6 HBr6.out).mono fun _ _=>trivial) (HNV6.out.mono fun _ _=>trivial) HSO.out.cls (named_clause HOKk.out.cls hsl) (Nat.le_trans (named_len kk.ents hsl) hsll))
       obtain⟨need,hneed⟩: ∃x,trimP s.lits (ckNamed kk.ents hsl)=x:=⟨_,rfl⟩
       obtain⟨hof,hhof⟩: ∃x:Int→Int,(fun j:Int=>hsl.getD j.toNat 0)=x:=⟨_,rfl⟩
       have HIX:=Lib.hid (show∀y∈need,∃yn:Nat,y=yn∧yn<hsl.length from fun y hy=>by
        obtain⟨h1,h2⟩:=trim_idx s.lits (ckNamed kk.ents hsl) y (by rw[hneed];exact hy)
        have h3:=named_len kk.ents hsl
        exact⟨y.toNat,by omega,by omega⟩)
       have HOF:=Lib.hid hhof
       have hndl:need.length≤65536:=by
        have h1:=trim_len s.lits (ckNamed kk.ents hsl)
        have h2:=named_len kk.ents hsl
        rw[hneed]at h1
        omega
       have HNDL:=Lib.hid hndl
       have hts:=HTS.out
       rw[hneed,hhof]at hts
       have HTS:=Lib.hid hts
       rw[hneed]at HTRC
       clear hneed hhof hts
       have t2:=mx_cell (j:=2) HBX6.out
       gi_wp2_with fail
       refine⟨trivial,?_⟩
       refine(callsIn_wide.2 HTRC.out).mono ?_
       rintro e w7 ⟨nvv,rfl,hnd,hb7⟩
       obtain⟨And,cnd,rfl,_⟩:=mx_slice hnd
       have HND:=Lib.hid ((IntsIn.of_own hnd).lt)
       have HHS:=Lib.hid ((HU6.out.below hb7).lt)
       have HST7:=Lib.hid (HST6.out.below hb7)
       have HCK7:=Lib.hid (HCK6.out.below hb7)
       have HB7N:=Lib.hid (HBk6.out.trans (hb7.mono hN6))
       have HBX7:=Lib.hid ((hb7.block _ (heap_lt HBX6.out)).trans HBX6.out)
       have hN7:N0≤w7.heap.size:=by have:=hb7.size;omega
       have HBr7:=Lib.hid (HBr6.out.trans (hb7.mono HBr6.out.size))
       clear hnd hb7 HTRC t2
       have HCLN:=Lib.hid (fun(X:World) (hx:Below w7.heap.size w7 X)=>clone_c _ s.lits X ((HULX.out w7 HBr7.out).below hx) (by omega))
       have x1:=Lib.hid (mx_cell (j:=1) HBX7.out)
       have x2:=Lib.hid (mx_cell (j:=2) HBX7.out)
       have hxl:=heap_lt HBX7.out
       obtain⟨i0,hi,iz0,iz1,iz2⟩:=info_parts jinfo_int
       obtain⟨si,hsi,sz0,sz1,sz2⟩:=info_parts stinfo
       gi_wp2_with fail
       refine wpIn_wide.2 (wp_region_noPanic ?_)
       refine wp_region_sink_at (fun w'=>Below w7.heap.size w7 w') (by kernel_rfl) rfl (by kernel_rfl) (mx_drew w7) (fun hS=>?_)
       simp only[List.dropLast]
       obtain⟨xD,hxD⟩: ∃y,w7.drew=y:=⟨_,rfl⟩
       rw[hxD]at hS⊢
       clear hxD
       refine takeE 0 88 ?_
       refine takeF 1 89 (fun wq hSw=>(hSw.cell (p:=⟨wr.heap.size,1,none⟩) hxl).trans x1.out) ?_
       refine takeE 2 90 ?_
       refine takeF 3 91 (fun wq hSw=>(hSw.cell (p:=⟨wr.heap.size,2,none⟩) hxl).trans x2.out) ?_
       refine wpAnyH_ready (rs:= [4,6]) (by kernel_rfl) (by simp) (AllReadyH.cons rfl (fun KK hKK=>?_) (AllReadyH.cons rfl (fun KK hKK=>?_) AllReadyH.nil))
       ·go_simp
        refine(HCLN.out xD hS).mono ?_
        rintro e wc ⟨vc,rfl,hcl,hbc⟩
        have hSc:=hS.trans (hbc.mono hS.size)
        obtain⟨Acl,ccl,rfl,_⟩:=mx_slice hcl
        refine hKK.out _ _ hSc (fun _=>?_)
        clear hKK
        refine takeE 5 93 ?_
        refine ready1 6 (fun KK hKK=>?_)
        go_simp
        obtain⟨wa,hwa⟩: ∃z,wc.alloc (.cells #[.bool false,.int .i64 0,.slice none 0 0,.slice none 0 0] 34)=z:=⟨_,rfl⟩
        have hba:Below wc.heap.size wc wa:=by rw[←hwa];exact mx_al _ _
        have hbxa:wa.heap[wc.heap.size]? =some (.cells #[.bool false,.int .i64 0,.slice none 0 0,.slice none 0 0] 34 (0,0)):=by rw[←hwa];exact World.alloc_heap_new _ _
        rw[hwa]
        have hSa:=hSc.trans (hba.mono hSc.size)
        have hcla:=own_mono (own_below hcl hba) hS.size
        refine hKK.out _ _ hSa (fun _=>?_)
        clear hKK hwa hba hcl hbc
        obtain⟨wS,hwS,hbxS,hkS⟩:=four_setR hbxa (.bool false) (.int .i64 s.id) (.slice Acl s.lits.length ccl) (.slice none 0 0)
        have r0:=mx_cell (j:=0) hbxa
        have r1:=mx_cell (j:=1) hbxa
        have r2:=mx_cell (j:=2) hbxa
        have r3:=mx_cell (j:=3) hbxa
        have f0:=free_at (j:=0) hbxa
        have f1:=free_at (j:=1) hbxa
        have f2:=free_at (j:=2) hbxa
        have f3:=free_at (j:=3) hbxa
        refine wpAnyH_done (by kernel_rfl) ?_ _
        refine lastPost_normal ?_
        refine wpOp_step rfl (fun KK hKK=>?_)
        go_simp
        try rw[hwS]
        refine hKK _ _ ?_
        obtain⟨B,hB⟩: ∃B,wc.heap.size=B:=⟨_,rfl⟩
        rw[hB]at hbxS hkS⊢
        have hB7:w7.heap.size≤B:=by rw[←hB];exact hSc.size
        have HBXS:=Lib.hid hbxS
        have HBS:=Lib.hid (hSa.trans (hkS.below (fun i e=>by omega) hSa.size))
        have HCLS:=Lib.hid (show wS.ownsRow w7.heap.size 28 1 (.slice Acl s.lits.length ccl) s.lits.length (s.lits.map (Value.int .i64))from own_kept hcla hkS (fun g h1 h2=>mx_not hcla hbxa (by decide) (by rw[hB,←h2];exact h1)))
        have hBS:=heap_lt hbxS
        have hzS:w7.heap.size≤wS.heap.size:=HBS.out.size
        clear hKK r0 r1 r2 r3 f0 f1 f2 f3 hwS hbxS hkS hbxa hSa hcla hB
        refine NoPanic.normal ?_
        gi_wp2_with fail
        gi_loopw [96] (fun i wr6=> ∃(j:Nat) (hv:Value),j≤need.length∧i= .int .i64 j∧Hid (wr6.heap[B]? =some (.cells #[.bool false,.int .i64 s.id,.slice Acl s.lits.length ccl,hv] 34 (0,0)))∧Hid (wr6.ownsRow wS.heap.size 3 1 hv j (((need.take j).map hof).map (Value.int .i64)))∧Hid (Kept (fun g=>g=B∨wS.heap.size≤g) wS wr6)) (fun i _=>need.length-(intOf i).toNat)
        case atStart=>exact⟨0,.slice none 0 0,Nat.zero_le _,rfl,HBXS,Lib.hid (World.ownsRow_nil _ _ _ _),Lib.hid (Kept.refl _ _)⟩
        case round=>
         rename World=>wr6
         obtain⟨j,hv,hj,rfl,HX6,HR6,HKX⟩:=hrel
         obtain⟨Ahv,chv,rfl,_⟩:=mx_slice HR6.out
         have HB6:=Lib.hid (HBS.out.trans (HKX.out.below (fun i h=>by rcases h with h|h <;> omega) hzS))
         have hz6:w7.heap.size≤wr6.heap.size:=HB6.out.size
         have hzK:wS.heap.size≤wr6.heap.size:=HKX.out.size
         by_cases hlt6:j<need.length
         ·obtain⟨y,hy⟩:=getElem_of hlt6
          obtain⟨yn,hyn,hynl⟩:=HIX.out y (List.mem_of_getElem? hy)
          subst hyn
          obtain⟨A6,c6',hAc6,_,_,hxs6⟩:=HND.out.below HB6.out
          simp only[Value.slice.injEq,true_and]at hAc6
          obtain⟨rfl,rfl⟩:=hAc6
          obtain⟨g6,o6,rfl,hg6,hg6o,d6⟩:=hxs6 j _ hy
          obtain⟨hx,hhx⟩: ∃hx,hsl[yn]? =some hx:=⟨_,List.getElem?_eq_getElem hynl⟩
          obtain⟨A7,c7',hAc7,_,_,hxs7⟩:=HHS.out.below HB6.out
          simp only[Value.slice.injEq,true_and]at hAc7
          obtain⟨rfl,rfl⟩:=hAc7
          obtain⟨g7,o7,rfl,hg7,hg7o,d7⟩:=hxs7 yn _ hhx
          have hyi:(yn:Int)<(hsl.length:Int):=by omega
          have HTK:=Lib.hid (show((need.take (j+1)).map hof).map (Value.int .i64)=((need.take j).map hof).map (Value.int .i64)++ [.int .i64 hx]from by
           rw[List.take_add_one,hy]
           have:hof ((yn:Nat):Int)=hx:=by
            rw[←HOF.out]
            show hsl.getD yn 0=hx
            rw[List.getD_eq_getElem?_getD,hhx]
            rfl
           simp[this])
          have hBl:=heap_lt HX6.out
          have hnb: ∀i,i<wS.heap.size→¬(Value.slice Ahv j chv).ownBlock=some i:=fun i hi e=>by have:=(own_lt HR6.out i e).1;omega
          have D6:=Lib.hid d6
          have D7:=Lib.hid d7
          have X3:=Lib.hid (mx_cell (j:=3) HX6.out)
          have hg6l:=hg6o.2
          have hg7l:=hg7o.2
          clear hy hhx hxs6 hxs7
          gi_wp2
          refine wpIn_wide.2 (wp_region_noPanic ?_)
          refine wp_region_sink_at (fun w'=>Kept (fun i=>(Value.slice Ahv j chv).ownBlock=some i) wr6 w') (by kernel_rfl) rfl (by kernel_rfl) (Kept.of_below (mx_drew wr6)) (fun hS=>?_)
          simp only[List.dropLast]
          have hDW:=mx_drew wr6
          obtain⟨wD,hwD⟩: ∃y,wr6.drew=y:=⟨_,rfl⟩
          rw[hwD]at hS hDW⊢
          clear hwD d6
          refine takeE 0 100 ?_
          refine takeF 1 101 (fun wq hSw=>(hSw.cell (p:=⟨B,3,none⟩) hBl (hnb B hBS)).trans X3.out) ?_
          refine takeE 2 102 ?_
          refine takeE 3 103 ?_
          refine takeE 4 104 ?_
          refine takeF 5 105 (fun wq hSw=>(hSw.cell (p:=⟨g7,o7+yn,none⟩) hg7 (hnb g7 (by omega))).trans D7.out) ?_
          refine ready1 6 (fun KK hKK=>?_)
          go_simp
          have hbE:Below wD.heap.size wD (wD.alloc (.cells #[.int .i64 hx] 3)):=mx_al _ _
          have hWE:Below wr6.heap.size wr6 (wD.alloc (.cells #[.int .i64 hx] 3)):=hDW.trans (hbE.mono hDW.size)
          refine hKK.out _ _ (Kept.of_below hWE) (fun _=>?_)
          clear hKK
          refine ready1 7 (fun KK hKK=>?_)
          rw[if_pos (by rfl)]
          refine wp_append_at 107 (by rfl) _ _ 31 rfl wS.heap.size 3 i0 (.int .i64 0) 1 8 Tryz.underlying31 hi iz0 iz1 iz2 rfl (by decide) _ j _ (by rfl) (own_below HR6.out hWE) ⟨wD.heap.size,0,none⟩ 1 1 [.int .i64 hx] (by rfl) rfl (cell_one_new' _ _ _) (by simp[Value.oneCell']) (by unfold maxLen;omega) (by omega) (by have:=hWE.size;omega) ?_
          intro v' w8 hown' hgrow hat
          obtain⟨A8,c8,rfl,_⟩:=mx_slice hown'
          have hk8:Kept (fun i=>(Value.slice Ahv j chv).ownBlock=some i) wr6 w8:=(Kept.of_below hWE).trans (Kept.grown hgrow) (fun i _ h=>h.symm)
          have hX8:=(hk8.block B hBl (hnb B hBS)).trans HX6.out
          have q3:=mx_cell (j:=3) hX8
          have q4:=free_at (j:=3) hX8
          have HX9:=Lib.hid (mx_set hX8 (j:=3) (.slice A8 (j+1) c8))
          have HR9:=Lib.hid (show(w8.setCell ⟨B,3,none⟩ (.slice A8 (j+1) c8)).ownsRow wS.heap.size 3 1 (.slice A8 (j+1) c8) (j+1) (((need.take (j+1)).map hof).map (Value.int .i64))from by
           rw[HTK.out]
           exact own_kept hown' ((Kept.refl (fun g=>g=B) w8).setCell ⟨B,3,none⟩ _ rfl) (fun g h1 h2=>by have:=(own_lt hown' g h1).1;omega))
          have HK9:=Lib.hid ((HKX.out.trans hk8 (fun i hi e=>absurd e (hnb i hi))).trans ((Kept.refl (fun g=>g=B) w8).setCell ⟨B,3,none⟩ (.slice A8 (j+1) c8) rfl) (fun i _ e=>.inl e))
          refine hKK.out _ _ hk8 (fun _=>?_)
          clear hKK hown' hgrow hat hbE hWE hDW hS hX8 hk8
          simp only[Act.put,List.setIfInBounds_toArray,List.set_cons_zero,List.set_cons_succ]
          refine takeE 8 108 ?_
          refine wpAnyH_done (by kernel_rfl) ?_ _
          refine lastPost_normal ?_
          refine wpOp_step rfl (fun KK hKK=>?_)
          go_simp
          refine hKK _ _ ?_
          clear hKK q3 q4
          refine NoPanic.normal ?_
          gi_wp2
          go_roundw
          case rel=>exact⟨j+1,_,by omega,by go_num,HX9,HR9,HK9⟩
          case measure=>simp[intOf];omega
         ·obtain rfl:j=need.length:=by omega
          have HXN:=Lib.hid (show StMem N0 wr6 (.slice Adv K.length cdv) K from(HST7.out.below HB6.out))
          have y0:=mx_cell (j:=0) HX6.out
          have y1:=mx_cell (j:=1) HX6.out
          have y2:=mx_cell (j:=2) HX6.out
          have y3:=mx_cell (j:=3) HX6.out
          have HCL6:=Lib.hid (show wr6.ownsRow w7.heap.size 28 1 (.slice Acl s.lits.length ccl) s.lits.length (s.lits.map (Value.int .i64))from own_kept HCLS.out HKX.out (fun g h1 h2=>by
           rcases h2 with h2|h2
           ·subst h2
            exact mx_not HCLS.out HBXS.out (by decide) h1
           ·have:=(own_lt HCLS.out g h1).2
            omega))
          have hr6:=HR6.out
          rw[List.take_length]at hr6
          have HRN:=Lib.hid hr6
          clear hr6
          gi_wp2_with (gi_at_builtin;refine wpListIn_append_own_at _ rfl _ _ 35 rfl N0 34 si (.agg #[.bool false,.int .i64 0,.slice none 0 0,.slice none 0 0]) 4 64 Tryz.underlying35 hsi sz0 sz1 sz2 rfl (by decide) _ K.length _ rfl (own_below HXN.out.row (mx_al wr6 _)) ⟨wr6.heap.size,0,none⟩ 1 1 [.bool false,.int .i64 s.id,.slice Acl s.lits.length ccl,.slice Ahv need.length chv] rfl rfl (fun j u hj=>cells_list_new wr6 [.bool false,.int .i64 s.id,.slice Acl s.lits.length ccl,.slice Ahv need.length chv] 34 j u hj) (by simp[Value.oneCell']) (by unfold maxLen;omega) (by omega) (by simp;omega) ?_;intro v' w9 hown' hgrow hnl hat)
          have hbA:Below wr6.heap.size wr6 (wr6.alloc (.cells #[.bool false,.int .i64 s.id,.slice Acl s.lits.length ccl,.slice Ahv need.length chv] 34)):=mx_al _ _
          have HPU:=Lib.hid (StMem.push (HXN.out.below hbA) hgrow (trimS kk s,(Acl,ccl),(Ahv,chv)) (by
           rw[HTS.out]
           show w9.ownsRow N0 34 4 _ (K.length+1) (K.flatMap stcell++ [.bool false,.int .i64 s.id,.slice Acl s.lits.length ccl,.slice Ahv (need.map hof).length chv])
           rw[List.length_map]
           exact hown') (by rw[HTS.out];exact own_mono (own_below HCL6.out hbA) (by omega)) (by
           rw[HTS.out]
           show World.ownsRow _ N0 3 1 (.slice Ahv (need.map hof).length chv) (need.map hof).length ((need.map hof).map (Value.int .i64))
           rw[List.length_map]
           exact own_mono (own_below HRN.out hbA) (by omega)))
          have HKH9:=Lib.hid (show∀x∈K++ [(trimS kk s,(Acl,ccl),(Ahv,chv))],KOk x from fun x hx=>by
           rcases List.mem_append.1 hx with hx|hx
           ·exact HKHk.out x hx
           ·rw[List.mem_singleton.1 hx]
            unfold KOk
            show(trimS kk s).hints.length≤65536∧(Lit.int .i64 (trimS kk s).id).wf=true∧∀h∈(trimS kk s).hints,(Lit.int .i64 h).wf=true
            rw[HTS.out]
            refine⟨by show(need.map hof).length≤65536;rw[List.length_map];exact HNDL.out,wf64 (by have:=HSO.out.id0;simp only;omega) (by have:=HSO.out.id1;simp only;omega),fun h hh=>?_⟩
            obtain⟨y,hy,e⟩:=List.mem_map.1 hh
            obtain⟨yn,rfl,hyl⟩:=HIX.out y hy
            rw[←e,←HOF.out]
            show(Lit.int .i64 (hsl.getD yn 0)).wf=true
            rw[List.getD_eq_getElem?_getD,List.getElem?_eq_getElem hyl]
            exact HHSL.out _ (List.getElem_mem hyl))
          have HB9:=Lib.hid (show Below N0 w3 w9 from((HB7N.out.trans (HB6.out.mono (by omega))).trans (hbA.mono (by omega))).grown hgrow (by have:=hbA.size;omega) (fun g e=>(own_lt HXN.out.row g e).1))
          have hck9:CkAt N0 w9 b Dk:=by
           obtain⟨mb,KC,hm⟩:=HCK7.out.below (HB6.out.trans (hbA.mono hz6))
           exact⟨mb,KC,hm.grown (own_below HXN.out.row hbA) (by decide) (by decide) hgrow⟩
          have HCK9:=Lib.hid hck9
          have HTn9:=Lib.hid (show T=trmGo Dk (l.drop (k+1)) (k+1) ((K++ [(trimS kk s,(Acl,ccl),(Ahv,chv))]).map Prod.fst)from by
           rw[List.map_append]
           exact HTn2.out)
          clear hown' hgrow hnl hat hck9 hbA y0 y1 y2 y3
          gi_wp2_with fail
          go_roundw
          case rel=>exact⟨k+1,Dk,_,by omega,by go_num,by rw[List.length_append,List.length_singleton];omega,HRn,HTn9,HOKn,HCK9,HPU,HKH9,HB9⟩
          case measure=>simp[intOf];omega
       ·go_simp
        obtain⟨wc,hwc⟩: ∃z,xD.alloc (.cells #[.bool false,.int .i64 0,.slice none 0 0,.slice none 0 0] 34)=z:=⟨_,rfl⟩
        have hbc:Below xD.heap.size xD wc:=by rw[←hwc];exact mx_al _ _
        have hbxc:wc.heap[xD.heap.size]? =some (.cells #[.bool false,.int .i64 0,.slice none 0 0,.slice none 0 0] 34 (0,0)):=by rw[←hwc];exact World.alloc_heap_new _ _
        rw[hwc]
        have hSc:=hS.trans (hbc.mono hS.size)
        refine hKK.out _ _ hSc (fun _=>?_)
        clear hKK hwc
        refine ready1 4 (fun KK hKK=>?_)
        go_simp
        refine(HCLN.out wc hSc).mono ?_
        rintro e wa ⟨vc,rfl,hcl,hba⟩
        have hSa:=hSc.trans (hba.mono hSc.size)
        obtain⟨Acl,ccl,rfl,_⟩:=mx_slice hcl
        have hcla:=own_mono hcl hSc.size
        have hbxa:=(hba.block _ (heap_lt hbxc)).trans hbxc
        refine hKK.out _ _ hSa (fun _=>?_)
        clear hKK hba hcl hbc hbxc
        refine takeE 5 93 ?_
        obtain⟨wS,hwS,hbxS,hkS⟩:=four_setR hbxa (.bool false) (.int .i64 s.id) (.slice Acl s.lits.length ccl) (.slice none 0 0)
        have r0:=mx_cell (j:=0) hbxa
        have r1:=mx_cell (j:=1) hbxa
        have r2:=mx_cell (j:=2) hbxa
        have r3:=mx_cell (j:=3) hbxa
        have f0:=free_at (j:=0) hbxa
        have f1:=free_at (j:=1) hbxa
        have f2:=free_at (j:=2) hbxa
        have f3:=free_at (j:=3) hbxa
        refine wpAnyH_done (by kernel_rfl) ?_ _
        refine lastPost_normal ?_
        refine wpOp_step rfl (fun KK hKK=>?_)
        go_simp
        try rw[hwS]
        refine hKK _ _ ?_
        obtain⟨B,hB⟩: ∃B,xD.heap.size=B:=⟨_,rfl⟩
        rw[hB]at hbxS hkS⊢
        have hB7:w7.heap.size≤B:=by rw[←hB];exact hS.size
        have HBXS:=Lib.hid hbxS
        have HBS:=Lib.hid (hSa.trans (hkS.below (fun i e=>by omega) hSa.size))
        have HCLS:=Lib.hid (show wS.ownsRow w7.heap.size 28 1 (.slice Acl s.lits.length ccl) s.lits.length (s.lits.map (Value.int .i64))from own_kept hcla hkS (fun g h1 h2=>mx_not hcla hbxa (by decide) (by rw[hB,←h2];exact h1)))
        have hBS:=heap_lt hbxS
        have hzS:w7.heap.size≤wS.heap.size:=HBS.out.size
        clear hKK r0 r1 r2 r3 f0 f1 f2 f3 hwS hbxS hkS hbxa hSa hcla hB
        refine NoPanic.normal ?_
        gi_wp2_with fail
        gi_loopw [96] (fun i wr6=> ∃(j:Nat) (hv:Value),j≤need.length∧i= .int .i64 j∧Hid (wr6.heap[B]? =some (.cells #[.bool false,.int .i64 s.id,.slice Acl s.lits.length ccl,hv] 34 (0,0)))∧Hid (wr6.ownsRow wS.heap.size 3 1 hv j (((need.take j).map hof).map (Value.int .i64)))∧Hid (Kept (fun g=>g=B∨wS.heap.size≤g) wS wr6)) (fun i _=>need.length-(intOf i).toNat)
        case atStart=>exact⟨0,.slice none 0 0,Nat.zero_le _,rfl,HBXS,Lib.hid (World.ownsRow_nil _ _ _ _),Lib.hid (Kept.refl _ _)⟩
        case round=>
         rename World=>wr6
         obtain⟨j,hv,hj,rfl,HX6,HR6,HKX⟩:=hrel
         obtain⟨Ahv,chv,rfl,_⟩:=mx_slice HR6.out
         have HB6:=Lib.hid (HBS.out.trans (HKX.out.below (fun i h=>by rcases h with h|h <;> omega) hzS))
         have hz6:w7.heap.size≤wr6.heap.size:=HB6.out.size
         have hzK:wS.heap.size≤wr6.heap.size:=HKX.out.size
         by_cases hlt6:j<need.length
         ·obtain⟨y,hy⟩:=getElem_of hlt6
          obtain⟨yn,hyn,hynl⟩:=HIX.out y (List.mem_of_getElem? hy)
          subst hyn
          obtain⟨A6,c6',hAc6,_,_,hxs6⟩:=HND.out.below HB6.out
          simp only[Value.slice.injEq,true_and]at hAc6
          obtain⟨rfl,rfl⟩:=hAc6
          obtain⟨g6,o6,rfl,hg6,hg6o,d6⟩:=hxs6 j _ hy
          obtain⟨hx,hhx⟩: ∃hx,hsl[yn]? =some hx:=⟨_,List.getElem?_eq_getElem hynl⟩
          obtain⟨A7,c7',hAc7,_,_,hxs7⟩:=HHS.out.below HB6.out
          simp only[Value.slice.injEq,true_and]at hAc7
          obtain⟨rfl,rfl⟩:=hAc7
          obtain⟨g7,o7,rfl,hg7,hg7o,d7⟩:=hxs7 yn _ hhx
          have hyi:(yn:Int)<(hsl.length:Int):=by omega
          have HTK:=Lib.hid (show((need.take (j+1)).map hof).map (Value.int .i64)=((need.take j).map hof).map (Value.int .i64)++ [.int .i64 hx]from by
           rw[List.take_add_one,hy]
           have:hof ((yn:Nat):Int)=hx:=by
            rw[←HOF.out]
            show hsl.getD yn 0=hx
            rw[List.getD_eq_getElem?_getD,hhx]
            rfl
           simp[this])
          have hBl:=heap_lt HX6.out
          have hnb: ∀i,i<wS.heap.size→¬(Value.slice Ahv j chv).ownBlock=some i:=fun i hi e=>by have:=(own_lt HR6.out i e).1;omega
          have D6:=Lib.hid d6
          have D7:=Lib.hid d7
          have X3:=Lib.hid (mx_cell (j:=3) HX6.out)
          have hg6l:=hg6o.2
          have hg7l:=hg7o.2
          clear hy hhx hxs6 hxs7
          gi_wp2
          refine wpIn_wide.2 (wp_region_noPanic ?_)
          refine wp_region_sink_at (fun w'=>Kept (fun i=>(Value.slice Ahv j chv).ownBlock=some i) wr6 w') (by kernel_rfl) rfl (by kernel_rfl) (Kept.of_below (mx_drew wr6)) (fun hS=>?_)
          simp only[List.dropLast]
          have hDW:=mx_drew wr6
          obtain⟨wD,hwD⟩: ∃y,wr6.drew=y:=⟨_,rfl⟩
          rw[hwD]at hS hDW⊢
          clear hwD d6
          refine takeE 0 100 ?_
          refine takeF 1 101 (fun wq hSw=>(hSw.cell (p:=⟨B,3,none⟩) hBl (hnb B hBS)).trans X3.out) ?_
          refine takeE 2 102 ?_
          refine takeE 3 103 ?_
          refine takeE 4 104 ?_
          refine takeF 5 105 (fun wq hSw=>(hSw.cell (p:=⟨g7,o7+yn,none⟩) hg7 (hnb g7 (by omega))).trans D7.out) ?_
          refine ready1 6 (fun KK hKK=>?_)
          go_simp
          have hbE:Below wD.heap.size wD (wD.alloc (.cells #[.int .i64 hx] 3)):=mx_al _ _
          have hWE:Below wr6.heap.size wr6 (wD.alloc (.cells #[.int .i64 hx] 3)):=hDW.trans (hbE.mono hDW.size)
          refine hKK.out _ _ (Kept.of_below hWE) (fun _=>?_)
          clear hKK
          refine ready1 7 (fun KK hKK=>?_)
          rw[if_pos (by rfl)]
          refine wp_append_at 107 (by rfl) _ _ 31 rfl wS.heap.size 3 i0 (.int .i64 0) 1 8 Tryz.underlying31 hi iz0 iz1 iz2 rfl (by decide) _ j _ (by rfl) (own_below HR6.out hWE) ⟨wD.heap.size,0,none⟩ 1 1 [.int .i64 hx] (by rfl) rfl (cell_one_new' _ _ _) (by simp[Value.oneCell']) (by unfold maxLen;omega) (by omega) (by have:=hWE.size;omega) ?_
          intro v' w8 hown' hgrow hat
          obtain⟨A8,c8,rfl,_⟩:=mx_slice hown'
          have hk8:Kept (fun i=>(Value.slice Ahv j chv).ownBlock=some i) wr6 w8:=(Kept.of_below hWE).trans (Kept.grown hgrow) (fun i _ h=>h.symm)
          have hX8:=(hk8.block B hBl (hnb B hBS)).trans HX6.out
          have q3:=mx_cell (j:=3) hX8
          have q4:=free_at (j:=3) hX8
          have HX9:=Lib.hid (mx_set hX8 (j:=3) (.slice A8 (j+1) c8))
          have HR9:=Lib.hid (show(w8.setCell ⟨B,3,none⟩ (.slice A8 (j+1) c8)).ownsRow wS.heap.size 3 1 (.slice A8 (j+1) c8) (j+1) (((need.take (j+1)).map hof).map (Value.int .i64))from by
           rw[HTK.out]
           exact own_kept hown' ((Kept.refl (fun g=>g=B) w8).setCell ⟨B,3,none⟩ _ rfl) (fun g h1 h2=>by have:=(own_lt hown' g h1).1;omega))
          have HK9:=Lib.hid ((HKX.out.trans hk8 (fun i hi e=>absurd e (hnb i hi))).trans ((Kept.refl (fun g=>g=B) w8).setCell ⟨B,3,none⟩ (.slice A8 (j+1) c8) rfl) (fun i _ e=>.inl e))
          refine hKK.out _ _ hk8 (fun _=>?_)
          clear hKK hown' hgrow hat hbE hWE hDW hS hX8 hk8
          simp only[Act.put,List.setIfInBounds_toArray,List.set_cons_zero,List.set_cons_succ]
          refine takeE 8 108 ?_
          refine wpAnyH_done (by kernel_rfl) ?_ _
          refine lastPost_normal ?_
          refine wpOp_step rfl (fun KK hKK=>?_)
          go_simp
          refine hKK _ _ ?_
          clear hKK q3 q4
          refine NoPanic.normal ?_
          gi_wp2
          go_roundw
          case rel=>exact⟨j+1,_,by omega,by go_num,HX9,HR9,HK9⟩
          case measure=>simp[intOf];omega
         ·obtain rfl:j=need.length:=by omega
          have HXN:=Lib.hid (show StMem N0 wr6 (.slice Adv K.length cdv) K from(HST7.out.below HB6.out))
          have y0:=mx_cell (j:=0) HX6.out
          have y1:=mx_cell (j:=1) HX6.out
          have y2:=mx_cell (j:=2) HX6.out
          have y3:=mx_cell (j:=3) HX6.out
          have HCL6:=Lib.hid (show wr6.ownsRow w7.heap.size 28 1 (.slice Acl s.lits.length ccl) s.lits.length (s.lits.map (Value.int .i64))from own_kept HCLS.out HKX.out (fun g h1 h2=>by
           rcases h2 with h2|h2
           ·subst h2
            exact mx_not HCLS.out HBXS.out (by decide) h1
           ·have:=(own_lt HCLS.out g h1).2
            omega))
          have hr6:=HR6.out
          rw[List.take_length]at hr6
          have HRN:=Lib.hid hr6
          clear hr6
          gi_wp2_with (gi_at_builtin;refine wpListIn_append_own_at _ rfl _ _ 35 rfl N0 34 si (.agg #[.bool false,.int .i64 0,.slice none 0 0,.slice none 0 0]) 4 64 Tryz.underlying35 hsi sz0 sz1 sz2 rfl (by decide) _ K.length _ rfl (own_below HXN.out.row (mx_al wr6 _)) ⟨wr6.heap.size,0,none⟩ 1 1 [.bool false,.int .i64 s.id,.slice Acl s.lits.length ccl,.slice Ahv need.length chv] rfl rfl (fun j u hj=>cells_list_new wr6 [.bool false,.int .i64 s.id,.slice Acl s.lits.length ccl,.slice Ahv need.length chv] 34 j u hj) (by simp[Value.oneCell']) (by unfold maxLen;omega) (by omega) (by simp;omega) ?_;intro v' w9 hown' hgrow hnl hat)
          have hbA:Below wr6.heap.size wr6 (wr6.alloc (.cells #[.bool false,.int .i64 s.id,.slice Acl s.lits.length ccl,.slice Ahv need.length chv] 34)):=mx_al _ _
          have HPU:=Lib.hid (StMem.push (HXN.out.below hbA) hgrow (trimS kk s,(Acl,ccl),(Ahv,chv)) (by
           rw[HTS.out]
           show w9.ownsRow N0 34 4 _ (K.length+1) (K.flatMap stcell++ [.bool false,.int .i64 s.id,.slice Acl s.lits.length ccl,.slice Ahv (need.map hof).length chv])
           rw[List.length_map]
           exact hown') (by rw[HTS.out];exact own_mono (own_below HCL6.out hbA) (by omega)) (by
           rw[HTS.out]
           show World.ownsRow _ N0 3 1 (.slice Ahv (need.map hof).length chv) (need.map hof).length ((need.map hof).map (Value.int .i64))
           rw[List.length_map]
           exact own_mono (own_below HRN.out hbA) (by omega)))
          have HKH9:=Lib.hid (show∀x∈K++ [(trimS kk s,(Acl,ccl),(Ahv,chv))],KOk x from fun x hx=>by
           rcases List.mem_append.1 hx with hx|hx
           ·exact HKHk.out x hx
           ·rw[List.mem_singleton.1 hx]
            unfold KOk
            show(trimS kk s).hints.length≤65536∧(Lit.int .i64 (trimS kk s).id).wf=true∧∀h∈(trimS kk s).hints,(Lit.int .i64 h).wf=true
            rw[HTS.out]
            refine⟨by show(need.map hof).length≤65536;rw[List.length_map];exact HNDL.out,wf64 (by have:=HSO.out.id0;simp only;omega) (by have:=HSO.out.id1;simp only;omega),fun h hh=>?_⟩
            obtain⟨y,hy,e⟩:=List.mem_map.1 hh
            obtain⟨yn,rfl,hyl⟩:=HIX.out y hy
            rw[←e,←HOF.out]
            show(Lit.int .i64 (hsl.getD yn 0)).wf=true
            rw[List.getD_eq_getElem?_getD,List.getElem?_eq_getElem hyl]
            exact HHSL.out _ (List.getElem_mem hyl))
          have HB9:=Lib.hid (show Below N0 w3 w9 from((HB7N.out.trans (HB6.out.mono (by omega))).trans (hbA.mono (by omega))).grown hgrow (by have:=hbA.size;omega) (fun g e=>(own_lt HXN.out.row g e).1))
          have hck9:CkAt N0 w9 b Dk:=by
           obtain⟨mb,KC,hm⟩:=HCK7.out.below (HB6.out.trans (hbA.mono hz6))
           exact⟨mb,KC,hm.grown (own_below HXN.out.row hbA) (by decide) (by decide) hgrow⟩
          have HCK9:=Lib.hid hck9
          have HTn9:=Lib.hid (show T=trmGo Dk (l.drop (k+1)) (k+1) ((K++ [(trimS kk s,(Acl,ccl),(Ahv,chv))]).map Prod.fst)from by
           rw[List.map_append]
           exact HTn2.out)
          clear hown' hgrow hnl hat hck9 hbA y0 y1 y2 y3
          gi_wp2_with fail
          go_roundw
          case rel=>exact⟨k+1,Dk,_,by omega,by go_num,by rw[List.length_append,List.length_singleton];omega,HRn,HTn9,HOKn,HCK9,HPU,HKH9,HB9⟩
          case measure=>simp[intOf];omega
      ·have q1:((Dt:Int)==1)=false:=beq_eq_false_iff_ne.2 (by omega)
       have HTn2:=Lib.hid (show T=trmGo Dk (l.drop (k+1)) (k+1) (K.map Prod.fst)from htn.trans (by rw[if_neg h1]))
       clear htn HTn h1 h2
       gi_wp2_with fail
       go_roundw
       case rel=>exact⟨k+1,Dk,K,by omega,by go_num,by omega,HRn,HTn2,HOKn,HCK6,HST6,HKHk,HBk6⟩
       case measure=>simp[intOf];omega
   ·obtain rfl:k=l.length:=by omega
    have HTZ:=Lib.hid (show T=(K.map Prod.fst,l.length,true)from by rw[HTk.out,List.drop_length,trm_nil])
    have hmm:=@run_makeMap Tryz.prog
    have hzz:N0≤wr.heap.size:=by have:=HBk.out.size;omega
    obtain⟨WR,hWR,hcR,hzR,hbR⟩: ∃x,wr.alloc (.cells #[.slice none 0 0] 35)=x∧Boxed x wr.heap.size 35 (.slice none 0 0)∧x.heap.size=wr.heap.size+1∧Below wr.heap.size wr x:=⟨_,rfl,Boxed.new _ _ _,by simp,mx_al _ _⟩
    obtain⟨WM,hWM,hmM,hzM,hbM⟩: ∃x,WR.alloc (.map #[] 0)=x∧MapAt x WR.heap.size 0 (fun _=>0)∧x.heap.size=wr.heap.size+2∧Below WR.heap.size WR x:=⟨_,rfl,MapAt.made WR,by simp[hzR],mx_al _ _⟩
    obtain⟨WP,hWP,hcP,hzP,hbP⟩: ∃x,WM.alloc (.cells #[.map (some (wr.heap.size+1))] 115)=x∧Boxed x WM.heap.size 115 (.map (some (wr.heap.size+1)))∧x.heap.size=wr.heap.size+3∧Below WM.heap.size WM x:=⟨_,rfl,Boxed.new _ _ _,by simp[hzM],mx_al _ _⟩
    obtain⟨WQ,hWQ,hzQ,hbQ,hBQ⟩: ∃x,WP.alloc (.cells #[.slice Adv K.length cdv] 35)=x∧x.heap.size=wr.heap.size+4∧Below WP.heap.size WP x∧x.cell? ⟨WP.heap.size,0,none⟩=some (.slice Adv K.length cdv):=⟨_,rfl,by simp[hzP],mx_al _ _,mx_cell (j:=0) (World.alloc_heap_new _ _)⟩
    have hbzQ:Below wr.heap.size wr WQ:=hbR.trans ((hbM.trans ((hbP.trans (hbQ.mono (by omega))).mono (by omega))).mono (by omega))
    have HXR:=Lib.hid (show Boxed WQ wr.heap.size 35 (.slice none 0 0)from((hbM.trans ((hbP.trans (hbQ.mono (by omega))).mono (by omega))).block _ (by omega)).trans hcR)
    have HXN:=Lib.hid (show Boxed WQ (wr.heap.size+2) 115 (.map (some (wr.heap.size+1)))from by
     have:=(hbQ.block _ (heap_lt hcP)).trans hcP
     rw[hzM]at this
     exact this)
    have HXM:=Lib.hid (show MapAt WQ (wr.heap.size+1) 0 (fun _=>0)from by
     have:=(hmM.below hbP).below hbQ
     rw[hzR]at this
     exact this)
    have HSQ:=Lib.hid (HSTk.out.below hbzQ)
    have HBQz:=Lib.hid hbzQ
    rw[hzP]at hBQ
    have HSEQ:=Lib.hid (bks_stops (X:=fun g=>wr.heap.size≤g∧g≠wr.heap.size+3) (wr.heap.size+3) _ K WQ hBQ (fun h=>h.2 rfl) HSQ.out.row (fun g hg h=>by
     have h1:=(own_lt HSTk.out.row g hg).2
     have h2:=h.1
     omega) (by omega))
    have HI0:=Lib.hid (show BkI WQ wr.heap.size [] WQ from⟨⟨_,0,HXR.out,World.ownsRow_nil _ _ _ _,(fun g hg=>by cases hg),HXM.out,Nat.le_refl _⟩,HXN.out,KpC.refl _ _,Below.refl _ _⟩)
    have HWR:=Lib.hid hWR
    have HWM:=Lib.hid hWM
    have HWP:=Lib.hid hWP
    have HWQ:=Lib.hid hWQ
    clear hWR hcR hbR hWM hmM hbM hWP hcP hWQ hbQ hBQ hbP hbzQ
    gi_wp2_with fail
    try rw[HWR.out]
    try rw[HWM.out]
    try rw[HWP.out]
    refine⟨trivial,?_⟩
    refine(callsIn_wide.2 (bks_run Adv K.length cdv WP)).mono ?_
    rintro e W' ⟨rfl,rfl⟩
    rw[HWQ.out,hzP]
    clear hmm
    gi_wp2_with fail
    refine wpIn_range_M (gf:=98) (lb:= #[.pointer (some ⟨wr.heap.size+3,0,none⟩)]) rfl (enters_of Tryz.func98 (by kernel_rfl) rfl) HSEQ.out (Below.refl _ _) (fun _=>rfl)
     (fun pre x W W3 l r r' h1 h2 h3 h4=>BSPost.turn h4 h3) (fun pre x W W3 l r r' h1 h2 h3 h4=>trivial)
     (BkI WQ wr.heap.size) (fun _ _=>False) (bki_own _ _ (Nat.le_refl _) (by omega)) (fun pre W W' row h _ _=>h) HI0.out
     ?frame (BkMid WQ wr.heap.size K)
     (fun pre x W Bx W' l r r' h1 h2 h3 h4=>h4.turn (by omega) h1 h3)
     ?assign ?body ?done ?stop
    case assign=>
     rintro l pre x W KK hi hp hK
     dsimp only[bsv]
     obtain⟨WA,WB,hWA,hWB,hbx1,hbxB,hbB⟩:=four_new W (.bool x.1.1.del) (.int .i64 x.1.1.id) (.slice x.1.2.1.1 x.1.1.lits.length x.1.2.1.2) (.slice x.1.2.2.1 x.1.1.hints.length x.1.2.2.2)
     have r0:=mx_cell (j:=0) hbx1
     have r1:=mx_cell (j:=1) hbx1
     have r2:=mx_cell (j:=2) hbx1
     have r3:=mx_cell (j:=3) hbx1
     have f0:=free_at (j:=0) hbx1
     have f1:=free_at (j:=1) hbx1
     have f2:=free_at (j:=2) hbx1
     have f3:=free_at (j:=3) hbx1
     have hm:BkMid WQ wr.heap.size K pre x W W.heap.size WB:=⟨(by
      obtain⟨v,n,h1,h2,h3,h4,h5⟩:=hi.ex
      exact⟨⟨v,n,(hbB.block _ (heap_lt h1)).trans h1,own_below h2 hbB,h3,h4.below hbB,h5⟩,(hbB.block _ (heap_lt hi.mp)).trans hi.mp,hi.kept.trans (KpC.of_below hbB),hi.low.trans (hbB.mono (by have:=hi.low.size;omega))⟩),hp,KpC.of_below hbB,by have:=hi.low.size;omega,(fun v hv g hg=>by
      obtain⟨v',n',h1,h2,_⟩:=hi.ex
      have hv':Boxed WB wr.heap.size 35 v':=(hbB.block _ (heap_lt h1)).trans h1
      have e:v=v':=by
       have a:=hv.cell
       rw[hv'.cell]at a
       exact(Option.some.inj a).symm
      rw[e]at hg
      exact(own_lt h2 g hg).2),hbxB⟩
     have hK2:=hK _ _ (KeepsRec.of_below hbB) hm
     clear hm hK hp hi hbx1 hbxB
     gi_wp2
     try rw[hWB]
     revert hK2
     generalize W.heap.size=Bx
     intro hK2
     exact hK2
    case body=>
     rintro l pre x W Bx W' hm
     obtain⟨v,n,hv,hr,hf,hmp,hnl0⟩:=hm.bi.ex
     have hxK:x.1∈K:=by
      have h1:=hm.pr
      unfold BSPre at h1
      have h2:=List.mem_map_of_mem (f:=Prod.fst) (List.mem_reverse.1 (h1.subset (List.mem_append_right _ (List.mem_singleton.2 rfl))))
      rw[List.zipIdx_map_fst]at h2
      exact h2
     have hkok:=HKHk.out x.1 hxK
     have hstp:((pre++ [x]).map Prod.fst).foldl bkStep (fun _=>0,[])=bkStep ((pre.map Prod.fst).foldl bkStep (fun _=>0,[])) x.1:=by
      rw[List.map_append,List.foldl_append]
      rfl
     obtain⟨st,hst⟩: ∃st,(pre.map Prod.fst).foldl bkStep (fun _=>0,[])=st:=⟨_,rfl⟩
     rw[hst]at hr hmp hstp
     obtain⟨f,S⟩:=st
     simp only at hr hmp
     have hSl:S.length≤pre.length:=by
      have:=bk_len (pre.map Prod.fst) (fun _=>0,[])
      rw[hst,List.length_map]at this
      simpa using this
     have hpl:pre.length<K.length:=by
      have h1:=hm.pr
      unfold BSPre at h1
      have:=h1.length_le
      rw[List.length_append,List.length_singleton,List.length_reverse,List.length_zipIdx]at this
      omega
     have HSTP:=Lib.hid hstp
     have HHR:=Lib.hid (HSQ.out.hnt x.1 hxK)
     have HSQL:=Lib.hid (show∀g,(Value.slice x.1.2.2.1 x.1.1.hints.length x.1.2.2.2).ownBlock=some g→g<wr.heap.size from fun g hg=>(own_lt (HSTk.out.hnt x.1 hxK) g hg).2)
     have HM:=Lib.hid hm
     have hbxl:=heap_lt hm.box
     have HBX:=Lib.hid hm.box
     have hlo:=hm.lo
     have hltB:=hm.lt v hv
     have m1:=hm.bi.mp.cell
     have hmpl:=heap_lt hm.bi.mp
     have hzW':wr.heap.size≤W'.heap.size:=by have:=hm.bi.low.size;omega
     have hzQW:WQ.heap.size≤W'.heap.size:=hm.bi.low.size
     obtain⟨⟨⟨dl,id,ls,hs⟩,⟨a1,c1⟩,⟨a2,c2⟩⟩,xi⟩:=x
     obtain⟨hk1,hk2,hk3⟩:=hkok
     simp only at hk1 hk2 hk3 hltB HHR HSQL
     have z0:=mx_cell (j:=0) HBX.out
     have z1:=mx_cell (j:=1) HBX.out
     have z2:=mx_cell (j:=2) HBX.out
     have z3:=mx_cell (j:=3) HBX.out
     simp only at z0 z1 z2 z3
     have hlk:=hmp.lookup hk2
     have HKW:=Lib.hid hk3
     have HFLD:=Lib.hid hst
     clear hm hxK hstp
     by_cases hskip:0<ls.length∧f id=0
     ·have hl0:decide ((0:Int)<(ls.length:Int))=true:=decide_eq_true (by omega)
      have hl0n:decide (0<ls.length)=true:=decide_eq_true hskip.1
      have hl0p:(0:Int)<(ls.length:Int):=by omega
      rw[hskip.2]at hlk
      have HFIN:=Lib.hid (show KeepsRec W' W'∧BkI WQ wr.heap.size (pre++ [((⟨dl,id,ls,hs⟩,(a1,c1),(a2,c2)),xi)]) W'∧BSPost (fun g=>wr.heap.size≤g∧g≠wr.heap.size+3) ((⟨dl,id,ls,hs⟩,(a1,c1),(a2,c2)),xi) W W' from
       ⟨KeepsRec.refl _,HM.out.bi.skip (by
        rw[hst]
        unfold bkStep
        exact if_pos hskip),HM.out.po⟩)
      clear hskip hv hr hf hmp hst
      gi_wp2_with fail
      exact HFIN.out
     ·have HSP2:=Lib.hid (show bkStep (f,S) (⟨dl,id,ls,hs⟩,(a1,c1),(a2,c2))=(needI f hs,S++ [(⟨dl,id,ls,hs⟩,(a1,c1),(a2,c2))])from by
       unfold bkStep
       rw[if_neg hskip])
      have hcond:ls.length=0∨(0<ls.length∧(f id==0)=false):=by
       rcases Nat.eq_zero_or_pos ls.length with e|e
       ·exact .inl e
       ·exact .inr ⟨e,beq_eq_false_iff_ne.2 fun h=>hskip ⟨e,h⟩⟩
      have q1:=hv.cell
      have q2:=hv.frozen
      obtain⟨A,cc,rfl,_⟩:=mx_slice hr
      have HV:=Lib.hid hv
      have HR3:=Lib.hid hr
      have HF:=Lib.hid hf
      have HMP:=Lib.hid hmp
      obtain⟨si,hsi,sz0,sz1,sz2⟩:=info_parts stinfo
      have HLW:=Lib.hid HM.out.bi.low
      clear hv hr hf hmp hskip hst
      rcases hcond with hc0|⟨hc0,hc1⟩
      ·have hl0:decide ((0:Int)<(ls.length:Int))=false:=decide_eq_false (by omega)
       have hl0n:decide (0<ls.length)=false:=decide_eq_false (by omega)
       clear hc0
       have HR5:=Lib.hid (own_rebase (b':=WQ.heap.size) HR3.out HF.out)
       gi_wp2_with (gi_at_builtin;go_must (refine wpListIn_append_own_at _ rfl _ _ 35 rfl WQ.heap.size 34 si (.agg #[.bool false,.int .i64 0,.slice none 0 0,.slice none 0 0]) 4 64 Tryz.underlying35 hsi sz0 sz1 sz2 rfl (by decide) _ S.length _ rfl (own_below HR5.out (mx_al W' _)) ⟨W'.heap.size,0,none⟩ 1 1 [.bool dl,.int .i64 id,.slice a1 ls.length c1,.slice a2 hs.length c2] rfl rfl (fun j u hj=>cells_list_new W' [.bool dl,.int .i64 id,.slice a1 ls.length c1,.slice a2 hs.length c2] 34 j u hj) (by simp[Value.oneCell']) (by unfold maxLen;omega) (by omega) (by simp;omega) ?_);intro v' w1 hown' hgrow hnl hat;obtain⟨g1,cap,rfl⟩:=ownsRow_succ hown';have hnew:=own_rebase (b':=wr.heap.size) hown' (fun g hg=>by have:=(own_lt hown' g hg).1;omega);have hA:=Boxed.appended HV.out (by decide) HR3.out hzW' (Nat.le_refl _) hnew hgrow;have q3:=hA.1.cell;have q4:=hA.1.frozen;have hkA:Kept (fun g=>(Value.slice A S.length cc).ownBlock=some g∨g=wr.heap.size) W' (w1.setCell ⟨wr.heap.size,0,none⟩ (.slice (some ⟨g1,0,none⟩) (S.length+1) cap)):=((Kept.of_below (mx_al W' _)).trans (O:=fun g=>(Value.slice A S.length cc).ownBlock=some g∨g=wr.heap.size) (Kept.grown hgrow) (fun i _ h=>.inl h.symm)).setCell ⟨wr.heap.size,0,none⟩ _ (.inr rfl);have n3:(w1.setCell ⟨wr.heap.size,0,none⟩ (.slice (some ⟨g1,0,none⟩) (S.length+1) cap)).cell? ⟨Bx,3,none⟩=some (.slice a2 hs.length c2):=(hkA.cell (p:=⟨Bx,3,none⟩) hbxl (by rintro (e|e);exact Nat.lt_irrefl _ (hltB _ e);simp only at e;omega)).trans z3)
       obtain⟨W2,hW2⟩: ∃x,w1.setCell ⟨wr.heap.size,0,none⟩ (.slice (some ⟨g1,0,none⟩) (S.length+1) cap)=x:=⟨_,rfl⟩
       have hkP:KpC (fun g=>wr.heap.size≤g∧g≠wr.heap.size+3) W' W2:=by
        rw[←hW2]
        exact((KpC.of_below (mx_al W' (.cells #[.bool dl,.int .i64 id,.slice a1 ls.length c1,.slice a2 hs.length c2] 34))).trans ((KpC.of_grown hgrow).mono (fun g _ h=>by have:=HF.out g h.symm;exact⟨by omega,by omega⟩))).trans ((KpC.of_grown (grownBy_setCell' w1 wr.heap.size _)).mono (fun g _ h=>by cases h;exact⟨by omega,by omega⟩))
       rw[hW2]at hA hkA⊢
       have hg1:=(own_lt hown' g1 rfl).1
       obtain⟨-,a2',a3,a4,a5⟩:=hA
       have HV2:=Lib.hid a2'
       have HR2:=Lib.hid a3
       have HA4:=Lib.hid (keepsRec_others a4)
       have HA5:=Lib.hid a5
       have HM2:=Lib.hid (HMP.out.kept hkA (by
        rintro (e|e)
        ·have:=HF.out _ e
         omega
        ·omega))
       have HP2:=Lib.hid ((hkA.block _ hmpl (by
        rintro (e|e)
        ·have:=HF.out _ e
         omega
        ·omega)).trans HM.out.bi.mp)
       have HH2:=Lib.hid (own_kept (own_kept HHR.out (O:=fun g=>wr.heap.size≤g) ⟨HLW.out.os,HLW.out.tape,HLW.out.output,HLW.out.size,fun i _ hn=>HLW.out.block i (by omega)⟩ (fun g hg h=>by have:=HSQL.out g hg;omega)) hkA (fun g hg h=>by
        have h1:=HSQL.out g hg
        rcases h with e|e
        ·have:=HF.out g e
         omega
        ·omega))
       have HU2:=Lib.hid ((IntsIn.of_own HH2.out).mono (O':=fun g=>g<wr.heap.size) fun g h=>HSQL.out g h.2)
       have HKP:=Lib.hid hkP
       have hnM:n≤65536000:=Nat.le_trans hnl0 (Nat.le_trans (Nat.mul_le_mul_right 65536 (show pre.length≤1000 by omega)) (by decide))
       clear hkP hkA a2' a3 a4 a5 hown' hgrow hnl hat hnew q1 q2 q3 q4 n3 z0 z1 z2 z3 hlk hW2 m1
       gi_loopw [138] (fun iv w4=> ∃(j:Nat),j≤hs.length∧iv= .int .i64 j∧Hid (MapAt w4 (wr.heap.size+1) (n+j) (needI f (hs.take j)))∧Hid (Kept (fun g=>g=wr.heap.size+1) W2 w4)) (fun iv _=>hs.length-(intOf iv).toNat)
       case atStart=>exact⟨0,Nat.zero_le _,rfl,HM2,Lib.hid (Kept.refl _ _)⟩
       case round=>
        rename World=>w4
        obtain⟨j,hj,rfl,HM4,HK4⟩:=hrel
        by_cases hlt:j<hs.length
        ·obtain⟨y,hyj⟩:=getElem_of hlt
         obtain⟨A',c',hAc,_,_,hxs⟩:=HU2.out
         simp only[Value.slice.injEq,true_and]at hAc
         obtain⟨rfl,rfl⟩:=hAc
         obtain⟨g,o,rfl,hg,hgo,e0⟩:=hxs j y hyj
         have d1:w4.cell? ⟨g,o+j,none⟩=some (.int .i64 y):=(HK4.out.cell (p:=⟨g,o+j,none⟩) hg (by simp only;omega)).trans e0
         have d2:w4.cell? ⟨wr.heap.size+1+1,0,none⟩=some (.map (some (wr.heap.size+1))):=mx_cell (j:=0) ((HK4.out.block (wr.heap.size+2) (heap_lt HP2.out) (by omega)).trans HP2.out)
         have HWY:=Lib.hid (HKW.out y (List.mem_of_getElem? hyj))
         have HTK:=Lib.hid (show needI f (hs.take (j+1))=fun z=>if z=y then 1 else needI f (hs.take j) z from by
          rw[List.take_add_one,hyj]
          exact needI_snoc)
         clear hxs hyj e0
         gi_wp2_with (gi_at_mapUpdate;go_must (refine wpListIn_put HM4.out rfl _ _ _ rfl rfl (by unfold maxLen;omega) y 1 rfl rfl HWY.out rfl ?_);intro w5 hm5 hg5)
         have HM5:=Lib.hid (show MapAt w5 (wr.heap.size+1) (n+(j+1)) (needI f (hs.take (j+1)))from by
          rw[HTK.out]
          exact hm5)
         have HK5:=Lib.hid (HK4.out.trans (O:=fun g=>g=wr.heap.size+1) (Kept.grown hg5) (fun i _ e=>Option.some.inj e))
         clear hm5 hg5 d1 d2
         gi_wp2
         go_roundw
         case rel=>exact⟨j+1,by omega,by go_num,HM5,HK5⟩
         case measure=>simp[intOf];omega
        ·obtain rfl:j=hs.length:=by omega
         have HMF:=Lib.hid (show MapAt w4 (wr.heap.size+1) (n+hs.length) (needI f hs)from by simpa [List.take_length] using HM4.out)
         have hK4:=HK4.out
         have hr4:=own_kept HR2.out hK4 (fun g hg e=>by
          obtain⟨cc',hc'⟩:=own_type HR2.out g hg
          obtain⟨D',⟨es',cl',hb',_⟩,_⟩:=HM2.out
          subst e
          rw[hc']at hb'
          cases hb')
         have HFIN:=Lib.hid (show KeepsRec W' w4∧BkI WQ wr.heap.size (pre++ [((⟨dl,id,ls,hs⟩,(a1,c1),(a2,c2)),xi)]) w4∧BSPost (fun g=>wr.heap.size≤g∧g≠wr.heap.size+3) ((⟨dl,id,ls,hs⟩,(a1,c1),(a2,c2)),xi) W w4 from by
          have hp4:KpC (fun g=>wr.heap.size≤g∧g≠wr.heap.size+3) W2 w4:=⟨hK4.os,hK4.tape,hK4.output,hK4.size,fun i o ho hX _=>(hK4.block i (heap_lt ho) (fun e=>hX ⟨by omega,by omega⟩)).trans ho⟩
          exact⟨HA4.out.trans (KeepsRec.of_kept hK4 (fun g o e ho=>.inr (by
           subst e
           obtain⟨D',⟨es',cl',hb',_⟩,_⟩:=HM2.out
           rw[hb']at ho
           cases ho
           rfl))),BkI.add HFLD.out HSP2.out ((hK4.block _ (heap_lt HV2.out) (by omega)).trans HV2.out) (by rw[List.length_append,List.flatMap_append];exact hr4) (fun g hg=>by cases hg;exact hg1) HMF.out (Nat.le_trans (Nat.add_le_add hnl0 hk1) (Nat.le_of_eq (Nat.succ_mul _ _).symm)) ((hK4.block _ (heap_lt HP2.out) (by omega)).trans HP2.out) ((HM.out.bi.kept.trans HKP.out).trans hp4) ((HLW.out.trans HA5.out).trans (hK4.below (fun i e=>by omega) (by have h1:=HLW.out.size;have h2:=HA5.out.size;omega))),(KpC.trans (KpC.trans HM.out.po HKP.out) hp4)⟩)
         clear hr4 hK4
         gi_wp2
         exact HFIN.out
      ·have hl0:decide ((0:Int)<(ls.length:Int))=true:=decide_eq_true (by omega)
       have hl0n:decide (0<ls.length)=true:=decide_eq_true hc0
       have HR5:=Lib.hid (own_rebase (b':=WQ.heap.size) HR3.out HF.out)
       gi_wp2_with (gi_at_builtin;go_must (refine wpListIn_append_own_at _ rfl _ _ 35 rfl WQ.heap.size 34 si (.agg #[.bool false,.int .i64 0,.slice none 0 0,.slice none 0 0]) 4 64 Tryz.underlying35 hsi sz0 sz1 sz2 rfl (by decide) _ S.length _ rfl (own_below HR5.out (mx_al W' _)) ⟨W'.heap.size,0,none⟩ 1 1 [.bool dl,.int .i64 id,.slice a1 ls.length c1,.slice a2 hs.length c2] rfl rfl (fun j u hj=>cells_list_new W' [.bool dl,.int .i64 id,.slice a1 ls.length c1,.slice a2 hs.length c2] 34 j u hj) (by simp[Value.oneCell']) (by unfold maxLen;omega) (by omega) (by simp;omega) ?_);intro v' w1 hown' hgrow hnl hat;obtain⟨g1,cap,rfl⟩:=ownsRow_succ hown';have hnew:=own_rebase (b':=wr.heap.size) hown' (fun g hg=>by have:=(own_lt hown' g hg).1;omega);have hA:=Boxed.appended HV.out (by decide) HR3.out hzW' (Nat.le_refl _) hnew hgrow;have q3:=hA.1.cell;have q4:=hA.1.frozen;have hkA:Kept (fun g=>(Value.slice A S.length cc).ownBlock=some g∨g=wr.heap.size) W' (w1.setCell ⟨wr.heap.size,0,none⟩ (.slice (some ⟨g1,0,none⟩) (S.length+1) cap)):=((Kept.of_below (mx_al W' _)).trans (O:=fun g=>(Value.slice A S.length cc).ownBlock=some g∨g=wr.heap.size) (Kept.grown hgrow) (fun i _ h=>.inl h.symm)).setCell ⟨wr.heap.size,0,none⟩ _ (.inr rfl);have n3:(w1.setCell ⟨wr.heap.size,0,none⟩ (.slice (some ⟨g1,0,none⟩) (S.length+1) cap)).cell? ⟨Bx,3,none⟩=some (.slice a2 hs.length c2):=(hkA.cell (p:=⟨Bx,3,none⟩) hbxl (by rintro (e|e);exact Nat.lt_irrefl _ (hltB _ e);simp only at e;omega)).trans z3)
       obtain⟨W2,hW2⟩: ∃x,w1.setCell ⟨wr.heap.size,0,none⟩ (.slice (some ⟨g1,0,none⟩) (S.length+1) cap)=x:=⟨_,rfl⟩
       have hkP:KpC (fun g=>wr.heap.size≤g∧g≠wr.heap.size+3) W' W2:=by
        rw[←hW2]
        exact((KpC.of_below (mx_al W' (.cells #[.bool dl,.int .i64 id,.slice a1 ls.length c1,.slice a2 hs.length c2] 34))).trans ((KpC.of_grown hgrow).mono (fun g _ h=>by have:=HF.out g h.symm;exact⟨by omega,by omega⟩))).trans ((KpC.of_grown (grownBy_setCell' w1 wr.heap.size _)).mono (fun g _ h=>by cases h;exact⟨by omega,by omega⟩))
       rw[hW2]at hA hkA⊢
       have hg1:=(own_lt hown' g1 rfl).1
       obtain⟨-,a2',a3,a4,a5⟩:=hA
       have HV2:=Lib.hid a2'
       have HR2:=Lib.hid a3
       have HA4:=Lib.hid (keepsRec_others a4)
       have HA5:=Lib.hid a5
       have HM2:=Lib.hid (HMP.out.kept hkA (by
        rintro (e|e)
        ·have:=HF.out _ e
         omega
        ·omega))
       have HP2:=Lib.hid ((hkA.block _ hmpl (by
        rintro (e|e)
        ·have:=HF.out _ e
         omega
        ·omega)).trans HM.out.bi.mp)
       have HH2:=Lib.hid (own_kept (own_kept HHR.out (O:=fun g=>wr.heap.size≤g) ⟨HLW.out.os,HLW.out.tape,HLW.out.output,HLW.out.size,fun i _ hn=>HLW.out.block i (by omega)⟩ (fun g hg h=>by have:=HSQL.out g hg;omega)) hkA (fun g hg h=>by
        have h1:=HSQL.out g hg
        rcases h with e|e
        ·have:=HF.out g e
         omega
        ·omega))
       have HU2:=Lib.hid ((IntsIn.of_own HH2.out).mono (O':=fun g=>g<wr.heap.size) fun g h=>HSQL.out g h.2)
       have HKP:=Lib.hid hkP
       have hnM:n≤65536000:=Nat.le_trans hnl0 (Nat.le_trans (Nat.mul_le_mul_right 65536 (show pre.length≤1000 by omega)) (by decide))
       clear hkP hkA a2' a3 a4 a5 hown' hgrow hnl hat hnew q1 q2 q3 q4 n3 z0 z1 z2 z3 hlk hW2 m1
       gi_loopw [138] (fun iv w4=> ∃(j:Nat),j≤hs.length∧iv= .int .i64 j∧Hid (MapAt w4 (wr.heap.size+1) (n+j) (needI f (hs.take j)))∧Hid (Kept (fun g=>g=wr.heap.size+1) W2 w4)) (fun iv _=>hs.length-(intOf iv).toNat)
       case atStart=>exact⟨0,Nat.zero_le _,rfl,HM2,Lib.hid (Kept.refl _ _)⟩
       case round=>
        rename World=>w4
        obtain⟨j,hj,rfl,HM4,HK4⟩:=hrel
        by_cases hlt:j<hs.length
        ·obtain⟨y,hyj⟩:=getElem_of hlt
         obtain⟨A',c',hAc,_,_,hxs⟩:=HU2.out
         simp only[Value.slice.injEq,true_and]at hAc
         obtain⟨rfl,rfl⟩:=hAc
         obtain⟨g,o,rfl,hg,hgo,e0⟩:=hxs j y hyj
         have d1:w4.cell? ⟨g,o+j,none⟩=some (.int .i64 y):=(HK4.out.cell (p:=⟨g,o+j,none⟩) hg (by simp only;omega)).trans e0
         have d2:w4.cell? ⟨wr.heap.size+1+1,0,none⟩=some (.map (some (wr.heap.size+1))):=mx_cell (j:=0) ((HK4.out.block (wr.heap.size+2) (heap_lt HP2.out) (by omega)).trans HP2.out)
         have HWY:=Lib.hid (HKW.out y (List.mem_of_getElem? hyj))
         have HTK:=Lib.hid (show needI f (hs.take (j+1))=fun z=>if z=y then 1 else needI f (hs.take j) z from by
          rw[List.take_add_one,hyj]
          exact needI_snoc)
         clear hxs hyj e0
         gi_wp2_with (gi_at_mapUpdate;go_must (refine wpListIn_put HM4.out rfl _ _ _ rfl rfl (by unfold maxLen;omega) y 1 rfl rfl HWY.out rfl ?_);intro w5 hm5 hg5)
         have HM5:=Lib.hid (show MapAt w5 (wr.heap.size+1) (n+(j+1)) (needI f (hs.take (j+1)))from by
          rw[HTK.out]
          exact hm5)
         have HK5:=Lib.hid (HK4.out.trans (O:=fun g=>g=wr.heap.size+1) (Kept.grown hg5) (fun i _ e=>Option.some.inj e))
         clear hm5 hg5 d1 d2
         gi_wp2
         go_roundw
         case rel=>exact⟨j+1,by omega,by go_num,HM5,HK5⟩
         case measure=>simp[intOf];omega
        ·obtain rfl:j=hs.length:=by omega
         have HMF:=Lib.hid (show MapAt w4 (wr.heap.size+1) (n+hs.length) (needI f hs)from by simpa [List.take_length] using HM4.out)
         have hK4:=HK4.out
         have hr4:=own_kept HR2.out hK4 (fun g hg e=>by
          obtain⟨cc',hc'⟩:=own_type HR2.out g hg
          obtain⟨D',⟨es',cl',hb',_⟩,_⟩:=HM2.out
          subst e
          rw[hc']at hb'
          cases hb')
         have HFIN:=Lib.hid (show KeepsRec W' w4∧BkI WQ wr.heap.size (pre++ [((⟨dl,id,ls,hs⟩,(a1,c1),(a2,c2)),xi)]) w4∧BSPost (fun g=>wr.heap.size≤g∧g≠wr.heap.size+3) ((⟨dl,id,ls,hs⟩,(a1,c1),(a2,c2)),xi) W w4 from by
          have hp4:KpC (fun g=>wr.heap.size≤g∧g≠wr.heap.size+3) W2 w4:=⟨hK4.os,hK4.tape,hK4.output,hK4.size,fun i o ho hX _=>(hK4.block i (heap_lt ho) (fun e=>hX ⟨by omega,by omega⟩)).trans ho⟩
          exact⟨HA4.out.trans (KeepsRec.of_kept hK4 (fun g o e ho=>.inr (by
           subst e
           obtain⟨D',⟨es',cl',hb',_⟩,_⟩:=HM2.out
           rw[hb']at ho
           cases ho
           rfl))),BkI.add HFLD.out HSP2.out ((hK4.block _ (heap_lt HV2.out) (by omega)).trans HV2.out) (by rw[List.length_append,List.flatMap_append];exact hr4) (fun g hg=>by cases hg;exact hg1) HMF.out (Nat.le_trans (Nat.add_le_add hnl0 hk1) (Nat.le_of_eq (Nat.succ_mul _ _).symm)) ((hK4.block _ (heap_lt HP2.out) (by omega)).trans HP2.out) ((HM.out.bi.kept.trans HKP.out).trans hp4) ((HLW.out.trans HA5.out).trans (hK4.below (fun i e=>by omega) (by have h1:=HLW.out.size;have h2:=HA5.out.size;omega))),(KpC.trans (KpC.trans HM.out.po HKP.out) hp4)⟩)
         clear hr4 hK4
         gi_wp2
         exact HFIN.out
    case done=>
     rintro D zs W hD hS hgi hDf
     obtain⟨v,n,hv,hr,hf,-,-⟩:=hgi.ex
     have hS:zs=K.zipIdx.reverse:=hS
     have hzs:zs.map Prod.fst=K.reverse:=by rw[hS,List.map_reverse,List.zipIdx_map_fst]
     rw[hzs]at hr
     obtain⟨st,hst⟩: ∃st,K.reverse.foldl bkStep (fun _=>0,[])=st:=⟨_,rfl⟩
     have hbk:=bk_fold K.reverse (fun _=>0) []
     have hsub:=bk_sub K.reverse (fun _=>0,[])
     have hlen:=bk_len K.reverse (fun _=>0,[])
     rw[hst]at hr hbk hsub hlen
     obtain⟨f,S⟩:=st
     simp only at hr hbk hsub hlen
     rw[List.length_reverse,List.length_nil,Nat.zero_add]at hlen
     have HOUT:=Lib.hid (show(S.reverse).map Prod.fst=bkL (K.map Prod.fst)from by
      unfold bkL
      rw[←List.map_reverse]
      rw[show bkGo (fun _=>0) (K.reverse.map Prod.fst) []=S.map Prod.fst from hbk,List.map_reverse])
     have HSUB:=Lib.hid (show∀y∈S,y∈K from fun y hy=>(hsub y hy).elim (fun h=>(by cases h)) (fun h=>List.mem_reverse.1 h))
     have q1:=hv.cell
     obtain⟨A,cc,rfl,_⟩:=mx_slice hr
     have HREV:=Lib.hid (rev_steps _ S W hr (by omega))
     have HV:=Lib.hid hv
     have HROW:=Lib.hid hr
     have HF:=Lib.hid hf
     have HLOW:=Lib.hid (show Below wr.heap.size wr W from HBQz.out.trans hgi.low)
     have HD:=Lib.hid hDf
     clear hv hr hf hgi hDf hS hzs hst hbk hsub
     gi_wp2_with fail
     refine⟨trivial,?_⟩
     refine(callsIn_wide.2 HREV.out).mono ?_
     rintro e W9 ⟨rfl,ho9,hk9⟩
     have hv9:Boxed W9 wr.heap.size 35 (.slice A S.length cc):=(hk9.block _ (heap_lt HV.out) (fun e=>by have:=HF.out _ e;omega)).trans HV.out
     have q9:=hv9.cell
     have hb9:Below wr.heap.size wr W9:=below_kept HLOW.out hk9 (fun i e=>by have:=HF.out i e;omega) (by have:=HLOW.out.size;omega)
     have hD9:W9.heap[D]? =some (.deferred (some [])):=(hk9.block D (heap_lt HD.out) (fun e=>by
      obtain⟨cur,hc⟩:=own_type HROW.out D e
      rw[HD.out]at hc
      cases hc)).trans HD.out
     have HD9:=Lib.hid hD9
     have HB9:=Lib.hid hb9
     have HO9:=Lib.hid ho9
     clear hk9 hv9 hD9 hb9 ho9 q1
     gi_wp2_with fail
     refine⟨by simp,.inl ⟨_,_,rfl,run_takeDeferred HD9.out,?_⟩⟩
     have hgw:=grownBy_putObj' W9 D (.deferred none)
     have hzD:wr.heap.size≤D:=by omega
     have hbf:Below wr.heap.size wr (W9.putObj D (.deferred none)):=HB9.out.grown hgw (by have:=HB9.out.size;omega) (fun g e=>by cases e;exact hzD)
     refine⟨_,res_456 rfl _ _,TrimOut.good HE.out HTZ.out HOUT.out ⟨?_,fun y hy=>?_,fun y hy=>?_⟩,HBW2.out.trans ((HB3.out.trans (HBk.out.trans (hbf.mono (by omega)))).mono hzb)⟩
     ·rw[List.length_reverse]
      exact own_mono (own_nocells HO9.out hgw (fun r e=>by cases e;exact⟨_,HD9.out,rfl⟩)) (by omega)
     ·exact own_mono (own_below (HSTk.out.lit y (HSUB.out y (List.mem_reverse.1 hy))) hbf) (by omega)
     ·exact own_mono (own_below (HSTk.out.hnt y (HSUB.out y (List.mem_reverse.1 hy))) hbf) (by omega)
    case stop=>
     rintro D pre W hD _ hf _
     exact hf.elim
 ·have q0:((E:Int)==0)=false:=beq_eq_false_iff_ne.2 (by omega)
  have q1:((E:Int) != 0)=true:=by rw[bne,q0];rfl
  have HZ:=Lib.hid (fun w'=>TrimOut.bad (R:=R) (T:=T) (n0:=w.heap.size) (w':=w') HE.out h0)
  clear h0
  gi_wp2_with fail
  try rw[hW2]
  exact⟨_,res_456 rfl _ _,HZ.out _,HBW2.out⟩
end Go.Proofs.YtajbmjpodeilpaaGreatDoor
