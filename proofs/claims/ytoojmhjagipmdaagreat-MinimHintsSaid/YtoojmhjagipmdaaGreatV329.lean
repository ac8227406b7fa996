/- minim: the iterator over what is met. -/
import Derived.Test.YtoojmhjagipmdaaGreatV328
import Derived.Test.YtoojmhjagipmdaaGreatV309
import Derived.Laws.EntriesVeiled
namespace Go.Proofs.YtoojmhjagipmdaaGreat
open Go.RowKit Go.Shelf Go.Maps
theorem op_put {w:World} {o:Oper} {a:Act} {K:Act→World→Prop} {Q:Exit→Act→World→Prop} {b n:Nat} {f:Int→Int} (hown:MapAt w b n f)
  (m x v:Operand) (hop:o.op=Op.mapUpdate 109 m x v) (hm:a.eval m= .map (some b)) (hn:n<maxLen) (i y:Int) (hx:a.eval x= .int .i64 i) (hv:a.eval v= .int .i64 y)
  (hi:(Lit.int .i64 i).wf=true) (hy:(Lit.int .i64 y).wf=true)
  (hK: ∀w',MapAt w' b (n+1) (fun z=>if z=i then y else f z)→w.grownBy w' (some b)→K (a.put o.dst undef) w'):Oper.wp Tryz.prog o a w K Q:=by
 obtain⟨D,ho,hmap,hf⟩:=hown
 obtain⟨w',hrun,r1,r2⟩:=ho.update int_law Tryz.underlying109 hn (keyOf_int_mk Tryz.underlying3 hi) (plainElem_int Tryz.underlying3 hy)
 unfold Oper.wp
 simp[execOp,hop,hm,hx,hv,hrun,Result.andThen]
 exact hK w' (MapAt.put hmap hf r1) r2
def varsI (xs:List Int):List Int:=xs.map (fun x=>((litV x:Nat):Int))
set_option maxRecDepth 100000 in
set_option maxHeartbeats 2000000 in
theorem more_run {Oc:Nat→Prop} (Bb mb k:Nat) (ms:List Int) (u:Value) (xs:List Int) (w:World) (hB:w.cell? ⟨Bb,0,none⟩=some (.map (some mb))) (hm:MapAt w mb k (metF ms)) (hx:IntsIn Oc w u xs) (hno: ¬Oc mb) (hbm:Bb≠mb) (hk:k+xs.length≤140737488355328):
  Calls Tryz.prog 178 #[u,.pointer (some ⟨Bb,0,none⟩)] w fun e w'=>(∃v,e= .returned v)∧MapAt w' mb (k+xs.length) (metF (ms++varsI xs))∧Kept (fun g=>g=mb) w w':=by
 have HX:=Lib.hid hx
 have HNO:=Lib.hid hno
 have HB0:=Lib.hid hB
 have HM0:=Lib.hid hm
 have hBb:=World.block_lt_of_cell? w _ hB
 obtain⟨A,c,rfl,hc,_,_⟩:=hx
 clear hB hm
 go_enter Tryz.func178,Tryz.ntmps178
 go_wp2_with fail
 go_loopw [7] (fun iv wr=> ∃(j:Nat),j≤xs.length∧iv= .int .i64 j∧Hid (MapAt wr mb (k+j) (metF (ms++varsI (xs.take j))))∧Hid (Kept (fun g=>g=mb) w wr)) (fun iv _=>xs.length-(intOf iv).toNat)
 case atStart=>exact⟨0,Nat.zero_le _,rfl,Lib.hid (by simpa [varsI] using HM0.out),Lib.hid (Kept.refl _ _)⟩
 case round=>
  obtain⟨j,hj,rfl,HM,HW⟩:=hrel
  by_cases hlt:j<xs.length
  ·obtain⟨x,hxj⟩:=getElem_of hlt
   obtain⟨A',c',hAc,_,_,hxs⟩:=HX.out
   simp only[Value.slice.injEq,true_and]at hAc
   obtain⟨rfl,rfl⟩:=hAc
   obtain⟨g,o,rfl,hg,hgo,e0⟩:=hxs j x hxj
   have hgm:g≠mb:=fun e=>HNO.out (e▸hgo)
   have d0:wr.cell? ⟨g,o+j,none⟩=some (.int .i64 x):=(HW.out.cell (p:=⟨g,o+j,none⟩) hg hgm).trans e0
   have E1:=Lib.hid (show wr.cell? ⟨Bb,0,none⟩=some (.map (some mb))from(HW.out.cell (p:=⟨Bb,0,none⟩) hBb hbm).trans HB0.out)
   have HV:=Lib.hid (fun W=>lit_var x W)
   have HTK:=Lib.hid (show varsI (xs.take (j+1))=varsI (xs.take j)++ [((litV x:Nat):Int)]from by
    unfold varsI
    rw[List.take_add_one,hxj]
    simp)
   have HWX:=Lib.hid (show(Lit.int .i64 ((litV x:Nat):Int)).wf=true from by
    have:=litV_le x
    exact wf64 (by omega) (by omega))
   clear hxj hxs hgo e0
   go_upto_region 3 with fail
   refine wp_region_sink_at (S:=fun w'=>w'=wr.drew) (by kernel_rfl) rfl (by kernel_rfl) rfl (fun hS=>?_)
   obtain⟨wD,hwD⟩: ∃q,wr.drew=q:=⟨_,rfl⟩
   have hD:Below wr.heap.size wr wD:=by rw[←hwD];exact mx_drew wr
   rw[hwD]at hS⊢
   have E2:=Lib.hid ((hD.cell (p:=⟨Bb,0,none⟩) (World.block_lt_of_cell? wr _ E1.out)).trans E1.out)
   have HMD:=Lib.hid (HM.out.below hD)
   have HKD:=Lib.hid (HW.out.trans (O:=fun g=>g=mb) (Kept.of_below hD) (fun _ _ h=>h))
   clear hwD hD d0
   refine takeF 0 11 (fun wq hSw=>show wq.cell? ⟨Bb,0,none⟩=some (.map (some mb))from by rw[hSw];exact E2.out) ?_
   refine takeE 1 12 ?_
   refine ready1 2 (fun K hK=>?_)
   go_simp
   refine(HV.out wD).mono ?_
   rintro e w' ⟨rfl,rfl⟩
   refine hK.out _ _ hS (fun _=>?_)
   clear hK
   refine wpAnyH_done (by kernel_rfl) ?_ _
   refine lastPost_normal ?_
   refine wpOp_step rfl (fun K hK=>?_)
   rw[if_pos (by rfl)]
   refine op_put HMD.out _ _ _ rfl rfl (by unfold maxLen;omega) (litV x:Nat) 1 rfl rfl HWX.out rfl (fun w4 hm4 hg4=>hK _ _ ?_)
   have HM4:=Lib.hid (show MapAt w4 mb (k+(j+1)) (metF (ms++varsI (xs.take (j+1))))from by
    rw[HTK.out,←List.append_assoc,←metF_put]
    exact hm4)
   have HK4:=Lib.hid (HKD.out.trans (O:=fun g=>g=mb) (Kept.grown hg4) (fun i _ e=>Option.some.inj e))
   clear hK hm4 hg4 hS
   go_wp2_with fail
   go_roundw
   case rel=>exact⟨j+1,by omega,by go_num,HM4,HK4⟩
   case measure=>simp[intOf];omega
  ·obtain rfl:j=xs.length:=by omega
   have HMF:=Lib.hid (show MapAt wr mb (k+xs.length) (metF (ms++varsI xs))from by simpa [List.take_length] using HM.out)
   go_wp2_with fail
   go_end0
   exact⟨⟨_,rfl⟩,HMF.out,HW.out⟩
end Go.Proofs.YtoojmhjagipmdaaGreat
namespace Go.Proofs.YtoojmhjagipmdaaGreat
open Go.RowKit Go.Shelf Go.Maps
attribute [local go_sem] Oper.semAt_some
structure MX where
 v:Int
 B:Nat
 mb:Nat
 R:Nat
 ms:List Int
 k:Nat
def moreV (B:Nat):Value:=.func (.func 178) #[] #[.pointer (some ⟨B,0,none⟩)]
def MX.enc (x:MX):Array Value:= #[.int .i64 x.v,moreV x.B]
def mStep (ρ:Int→List Int) (s:List Int×List Int) (l:Int):List Int×List Int:=if s.2.contains ((litV l:Nat):Int)=true then(s.1++ [((litV l:Nat):Int)],s.2++varsI (ρ (litV l:Nat)))else s
def mRun (ρ:Int→List Int) (s:List Int×List Int) (ls:List Int):List Int×List Int:=ls.foldl (mStep ρ) s
theorem mRun_pre (ρ:Int→List Int) (ls:List Int): ∀s,s.1 <+: (mRun ρ s ls).1:=by
 induction ls with
 | nil=>exact fun s=>List.prefix_refl _
 | cons l ls ih=>
  intro s
  refine List.IsPrefix.trans ?_ (ih (mStep ρ s l))
  unfold mStep
  split
  ·exact List.prefix_append _ _
  ·exact List.prefix_refl _
theorem mRun_app (ρ:Int→List Int) (s:List Int×List Int) (a b:List Int):mRun ρ s (a++b)=mRun ρ (mRun ρ s a) b:=List.foldl_append
theorem mRun_one (ρ:Int→List Int) (s:List Int×List Int) (a:List Int) (l:Int):mRun ρ s (a++ [l])=mStep ρ (mRun ρ s a) l:=List.foldl_append
def mAll (ρ:Int→List Int) (first o:List Int):List Int:=(mRun ρ ([],varsI first) o.reverse).1
structure MPre (n0 n:Nat) (pre:List MX) (x:MX) (W:World):Prop where
 box:W.heap[x.B]? =some (.cells #[.map (some x.mb)] 109 (0,0))
 map:MapAt W x.mb x.k (metF x.ms)
 kb:x.k≤10000000000000
 loB:n0≤x.B
 lom:n0≤x.mb
 hiB:x.B<x.R
 him:x.mb<x.R
 ne:x.B≠x.mb
 lon:n≤x.R
 size:x.R≤W.heap.size
 len:pre.length<1048576
 same: ∀y∈pre,y.R=x.R
structure MPost (ρ:Int→List Int) (X0:Nat→Prop) (x:MX) (W W':World):Prop where
 kept:KpC (fun g=>g=x.mb∨x.R≤g∨X0 g) W W'
 from_:KeepsFrom x.R W W'
 box:W'.heap[x.B]? =some (.cells #[.map (some x.mb)] 109 (0,0))
 map:MapAt W' x.mb (x.k+(ρ x.v).length) (metF (x.ms++varsI (ρ x.v)))
def MOut (x:MX) (W W':World):Prop:=KeepsFrom x.R W W'
theorem MOut.turn {x:MX} {W W3:World} {l:Nat} {r':Loop} (h:MOut x W W3) (hR:l<x.R):MOut x W (W3.putObj l (.loop r')):=
 h.trans (KeepsFrom.of_grownBy (grownBy_putObj' W3 l (.loop r')) (fun j e=>by cases e;exact hR))
theorem MPost.turn {ρ:Int→List Int} {X0:Nat→Prop} {x:MX} {W W3:World} {l:Nat} {r r':Loop} (h:MPost ρ X0 x W W3) (hl:W3.heap[l]? =some (.loop r)) (hR:l<x.R):MPost ρ X0 x W (W3.putObj l (.loop r')):=by
 have hg:=grownBy_putObj' W3 l (.loop r')
 refine⟨h.kept.trans ((KpC.putObj W3 l _ _ hl rfl rfl).mono (fun _ _ e=>e.elim)),h.from_.trans (KeepsFrom.of_grownBy hg (fun j e=>by cases e;exact hR)),(hg.block _ (heap_lt h.box) (fun e=>?_)).trans h.box,h.map.kept (Kept.grown hg) (fun e=>?_)⟩
 ·cases e
  have:=h.box
  rw[hl]at this
  cases this
 ·cases e
  obtain⟨D,⟨es,cl,hb,_⟩,_⟩:=h.map
  rw[hl]at hb
  cases hb
theorem own_from_below {α:Type} {B:Nat} {I:α→World→Prop} (h:OwnFrom B I) {s:α} {W W':World} (hs:I s W) (hb:Below W.heap.size W W'):I s W':=
 h s W W' none hs ⟨hb.os,hb.tape,hb.output,hb.size,fun k hk _=>hb.block k hk⟩ (fun r e=>by cases e)
theorem own_from_map {α:Type} {B mb k:Nat} {f:Int→Int} {I:α→World→Prop} (h:OwnFrom B I) {s:α} {W W':World} (hs:I s W) (hk:Kept (fun g=>g=mb) W W') (hB:B≤mb) (hm:MapAt W mb k f):I s W':=
 h s W W' (some mb) hs ⟨hk.os,hk.tape,hk.output,hk.size,fun i hi hn=>hk.block i hi (fun e=>hn (by rw[e]))⟩ (fun r e=>by
  cases e
  obtain⟨D,⟨es,cl,hb,_⟩,_⟩:=hm
  exact⟨hB,_,hb,rfl⟩)
structure MBox (l:Nat) (W Wd:World):Prop where
 below:Below W.heap.size W Wd
 size:Wd.heap.size=W.heap.size+4
 yld:Wd.heap[W.heap.size]? =some (.cells #[.func (.yield l) #[] #[]] 232 (0,0))
 map:MapAt Wd (W.heap.size+1) 0 (metF [])
 box:Wd.heap[W.heap.size+2]? =some (.cells #[.map (some (W.heap.size+1))] 109 (0,0))
 mor:Wd.heap[W.heap.size+3]? =some (.cells #[moreV (W.heap.size+2)] 201 (0,0))
theorem met_boxes (l:Nat) (W:World): ∃Wd,(((W.alloc (.cells #[.func (.yield l) #[] #[]] 232)).alloc (.map #[] 0)).alloc (.cells #[.map (some (W.heap.size+1))] 109)).alloc (.cells #[.func (.func 178) #[] #[.pointer (some ⟨W.heap.size+1+1,0,none⟩)]] 201)=Wd∧MBox l W Wd:=by
 obtain⟨Wa,hWa⟩: ∃x,W.alloc (.cells #[.func (.yield l) #[] #[]] 232)=x:=⟨_,rfl⟩
 obtain⟨Wb,hWb⟩: ∃x,Wa.alloc (.map #[] 0)=x:=⟨_,rfl⟩
 obtain⟨Wc,hWc⟩: ∃x,Wb.alloc (.cells #[.map (some (W.heap.size+1))] 109)=x:=⟨_,rfl⟩
 obtain⟨Wd,hWd⟩: ∃x,Wc.alloc (.cells #[moreV (W.heap.size+2)] 201)=x:=⟨_,rfl⟩
 rw[hWa,hWb,hWc]
 have za:Wa.heap.size=W.heap.size+1:=by rw[←hWa];simp
 have zb:Wb.heap.size=W.heap.size+2:=by rw[←hWb];simp[za]
 have zc:Wc.heap.size=W.heap.size+3:=by rw[←hWc];simp[zb]
 have ba:Below W.heap.size W Wa:=by rw[←hWa];exact mx_al _ _
 have bb:Below Wa.heap.size Wa Wb:=by rw[←hWb];exact mx_al _ _
 have bc:Below Wb.heap.size Wb Wc:=by rw[←hWc];exact mx_al _ _
 have bd:Below Wc.heap.size Wc Wd:=by rw[←hWd];exact mx_al _ _
 have ha:Wa.heap[W.heap.size]? =some (.cells #[.func (.yield l) #[] #[]] 232 (0,0)):=by rw[←hWa];exact World.alloc_heap_new _ _
 have hb:MapAt Wb (W.heap.size+1) 0 (metF []):=by
  rw[←hWb,←za]
  exact MapAt.made Wa
 have hc:Wc.heap[W.heap.size+2]? =some (.cells #[.map (some (W.heap.size+1))] 109 (0,0)):=by rw[←hWc,←zb];exact World.alloc_heap_new _ _
 have hd:Wd.heap[W.heap.size+3]? =some (.cells #[moreV (W.heap.size+2)] 201 (0,0)):=by rw[←hWd,←zc];exact World.alloc_heap_new _ _
 refine⟨Wd,hWd,ba.trans ((bb.mono (by omega)).trans ((bc.mono (by omega)).trans (bd.mono (by omega)))),by rw[←hWd];simp[zc],?_,(hb.below bc).below bd,(bd.block _ (by omega)).trans hc,hd⟩
 exact(bd.block _ (by omega)).trans ((bc.block _ (by omega)).trans ((bb.block _ (by omega)).trans ha))
structure MIn (ρ:Int→List Int) (J:List MX→World→Prop) (l yb B mb R:Nat) (first:List Int) (pre':List (Nat×Int)) (W:World) (ys:List MX) (k:Nat):Prop where
 j:J ys W
 yld:W.heap[yb]? =some (.cells #[.func (.yield l) #[] #[]] 232 (0,0))
 box:W.heap[B]? =some (.cells #[.map (some mb)] 109 (0,0))
 mor:W.heap[yb+3]? =some (.cells #[moreV B] 201 (0,0))
 map:MapAt W mb k (metF (mRun ρ ([],varsI first) (pre'.map Prod.snd)).2)
 run:ys.map MX.v=(mRun ρ ([],varsI first) (pre'.map Prod.snd)).1
 kb:k≤(pre'.length+1)*4194304
 len:ys.length≤pre'.length
 same: ∀y∈ys,y.R=R
 size:R≤W.heap.size
def MInv (ρ:Int→List Int) (J:List MX→World→Prop) (l yb B mb R:Nat) (first:List Int) (pre':List (Nat×Int)) (W:World):Prop:= ∃ys k,MIn ρ J l yb B mb R first pre' W ys k
theorem mInv_own (ρ:Int→List Int) {J:List MX→World→Prop} (l yb B mb R:Nat) (first:List Int) {n:Nat} (hJ:OwnFrom n J) (hn:n≤R) (h1:yb+3<R) (h2:B<R) (h3:mb<R):OwnFrom R (MInv ρ J l yb B mb R first):=by
 rintro pre W W' row ⟨ys,k,h⟩ hg hr
 have ne: ∀g,g<R→some g≠row:=fun g hg e=>by
  have:=(hr g e.symm).1
  omega
 exact⟨ys,k,hJ ys W W' row h.j hg (fun r e=>⟨Nat.le_trans hn (hr r e).1,(hr r e).2⟩),(hg.block _ (heap_lt h.yld) (ne _ (by omega))).trans h.yld,(hg.block _ (heap_lt h.box) (ne _ h2)).trans h.box,(hg.block _ (heap_lt h.mor) (ne _ h1)).trans h.mor,h.map.kept (Kept.grown hg) (ne _ h3),h.run,h.kb,h.len,h.same,Nat.le_trans h.size hg.size⟩
def MIx (ρ:Int→List Int) (Jx:List MX→World→Prop) (first:List Int) (c:Code) (pre':List (Nat×Int)) (W:World):Prop:=c= .ret∧∃ys:List MX,ys.map MX.v=(mRun ρ ([],varsI first) (pre'.map Prod.snd)).1∧ys≠ []∧Jx ys W
theorem mIx_own (ρ:Int→List Int) {Jx:List MX→World→Prop} (first:List Int) {n R:Nat} (hJ:OwnFrom n Jx) (hn:n≤R) (c:Code):OwnFrom R (MIx ρ Jx first c):=by
 rintro pre W W' row ⟨h1,ys,h2,h3,h4⟩ hg hr
 exact⟨h1,ys,h2,h3,hJ ys W W' row h4 hg (fun r e=>⟨Nat.le_trans hn (hr r e).1,(hr r e).2⟩)⟩
set_option maxRecDepth 100000 in
set_option maxHeartbeats 4000000 in
theorem met_stops {OT OF:Nat→Prop} (ρ:Int→List Int) (X0:Nat→Prop) (Bl Bw b:Nat) (T:Trl) (u:Value) (first:List Int) (w:World) (hBl:w.cell? ⟨Bl,0,none⟩=some u) (hBw:w.cell? ⟨Bw,1,none⟩=some (.pointer (some ⟨b,0,none⟩)))
  (hT:TrAt OT w b T) (hF:IntsIn OF w u first) (hfl:first.length≤4194304) (hρ: ∀v,(ρ v).length≤4194304) (hX0: ∀g,X0 g→g<w.heap.size∧¬OT g):
  SeqM Tryz.prog 177 #[.pointer (some ⟨Bl,0,none⟩),.pointer (some ⟨Bw,0,none⟩)] MX.enc (MPre w.heap.size) (MPost ρ X0) MOut (fun ys=>ys.map MX.v=mAll ρ first T.order) (fun pre=>pre.map MX.v <+: mAll ρ first T.order∧pre≠ []) w:=by
 intro l J Jx W hW hJ hJx hY h0
 have hmm:=@run_makeMap Tryz.prog
 obtain⟨Wd,hWd,hbx⟩:=met_boxes l W
 have HBX:=Lib.hid hbx
 have HWD:=Lib.hid hWd
 have HJ:=Lib.hid hJ
 have HJX:=Lib.hid hJx
 have HY:=Lib.hid hY
 have HRHO:=Lib.hid hρ
 have HX0:=Lib.hid hX0
 have hBl':=World.block_lt_of_cell? w _ hBl
 have hBw':=World.block_lt_of_cell? w _ hBw
 have d1:Wd.cell? ⟨Bl,0,none⟩=some u:=(hbx.below.cell (p:=⟨Bl,0,none⟩) (Nat.lt_of_lt_of_le hBl' hW.size)).trans ((hW.cell (p:=⟨Bl,0,none⟩) hBl').trans hBl)
 have D2:=Lib.hid (show Wd.cell? ⟨Bw,1,none⟩=some (.pointer (some ⟨b,0,none⟩))from(hbx.below.cell (p:=⟨Bw,1,none⟩) (Nat.lt_of_lt_of_le hBw' hW.size)).trans ((hW.cell (p:=⟨Bw,1,none⟩) hBw').trans hBw))
 have hTW:=hT.below hW
 have HT:=Lib.hid (hTW.below hbx.below)
 have hTo:=hT.own
 have HTO:=Lib.hid hTo
 have HW:=Lib.hid hW
 have HJ0:=Lib.hid (own_from_below hJ h0 hbx.below)
 have hzW:=hW.size
 have HMO:=Lib.hid (more_run (Oc:=fun g=>OF g∧g<w.heap.size) (W.heap.size+2) (W.heap.size+1) 0 [] u first Wd (mx_cell (j:=0) hbx.box) hbx.map ((hF.lt.below hW).below hbx.below) (fun h=>by have:=h.2;omega) (by omega) (by omega))
 have hzd:=hbx.size
 clear hWd hbx hJ hJx hY h0 hρ hX0 hBl hBw hT hF hTW hTo hW
 refine callsIn_of_wp_marks Tryz.func177 rfl trivial ?_ rfl
 simp only[Tryz.ntmps177,List.size_toArray,List.length_cons,List.length_nil,Nat.reduceAdd,Nat.reduceSub,Array.replicate_succ,Array.replicate_zero,List.push_toArray,List.append_toArray,List.nil_append,List.cons_append]
 rw[←HWD.out]at d1
 gi_wp2_with fail
 rw[HWD.out]
 refine⟨trivial,?_⟩
 refine(callsIn_wide.2 HMO.out).mono ?_
 rintro e W1 ⟨⟨v0,rfl⟩,hm1,hk1⟩
 have d2:W1.cell? ⟨Bw,1,none⟩=some (.pointer (some ⟨b,0,none⟩)):=(hk1.cell (p:=⟨Bw,1,none⟩) (by simp only;omega) (by simp only;omega)).trans D2.out
 have HT1:=Lib.hid (HT.out.kept hk1 (fun g hg e=>by have:=HTO.out g hg;omega))
 have HJ1:=Lib.hid (own_from_map HJ.out HJ0.out hk1 (Nat.le_succ _) HBX.out.map)
 have Y1:=Lib.hid ((hk1.block W.heap.size (by omega) (by omega)).trans HBX.out.yld)
 have B1:=Lib.hid ((hk1.block (W.heap.size+2) (by omega) (by omega)).trans HBX.out.box)
 have M1:=Lib.hid ((hk1.block (W.heap.size+3) (by omega) (by omega)).trans HBX.out.mor)
 have HM1:=Lib.hid hm1
 have hz1:=hk1.size
 clear hm1 hk1 d1 HMO hmm
 gi_wp2_with fail
 refine⟨trivial,?_⟩
 refine(down_in b W1).mono ?_
 rintro e WR ⟨rfl,hWR⟩
 have hbR:Below W1.heap.size W1 WR:=by rw[←hWR];exact mx_al _ _
 have hcR:WR.heap[W1.heap.size]? =some (.cells #[.pointer (some ⟨b,0,none⟩)] 38 (0,0)):=by rw[←hWR];exact World.alloc_heap_new _ _
 have hzR:=heap_lt hcR
 have HTR:=Lib.hid (HT1.out.below hbR)
 have HST:=Lib.hid (down_stops (O:=OT) (X:=fun g=>g=W.heap.size+1∨WR.heap.size≤g∨X0 g) W1.heap.size b T WR (mx_cell (j:=0) hcR) (fun h=>by
  rcases h with h|h|h
  ·omega
  ·omega
  ·have:=(HX0.out _ h).1
   omega) HTR.out (fun g hg h=>by
  have h1:=HTO.out g hg
  rcases h with h|h|h
  ·omega
  ·omega
  ·exact(HX0.out _ h).2 hg))
 have HI0:=Lib.hid (show MInv ρ J l W.heap.size (W.heap.size+2) (W.heap.size+1) WR.heap.size first [] WR from
  ⟨[],first.length,own_from_below HJ.out HJ1.out hbR,(hbR.block _ (by omega)).trans Y1.out,(hbR.block _ (by omega)).trans B1.out,(hbR.block _ (by omega)).trans M1.out,by
   have:=HM1.out.below hbR
   rw[Nat.zero_add,List.nil_append]at this
   exact this,rfl,by simp;omega,Nat.le_refl _,(fun y hy=>by cases hy),Nat.le_refl _⟩)
 have HOR:=Lib.hid HTR.out.1.order
 clear hbR hcR hWR d2
 gi_wp2_with fail
 refine wpIn_rangeFunc_ownG rfl (by omega) (gf:=125) (lb:= #[.pointer (some ⟨W1.heap.size,0,none⟩)]) rfl trivial (enters_of Tryz.func125 (by kernel_rfl) rfl)
  HST.out (fun h k=>h.trans k) (fun W l o o' _ h hc hw=>(KpC.putObj W l o o' h hc hw).mono (fun _ _ h=>h.elim)) (Below.refl _ _) (fun _=>rfl)
  (MInv ρ J l W.heap.size (W.heap.size+2) (W.heap.size+1) WR.heap.size first) (MIx ρ Jx first) (mInv_own ρ l _ _ _ _ first HJ.out (by omega) (by omega) (by omega) (by omega)) (fun c=>mIx_own ρ first HJX.out (by omega) c) HI0.out
  ?frame ?assign ?body ?done ?stop
 case assign=>
  intro l x W K hK
  dsimp only[dv]
  gi_wp2
  exact hK
 case body=>
  rintro l2 pre ⟨m,u2⟩ Wi ⟨ys,k,hin⟩ hlt
  have HIN:=Lib.hid hin
  obtain⟨vs,hvs⟩: ∃z,(mRun ρ ([],varsI first) (pre.map Prod.snd)).1=z:=⟨_,rfl⟩
  obtain⟨ms,hms⟩: ∃z,(mRun ρ ([],varsI first) (pre.map Prod.snd)).2=z:=⟨_,rfl⟩
  have hst:mRun ρ ([],varsI first) ((pre++ [(m,u2)]).map Prod.snd)=mStep ρ (vs,ms) u2:=by
   rw[List.map_append,List.map_cons,List.map_nil,mRun_one,←hvs,←hms]
  have hm0:=hin.map
  have hru:=hin.run
  rw[hms]at hm0
  rw[hvs]at hru
  obtain⟨v,hv⟩: ∃z:Int,((litV u2:Nat):Int)=z:=⟨_,rfl⟩
  have hlv:=litV_le u2
  have hwx:(Lit.int .i64 v).wf=true:=hv▸wf64 (by omega) (by omega)
  have hlk:=hm0.lookup hwx
  have HV:=Lib.hid (fun W=>lit_var u2 W)
  unfold mStep at hst
  rw[hv]at HV hst
  have c4:Wi.cell? ⟨W.heap.size+1+1,0,none⟩=some (.map (some (W.heap.size+1))):=mx_cell (j:=0) hin.box
  have HST2:=Lib.hid hst
  have HRU:=Lib.hid hru
  have HM0:=Lib.hid hm0
  have hkb:=hin.kb
  have hlen:=hin.len
  have hszi:=hin.size
  have hpo:=HOR.out
  clear hin hvs hms hst hm0 hru hv
  cases hc:ms.contains v with
  | false=>
   have HC:=Lib.hid hc
   rw[show metF ms v=0 from by unfold metF;rw[hc];rfl]at hlk
   clear hc
   gi_wp2_with fail
   refine⟨trivial,((CallsIn.inRound l2 (callsIn_wide.2 (HV.out _))).mono ?_)⟩
   rintro e wq ⟨rfl,rfl⟩
   gi_wp2_with fail
   refine⟨fun _ h=>(by cases h),?_⟩
   gi_wp2_with fail
   refine⟨KeepsFrom.refl _ _,KpC.refl _ _,ys,k,HIN.out.j,HIN.out.yld,HIN.out.box,HIN.out.mor,?_,?_,?_,?_,HIN.out.same,hszi⟩
   ·rw[HST2.out,if_neg (by simp only[HC.out];decide)]
    exact HM0.out
   ·rw[HST2.out,if_neg (by simp only[HC.out];decide)]
    exact HRU.out
   ·rw[List.length_append]
    exact Nat.le_trans hkb (Nat.mul_le_mul_right _ (by simp))
   ·rw[List.length_append]
    omega
  | true=>
   have HC:=Lib.hid hc
   rw[show metF ms v=1 from by unfold metF;rw[hc];rfl]at hlk
   have c3:Wi.cell? ⟨W.heap.size,0,none⟩=some (.func (.yield l) #[] #[]):=mx_cell (j:=0) HIN.out.yld
   have c5:Wi.cell? ⟨W.heap.size+1+1+1,0,none⟩=some (moreV (W.heap.size+2)):=mx_cell (j:=0) HIN.out.mor
   unfold moreV at c5
   obtain⟨fn,tmps,assign,body,hy,hR⟩:=yield_any 6 (HY.out ys ⟨v,W.heap.size+2,W.heap.size+1,WR.heap.size,ms,k⟩ Wi HIN.out.j ⟨HIN.out.box,HM0.out,by have:=Nat.mul_le_mul_right 4194304 (show pre.length+1≤1048576 by omega);simp only;omega,by simp only;omega,by simp only;omega,by simp only;omega,by simp only;omega,by simp,by simp only;omega,hszi,by omega,HIN.out.same⟩)
   dsimp only[MX.enc,moreV]at hy
   have HR:=Lib.hid hR
   clear hc hR
   gi_wp2_with fail
   refine⟨trivial,((CallsIn.inRound l2 (callsIn_wide.2 (HV.out _))).mono ?_)⟩
   rintro e wq ⟨rfl,rfl⟩
   gi_wp2_with fail
   refine RoundIn.mono (F:=Fence.wide.inRound l2) HR.out ?_
   rintro e W3 (⟨rfl,hj3,hp3⟩|⟨rfl,hx3,hk3⟩)
   ·have HP3:=Lib.hid hp3
    have HJ3:=Lib.hid hj3
    clear hj3 hp3 hlk c3 c4 c5 hy
    gi_wp2_with fail
    have hKX: ∀g,g<WR.heap.size→W.heap.size≤g→g≠W.heap.size+1→¬(g=W.heap.size+1∨WR.heap.size≤g∨X0 g):=fun g h1 h2 h3 h=>by
     rcases h with h|h|h
     ·exact h3 h
     ·omega
     ·have:=(HX0.out _ h).1
      omega
    have hkp:=HP3.out.kept
    have hrl:=HRHO.out v
    refine⟨HP3.out.from_,hkp,ys++ [⟨v,W.heap.size+2,W.heap.size+1,WR.heap.size,ms,k⟩],k+(ρ v).length,HJ3.out,hkp.same _ _ HIN.out.yld (hKX _ (by omega) (by omega) (by omega)) (.inl rfl),HP3.out.box,hkp.same _ _ HIN.out.mor (hKX _ (by omega) (by omega) (by omega)) (.inl rfl),?_,?_,?_,?_,?_,Nat.le_trans hszi hkp.size⟩
    ·rw[HST2.out,if_pos (by simp only[HC.out])]
     exact HP3.out.map
    ·rw[HST2.out,if_pos (by simp only[HC.out]),List.map_append,HRU.out]
     rfl
    ·rw[List.length_append,Nat.succ_mul]
     simp only[List.length_cons,List.length_nil]
     omega
    ·rw[List.length_append,List.length_append]
     simp only[List.length_cons,List.length_nil]
     omega
    ·intro y hy
     rcases List.mem_append.1 hy with h|h
     ·exact HIN.out.same y h
     ·rw[List.mem_singleton.1 h]
   ·have HX3:=Lib.hid hx3
    have HK3:=Lib.hid hk3
    clear hx3 hk3 hlk c3 c4 c5 hy
    gi_wp2_with fail
    refine⟨HK3.out,rfl,ys++ [⟨v,W.heap.size+2,W.heap.size+1,WR.heap.size,ms,k⟩],?_,by simp,HX3.out⟩
    rw[HST2.out,if_pos (by simp only[HC.out]),List.map_append,HRU.out]
    rfl
 case done=>
  rintro D pre Wi hD hpre ⟨ys,k,hin⟩ hK
  have HJF:=Lib.hid hin.j
  have HRF:=Lib.hid (show ys.map MX.v=mAll ρ first T.order from by
   rw[hin.run,hpre,downL_rev _ _ (Nat.le_refl _),List.take_length]
   rfl)
  have HKD:=Lib.hid hK
  clear hin hpre
  gi_wp2_with fail
  refine⟨by simp,.inl ⟨_,_,rfl,run_takeDeferred HKD.out,?_⟩⟩
  refine⟨_,results_none rfl _ _ _,⟨_,rfl⟩,.inl ⟨ys,HRF.out,HJ.out.putObj _ HJF.out (by omega) HKD.out rfl⟩⟩
 case stop=>
  rintro D c pre Wi hD ⟨hpre,hne⟩ ⟨rfl,ys,hys,hy0,hjx⟩ hK
  have HJF:=Lib.hid hjx
  have HRF:=Lib.hid (show ys.map MX.v <+: mAll ρ first T.order from by
   rw[hys]
   obtain⟨r,hr⟩:=hpre
   have h1:T.order.reverse=pre.map Prod.snd++r.map Prod.snd:=by
    rw[←List.map_append,hr,downL_rev _ _ (Nat.le_refl _),List.take_length]
   unfold mAll
   rw[h1,mRun_app]
   exact mRun_pre _ _ _)
  have HY0:=Lib.hid hy0
  have HKD:=Lib.hid hK
  clear hpre hne hys hy0 hjx
  gi_wp2_with fail
  refine⟨by simp,.inl ⟨_,_,rfl,run_takeDeferred HKD.out,?_⟩⟩
  refine⟨_,results_none rfl _ _ _,⟨_,rfl⟩,.inr ⟨ys,⟨HRF.out,HY0.out⟩,HJX.out.putObj _ HJF.out (by omega) HKD.out rfl⟩⟩
end Go.Proofs.YtoojmhjagipmdaaGreat
