/- package salvorlaw15: open, where it says yes. -/
import Derived.Test.YtoojmhjagipmdaaGreatV333
namespace Go.Proofs.YtoojmhjagipmdaaGreat
open Go.RowKit Go.Shelf Go.Maps
attribute [local go_sem] Oper.semAt_some
theorem res_bool6 {fn:Func} (h:fn.results= #[.cell 6 4]) {w:World} {r:Nat} {b:Bool} (hb:Boxed w r 4 (.bool b)) (tmps:Array Value) (t6:tmps[6]?.getD undef= .pointer (some ⟨r,0,none⟩)):
  (results fn tmps).run Tryz.prog w= .ok (.bool b) w:=by
 have p0:=hb.cell
 simp[results,h,go_sem,t6,p0]
theorem rest_of {a rest L:List Int} {y:Int} (h1:a++rest=L) (h2:a++ [y] <+: L): ∃r,rest=y::r:=by
 obtain⟨t,ht⟩:=h2
 rw[←h1,List.append_assoc]at ht
 exact⟨t,(List.append_cancel_left ht).symm⟩
theorem zip_pre {xs:List Int} {pre:List (Int×Nat)} {x:Int×Nat} (h:pre++ [x] <+: xs.zipIdx.reverse):pre.map Prod.fst++ [x.1] <+: xs.reverse:=by
 have:=h.map Prod.fst
 rw[List.map_append,List.map_reverse,List.zipIdx_map_fst]at this
 exact this
structure OpI (W4:World) (mb:Nat) (T:Trl) (cs:List (List Int)) (c ord:List Int) (pre:List (Int×Nat)) (W:World):Prop where
 ex: ∃(ms:List Int) (k:Nat) (rest:List Int),MapAt W mb k (metF ms)∧k≤10*(pre.length+1)∧pre.map Prod.fst++rest=ord∧openGo T cs c ms rest=true
 kept:Kept (fun g=>g=mb) W4 W
theorem opi_own {W4:World} {mb N:Nat} {T:Trl} {cs:List (List Int)} {c ord:List Int} (hmb:mb<N) (hN:W4.heap.size≤N):OwnFrom N (OpI W4 mb T cs c ord):=fun pre W W' row h hg hr=>by
 obtain⟨ms,k,rest,h1,h2⟩:=h.ex
 have hk:Kept (fun g=>N≤g) W W':=(Kept.grown hg).mono fun i _ e=>(hr i e.symm).1
 exact⟨⟨ms,k,rest,h1.kept hk (by omega),h2⟩,h.kept.trans hk (fun i hi h=>by omega)⟩
structure OpX (W4:World) (mb rb:Nat) (_:List (Int×Nat)) (W:World):Prop where
 box:Boxed W rb 4 (.bool true)
 kept:Kept (fun g=>g=mb∨g=rb) W4 W
theorem opx_own {W4:World} {mb rb N:Nat} (hN:W4.heap.size≤N):OwnFrom N (OpX W4 mb rb):=fun pre W W' row h hg hr=>by
 have hk:Kept (fun g=>N≤g) W W':=(Kept.grown hg).mono fun i _ e=>(hr i e.symm).1
 exact⟨boxed_grown h.box hg (fun r e=>(hr r e).2),h.kept.trans hk (fun i hi h=>by omega)⟩
structure OpM (W4:World) (mb:Nat) (T:Trl) (cs:List (List Int)) (c xs:List Int) (pre:List (Int×Nat)) (x:Int×Nat) (W:World) (_:Nat) (W':World):Prop where
 i:OpI W4 mb T cs c xs.reverse pre W'
 p:pre++ [x] <+: xs.zipIdx.reverse
 k:KpC (fun g=>g=mb) W W'
theorem OpM.turn {W4:World} {mb N:Nat} {T:Trl} {cs:List (List Int)} {c xs:List Int} {pre:List (Int×Nat)} {x:Int×Nat} {W W':World} {Bx l:Nat} {r r':Loop} (h:OpM W4 mb T cs c xs pre x W Bx W') (hmb:mb<N) (hN:W4.heap.size≤N) (hl:N≤l) (hr:W'.heap[l]? =some (.loop r)):OpM W4 mb T cs c xs pre x W Bx (W'.putObj l (.loop r')):=
 ⟨(opi_own hmb hN).putObj _ h.i hl hr rfl,h.p,h.k.trans ((KpC.putObj W' l _ _ hr rfl rfl).mono (fun _ _ e=>e.elim))⟩
set_option maxRecDepth 100000 in
set_option maxHeartbeats 8000000 in
theorem law_open15 {w0 w:World} {lab:Nat→Nat} {sb b ab tb:Nat} {A:Arn} {T:Trl} {S:Wst} {cs:List (List Int)} {av:Value} {us:List Value} {id:Int} {n:Nat} {ds c:List Int} (Ac:Option Addr) (cc:Nat) (h:SrAt w0 w lab sb b ab tb A T S cs av us) (h6:Six cs)
  (hx:IntsIn (fun _=>True) w (.slice Ac c.length cc) c) (hcl:c.length≤1000) (hid:id=(n:Int)+1) (hn:cs[n]? =some ds) (hol:T.order.length≤40) (hlit: ∀y∈T.order,litB y=true) (hyes:openGo T cs c (varsI ds) T.order.reverse=true):
  Calls Tryz.prog 43 #[.pointer (some ⟨sb,0,none⟩),.int .i64 id,.slice Ac c.length cc] w fun e w'=>e= .returned (.bool true)∧Below w.heap.size w w':=by
 have hcs9:=h6.1
 have hnl:=(List.getElem?_eq_some_iff.1 hn).1
 obtain⟨Aa,ca,hav,hca,_,hux⟩:=h.cls.lt
 obtain⟨ga,oa,u0,rfl,hga,_,hda,hu0⟩:=hux n ds hn
 subst hav
 have HUX:=Lib.hid hux
 obtain⟨V0,hV0⟩: ∃x,w.alloc (.cells #[.pointer (some ⟨sb,0,none⟩)] 25)=x:=⟨_,rfl⟩
 obtain⟨V1,hV1⟩: ∃x,V0.alloc (.cells #[.slice Ac c.length cc] 34)=x:=⟨_,rfl⟩
 obtain⟨V2,hV2⟩: ∃x,V1.alloc (.cells #[.bool false] 4)=x:=⟨_,rfl⟩
 have z0:V0.heap.size=w.heap.size+1:=by rw[←hV0];simp
 have z1:V1.heap.size=w.heap.size+2:=by rw[←hV1,World.size_alloc,z0]
 have z2:V2.heap.size=w.heap.size+3:=by rw[←hV2,World.size_alloc,z1]
 have k0:Below w.heap.size w V0:=by rw[←hV0];exact mx_al _ _
 have k1:Below V0.heap.size V0 V1:=by rw[←hV1];exact mx_al _ _
 have k2:Below V1.heap.size V1 V2:=by rw[←hV2];exact mx_al _ _
 have kV:Below w.heap.size w V2:=(k0.trans (k1.mono (by omega))).trans (k2.mono (by omega))
 have c0:V2.cell? ⟨w.heap.size,0,none⟩=some (.pointer (some ⟨sb,0,none⟩)):=((k1.trans (k2.mono (by omega))).cell (p:=⟨w.heap.size,0,none⟩) (by simp only;omega)).trans (by rw[←hV0];exact mx_cell (j:=0) (World.alloc_heap_new _ _))
 have c1:V2.cell? ⟨V0.heap.size,0,none⟩=some (.slice Ac c.length cc):=(k2.cell (p:=⟨V0.heap.size,0,none⟩) (by simp only;omega)).trans (by rw[←hV1];exact mx_cell (j:=0) (World.alloc_heap_new _ _))
 have cb:Boxed V2 V1.heap.size 4 (.bool false):=by rw[←hV2];exact Boxed.new _ _ _
 rw[z0]at c1
 rw[z1]at cb
 have HV:=Lib.hid (h.below kV)
 obtain⟨-,-,-,e3⟩:=HV.out.cells
 have hsbl:=HV.out.sblt
 have q0:decide ((cs.length:Int)<id)=false:=decide_eq_false (by omega)
 have q3:IntKind.i64.wrap (id-1)=(n:Int):=by rw[IntWalk.i64_in _ (by omega)];omega
 have q4:(n:Int)<(cs.length:Int):=by omega
 obtain⟨V3,hV3⟩: ∃x,V2.alloc (.map #[] 0)=x:=⟨_,rfl⟩
 obtain⟨V4,hV4⟩: ∃x,V3.alloc (.cells #[.map none] 109)=x:=⟨_,rfl⟩
 have z3:V3.heap.size=w.heap.size+4:=by rw[←hV3,World.size_alloc,z2]
 have z4:V4.heap.size=w.heap.size+5:=by rw[←hV4,World.size_alloc,z3]
 have k3:Below V2.heap.size V2 V3:=by rw[←hV3];exact mx_al _ _
 have k4:Below V3.heap.size V3 V4:=by rw[←hV4];exact mx_al _ _
 have cm4:Boxed V4 V3.heap.size 109 (.map none):=by rw[←hV4];exact Boxed.new _ _ _
 rw[z3]at cm4
 have r1:=cm4.cell
 have r2:=cm4.frozen
 have hm3:MapAt V3 V2.heap.size 0 (metF []):=by rw[←hV3];exact MapAt.made V2
 rw[z2]at hm3
 obtain⟨V5,hV5⟩: ∃x,V4.setCell ⟨w.heap.size+4,0,none⟩ (.map (some (w.heap.size+3)))=x:=⟨_,rfl⟩
 have cm5:Boxed V5 (w.heap.size+4) 109 (.map (some (w.heap.size+3))):=by rw[←hV5];exact cm4.set _
 have k5:Below V3.heap.size V3 V5:=by rw[←hV5];exact k4.setCell (p:=⟨w.heap.size+4,0,none⟩) (by simp only;omega) _
 have k25:Below V2.heap.size V2 V5:=k3.trans (k5.mono (by omega))
 have z5:V5.heap.size=w.heap.size+5:=by rw[←hV5];simp[z4]
 have hm5:MapAt V5 (w.heap.size+3) 0 (metF []):=hm3.below k5
 have c0':=(k25.cell (p:=⟨w.heap.size,0,none⟩) (by simp only;omega)).trans c0
 have e3':=(k25.cell (p:=⟨sb,3,none⟩) (by simpa using hsbl)).trans e3
 have hda':V5.cell? ⟨ga,oa+n,none⟩=some u0:=((kV.trans (k25.mono (by omega))).cell (p:=⟨ga,oa+n,none⟩) hga).trans hda
 have kw5:Below w.heap.size w V5:=kV.trans (k25.mono (by omega))
 have HU0:=Lib.hid (hu0.below kw5)
 obtain⟨Au,cu,rfl,_⟩:=hu0
 have CM5:=Lib.hid cm5
 have HM5:=Lib.hid hm5
 have hmm:=@run_makeMap Tryz.prog
 have KW5:=Lib.hid kw5
 have KV5:=Lib.hid k25
 have CB:=Lib.hid cb
 have C1:=Lib.hid c1
 have C0:=Lib.hid c0'
 have H:=Lib.hid h
 have HX:=Lib.hid hx
 have HYES:=Lib.hid hyes
 have HLIT:=Lib.hid hlit
 have d0l:=(h6.2 ds (List.mem_of_getElem? hn)).1
 clear k0 k1 k2 kV c1 cb h hx hyes hlit cm4 k3 k4 hm3 cm5 k5 k25 hm5 kw5 hda hux
 refine(callsIn_wide (n:=10)).1 ?_
 refine callsIn_of_wp_marks Tryz.func43 rfl trivial ?_ rfl
 simp only[Tryz.ntmps43,List.size_toArray,List.length_cons,List.length_nil,Nat.reduceAdd,Nat.reduceSub,Array.replicate_succ,Array.replicate_zero,List.push_toArray,List.append_toArray,List.nil_append,List.cons_append]
 gi_wp2_with fail
 clear hmm r1 r2 c0 e3 hV0 hV1 hV2 hV3 hV4 hV5 c0' e3' hda' q0 q3 q4
 gi_loopw [35] (fun iv wr=> ∃(j:Nat),j≤ds.length∧iv= .int .i64 j∧Hid (MapAt wr (w.heap.size+3) j (metF (varsI (ds.take j))))∧Hid (Kept (fun g=>g=w.heap.size+3) V5 wr)) (fun iv _=>ds.length-(intOf iv).toNat)
 case atStart=>exact⟨0,Nat.zero_le _,rfl,HM5,Lib.hid (Kept.refl _ _)⟩
 case round=>
  obtain⟨j,hj,rfl,HM,HW⟩:=hrel
  by_cases hlt:j<ds.length
  ·obtain⟨x,hxj⟩:=getElem_of hlt
   obtain⟨A',c',hAc,_,_,hxs⟩:=HU0.out
   simp only[Value.slice.injEq,true_and]at hAc
   obtain⟨rfl,rfl⟩:=hAc
   obtain⟨g,o,rfl,hg,hgo,e0⟩:=hxs j x hxj
   have hgm:g≠w.heap.size+3:=fun e=>by have:=hgo.2;omega
   have d1:wr.cell? ⟨g,o+j,none⟩=some (.int .i64 x):=(HW.out.cell (p:=⟨g,o+j,none⟩) hg hgm).trans e0
   have E1:=Lib.hid (show wr.cell? ⟨w.heap.size+4,0,none⟩=some (.map (some (w.heap.size+3)))from(HW.out.cell (p:=⟨w.heap.size+4,0,none⟩) (by simp only;omega) (by simp only;omega)).trans CM5.out.cell)
   have HV1:=Lib.hid (fun W=>lit_var x W)
   have HTK:=Lib.hid (show varsI (ds.take (j+1))=varsI (ds.take j)++ [((litV x:Nat):Int)]from by
    unfold varsI
    rw[List.take_add_one,hxj]
    simp)
   have HWX:=Lib.hid (show(Lit.int .i64 ((litV x:Nat):Int)).wf=true from by
    have:=litV_le x
    exact wf64 (by omega) (by omega))
   clear hxj hxs hgo e0
   gi_wp2
   refine wpIn_wide.2 (wp_region_noPanic ?_)
   refine wp_region_sink_at (S:=fun w'=>w'=wr.drew) (by kernel_rfl) rfl (by kernel_rfl) rfl (fun hS=>?_)
   simp only[List.dropLast]
   obtain⟨wD,hwD⟩: ∃q,wr.drew=q:=⟨_,rfl⟩
   have hD:Below wr.heap.size wr wD:=by rw[←hwD];exact mx_drew wr
   rw[hwD]at hS⊢
   have E2:=Lib.hid ((hD.cell (p:=⟨w.heap.size+4,0,none⟩) (World.block_lt_of_cell? wr _ E1.out)).trans E1.out)
   have HMD:=Lib.hid (HM.out.below hD)
   have HKD:=Lib.hid (HW.out.trans (O:=fun g=>g=w.heap.size+3) (Kept.of_below hD) (fun _ _ h=>h))
   clear hwD hD d1
   refine takeF 0 39 (fun wq hSw=>show wq.cell? ⟨w.heap.size+4,0,none⟩=some (.map (some (w.heap.size+3)))from by rw[hSw];exact E2.out) ?_
   refine takeE 1 40 ?_
   refine ready1 2 (fun K hK=>?_)
   go_simp
   refine(HV1.out wD).mono ?_
   rintro e w' ⟨rfl,rfl⟩
   refine hK.out _ _ hS (fun _=>?_)
   clear hK
   refine wpAnyH_done (by kernel_rfl) ?_ _
   refine lastPost_normal ?_
   refine wpOp_step rfl (fun K hK=>?_)
   rw[if_pos (by rfl)]
   refine op_put HMD.out _ _ _ rfl rfl (by unfold maxLen;omega) (litV x:Nat) 1 rfl rfl HWX.out rfl (fun w4 hm4 hg4=>hK _ _ ?_)
   have HM4:=Lib.hid (show MapAt w4 (w.heap.size+3) (j+1) (metF (varsI (ds.take (j+1))))from by
    rw[HTK.out,←metF_put]
    exact hm4)
   have HK4:=Lib.hid (HKD.out.trans (O:=fun g=>g=w.heap.size+3) (Kept.grown hg4) (fun i _ e=>Option.some.inj e))
   clear hK hm4 hg4 hS
   refine NoPanic.normal ?_
   gi_wp2
   go_roundw
   case rel=>exact⟨j+1,by omega,by go_num,HM4,HK4⟩
   case measure=>simp[intOf];omega
  ·obtain rfl:j=ds.length:=by omega
   have HMF:=Lib.hid (show MapAt wr (w.heap.size+3) ds.length (metF (varsI ds))from by simpa [List.take_length] using HM.out)
   have HBR:=Lib.hid (below_kept KW5.out HW.out (fun i e=>by omega) (by omega))
   have HR:=Lib.hid (H.out.below HBR.out)
   have c0:wr.cell? ⟨w.heap.size,0,none⟩=some (.pointer (some ⟨sb,0,none⟩)):=(HW.out.cell (p:=⟨w.heap.size,0,none⟩) (by simp only;omega) (by simp only;omega)).trans C0.out
   obtain⟨-,e1,-,-⟩:=HR.out.cells
   have HAS:=Lib.hid (law_assigned14 tb T wr HR.out.lw.sys.tr hol)
   gi_wp2_with fail
   refine⟨trivial,?_⟩
   refine(callsIn_wide.2 HAS.out).mono ?_
   rintro e W6 ⟨vn,rfl,hrn,hb6⟩
   obtain⟨xs,hxs⟩: ∃xs,T.order=xs:=⟨_,rfl⟩
   rw[hxs]at hrn hol
   have HXS:=Lib.hid hxs
   obtain⟨An,cn,rfl,hcn⟩:=mx_slice hrn
   have HRN:=Lib.hid hrn
   have HB6:=Lib.hid hb6
   clear hrn hb6 hxs HAS c0 e1
   gi_wp2_with fail
   refine⟨trivial,?_⟩
   refine(callsIn_wide.2 (back_run An xs.length cn W6)).mono ?_
   obtain⟨W7,hW7⟩: ∃z,W6.alloc (.cells #[.slice An xs.length cn] 33)=z:=⟨_,rfl⟩
   rw[hW7]
   rintro e W' ⟨rfl,rfl⟩
   have k7:Below W6.heap.size W6 W7:=by rw[←hW7];exact mx_al _ _
   have cB:W7.cell? ⟨W6.heap.size,0,none⟩=some (.slice An xs.length cn):=by rw[←hW7];exact mx_cell (j:=0) (World.alloc_heap_new _ _)
   have z6:=HB6.out.size
   have z7:W7.heap.size=W6.heap.size+1:=by rw[←hW7];simp
   have zr:=HW.out.size
   have HK7:=Lib.hid (HB6.out.trans (k7.mono z6))
   have HSEQ:=Lib.hid (back_stops (X:=fun g=>g=w.heap.size+3) W6.heap.size _ xs W7 cB (by omega) ((IntsIn.of_own HRN.out).below k7) (fun g hg e=>by omega) (by omega))
   have HM7:=Lib.hid (HMF.out.below HK7.out)
   have HB7:=Lib.hid (HBR.out.trans (HK7.out.mono (by omega)))
   have k57:Kept (fun g=>g=w.heap.size+3) V5 W7:=HW.out.trans (O:=fun g=>g=w.heap.size+3) (Kept.of_below HK7.out) (fun _ _ h=>h)
   have HBX:=Lib.hid (show Boxed W7 (w.heap.size+2) 4 (.bool false)from(k57.block _ (by omega) (by omega)).trans ((KV5.out.block _ (by omega)).trans CB.out))
   have HC1:=Lib.hid (show W7.cell? ⟨w.heap.size+1,0,none⟩=some (.slice Ac c.length cc)from(k57.cell (p:=⟨w.heap.size+1,0,none⟩) (by simp only;omega) (by simp only;omega)).trans ((KV5.out.cell (p:=⟨w.heap.size+1,0,none⟩) (by simp only;omega)).trans C1.out))
   have HC0:=Lib.hid (show W7.cell? ⟨w.heap.size,0,none⟩=some (.pointer (some ⟨sb,0,none⟩))from(k57.cell (p:=⟨w.heap.size,0,none⟩) (by simp only;omega) (by simp only;omega)).trans C0.out)
   have HCM:=Lib.hid (show W7.cell? ⟨w.heap.size+4,0,none⟩=some (.map (some (w.heap.size+3)))from(k57.cell (p:=⟨w.heap.size+4,0,none⟩) (by simp only;omega) (by simp only;omega)).trans CM5.out.cell)
   rw[HXS.out]at HYES HLIT
   clear hW7 k7 cB k57 HW HM HMF CM5 HM5 KV5 CB C1 C0 HU0
   gi_wp2_with fail
   refine wpIn_range_M (gf:=140) (lb:= #[.pointer (some ⟨W6.heap.size,0,none⟩)]) rfl (enters_of Tryz.func140 (by kernel_rfl) rfl) HSEQ.out (Below.refl _ _) (fun _=>rfl)
    (fun pre x W W3 l r r' h1 h2 h3 h4=>BPost.turn h4 h3) (fun pre x W W3 l r r' h1 h2 h3 h4=>trivial)
    (OpI W7 (w.heap.size+3) T cs c xs.reverse) (OpX W7 (w.heap.size+3) (w.heap.size+2)) (opi_own (by omega) (Nat.le_refl _)) (opx_own (Nat.le_refl _)) ⟨⟨varsI ds,ds.length,xs.reverse,HM7.out,by simp;omega,rfl,HYES.out⟩,Kept.refl _ _⟩
    ?frame (OpM W7 (w.heap.size+3) T cs c xs)
    (fun pre x W Bx W' l r r' h1 h2 h3 h4=>h4.turn (by omega) (Nat.le_refl _) h1 h3)
    ?assign ?body ?done ?stop
   case assign=>
    rintro l pre x W K hi hp hK
    dsimp only[bv]
    gi_wp2
    obtain⟨Bx,hBx⟩: ∃b:Nat,b=0:=⟨0,rfl⟩
    exact hK Bx W (KeepsRec.refl W) ⟨hi,hp,KpC.refl _ _⟩
   case body=>
    rintro l pre x W Bx W' ⟨hi,hp,hk⟩
    obtain⟨ms,k,rest,hm,hkb,hrest,hop⟩:=hi.ex
    have hpl:pre.length<40:=by
     have:=hp.length_le
     simp at this
     omega
    obtain⟨rest',rfl⟩:=rest_of hrest (zip_pre hp)
    have hxm:x.1∈xs:=by
     have:x.1∈xs.reverse:=by rw[←hrest];simp
     simpa using this
    have hkp:=hi.kept
    obtain⟨y,hy⟩: ∃y,x.1=y:=⟨_,rfl⟩
    rw[hy]at hxm hop hrest⊢
    have hrest2:(pre++ [x]).map Prod.fst++rest'=xs.reverse:=by
     rw[←hrest,List.map_append,List.append_assoc]
     show _++([x.1]++rest')=_
     rw[hy]
     rfl
    have hyb:=HLIT.out y hxm
    have hyl:=(litB_iff y).1 hyb
    have hyr:IntKind.i64.wrap (-y)= -y:=IntWalk.i64_in _ (by omega)
    have HVr:=Lib.hid (fun W=>lit_var y W)
    have hlv:=litV_le y
    have hwx:(Lit.int .i64 ((litV y:Nat):Int)).wf=true:=wf64 (by omega) (by omega)
    have hlk:=hm.lookup hwx
    have hz0:=metF_zero ms ((litV y:Nat):Int)
    obtain⟨V,hV⟩: ∃V:Int,((litV y:Nat):Int)=V:=⟨_,rfl⟩
    have HBW:=Lib.hid (below_kept HB7.out hkp (fun i e=>by omega) (by omega))
    have b1:W'.cell? ⟨w.heap.size+1,0,none⟩=some (.slice Ac c.length cc):=(hkp.cell (p:=⟨w.heap.size+1,0,none⟩) (by simp only;omega) (by simp only;omega)).trans HC1.out
    have b0:W'.cell? ⟨w.heap.size,0,none⟩=some (.pointer (some ⟨sb,0,none⟩)):=(hkp.cell (p:=⟨w.heap.size,0,none⟩) (by simp only;omega) (by simp only;omega)).trans HC0.out
    have bm:W'.cell? ⟨w.heap.size+4,0,none⟩=some (.map (some (w.heap.size+3))):=(hkp.cell (p:=⟨w.heap.size+4,0,none⟩) (by simp only;omega) (by simp only;omega)).trans HCM.out
    have hbx:Boxed W' (w.heap.size+2) 4 (.bool false):=(hkp.block _ (by omega) (by omega)).trans HBX.out
    have r1:=hbx.cell
    have r2:=hbx.frozen
    have HBX2:=Lib.hid hbx
    have HM:=Lib.hid hm
    have HKP:=Lib.hid hkp
    have HK:=Lib.hid hk
    have HOP:=Lib.hid hop
    have HRS:=Lib.hid hrest2
    have hpl2:(pre++ [x]).length=pre.length+1:=by simp
    rw[hV]at HVr hlk hz0
    have HV2:=Lib.hid hV
    clear hi hp hk hm hrest hop hkp hrest2 hxm hyb hyl hbx hwx hV
    cases hms:ms.contains V with
    | false=>
     rw[hms]at hz0
     have HN:=Lib.hid (show OpI W7 (w.heap.size+3) T cs c xs.reverse (pre++ [x]) W' from⟨⟨ms,k,rest',HM.out,by rw[hpl2];omega,HRS.out,by
      have:=HOP.out
      unfold openGo at this
      rw[HV2.out,if_pos (.inl hms)]at this
      exact this⟩,HKP.out⟩)
     clear hms
     gi_wp2_with fail
     refine⟨trivial,(CallsIn.inRound l (callsIn_wide.2 (HVr.out W'))).mono ?_⟩
     rintro e w' ⟨rfl,rfl⟩
     gi_wp2_with fail
     refine⟨trivial,?_⟩
     gi_wp2_with fail
     exact⟨KeepsRec.refl _,HN.out,HK.out⟩
    | true=>
     rw[hms]at hz0
     cases hcy:c.contains (-y)with
     | true=>
      have HN:=Lib.hid (show OpI W7 (w.heap.size+3) T cs c xs.reverse (pre++ [x]) W' from⟨⟨ms,k,rest',HM.out,by rw[hpl2];omega,HRS.out,by
       have:=HOP.out
       unfold openGo at this
       rw[if_pos (.inr hcy)]at this
       exact this⟩,HKP.out⟩)
      have HCT:=Lib.hid (contains_c _ c (-y) W' (HX.out.below HBW.out) (by omega))
      rw[hcy]at HCT
      clear hms hcy
      gi_wp2_with fail
      refine⟨trivial,(CallsIn.inRound l (callsIn_wide.2 (HVr.out W'))).mono ?_⟩
      rintro e w' ⟨rfl,rfl⟩
      gi_wp2_with fail
      refine⟨trivial,(CallsIn.inRound l (callsIn_wide.2 HCT.out)).mono ?_⟩
      rintro e w' ⟨rfl,rfl⟩
      gi_wp2_with fail
      exact⟨KeepsRec.refl _,HN.out,HK.out⟩
     | false=>
      have HO2:=Lib.hid (show(if T.reason V<1∨(cs.length:Int)<T.reason V then true else openGo T cs c (ms++varsI (cs.getD (T.reason V-1).toNat [])) rest')=true from by
       have:=HOP.out
       unfold openGo at this
       rw[HV2.out,if_neg (by rw[hms,hcy];simp)]at this
       exact this)
      have HCT:=Lib.hid (contains_c _ c (-y) W' (HX.out.below HBW.out) (by omega))
      rw[hcy]at HCT
      have HS':=Lib.hid (H.out.below HBW.out)
      have HRE:=Lib.hid (tr_reason tb T V W' HS'.out.lw.sys.tr)
      obtain⟨-,e1,-,e3⟩:=HS'.out.cells
      clear hms hcy
      obtain⟨R,hR⟩: ∃R,T.reason V=R:=⟨_,rfl⟩
      rw[hR]at HO2 HRE
      clear hR
      gi_wp2_with fail
      refine⟨trivial,(CallsIn.inRound l (callsIn_wide.2 (HVr.out W'))).mono ?_⟩
      rintro e w' ⟨rfl,rfl⟩
      gi_wp2_with fail
      refine⟨trivial,(CallsIn.inRound l (callsIn_wide.2 HCT.out)).mono ?_⟩
      rintro e w' ⟨rfl,rfl⟩
      gi_wp2_with fail
      refine⟨trivial,(CallsIn.inRound l (callsIn_wide.2 HRE.out)).mono ?_⟩
      rintro e w9 ⟨rfl,hb9⟩
      have HB9:=Lib.hid hb9
      clear hb9 e1 e3 b0 b1 bm r1 r2 hlk HCT HRE
      have HB19:=Lib.hid (HBW.out.trans (HB9.out.mono HBW.out.size))
      obtain⟨-,-,-,e3⟩:=(H.out.below HB19.out).cells
      have b0:w9.cell? ⟨w.heap.size,0,none⟩=some (.pointer (some ⟨sb,0,none⟩)):=(HB9.out.cell (p:=⟨w.heap.size,0,none⟩) (by have:=HKP.out.size;simp only;omega)).trans ((HKP.out.cell (p:=⟨w.heap.size,0,none⟩) (by simp only;omega) (by simp only;omega)).trans HC0.out)
      have hbx:Boxed w9 (w.heap.size+2) 4 (.bool false):=(HB9.out.block _ (heap_lt HBX2.out)).trans HBX2.out
      have HBX9:=Lib.hid hbx
      have r1:=hbx.cell
      have r2:=hbx.frozen
      clear hbx
      have HKR9:=Lib.hid (KeepsRec.of_below HB9.out)
      have HK9:=Lib.hid (HK.out.trans (KpC.of_below HB9.out))
      have HKP9:=Lib.hid (HKP.out.trans (O:=fun g=>g=w.heap.size+3) (Kept.of_below HB9.out) (fun _ _ h=>h))
      have HM9:=Lib.hid (HM.out.below HB9.out)
      by_cases hbad:R<1∨(cs.length:Int)<R
      ·have hks:Kept (fun g=>g=w.heap.size+2) w9 (w9.setCell ⟨w.heap.size+2,0,none⟩ (.bool true)):=(Kept.refl _ _).setCell _ _ rfl
       have HF:=Lib.hid (show KeepsRec W' (w9.setCell ⟨w.heap.size+2,0,none⟩ (.bool true))∧OpX W7 (w.heap.size+3) (w.heap.size+2) (pre++ [x]) (w9.setCell ⟨w.heap.size+2,0,none⟩ (.bool true))∧True from
        ⟨HKR9.out.trans (KeepsRec.of_kept hks (fun g o e ho=>.inl (by
         subst e
         have h2:w9.heap[w.heap.size+2]? =_:=HBX9.out
         rw[h2]at ho
         cases ho
         rfl))),⟨HBX9.out.set (.bool true),(HKP9.out.mono (fun i _ h=>.inl h)).trans hks (fun i _ h=>.inr h)⟩,trivial⟩)
       clear hks
       by_cases h1:R<1
       ·have q1:decide (R<1)=true:=decide_eq_true h1
        clear h1 hbad
        gi_wp2_with fail
        exact HF.out
       ·have q1:decide (R<1)=false:=decide_eq_false h1
        have q2:decide ((cs.length:Int)<R)=true:=decide_eq_true (by omega)
        clear h1 hbad
        gi_wp2_with fail
        exact HF.out
      ·have q1:decide (R<1)=false:=decide_eq_false (by omega)
       have q2:decide ((cs.length:Int)<R)=false:=decide_eq_false (by omega)
       obtain⟨i,hi⟩: ∃i:Nat,R=(i:Int)+1:=⟨(R-1).toNat,by omega⟩
       obtain⟨d,hd⟩:=getElem_of (show i<cs.length by omega)
       have q3:IntKind.i64.wrap (R-1)=(i:Int):=by rw[IntWalk.i64_in _ (by omega)];omega
       have q4:(i:Int)<(cs.length:Int):=by omega
       have q5:i<cs.length:=by omega
       have hO3:=HO2.out
       rw[if_neg hbad,show(R-1).toNat=i by omega,show cs.getD i []=d by rw[List.getD_eq_getElem?_getD,hd];rfl]at hO3
       have HO3:=Lib.hid hO3
       have hdl:=(h6.2 d (List.mem_of_getElem? hd)).1
       obtain⟨g0,o0,u1,hA0,hg0,_,hd0,hu1⟩:=HUX.out i d hd
       simp only[Option.some.injEq,Addr.mk.injEq,and_true]at hA0
       obtain⟨rfl,rfl⟩:=hA0
       have d9:w9.cell? ⟨ga,oa+i,none⟩=some u1:=(HB19.out.cell (p:=⟨ga,oa+i,none⟩) hg0).trans hd0
       have HU1:=Lib.hid (hu1.below HB19.out)
       obtain⟨A1,c1,rfl,_⟩:=hu1
       clear hbad hi hd hO3 hd0 HO2 r1 r2
       gi_wp2_with fail
       clear b0 e3 d9 q1 q2 q3 q4
       gi_loopw [93] (fun iv wr=> ∃(j:Nat),j≤d.length∧iv= .int .i64 j∧Hid (MapAt wr (w.heap.size+3) (k+j) (metF (ms++varsI (d.take j))))∧Hid (Kept (fun g=>g=w.heap.size+3) w9 wr)) (fun iv _=>d.length-(intOf iv).toNat)
       case atStart=>exact⟨0,Nat.zero_le _,rfl,Lib.hid (by simpa [varsI] using HM9.out),Lib.hid (Kept.refl _ _)⟩
       case round=>
        obtain⟨j,hj,rfl,HM,HW⟩:=hrel
        by_cases hlt:j<d.length
        ·obtain⟨x,hxj⟩:=getElem_of hlt
         obtain⟨A',c',hAc,_,_,hxs⟩:=HU1.out
         simp only[Value.slice.injEq,true_and]at hAc
         obtain⟨rfl,rfl⟩:=hAc
         obtain⟨g,o,rfl,hg,hgo,e0⟩:=hxs j x hxj
         have hgm:g≠w.heap.size+3:=fun e=>by have:=hgo.2;omega
         have d1:wr.cell? ⟨g,o+j,none⟩=some (.int .i64 x):=(HW.out.cell (p:=⟨g,o+j,none⟩) hg hgm).trans e0
         have E1:=Lib.hid (show wr.cell? ⟨w.heap.size+4,0,none⟩=some (.map (some (w.heap.size+3)))from((HKP9.out.trans (O:=fun g=>g=w.heap.size+3) HW.out (fun _ _ h=>h)).cell (p:=⟨w.heap.size+4,0,none⟩) (by simp only;omega) (by simp only;omega)).trans HCM.out)
         have HV1:=Lib.hid (fun W=>lit_var x W)
         have HTK:=Lib.hid (show varsI (d.take (j+1))=varsI (d.take j)++ [((litV x:Nat):Int)]from by
          unfold varsI
          rw[List.take_add_one,hxj]
          simp)
         have HWX:=Lib.hid (show(Lit.int .i64 ((litV x:Nat):Int)).wf=true from by
          have:=litV_le x
          exact wf64 (by omega) (by omega))
         clear hxj hxs hgo e0
         gi_wp2
         refine wpIn_round_sink (fun w'=>w'=wr.drew) (by kernel_rfl) rfl (by kernel_rfl) (by kernel_rfl) (fun⟨_,_,h⟩=>h) rfl (fun hS=>?_)
         simp only[List.dropLast]
         obtain⟨wD,hwD⟩: ∃q,wr.drew=q:=⟨_,rfl⟩
         have hD:Below wr.heap.size wr wD:=by rw[←hwD];exact mx_drew wr
         rw[hwD]at hS⊢
         have E2:=Lib.hid ((hD.cell (p:=⟨w.heap.size+4,0,none⟩) (World.block_lt_of_cell? wr _ E1.out)).trans E1.out)
         have HMD:=Lib.hid (HM.out.below hD)
         have HKD:=Lib.hid (HW.out.trans (O:=fun g=>g=w.heap.size+3) (Kept.of_below hD) (fun _ _ h=>h))
         clear hwD hD d1
         refine takeF 0 97 (fun wq hSw=>show wq.cell? ⟨w.heap.size+4,0,none⟩=some (.map (some (w.heap.size+3)))from by rw[hSw];exact E2.out) ?_
         refine takeE 1 98 ?_
         refine ready1 2 (fun K hK=>?_)
         go_simp
         refine(HV1.out wD).mono ?_
         rintro e w' ⟨rfl,rfl⟩
         refine hK.out _ _ hS (fun _=>?_)
         clear hK
         refine wpAnyH_done (by kernel_rfl) ?_ _
         refine lastPost_normal ?_
         refine wpOp_step rfl (fun K hK=>?_)
         rw[if_pos (by rfl)]
         refine op_put HMD.out _ _ _ rfl rfl (by unfold maxLen;omega) (litV x:Nat) 1 rfl rfl HWX.out rfl (fun w4 hm4 hg4=>hK _ _ ?_)
         have HM4:=Lib.hid (show MapAt w4 (w.heap.size+3) (k+(j+1)) (metF (ms++varsI (d.take (j+1))))from by
          rw[HTK.out,←List.append_assoc,←metF_put]
          exact hm4)
         have HK4:=Lib.hid (HKD.out.trans (O:=fun g=>g=w.heap.size+3) (Kept.grown hg4) (fun i _ e=>Option.some.inj e))
         clear hK hm4 hg4 hS
         gi_wp2
         go_roundw
         case rel=>exact⟨j+1,by omega,by go_num,HM4,HK4⟩
         case measure=>simp[intOf];omega
        ·obtain rfl:j=d.length:=by omega
         have HMF:=Lib.hid (show MapAt wr (w.heap.size+3) (k+d.length) (metF (ms++varsI d))from by simpa [List.take_length] using HM.out)
         have HFIN:=Lib.hid (show KeepsRec W' wr∧OpI W7 (w.heap.size+3) T cs c xs.reverse (pre++ [x]) wr∧BPost (fun g=>g=w.heap.size+3) x W wr from
          ⟨HKR9.out.trans (KeepsRec.of_kept HW.out (fun g o e ho=>.inr (by
           subst e
           obtain⟨D,⟨es,cl,hb,_⟩,_⟩:=HM9.out
           rw[hb]at ho
           cases ho
           rfl))),⟨⟨ms++varsI d,k+d.length,rest',HMF.out,by rw[hpl2];omega,HRS.out,HO3.out⟩,HKP9.out.trans (O:=fun g=>g=w.heap.size+3) HW.out (fun _ _ h=>h)⟩,KpC.trans HK9.out ⟨HW.out.os,HW.out.tape,HW.out.output,HW.out.size,fun i o ho hX _=>(HW.out.block i (heap_lt ho) hX).trans ho⟩⟩)
         gi_wp2
         exact HFIN.out
   case done=>
    rintro D zs W hD hS hi hDf
    exfalso
    obtain⟨ms,k,rest,-,-,h3,h4⟩:=hi.ex
    rw[show zs=xs.zipIdx.reverse from hS,List.map_reverse,List.zipIdx_map_fst]at h3
    have:rest= []:=by
     have:=congrArg List.length h3
     rw[List.length_append]at this
     exact List.eq_nil_of_length_eq_zero (by omega)
    rw[this]at h4
    cases h4
   case stop=>
    rintro D pre W hD hp hi hDf
    have HBB:=Lib.hid hi.box
    have HI:=Lib.hid (show Below w.heap.size w W from below_kept HB7.out hi.kept (fun i e=>by omega) (by omega))
    have HD:=Lib.hid hDf
    clear hi hDf
    gi_wp2
    refine⟨by simp,.inl ⟨_,_,rfl,run_takeDeferred HD.out,?_⟩⟩
    refine⟨_,res_bool6 rfl (boxed_grown HBB.out (grownBy_putObj' _ D _) (fun r e=>by cases e;exact⟨_,HD.out,rfl⟩)) _ rfl,rfl,?_⟩
    exact HI.out.grown (grownBy_putObj' _ D _) HI.out.size (fun g e=>by cases e;omega)
end Go.Proofs.YtoojmhjagipmdaaGreat
