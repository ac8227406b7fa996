/- The trail: Value, Level, Reason, Place, Now, Len, At. The trail: Push, New. -/
import Derived.Test.YtoojmhjagipmdaaGreatV301
import Derived.Test.YtoojmhjagipmdaaGreatV300
namespace Go.Proofs.YtoojmhjagipmdaaGreat
open Go.RowKit
def Trl.level (T:Trl) (v:Int):Int:=match T.why v with
 | some s=>s.level
 | none=>0
def Trl.reason (T:Trl) (v:Int):Int:=match T.why v with
 | some s=>s.reason
 | none=>0
def Trl.place (T:Trl) (v:Int):Int:=match T.why v with
 | some s=>s.place
 | none=>0
theorem Trl.at_get {T:Trl} {v:Int} {s:TV} (h:T.at v=some s):T.vars[v.toNat]? =some s:=by
 unfold Trl.at at h
 split at h
 ·exact h
 ·cases h
set_option maxHeartbeats 1000000 in
theorem tr_value {O:Nat→Prop} (b:Nat) (T:Trl) (l:Int) (w:World) (h:TrAt O w b T):
  Calls Tryz.prog 35 #[.pointer (some ⟨b,0,none⟩),.int .i64 l] w fun e w'=>e= .returned (.int .i64 (T.val l))∧Below w.heap.size w w':=by
 obtain⟨hk,gv,cv,ov,sv,h⟩:=h
 have hst:=tr_state b T gv cv ov sv (litV l) w hk h
 have HV:=Lib.hid (lit_var l w)
 have HSG:=Lib.hid (fun W=>tr_sign l W)
 obtain⟨m,hm⟩: ∃m,litV l=m:=⟨_,rfl⟩
 obtain⟨g,hg⟩: ∃g,litS l=g:=⟨_,rfl⟩
 have hgv:=litS_abs l
 unfold Trl.val
 rw[hm]at hst HV⊢
 rw[hg]at hgv HSG⊢
 rcases hat:T.at (m:Int)with _|s
 ·rw[hat,stateVal_none]at hst
  have HST:=Lib.hid hst
  clear hst hat h hk hm hg
  go_enter Tryz.func35,Tryz.ntmps35
  go_wp2_with fail
  refine HV.out.mono ?_
  rintro e w' ⟨rfl,rfl⟩
  go_wp2_with fail
  refine HST.out.mono ?_
  rintro e w' ⟨rfl,rfl⟩
  go_wp2_with fail
  go_ret
  exact⟨rfl,Below.refl _ _⟩
 ·rw[hat,stateVal_some]at hst
  have hget:=Trl.at_get hat
  rw[Int.toNat_natCast]at hget hst
  obtain⟨_,_,_,c3⟩:=h.var hget
  have hval:=hk.each s (List.mem_of_getElem? hget)
  have hwr:IntKind.i64.wrap (s.value*g)=s.value*g:=IntWalk.i64_in _ (by rcases hval with e|e|e <;> rcases hgv with f|f <;> rw[e,f] <;> omega)
  have HST:=Lib.hid hst
  clear hst hat hget h hk hm hg hval hgv
  go_enter Tryz.func35,Tryz.ntmps35
  go_wp2_with fail
  refine HV.out.mono ?_
  rintro e w' ⟨rfl,rfl⟩
  go_wp2_with fail
  refine HST.out.mono ?_
  rintro e w' ⟨rfl,rfl⟩
  go_wp2_with fail
  refine wp_region_held_drew (S:=fun w'=>w'.cell? ⟨gv,m*4+3,none⟩=some (.int .i64 s.value)) (by kernel_rfl) c3 (fun hHeld=>?_)
  have hbD:=mx_drew w
  obtain⟨wD,hwD⟩: ∃x,w.drew=x:=⟨_,rfl⟩
  rw[hwD]at hHeld hbD⊢
  clear hwD c3
  refine takeF 0 16 (fun w hSw=>hSw) ?_
  refine takeF 1 17 (fun w hSw=>hSw) ?_
  refine takeF 2 18 (fun w hSw=>hSw) ?_
  refine takeF 3 19 (fun w hSw=>hSw) ?_
  refine takeF 4 20 (fun w hSw=>hSw) ?_
  refine ready1 5 (fun K hK=>?_)
  go_simp
  refine(HSG.out wD).mono ?_
  rintro e w' ⟨rfl,rfl⟩
  refine hK.out _ _ hHeld (fun hHeld1=>?_)
  clear hK hHeld1
  refine takeF 6 22 (fun w hSw=>hSw) ?_
  refine takeF 7 4 (fun w hSw=>hSw) ?_
  refine wpAnyH_done (by kernel_rfl) ?_ _
  go_wp2_with fail
  go_ret
  exact⟨rfl,hbD⟩
theorem mx_free {w:World} {b j:Nat} {cs:Array Value} {t:TypeId} (h:w.heap[b]? =some (.cells cs t (0,0))):w.frozen? ⟨b,j,none⟩=false:=by
 simp[World.frozen?,h]
theorem set3_below {b:Nat} {w W:World} (h:Below b w W) {g:Nat} (hg:b≤g) (v0 v1 v2:Value):Below b w (((W.setCell ⟨g,0,none⟩ v0).setCell ⟨g,1,none⟩ v1).setCell ⟨g,2,none⟩ v2):=
 ((h.setCell (p:=⟨g,0,none⟩) hg v0).setCell (p:=⟨g,1,none⟩) hg v1).setCell (p:=⟨g,2,none⟩) hg v2
def whyVal:Option TV→Value
 | some s=>.tuple #[.agg #[.int .i64 s.level,.int .i64 s.reason,.int .i64 s.place],.bool true]
 | none=>.tuple #[.agg #[.int .i64 0,.int .i64 0,.int .i64 0],.bool false]
set_option maxHeartbeats 1000000 in
theorem tr_why {O:Nat→Prop} (b:Nat) (T:Trl) (v:Int) (w:World) (h:TrAt O w b T):
  Calls Tryz.prog 57 #[.pointer (some ⟨b,0,none⟩),.int .i64 v] w fun e w'=>e= .returned (whyVal (T.why v))∧Below w.heap.size w w':=by
 obtain⟨wa,hwa⟩: ∃x,w.alloc (.cells #[.int .i64 0,.int .i64 0,.int .i64 0] 103)=x:=⟨_,rfl⟩
 have hba:Below w.heap.size w wa:=by rw[←hwa];exact mx_al _ _
 have hbn:wa.heap[w.heap.size]? =some (.cells #[.int .i64 0,.int .i64 0,.int .i64 0] 103 (0,0)):=by rw[←hwa];exact World.alloc_heap_new _ _
 have h:=h.below hba
 obtain⟨hk,gv,cv,ov,sv,h⟩:=h
 have hst:=tr_state b T gv cv ov sv v wa hk h
 have e0:wa.cell? ⟨w.heap.size,0,none⟩=some (.int .i64 0):=mx_cell (j:=0) hbn
 have e1:wa.cell? ⟨w.heap.size,1,none⟩=some (.int .i64 0):=mx_cell (j:=1) hbn
 have e2:wa.cell? ⟨w.heap.size,2,none⟩=some (.int .i64 0):=mx_cell (j:=2) hbn
 have f0:=mx_free (j:=0) hbn
 have f1:=mx_free (j:=1) hbn
 have f2:=mx_free (j:=2) hbn
 have HWA:=Lib.hid hwa
 have HBA:=Lib.hid hba
 clear hwa hba hbn
 unfold Trl.why
 rcases hat:T.at v with _|s
 ·rw[hat,stateVal_none]at hst
  have HST:=Lib.hid hst
  clear hst hat h hk
  go_enter Tryz.func57,Tryz.ntmps57
  go_wp2_with fail
  rw[HWA.out]
  refine HST.out.mono ?_
  rintro e w' ⟨rfl,rfl⟩
  go_wp2_with fail
  refine bodyPost_ret (v:=.tuple #[.agg #[.int .i64 0,.int .i64 0,.int .i64 0],.bool false]) (by simp[results,Tryz.results57,go_sem,e0,e1,e2]) rfl ⟨rfl,set3_below HBA.out (Nat.le_refl _) _ _ _⟩
 ·rw[hat,stateVal_some]at hst
  have hget:=Trl.at_get hat
  obtain⟨c0,c1,c2,c3⟩:=h.var hget
  obtain⟨n,hn⟩: ∃n,v.toNat=n:=⟨_,rfl⟩
  rw[hn]at hst c0 c1 c2 c3
  have HST:=Lib.hid hst
  clear hst hat hget h hk hn
  by_cases hz:s.value=0
  ·have q0:(s.value==0)=true:=by simpa using hz
   have HZ:=Lib.hid hz
   simp only[hz,if_true]
   clear hz
   go_enter Tryz.func57,Tryz.ntmps57
   go_wp2_with fail
   rw[HWA.out]
   refine HST.out.mono ?_
   rintro e w' ⟨rfl,rfl⟩
   go_wp2_with fail
   refine bodyPost_ret (v:=.tuple #[.agg #[.int .i64 0,.int .i64 0,.int .i64 0],.bool false]) (by simp[results,Tryz.results57,go_sem,e0,e1,e2]) rfl ⟨rfl,set3_below HBA.out (Nat.le_refl _) _ _ _⟩
  ·have q0:(s.value==0)=false:=by simpa using hz
   simp only[hz,if_false]
   have HZ:=Lib.hid hz
   clear hz
   go_enter Tryz.func57,Tryz.ntmps57
   go_wp2_with fail
   rw[HWA.out]
   refine HST.out.mono ?_
   rintro e w' ⟨rfl,rfl⟩
   go_wp2_with fail
   refine bodyPost_ret (v:=.tuple #[.agg #[.int .i64 s.level,.int .i64 s.reason,.int .i64 s.place],.bool true]) (by simp[results,Tryz.results57,go_sem,e0,e1,e2]) rfl ⟨rfl,set3_below HBA.out (Nat.le_refl _) _ _ _⟩
theorem tr_level {O:Nat→Prop} (b:Nat) (T:Trl) (v:Int) (w:World) (h:TrAt O w b T):
  Calls Tryz.prog 89 #[.pointer (some ⟨b,0,none⟩),.int .i64 v] w fun e w'=>e= .returned (.tuple #[.int .i64 (T.level v),.bool (T.why v).isSome])∧Below w.heap.size w w':=by
 have hc:=tr_why b T v w h
 unfold Trl.level
 rcases hw:T.why v with _|s
 ·rw[hw,show whyVal none= .tuple #[.agg #[.int .i64 0,.int .i64 0,.int .i64 0],.bool false]from rfl]at hc
  have HC:=Lib.hid hc
  clear hc hw
  go_enter Tryz.func89,Tryz.ntmps89
  go_wp2_with fail
  refine HC.out.mono ?_
  rintro e w' ⟨rfl,hb'⟩
  have HB':=Lib.hid hb'
  clear hb'
  go_wp2_with fail
  go_ret2
  exact⟨rfl,HB'.out.trans ((mx_al w' _).mono HB'.out.size)⟩
 ·rw[hw,show whyVal (some s)= .tuple #[.agg #[.int .i64 s.level,.int .i64 s.reason,.int .i64 s.place],.bool true]from rfl]at hc
  have HC:=Lib.hid hc
  clear hc hw
  go_enter Tryz.func89,Tryz.ntmps89
  go_wp2_with fail
  refine HC.out.mono ?_
  rintro e w' ⟨rfl,hb'⟩
  have HB':=Lib.hid hb'
  clear hb'
  go_wp2_with fail
  go_ret2
  exact⟨rfl,HB'.out.trans ((mx_al w' _).mono HB'.out.size)⟩
theorem tr_reason {O:Nat→Prop} (b:Nat) (T:Trl) (v:Int) (w:World) (h:TrAt O w b T):
  Calls Tryz.prog 16 #[.pointer (some ⟨b,0,none⟩),.int .i64 v] w fun e w'=>e= .returned (.tuple #[.int .i64 (T.reason v),.bool (T.why v).isSome])∧Below w.heap.size w w':=by
 have hc:=tr_why b T v w h
 unfold Trl.reason
 rcases hw:T.why v with _|s
 ·rw[hw,show whyVal none= .tuple #[.agg #[.int .i64 0,.int .i64 0,.int .i64 0],.bool false]from rfl]at hc
  have HC:=Lib.hid hc
  clear hc hw
  go_enter Tryz.func16,Tryz.ntmps16
  go_wp2_with fail
  refine HC.out.mono ?_
  rintro e w' ⟨rfl,hb'⟩
  have HB':=Lib.hid hb'
  clear hb'
  go_wp2_with fail
  go_ret2
  exact⟨rfl,HB'.out.trans ((mx_al w' _).mono HB'.out.size)⟩
 ·rw[hw,show whyVal (some s)= .tuple #[.agg #[.int .i64 s.level,.int .i64 s.reason,.int .i64 s.place],.bool true]from rfl]at hc
  have HC:=Lib.hid hc
  clear hc hw
  go_enter Tryz.func16,Tryz.ntmps16
  go_wp2_with fail
  refine HC.out.mono ?_
  rintro e w' ⟨rfl,hb'⟩
  have HB':=Lib.hid hb'
  clear hb'
  go_wp2_with fail
  go_ret2
  exact⟨rfl,HB'.out.trans ((mx_al w' _).mono HB'.out.size)⟩
theorem tr_place {O:Nat→Prop} (b:Nat) (T:Trl) (v:Int) (w:World) (h:TrAt O w b T):
  Calls Tryz.prog 90 #[.pointer (some ⟨b,0,none⟩),.int .i64 v] w fun e w'=>e= .returned (.tuple #[.int .i64 (T.place v),.bool (T.why v).isSome])∧Below w.heap.size w w':=by
 have hc:=tr_why b T v w h
 unfold Trl.place
 rcases hw:T.why v with _|s
 ·rw[hw,show whyVal none= .tuple #[.agg #[.int .i64 0,.int .i64 0,.int .i64 0],.bool false]from rfl]at hc
  have HC:=Lib.hid hc
  clear hc hw
  go_enter Tryz.func90,Tryz.ntmps90
  go_wp2_with fail
  refine HC.out.mono ?_
  rintro e w' ⟨rfl,hb'⟩
  have HB':=Lib.hid hb'
  clear hb'
  go_wp2_with fail
  go_ret2
  exact⟨rfl,HB'.out.trans ((mx_al w' _).mono HB'.out.size)⟩
 ·rw[hw,show whyVal (some s)= .tuple #[.agg #[.int .i64 s.level,.int .i64 s.reason,.int .i64 s.place],.bool true]from rfl]at hc
  have HC:=Lib.hid hc
  clear hc hw
  go_enter Tryz.func90,Tryz.ntmps90
  go_wp2_with fail
  refine HC.out.mono ?_
  rintro e w' ⟨rfl,hb'⟩
  have HB':=Lib.hid hb'
  clear hb'
  go_wp2_with fail
  go_ret2
  exact⟨rfl,HB'.out.trans ((mx_al w' _).mono HB'.out.size)⟩
theorem tr_now {O:Nat→Prop} (b:Nat) (T:Trl) (w:World) (h:TrAt O w b T):
  Calls Tryz.prog 36 #[.pointer (some ⟨b,0,none⟩)] w fun e w'=>e= .returned (.int .i64 ((T.starts.length:Int)-1))∧w=w':=by
 have HIS:=Lib.hid (tr_is b T w h)
 obtain⟨hk,gv,cv,ov,sv,h⟩:=h
 obtain⟨Ao,co,rfl,_⟩:=mx_slice h.order
 obtain⟨As,cs,rfl,_⟩:=mx_slice h.starts
 have c1:w.cell? ⟨b,2,none⟩=some (.slice As T.starts.length cs):=mx_cell (j:=2) h.block
 have hs:=hk.starts
 have ho:=hk.order
 clear h hk
 go_enter Tryz.func36,Tryz.ntmps36
 go_wp2_with fail
 refine HIS.out.mono ?_
 rintro e w' ⟨rfl,rfl⟩
 go_wp2_with fail
 go_ret
 exact⟨rfl,rfl⟩
theorem tr_len {O:Nat→Prop} (b:Nat) (T:Trl) (w:World) (h:TrAt O w b T):
  Calls Tryz.prog 55 #[.pointer (some ⟨b,0,none⟩)] w fun e w'=>e= .returned (.int .i64 (T.order.length:Int))∧w=w':=by
 have HIS:=Lib.hid (tr_is b T w h)
 obtain⟨hk,gv,cv,ov,sv,h⟩:=h
 obtain⟨Ao,co,rfl,_⟩:=mx_slice h.order
 obtain⟨As,cs,rfl,_⟩:=mx_slice h.starts
 have c1:w.cell? ⟨b,1,none⟩=some (.slice Ao T.order.length co):=mx_cell (j:=1) h.block
 have hs:=hk.starts
 have ho:=hk.order
 clear h hk
 go_enter Tryz.func55,Tryz.ntmps55
 go_wp2_with fail
 refine HIS.out.mono ?_
 rintro e w' ⟨rfl,rfl⟩
 go_wp2_with fail
 go_ret
 exact⟨rfl,rfl⟩
end Go.Proofs.YtoojmhjagipmdaaGreat
namespace Go.Proofs.YtoojmhjagipmdaaGreat
open Go.RowKit
theorem tinfo_int:(Tryz.prog.info? 3).map (fun i=>(i.zero,i.size,i.bytes))=some (some (.int .i64 0),1,8):=by kernel_rfl
theorem tinfo_lit:(Tryz.prog.info? 32).map (fun i=>(i.zero,i.size,i.bytes))=some (some (.int .i64 0),1,8):=by kernel_rfl
theorem mx_src (W:World) (e:TypeId) (xs:List Value):SrcAt (W.alloc (.cells xs.toArray e)) (.slice (some ⟨W.heap.size,0,none⟩) 1 1) 1 xs:=
 .inr ⟨_,_,rfl,fun j u hj=>cells_list_new W xs e j u hj⟩
def Trl.push (T:Trl):Trl:=⟨T.vars,T.order,T.starts++ [(T.order.length:Int)]⟩
def TrNext (O:Nat→Prop) (w w':World) (b:Nat) (T':Trl):Prop:=TrAt (fun g=>O g∨w.heap.size≤g∧g<w'.heap.size) w' b T'∧Kept O w w'
set_option maxRecDepth 100000 in
set_option maxHeartbeats 2000000 in
theorem tr_push {O:Nat→Prop} (b:Nat) (T:Trl) (w:World) (h:TrAt O w b T) (hn:T.starts.length<1048576):
  Calls Tryz.prog 53 #[.pointer (some ⟨b,0,none⟩)] w fun e w'=>e= .returned (.int .i64 0)∧TrNext O w w' b T.push:=by
 obtain⟨i0,hi0,hz0,hz1,hz2⟩:=info_parts tinfo_int
 have HIS:=Lib.hid (tr_is b T w h)
 obtain⟨hk,gv,cv,ov,sv,h⟩:=h
 have HK:=Lib.hid hk
 have HM:=Lib.hid h
 have ho:=hk.order
 obtain⟨Ao,co,rfl,_⟩:=mx_slice h.order
 obtain⟨As,cs,rfl,_⟩:=mx_slice h.starts
 have c1:w.cell? ⟨b,1,none⟩=some (.slice Ao T.order.length co):=mx_cell (j:=1) h.block
 have c2:w.cell? ⟨b,2,none⟩=some (.slice As T.starts.length cs):=mx_cell (j:=2) h.block
 have q13:decide ((1048576:Int)≤(T.starts.length:Int))=false:=by simp;omega
 have hbw:=heap_lt h.block
 clear h hk
 go_enter Tryz.func53,Tryz.ntmps53
 go_wp2_with fail
 refine HIS.out.mono ?_
 rintro e w' ⟨rfl,rfl⟩
 go_wp2_with fail
 refine wp_region_sink_at (S:=fun w'=>w'.cell? ⟨b,1,none⟩=some (.slice Ao T.order.length co)∧w'.cell? ⟨b,2,none⟩=some (.slice As T.starts.length cs)) (by kernel_rfl) rfl (by kernel_rfl) ⟨c1,c2⟩ (fun hHeld=>?_)
 obtain⟨wD,hwD⟩: ∃x,w.drew=x:=⟨_,rfl⟩
 have hbD:Below w.heap.size w wD:=by rw[←hwD];exact mx_drew w
 rw[hwD]at hHeld⊢
 have hzD:=hbD.size
 have HBD:=Lib.hid hbD
 clear hwD hbD c1 c2
 refine takeS 0 14 ?_
 refine takeS 1 15 ?_
 refine takeS 2 16 ?_
 refine takeS 3 17 ?_
 refine takeS 4 18 ?_
 refine takeS 5 19 ?_
 refine takeS 6 20 ?_
 refine takeS 7 21 ?_
 refine takeS 8 22 ?_
 refine takeS 9 23 ?_
 refine ready1 10 (fun K hK=>?_)
 go_simp
 obtain⟨wN,hwN⟩: ∃x,wD.alloc (.cells #[.int .i64 (T.order.length:Int)] 3)=x:=⟨_,rfl⟩
 have hbN:Below wD.heap.size wD wN:=by rw[←hwN];exact mx_al _ _
 have hsrc:=mx_src wD 3 [.int .i64 (T.order.length:Int)]
 have hzN:wN.heap.size=wD.heap.size+1:=by rw[←hwN];simp
 rw[hwN]at hsrc
 rw[hwN]
 have HSRC:=Lib.hid hsrc
 have HBN:=Lib.hid (HBD.out.trans (hbN.mono HBD.out.size))
 refine hK.out _ _ ⟨(hbN.cell (p:=⟨b,1,none⟩) (by show b<_;omega)).trans hHeld.1,(hbN.cell (p:=⟨b,2,none⟩) (by show b<_;omega)).trans hHeld.2⟩ (fun hHeld1=>?_)
 have hzN1:=hbN.size
 clear hK hHeld hbN hsrc hwN hzN
 have hHeld:=hHeld1
 clear hHeld1
 refine ready1 11 (fun K hK=>?_)
 rw[if_pos (by rfl)]
 refine wp_append_any_at 25 (by rfl) _ _ 63 rfl 0 3 i0 (.int .i64 0) 1 8 Tryz.underlying63 hi0 hz0 hz1 hz2 rfl (by decide) _ T.starts.length _ (by rfl) (own_below HM.out.starts HBN.out) (.slice (some ⟨wD.heap.size,0,none⟩) 1 1) 1 [.int .i64 (T.order.length:Int)] (by rfl) HSRC.out rfl (by simp[Value.oneCell']) (by unfold maxLen;omega) (by omega) (Nat.zero_le _) ?_
 intro v' w1 hown hgrow hat
 obtain⟨Ax,kx,rfl,_⟩:=mx_slice hown
 have hkg:Kept (fun g=>g=b∨(Value.slice As T.starts.length cs).ownBlock=some g) w w1:=(Kept.of_below HBN.out).trans (Kept.grown hgrow) (fun i hi e=>.inr e.symm)
 have hnb:(Value.slice As T.starts.length cs).ownBlock≠some b:=mx_not HM.out.starts HM.out.block (by decide)
 have hkb:Kept (fun g=>(Value.slice As T.starts.length cs).ownBlock=some g) w w1:=(Kept.of_below HBN.out).trans (Kept.grown hgrow) (fun i hi e=>e.symm)
 have hz1':=hgrow.size
 have HOX:=Lib.hid hown
 have HKG:=Lib.hid hkg
 have HKB:=Lib.hid hkb
 have HNB:=Lib.hid hnb
 have HAT:=Lib.hid (show(Value.slice Ax (T.starts.length+1) kx).ownBlock=(Value.slice As T.starts.length cs).ownBlock∨(Value.slice Ax (T.starts.length+1) kx).ownBlock=some wN.heap.size from hat)
 refine hK.out _ _ ⟨(hkb.cell (p:=⟨b,1,none⟩) hbw hnb).trans (mx_cell (j:=1) HM.out.block),(hkb.cell (p:=⟨b,2,none⟩) hbw hnb).trans (mx_cell (j:=2) HM.out.block)⟩ (fun hHeld1=>?_)
 clear hK hHeld hown hgrow hat hkg hkb hnb
 refine takeS 12 26 ?_
 refine takeS 13 27 ?_
 refine wpAnyH_done (by kernel_rfl) ?_ _
 refine lastPost_normal ?_
 obtain⟨z0,z1⟩:=hHeld1
 have hblk:=(HKB.out.block b hbw HNB.out).trans HM.out.block
 have fr2:=mx_free (j:=2) hblk
 have HBLK:=Lib.hid hblk
 clear hblk
 refine wpOp_step rfl (fun K hK=>?_)
 go_simp
 refine hK _ _ ?_
 clear hK z0 z1 fr2
 obtain⟨wf,hwf⟩: ∃x,w1.setCell ⟨b,2,none⟩ (.slice Ax (T.starts.length+1) kx)=x:=⟨_,rfl⟩
 have hkf:Kept (fun g=>g=b) w1 wf:=by rw[←hwf];exact(Kept.refl (fun g=>g=b) w1).setCell ⟨b,2,none⟩ _ rfl
 have hbf:wf.heap[b]? =some (.cells #[.slice (some ⟨gv,0,none⟩) T.vars.length cv,.slice Ao T.order.length co,.slice Ax (T.starts.length+1) kx,.bool true] 153 (0,0)):=by rw[←hwf];exact mx_set HBLK.out _ (j:=2)
 rw[hwf]
 have HKF:=Lib.hid hkf
 have HBF:=Lib.hid hbf
 clear hwf hkf hbf
 go_wp2_with fail
 go_ret
 have hall:Kept (fun g=>g=b∨(Value.slice As T.starts.length cs).ownBlock=some g) w wf:=HKG.out.trans HKF.out (fun i hi e=>.inl e)
 have hsz:=hall.size
 have hnx:(Value.slice Ax (T.starts.length+1) kx).ownBlock≠some b:=by
  obtain⟨cb,hcb⟩: ∃cb,w1.heap[b]? =some (.cells cb 153 (0,0)):=⟨_,HBLK.out⟩
  exact mx_not HOX.out hcb (by decide)
 refine⟨rfl,⟨⟨HK.out.vars,HK.out.order,?_,HK.out.each⟩,gv,cv,.slice Ao T.order.length co,.slice Ax (T.starts.length+1) kx,⟨?_,.inl HM.out.inb,.inl HM.out.invs,?_,?_,?_,fun g hg=>.inl (HM.out.orderb g hg),?_,?_⟩⟩,hall.mono (fun g hg e=>?_)⟩
 ·show 1≤(T.starts++ [_]).length∧(T.starts++ [_]).length≤1048576
  rw[List.length_append,List.length_singleton]
  omega
 ·intro g hg
  rcases hg with hg|hg
  ·exact Nat.lt_of_lt_of_le (HM.out.own g hg) hsz
  ·exact hg.2
 ·show wf.heap[b]? =some (.cells #[_,.slice Ao T.order.length co,.slice Ax (T.starts.length+1) kx,.bool true] 153 (0,0))
  exact HBF.out
 ·refine own_kept HM.out.vars hall (fun g hg e=>?_)
  rcases e with e|e
  ·subst e
   exact mx_not HM.out.vars HM.out.block (by decide) hg
  ·exact mx_apart HM.out.vars HM.out.starts (by decide) hg e
 ·refine own_kept HM.out.order hall (fun g hg e=>?_)
  rcases e with e|e
  ·subst e
   exact mx_not HM.out.order HM.out.block (by decide) hg
  ·exact mx_apart HM.out.order HM.out.starts (by decide) hg e
 ·have hx:=own_kept HOX.out HKF.out (fun g hg e=>by
   subst e
   exact hnx hg)
  show wf.ownsRow 0 3 1 (.slice Ax (T.starts.length+1) kx) (T.starts++ [_]).length ((T.starts++ [_]).map _)
  rw[List.length_append,List.map_append]
  exact hx
 ·intro g hg
  have h1:=(own_lt HOX.out g hg).2
  rcases Nat.lt_or_ge g w.heap.size with h2|h2
  ·rcases HAT.out with h3|h3
   ·exact .inl (HM.out.startsb g (h3▸hg))
   ·rw[hg]at h3
    have:=Option.some.inj h3
    omega
  ·exact .inr ⟨h2,Nat.lt_of_lt_of_le h1 HKF.out.size⟩
 ·rcases e with e|e
  ·rw[e]
   exact HM.out.inb
  ·exact HM.out.startsb g e
end Go.Proofs.YtoojmhjagipmdaaGreat
