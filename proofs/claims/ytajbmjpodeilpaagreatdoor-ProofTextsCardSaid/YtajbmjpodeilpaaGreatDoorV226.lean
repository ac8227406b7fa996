/- salvorlaw02.Ints, salvorlaw08.Ints; salvorlaw07.Equal at any equal steps. salvorlaw05.Theirs: a formula for the reference. Reference of layer 10: clausesOf; of layer 8: Clauses, follow, Check. Reference of layer 8: without. Reference of layer 8: Trim. Steps and entries of the reference in rows of their own; salvorlaw07.Theirs, salvorlaw09.Theirs. package salvorlaw10: entries, is. package proof: Check, at a right formula. -/
import Derived.Test.YtajbmjpodeilpaaGreatDoorV204
import Derived.Test.YtajbmjpodeilpaaGreatDoorV203
import Derived.Test.YtajbmjpodeilpaaGreatDoorV225
import Derived.Test.YtajbmjpodeilpaaGreatDoorV216
import Derived.Test.YtajbmjpodeilpaaGreatDoorV205
import Derived.Test.YtajbmjpodeilpaaGreatDoorV217
import Derived.Test.YtajbmjpodeilpaaGreatDoorV223
import Derived.Test.YtajbmjpodeilpaaGreatDoorV212
namespace Go.Proofs.YtajbmjpodeilpaaGreatDoor
open Go.RowKit
theorem qinfo_int:(Tryz.prog.info? 3).map (fun i=>(i.zero,i.size,i.bytes))=some (some (.int .i64 0),1,8):=by kernel_rfl
set_option maxRecDepth 100000 in
set_option maxHeartbeats 1000000 in
theorem ints02 {O:Nat→Prop} (u:Value) (xs:List Int) (w:World) (h1:IntsIn O w u xs) (hs:xs.length≤1000000):
  Calls Tryz.prog 47 #[u] w fun e w'=> ∃v,e= .returned v∧w'.ownsRow w.heap.size 3 1 v xs.length (xs.map (Value.int .i64))∧Below w.heap.size w w':=by
 obtain⟨i0,hi,hz0,hz1,hz2⟩:=info_parts qinfo_int
 obtain⟨A,c,rfl,hc,_,hx⟩:=h1
 have HX:=Lib.hid hx
 clear hx
 go_enter Tryz.func47,Tryz.ntmps47
 go_wp2_with fail
 go_loopw [3,8] (fun t i wr=> ∃k:Nat,k≤xs.length∧i= .int .i64 k∧Hid (wr.ownsRow w.heap.size 3 1 t k ((xs.take k).map (Value.int .i64)))∧Hid (Below w.heap.size w wr)) (fun _ i _=>xs.length-(intOf i).toNat)
 case atStart=>exact⟨0,Nat.zero_le _,rfl,Lib.hid (World.ownsRow_nil _ _ _ _),Lib.hid (Below.refl _ _)⟩
 case round=>
  obtain⟨k,hk,rfl,HV,HW⟩:=hrel
  have hzw:=HW.out.size
  obtain⟨Av,cv,hv,_⟩:=mx_slice HV.out
  subst hv
  by_cases hlt:k<xs.length
  ·obtain⟨x,hxk⟩:=getElem_of hlt
   obtain⟨g,o,rfl,hg,_,d0⟩:=HX.out k x hxk
   have d1:=(HW.out.cell (p:=⟨g,o+k,none⟩) hg).trans d0
   have hnx:(xs.take (k+1)).map (Value.int .i64)=(xs.take k).map (Value.int .i64)++ [.int .i64 x]:=by rw[List.take_add_one,hxk];simp
   have HNX:=Lib.hid hnx
   obtain⟨XS,hXS⟩: ∃XS,(xs.take k).map (Value.int .i64)=XS:=⟨_,rfl⟩
   rw[hXS]at HV HNX
   clear hXS hnx hxk d0
   go_wp2_with (at_builtin;refine wpList_append_own_at _ rfl _ _ 31 rfl w.heap.size 3 i0 (.int .i64 0) 1 8 Tryz.underlying31 hi hz0 hz1 hz2 rfl (by decide) _ k _ rfl (own_below HV.out (mx_al wr _)) ⟨wr.heap.size,0,none⟩ 1 1 [.int .i64 x] rfl rfl (cell_one_new' _ _ _) (by simp[Value.oneCell']) (by unfold maxLen;omega) (by omega) (by simp;omega) ?_;intro v' w1 hown hgrow hnl hat;obtain⟨Aw,kw,hv2,_⟩:=mx_slice hown;subst hv2;have HOWN:=Lib.hid hown;have HG:=Lib.hid hgrow;clear hown hgrow hnl hat)
   have hw1:Below w.heap.size w w1:=(HW.out.trans ((mx_al wr (.cells #[.int .i64 x] 3)).mono hzw)).grown HG.out (by simp;omega) (fun g hg=>(own_lt HV.out g hg).1)
   go_roundw
   case rel=>exact⟨k+1,by omega,by go_num,Lib.hid (by rw[HNX.out];exact HOWN.out),Lib.hid hw1⟩
   case measure=>simp[intOf];omega
  ·obtain rfl:k=xs.length:=by omega
   rw[List.take_length]at HV
   go_wp2_with fail
   go_ret
   exact⟨_,rfl,HV.out,HW.out⟩
end Go.Proofs.YtajbmjpodeilpaaGreatDoor
namespace Go.Proofs.YtajbmjpodeilpaaGreatDoor
open Go.RowKit
def LstOwn (n:Nat) (w:World) (v:Value) (cs:List (List Int)):Prop:=
 ∃us:List Value,w.ownsRow n 31 1 v cs.length us∧∀(i:Nat) (xs:List Int),cs[i]? =some xs→∃u,us[i]? =some u∧w.ownsRow n 3 1 u xs.length (xs.map (Value.int .i64))
theorem LstOwn.kept {O:Nat→Prop} {n:Nat} {w w':World} {v:Value} {cs:List (List Int)} (h:LstOwn n w v cs) (k:Kept O w w') (hO: ∀g,n≤g→¬O g):LstOwn n w' v cs:=by
 obtain⟨us,h1,h2⟩:=h
 refine⟨us,own_kept h1 k (fun g hg=>hO g (own_lt h1 g hg).1),fun i xs hi=>?_⟩
 obtain⟨u,hu,ho⟩:=h2 i xs hi
 exact⟨u,hu,own_kept ho k (fun g hg=>hO g (own_lt ho g hg).1)⟩
theorem LstOwn.below {n:Nat} {w w':World} {v:Value} {cs:List (List Int)} (h:LstOwn n w v cs) (hb:Below w.heap.size w w'):LstOwn n w' v cs:=
 h.kept (O:=fun _=>False) (Kept.of_below hb) (fun _ _ h=>h)
theorem LstOwn.clsIn {n:Nat} {w:World} {v:Value} {cs:List (List Int)} (h:LstOwn n w v cs):ClsIn (fun g=>n≤g) w v cs:=by
 obtain⟨us,h1,h2⟩:=h
 rcases h1.2 with⟨rfl,h0⟩|⟨g,cap,cur,rfl,hb,hg,hle,_⟩
 ·exact⟨none,0,by rw[h0],by omega,fun _=>rfl,fun i xs hi=>by
   have:=(List.getElem?_eq_some_iff.1 hi).1
   omega⟩
 ·refine⟨_,cap,rfl,hle,(fun h=>by cases h),fun i xs hi=>?_⟩
  obtain⟨u,hu,ho⟩:=h2 i xs hi
  exact⟨g,0,u,rfl,heap_lt hg,hb,by rw[Nat.zero_add];exact mx_at h1 hu,(IntsIn.of_own ho).mono (fun g hg=>(own_lt ho g hg.2).1)⟩
theorem info_lst:(Tryz.prog.info? 31).map (fun i=>(i.zero,i.size,i.bytes))=some (some (.slice none 0 0),1,24):=by kernel_rfl
theorem LstOwn.push {n:Nat} {w w1 w2:World} {v v' u:Value} {cs:List (List Int)} {xs:List Int} {us:List Value} (h1:w.ownsRow n 31 1 v cs.length us) (h2: ∀(i:Nat) (xs:List Int),cs[i]? =some xs→∃u,us[i]? =some u∧w.ownsRow n 3 1 u xs.length (xs.map (Value.int .i64)))
  (hb:Below w.heap.size w w1) (hu:w1.ownsRow n 3 1 u xs.length (xs.map (Value.int .i64))) (hg:w1.grownBy w2 v.ownBlock) (ho:w2.ownsRow n 31 1 v' (cs.length+1) (us++ [u])):LstOwn n w2 v' (cs++ [xs]):=by
 have hlu:us.length=cs.length:=by
  have:=h1.1
  omega
 have hk: ∀{u:Value} {ys:List Int},w1.ownsRow n 3 1 u ys.length (ys.map (Value.int .i64))→w2.ownsRow n 3 1 u ys.length (ys.map (Value.int .i64)):=fun hu=>own_kept hu (Kept.grown hg) (fun g hg e=>mx_apart hu (own_below h1 hb) (by decide) hg e.symm)
 refine⟨us++ [u],by rw[List.length_append];exact ho,fun i ys hi=>?_⟩
 by_cases hil:i<cs.length
 ·rw[List.getElem?_append_left hil]at hi
  obtain⟨z,hz,hzo⟩:=h2 i ys hi
  exact⟨z,by rw[List.getElem?_append_left (by omega)];exact hz,hk (own_below hzo hb)⟩
 ·have hi2:=(List.getElem?_eq_some_iff.1 hi).1
  rw[List.length_append,List.length_singleton]at hi2
  obtain rfl:i=cs.length:=by omega
  rw[List.getElem?_append_right (Nat.le_refl _),Nat.sub_self,List.getElem?_cons_zero]at hi
  obtain rfl:=Option.some.inj hi
  refine⟨u,?_,hk hu⟩
  rw[List.getElem?_append_right (by omega),hlu,Nat.sub_self,List.getElem?_cons_zero]
theorem free_of5 {w:World} {b j:Nat} {cs:Array Value} {t:TypeId} (h:w.heap[b]? =some (.cells cs t (0,0))):w.frozen? ⟨b,j,none⟩=false:=by
 simp[World.frozen?,h]
theorem two_set5 {W:World} {r:Nat} {z0 z1:Value} {t:TypeId} (h:W.heap[r]? =some (.cells #[z0,z1] t (0,0))) (c0 c1:Value): ∃WF,(W.setCell ⟨r,0,none⟩ c0).setCell ⟨r,1,none⟩ c1=WF∧WF.heap[r]? =some (.cells #[c0,c1] t (0,0))∧Kept (fun g=>g=r) W WF:=
 ⟨_,rfl,mx_set (mx_set h (j:=0) c0) (j:=1) c1,((Kept.refl (fun g=>g=r) W).setCell ⟨r,0,none⟩ _ rfl).setCell ⟨r,1,none⟩ _ rfl⟩
theorem res_two5 {fn:Func} {s:Nat} (h:fn.results= #[.cell s 54]) {w:World} {r:Nat} {c0 c1:Value} {t:TypeId} (h6:w.heap[r]? =some (.cells #[c0,c1] t (0,0)))
  (tmps:Array Value) (t6:tmps[s]?.getD undef= .pointer (some ⟨r,0,none⟩)):
  (results fn tmps).run Tryz.prog w= .ok (.agg #[c0,c1]) w:=by
 have p0:=mx_cell (j:=0) h6
 have p1:=mx_cell (j:=1) h6
 simp at p0 p1
 simp[results,h,go_sem,t6,p0,p1]
set_option maxRecDepth 100000 in
set_option maxHeartbeats 4000000 in
theorem theirs_05 {O:Nat→Prop} (vn:Int) (u:Value) (cs:List (List Int)) (w:World) (h:ClsIn O w u cs) (hl:cs.length≤1000000) (hcl: ∀c∈cs,c.length≤1000000):
  Calls Tryz.prog 20 #[.agg #[.int .i64 vn,u]] w fun e w'=> ∃v,e= .returned (.agg #[.int .i64 vn,v])∧LstOwn w.heap.size w' v cs∧Below w.heap.size w w':=by
 obtain⟨i0,hi,hz0,hz1,hz2⟩:=info_parts info_lst
 have HC:=Lib.hid h
 have HCL:=Lib.hid hcl
 obtain⟨A,c,rfl,hc,_⟩:=h
 obtain⟨W1,hW1,hb1,hx1,hz1'⟩:=al_new w #[.int .i64 vn,.slice A cs.length c] 24
 obtain⟨W2,hW2,hb2,hx2,hz2'⟩:=al_new W1 #[.int .i64 0,.slice none 0 0] 54
 rw[hz1']at hx2
 have hx1':=(hb2.block _ (heap_lt hx1)).trans hx1
 have HW1:=Lib.hid hW1
 have HW2:=Lib.hid hW2
 clear hcl hW1 hW2
 go_enter Tryz.func20,Tryz.ntmps20
 go_upto_region 1 with fail
 rw[HW1.out,HW2.out]
 have b0:=mx_cell (j:=0) hx1'
 have b1:=mx_cell (j:=1) hx1'
 obtain⟨W3,hW3,hb3,hx3,hz3'⟩:=al_new W2 #[.int .i64 vn,.slice none 0 0] 54
 rw[hz2',hz1']at hx3
 have hx13:=(hb3.block _ (heap_lt hx1')).trans hx1'
 have hx23:=(hb3.block _ (heap_lt hx2)).trans hx2
 have HW3:=Lib.hid hW3
 have HX2:=Lib.hid hx23
 have HX3:=Lib.hid hx3
 have hz3:W3.heap.size=w.heap.size+1+1+1:=by omega
 have HB3:=Lib.hid (show Below w.heap.size w W3 from(hb1.trans (hb2.mono hb1.size)).trans (hb3.mono (by omega)))
 clear hW3
 go_upto_region 2 with fail
 rw[HW3.out]
 clear b0 b1
 have b1:=mx_cell (j:=1) hx13
 clear hb1 hb2 hb3 hx1 hx1' hx2 hx3 hx13 hx23 hz1' hz2' hz3' HW1 HW2 HW3
 go_wp2_with fail
 clear b1
 go_loopw [12] (fun iv wr=> ∃(k:Nat) (ov:Value),k≤cs.length∧iv= .int .i64 k∧Hid (wr.heap[w.heap.size+1+1]? =some (.cells #[.int .i64 vn,ov] 54 (0,0)))∧Hid (LstOwn W3.heap.size wr ov (cs.take k))∧Hid (Kept (fun g=>g=w.heap.size+1+1) W3 wr)) (fun iv _=>cs.length-(intOf iv).toNat)
 case atStart=>exact⟨0,.slice none 0 0,Nat.zero_le _,rfl,HX3,Lib.hid ⟨[],World.ownsRow_nil _ _ _ _,fun i xs h=>by simp at h⟩,Lib.hid (Kept.refl _ _)⟩
 case round=>
  obtain⟨k,ov,hk,rfl,HBX,HR,HK⟩:=hrel
  have hzr:=HK.out.size
  by_cases hlt:k<cs.length
  ·obtain⟨x,hxk⟩:=getElem_of hlt
   have HXL:=Lib.hid (HCL.out x (List.mem_of_getElem? hxk))
   obtain⟨A',c',hv,_,_,hx⟩:=HC.out
   simp only[Value.slice.injEq,true_and]at hv
   obtain⟨rfl,rfl⟩:=hv
   obtain⟨g,o,uv,rfl,hg,_,d0,hu⟩:=hx k x hxk
   have hkw:Kept (fun g=>w.heap.size≤g) w wr:=(Kept.of_below HB3.out).trans (HK.out.mono (O':=fun g=>w.heap.size≤g) (fun g _ e=>by omega)) (fun _ _ h=>h) |>.mono (fun _ _ h=>h)
   have hbw:Below w.heap.size w wr:=hkw.below (fun _ h=>h) (Nat.le_refl _)
   have d1:=(hbw.cell (p:=⟨g,o+k,none⟩) hg).trans d0
   have HM:=Lib.hid (fun(X:World) (hX:Below wr.heap.size wr X)=>ints02 uv x X ((hu.below hbw).below hX) HXL.out)
   obtain⟨us,h1,h2⟩:=HR.out
   have hlk:(cs.take k).length=k:=by rw[List.length_take];omega
   have HUS:=Lib.hid h1
   have HU2:=Lib.hid h2
   have HLK:=Lib.hid hlk
   rw[hlk]at h1
   obtain⟨Ao,co,rfl,_⟩:=mx_slice h1
   obtain⟨Au,cu,rfl,_⟩:=hu
   have HO1:=Lib.hid h1
   have HTK:=Lib.hid (show cs.take (k+1)=cs.take k++ [x]from by
    rw[List.take_add_one,hxk]
    rfl)
   have hbl:w.heap.size+1+1<wr.heap.size:=heap_lt HBX.out
   have HBC:=Lib.hid (show wr.cell? ⟨w.heap.size+1+1,1,none⟩=some (.slice Ao k co)from mx_cell (j:=1) HBX.out)
   clear h1 h2 hlk hxk d0 hx hkw hbw
   go_upto_region 5 with fail
   refine wp_region_sink_at (S:=fun w'=>w'.cell? ⟨w.heap.size+1+1,1,none⟩=some (.slice Ao k co)) (by kernel_rfl) rfl (by kernel_rfl) (((mx_drew wr).cell (p:=⟨w.heap.size+1+1,1,none⟩) hbl).trans HBC.out) (fun hS=>?_)
   have hbD:=mx_drew wr
   obtain⟨xD,hxD⟩: ∃z,wr.drew=z:=⟨_,rfl⟩
   rw[hxD]at hS hbD⊢
   clear hxD
   refine takeE 0 16 ?_
   refine takeS 1 17 ?_
   refine takeE 2 18 ?_
   refine ready1 3 (fun K hK=>?_)
   go_simp
   refine(HM.out _ hbD).mono ?_
   rintro e w1 ⟨vx,rfl,hox,hb1⟩
   obtain⟨Ax,cx,rfl,_⟩:=mx_slice hox
   have hbr1:=hbD.trans (hb1.mono hbD.size)
   refine hK.out _ _ ((hbr1.cell (p:=⟨w.heap.size+1+1,1,none⟩) hbl).trans HBC.out) (fun _=>?_)
   clear hK
   refine ready1 4 (fun K hK=>?_)
   go_simp
   obtain⟨w2,hw2,hb2,-,hzw2⟩:=al_new w1 #[.slice Ax x.length cx] 31
   rw[hw2]
   have hbr2:=hbr1.trans (hb2.mono hbr1.size)
   refine hK.out _ _ ((hbr2.cell (p:=⟨w.heap.size+1+1,1,none⟩) hbl).trans HBC.out) (fun _=>?_)
   clear hK
   have hwz1:=hbr1.size
   have hwz2:=hbr2.size
   refine ready1 5 (fun K hK=>?_)
   rw[if_pos (by rfl)]
   refine wp_append_at 21 (by rfl) _ _ 32 rfl W3.heap.size 31 i0 (.slice none 0 0) 1 24 Tryz.underlying32 hi hz0 hz1 hz2 rfl (by decide) _ k _ (by rfl) (own_below HO1.out hbr2) ⟨w1.heap.size,0,none⟩ 1 1 [.slice Ax x.length cx] (by rfl) rfl (by rw[←hw2];exact cell_one_new' _ _ _) (by simp[Value.oneCell']) (by unfold maxLen;omega) (by omega) (by omega) ?_
   intro v' w4 hown hgrow hat
   obtain⟨Av,cv,rfl,_⟩:=mx_slice hown
   have hgk:=Kept.grown hgrow
   have hblk:=(hgk.block (w.heap.size+1+1) (Nat.lt_of_lt_of_le hbl hwz2) (fun e=>mx_not HO1.out HBX.out (by decide) e.symm)).trans ((hbr2.block _ hbl).trans HBX.out)
   have HBK:=Lib.hid hblk
   have hpush:=LstOwn.push HUS.out HU2.out hbr2 (own_below (own_mono hox (by have:=hbD.size;omega)) hb2) hgrow (by rw[HLK.out];exact hown)
   rw[←HTK.out]at hpush
   have HP:=Lib.hid hpush
   have HK4:=Lib.hid (show Kept (fun g=>g=w.heap.size+1+1) W3 w4 from(HK.out.trans (Kept.of_below hbr2) (fun _ _ h=>h)).trans hgk (fun i hi e=>by
    have:=(own_lt HO1.out i e.symm).1
    omega))
   refine hK.out _ _ (mx_cell (j:=1) hblk) (fun _=>?_)
   clear hK hown hgrow hat hgk hblk hpush hox hb1 hb2 hbr1 hbr2 hbD hw2 hzw2
   simp only[Act.put,List.setIfInBounds_toArray,List.set_cons_zero,List.set_cons_succ]
   refine takeE 6 22 ?_
   refine wpAnyH_done (by kernel_rfl) ?_ _
   refine lastPost_normal ?_
   have y1:=mx_cell (j:=1) HBK.out
   have f1:=free_of5 (j:=1) HBK.out
   refine wpOp_step rfl (fun K hK=>?_)
   go_simp
   refine hK _ _ ?_
   clear hK y1 f1
   have hk5:Kept (fun g=>g=w.heap.size+1+1) w4 (w4.setCell ⟨w.heap.size+1+1,1,none⟩ (.slice Av (k+1) cv)):=(Kept.refl (fun g=>g=w.heap.size+1+1) w4).setCell ⟨w.heap.size+1+1,1,none⟩ _ rfl
   have HB5:=Lib.hid (show(w4.setCell ⟨w.heap.size+1+1,1,none⟩ (.slice Av (k+1) cv)).heap[w.heap.size+1+1]? =some (.cells #[.int .i64 vn,.slice Av (k+1) cv] 54 (0,0))from mx_set HBK.out _ (j:=1))
   have HP5:=Lib.hid (HP.out.kept hk5 (fun g hg e=>by omega))
   have HK5:=Lib.hid (HK4.out.trans hk5 (fun _ _ h=>h))
   clear hk5
   go_wp2_with fail
   go_roundw
   case rel=>exact⟨k+1,.slice Av (k+1) cv,by omega,by go_num,HB5,HP5,HK5⟩
   case measure=>simp[intOf];omega
  ·obtain rfl:k=cs.length:=by omega
   have hR:=HR.out
   rw[List.take_length]at hR
   have HRF:=Lib.hid hR
   obtain⟨Ao,co,rfl,_⟩:=mx_slice hR.choose_spec.1
   have hb2r:=(HK.out.block (w.heap.size+1) (by omega) (by omega)).trans HX2.out
   have HBR:=Lib.hid hb2r
   have y0:=mx_cell (j:=0) HBX.out
   have y1:=mx_cell (j:=1) HBX.out
   have x0:=mx_cell (j:=0) hb2r
   have x1:=mx_cell (j:=1) hb2r
   have f0:=free_of5 (j:=0) hb2r
   have f1:=free_of5 (j:=1) hb2r
   clear hR hb2r
   go_wp2_with fail
   obtain⟨WF,hWF,hrF,hkF⟩:=two_set5 HBR.out (.int .i64 vn) (.slice Ao cs.length co)
   rw[hWF]
   refine bodyPost_ret (res_two5 rfl hrF _ rfl) rfl ?_
   refine⟨_,rfl,?_,?_⟩
   ·have:=HRF.out.kept hkF (fun g hg e=>by omega)
    obtain⟨us,q1,q2⟩:=this
    exact⟨us,own_mono q1 (by omega),fun i xs hi=>by
     obtain⟨u,q3,q4⟩:=q2 i xs hi
     exact⟨u,q3,own_mono q4 (by omega)⟩⟩
   ·have hkw:Kept (fun g=>w.heap.size≤g) w WF:=((Kept.of_below HB3.out).trans (HK.out.mono (O':=fun g=>w.heap.size≤g) (fun g _ e=>by omega)) (fun _ _ h=>h)).trans (hkF.mono (O':=fun g=>w.heap.size≤g) (fun g _ e=>by omega)) (fun _ _ h=>h)
    exact hkw.below (fun _ h=>h) (Nat.le_refl _)
end Go.Proofs.YtajbmjpodeilpaaGreatDoor
namespace Go.Proofs.YtajbmjpodeilpaaGreatDoor
open Go.RowKit
structure RCl (O:Nat→Prop) (B:Nat) (w:World) (v:Value) (K:List (List Int×Value)):Prop where
 own:w.ownsRow B 31 1 v K.length (K.map (·.2))
 low: ∀x∈K,IntsIn (fun g=>O g∧g<B) w x.2 x.1
theorem RCl.grown {O:Nat→Prop} {B:Nat} {w w':World} {v v':Value} {K:List (List Int×Value)} {x:List Int×Value} (h:RCl O B w v K) (k:Below B w w') (ho:w'.ownsRow B 31 1 v' (K.length+1) (K.map (·.2)++ [x.2])) (hx:IntsIn (fun g=>O g∧g<B) w' x.2 x.1):RCl O B w' v' (K++ [x]):=
 ⟨by rw[List.length_append,List.length_singleton,List.map_append];exact ho,fun y hy=>by
  rcases List.mem_append.1 hy with hy|hy
  ·exact ints_low (h.low y hy) k
  ·obtain rfl:=List.mem_singleton.1 hy
   exact hx⟩
theorem RCl.cls {O:Nat→Prop} {B:Nat} {w:World} {v:Value} {K:List (List Int×Value)} (h:RCl O B w v K):ClsIn (fun g=>O g∨B≤g) w v (K.map (·.1)):=by
 obtain⟨ho,hl⟩:=h
 rcases ho.2 with⟨rfl,h0⟩|⟨g,cap,cur,rfl,hBg,hg,hle,_⟩
 ·have:K= []:=List.eq_nil_of_length_eq_zero h0
  subst this
  exact⟨none,0,rfl,Nat.le_refl _,fun _=>rfl,fun i p hi=>by simp at hi⟩
 ·refine⟨_,cap,by rw[List.length_map],by rw[List.length_map];omega,(fun h=>by cases h),fun i p hi=>?_⟩
  rw[List.getElem?_map,Option.map_eq_some_iff]at hi
  obtain⟨x,hx,rfl⟩:=hi
  exact⟨g,0,x.2,rfl,heap_lt hg,.inr hBg,by rw[Nat.zero_add];exact mx_at ho (by rw[List.getElem?_map,hx];rfl),(hl x (List.mem_of_getElem? hx)).mono fun _ hg=>.inl hg.1⟩
end Go.Proofs.YtajbmjpodeilpaaGreatDoor
namespace Go.Proofs.YtajbmjpodeilpaaGreatDoor
open Go.RowKit
end Go.Proofs.YtajbmjpodeilpaaGreatDoor
namespace Go.Proofs.YtajbmjpodeilpaaGreatDoor
open Go.RowKit
end Go.Proofs.YtajbmjpodeilpaaGreatDoor
namespace Go.Proofs.YtajbmjpodeilpaaGreatDoor
open Go.RowKit
theorem rstinfo:(Tryz.prog.info? 83).map (fun i=>(i.zero,i.size,i.bytes))=some (some (.agg #[.bool false,.int .i64 0,.slice none 0 0,.slice none 0 0]),4,64):=by kernel_rfl
structure RStM (n0:Nat) (w:World) (v:Value) (K:List StV):Prop where
 row:w.ownsRow n0 83 4 v K.length (K.flatMap stcell)
 lit: ∀x∈K,w.ownsRow n0 3 1 (Value.slice x.2.1.1 x.1.lits.length x.2.1.2) x.1.lits.length (x.1.lits.map (Value.int .i64))
 hnt: ∀x∈K,w.ownsRow n0 3 1 (Value.slice x.2.2.1 x.1.hints.length x.2.2.2) x.1.hints.length (x.1.hints.map (Value.int .i64))
section
variable {n0:Nat} {w w1:World} {v v':Value} {K:List StV}
theorem RStM.nil (n0:Nat) (w:World):RStM n0 w (.slice none 0 0) []:=⟨World.ownsRow_nil _ _ _ _,(fun x hx=>by cases hx),(fun x hx=>by cases hx)⟩
theorem RStM.kept {O:Nat→Prop} (h:RStM n0 w v K) (k:Kept O w w1) (h1: ∀g,v.ownBlock=some g→¬O g) (h2: ∀x∈K,∀g,(Value.slice x.2.1.1 x.1.lits.length x.2.1.2).ownBlock=some g→¬O g) (h3: ∀x∈K,∀g,(Value.slice x.2.2.1 x.1.hints.length x.2.2.2).ownBlock=some g→¬O g):RStM n0 w1 v K:=
 ⟨own_kept h.row k h1,fun x hx=>own_kept (h.lit x hx) k (h2 x hx),fun x hx=>own_kept (h.hnt x hx) k (h3 x hx)⟩
theorem RStM.below (h:RStM n0 w v K) (k:Below w.heap.size w w1):RStM n0 w1 v K:=⟨own_below h.row k,fun x hx=>own_below (h.lit x hx) k,fun x hx=>own_below (h.hnt x hx) k⟩
theorem RStM.push (h:RStM n0 w v K) (hg:w.grownBy w1 v.ownBlock) (x:StV) (hr:w1.ownsRow n0 83 4 v' (K.length+1) (K.flatMap stcell++stcell x)) (hl:w.ownsRow n0 3 1 (Value.slice x.2.1.1 x.1.lits.length x.2.1.2) x.1.lits.length (x.1.lits.map (Value.int .i64))) (hh:w.ownsRow n0 3 1 (Value.slice x.2.2.1 x.1.hints.length x.2.2.2) x.1.hints.length (x.1.hints.map (Value.int .i64))):RStM n0 w1 v' (K++ [x]) where
 row:=by
  rw[List.length_append,List.flatMap_append]
  simpa using hr
 lit:=fun y hy=>by
  have hy2:w.ownsRow n0 3 1 (Value.slice y.2.1.1 y.1.lits.length y.2.1.2) y.1.lits.length (y.1.lits.map (Value.int .i64)):=by
   rcases List.mem_append.1 hy with hy|hy
   ·exact h.lit y hy
   ·rw[List.mem_singleton.1 hy];exact hl
  exact own_kept hy2 (Kept.grown hg) (fun g h1 h2=>mx_apart hy2 h.row (by decide) h1 h2.symm)
 hnt:=fun y hy=>by
  have hy2:w.ownsRow n0 3 1 (Value.slice y.2.2.1 y.1.hints.length y.2.2.2) y.1.hints.length (y.1.hints.map (Value.int .i64)):=by
   rcases List.mem_append.1 hy with hy|hy
   ·exact h.hnt y hy
   ·rw[List.mem_singleton.1 hy];exact hh
  exact own_kept hy2 (Kept.grown hg) (fun g h1 h2=>mx_apart hy2 h.row (by decide) h1 h2.symm)
theorem RStM.mono {n1:Nat} (h:RStM n0 w v K) (hn:n1≤n0):RStM n1 w v K:=⟨own_mono h.row hn,fun x hx=>own_mono (h.lit x hx) hn,fun x hx=>own_mono (h.hnt x hx) hn⟩
theorem RStM.stepIn (h:RStM n0 w v K):StepIn (fun g=>n0≤g) w v (K.map Prod.fst):=by
 have hrow:=h.row
 rcases hrow.2 with⟨rfl,h0⟩|⟨g,cap,cur,rfl,hb,hg,hle,_⟩
 ·exact⟨none,0,by rw[List.length_map,h0],by rw[List.length_map,h0];exact Nat.le_refl _,fun _=>rfl,fun i p hi=>by
   have:=(List.getElem?_eq_some_iff.1 hi).1
   rw[List.length_map]at this
   omega⟩
 ·refine⟨_,cap,by rw[List.length_map],by rw[List.length_map];exact hle,(fun h=>by cases h),fun i p hi=>?_⟩
  rw[List.getElem?_map]at hi
  cases hx:K[i]? with
  | none=>rw[hx]at hi;cases hi
  | some x=>
   rw[hx]at hi
   obtain rfl:=Option.some.inj hi
   obtain⟨e0,e1,e2,e3⟩:=stcell_at K i x hx
   have hxm:=List.mem_of_getElem? hx
   exact⟨g,0,(Value.slice x.2.1.1 x.1.lits.length x.2.1.2),(Value.slice x.2.2.1 x.1.hints.length x.2.2.2),rfl,heap_lt hg,hb,by rw[Nat.zero_add];exact mx_at hrow e0,by rw[Nat.zero_add];exact mx_at hrow e1,by rw[Nat.zero_add];exact mx_at hrow e2,by rw[Nat.zero_add];exact mx_at hrow e3,(IntsIn.of_own (h.lit x hxm)).mono fun _ h=>h.1,(IntsIn.of_own (h.hnt x hxm)).mono fun _ h=>h.1⟩
end
structure EnMem (n0:Nat) (w:World) (v:Value) (K:List REn):Prop where
 row:w.ownsRow n0 179 2 v K.length (K.flatMap REn.cells)
 lit: ∀x∈K,w.ownsRow n0 3 1 x.2 x.1.2.length (x.1.2.map (Value.int .i64))
theorem EnMem.nil (n0:Nat) (w:World):EnMem n0 w (.slice none 0 0) []:=⟨World.ownsRow_nil _ _ _ _,fun x hx=>by cases hx⟩
theorem EnMem.below {n0:Nat} {w w1:World} {v:Value} {K:List REn} (h:EnMem n0 w v K) (k:Below w.heap.size w w1):EnMem n0 w1 v K:=⟨own_below h.row k,fun x hx=>own_below (h.lit x hx) k⟩
theorem EnMem.push {n0:Nat} {w w1:World} {v v':Value} {K:List REn} (h:EnMem n0 w v K) (hg:w.grownBy w1 v.ownBlock) (x:REn) (hr:w1.ownsRow n0 179 2 v' (K.length+1) (K.flatMap REn.cells++x.cells)) (hl:w.ownsRow n0 3 1 x.2 x.1.2.length (x.1.2.map (Value.int .i64))):EnMem n0 w1 v' (K++ [x]) where
 row:=by
  rw[List.length_append,List.flatMap_append]
  simpa using hr
 lit:=fun y hy=>by
  have hy2:w.ownsRow n0 3 1 y.2 y.1.2.length (y.1.2.map (Value.int .i64)):=by
   rcases List.mem_append.1 hy with hy|hy
   ·exact h.lit y hy
   ·rw[List.mem_singleton.1 hy];exact hl
  exact own_kept hy2 (Kept.grown hg) (fun g h1 h2=>mx_apart hy2 h.row (by decide) h1 h2.symm)
theorem EnMem.ents {n0:Nat} {w:World} {v:Value} {K:List REn} (h:EnMem n0 w v K):EntIn (fun g=>n0≤g) w v (K.map (·.1)):=by
 obtain⟨ho,hl⟩:=h
 rcases ho.2 with⟨rfl,h0⟩|⟨g,cap,cur,rfl,hBg,hg,hle,_⟩
 ·have:K= []:=List.eq_nil_of_length_eq_zero h0
  subst this
  exact⟨none,0,rfl,Nat.le_refl _,fun _=>rfl,fun i p hi=>by simp at hi⟩
 ·refine⟨_,cap,by rw[List.length_map],by rw[List.length_map];omega,(fun h=>by cases h),fun i p hi=>?_⟩
  rw[List.getElem?_map,Option.map_eq_some_iff]at hi
  obtain⟨x,hx,rfl⟩:=hi
  obtain⟨e0,e1⟩:=ricell_at K i x hx
  exact⟨g,0,x.2,rfl,heap_lt hg,hBg,by rw[Nat.zero_add];exact mx_at ho e0,by rw[Nat.zero_add];exact mx_at ho e1,(IntsIn.of_own (hl x (List.mem_of_getElem? hx))).mono fun _ h=>h.1⟩
end Go.Proofs.YtajbmjpodeilpaaGreatDoor
namespace Go.Proofs.YtajbmjpodeilpaaGreatDoor
open Go.RowKit
end Go.Proofs.YtajbmjpodeilpaaGreatDoor
namespace Go.Proofs.YtajbmjpodeilpaaGreatDoor
open Go.RowKit Go.Maps
def repZ:Value:=.agg #[.bool false,.int .i64 0,.int .i64 0,.int .i64 0,.int .i64 0]
def runRep (r:Ckr×Nat×Nat):Value:=if runE r=0 then r.1.rep else repZ
theorem res_chk456 {fn:Func} (h:fn.results= #[.cell 4 45,.tmp 5,.tmp 6]) {w:World} {r:Nat} {c0 c1 c2 c3 c4:Value} {t:TypeId} (hb:w.heap[r]? =some (.cells #[c0,c1,c2,c3,c4] t (0,0))) (tmps:Array Value) (t4:tmps[4]?.getD undef= .pointer (some ⟨r,0,none⟩)):
  (results fn tmps).run Tryz.prog w= .ok (.tuple #[.agg #[c0,c1,c2,c3,c4],tmps[5]?.getD undef,tmps[6]?.getD undef]) w:=by
 have p0:w.cell? ⟨r,0,none⟩=some c0:=mx_cell (j:=0) hb
 have p1:w.cell? ⟨r,1,none⟩=some c1:=mx_cell (j:=1) hb
 have p2:w.cell? ⟨r,2,none⟩=some c2:=mx_cell (j:=2) hb
 have p3:w.cell? ⟨r,3,none⟩=some c3:=mx_cell (j:=3) hb
 have p4:w.cell? ⟨r,4,none⟩=some c4:=mx_cell (j:=4) hb
 simp[results,h,go_sem,t4,p0,p1,p2,p3,p4]
theorem rep_err {R:Ckr×Nat×Nat} {k:Ckr} {n e E:Nat} (hR:R=(k,n,e)) (hE:runE R=E) (h0:E≠0):Ending.returned (.tuple #[.agg #[.bool false,.int .i64 0,.int .i64 0,.int .i64 0,.int .i64 0],.int .i64 (n:Int),.int .i64 (E:Int)])= .returned (.tuple #[runRep R,.int .i64 (R.2.1:Nat),.int .i64 (runE R:Nat)]):=by
 unfold runRep
 rw[hE,if_neg h0,hR]
 rfl
theorem rep_ok {R:Ckr×Nat×Nat} {k:Ckr} {n:Nat} {a d r l:Int} (hR:R=(k,n,0)) (hp:k.proved=true) (hf:k.rep= .agg #[.bool true,.int .i64 a,.int .i64 d,.int .i64 r,.int .i64 l]):Ending.returned (.tuple #[.agg #[.bool true,.int .i64 a,.int .i64 d,.int .i64 r,.int .i64 l],.int .i64 (n:Int),.int .i64 0])= .returned (.tuple #[runRep R,.int .i64 (R.2.1:Nat),.int .i64 (runE R:Nat)]):=by
 have hE:runE R=0:=by
  rw[hR]
  show(if(0:Nat)≠0 then _ else if k.proved=true then 0 else 101)=0
  rw[hp]
  rfl
 unfold runRep
 rw[hE,if_pos rfl,hR]
 simp only
 rw[hf]
 rfl
theorem run_step {k:Ckr} {l:List EStep} {j:Nat} {s:EStep} (h:l[j]? =some s) (n:Nat):runGo k (l.drop j) n=if k.proved=true then(k,n,0)else if(k.do_ s).2.2.2≠0 then((k.do_ s).1,n,(k.do_ s).2.2.2)else runGo (k.do_ s).1 (l.drop (j+1)) (n+1):=by
 have hlt:=(List.getElem?_eq_some_iff.1 h).1
 rw[List.drop_eq_getElem_cons hlt]
 rw[List.getElem?_eq_getElem hlt]at h
 rw[Option.some.inj h]
 rfl
theorem run_nil (k:Ckr) (n:Nat):runGo k [] n=(k,n,0):=rfl
set_option maxRecDepth 100000 in
set_option maxHeartbeats 4000000 in
theorem proof_check {O Os:Nat→Prop} (n:Int) (lv sv:Value) (cs:List (List Int)) (l:List EStep) (w:World) (h:ClsIn O w lv cs) (hc: ∀c∈cs,clauseB c=true) (hn:cs.length≤1000) (hf:fchk n cs=(-1,0)) (hs:StepIn Os w sv l) (hl:l.length≤1000) (hls: ∀s∈l,s.lits.length≤100000000∧s.hints.length≤100000000):
  Calls Tryz.prog 25 #[.agg #[.int .i64 n,lv],sv] w fun e w'=>e= .returned (.tuple #[runRep (runGo (ckrNew cs) l 0),.int .i64 ((runGo (ckrNew cs) l 0).2.1:Nat),.int .i64 (runE (runGo (ckrNew cs) l 0):Nat)])∧Below w.heap.size w w':=by
 obtain⟨W0,hW0⟩: ∃x,w.alloc (.cells #[.int .i64 n,lv] 24)=x:=⟨_,rfl⟩
 obtain⟨W1,hW1⟩: ∃x,W0.alloc (.cells #[.bool false,.int .i64 0,.int .i64 0,.int .i64 0,.int .i64 0] 45)=x:=⟨_,rfl⟩
 have hb0:Below w.heap.size w W0:=by rw[←hW0];exact mx_al _ _
 have hb1:Below W0.heap.size W0 W1:=by rw[←hW1];exact mx_al _ _
 have hz0:W0.heap.size=w.heap.size+1:=by rw[←hW0];simp
 have hz1:W1.heap.size=w.heap.size+2:=by rw[←hW1];simp[hz0]
 have hbf:W0.heap[w.heap.size]? =some (.cells #[.int .i64 n,lv] 24 (0,0)):=by rw[←hW0];exact World.alloc_heap_new _ _
 have hbf1:=(hb1.block _ (heap_lt hbf)).trans hbf
 have b0:W1.cell? ⟨w.heap.size,0,none⟩=some (.int .i64 n):=mx_cell (j:=0) hbf1
 have b1:W1.cell? ⟨w.heap.size,1,none⟩=some lv:=mx_cell (j:=1) hbf1
 have hbr:W1.heap[w.heap.size+1]? =some (.cells #[.bool false,.int .i64 0,.int .i64 0,.int .i64 0,.int .i64 0] 45 (0,0)):=by rw[←hW1,←hz0];exact World.alloc_heap_new _ _
 have hbw:Below w.heap.size w W1:=hb0.trans (hb1.mono (by omega))
 have HNEW:=Lib.hid (ck_new n lv cs W1 (h.below hbw) hc hn hf)
 have HBX:=Lib.hid (fun(X:World) (hx:Below W1.heap.size W1 X)=>show X.heap[w.heap.size+1]? =some (.cells #[.bool false,.int .i64 0,.int .i64 0,.int .i64 0,.int .i64 0] 45 (0,0))∧Below w.heap.size w X from⟨(hx.block _ (heap_lt hbr)).trans hbr,hbw.trans (hx.mono hbw.size)⟩)
 have HSI:=Lib.hid (fun(X:World) (hx:Below W1.heap.size W1 X)=>(hs.below hbw).below hx)
 obtain⟨R,hR⟩: ∃R,runGo (ckrNew cs) l 0=R:=⟨_,rfl⟩
 rw[hR]
 have HR:=Lib.hid (show R=runGo (ckrNew cs) (l.drop 0) 0 from by rw[List.drop_zero];exact hR.symm)
 have HOK:=Lib.hid (show(ckrNew cs).Ok (1000+0)from by rw[ckrNew_of];exact ckrOf_ok hc hn (Nat.zero_le _))
 have HLS:=Lib.hid hls
 obtain⟨A,c,rfl,hcc,_⟩:=h
 obtain⟨As,cs',rfl,hcs,_⟩:=hs
 have HW0:=Lib.hid hW0
 have HW1:=Lib.hid hW1
 clear hb0 hb1 hbf hbf1 hbr hbw hR hc hf hls hW0 hW1
 go_enter Tryz.func25,Tryz.ntmps25
 go_upto_region 1 with fail
 try rw[HW0.out]
 try rw[HW1.out]
 go_wp2_with fail
 refine wp_scope_straight ?_
 go_wp2_with fail
 refine HNEW.out.mono ?_
 rintro e w2 ⟨b,rfl,hck,hb2⟩
 have HCK:=Lib.hid hck
 have HB2:=Lib.hid hb2
 clear hck hb2 HNEW b0 b1
 go_wp2_with fail
 refine wp_label ?_
 go_wp2_with fail
 go_loopw [8,9] (fun ev iv wr=> ∃(k:Nat) (kk:Ckr),k≤l.length∧ev= .int .i64 0∧iv= .int .i64 k∧Hid (R=runGo kk (l.drop k) k)∧Hid (kk.Ok (1000+k))∧Hid (CkAt W1.heap.size wr b kk)∧Hid (Below W1.heap.size W1 wr)) (fun _ i _=>l.length-(intOf i).toNat)
 case atStart=>exact⟨0,ckrNew cs,Nat.zero_le _,rfl,rfl,HR,HOK,HCK,HB2⟩
 case round=>
  obtain⟨k,kk,hk,rfl,rfl,HRk,HOKk,HCKk,HBk⟩:=hrel
  obtain⟨p,hp⟩: ∃p,kk.proved=p:=⟨_,rfl⟩
  have hpv:=ck_proved b kk wr HCKk.out
  have hrp:=ck_report b kk wr HCKk.out
  unfold Ckr.rep at hrp
  obtain⟨ra,hra⟩: ∃p,kk.adds=p:=⟨_,rfl⟩
  obtain⟨rd,hrd⟩: ∃p,kk.dels=p:=⟨_,rfl⟩
  obtain⟨rr,hrr⟩: ∃p,kk.rats=p:=⟨_,rfl⟩
  obtain⟨rl,hrl⟩: ∃p,kk.largest=p:=⟨_,rfl⟩
  rw[hp]at hpv hrp
  rw[hra,hrd,hrr,hrl]at hrp
  have HPV:=Lib.hid hpv
  have HREP:=Lib.hid hrp
  have HP:=Lib.hid hp
  have HRF:=Lib.hid (show kk.rep= .agg #[.bool p,.int .i64 ra,.int .i64 rd,.int .i64 rr,.int .i64 rl]from by unfold Ckr.rep;rw[hp,hra,hrd,hrr,hrl])
  clear hpv hrp hp hra hrd hrr hrl
  by_cases hlt:k<l.length
  ·obtain⟨s,hs⟩:=getElem_of hlt
   have hst:=HRk.out.trans (run_step hs k)
   rw[HP.out]at hst
   cases p with
   | true=>
    have HRZ:=Lib.hid (rep_ok (R:=R) (n:=k) (hst.trans (if_pos rfl)) HP.out HRF.out)
    clear hs hst
    go_wp2_with fail
    refine HPV.out.mono ?_
    rintro e w' ⟨rfl,rfl⟩
    go_wp2_with fail
    refine HPV.out.mono ?_
    rintro e w' ⟨rfl,rfl⟩
    go_wp2_with fail
    refine HREP.out.mono ?_
    rintro e w6 ⟨rfl,hb6⟩
    obtain⟨hbx,hlow⟩:=HBX.out w6 (HBk.out.trans (hb6.mono HBk.out.size))
    have r0:=mx_cell (j:=0) hbx
    have r1:=mx_cell (j:=1) hbx
    have r2:=mx_cell (j:=2) hbx
    have r3:=mx_cell (j:=3) hbx
    have r4:=mx_cell (j:=4) hbx
    have f0:=free_at (j:=0) hbx
    have f1:=free_at (j:=1) hbx
    have f2:=free_at (j:=2) hbx
    have f3:=free_at (j:=3) hbx
    have f4:=free_at (j:=4) hbx
    obtain⟨wy,hwy,hby,hky⟩:=five_setR hbx (.bool true) (.int .i64 ra) (.int .i64 rd) (.int .i64 rr) (.int .i64 rl)
    have HBY:=Lib.hid hby
    have HFIN:=Lib.hid (hlow.trans (hky.below (fun i e=>by rw[e];exact Nat.le_succ _) hlow.size))
    clear hbx hlow hky hby hb6
    go_wp2_with fail
    try rw[hwy]
    rw[Exit.noGoto_ret]
    refine bodyPost_ret (res_chk456 rfl HBY.out _ rfl) rfl ?_
    exact⟨HRZ.out,HFIN.out⟩
   | false=>
    have hst2:=hst.trans (if_neg (by decide))
    obtain⟨A',c',hAc,_,_,hxs⟩:=HSI.out wr HBk.out
    simp only[Value.slice.injEq,true_and]at hAc
    obtain⟨rfl,rfl⟩:=hAc
    obtain⟨g,o,ul,uh,rfl,hg,_,d0,d1,d2,d3,hul,huh⟩:=hxs k s hs
    obtain⟨hl1,hl2⟩:=HLS.out s (List.mem_of_getElem? hs)
    have HDO:=Lib.hid (ck_do_all b kk s ul uh wr HCKk.out HBk.out.size HOKk.out (by omega) hul huh (by omega) (by omega))
    have HOKn:=Lib.hid (do_ok (s:=s) HOKk.out)
    obtain⟨D,hD⟩: ∃D,kk.do_ s=D:=⟨_,rfl⟩
    rw[hD]at HDO HOKn hst2
    have HST:=Lib.hid hst2
    obtain⟨Dk,Dt,Di,De⟩:=D
    obtain⟨Aul,cul,rfl,_⟩:=hul
    obtain⟨Auh,cuh,rfl,_⟩:=huh
    clear hs hst hst2 hxs hD
    go_wp2_with fail
    refine HPV.out.mono ?_
    rintro e w' ⟨rfl,rfl⟩
    go_wp2_with fail
    refine HDO.out.mono ?_
    rintro e w5 ⟨rfl,hck5,hb5,-⟩
    have HCK5:=Lib.hid hck5
    have HB5:=Lib.hid (HBk.out.trans hb5)
    clear hck5 hb5 HDO d0 d1 d2 d3
    by_cases hE:De=0
    ·subst hE
     have HRn:=Lib.hid (show R=runGo Dk (l.drop (k+1)) (k+1)from HST.out.trans (if_neg (fun h=>h rfl)))
     clear HST
     go_wp2_with fail
     go_roundw
     case rel=>exact⟨k+1,Dk,by omega,rfl,by go_num,HRn,HOKn,HCK5,HB5⟩
     case measure=>simp[intOf];omega
    ·have q0:((De:Int)==0)=false:=beq_eq_false_iff_ne.2 (by omega)
     have q1:((De:Int) != 0)=true:=by rw[bne,q0];rfl
     have HRZ:=Lib.hid (rep_err (R:=R) (n:=k) (E:=De) (k:=Dk) (HST.out.trans (if_pos hE)) (by rw[HST.out.trans (if_pos hE)];exact if_pos hE) hE)
     obtain⟨wz,hwz⟩: ∃z,w5=z:=⟨_,rfl⟩
     have HBZ:=Lib.hid (show Below W1.heap.size W1 wz from hwz▸HB5.out)
     rw[hwz]
     clear HST hE hwz
     obtain⟨hbx,hlow⟩:=HBX.out wz HBZ.out
     have r0:=mx_cell (j:=0) hbx
     have r1:=mx_cell (j:=1) hbx
     have r2:=mx_cell (j:=2) hbx
     have r3:=mx_cell (j:=3) hbx
     have r4:=mx_cell (j:=4) hbx
     have f0:=free_at (j:=0) hbx
     have f1:=free_at (j:=1) hbx
     have f2:=free_at (j:=2) hbx
     have f3:=free_at (j:=3) hbx
     have f4:=free_at (j:=4) hbx
     obtain⟨wy,hwy,hby,hky⟩:=five_setR hbx (.bool false) (.int .i64 0) (.int .i64 0) (.int .i64 0) (.int .i64 0)
     have HBY:=Lib.hid hby
     have HFIN:=Lib.hid (hlow.trans (hky.below (fun i e=>by rw[e];exact Nat.le_succ _) hlow.size))
     clear hbx hlow hky hby
     go_wp2_with fail
     try rw[hwy]
     rw[Exit.noGoto_ret]
     refine bodyPost_ret (res_chk456 rfl HBY.out _ rfl) rfl ?_
     exact⟨HRZ.out,HFIN.out⟩
  ·obtain rfl:k=l.length:=by omega
   have hst:R=(kk,l.length,0):=by rw[HRk.out,List.drop_length,run_nil]
   cases p with
   | true=>
    have HRZ:=Lib.hid (rep_ok (R:=R) (n:=l.length) hst HP.out HRF.out)
    clear hst
    go_wp2_with fail
    refine HPV.out.mono ?_
    rintro e w' ⟨rfl,rfl⟩
    go_wp2_with fail
    refine HREP.out.mono ?_
    rintro e w6 ⟨rfl,hb6⟩
    obtain⟨hbx,hlow⟩:=HBX.out w6 (HBk.out.trans (hb6.mono HBk.out.size))
    have r0:=mx_cell (j:=0) hbx
    have r1:=mx_cell (j:=1) hbx
    have r2:=mx_cell (j:=2) hbx
    have r3:=mx_cell (j:=3) hbx
    have r4:=mx_cell (j:=4) hbx
    have f0:=free_at (j:=0) hbx
    have f1:=free_at (j:=1) hbx
    have f2:=free_at (j:=2) hbx
    have f3:=free_at (j:=3) hbx
    have f4:=free_at (j:=4) hbx
    obtain⟨wy,hwy,hby,hky⟩:=five_setR hbx (.bool true) (.int .i64 ra) (.int .i64 rd) (.int .i64 rr) (.int .i64 rl)
    have HBY:=Lib.hid hby
    have HFIN:=Lib.hid (hlow.trans (hky.below (fun i e=>by rw[e];exact Nat.le_succ _) hlow.size))
    clear hbx hlow hky hby hb6
    go_wp2_with fail
    try rw[hwy]
    rw[Exit.noGoto_ret]
    refine bodyPost_ret (res_chk456 rfl HBY.out _ rfl) rfl ?_
    exact⟨HRZ.out,HFIN.out⟩
   | false=>
    have HRZ:=Lib.hid (rep_err (R:=R) (n:=l.length) (E:=101) (k:=kk) hst (by
     rw[hst]
     show(if(0:Nat)≠0 then _ else if kk.proved=true then 0 else 101)=101
     rw[HP.out]
     rfl) (by decide))
    have HBZ:=Lib.hid HBk.out
    clear hst
    go_wp2_with fail
    refine HPV.out.mono ?_
    rintro e w' ⟨rfl,rfl⟩
    obtain⟨wz,hwz⟩: ∃z,wr=z:=⟨_,rfl⟩
    rw[hwz]at HBZ⊢
    clear hwz
    obtain⟨hbx,hlow⟩:=HBX.out wz HBZ.out
    have r0:=mx_cell (j:=0) hbx
    have r1:=mx_cell (j:=1) hbx
    have r2:=mx_cell (j:=2) hbx
    have r3:=mx_cell (j:=3) hbx
    have r4:=mx_cell (j:=4) hbx
    have f0:=free_at (j:=0) hbx
    have f1:=free_at (j:=1) hbx
    have f2:=free_at (j:=2) hbx
    have f3:=free_at (j:=3) hbx
    have f4:=free_at (j:=4) hbx
    obtain⟨wy,hwy,hby,hky⟩:=five_setR hbx (.bool false) (.int .i64 0) (.int .i64 0) (.int .i64 0) (.int .i64 0)
    have HBY:=Lib.hid hby
    have HFIN:=Lib.hid (hlow.trans (hky.below (fun i e=>by rw[e];exact Nat.le_succ _) hlow.size))
    clear hbx hlow hky hby
    go_wp2_with fail
    try rw[hwy]
    rw[Exit.noGoto_ret]
    refine bodyPost_ret (res_chk456 rfl HBY.out _ rfl) rfl ?_
    exact⟨HRZ.out,HFIN.out⟩
end Go.Proofs.YtajbmjpodeilpaaGreatDoor
