/- salvorlaw08.Copies, SameLists. salvorlaw05.Theirs: a formula for the reference. Reference of layer 5: Check. -/
import Derived.Test.YtajbmjpodeilpaaGreatV102
import Derived.Test.YtajbmjpodeilpaaGreatV100
import Derived.Test.YtajbmjpodeilpaaGreatV125
import Derived.Test.YtajbmjpodeilpaaGreatV112
import Derived.Test.YtajbmjpodeilpaaGreatV108
namespace Go.Proofs.YtajbmjpodeilpaaGreat
open Go.RowKit
set_option maxRecDepth 100000 in
set_option maxHeartbeats 2000000 in
theorem copies_08 {O:Nat→Prop} (u:Value) (cs:List (List Int)) (w:World) (h:ClsIn O w u cs) (hl:cs.length≤1000000) (hcl: ∀c∈cs,c.length≤1000000):
  Calls Tryz.prog 21 #[u] w fun e w'=> ∃v,e= .returned v∧ClsOwn w.heap.size w' v cs∧Below w.heap.size w w':=by
 obtain⟨i0,hi,hz0,hz1,hz2⟩:=info_parts info_cls
 have HC:=Lib.hid h
 have HCL:=Lib.hid hcl
 obtain⟨A,c,rfl,hc,_⟩:=h
 clear hcl
 go_enter Tryz.func21,Tryz.ntmps21
 go_wp2_with fail
 go_loopw [3,8] (fun v i wr=> ∃k:Nat,k≤cs.length∧i= .int .i64 k∧Hid (Below w.heap.size w wr)∧Hid (ClsOwn w.heap.size wr v (cs.take k))) (fun _ i _=>cs.length-(intOf i).toNat)
 case atStart=>exact⟨0,Nat.zero_le _,rfl,Lib.hid (Below.refl _ _),Lib.hid ⟨[],World.ownsRow_nil _ _ _ _,fun i xs h=>by simp at h⟩⟩
 case round=>
  obtain⟨k,hk,rfl,HB,HR⟩:=hrel
  by_cases hlt:k<cs.length
  ·obtain⟨x,hxk⟩:=getElem_of hlt
   have HXL:=Lib.hid (HCL.out x (List.mem_of_getElem? hxk))
   obtain⟨A',c',hv,_,_,hx⟩:=HC.out
   simp only[Value.slice.injEq,true_and]at hv
   obtain⟨rfl,rfl⟩:=hv
   obtain⟨g,o,uv,rfl,hg,_,d0,hu⟩:=hx k x hxk
   have d1:=(HB.out.cell (p:=⟨g,o+k,none⟩) hg).trans d0
   have HM:=Lib.hid (clone_c uv x wr (hu.below HB.out) (by have:=HXL.out;omega))
   obtain⟨us,h1,h2⟩:=HR.out
   have hlk:(cs.take k).length=k:=by rw[List.length_take];omega
   have HUS:=Lib.hid h1
   have HU2:=Lib.hid h2
   have HLK:=Lib.hid hlk
   rw[hlk]at h1
   obtain⟨Ao,co,rfl,_⟩:=mx_slice h1
   have HO1:=Lib.hid h1
   have HTK:=Lib.hid (show cs.take (k+1)=cs.take k++ [x]from by
    rw[List.take_add_one,hxk]
    rfl)
   clear h1 h2 hlk hxk d0 hu hx
   go_wp2_with fail
   refine HM.out.mono ?_
   rintro e w1 ⟨vx,rfl,hox,hb1⟩
   obtain⟨Ax,cx,rfl,_⟩:=mx_slice hox
   have HOX:=Lib.hid hox
   have HB1:=Lib.hid hb1
   have hwz:=HB.out.size
   have hwz1:=hb1.size
   clear hox hb1 d1
   go_wp2_with (at_builtin;refine wpList_append_own_at _ rfl _ _ 22 rfl w.heap.size 31 i0 (.slice none 0 0) 1 24 Tryz.underlying22 hi hz0 hz1 hz2 rfl (by decide) _ k _ rfl (own_below (own_below HO1.out HB1.out) (mx_al w1 _)) ⟨w1.heap.size,0,none⟩ 1 1 [.slice Ax x.length cx] rfl rfl (cell_one_new' _ _ _) (by simp[Value.oneCell']) (by unfold maxLen;omega) (by omega) (by simp;omega) ?_;intro v' w2 hown hgrow hnl hat)
   have hb2:Below wr.heap.size wr (w1.alloc (.cells #[.slice Ax x.length cx] 31)):=HB1.out.trans ((mx_al w1 _).mono hwz1)
   have hpush:=ClsOwn.push HUS.out HU2.out hb2 (own_below (own_mono HOX.out hwz) (mx_al w1 _)) hgrow (by rw[HLK.out];exact hown)
   rw[←HTK.out]at hpush
   have HP:=Lib.hid hpush
   have HB2:=Lib.hid ((HB.out.trans (hb2.mono hwz)).grown hgrow (by simp;omega) (fun g hg=>(own_lt HO1.out g hg).1))
   clear hown hgrow hnl hat hb2 hpush
   go_wp2
   go_roundw
   case rel=>exact⟨k+1,by omega,by go_num,HB2,HP⟩
   case measure=>simp[intOf];omega
  ·obtain rfl:k=cs.length:=by omega
   have HF:=Lib.hid (show ClsOwn w.heap.size wr _ cs from by
    have:=HR.out
    rwa [List.take_length]at this)
   go_wp2_with fail
   go_ret
   exact⟨_,rfl,HF.out,HB.out⟩
set_option maxRecDepth 100000 in
set_option maxHeartbeats 1000000 in
theorem same_one8 {O O':Nat→Prop} (u v:Value) (xs:List Int) (w:World) (h1:IntsIn O w u xs) (h2:IntsIn O' w v xs) (hn:xs.length≤1000000):
  Calls Tryz.prog 56 #[u,v] w fun e w'=>e= .returned (.bool true)∧Below w.heap.size w w':=by
 have he:=eq_c u v xs xs w h1 h2 (by omega)
 rw[beq_self_eq_true]at he
 have HE:=Lib.hid he
 obtain⟨A,c,rfl,_⟩:=h1
 obtain⟨A',c',rfl,_⟩:=h2
 clear he
 go_enter Tryz.func56,Tryz.ntmps56
 go_wp2_with fail
 refine HE.out.mono ?_
 rintro e w1 ⟨rfl,n1,hn1⟩
 have hb1:Below w.heap.size w w1:=by rw[hn1];exact mx_drewN w n1
 have HB1:=Lib.hid hb1
 clear hn1 hb1
 go_wp2_with fail
 go_ret
 exact⟨rfl,HB1.out⟩
set_option maxRecDepth 100000 in
set_option maxHeartbeats 1000000 in
theorem same_lists {O O':Nat→Prop} (u v:Value) (cs:List (List Int)) (w:World) (h1:ClsIn O w u cs) (h2:ClsIn O' w v cs) (hn:cs.length≤1000000) (hcl: ∀c∈cs,c.length≤1000000):
  Calls Tryz.prog 24 #[u,v] w fun e w'=>e= .returned (.bool true)∧Below w.heap.size w w':=by
 have H1:=Lib.hid h1
 have H2:=Lib.hid h2
 have HS:=Lib.hid hcl
 obtain⟨A1,c1,rfl,hc1,_,_⟩:=h1
 obtain⟨A2,c2,rfl,hc2,_,_⟩:=h2
 obtain⟨L,hL⟩: ∃L,cs.length=L:=⟨_,rfl⟩
 have HL:=Lib.hid hL
 rw[hL]at H1 H2 hc1 hc2 hn⊢
 have hEF:Calls Tryz.prog 55 #[.slice A1 L c1,.slice A2 L c2,.func (.func 56) #[] #[]] w fun e w'=>e= .returned (.bool true)∧Below w.heap.size w w':=by
  clear hL hcl
  have hEN: ∀args w,(callFunc 56 args).run Tryz.prog w= .ok (.enter 56 args) w:=enters_of Tryz.func56 (by kernel_rfl) rfl
  go_enter Tryz.func55,Tryz.ntmps55
  go_wp2_with fail
  go_loopw [17] (fun iv wr=> ∃i:Nat,i≤L∧iv= .int .i64 i∧Hid (Below w.heap.size w wr)) (fun iv _=>L-(intOf iv).toNat)
  case atStart=>exact⟨0,Nat.zero_le _,rfl,Lib.hid (Below.refl _ _)⟩
  case round=>
   obtain⟨i,hi,rfl,HB⟩:=hrel
   by_cases hlt:i<L
   ·obtain⟨s,hs⟩: ∃s,cs[i]? =some s:=⟨_,List.getElem?_eq_getElem (by rw[HL.out];exact hlt)⟩
    obtain⟨A',c',hAc,_,_,hxs⟩:=H1.out.below HB.out
    obtain⟨A'',c'',hAc',_,_,hys⟩:=H2.out.below HB.out
    simp only[Value.slice.injEq]at hAc hAc'
    obtain⟨rfl,-,rfl⟩:=hAc
    obtain⟨rfl,-,rfl⟩:=hAc'
    obtain⟨g,o,ul,rfl,hg,_,d0,hul⟩:=hxs i s hs
    obtain⟨g',o',vl,rfl,hg',_,e0,hvl⟩:=hys i s hs
    have HSM:=Lib.hid (same_one8 ul vl s wr hul hvl (HS.out s (List.mem_of_getElem? hs)))
    obtain⟨Al,cl,rfl,_⟩:=hul
    obtain⟨Bl,dl,rfl,_⟩:=hvl
    clear hxs hys hs
    go_wp2_with fail
    refine HSM.out.mono ?_
    rintro e w3 ⟨rfl,hb3⟩
    have HB3:=Lib.hid (HB.out.trans (hb3.mono HB.out.size))
    clear hb3 d0 e0
    go_wp2_with fail
    go_roundw
    case rel=>exact⟨i+1,by omega,by go_num,HB3⟩
    case measure=>simp[intOf];omega
   ·obtain rfl:i=L:=by omega
    go_wp2_with fail
    go_ret
    exact⟨rfl,HB.out⟩
 have HEF:=Lib.hid hEF
 clear hEF hcl
 go_enter Tryz.func24,Tryz.ntmps24
 go_wp2_with fail
 refine HEF.out.mono ?_
 rintro e w1 ⟨rfl,hb1⟩
 have HB1:=Lib.hid hb1
 clear hb1
 go_wp2_with fail
 go_ret
 exact⟨rfl,HB1.out⟩
end Go.Proofs.YtajbmjpodeilpaaGreat
namespace Go.Proofs.YtajbmjpodeilpaaGreat
open Go.RowKit
def LstOwn (n:Nat) (w:World) (v:Value) (cs:List (List Int)):Prop:=
 ∃us:List Value,w.ownsRow n 32 1 v cs.length us∧∀(i:Nat) (xs:List Int),cs[i]? =some xs→∃u,us[i]? =some u∧w.ownsRow n 3 1 u xs.length (xs.map (Value.int .i64))
theorem LstOwn.kept {O:Nat→Prop} {n:Nat} {w w':World} {v:Value} {cs:List (List Int)} (h:LstOwn n w v cs) (k:Kept O w w') (hO: ∀g,n≤g→¬O g):LstOwn n w' v cs:=by
 obtain⟨us,h1,h2⟩:=h
 refine⟨us,own_kept h1 k (fun g hg=>hO g (own_lt h1 g hg).1),fun i xs hi=>?_⟩
 obtain⟨u,hu,ho⟩:=h2 i xs hi
 exact⟨u,hu,own_kept ho k (fun g hg=>hO g (own_lt ho g hg).1)⟩
theorem LstOwn.below {n:Nat} {w w':World} {v:Value} {cs:List (List Int)} (h:LstOwn n w v cs) (hb:Below w.heap.size w w'):LstOwn n w' v cs:=
 h.kept (O:=fun _=>False) (Kept.of_below hb) (fun _ _ h=>h)
theorem LstOwn.clsIn {n:Nat} {w:World} {v:Value} {cs:List (List Int)} (h:LstOwn n w v cs):ClsIn (fun g=>n≤g) w v cs:=by
 obtain⟨us,h1,h2⟩:=h
 rcases h1.2 with⟨rfl,h0⟩|⟨g,cap,cur,rfl,hb,hg,hle,_⟩
 ·exact⟨none,0,by rw[h0],by omega,fun _=>rfl,fun i xs hi=>by
   have:=(List.getElem?_eq_some_iff.1 hi).1
   omega⟩
 ·refine⟨_,cap,rfl,hle,(fun h=>by cases h),fun i xs hi=>?_⟩
  obtain⟨u,hu,ho⟩:=h2 i xs hi
  exact⟨g,0,u,rfl,heap_lt hg,hb,by rw[Nat.zero_add];exact mx_at h1 hu,(IntsIn.of_own ho).mono (fun g hg=>(own_lt ho g hg.2).1)⟩
theorem info_lst:(Tryz.prog.info? 32).map (fun i=>(i.zero,i.size,i.bytes))=some (some (.slice none 0 0),1,24):=by kernel_rfl
theorem LstOwn.push {n:Nat} {w w1 w2:World} {v v' u:Value} {cs:List (List Int)} {xs:List Int} {us:List Value} (h1:w.ownsRow n 32 1 v cs.length us) (h2: ∀(i:Nat) (xs:List Int),cs[i]? =some xs→∃u,us[i]? =some u∧w.ownsRow n 3 1 u xs.length (xs.map (Value.int .i64)))
  (hb:Below w.heap.size w w1) (hu:w1.ownsRow n 3 1 u xs.length (xs.map (Value.int .i64))) (hg:w1.grownBy w2 v.ownBlock) (ho:w2.ownsRow n 32 1 v' (cs.length+1) (us++ [u])):LstOwn n w2 v' (cs++ [xs]):=by
 have hlu:us.length=cs.length:=by
  have:=h1.1
  omega
 have hk: ∀{u:Value} {ys:List Int},w1.ownsRow n 3 1 u ys.length (ys.map (Value.int .i64))→w2.ownsRow n 3 1 u ys.length (ys.map (Value.int .i64)):=fun hu=>own_kept hu (Kept.grown hg) (fun g hg e=>mx_apart hu (own_below h1 hb) (by decide) hg e.symm)
 refine⟨us++ [u],by rw[List.length_append];exact ho,fun i ys hi=>?_⟩
 by_cases hil:i<cs.length
 ·rw[List.getElem?_append_left hil]at hi
  obtain⟨z,hz,hzo⟩:=h2 i ys hi
  exact⟨z,by rw[List.getElem?_append_left (by omega)];exact hz,hk (own_below hzo hb)⟩
 ·have hi2:=(List.getElem?_eq_some_iff.1 hi).1
  rw[List.length_append,List.length_singleton]at hi2
  obtain rfl:i=cs.length:=by omega
  rw[List.getElem?_append_right (Nat.le_refl _),Nat.sub_self,List.getElem?_cons_zero]at hi
  obtain rfl:=Option.some.inj hi
  refine⟨u,?_,hk hu⟩
  rw[List.getElem?_append_right (by omega),hlu,Nat.sub_self,List.getElem?_cons_zero]
theorem free_of5 {w:World} {b j:Nat} {cs:Array Value} {t:TypeId} (h:w.heap[b]? =some (.cells cs t (0,0))):w.frozen? ⟨b,j,none⟩=false:=by
 simp[World.frozen?,h]
theorem two_set5 {W:World} {r:Nat} {z0 z1:Value} {t:TypeId} (h:W.heap[r]? =some (.cells #[z0,z1] t (0,0))) (c0 c1:Value): ∃WF,(W.setCell ⟨r,0,none⟩ c0).setCell ⟨r,1,none⟩ c1=WF∧WF.heap[r]? =some (.cells #[c0,c1] t (0,0))∧Kept (fun g=>g=r) W WF:=
 ⟨_,rfl,mx_set (mx_set h (j:=0) c0) (j:=1) c1,((Kept.refl (fun g=>g=r) W).setCell ⟨r,0,none⟩ _ rfl).setCell ⟨r,1,none⟩ _ rfl⟩
theorem res_two5 {fn:Func} {s:Nat} (h:fn.results= #[.cell s 38]) {w:World} {r:Nat} {c0 c1:Value} {t:TypeId} (h6:w.heap[r]? =some (.cells #[c0,c1] t (0,0)))
  (tmps:Array Value) (t6:tmps[s]?.getD undef= .pointer (some ⟨r,0,none⟩)):
  (results fn tmps).run Tryz.prog w= .ok (.agg #[c0,c1]) w:=by
 have p0:=mx_cell (j:=0) h6
 have p1:=mx_cell (j:=1) h6
 simp at p0 p1
 simp[results,h,go_sem,t6,p0,p1]
set_option maxRecDepth 100000 in
set_option maxHeartbeats 4000000 in
theorem theirs_05 {O:Nat→Prop} (vn:Int) (u:Value) (cs:List (List Int)) (w:World) (h:ClsIn O w u cs) (hl:cs.length≤1000000) (hcl: ∀c∈cs,c.length≤1000000):
  Calls Tryz.prog 12 #[.agg #[.int .i64 vn,u]] w fun e w'=> ∃v,e= .returned (.agg #[.int .i64 vn,v])∧LstOwn w.heap.size w' v cs∧Below w.heap.size w w':=by
 obtain⟨i0,hi,hz0,hz1,hz2⟩:=info_parts info_lst
 have HC:=Lib.hid h
 have HCL:=Lib.hid hcl
 obtain⟨A,c,rfl,hc,_⟩:=h
 obtain⟨W1,hW1,hb1,hx1,hz1'⟩:=al_new w #[.int .i64 vn,.slice A cs.length c] 24
 obtain⟨W2,hW2,hb2,hx2,hz2'⟩:=al_new W1 #[.int .i64 0,.slice none 0 0] 38
 rw[hz1']at hx2
 have hx1':=(hb2.block _ (heap_lt hx1)).trans hx1
 have HW1:=Lib.hid hW1
 have HW2:=Lib.hid hW2
 clear hcl hW1 hW2
 go_enter Tryz.func12,Tryz.ntmps12
 go_upto_region 1 with fail
 rw[HW1.out,HW2.out]
 have b0:=mx_cell (j:=0) hx1'
 have b1:=mx_cell (j:=1) hx1'
 obtain⟨W3,hW3,hb3,hx3,hz3'⟩:=al_new W2 #[.int .i64 vn,.slice none 0 0] 38
 rw[hz2',hz1']at hx3
 have hx13:=(hb3.block _ (heap_lt hx1')).trans hx1'
 have hx23:=(hb3.block _ (heap_lt hx2)).trans hx2
 have HW3:=Lib.hid hW3
 have HX2:=Lib.hid hx23
 have HX3:=Lib.hid hx3
 have hz3:W3.heap.size=w.heap.size+1+1+1:=by omega
 have HB3:=Lib.hid (show Below w.heap.size w W3 from(hb1.trans (hb2.mono hb1.size)).trans (hb3.mono (by omega)))
 clear hW3
 go_upto_region 2 with fail
 rw[HW3.out]
 clear b0 b1
 have b1:=mx_cell (j:=1) hx13
 clear hb1 hb2 hb3 hx1 hx1' hx2 hx3 hx13 hx23 hz1' hz2' hz3' HW1 HW2 HW3
 go_wp2_with fail
 clear b1
 go_loopw [12] (fun iv wr=> ∃(k:Nat) (ov:Value),k≤cs.length∧iv= .int .i64 k∧Hid (wr.heap[w.heap.size+1+1]? =some (.cells #[.int .i64 vn,ov] 38 (0,0)))∧Hid (LstOwn W3.heap.size wr ov (cs.take k))∧Hid (Kept (fun g=>g=w.heap.size+1+1) W3 wr)) (fun iv _=>cs.length-(intOf iv).toNat)
 case atStart=>exact⟨0,.slice none 0 0,Nat.zero_le _,rfl,HX3,Lib.hid ⟨[],World.ownsRow_nil _ _ _ _,fun i xs h=>by simp at h⟩,Lib.hid (Kept.refl _ _)⟩
 case round=>
  obtain⟨k,ov,hk,rfl,HBX,HR,HK⟩:=hrel
  have hzr:=HK.out.size
  by_cases hlt:k<cs.length
  ·obtain⟨x,hxk⟩:=getElem_of hlt
   have HXL:=Lib.hid (HCL.out x (List.mem_of_getElem? hxk))
   obtain⟨A',c',hv,_,_,hx⟩:=HC.out
   simp only[Value.slice.injEq,true_and]at hv
   obtain⟨rfl,rfl⟩:=hv
   obtain⟨g,o,uv,rfl,hg,_,d0,hu⟩:=hx k x hxk
   have hkw:Kept (fun g=>w.heap.size≤g) w wr:=(Kept.of_below HB3.out).trans (HK.out.mono (O':=fun g=>w.heap.size≤g) (fun g _ e=>by omega)) (fun _ _ h=>h) |>.mono (fun _ _ h=>h)
   have hbw:Below w.heap.size w wr:=hkw.below (fun _ h=>h) (Nat.le_refl _)
   have d1:=(hbw.cell (p:=⟨g,o+k,none⟩) hg).trans d0
   have HM:=Lib.hid (fun(X:World) (hX:Below wr.heap.size wr X)=>ints02 uv x X ((hu.below hbw).below hX) HXL.out)
   obtain⟨us,h1,h2⟩:=HR.out
   have hlk:(cs.take k).length=k:=by rw[List.length_take];omega
   have HUS:=Lib.hid h1
   have HU2:=Lib.hid h2
   have HLK:=Lib.hid hlk
   rw[hlk]at h1
   obtain⟨Ao,co,rfl,_⟩:=mx_slice h1
   obtain⟨Au,cu,rfl,_⟩:=hu
   have HO1:=Lib.hid h1
   have HTK:=Lib.hid (show cs.take (k+1)=cs.take k++ [x]from by
    rw[List.take_add_one,hxk]
    rfl)
   have hbl:w.heap.size+1+1<wr.heap.size:=heap_lt HBX.out
   have HBC:=Lib.hid (show wr.cell? ⟨w.heap.size+1+1,1,none⟩=some (.slice Ao k co)from mx_cell (j:=1) HBX.out)
   clear h1 h2 hlk hxk d0 hx hkw hbw
   go_upto_region 5 with fail
   refine wp_region_sink_at (S:=fun w'=>w'.cell? ⟨w.heap.size+1+1,1,none⟩=some (.slice Ao k co)) (by kernel_rfl) rfl (by kernel_rfl) (((mx_drew wr).cell (p:=⟨w.heap.size+1+1,1,none⟩) hbl).trans HBC.out) (fun hS=>?_)
   have hbD:=mx_drew wr
   obtain⟨xD,hxD⟩: ∃z,wr.drew=z:=⟨_,rfl⟩
   rw[hxD]at hS hbD⊢
   clear hxD
   refine takeE 0 16 ?_
   refine takeS 1 17 ?_
   refine takeE 2 18 ?_
   refine ready1 3 (fun K hK=>?_)
   go_simp
   refine(HM.out _ hbD).mono ?_
   rintro e w1 ⟨vx,rfl,hox,hb1⟩
   obtain⟨Ax,cx,rfl,_⟩:=mx_slice hox
   have hbr1:=hbD.trans (hb1.mono hbD.size)
   refine hK.out _ _ ((hbr1.cell (p:=⟨w.heap.size+1+1,1,none⟩) hbl).trans HBC.out) (fun _=>?_)
   clear hK
   refine ready1 4 (fun K hK=>?_)
   go_simp
   obtain⟨w2,hw2,hb2,-,hzw2⟩:=al_new w1 #[.slice Ax x.length cx] 32
   rw[hw2]
   have hbr2:=hbr1.trans (hb2.mono hbr1.size)
   refine hK.out _ _ ((hbr2.cell (p:=⟨w.heap.size+1+1,1,none⟩) hbl).trans HBC.out) (fun _=>?_)
   clear hK
   have hwz1:=hbr1.size
   have hwz2:=hbr2.size
   refine ready1 5 (fun K hK=>?_)
   rw[if_pos (by rfl)]
   refine wp_append_at 21 (by rfl) _ _ 36 rfl W3.heap.size 32 i0 (.slice none 0 0) 1 24 Tryz.underlying36 hi hz0 hz1 hz2 rfl (by decide) _ k _ (by rfl) (own_below HO1.out hbr2) ⟨w1.heap.size,0,none⟩ 1 1 [.slice Ax x.length cx] (by rfl) rfl (by rw[←hw2];exact cell_one_new' _ _ _) (by simp[Value.oneCell']) (by unfold maxLen;omega) (by omega) (by omega) ?_
   intro v' w4 hown hgrow hat
   obtain⟨Av,cv,rfl,_⟩:=mx_slice hown
   have hgk:=Kept.grown hgrow
   have hblk:=(hgk.block (w.heap.size+1+1) (Nat.lt_of_lt_of_le hbl hwz2) (fun e=>mx_not HO1.out HBX.out (by decide) e.symm)).trans ((hbr2.block _ hbl).trans HBX.out)
   have HBK:=Lib.hid hblk
   have hpush:=LstOwn.push HUS.out HU2.out hbr2 (own_below (own_mono hox (by have:=hbD.size;omega)) hb2) hgrow (by rw[HLK.out];exact hown)
   rw[←HTK.out]at hpush
   have HP:=Lib.hid hpush
   have HK4:=Lib.hid (show Kept (fun g=>g=w.heap.size+1+1) W3 w4 from(HK.out.trans (Kept.of_below hbr2) (fun _ _ h=>h)).trans hgk (fun i hi e=>by
    have:=(own_lt HO1.out i e.symm).1
    omega))
   refine hK.out _ _ (mx_cell (j:=1) hblk) (fun _=>?_)
   clear hK hown hgrow hat hgk hblk hpush hox hb1 hb2 hbr1 hbr2 hbD hw2 hzw2
   simp only[Act.put,List.setIfInBounds_toArray,List.set_cons_zero,List.set_cons_succ]
   refine takeE 6 22 ?_
   refine wpAnyH_done (by kernel_rfl) ?_ _
   refine lastPost_normal ?_
   have y1:=mx_cell (j:=1) HBK.out
   have f1:=free_of5 (j:=1) HBK.out
   refine wpOp_step rfl (fun K hK=>?_)
   go_simp
   refine hK _ _ ?_
   clear hK y1 f1
   have hk5:Kept (fun g=>g=w.heap.size+1+1) w4 (w4.setCell ⟨w.heap.size+1+1,1,none⟩ (.slice Av (k+1) cv)):=(Kept.refl (fun g=>g=w.heap.size+1+1) w4).setCell ⟨w.heap.size+1+1,1,none⟩ _ rfl
   have HB5:=Lib.hid (show(w4.setCell ⟨w.heap.size+1+1,1,none⟩ (.slice Av (k+1) cv)).heap[w.heap.size+1+1]? =some (.cells #[.int .i64 vn,.slice Av (k+1) cv] 38 (0,0))from mx_set HBK.out _ (j:=1))
   have HP5:=Lib.hid (HP.out.kept hk5 (fun g hg e=>by omega))
   have HK5:=Lib.hid (HK4.out.trans hk5 (fun _ _ h=>h))
   clear hk5
   go_wp2_with fail
   go_roundw
   case rel=>exact⟨k+1,.slice Av (k+1) cv,by omega,by go_num,HB5,HP5,HK5⟩
   case measure=>simp[intOf];omega
  ·obtain rfl:k=cs.length:=by omega
   have hR:=HR.out
   rw[List.take_length]at hR
   have HRF:=Lib.hid hR
   obtain⟨Ao,co,rfl,_⟩:=mx_slice hR.choose_spec.1
   have hb2r:=(HK.out.block (w.heap.size+1) (by omega) (by omega)).trans HX2.out
   have HBR:=Lib.hid hb2r
   have y0:=mx_cell (j:=0) HBX.out
   have y1:=mx_cell (j:=1) HBX.out
   have x0:=mx_cell (j:=0) hb2r
   have x1:=mx_cell (j:=1) hb2r
   have f0:=free_of5 (j:=0) hb2r
   have f1:=free_of5 (j:=1) hb2r
   clear hR hb2r
   go_wp2_with fail
   obtain⟨WF,hWF,hrF,hkF⟩:=two_set5 HBR.out (.int .i64 vn) (.slice Ao cs.length co)
   rw[hWF]
   refine bodyPost_ret (res_two5 rfl hrF _ rfl) rfl ?_
   refine⟨_,rfl,?_,?_⟩
   ·have:=HRF.out.kept hkF (fun g hg e=>by omega)
    obtain⟨us,q1,q2⟩:=this
    exact⟨us,own_mono q1 (by omega),fun i xs hi=>by
     obtain⟨u,q3,q4⟩:=q2 i xs hi
     exact⟨u,q3,own_mono q4 (by omega)⟩⟩
   ·have hkw:Kept (fun g=>w.heap.size≤g) w WF:=((Kept.of_below HB3.out).trans (HK.out.mono (O':=fun g=>w.heap.size≤g) (fun g _ e=>by omega)) (fun _ _ h=>h)).trans (hkF.mono (O':=fun g=>w.heap.size≤g) (fun g _ e=>by omega)) (fun _ _ h=>h)
    exact hkw.below (fun _ h=>h) (Nat.le_refl _)
end Go.Proofs.YtajbmjpodeilpaaGreat
namespace Go.Proofs.YtajbmjpodeilpaaGreat
open Go.RowKit
theorem ref_var01 (x:Int) (w:World):Calls Tryz.prog 54 #[.int .i64 x] w fun e w'=>e= .returned (.int .i64 (litV x:Nat))∧w=w':=by
 obtain⟨b,hb⟩: ∃b,litB x=b:=⟨_,rfl⟩
 have HR:=ref_right_lit x w
 rw[hb]at HR
 have HR:=Lib.hid HR
 cases b with
 | false=>
  have HV:=Lib.hid (show litV x=0 from by unfold litV;rw[if_neg (by rw[hb];decide)])
  clear hb
  go_enter Tryz.func54,Tryz.ntmps54
  go_wp2_with fail
  refine HR.out.mono ?_
  rintro e w' ⟨rfl,rfl⟩
  go_wp2_with fail
  go_ret
  exact⟨by rw[HV.out];rfl,rfl⟩
 | true=>
  have HV:=Lib.hid (show litV x=x.natAbs from by unfold litV;rw[if_pos hb])
  have hbb:=(litB_iff x).1 hb
  clear hb
  by_cases hx:x<0
  ·
   have q0:decide (x<0)=true:=by simpa using hx
   have w1:IntKind.i64.wrap (-x)= -x:=IntWalk.i64_in _ (by omega)
   go_enter Tryz.func54,Tryz.ntmps54
   go_wp2_with fail
   refine HR.out.mono ?_
   rintro e w' ⟨rfl,rfl⟩
   go_wp2_with fail
   go_ret
   exact⟨by rw[HV.out];exact congrArg (fun z=>Ending.returned (.int .i64 z)) (by omega),rfl⟩
  ·
   have q0:decide (x<0)=false:=by simpa using hx
   go_enter Tryz.func54,Tryz.ntmps54
   go_wp2_with fail
   refine HR.out.mono ?_
   rintro e w' ⟨rfl,rfl⟩
   go_wp2_with fail
   go_ret
   exact⟨by rw[HV.out];exact congrArg (fun z=>Ending.returned (.int .i64 z)) (by omega),rfl⟩
theorem dropAt5 {α:Type} {l:List α} {k:Nat} {x:α} (h:l[k]? =some x):l.drop k=x::l.drop (k+1):=by
 have hk:=(List.getElem?_eq_some_iff.1 h).1
 have:=List.drop_eq_getElem_cons hk
 rwa [show l[k]=x from Option.some.inj ((List.getElem?_eq_getElem hk).symm.trans h)]at this
set_option maxRecDepth 100000 in
set_option maxHeartbeats 4000000 in
theorem ref_check05 {O:Nat→Prop} (vn:Int) (u:Value) (cs:List (List Int)) (w:World) (h:ClsIn O w u cs) (hl:cs.length≤100000000000) (hcl: ∀c∈cs,c.length≤100000000000):
  Calls Tryz.prog 23 #[.agg #[.int .i64 vn,u]] w fun e w'=>e= .returned (.tuple #[.int .i64 (fchk vn cs).1,.int .i64 ((fchk vn cs).2:Nat)])∧Below w.heap.size w w':=by
 obtain⟨W,hW,hb,hn,-⟩:=al_new w #[.int .i64 vn,u] 38
 have b0:W.cell? ⟨w.heap.size,0,none⟩=some (.int .i64 vn):=mx_cell (j:=0) hn
 have b1:W.cell? ⟨w.heap.size,1,none⟩=some u:=mx_cell (j:=1) hn
 have hlt:=heap_lt hn
 have HN:=Lib.hid hn
 have HW:=Lib.hid hW
 have HB:=Lib.hid hb
 have HC:=Lib.hid (h.below hb)
 have HCL:=Lib.hid hcl
 obtain⟨R,hR⟩: ∃R,fchk vn cs=R:=⟨_,rfl⟩
 rw[hR]
 have HF:=Lib.hid (show(if(decide (0≤vn)&&decide (vn≤1048576))=false then(-1,50)else if 262144<cs.length then(-1,5)else fchkGo vn 0 cs)=R from hR)
 obtain⟨A,c,rfl,hc,_⟩:=h
 clear hb hn hW hcl hR
 go_enter Tryz.func23,Tryz.ntmps23
 go_upto_region 1 with fail
 rw[HW.out]
 by_cases h1:vn<0
 ·have hE:=HF.out
  rw[if_pos (by rw[decide_eq_false (by omega)];rfl)]at hE
  subst hE
  have q1:decide (vn<0)=true:=decide_eq_true h1
  go_wp2_with fail
  go_ret2
  exact⟨rfl,HB.out⟩
 have q1:decide (vn<0)=false:=decide_eq_false h1
 by_cases h2:1048576<vn
 ·have hE:=HF.out
  rw[if_pos (by rw[decide_eq_false (show¬vn≤1048576 by omega),Bool.and_false])]at hE
  subst hE
  have q2:decide (1048576<vn)=true:=decide_eq_true h2
  go_wp2_with fail
  go_ret2
  exact⟨rfl,HB.out⟩
 have q2:decide (1048576<vn)=false:=decide_eq_false h2
 have hE:=HF.out
 rw[if_neg (by rw[decide_eq_true (show 0≤vn by omega),decide_eq_true (show vn≤1048576 by omega)];decide)]at hE
 by_cases h3:262144<cs.length
 ·rw[if_pos h3]at hE
  subst hE
  have q3:decide ((262144:Int)<(cs.length:Int))=true:=decide_eq_true (by omega)
  have q3':(262144:Int)<(cs.length:Int):=by omega
  go_wp2_with fail
  go_ret2
  exact⟨rfl,HB.out⟩
 rw[if_neg h3]at hE
 have q3:decide ((262144:Int)<(cs.length:Int))=false:=decide_eq_false (by omega)
 have q3': ¬(262144:Int)<(cs.length:Int):=by omega
 have HE:=Lib.hid hE
 clear hE HF
 go_wp2_with fail
 clear b0 b1
 go_loopw [4] (fun iv wr=> ∃i:Nat,i≤cs.length∧iv= .int .i64 i∧Hid (fchkGo vn i (cs.drop i)=R)∧Hid (Below W.heap.size W wr)) (fun iv _=>cs.length-(intOf iv).toNat)
 case atStart=>exact⟨0,Nat.zero_le _,rfl,Lib.hid HE.out,Lib.hid (Below.refl _ _)⟩
 case round=>
  obtain⟨i,hi,rfl,HG,HBR⟩:=hrel
  have hBR:=HBR.out
  have b1:=(hBR.cell (p:=⟨w.heap.size,1,none⟩) hlt).trans (mx_cell (j:=1) HN.out)
  by_cases hlt2:i<cs.length
  ·obtain⟨x,hx⟩:=getElem_of hlt2
   have hG:=HG.out
   rw[dropAt5 hx,fchkGo]at hG
   have HXL:=Lib.hid (HCL.out x (List.mem_of_getElem? hx))
   obtain⟨A',c',hv,_,_,hxx⟩:=HC.out
   simp only[Value.slice.injEq,true_and]at hv
   obtain⟨rfl,rfl⟩:=hv
   obtain⟨g,o,uv,rfl,hg,_,d0,hu⟩:=hxx i x hx
   have d1:=(hBR.cell (p:=⟨g,o+i,none⟩) hg).trans d0
   have HRT:=Lib.hid (ref_right_clause uv x wr (hu.below hBR) (by have:=HXL.out;omega))
   have HU:=Lib.hid hu
   obtain⟨Au,cu,rfl,hcu,_⟩:=hu
   have wi:IntKind.i64.wrap (i:Int)=(i:Int):=IntWalk.i64_in _ (by omega)
   have wi1:IntKind.i64.wrap ((i:Int)+1)=(i:Int)+1:=IntWalk.i64_in _ (by omega)
   obtain⟨cb,hcb⟩: ∃b,clauseB x=b:=⟨_,rfl⟩
   rw[hcb]at HRT hG
   have HCB:=Lib.hid hcb
   have HG2:=Lib.hid hG
   clear hG hx hxx d0 hcb
   cases cb with
   | false=>
    have hE:=HG2.out
    rw[if_pos rfl]at hE
    subst hE
    go_wp2_with fail
    refine HRT.out.mono ?_
    rintro e w' ⟨rfl,rfl⟩
    go_wp2_with fail
    go_ret2
    exact⟨rfl,HB.out.trans (HBR.out.mono HB.out.size)⟩
   | true=>
    have hE:=HG2.out
    rw[if_neg (by decide)]at hE
    have HLB:=Lib.hid (show∀y∈x,litB y=true from fun y hy=>by
     have:=HCB.out
     unfold clauseB at this
     rw[Bool.and_eq_true]at this
     exact List.all_eq_true.1 this.2 y hy)
    obtain⟨bb,hbb⟩: ∃b,x.any (beyB vn)=b:=⟨_,rfl⟩
    rw[hbb]at hE
    have HBB:=Lib.hid hbb
    have HG3:=Lib.hid hE
    have hxl:=HXL.out
    clear hE hbb HG2
    have hq:decide ((i:Int)<(cs.length:Int))=true:=decide_eq_true (by omega)
    have hq':(i:Int)<(cs.length:Int):=by omega
    have HB1:=HBR
    clear HBR hBR
    obtain⟨wo,rfl⟩: ∃wo:World,wo=wr:=⟨_,rfl⟩
    go_wp2_with fail
    refine HRT.out.mono ?_
    rintro e w' ⟨rfl,rfl⟩
    go_wp2_with fail
    clear b1 d1
    go_loopw [6] (fun kv wr=> ∃k:Nat,k≤x.length∧kv= .int .i64 k∧Hid (bb=(x.drop k).any (beyB vn))∧Hid (Below W.heap.size W wr)) (fun kv _=>x.length-(intOf kv).toNat)
    case atStart=>exact⟨0,Nat.zero_le _,rfl,Lib.hid HBB.out.symm,HB1⟩
    case round=>
     obtain⟨k,hk,rfl,HK,HBR⟩:=hrel
     have hBR:=HBR.out
     by_cases hkl:k<x.length
     ·obtain⟨y,hy⟩:=getElem_of hkl
      have hyb:=HLB.out y (List.mem_of_getElem? hy)
      have hkk:=HK.out
      rw[dropAt5 hy,List.any_cons]at hkk
      have hby:beyB vn y=decide (vn<(litV y:Nat)):=by unfold beyB;rw[hyb];rfl
      rw[hby]at hkk
      obtain⟨A'',c'',hv,_,_,hyy⟩:=HU.out
      simp only[Value.slice.injEq,true_and]at hv
      obtain⟨rfl,rfl⟩:=hv
      obtain⟨g2,o2,rfl,hg2,_,e0⟩:=hyy k y hy
      have e1:=(hBR.cell (p:=⟨g2,o2+k,none⟩) hg2).trans e0
      have c0:=(hBR.cell (p:=⟨w.heap.size,0,none⟩) hlt).trans (mx_cell (j:=0) HN.out)
      have hgr:g2<wr.heap.size:=Nat.lt_of_lt_of_le hg2 hBR.size
      have hwr:w.heap.size<wr.heap.size:=Nat.lt_of_lt_of_le hlt hBR.size
      obtain⟨lv,hlv⟩: ∃lv:Nat,litV y=lv:=⟨_,rfl⟩
      have HVR:=Lib.hid (fun W=>ref_var01 y W)
      rw[hlv]at HVR hkk
      obtain⟨q,hq2⟩: ∃q,decide (vn<(lv:Int))=q:=⟨_,rfl⟩
      rw[hq2]at hkk
      have HKK:=Lib.hid hkk
      have wk1:IntKind.i64.wrap ((k:Int)+1)=(k:Int)+1:=IntWalk.i64_in _ (by omega)
      have hkd:decide ((k:Int)<(x.length:Int))=true:=decide_eq_true (by omega)
      have hkd':(k:Int)<(x.length:Int):=by omega
      clear hkk hby hyy hy e0 hyb hlv
      go_upto_region 14 with fail
      refine wp_region_held_drew (S:=fun w'=>Below wr.heap.size wr w') (by kernel_rfl) (mx_drew wr) (fun hS=>?_)
      obtain⟨xD,hxD⟩: ∃z,wr.drew=z:=⟨_,rfl⟩
      rw[hxD]at hS⊢
      clear hxD
      refine takeE 0 41 ?_
      refine takeE 1 42 ?_
      refine takeE 2 43 ?_
      refine takeF 3 44 (fun wq hSw=>(hSw.cell (p:=⟨g2,o2+k,none⟩) hgr).trans e1) ?_
      refine takeE 5 46 ?_
      refine takeF 6 47 (fun wq hSw=>(hSw.cell (p:=⟨w.heap.size,0,none⟩) hwr).trans c0) ?_
      refine ready1 4 (fun K hK=>?_)
      go_simp
      refine(HVR.out _).mono ?_
      rintro e w' ⟨rfl,rfl⟩
      refine hK.out _ _ hS (fun _=>?_)
      clear hK
      refine takeE 7 48 ?_
      refine wpAnyH_done (by kernel_rfl) ?_ _
      have HBD:=Lib.hid (hBR.trans (hS.mono hBR.size))
      clear hS hBR e1 c0
      cases q with
      | true=>
       have hE:=HG3.out
       rw[if_pos (by rw[HKK.out];rfl)]at hE
       subst hE
       go_wp2_with fail
       go_ret2
       exact⟨rfl,HB.out.trans (HBD.out.mono HB.out.size)⟩
      | false=>
       go_wp2_with fail
       go_roundw
       case rel=>exact⟨k+1,by omega,by go_num,Lib.hid (by rw[HKK.out,Bool.false_or]),HBD⟩
       case measure=>simp[intOf];omega
     ·obtain rfl:k=x.length:=by omega
      have hkd:decide ((x.length:Int)<(x.length:Int))=false:=decide_eq_false (by omega)
      have hF:=HK.out
      rw[List.drop_length]at hF
      have hE:=HG3.out
      rw[if_neg (by rw[hF,List.any_nil];decide)]at hE
      have HE2:=Lib.hid hE
      clear hF hE hBR
      go_wp2_with fail
      go_roundw
      case rel=>exact⟨i+1,by omega,by go_num,HE2,HBR⟩
      case measure=>simp[intOf];omega
  ·obtain rfl:i=cs.length:=by omega
   have hE:=HG.out
   rw[List.drop_length,fchkGo]at hE
   subst hE
   go_wp2_with fail
   go_ret2
   exact⟨rfl,HB.out.trans (HBR.out.mono HB.out.size)⟩
end Go.Proofs.YtajbmjpodeilpaaGreat
