/- minim: reason, implied, covered. -/
import Derived.Test.YtoojmhjagipmdaaGreatV313
import Derived.Test.YtoojmhjagipmdaaGreatV325
namespace Go.Proofs.YtoojmhjagipmdaaGreat
open Go.RowKit
def FstAt (xs:List Int) (P:Int→Bool) (i:Int):Prop:=(i= -1∧∀x∈xs,P x=false)∨∃k:Nat,i=k∧k<xs.length∧(∀j x,j<k→xs[j]? =some x→P x=false)∧∃x,xs[k]? =some x∧P x=true
theorem FstAt.any {xs:List Int} {P:Int→Bool} {i:Int} (h:FstAt xs P i):decide (0≤i)=xs.any P:=by
 rcases h with⟨rfl,h⟩|⟨k,rfl,_,_,x,hx,hp⟩
 ·have:xs.any P=false:=List.any_eq_false.2 (fun x hx=>by rw[h x hx];decide)
  rw[this]
  rfl
 ·have:xs.any P=true:=List.any_eq_true.2 ⟨x,List.mem_of_getElem? hx,hp⟩
  rw[this]
  exact decide_eq_true (by omega)
theorem fail_one {O:Nat→Prop} (b q:Nat) (T:Trl) (x:Int) (w:World) (h:TrAt O w b T) (hq:w.cell? ⟨q,0,none⟩=some (.pointer (some ⟨b,0,none⟩))):
  Calls Tryz.prog 151 #[.int .i64 x,.pointer (some ⟨q,0,none⟩)] w fun e w'=>e= .returned (.bool (decide (0≤T.val x)))∧Below w.heap.size w w':=by
 have HV:=Lib.hid (tr_value b T x w h)
 obtain⟨z,hz⟩: ∃z,T.val x=z:=⟨_,rfl⟩
 rw[hz]at HV⊢
 clear hz h
 go_enter Tryz.func151,Tryz.ntmps151
 go_wp2_with fail
 refine HV.out.mono ?_
 rintro e w' ⟨rfl,hb⟩
 have HB:=Lib.hid hb
 clear hb
 go_wp2_with fail
 go_ret
 exact⟨rfl,HB.out⟩
set_option maxRecDepth 100000 in
set_option maxHeartbeats 1000000 in
theorem index_fails {O Oc:Nat→Prop} (b q:Nat) (T:Trl) (u:Value) (xs:List Int) (w:World) (h:TrAt O w b T) (hq:w.cell? ⟨q,0,none⟩=some (.pointer (some ⟨b,0,none⟩))) (h1:IntsIn Oc w u xs) (hs:xs.length≤4194304):
  Calls Tryz.prog 113 #[u,.func (.func 151) #[] #[.pointer (some ⟨q,0,none⟩)]] w fun e w'=>(∃i:Int,e= .returned (.int .i64 i)∧FstAt xs (fun l=>decide (0≤T.val l)) i)∧Below w.heap.size w w':=by
 have HONE:=Lib.hid (fun(W:World) (hb:Below w.heap.size w W) (x:Int)=>fail_one b q T x W (h.below hb) ((hb.cell (p:=⟨q,0,none⟩) (World.block_lt_of_cell? w _ hq)).trans hq))
 have HX:=Lib.hid h1
 obtain⟨A,c,rfl,hc,_,_⟩:=h1
 go_enter Tryz.func113,Tryz.ntmps113
 go_wp2
 go_loopw [8] (fun i wr=> ∃k:Nat,k≤xs.length∧i= .int .i64 k∧Hid (∀j x,j<k→xs[j]? =some x→((fun l=>decide (0≤T.val l))) x=false)∧Hid (Below w.heap.size w wr)) (fun i _=>xs.length-(intOf i).toNat)
 case atStart=>exact⟨0,Nat.zero_le _,rfl,Lib.hid (fun j x hj=>by omega),Lib.hid (Below.refl _ _)⟩
 case round=>
  obtain⟨k,hk,rfl,HE,HW⟩:=hrel
  by_cases hlt:k<xs.length
  ·obtain⟨x,hxk⟩:=getElem_of hlt
   obtain⟨A',c',hAc,_,_,hxs⟩:=HX.out.below HW.out
   simp only[Value.slice.injEq,true_and]at hAc
   obtain⟨rfl,rfl⟩:=hAc
   obtain⟨g,o,rfl,hg,_,d1⟩:=hxs k x hxk
   have HXK:=Lib.hid hxk
   have HC:=Lib.hid (HONE.out wr HW.out x)
   clear hxk hxs
   obtain⟨b,hb⟩: ∃b,((fun l=>decide (0≤T.val l))) x=b:=⟨_,rfl⟩
   have HB:=Lib.hid hb
   simp only[]at hb
   rw[hb]at HC
   clear hb
   cases b with
   | true=>
    go_wp2_with fail
    refine HC.out.mono ?_
    rintro e w' ⟨rfl,hbw⟩
    have HB2:=Lib.hid (HW.out.trans (hbw.mono HW.out.size))
    clear hbw d1
    go_wp2
    go_ret
    exact⟨⟨_,rfl,.inr ⟨k,rfl,hlt,HE.out,x,HXK.out,HB.out⟩⟩,HB2.out⟩
   | false=>
    go_wp2_with fail
    refine HC.out.mono ?_
    rintro e w' ⟨rfl,hbw⟩
    have HB2:=Lib.hid (HW.out.trans (hbw.mono HW.out.size))
    clear hbw d1
    go_wp2
    go_roundw
    case rel=>exact⟨k+1,by omega,by go_num,Lib.hid (fun j y hj hy=>by
     rcases Nat.lt_or_ge j k with h|h
     ·exact HE.out j y h hy
     ·obtain rfl:j=k:=by omega
      rw[HXK.out]at hy
      obtain rfl:=Option.some.inj hy
      exact HB.out),HB2⟩
    case measure=>simp[intOf];omega
  ·obtain rfl:k=xs.length:=by omega
   go_wp2
   go_ret
   exact⟨⟨_,rfl,.inl ⟨rfl,fun x hx=>by
    obtain⟨j,hj⟩:=List.getElem?_of_mem hx
    exact HE.out j x (List.getElem?_eq_some_iff.1 hj).1 hj⟩⟩,HW.out⟩
set_option maxHeartbeats 400000 in
theorem contains_fails {O Oc:Nat→Prop} (b q:Nat) (T:Trl) (u:Value) (xs:List Int) (w:World) (h:TrAt O w b T) (hq:w.cell? ⟨q,0,none⟩=some (.pointer (some ⟨b,0,none⟩))) (h1:IntsIn Oc w u xs) (hs:xs.length≤4194304):
  Calls Tryz.prog 103 #[u,.func (.func 151) #[] #[.pointer (some ⟨q,0,none⟩)]] w fun e w'=>e= .returned (.bool (xs.any (fun l=>decide (0≤T.val l))))∧Below w.heap.size w w':=by
 have H0:=index_fails b q T u xs w h hq h1 hs
 obtain⟨z,hz⟩: ∃z,xs.any (fun l=>decide (0≤T.val l))=z:=⟨_,rfl⟩
 rw[hz]
 have HZ:=Lib.hid hz
 have H:=Lib.hid H0
 clear H0 hz
 go_enter Tryz.func103,Tryz.ntmps103
 go_wp2_with fail
 refine H.out.mono ?_
 rintro e w' ⟨⟨i,rfl,hi⟩,hb⟩
 have HI:=Lib.hid (show decide (0≤i)=z from by rw[hi.any];exact HZ.out)
 have HB:=Lib.hid hb
 clear hi hb
 go_wp2_with fail
 go_ret
 exact⟨ret_bool HI.out,HB.out⟩
set_option maxRecDepth 100000 in
set_option maxHeartbeats 1000000 in
theorem mn_failing {O Oc:Nat→Prop} (b:Nat) (T:Trl) (u:Value) (c:List Int) (w:World) (h:TrAt O w b T) (hc:IntsIn Oc w u c) (hs:c.length≤4194304):
  Calls Tryz.prog 116 #[.pointer (some ⟨b,0,none⟩),u] w fun e w'=>e= .returned (.int .i64 (failE T c:Nat))∧Below w.heap.size w w':=by
 obtain⟨wa,hwa⟩: ∃x,w.alloc (.cells #[.pointer (some ⟨b,0,none⟩)] 38)=x:=⟨_,rfl⟩
 have hba:Below w.heap.size w wa:=by rw[←hwa];exact mx_al _ _
 have hbn:wa.cell? ⟨w.heap.size,0,none⟩=some (.pointer (some ⟨b,0,none⟩)):=by rw[←hwa];exact mx_cell (j:=0) (World.alloc_heap_new _ _)
 have HR:=Lib.hid (right_clause u c wa (hc.below hba) (by omega))
 have HC:=Lib.hid (contains_fails b w.heap.size T u c wa (h.below hba) hbn (hc.below hba) hs)
 have HBA:=Lib.hid hba
 have HWA:=Lib.hid hwa
 unfold failE
 obtain⟨Ac,cc,rfl,_⟩:=hc
 cases hcb:clauseB c with
 | false=>
  rw[hcb]at HR
  clear h hba hwa hbn HC hcb
  go_enter Tryz.func116,Tryz.ntmps116
  go_wp2_with (rw[HWA.out])
  refine HR.out.mono ?_
  rintro e w' ⟨rfl,rfl⟩
  go_wp2_with fail
  go_ret
  exact⟨rfl,HBA.out⟩
 | true=>
  rw[hcb]at HR
  obtain⟨z,hz⟩: ∃z,c.any (fun l=>decide (0≤T.val l))=z:=⟨_,rfl⟩
  rw[hz]at HC⊢
  clear h hba hwa hbn hcb hz
  go_enter Tryz.func116,Tryz.ntmps116
  go_wp2_with (rw[HWA.out])
  refine HR.out.mono ?_
  rintro e w' ⟨rfl,rfl⟩
  go_wp2_with fail
  refine HC.out.mono ?_
  rintro e w' ⟨rfl,hb⟩
  have HB:=Lib.hid (HBA.out.trans (hb.mono HBA.out.size))
  clear hb
  cases z with
  | true=>
   go_wp2_with fail
   go_ret
   exact⟨rfl,HB.out⟩
  | false=>
   go_wp2_with fail
   go_ret
   exact⟨rfl,HB.out⟩
end Go.Proofs.YtoojmhjagipmdaaGreat
namespace Go.Proofs.YtoojmhjagipmdaaGreat
open Go.RowKit
theorem reason_one (q:Nat) (v x:Int) (w:World) (hq:w.cell? ⟨q,0,none⟩=some (.int .i64 v)):
  Calls Tryz.prog 157 #[.int .i64 x,.pointer (some ⟨q,0,none⟩)] w fun e w'=>e= .returned (.bool (decide ((litV x:Int)=v)))∧Below w.heap.size w w':=by
 have HV:=Lib.hid (fun w=>lit_var x w)
 have HQ:=Lib.hid hq
 have hql:=World.block_lt_of_cell? w _ hq
 obtain⟨lv,hlv⟩: ∃z:Int,((litV x:Nat):Int)=z:=⟨_,rfl⟩
 rw[hlv]at HV⊢
 clear hlv hq
 obtain⟨z,hz⟩: ∃z,decide (lv=v)=z:=⟨_,rfl⟩
 have hz2:(lv==v)=z:=by rw[←hz];rfl
 rw[hz]
 clear hz
 go_enter Tryz.func157,Tryz.ntmps157
 go_upto_region 1 with fail
 refine wp_region_held_drew (S:=fun w'=>Below w.heap.size w w') (by kernel_rfl) (mx_drew w) (fun hS=>?_)
 refine takeE 0 4 ?_
 refine takeF 2 6 (fun wq hSw=>(hSw.cell (p:=⟨q,0,none⟩) hql).trans HQ.out) ?_
 refine ready1 1 (fun K hK=>?_)
 go_simp
 refine(HV.out _).mono ?_
 rintro e w' ⟨rfl,rfl⟩
 refine hK.out _ _ hS (fun _=>?_)
 clear hK
 refine takeE 3 7 ?_
 refine takeE 4 3 ?_
 refine wpAnyH_done (by kernel_rfl) ?_ _
 go_wp2_with fail
 go_ret
 exact⟨rfl,hS⟩
set_option maxRecDepth 100000 in
set_option maxHeartbeats 1000000 in
theorem index_reason {Oc:Nat→Prop} (q:Nat) (v:Int) (u:Value) (xs:List Int) (w:World) (hq:w.cell? ⟨q,0,none⟩=some (.int .i64 v)) (h1:IntsIn Oc w u xs) (hs:xs.length≤4194304):
  Calls Tryz.prog 113 #[u,.func (.func 157) #[] #[.pointer (some ⟨q,0,none⟩)]] w fun e w'=>(∃i:Int,e= .returned (.int .i64 i)∧FstAt xs (fun l=>decide ((litV l:Int)=v)) i)∧Below w.heap.size w w':=by
 have HONE:=Lib.hid (fun(W:World) (hb:Below w.heap.size w W) (x:Int)=>reason_one q v x W ((hb.cell (p:=⟨q,0,none⟩) (World.block_lt_of_cell? w _ hq)).trans hq))
 have HX:=Lib.hid h1
 obtain⟨A,c,rfl,hc,_,_⟩:=h1
 go_enter Tryz.func113,Tryz.ntmps113
 go_wp2
 go_loopw [8] (fun i wr=> ∃k:Nat,k≤xs.length∧i= .int .i64 k∧Hid (∀j x,j<k→xs[j]? =some x→((fun l=>decide ((litV l:Int)=v))) x=false)∧Hid (Below w.heap.size w wr)) (fun i _=>xs.length-(intOf i).toNat)
 case atStart=>exact⟨0,Nat.zero_le _,rfl,Lib.hid (fun j x hj=>by omega),Lib.hid (Below.refl _ _)⟩
 case round=>
  obtain⟨k,hk,rfl,HE,HW⟩:=hrel
  by_cases hlt:k<xs.length
  ·obtain⟨x,hxk⟩:=getElem_of hlt
   obtain⟨A',c',hAc,_,_,hxs⟩:=HX.out.below HW.out
   simp only[Value.slice.injEq,true_and]at hAc
   obtain⟨rfl,rfl⟩:=hAc
   obtain⟨g,o,rfl,hg,_,d1⟩:=hxs k x hxk
   have HXK:=Lib.hid hxk
   have HC:=Lib.hid (HONE.out wr HW.out x)
   clear hxk hxs
   obtain⟨b,hb⟩: ∃b,((fun l=>decide ((litV l:Int)=v))) x=b:=⟨_,rfl⟩
   have HB:=Lib.hid hb
   simp only[]at hb
   rw[hb]at HC
   clear hb
   cases b with
   | true=>
    go_wp2_with fail
    refine HC.out.mono ?_
    rintro e w' ⟨rfl,hbw⟩
    have HB2:=Lib.hid (HW.out.trans (hbw.mono HW.out.size))
    clear hbw d1
    go_wp2
    go_ret
    exact⟨⟨_,rfl,.inr ⟨k,rfl,hlt,HE.out,x,HXK.out,HB.out⟩⟩,HB2.out⟩
   | false=>
    go_wp2_with fail
    refine HC.out.mono ?_
    rintro e w' ⟨rfl,hbw⟩
    have HB2:=Lib.hid (HW.out.trans (hbw.mono HW.out.size))
    clear hbw d1
    go_wp2
    go_roundw
    case rel=>exact⟨k+1,by omega,by go_num,Lib.hid (fun j y hj hy=>by
     rcases Nat.lt_or_ge j k with h|h
     ·exact HE.out j y h hy
     ·obtain rfl:j=k:=by omega
      rw[HXK.out]at hy
      obtain rfl:=Option.some.inj hy
      exact HB.out),HB2⟩
    case measure=>simp[intOf];omega
  ·obtain rfl:k=xs.length:=by omega
   go_wp2
   go_ret
   exact⟨⟨_,rfl,.inl ⟨rfl,fun x hx=>by
    obtain⟨j,hj⟩:=List.getElem?_of_mem hx
    exact HE.out j x (List.getElem?_eq_some_iff.1 hj).1 hj⟩⟩,HW.out⟩
theorem own_setr {w:World} {base size n c g:Nat} {e:TypeId} {xs:List Value} (j:Nat) (h:w.ownsRow base e size (.slice (some ⟨g,0,none⟩) n c) n xs) (v:Value):
  (w.setCell ⟨g,j,none⟩ v).ownsRow base e size (.slice (some ⟨g,0,none⟩) n c) n (xs.set j v):=by
 obtain⟨h0,h1⟩:=h
 rcases h1 with⟨h1,_⟩|⟨g',cap,cur,hv,hb,hg,hle,hm,hs,hx⟩
 ·cases h1
 ·cases hv
  refine⟨by rw[List.length_set,h0],.inr ⟨g,c,_,rfl,hb,mx_set hg _,hle,hm,by simpa using hs,?_⟩⟩
  rw[Array.toList_setIfInBounds,List.take_set,hx]
theorem own_freer {w:World} {base size n c g:Nat} {e:TypeId} {xs:List Value} (h:w.ownsRow base e size (.slice (some ⟨g,0,none⟩) n c) n xs) (j:Nat):w.frozen? ⟨g,j,none⟩=false:=by
 rcases h.2 with⟨h1,_⟩|⟨g',cap,cur,hv,_,hg,_⟩
 ·cases h1
 ·cases hv
  exact mx_free hg
theorem setCells_keep (b o:Nat) (vs:List Value) (w:World) (base:Nat) (hb:base≤b):(∀k,k<o→(w.setCells b o vs).cell? ⟨b,k,none⟩=w.cell? ⟨b,k,none⟩)∧Below base w (w.setCells b o vs):=by
 induction vs generalizing o w with
 | nil=>exact⟨fun _ _=>rfl,Below.refl _ _⟩
 | cons v vs ih=>
  obtain⟨h1,h2⟩:=ih (o+1) (w.setCell ⟨b,o,none⟩ v)
  refine⟨fun k hk=>?_,?_⟩
  ·show((w.setCell ⟨b,o,none⟩ v).setCells b (o+1) vs).cell? _=_
   rw[h1 k (by omega)]
   have hne:(⟨b,o,none⟩:Addr)≠⟨b,k,none⟩:=fun e=>by
    have h3:o=k:=congrArg Addr.off e
    omega
   rw[World.cell?_setCell_other (h:=hne)]
  ·exact((Below.refl base w).setCell (p:=⟨b,o,none⟩) hb v).trans h2
theorem lit_zero (w:World):(zeroValue 32).run Tryz.prog w= .ok (.int .i64 0) w:=by kernel_rfl
def keepP (v:Int) (c:List Int) (k:Nat):List Int:=rest15 v (c.take k)
theorem keepP_succ (v:Int) (c:List Int) (k:Nat) (x:Int) (hx:c[k]? =some x):keepP v c (k+1)=if(litV x:Int)=v then keepP v c k else keepP v c k++ [x]:=by
 unfold keepP rest15
 rw[List.take_add_one,hx]
 show(c.take k++ [x]).filter _=_
 rw[List.filter_append]
 split
 ·rename_i h
  rw[List.filter_cons_of_neg (by simpa using h)]
  simp
 ·rename_i h
  rw[List.filter_cons_of_pos (by simpa using h)]
  simp
theorem keepP_all (v:Int) (c:List Int):keepP v c c.length=rest15 v c:=by unfold keepP;rw[List.take_length]
theorem keepP_fst (v:Int) (c:List Int) (k:Nat) (h: ∀j x,j<k→c[j]? =some x→decide ((litV x:Int)=v)=false):keepP v c k=c.take k:=by
 unfold keepP rest15
 refine List.filter_eq_self.2 (fun x hx=>?_)
 obtain⟨j,hj,e⟩:=List.getElem_of_mem hx
 rw[List.length_take]at hj
 rw[List.getElem_take]at e
 have:=h j x (by omega) (by rw[List.getElem?_eq_getElem (by omega),e])
 simpa using this
set_option maxRecDepth 100000 in
set_option maxHeartbeats 4000000 in
theorem delete_reason (q base:Nat) (v:Int) (u:Value) (c:List Int) (w:World) (h:w.ownsRow base 32 1 u c.length (c.map (Value.int .i64))) (hq:w.cell? ⟨q,0,none⟩=some (.int .i64 v)) (hqb:q<base) (hbz:base≤w.heap.size) (hs:c.length≤4194304):
  Calls Tryz.prog 64 #[u,.func (.func 157) #[] #[.pointer (some ⟨q,0,none⟩)]] w fun e w'=>(∃u',e= .returned u'∧IntsIn (fun g=>base≤g) w' u' (rest15 v c))∧Below base w w':=by
 have HQ:=Lib.hid hq
 have hql:=World.block_lt_of_cell? w _ hq
 have HIX:=Lib.hid (index_reason q v u c w hq (IntsIn.of_own h) hs)
 have HOW:=Lib.hid h
 obtain⟨Au,cu,rfl,hcu⟩:=mx_slice h
 clear h hq
 go_enter Tryz.func64,Tryz.ntmps64
 go_wp2_with fail
 refine HIX.out.mono ?_
 rintro e w1 ⟨⟨i,rfl,hi⟩,hb⟩
 have HB1:=Lib.hid hb
 have HO1:=Lib.hid (own_below HOW.out hb)
 clear hb HIX
 rcases hi with⟨rfl,hno⟩|⟨i0,rfl,hil,hfst,x0,hx0,hp0⟩
 ·have HR:=Lib.hid (show rest15 v c=c from by
   unfold rest15
   exact List.filter_eq_self.2 (fun x hx=>by have:=hno x hx;simpa using this))
  clear hno
  go_wp2_with fail
  go_ret
  exact⟨⟨_,rfl,by rw[HR.out];exact(IntsIn.of_own HO1.out).mono (fun g hg=>hg.1)⟩,HB1.out.mono hbz⟩
 ·obtain⟨gu,cu',csu,hsl,_,hgb,hgl,_,_⟩:=mx_some HO1.out (by omega)
  simp only[Value.slice.injEq,true_and]at hsl
  obtain⟨rfl,rfl⟩:=hsl
  have HK0:=Lib.hid (keepP_fst v c i0 hfst)
  have HK1:=Lib.hid (show keepP v c (i0+1)=keepP v c i0 from by rw[keepP_succ v c i0 x0 hx0,if_pos (by simpa using hp0)])
  have hkl:(keepP v c i0).length=i0:=by rw[HK0.out,List.length_take];omega
  have HKL:=Lib.hid hkl
  have q1:((i0:Int)== -1)=false:=by simp
  have w1':IntKind.i64.wrap ((i0:Int)+1)=(i0:Int)+1:=IntWalk.i64_in _ (by omega)
  clear hfst hx0 hp0 hkl
  go_wp2_with fail
  go_loopw [5,6,7] (fun iv jv _ wr=> ∃(i j:Nat) (ys:List Int),i+1≤j∧j≤c.length∧iv= .int .i64 i∧jv= .int .i64 j∧Hid ((keepP v c j).length=i)∧Hid (ys.length=c.length)∧Hid (ys.take i=keepP v c j)∧Hid (∀k,j≤k→ys[k]? =c[k]?)∧Hid (wr.ownsRow base 32 1 (.slice (some ⟨gu,0,none⟩) c.length cu) c.length (ys.map (Value.int .i64)))∧Hid (Below base w wr)) (fun _ jv _ _=>c.length-(intOf jv).toNat)
  case atStart=>exact⟨i0,i0+1,c,Nat.le_refl _,hil,rfl,by go_num,Lib.hid (by rw[HK1.out];exact HKL.out),Lib.hid rfl,Lib.hid (by rw[HK1.out,HK0.out]),Lib.hid (fun _ _=>rfl),HO1,Lib.hid (HB1.out.mono hbz)⟩
  case round=>
   obtain⟨i,j,ys,hij,hjc,rfl,rfl,HIL,HYL,HYT,HYR,HO,HB⟩:=hrel
   by_cases hlt:j<c.length
   ·obtain⟨x,hx⟩:=getElem_of hlt
    have d0:wr.cell? ⟨gu,j,none⟩=some (.int .i64 x):=mx_at HO.out (by rw[List.getElem?_map,HYR.out j (Nat.le_refl _),hx];rfl)
    have hqw:wr.cell? ⟨q,0,none⟩=some (.int .i64 v):=(HB.out.cell (p:=⟨q,0,none⟩) hqb).trans HQ.out
    have HR:=Lib.hid (reason_one q v x wr hqw)
    have HKS:=Lib.hid (keepP_succ v c j x hx)
    have w2':IntKind.i64.wrap ((j:Int)+1)=(j:Int)+1:=IntWalk.i64_in _ (by omega)
    have w3':IntKind.i64.wrap ((i:Int)+1)=(i:Int)+1:=IntWalk.i64_in _ (by omega)
    have hjcu:j<cu:=by omega
    have HX:=Lib.hid hx
    clear hx hqw
    by_cases hv:(litV x:Int)=v
    ·have HV:=Lib.hid hv
     rw[decide_eq_true hv]at HR
     clear hv
     go_wp2_with fail
     refine HR.out.mono ?_
     rintro e w2 ⟨rfl,hb⟩
     have HB2:=Lib.hid (HB.out.trans (hb.mono (Nat.le_trans hbz HB.out.size)))
     have HO2:=Lib.hid (own_below HO.out hb)
     clear hb d0
     go_wp2_with fail
     go_roundw
     case rel=>exact⟨i,j+1,ys,by omega,by omega,rfl,by go_num,Lib.hid (by rw[HKS.out,if_pos HV.out];exact HIL.out),HYL,Lib.hid (by rw[HKS.out,if_pos HV.out];exact HYT.out),Lib.hid (fun k hk=>HYR.out k (by omega)),HO2,HB2⟩
     case measure=>simp[intOf];omega
    ·have HV:=Lib.hid hv
     rw[decide_eq_false hv]at HR
     clear hv
     go_wp2_with fail
     refine HR.out.mono ?_
     rintro e w2 ⟨rfl,hb⟩
     have HB2:=Lib.hid (HB.out.trans (hb.mono (Nat.le_trans hbz HB.out.size)))
     have HO2:=Lib.hid (own_below HO.out hb)
     clear hb d0
     obtain⟨y,hy⟩: ∃y,(ys.map (Value.int .i64))[i]? =some y:=getElem_of (by rw[List.length_map,HYL.out];omega)
     have p0:=mx_at HO2.out hy
     obtain⟨_,_,csw,hsl2,_,_,_,hblk,_⟩:=mx_some HO2.out (by omega)
     simp only[Value.slice.injEq,true_and,Option.some.injEq,Addr.mk.injEq,and_true]at hsl2
     have fr:=mx_free (j:=i) (by rw[hsl2.1];exact hblk:w2.heap[gu]? =_)
     have hicu:i<cu:=by omega
     clear hy hblk hsl2
     have HO3:=Lib.hid (show(w2.setCell ⟨gu,i,none⟩ (.int .i64 x)).ownsRow base 32 1 (.slice (some ⟨gu,0,none⟩) c.length cu) c.length ((ys.set i x).map (Value.int .i64))from by
      rw[List.map_set]
      exact own_setr i HO2.out (.int .i64 x))
     have HB3:=Lib.hid (HB2.out.setCell (p:=⟨gu,i,none⟩) hgb (.int .i64 x))
     go_wp2_with fail
     go_roundw
     case rel=>exact⟨i+1,j+1,ys.set i x,by omega,by omega,by go_num,by go_num,Lib.hid (by rw[HKS.out,if_neg HV.out,List.length_append,HIL.out];rfl),Lib.hid (by rw[List.length_set];exact HYL.out),Lib.hid (by
      rw[HKS.out,if_neg HV.out,←HYT.out,List.take_add_one,List.getElem?_set_self (by rw[HYL.out];omega),List.take_set_of_le (Nat.le_refl _)]
      rfl),Lib.hid (fun k hk=>by rw[List.getElem?_set_ne (by omega)];exact HYR.out k (by omega)),HO3,HB3⟩
     case measure=>simp[intOf];omega
   ·obtain rfl:j=c.length:=by omega
    have hic:i<cu:=by omega
    have hicl:i<c.length:=by omega
    obtain⟨m,hm⟩: ∃m,c.length-i=m:=⟨_,rfl⟩
    have hm0:0<m:=by omega
    have HOF:=Lib.hid (fun k (hk:k<c.length)=>(by
     obtain⟨y,hy⟩: ∃y,(ys.map (Value.int .i64))[k]? =some y:=getElem_of (by rw[List.length_map,HYL.out];omega)
     rw[mx_at HO.out hy]
     rfl:(wr.cell? ⟨gu,k,none⟩).isSome=true))
    have hcl:=fun ty cc=>Lib.run_clear_slice (P:=Tryz.prog) wr 34 32 ty (.int .i64 0) Tryz.underlying34 lit_zero rfl rfl gu i m cc hm0 (fun k hk=>HOF.out (i+k) (by omega)) (fun k _=>own_freer HO.out (i+k))
    obtain⟨wz,hwz⟩: ∃x,wr.setCells gu i (List.replicate m (.int .i64 0))=x:=⟨_,rfl⟩
    rw[hwz]at hcl
    have HKZ:=Lib.hid (show(∀k,k<i→wz.cell? ⟨gu,k,none⟩=wr.cell? ⟨gu,k,none⟩)∧Below base wr wz from by rw[←hwz];exact setCells_keep gu i _ wr base hgb)
    have HFIN:=Lib.hid (show IntsIn (fun g=>base≤g) wz (.slice (some ⟨gu,0,none⟩) i cu) (rest15 v c)from by
     have hl:(rest15 v c).length=i:=by rw[←keepP_all,HIL.out]
     refine⟨some ⟨gu,0,none⟩,cu,by rw[hl],by rw[hl];omega,(fun h=>by cases h),fun k x hk=>⟨gu,0,rfl,?_,hgb,?_⟩⟩
     ·exact Nat.lt_of_lt_of_le (own_lt HO.out gu rfl).2 HKZ.out.2.size
     ·have hki:k<i:=by rw[←hl];exact(List.getElem?_eq_some_iff.1 hk).1
      rw[Nat.zero_add,HKZ.out.1 k hki]
      refine mx_at HO.out ?_
      rw[List.getElem?_map]
      have:=HYT.out
      rw[keepP_all]at this
      rw[←this,List.getElem?_take_of_lt hki]at hk
      rw[hk]
      rfl)
    have HBZ:=Lib.hid (HB.out.trans HKZ.out.2)
    clear hwz
    go_wp2_with fail
    go_ret
    exact⟨⟨_,rfl,HFIN.out⟩,HBZ.out⟩
end Go.Proofs.YtoojmhjagipmdaaGreat
namespace Go.Proofs.YtoojmhjagipmdaaGreat
open Go.RowKit
def Wk (w:World) (a b mb:Nat) (A:Arn) (T:Trl) (u:Value) (c:List Int):Prop:= ∃OA OT OC:Nat→Prop,ArAt OA w a A∧TrAt OT w b T∧IntsIn OC w u c∧¬OA mb∧¬OT mb∧¬OC mb∧mb<w.heap.size
theorem Wk.kept {w w':World} {a b mb:Nat} {A:Arn} {T:Trl} {u:Value} {c:List Int} (h:Wk w a b mb A T u c) (k:Kept (fun g=>g=mb) w w'):Wk w' a b mb A T u c:=by
 obtain⟨OA,OT,OC,h1,h2,h3,h4,h5,h6,h7⟩:=h
 exact⟨OA,OT,OC,h1.kept k (fun g hg e=>h4 (e▸hg)),h2.kept k (fun g hg e=>h5 (e▸hg)),h3.kept k (fun g hg e=>h6 (e▸hg)),h4,h5,h6,Nat.lt_of_lt_of_le h7 k.size⟩
theorem Wk.below {w w':World} {a b mb:Nat} {A:Arn} {T:Trl} {u:Value} {c:List Int} (h:Wk w a b mb A T u c) (k:Below w.heap.size w w'):Wk w' a b mb A T u c:=h.kept (Kept.of_below k)
theorem rbxw (w:World) (ca ct:Array Value) (ta tt:TypeId): ∃wa,((w.alloc (.cells ca ta)).alloc (.cells ct tt))=wa∧Below w.heap.size w wa∧wa.heap[w.heap.size]? =some (.cells ca ta (0,0))∧wa.heap[w.heap.size+1]? =some (.cells ct tt (0,0)):=by
 refine⟨_,rfl,(mx_al _ _).alloc (by simp) _,?_,?_⟩
 ·rw[Below.heap_alloc _ _ _ (by simp)]
  exact World.alloc_heap_new _ _
 ·have:=World.alloc_heap_new (w.alloc (.cells ca ta)) (.cells ct tt)
  rwa [World.size_alloc]at this
theorem right_get_any {T:Trl} {its:List RIt} (h:Sim T its) {A:Arn} {v:Int} (hr:rightB A T v=true): ∃c,A.get (T.reason v)=some c:=by
 unfold rightB at hr
 split at hr
 ·cases hr
 split at hr
 ·cases hr
 rename_i h1 h2
 have key: ∀l:Int,(litV l:Int)=v→(rightP A T l).isSome=true→∃c,A.get (T.reason v)=some c:=fun l hl hr=>by
  unfold rightP at hr
  rw[hl]at hr
  split at hr
  ·cases hr
  ·rename_i c hc
   exact⟨c,hc⟩
 by_cases hb:litB v=true
 ·have hv:=litV_pos hb
  refine key _ ?_ hr
  split
  ·rw[show litN v= -v from by unfold litN;rw[if_pos hb],litV_negate]
   omega
  ·omega
 ·exfalso
  have hz:=litV_zero (Bool.eq_false_iff.2 hb)
  apply h1
  unfold Trl.val
  rw[hz]
  cases ha:T.at ((0:Nat):Int)with
  | none=>rfl
  | some s=>
   have hn:=h.why_none (v:=0) (fun x hx e=>by
    have:=litV_pos (h.litb hx)
    omega)
   unfold Trl.why at hn
   rw[ha]at hn
   simp only at hn
   split at hn
   ·rename_i h0
    simp[h0]
   ·cases hn
set_option maxRecDepth 100000 in
set_option maxHeartbeats 4000000 in
theorem mn_reason_any (a b mb:Nat) (A:Arn) (T:Trl) (its:List RIt) (Ac:Option Addr) (cc:Nat) (c:List Int) (v:Int) (w:World) (hs:Sim T its) (hw:Wk w a b mb A T (.slice Ac c.length cc) c):
  Calls Tryz.prog 123 #[(.agg #[.pointer (some ⟨a,0,none⟩),.pointer (some ⟨b,0,none⟩),.slice Ac c.length cc,.map (some mb)]),.int .i64 v] w fun e w'=>((why15 A T v=none∧e= .returned (.tuple #[.int .i64 0,.slice none 0 0,.bool false]))∨∃r u',why15 A T v=some r∧e= .returned (.tuple #[.int .i64 r.1,u',.bool true])∧IntsIn (fun g=>w.heap.size≤g) w' u' r.2∧r.2.length≤4194304)∧Below w.heap.size w w':=by
 have HRG:=Lib.hid (fun h=>right_get_any (A:=A) (v:=v) hs h)
 clear hs
 obtain⟨OA,OT,OC,h1,h2,_⟩:=hw
 obtain⟨wa,hwa,hba,hb0,hb1⟩:=rbxw w #[.pointer (some ⟨a,0,none⟩),.pointer (some ⟨b,0,none⟩),.slice Ac c.length cc,.map (some mb)] #[.int .i64 v] 123 3
 have HA:=Lib.hid (h1.below hba)
 have HT:=Lib.hid (h2.below hba)
 have HBA:=Lib.hid hba
 have HWA:=Lib.hid hwa
 have HB0:=Lib.hid hb0
 have HB1:=Lib.hid hb1
 have hz0:=heap_lt hb0
 have hz1:=heap_lt hb1
 have HR:=Lib.hid (an_right a b A T v wa HA.out HT.out)
 obtain⟨rb,hrb⟩: ∃z,rightB A T v=z:=⟨_,rfl⟩
 rw[hrb]at HR HRG
 have HRB:=Lib.hid hrb
 have hcA0:=mx_cell (j:=0) hb0
 have hcA1:=mx_cell (j:=1) hb0
 have hcB:=mx_cell (j:=0) hb1
 clear h1 h2 hba hwa hb0 hb1 hrb
 go_enter Tryz.func123,Tryz.ntmps123
 go_upto_region 1 with fail
 rw[HWA.out]
 go_wp2_with fail
 refine HR.out.mono ?_
 rintro e w2 ⟨rfl,hb⟩
 have HB2:=Lib.hid hb
 clear hb hcA0 hcA1 hcB HR
 cases rb with
 | false=>
  have HN:=Lib.hid (show why15 A T v=none from by unfold why15;rw[HRB.out];rfl)
  go_wp2_with fail
  go_ret3
  exact⟨.inl ⟨HN.out,rfl⟩,HBA.out.trans (HB2.out.mono HBA.out.size)⟩
 | true=>
  obtain⟨c0,hc0⟩:=HRG.out rfl
  have HC0:=Lib.hid hc0
  have HW1:=Lib.hid (show why15 A T v=some (T.reason v,rest15 v c0)from by unfold why15;rw[HRB.out,if_pos rfl,hc0])
  have hrl:=Arn.get_len HA.out.1 hc0
  have d1:=(HB2.out.cell (p:=⟨w.heap.size,1,none⟩) hz0).trans (mx_cell (j:=1) HB0.out)
  have dv:=(HB2.out.cell (p:=⟨w.heap.size+1,0,none⟩) hz1).trans (mx_cell (j:=0) HB1.out)
  have HRE:=Lib.hid (tr_reason b T v w2 (HT.out.below HB2.out))
  clear hc0 HRG
  go_wp2_with fail
  refine HRE.out.mono ?_
  rintro e w3 ⟨rfl,hb⟩
  have HB3:=Lib.hid (HB2.out.trans (hb.mono HB2.out.size))
  clear hb d1 dv HRE
  have d0:=(HB3.out.cell (p:=⟨w.heap.size,0,none⟩) hz0).trans (mx_cell (j:=0) HB0.out)
  have HGE:=Lib.hid (ar_get a A (T.reason v) c0 w3 (HA.out.below HB3.out) HC0.out)
  obtain⟨rr,hrr⟩: ∃z,T.reason v=z:=⟨_,rfl⟩
  rw[hrr]at HW1 HGE⊢
  clear hrr
  go_wp2_with fail
  refine HGE.out.mono ?_
  rintro e w4 ⟨v4,rfl,hown,hb⟩
  have HB4:=Lib.hid (HB3.out.trans (hb.mono HB3.out.size))
  have hz3:=HB3.out.size
  have hdl:=delete_reason (w.heap.size+1) w3.heap.size v v4 c0 w4 hown ((HB4.out.cell (p:=⟨w.heap.size+1,0,none⟩) hz1).trans (mx_cell (j:=0) HB1.out)) (by omega) hb.size hrl
  have HDL:=Lib.hid hdl
  clear hb d0 HGE hown hdl
  go_wp2_with fail
  refine HDL.out.mono ?_
  rintro e w5 ⟨⟨u5,rfl,hi5⟩,hb⟩
  have HI5:=Lib.hid (hi5.mono (O':=fun g=>w.heap.size≤g) (fun g hg=>by omega))
  have HB5:=Lib.hid (HBA.out.trans ((HB4.out.trans (hb.mono hz3)).mono HBA.out.size))
  clear hi5 hb HDL
  go_wp2_with fail
  go_ret3
  exact⟨.inr ⟨_,_,HW1.out,rfl,HI5.out,Nat.le_trans (List.length_filter_le _ _) hrl⟩,HB5.out⟩
theorem mn_reason (a b mb:Nat) (A:Arn) (T:Trl) (its:List RIt) (Ac:Option Addr) (cc:Nat) (c:List Int) (p:Nat) (x:RIt) (w:World) (hs:Sim T its) (_:its[p]? =some x) (hw:Wk w a b mb A T (.slice Ac c.length cc) c):
  Calls Tryz.prog 123 #[(.agg #[.pointer (some ⟨a,0,none⟩),.pointer (some ⟨b,0,none⟩),.slice Ac c.length cc,.map (some mb)]),.int .i64 (litV x.lit:Nat)] w fun e w'=>((why15 A T (litV x.lit:Nat)=none∧e= .returned (.tuple #[.int .i64 0,.slice none 0 0,.bool false]))∨∃r u',why15 A T (litV x.lit:Nat)=some r∧e= .returned (.tuple #[.int .i64 r.1,u',.bool true])∧IntsIn (fun g=>w.heap.size≤g) w' u' r.2∧r.2.length≤4194304)∧Below w.heap.size w w':=by
 exact mn_reason_any a b mb A T its Ac cc c _ w hs hw
def CovAt (a b mb:Nat) (A:Arn) (T:Trl) (its:List RIt) (Ac:Option Addr) (cc:Nat) (c:List Int) (B:Nat) (p:Nat):Prop:= ∀x,its[p]? =some x→∀(w:World) (f:Int→Int) (kk:Nat),Wk w a b mb A T (.slice Ac c.length cc) c→MapAt w mb kk f→Kq A T its c f (p+1)→kk+2*zer its f≤B→
 Calls Tryz.prog 77 #[(.agg #[.pointer (some ⟨a,0,none⟩),.pointer (some ⟨b,0,none⟩),.slice Ac c.length cc,.map (some mb)]),.int .i64 (-x.lit)] w fun e w'=> ∃(f':Int→Int) (kk':Nat),e= .returned (.bool (cov15 A T c (-x.lit)))∧MapAt w' mb kk' f'∧Kq A T its c f' (p+1)∧(∀q y,p<q→its[q]? =some y→f' (litV y.lit:Nat)=f (litV y.lit:Nat))∧kk'+2*zer its f'≤kk+2*zer its f∧Kept (fun g=>g=mb) w w'
def ImpAt (a b mb:Nat) (A:Arn) (T:Trl) (its:List RIt) (Ac:Option Addr) (cc:Nat) (c:List Int) (B:Nat) (p:Nat):Prop:= ∀x,its[p]? =some x→∀(w:World) (f:Int→Int) (kk:Nat),Wk w a b mb A T (.slice Ac c.length cc) c→MapAt w mb kk f→Kq A T its c f p→kk+2*zer its f≤B→
 Calls Tryz.prog 75 #[(.agg #[.pointer (some ⟨a,0,none⟩),.pointer (some ⟨b,0,none⟩),.slice Ac c.length cc,.map (some mb)]),.int .i64 (litV x.lit:Nat)] w fun e w'=> ∃(f':Int→Int) (kk':Nat),e= .returned (.bool (impl15 A T c (litV x.lit:Nat)))∧MapAt w' mb kk' f'∧Kq A T its c f' p∧(∀q y,p≤q→its[q]? =some y→f' (litV y.lit:Nat)=f (litV y.lit:Nat))∧kk'+2*zer its f'≤kk+2*zer its f∧Kept (fun g=>g=mb) w w'
set_option maxRecDepth 100000 in
set_option maxHeartbeats 4000000 in
theorem imp_of_cov (a b mb:Nat) (A:Arn) (T:Trl) (its:List RIt) (Ac:Option Addr) (cc:Nat) (c:List Int) (B:Nat) (p:Nat) (hs:Sim T its) (ih: ∀q,q<p→CovAt a b mb A T its Ac cc c B q):ImpAt a b mb A T its Ac cc c B p:=by
 intro x hp w f kk hw hm hk hB
 have HMR:=Lib.hid (fun w (hw:Wk w a b mb A T (.slice Ac c.length cc) c)=>mn_reason a b mb A T its Ac cc c p x w hs hp hw)
 have HIA:=Lib.hid (impl15_at hs (A:=A) c hp)
 have HRS:=Lib.hid (fun r (h:why15 A T (litV x.lit:Nat)=some r)=>why15_rest hs hp h)
 have HSI:=Lib.hid hs
 obtain⟨v,hv⟩: ∃z:Int,((litV x.lit:Nat):Int)=z:=⟨_,rfl⟩
 rw[hv]at HMR HIA HRS⊢
 obtain⟨wa,hwa⟩: ∃z,w.alloc (.cells #[.pointer (some ⟨a,0,none⟩),.pointer (some ⟨b,0,none⟩),.slice Ac c.length cc,.map (some mb)] 123)=z:=⟨_,rfl⟩
 have hba:Below w.heap.size w wa:=by rw[←hwa];exact mx_al _ _
 have hbn:wa.heap[w.heap.size]? =some (.cells #[.pointer (some ⟨a,0,none⟩),.pointer (some ⟨b,0,none⟩),.slice Ac c.length cc,.map (some mb)] 123 (0,0)):=by rw[←hwa];exact World.alloc_heap_new _ _
 have HWK:=Lib.hid (hw.below hba)
 have HMA:=Lib.hid (hm.below hba)
 have HBA:=Lib.hid hba
 have HWA:=Lib.hid hwa
 have HBN:=Lib.hid hbn
 have HKN:=Lib.hid hk
 have hzw:=heap_lt hbn
 have hmb:=hm.lt
 have hnm:w.heap.size≠mb:=by omega
 have c0:=mx_cell (j:=0) hbn
 have c1:=mx_cell (j:=1) hbn
 have c2:=mx_cell (j:=2) hbn
 have c3:=mx_cell (j:=3) hbn
 have HMRA:=Lib.hid (HMR.out wa HWK.out)
 clear hp hs hv hba hwa hbn hw hm hk HMR
 go_enter Tryz.func75,Tryz.ntmps75
 go_upto_region 1 with fail
 rw[HWA.out]
 refine wp_scope_straight ?_
 go_wp2_with fail
 refine HMRA.out.mono ?_
 rintro e w2 ⟨hor,hb⟩
 have HB2:=Lib.hid hb
 have HM2:=Lib.hid (HMA.out.below hb)
 clear hb c0 c1 c2 c3 HMRA
 rcases hor with⟨hn,rfl⟩|⟨r,u',hr,rfl,hi,hrl⟩
 ·have HE:=Lib.hid (show impl15 A T c v=false from by rw[HIA.out,hn])
  clear hn
  go_wp2_with fail
  refine wp_label ?_
  go_wp2_with fail
  go_loopw [7,19] (fun okv iv wr=>okv= .bool false∧iv= .int .i64 0∧wr=w2) (fun _ _ _=>0)
  case atStart=>exact⟨rfl,rfl,rfl⟩
  case round=>
   obtain⟨rfl,rfl,rfl⟩:=hrel
   go_wp2_with fail
   rw[Exit.noGoto_ret]
   go_ret
   exact⟨f,kk,by rw[HE.out];rfl,HM2.out,HKN.out,fun _ _ _ _=>rfl,Nat.le_refl _,Kept.of_below (HBA.out.trans (HB2.out.mono HBA.out.size))⟩
 ·have HE:=Lib.hid (show impl15 A T c v=r.2.all (fun l=>cov15 A T c l)from by rw[HIA.out,hr])
  have HRR:=Lib.hid (HRS.out r hr)
  have HI:=Lib.hid hi
  obtain⟨Au,cu,rfl,hcu,_,_⟩:=hi
  obtain⟨id,rs⟩:=r
  simp only at HE HRR HI hrl hcu⊢
  have hB2:kk+2*zer its f≤B:=hB
  clear hr HRS HIA
  go_wp2_with fail
  refine wp_label ?_
  go_wp2_with fail
  go_loopw [7,19] (fun okv iv wr=> ∃(j:Nat) (f':Int→Int) (kk':Nat),j≤rs.length∧iv= .int .i64 j∧okv= .bool true∧Hid (∀l∈rs.take j,cov15 A T c l=true)∧Hid (MapAt wr mb kk' f')∧Hid (Kq A T its c f' p)∧Hid (∀q y,p≤q→its[q]? =some y→f' (litV y.lit:Nat)=f (litV y.lit:Nat))∧kk'+2*zer its f'≤kk+2*zer its f∧Hid (Kept (fun g=>g=mb) w2 wr)) (fun _ iv _=>rs.length-(intOf iv).toNat)
  case atStart=>exact⟨0,f,kk,Nat.zero_le _,rfl,rfl,Lib.hid (fun l hl=>by cases hl),HM2,HKN,Lib.hid (fun _ _ _ _=>rfl),Nat.le_refl _,Lib.hid (Kept.refl _ _)⟩
  case round=>
   obtain⟨j,f1,k1,hj,rfl,rfl,HAL,HMF,HKF,HUP,hbd,HKW⟩:=hrel
   by_cases hlt:j<rs.length
   ·obtain⟨l,hl⟩:=getElem_of hlt
    obtain⟨A',c',hAc,_,_,hxs⟩:=HI.out
    simp only[Value.slice.injEq,true_and]at hAc
    obtain⟨rfl,rfl⟩:=hAc
    obtain⟨g,o,rfl,hg,hgo,d0'⟩:=hxs j l hl
    have hgm:g≠mb:=by
     have:=HBA.out.size
     omega
    have d0:wr.cell? ⟨g,o+j,none⟩=some (.int .i64 l):=(HKW.out.cell (p:=⟨g,o+j,none⟩) hg hgm).trans d0'
    have hzw2:w.heap.size<w2.heap.size:=Nat.lt_of_lt_of_le hzw HB2.out.size
    have hkb:=(HKW.out.block w.heap.size hzw2 hnm).trans ((HB2.out.block w.heap.size hzw).trans HBN.out)
    have c0:=mx_cell (j:=0) hkb
    have c1:=mx_cell (j:=1) hkb
    have c2:=mx_cell (j:=2) hkb
    have c3:=mx_cell (j:=3) hkb
    obtain⟨hf1,hf2⟩:=HRR.out l (List.mem_of_getElem? hl)
    obtain⟨q,y,hq,hly,hlv⟩:=HSI.out.fal hf1
    have hqp:q<p:=by
     rw[←hlv,HSI.out.rp hq]at hf2
     omega
    subst hly
    have hcv:=ih q hqp y hq wr f1 k1 ((HWK.out.below HB2.out).kept HKW.out) HMF.out (fun q' y' hq' hy'=>HKF.out q' y' (by omega) hy') (by omega)
    obtain⟨cv,hcve⟩: ∃z,cov15 A T c (-y.lit)=z:=⟨_,rfl⟩
    rw[hcve]at hcv
    have HCV:=Lib.hid hcv
    have HCE:=Lib.hid hcve
    have HL:=Lib.hid hl
    have HQ:=Lib.hid hq
    clear hcv hcve hl hq hf1 hf2 hlv hxs hgo d0' hkb
    go_wp2_with fail
    refine HCV.out.mono ?_
    rintro e w3 ⟨f2,k2,rfl,hm2,hk2,hu2,hb2,hkw⟩
    have HKN2:=Lib.hid (show Kq A T its c f2 p from fun q' y' hq' hy'=>by
     by_cases h:q'<q+1
     ·exact hk2 q' y' h hy'
     ·rw[hu2 q' y' (by omega) hy']
      exact HKF.out q' y' hq' hy')
    have HUP2:=Lib.hid (show∀q' y',p≤q'→its[q']? =some y'→f2 (litV y'.lit:Nat)=f (litV y'.lit:Nat)from fun q' y' hq' hy'=>by
     rw[hu2 q' y' (by omega) hy']
     exact HUP.out q' y' hq' hy')
    have HM3:=Lib.hid hm2
    have hbd2:k2+2*zer its f2≤kk+2*zer its f:=Nat.le_trans hb2 hbd
    have HKW3:=Lib.hid (HKW.out.trans (O:=fun g=>g=mb) hkw (fun _ _ h=>h))
    clear hm2 hk2 hu2 hb2 hkw c0 c1 c2 c3 d0 HCV
    cases cv with
    | true=>
     go_wp2_with fail
     go_roundw
     case rel=>exact⟨j+1,f2,k2,by omega,by go_num,rfl,Lib.hid (fun l' hl'=>by
      rw[List.take_add_one,HL.out]at hl'
      rcases List.mem_append.1 hl' with h|h
      ·exact HAL.out l' h
      ·have e:=List.mem_singleton.1 (show l'∈ [-y.lit]from h)
       rw[e]
       exact HCE.out),HM3,HKN2,HUP2,hbd2,HKW3⟩
     case measure=>simp[intOf];omega
    | false=>
     have HF:=Lib.hid (show impl15 A T c v=false from by
      rw[HE.out]
      exact List.all_eq_false.2 ⟨-y.lit,List.mem_of_getElem? HL.out,by rw[HCE.out];decide⟩)
     go_wp2_with fail
     rw[Exit.noGoto_ret]
     go_ret
     exact⟨f2,k2,by rw[HF.out];rfl,HM3.out,HKN2.out,HUP2.out,hbd2,(Kept.of_below (O:=fun g=>g=mb) (HBA.out.trans (HB2.out.mono HBA.out.size))).trans (O:=fun g=>g=mb) HKW3.out (fun _ _ h=>h)⟩
   ·obtain rfl:j=rs.length:=by omega
    have HF:=Lib.hid (show impl15 A T c v=true from by
     rw[HE.out]
     refine List.all_eq_true.2 (fun l hl=>HAL.out l ?_)
     rw[List.take_length]
     exact hl)
    go_wp2_with fail
    rw[Exit.noGoto_ret]
    go_ret
    exact⟨f1,k1,by rw[HF.out];rfl,HMF.out,HKF.out,HUP.out,hbd,(Kept.of_below (O:=fun g=>g=mb) (HBA.out.trans (HB2.out.mono HBA.out.size))).trans (O:=fun g=>g=mb) HKW.out (fun _ _ h=>h)⟩
theorem Kq.put {A:Arn} {T:Trl} {its:List RIt} {c:List Int} {f:Int→Int} {p:Nat} {x:RIt} (hs:Sim T its) (hp:its[p]? =some x) (h:Kq A T its c f p) (z:Int):Kq A T its c (fun y=>if y=(litV x.lit:Nat)then z else f y) p:=fun q y hq hy=>by
 have hne:((litV y.lit:Nat):Int)≠(litV x.lit:Nat):=fun e=>by
  have:=hs.inj hy hp (by omega)
  omega
 simp only
 rw[if_neg hne]
 exact h q y (by omega) hy
theorem kn_down {A:Arn} {T:Trl} {its:List RIt} {c:List Int} {f:Int→Int} {p:Nat} (h:Kq A T its c f (p+1)):Kq A T its c f p:=fun q y hq hy=>h q y (by omega) hy
theorem kn_more {A:Arn} {T:Trl} {its:List RIt} {c:List Int} {f:Int→Int} {p:Nat} {x:RIt} (h:Kq A T its c f p) (hp:its[p]? =some x) (hx:f (litV x.lit:Nat)=0∨f (litV x.lit:Nat)=if cov15 A T c (-x.lit)=true then 1 else 2):Kq A T its c f (p+1):=fun q y hq hy=>by
 by_cases e:q=p
 ·subst e
  rw[hp]at hy
  rw[←Option.some.inj hy]
  exact hx
 ·exact h q y (by omega) hy
set_option maxRecDepth 100000 in
set_option maxHeartbeats 4000000 in
theorem cov_of_imp (a b mb:Nat) (A:Arn) (T:Trl) (its:List RIt) (Ac:Option Addr) (cc:Nat) (c:List Int) (B:Nat) (p:Nat) (hs:Sim T its) (hBm:B≤1000000) (hcl:c.length≤4194304) (ih:ImpAt a b mb A T its Ac cc c B p):CovAt a b mb A T its Ac cc c B p:=by
 intro x hp w f kk hw hm hk hB
 have hxb:=(hs.at_ p x hp).1
 have hlv:=litV_le x.lit
 have hwx:(Lit.int .i64 (litV x.lit:Nat)).wf=true:=wf64 (by omega) (by omega)
 have HWX0:=Lib.hid hwx
 have HZ:=Lib.hid (fun(f':Int→Int) (h0:f (litV x.lit:Nat)=0) (h1:f' (litV x.lit:Nat)≠0) (hsub: ∀v,f' v=0→f v=0)=>zer_put (List.mem_of_getElem? hp) h0 h1 hsub)
 have HKP:=Lib.hid (fun(g:Int→Int) (h:Kq A T its c g p) (z:Int)=>Kq.put hs hp h z)
 have HUPS:=Lib.hid (show∀(g:Int→Int) (z:Int) (q:Nat) (y:RIt),p<q→its[q]? =some y→(fun v=>if v=((litV x.lit:Nat):Int)then z else g v) (litV y.lit:Nat)=g (litV y.lit:Nat)from fun g z q y hq hy=>by
  have hne:((litV y.lit:Nat):Int)≠(litV x.lit:Nat):=fun e=>by
   have:=hs.inj hy hp (by omega)
   omega
  simp only
  rw[if_neg hne])
 have HKPT:=Lib.hid (hk p x (Nat.lt_succ_self p) hp)
 have HPX:=Lib.hid hp
 have HV:=Lib.hid (fun w=>lit_var (-x.lit) w)
 have HVX:=Lib.hid (litV_negate x.lit)
 rw[litV_negate]at HV
 have HIH:=Lib.hid (fun w' f' k'=>ih x hp w' f' k')
 obtain⟨wa,hwa⟩: ∃z,w.alloc (.cells #[.pointer (some ⟨a,0,none⟩),.pointer (some ⟨b,0,none⟩),.slice Ac c.length cc,.map (some mb)] 123)=z:=⟨_,rfl⟩
 have hba:Below w.heap.size w wa:=by rw[←hwa];exact mx_al _ _
 have hbn:wa.heap[w.heap.size]? =some (.cells #[.pointer (some ⟨a,0,none⟩),.pointer (some ⟨b,0,none⟩),.slice Ac c.length cc,.map (some mb)] 123 (0,0)):=by rw[←hwa];exact World.alloc_heap_new _ _
 have HWK:=Lib.hid (hw.below hba)
 have HMA:=Lib.hid (hm.below hba)
 have HBA:=Lib.hid hba
 have HWA:=Lib.hid hwa
 have HBN:=Lib.hid hbn
 have HKN:=Lib.hid hk
 have hzw:=heap_lt hbn
 have hmb:=hm.lt
 have hnm:w.heap.size≠mb:=by omega
 have c0:=mx_cell (j:=0) hbn
 have c1:=mx_cell (j:=1) hbn
 have c2:=mx_cell (j:=2) hbn
 have c3:=mx_cell (j:=3) hbn
 have hlk:=HMA.out.lookup hwx
 obtain⟨v,hv⟩: ∃z:Int,((litV x.lit:Nat):Int)=z:=⟨_,rfl⟩
 rw[hv]at HV HWX0 HZ HKPT hlk HIH HKP HUPS
 have HWX:=HWX0
 have HVV:=Lib.hid hv
 obtain⟨y,hy⟩: ∃z,-x.lit=z:=⟨_,rfl⟩
 rw[hy]at HV HKPT⊢
 have HY:=Lib.hid hy
 have hCE:cov15 A T c y=(c.contains y||impl15 A T c v):=by unfold cov15;rw[←hy,litV_negate,hv]
 have HCE:=Lib.hid hCE
 have HCT:=Lib.hid (fun W (h:Wk W a b mb A T (.slice Ac c.length cc) c)=>(by
  obtain⟨_,_,OC,_,_,h3,_⟩:=h
  exact contains_c (.slice Ac c.length cc) c y W h3 (by omega):Calls Tryz.prog 28 #[.slice Ac c.length cc,.int .i64 y] W fun e w'=>e= .returned (.bool (c.contains y))∧W=w'))
 obtain⟨fv,hfv⟩: ∃z,f v=z:=⟨_,rfl⟩
 rw[hfv]at hlk HKPT
 have HFV:=Lib.hid hfv
 clear hp hs hba hwa hbn hw hm hk ih hxb hlv hwx hy hCE hfv hv HWX0
 by_cases h0:fv=0
 ·subst h0
  have q0:((0:Int)==0)=true:=rfl
  go_enter Tryz.func77,Tryz.ntmps77
  go_wp2_with (rw[HWA.out])
  refine(HV.out wa).mono ?_
  rintro e w' ⟨rfl,rfl⟩
  have HK0:=Lib.hid (Kept.refl (fun g=>g=mb) wa)
  have hkB:kk+2*zer its f≤1000000:=Nat.le_trans hB hBm
  go_wp2_with (at_mapUpdate;refine wpList_put HMA.out rfl _ _ _ rfl rfl (by unfold maxLen;omega) v 2 rfl rfl HWX.out rfl ?_;intro w4 hmN hgN;have hkN:Kept (fun g=>g=mb) wa w4:=HK0.out.trans (Kept.grown hgN) (fun i _ e=>(Option.some.inj e));have HKw4:=Lib.hid hkN;have HMw4:=Lib.hid hmN;have hbk:=(hkN.block w.heap.size hzw hnm).trans HBN.out;have c0:=mx_cell (j:=0) hbk;have c1:=mx_cell (j:=1) hbk;have c2:=mx_cell (j:=2) hbk;have c3:=mx_cell (j:=3) hbk;have HCW:=Lib.hid (HCT.out w4 (HWK.out.kept hkN));clear hlk;clear hmN hgN hkN hbk)
  refine HCW.out.mono ?_
  rintro e w' ⟨hce,rfl⟩
  obtain⟨cb,hcb⟩: ∃z,c.contains y=z:=⟨_,rfl⟩
  rw[hcb]at hce HCE
  subst hce
  clear HCW hcb
  obtain⟨f1,hf1⟩: ∃g:Int→Int,(fun z=>if z=v then(2:Int)else f z)=g:=⟨_,rfl⟩
  rw[hf1]at HMw4
  have HZ1:=Lib.hid (show zer its f1+1≤zer its f from by
   rw[←hf1]
   exact HZ.out _ HFV.out (by simp only[if_true];decide) (fun u hu=>by
    have hu:(if u=v then(2:Int)else f u)=0:=hu
    split at hu
    ·cases hu
    ·exact hu))
  have HKN1:=Lib.hid (show Kq A T its c f1 p from by rw[←hf1];exact HKP.out f (kn_down HKN.out) 2)
  have HUP1:=Lib.hid (show∀(q:Nat) (y:RIt),p<q→its[q]? =some y→f1 (litV y.lit:Nat)=f (litV y.lit:Nat)from fun q y hq hy=>by rw[←hf1];exact HUPS.out f 2 q y hq hy)
  have HF1:=Lib.hid (show f1 v=2 from by rw[←hf1];exact if_pos rfl)
  clear hf1
  have hz1:=HZ1.out
  cases cb with
  | true=>
   go_wp2_with (at_mapUpdate;refine wpList_put HMw4.out rfl _ _ _ rfl rfl (by unfold maxLen;omega) v 1 rfl rfl HWX.out rfl ?_;intro w6 hmN hgN;have hkN:Kept (fun g=>g=mb) wa w6:=HKw4.out.trans (Kept.grown hgN) (fun i _ e=>(Option.some.inj e));have HKw6:=Lib.hid hkN;have HMw6:=Lib.hid hmN;have hbk:=(hkN.block w.heap.size hzw hnm).trans HBN.out;have c0:=mx_cell (j:=0) hbk;have c1:=mx_cell (j:=1) hbk;have c2:=mx_cell (j:=2) hbk;have c3:=mx_cell (j:=3) hbk;have hlk:=HMw6.out.lookup HWX.out;rw[show(if v=v then(1:Int)else f1 v)=1 from if_pos rfl]at hlk;clear hmN hgN hkN hbk)
   have HE:=Lib.hid (show cov15 A T c y=true from HCE.out)
   go_ret
   exact⟨_,(kk+1)+1,by rw[HE.out];rfl,HMw6.out,kn_more (HKP.out f1 HKN1.out 1) HPX.out (.inr (by rw[HVV.out,HY.out,HE.out];simp)),fun q z hq hz=>(HUPS.out f1 1 q z hq hz).trans (HUP1.out q z hq hz),by
    have h1:zer its (fun z=>if z=v then(1:Int)else f1 z)≤zer its f1:=zer_mono (fun u hu=>by
     have hu:(if u=v then(1:Int)else f1 u)=0:=hu
     split at hu
     ·cases hu
     ·exact hu)
    omega,(Kept.of_below (O:=fun g=>g=mb) HBA.out).trans (O:=fun g=>g=mb) HKw6.out (fun _ _ h=>h)⟩
  | false=>
   have hih:=HIH.out w4 f1 (kk+1) (HWK.out.kept HKw4.out) HMw4.out HKN1.out (by omega)
   obtain⟨ib,hib⟩: ∃z,impl15 A T c v=z:=⟨_,rfl⟩
   rw[hib]at hih HCE
   have HI:=Lib.hid hih
   clear hih hib
   go_wp2_with fail
   refine HI.out.mono ?_
   rintro e w5 ⟨f2,k2,rfl,hm5,hk5,hu5,hb5,hkw5⟩
   have HM5:=Lib.hid hm5
   have HK5:=Lib.hid (HKw4.out.trans (O:=fun g=>g=mb) hkw5 (fun _ _ h=>h))
   have HKN2:=Lib.hid hk5
   have HUP2:=Lib.hid (show∀(q:Nat) (y:RIt),p<q→its[q]? =some y→f2 (litV y.lit:Nat)=f (litV y.lit:Nat)from fun q y hq hy=>(hu5 q y (by omega) hy).trans (HUP1.out q y hq hy))
   have HF2:=Lib.hid (show f2 v=2 from by
    have:=hu5 p x (Nat.le_refl _) HPX.out
    rw[HVV.out]at this
    rw[this]
    exact HF1.out)
   have hbk:=(HK5.out.block w.heap.size hzw hnm).trans HBN.out
   have c0:=mx_cell (j:=0) hbk
   have c1:=mx_cell (j:=1) hbk
   have c2:=mx_cell (j:=2) hbk
   have c3:=mx_cell (j:=3) hbk
   clear hm5 hk5 hu5 hkw5 hbk HI
   cases ib with
   | true=>
    go_wp2_with (at_mapUpdate;refine wpList_put HM5.out rfl _ _ _ rfl rfl (by unfold maxLen;omega) v 1 rfl rfl HWX.out rfl ?_;intro w6 hmN hgN;have hkN:Kept (fun g=>g=mb) wa w6:=HK5.out.trans (Kept.grown hgN) (fun i _ e=>(Option.some.inj e));have HKw6:=Lib.hid hkN;have HMw6:=Lib.hid hmN;have hbk:=(hkN.block w.heap.size hzw hnm).trans HBN.out;have c0:=mx_cell (j:=0) hbk;have c1:=mx_cell (j:=1) hbk;have c2:=mx_cell (j:=2) hbk;have c3:=mx_cell (j:=3) hbk;have hlk:=HMw6.out.lookup HWX.out;rw[show(if v=v then(1:Int)else f2 v)=1 from if_pos rfl]at hlk;clear hmN hgN hkN hbk)
    have HE:=Lib.hid (show cov15 A T c y=true from HCE.out)
    go_ret
    exact⟨_,k2+1,by rw[HE.out];rfl,HMw6.out,kn_more (HKP.out f2 HKN2.out 1) HPX.out (.inr (by rw[HVV.out,HY.out,HE.out];simp)),fun q z hq hz=>(HUPS.out f2 1 q z hq hz).trans (HUP2.out q z hq hz),by
     have h1:zer its (fun z=>if z=v then(1:Int)else f2 z)≤zer its f2:=zer_mono (fun u hu=>by
      have hu:(if u=v then(1:Int)else f2 u)=0:=hu
      split at hu
      ·cases hu
      ·exact hu)
     omega,(Kept.of_below (O:=fun g=>g=mb) HBA.out).trans (O:=fun g=>g=mb) HKw6.out (fun _ _ h=>h)⟩
   | false=>
    have HE:=Lib.hid (show cov15 A T c y=false from HCE.out)
    have hlk:=HM5.out.lookup HWX.out
    rw[HF2.out]at hlk
    go_wp2_with fail
    go_ret
    exact⟨f2,k2,by rw[HE.out];rfl,HM5.out,kn_more HKN2.out HPX.out (.inr (by rw[HVV.out,HF2.out,HY.out,HE.out];rfl)),HUP2.out,by omega,(Kept.of_below (O:=fun g=>g=mb) HBA.out).trans (O:=fun g=>g=mb) HK5.out (fun _ _ h=>h)⟩
 ·have q0:(fv==0)=false:=by simpa using h0
  have HE:=Lib.hid (show(fv==1)=cov15 A T c y from by
   rcases HKPT.out with h|h
   ·exact absurd h h0
   ·rw[h]
    cases cov15 A T c y <;> rfl)
  clear h0
  go_enter Tryz.func77,Tryz.ntmps77
  go_wp2_with (rw[HWA.out])
  refine(HV.out wa).mono ?_
  rintro e w' ⟨rfl,rfl⟩
  go_wp2_with fail
  go_ret
  exact⟨f,kk,by rw[←HE.out];rfl,HMA.out,HKN.out,fun _ _ _ _=>rfl,Nat.le_refl _,Kept.of_below HBA.out⟩
end Go.Proofs.YtoojmhjagipmdaaGreat
