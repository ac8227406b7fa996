/- Plain: which lines are passed over. lratext.numbers: the function that yields a line's numbers. Equal, Index, Contains, Clone at slices of integers. A map of integers to integers that the program made. -/
import Derived.Test.YteigjcichmpejaaDoorV100
import Derived.Lib.Strings
import Derived.Lib.LazyBuf
import Derived.Lib.BufferMore
namespace Go.Proofs.YteigjcichmpejaaDoor
open Go.RowKit
def overB (t:List UInt8):Bool:=decide (t= [])||decide (t= [99])||Lib.hasPrefix t [99,32]
theorem overB_head {b:UInt8} {r:List UInt8} (h:b≠99):overB (b::r)=false:=by
 unfold overB Lib.hasPrefix
 rw[decide_eq_false (fun h=>by cases h),decide_eq_false (fun e=>h (List.cons.inj e).1),List.isPrefixOf_cons_cons,(beq_eq_false_iff_ne.2 (Ne.symm h):((99:UInt8)==b)=false)]
 rfl
end Go.Proofs.YteigjcichmpejaaDoor
namespace Go.Proofs.YteigjcichmpejaaDoor
open Go.RowKit
set_option maxRecDepth 100000 in
set_option maxHeartbeats 1000000 in
theorem numbers_any (A:Option Addr) (n c:Nat) (w:World):
  Calls Tryd.prog 49 #[.slice A n c] w fun e w'=>e= .returned (.func (.func 60) #[] #[.pointer (some ⟨w.heap.size,0,none⟩)])∧w'.cell? ⟨w.heap.size,0,none⟩=some (.slice A n c)∧Below w.heap.size w w':=by
 go_enter Tryd.func49,Tryd.ntmps49
 go_wp2_with fail
 go_ret
 exact⟨rfl,cell_new _ _ _ _,(Below.refl _ _).alloc (Nat.le_refl _) _⟩
end Go.Proofs.YteigjcichmpejaaDoor
namespace Go.Proofs.YteigjcichmpejaaDoor
open Go.RowKit
def IdxPost (b:Bool) (w:World) (e:Ending) (w':World):Prop:=(∃i:Int,e= .returned (.int .i64 i)∧decide (0≤i)=b)∧w=w'
theorem getElem_of {α:Type} {l:List α} {i:Nat} (h:i<l.length): ∃x,l[i]? =some x:=⟨_,List.getElem?_eq_getElem h⟩
theorem eq_of_all {xs ys:List Int} (hl:xs.length=ys.length) (h: ∀j,j<xs.length→xs[j]? =ys[j]?):xs=ys:=by
 apply List.ext_getElem?
 intro j
 rcases Nat.lt_or_ge j xs.length with hj|hj
 ·exact h j hj
 ·rw[List.getElem?_eq_none hj,List.getElem?_eq_none (by omega)]
set_option maxRecDepth 100000 in
set_option maxHeartbeats 1000000 in
theorem eq_i {O O':Nat→Prop} (u v:Value) (xs ys:List Int) (w:World) (h1:IntsIn O w u xs) (h2:IntsIn O' w v ys) (hs:xs.length≤140737488355328):
  Calls Tryd.prog 35 #[u,v] w fun e w'=>e= .returned (.bool (xs==ys))∧∃n,w'=w.drewN n:=by
 obtain⟨A,c,rfl,hc,_,hx⟩:=h1
 obtain⟨A',c',rfl,hc',_,hy⟩:=h2
 by_cases hl:xs.length=ys.length
 ·have hb:((xs.length:Int) != (ys.length:Int))=false:=by rw[hl];simp
  have HL:=Lib.hid hl
  have HX:=Lib.hid hx
  have HY:=Lib.hid hy
  clear hl hx hy
  go_enter Tryd.func35,Tryd.ntmps35
  go_wp2
  go_loopw [13] (fun i wr=> ∃k n:Nat,k≤xs.length∧i= .int .i64 k∧Hid (wr=w.drewN n)∧Hid (∀j,j<k→xs[j]? =ys[j]?)) (fun i _=>xs.length-(intOf i).toNat)
  case atStart=>exact⟨0,0,Nat.zero_le _,rfl,Lib.hid rfl,Lib.hid (fun j hj=>by omega)⟩
  case round=>
   obtain⟨k,n,hk,rfl,HW,HE⟩:=hrel
   by_cases hlt:k<xs.length
   ·obtain⟨x,hxk⟩:=getElem_of hlt
    obtain⟨y,hyk⟩:=getElem_of (l:=ys) (i:=k) (by have:=HL.out;omega)
    obtain⟨g,o,rfl,hg,_,d1⟩:=HX.out k x hxk
    obtain⟨g',o',rfl,hg',_,d2⟩:=HY.out k y hyk
    have e1:wr.cell? ⟨g,o+k,none⟩=some (.int .i64 x):=by rw[HW.out];exact d1
    have e2:wr.cell? ⟨g',o'+k,none⟩=some (.int .i64 y):=by rw[HW.out];exact d2
    have hly:k<ys.length:=by have:=HL.out;omega
    have hly2:(k:Int)<(ys.length:Int):=by omega
    have hlx2:(k:Int)<(xs.length:Int):=by omega
    have HXK:=Lib.hid hxk
    have HYK:=Lib.hid hyk
    clear d1 d2 hxk hyk
    by_cases hxy:x=y
    ·subst hxy
     go_wp2
     go_quiet (fail)
     go_wp2
     go_roundw
     case rel=>exact⟨k+1,n+nq,by omega,by go_num,Lib.hid (by rw[HW.out,World.drewN_drewN]),Lib.hid (fun j hj=>by
      rcases Nat.lt_or_ge j k with h|h
      ·exact HE.out j h
      ·obtain rfl:j=k:=by omega
       rw[HXK.out,HYK.out])⟩
     case measure=>simp[intOf];omega
    ·have hne:(x != y)=true:=by simpa using hxy
     have HN:=Lib.hid hxy
     clear hxy
     go_wp2
     go_quiet (fail)
     go_wp2
     go_ret
     refine⟨ret_bool ?_,n+nq,by rw[HW.out,World.drewN_drewN]⟩
     refine(beq_eq_false_iff_ne.2 (fun he=>HN.out ?_)).symm
     have:=HXK.out
     rw[he,HYK.out]at this
     exact(Option.some.inj this).symm
   ·obtain rfl:k=xs.length:=by omega
    go_wp2
    go_ret
    exact⟨ret_bool (by rw[eq_of_all HL.out HE.out];simp),n,HW.out⟩
 ·have hb:((xs.length:Int) != (ys.length:Int))=true:=by simp;omega
  have HL:=Lib.hid hl
  clear hl
  go_enter Tryd.func35,Tryd.ntmps35
  go_wp2
  go_ret
  exact⟨ret_bool (beq_eq_false_iff_ne.2 (fun he=>HL.out (by rw[he]))).symm,0,rfl⟩
set_option maxRecDepth 100000 in
set_option maxHeartbeats 1000000 in
theorem index_i {O:Nat→Prop} (u:Value) (xs:List Int) (y:Int) (w:World) (h1:IntsIn O w u xs) (hs:xs.length≤140737488355328):
  Calls Tryd.prog 18 #[u,.int .i64 y] w (IdxPost (xs.contains y) w):=by
 obtain⟨A,c,rfl,hc,_,hx⟩:=h1
 obtain⟨b,hb⟩: ∃b,xs.contains y=b:=⟨_,rfl⟩
 rw[hb]
 have HB:=Lib.hid hb
 have HX:=Lib.hid hx
 clear hx hb
 go_enter Tryd.func18,Tryd.ntmps18
 go_wp2
 go_loop [8] (fun i=> ∃k:Nat,k≤xs.length∧i= .int .i64 k∧Hid (∀j,j<k→xs[j]? ≠some y)) (fun i=>xs.length-(intOf i).toNat)
 case atStart=>exact⟨0,Nat.zero_le _,rfl,Lib.hid (fun j hj=>by omega)⟩
 case round=>
  obtain⟨k,hk,rfl,HE⟩:=hrel
  by_cases hlt:k<xs.length
  ·obtain⟨x,hxk⟩:=getElem_of hlt
   obtain⟨g,o,rfl,hg,_,d1⟩:=HX.out k x hxk
   have HXK:=Lib.hid hxk
   clear hxk
   by_cases hxy:y=x
   ·subst hxy
    go_wp2
    go_ret
    refine⟨⟨_,rfl,?_⟩,rfl⟩
    have hm:y∈xs:=List.mem_of_getElem? HXK.out
    rw[←HB.out,List.contains_iff_mem.2 hm]
    exact decide_eq_true (by omega)
   ·have hne:(y==x)=false:=by simpa using hxy
    have HN:=Lib.hid hxy
    clear hxy
    go_wp2
    go_round
    case rel=>exact⟨k+1,by omega,by go_num,Lib.hid (fun j hj=>by
     rcases Nat.lt_or_ge j k with h|h
     ·exact HE.out j h
     ·obtain rfl:j=k:=by omega
      rw[HXK.out]
      exact fun e=>HN.out (Option.some.inj e).symm)⟩
    case measure=>simp[intOf];omega
  ·obtain rfl:k=xs.length:=by omega
   go_wp2
   go_ret
   refine⟨⟨_,rfl,?_⟩,rfl⟩
   have hm: ¬y∈xs:=fun h=>by
    obtain⟨j,hj⟩:=List.getElem?_of_mem h
    exact HE.out j (List.getElem?_eq_some_iff.1 hj).1 hj
   rw[←HB.out,show xs.contains y=false by simpa using hm]
   rfl
set_option maxHeartbeats 400000 in
theorem contains_i {O:Nat→Prop} (u:Value) (xs:List Int) (y:Int) (w:World) (h1:IntsIn O w u xs) (hs:xs.length≤140737488355328):
  Calls Tryd.prog 7 #[u,.int .i64 y] w fun e w'=>e= .returned (.bool (xs.contains y))∧w=w':=by
 have H0:=index_i u xs y w h1 hs
 obtain⟨b,hb⟩: ∃b,xs.contains y=b:=⟨_,rfl⟩
 rw[hb]at H0⊢
 have H:=Lib.hid H0
 clear H0 hb
 go_enter Tryd.func7,Tryd.ntmps7
 go_wp2_with fail
 refine H.out.mono ?_
 rintro e w' ⟨⟨i,rfl,hi⟩,rfl⟩
 have HI:=Lib.hid hi
 clear hi
 go_wp2_with fail
 go_ret
 exact⟨ret_bool HI.out,rfl⟩
theorem info_i:(Tryd.prog.info? 3).map (fun i=>(i.zero,i.size,i.bytes))=some (some (.int .i64 0),1,8):=by kernel_rfl
set_option maxRecDepth 100000 in
set_option maxHeartbeats 1000000 in
theorem clone_i {O:Nat→Prop} (u:Value) (xs:List Int) (w:World) (h1:IntsIn O w u xs) (hs:xs.length≤17592186044416):
  Calls Tryd.prog 20 #[u] w fun e w'=> ∃v,e= .returned v∧w'.ownsRow w.heap.size 3 1 v xs.length (xs.map (Value.int .i64))∧Below w.heap.size w w':=by
 obtain⟨i0,hi,hz0,hz1,hz2⟩:=info_parts info_i
 obtain⟨A,c,rfl,hc,hn,hx⟩:=h1
 cases A with
 | none=>
  obtain rfl:=hn rfl
  have h0:xs.length=0:=by omega
  obtain rfl:xs= []:=List.eq_nil_of_length_eq_zero h0
  have hq:=fun w=>Lib.run_eql_slice_nil (P:=Tryd.prog) w 30 3 none 0 0 0 0 Tryd.underlying30
  clear hn hx
  go_enter Tryd.func20,Tryd.ntmps20
  go_wp2
  go_ret
  exact⟨_,rfl,World.ownsRow_nil _ _ _ _,Below.refl _ _⟩
 | some a=>
  have HX:=Lib.hid hx
  have hq:=fun w=>Lib.run_eql_slice_nil (P:=Tryd.prog) w 30 3 (some a) xs.length c 0 0 Tryd.underlying30
  have hnews: ∀j u,(xs.map (Value.int .i64))[j]? =some u→(w.alloc (.cells #[] 3)).cell? (a.add j)=some u:=fun j u hj=>by
   rw[List.getElem?_map]at hj
   cases hxj:xs[j]? with
   | none=>rw[hxj]at hj;cases hj
   | some x=>
    rw[hxj]at hj
    obtain⟨g,o,hA,hg,_,d1⟩:=hx j x hxj
    obtain rfl:=Option.some.inj hA
    rw[addr_add2,((Below.refl _ _).alloc (Nat.le_refl _) _).cell hg,d1]
    exact hj
  have HN:=Lib.hid hnews
  have h0:(w.alloc (.cells #[] 3)).ownsRow w.heap.size 3 1 (.slice (some ⟨w.heap.size,0,none⟩) 0 0) 0 []:=⟨rfl,.inr ⟨w.heap.size,0,#[],rfl,Nat.le_refl _,World.alloc_heap_new _ _,Nat.le_refl _,Nat.zero_le _,rfl,rfl⟩⟩
  have H0:=Lib.hid h0
  clear hx hn hnews h0
  go_enter Tryd.func20,Tryd.ntmps20
  go_wp2_with (at_builtin;refine wpList_append_own_at _ rfl _ _ 30 rfl w.heap.size 3 i0 (.int .i64 0) 1 8 Tryd.underlying30 hi hz0 hz1 hz2 rfl (by decide) _ _ _ rfl H0.out a xs.length c (xs.map (Value.int .i64)) rfl (by simp) HN.out (by simp[Value.oneCell']) (by unfold maxLen;omega) (by omega) (by simp) ?_;intro v' w1 hown hgrow hnl hat)
  go_ret
  have hB:Below w.heap.size w w1:=((Below.refl w.heap.size w).alloc (Nat.le_refl _) (.cells #[] 3)).grown hgrow (by simp) (fun g hg=>by cases hg;exact Nat.le_refl _)
  exact⟨_,rfl,by simpa using hown,hB⟩
set_option maxRecDepth 100000 in
set_option maxHeartbeats 1000000 in
theorem eq_c {O O':Nat→Prop} (u v:Value) (xs ys:List Int) (w:World) (h1:IntsIn O w u xs) (h2:IntsIn O' w v ys) (hs:xs.length≤140737488355328):
  Calls Tryd.prog 34 #[u,v] w fun e w'=>e= .returned (.bool (xs==ys))∧∃n,w'=w.drewN n:=by
 obtain⟨A,c,rfl,hc,_,hx⟩:=h1
 obtain⟨A',c',rfl,hc',_,hy⟩:=h2
 by_cases hl:xs.length=ys.length
 ·have hb:((xs.length:Int) != (ys.length:Int))=false:=by rw[hl];simp
  have HL:=Lib.hid hl
  have HX:=Lib.hid hx
  have HY:=Lib.hid hy
  clear hl hx hy
  go_enter Tryd.func34,Tryd.ntmps34
  go_wp2
  go_loopw [13] (fun i wr=> ∃k n:Nat,k≤xs.length∧i= .int .i64 k∧Hid (wr=w.drewN n)∧Hid (∀j,j<k→xs[j]? =ys[j]?)) (fun i _=>xs.length-(intOf i).toNat)
  case atStart=>exact⟨0,0,Nat.zero_le _,rfl,Lib.hid rfl,Lib.hid (fun j hj=>by omega)⟩
  case round=>
   obtain⟨k,n,hk,rfl,HW,HE⟩:=hrel
   by_cases hlt:k<xs.length
   ·obtain⟨x,hxk⟩:=getElem_of hlt
    obtain⟨y,hyk⟩:=getElem_of (l:=ys) (i:=k) (by have:=HL.out;omega)
    obtain⟨g,o,rfl,hg,_,d1⟩:=HX.out k x hxk
    obtain⟨g',o',rfl,hg',_,d2⟩:=HY.out k y hyk
    have e1:wr.cell? ⟨g,o+k,none⟩=some (.int .i64 x):=by rw[HW.out];exact d1
    have e2:wr.cell? ⟨g',o'+k,none⟩=some (.int .i64 y):=by rw[HW.out];exact d2
    have hly:k<ys.length:=by have:=HL.out;omega
    have hly2:(k:Int)<(ys.length:Int):=by omega
    have hlx2:(k:Int)<(xs.length:Int):=by omega
    have HXK:=Lib.hid hxk
    have HYK:=Lib.hid hyk
    clear d1 d2 hxk hyk
    by_cases hxy:x=y
    ·subst hxy
     go_wp2
     go_quiet (fail)
     go_wp2
     go_roundw
     case rel=>exact⟨k+1,n+nq,by omega,by go_num,Lib.hid (by rw[HW.out,World.drewN_drewN]),Lib.hid (fun j hj=>by
      rcases Nat.lt_or_ge j k with h|h
      ·exact HE.out j h
      ·obtain rfl:j=k:=by omega
       rw[HXK.out,HYK.out])⟩
     case measure=>simp[intOf];omega
    ·have hne:(x != y)=true:=by simpa using hxy
     have HN:=Lib.hid hxy
     clear hxy
     go_wp2
     go_quiet (fail)
     go_wp2
     go_ret
     refine⟨ret_bool ?_,n+nq,by rw[HW.out,World.drewN_drewN]⟩
     refine(beq_eq_false_iff_ne.2 (fun he=>HN.out ?_)).symm
     have:=HXK.out
     rw[he,HYK.out]at this
     exact(Option.some.inj this).symm
   ·obtain rfl:k=xs.length:=by omega
    go_wp2
    go_ret
    exact⟨ret_bool (by rw[eq_of_all HL.out HE.out];simp),n,HW.out⟩
 ·have hb:((xs.length:Int) != (ys.length:Int))=true:=by simp;omega
  have HL:=Lib.hid hl
  clear hl
  go_enter Tryd.func34,Tryd.ntmps34
  go_wp2
  go_ret
  exact⟨ret_bool (beq_eq_false_iff_ne.2 (fun he=>HL.out (by rw[he]))).symm,0,rfl⟩
theorem info_c:(Tryd.prog.info? 51).map (fun i=>(i.zero,i.size,i.bytes))=some (some (.int .i64 0),1,8):=by kernel_rfl
set_option maxRecDepth 100000 in
set_option maxHeartbeats 1000000 in
theorem clone_c {O:Nat→Prop} (u:Value) (xs:List Int) (w:World) (h1:IntsIn O w u xs) (hs:xs.length≤17592186044416):
  Calls Tryd.prog 24 #[u] w fun e w'=> ∃v,e= .returned v∧w'.ownsRow w.heap.size 51 1 v xs.length (xs.map (Value.int .i64))∧Below w.heap.size w w':=by
 obtain⟨i0,hi,hz0,hz1,hz2⟩:=info_parts info_c
 obtain⟨A,c,rfl,hc,hn,hx⟩:=h1
 cases A with
 | none=>
  obtain rfl:=hn rfl
  have h0:xs.length=0:=by omega
  obtain rfl:xs= []:=List.eq_nil_of_length_eq_zero h0
  have hq:=fun w=>Lib.run_eql_slice_nil (P:=Tryd.prog) w 38 51 none 0 0 0 0 Tryd.underlying38
  clear hn hx
  go_enter Tryd.func24,Tryd.ntmps24
  go_wp2
  go_ret
  exact⟨_,rfl,World.ownsRow_nil _ _ _ _,Below.refl _ _⟩
 | some a=>
  have HX:=Lib.hid hx
  have hq:=fun w=>Lib.run_eql_slice_nil (P:=Tryd.prog) w 38 51 (some a) xs.length c 0 0 Tryd.underlying38
  have hnews: ∀j u,(xs.map (Value.int .i64))[j]? =some u→(w.alloc (.cells #[] 51)).cell? (a.add j)=some u:=fun j u hj=>by
   rw[List.getElem?_map]at hj
   cases hxj:xs[j]? with
   | none=>rw[hxj]at hj;cases hj
   | some x=>
    rw[hxj]at hj
    obtain⟨g,o,hA,hg,_,d1⟩:=hx j x hxj
    obtain rfl:=Option.some.inj hA
    rw[addr_add2,((Below.refl _ _).alloc (Nat.le_refl _) _).cell hg,d1]
    exact hj
  have HN:=Lib.hid hnews
  have h0:(w.alloc (.cells #[] 51)).ownsRow w.heap.size 51 1 (.slice (some ⟨w.heap.size,0,none⟩) 0 0) 0 []:=⟨rfl,.inr ⟨w.heap.size,0,#[],rfl,Nat.le_refl _,World.alloc_heap_new _ _,Nat.le_refl _,Nat.zero_le _,rfl,rfl⟩⟩
  have H0:=Lib.hid h0
  clear hx hn hnews h0
  go_enter Tryd.func24,Tryd.ntmps24
  go_wp2_with (at_builtin;refine wpList_append_own_at _ rfl _ _ 38 rfl w.heap.size 51 i0 (.int .i64 0) 1 8 Tryd.underlying38 hi hz0 hz1 hz2 rfl (by decide) _ _ _ rfl H0.out a xs.length c (xs.map (Value.int .i64)) rfl (by simp) HN.out (by simp[Value.oneCell']) (by unfold maxLen;omega) (by omega) (by simp) ?_;intro v' w1 hown hgrow hnl hat)
  go_ret
  have hB:Below w.heap.size w w1:=((Below.refl w.heap.size w).alloc (Nat.le_refl _) (.cells #[] 51)).grown hgrow (by simp) (fun g hg=>by cases hg;exact Nat.le_refl _)
  exact⟨_,rfl,by simpa using hown,hB⟩
end Go.Proofs.YteigjcichmpejaaDoor
namespace Go.Proofs.YteigjcichmpejaaDoor
open Go.RowKit Go.Maps
theorem int_law:Keyed Tryd.prog 3:=int_keyed Tryd.underlying3
theorem int_zero (w:World):(zeroValue 3).run Tryd.prog w= .ok (.int .i64 0) w:=by kernel_rfl
theorem wf64 {x:Int} (h0: -9223372036854775808≤x) (h1:x≤9223372036854775807):(Lit.int .i64 x).wf=true:=by
 refine WalkArith.wf_i64 ?_
 omega
def MapAt (w:World) (b n:Nat) (f:Int→Int):Prop:=
 ∃D:DataW Unit,w.ownsMap Tryd.prog 3 (plainElem Tryd.prog 3) b n D∧IsMap D∧∀x:Int,(Lit.int .i64 x).wf=true→D.atKey (.int .i64 x) (.lit (.int .i64 0))= .lit (.int .i64 (f x))
theorem MapAt.lt {w:World} {b n:Nat} {f:Int→Int} (h:MapAt w b n f):b<w.heap.size:=by
 obtain⟨D,⟨es,cl,hb,_⟩,_⟩:=h
 exact heap_lt hb
theorem MapAt.kept {O:Nat→Prop} {w w':World} {b n:Nat} {f:Int→Int} (h:MapAt w b n f) (k:Kept O w w') (hO: ¬O b):MapAt w' b n f:=by
 obtain⟨D,⟨es,cl,hb,rest⟩,h2⟩:=h
 exact⟨D,⟨es,cl,(k.block b (heap_lt hb) hO).trans hb,rest⟩,h2⟩
theorem MapAt.below {w w':World} {b n:Nat} {f:Int→Int} (h:MapAt w b n f) (k:Below w.heap.size w w'):MapAt w' b n f:=
 h.kept (O:=fun _=>False) (Kept.of_below k) (fun h=>h)
theorem MapAt.made (w:World):MapAt (w.alloc (.map #[] 0)) w.heap.size 0 (fun _=>0):=
 ⟨.map [],World.ownsMap_made _ _ _ _,isMap_empty,fun _ _=>rfl⟩
theorem MapAt.lookup {w:World} {b n:Nat} {f:Int→Int} (h:MapAt w b n f) {x:Int} (hx:(Lit.int .i64 x).wf=true):
  (Instr.lookup 53 (.map (some b)) (.int .i64 x) false).run Tryd.prog w= .ok (.int .i64 (f x)) w:=by
 obtain⟨D,ho,hm,hf⟩:=h
 obtain⟨c,hrun,hat,_⟩:=ho.lookup_int int_law Tryd.underlying53 Tryd.underlying3 (int_zero _) (keyOf_int_mk Tryd.underlying3 hx)
 have:=hf x hx
 rw[hat]at this
 have hc:c=f x:=by simpa using this
 rw[hrun,hc]
theorem MapAt.put {w':World} {b n:Nat} {f:Int→Int} {D:DataW Unit} {x y:Int} (hm:IsMap D) (hf: ∀x:Int,(Lit.int .i64 x).wf=true→D.atKey (.int .i64 x) (.lit (.int .i64 0))= .lit (.int .i64 (f x)))
  (h:w'.ownsMap Tryd.prog 3 (plainElem Tryd.prog 3) b (n+1) (D.put (.int .i64 x) (.lit (.int .i64 y)))):MapAt w' b (n+1) (fun z=>if z=x then y else f z):=by
 refine⟨_,h,hm.put _ _,fun z hz=>?_⟩
 show _=DataW.lit (Lit.int .i64 (if z=x then y else f z))
 by_cases hzx:z=x
 ·subst hzx
  rw[if_pos rfl,atKey_put_same hm (by simp[WideAt.IsKeyLit])]
 ·rw[if_neg hzx,atKey_put_other (by simpa using hzx),hf z hz]
end Go.Proofs.YteigjcichmpejaaDoor
