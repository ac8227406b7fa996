/- Small laws of blocks and rows that every chapter uses. Equal, Index, Contains, Clone at slices of integers. A map of integers to integers that the program made. Literals and clauses: Right. Literals: Var, Neg. The trail in memory: Value, Level, Reason, Place, Now, Len, At. -/
import Derived.Test.YtoojmhjagipmdaaGreatV300
import Derived.Lib.LazyBuf
import Derived.Lib.BufferMore
namespace Go.Proofs.YtoojmhjagipmdaaGreat
open Go.RowKit
theorem mx_cell {w:World} {b j:Nat} {cs:Array Value} {t:TypeId} {fz:Nat×Nat} (h:w.heap[b]? =some (.cells cs t fz)):w.cell? ⟨b,j,none⟩=cs[j]? :=by
 simp[World.cell?,h]
theorem mx_set {w:World} {b j:Nat} {cs:Array Value} {t:TypeId} {fz:Nat×Nat} (h:w.heap[b]? =some (.cells cs t fz)) (v:Value):(w.setCell ⟨b,j,none⟩ v).heap[b]? =some (.cells (cs.setIfInBounds j v) t fz):=by
 unfold World.setCell
 simp only[Array.getElem?_modify]
 rw[h]
 simp
theorem mx_slice {w:World} {base size n:Nat} {e:TypeId} {v:Value} {xs:List Value} (h:w.ownsRow base e size v n xs): ∃A c,v= .slice A n c∧n≤c:=by
 rcases h.2 with⟨rfl,rfl⟩|⟨g,cap,cur,rfl,_,_,hle,_⟩
 ·exact⟨none,0,rfl,Nat.le_refl _⟩
 ·exact⟨_,cap,rfl,hle⟩
theorem mx_al (w:World) (o:Obj):Below w.heap.size w (w.alloc o):=(Below.refl _ _).alloc (Nat.le_refl _) _
theorem mx_drew (w:World):Below w.heap.size w w.drew:=(Below.refl _ _).drew
theorem mx_drewN (w:World) (n:Nat):Below w.heap.size w (w.drewN n):=⟨rfl,rfl,rfl,Nat.le_refl _,fun _ _=>rfl⟩
theorem mx_some {w:World} {base size n:Nat} {e:TypeId} {v:Value} {xs:List Value} (h:w.ownsRow base e size v n xs) (hn:0<n): ∃g c cs,v= .slice (some ⟨g,0,none⟩) n c∧n≤c∧base≤g∧g<w.heap.size∧w.heap[g]? =some (.cells cs e (0,0))∧cs.toList.take (n*size)=xs:=by
 rcases h.2 with⟨_,h0⟩|⟨g,cap,cur,hv,hb,hg,hle,_,_,hx⟩
 ·omega
 ·exact⟨g,cap,cur,hv,hle,hb,heap_lt hg,hg,hx⟩
theorem mx_at {w:World} {base size n c g j:Nat} {e:TypeId} {xs:List Value} {u:Value} (h:w.ownsRow base e size (.slice (some ⟨g,0,none⟩) n c) n xs) (hj:xs[j]? =some u):w.cell? ⟨g,j,none⟩=some u:=by
 rcases h.2 with⟨h0,_⟩|⟨g',cap,cur,hv,_,hg,_,_,_,hx⟩
 ·cases h0
 ·cases hv
  rw[mx_cell hg,←Array.getElem?_toList]
  rw[←hx,List.getElem?_take]at hj
  split at hj
  ·exact hj
  ·cases hj
theorem IntsIn.lt {O:Nat→Prop} {w:World} {v:Value} {xs:List Int} (h:IntsIn O w v xs):IntsIn (fun g=>O g∧g<w.heap.size) w v xs:=by
 obtain⟨A,c,hv,hc,hn,hx⟩:=h
 refine⟨A,c,hv,hc,hn,fun i x hi=>?_⟩
 obtain⟨g,o,h1,h2,h3,h4⟩:=hx i x hi
 exact⟨g,o,h1,h2,⟨h3,h2⟩,h4⟩
theorem mx_not {w:World} {base n size:Nat} {e T:TypeId} {v:Value} {xs:List Value} {b:Nat} {cs:Array Value} (h:w.ownsRow base e size v n xs) (hb:w.heap[b]? =some (.cells cs T (0,0))) (hT:T≠e):v.ownBlock≠some b:=by
 intro hg
 obtain⟨c',hc'⟩:=own_type h b hg
 rw[hb]at hc'
 cases hc'
 exact hT rfl
theorem mx_apart {w:World} {base n size base' n' size':Nat} {e e':TypeId} {v v':Value} {xs xs':List Value} (h:w.ownsRow base e size v n xs) (h':w.ownsRow base' e' size' v' n' xs') (he:e≠e') {g:Nat} (hg:v.ownBlock=some g):v'.ownBlock≠some g:=by
 obtain⟨c,hc⟩:=own_type h g hg
 exact mx_not h' hc he
end Go.Proofs.YtoojmhjagipmdaaGreat
namespace Go.Proofs.YtoojmhjagipmdaaGreat
open Go.RowKit
def IdxPost (b:Bool) (w:World) (e:Ending) (w':World):Prop:=(∃i:Int,e= .returned (.int .i64 i)∧decide (0≤i)=b)∧w=w'
theorem getElem_of {α:Type} {l:List α} {i:Nat} (h:i<l.length): ∃x,l[i]? =some x:=⟨_,List.getElem?_eq_getElem h⟩
theorem eq_of_all {xs ys:List Int} (hl:xs.length=ys.length) (h: ∀j,j<xs.length→xs[j]? =ys[j]?):xs=ys:=by
 apply List.ext_getElem?
 intro j
 rcases Nat.lt_or_ge j xs.length with hj|hj
 ·exact h j hj
 ·rw[List.getElem?_eq_none hj,List.getElem?_eq_none (by omega)]
set_option maxRecDepth 100000 in
set_option maxHeartbeats 1000000 in
theorem eq_i {O O':Nat→Prop} (u v:Value) (xs ys:List Int) (w:World) (h1:IntsIn O w u xs) (h2:IntsIn O' w v ys) (hs:xs.length≤140737488355328):
  Calls Tryz.prog 46 #[u,v] w fun e w'=>e= .returned (.bool (xs==ys))∧∃n,w'=w.drewN n:=by
 obtain⟨A,c,rfl,hc,_,hx⟩:=h1
 obtain⟨A',c',rfl,hc',_,hy⟩:=h2
 by_cases hl:xs.length=ys.length
 ·have hb:((xs.length:Int) != (ys.length:Int))=false:=by rw[hl];simp
  have HL:=Lib.hid hl
  have HX:=Lib.hid hx
  have HY:=Lib.hid hy
  clear hl hx hy
  go_enter Tryz.func46,Tryz.ntmps46
  go_wp2
  go_loopw [13] (fun i wr=> ∃k n:Nat,k≤xs.length∧i= .int .i64 k∧Hid (wr=w.drewN n)∧Hid (∀j,j<k→xs[j]? =ys[j]?)) (fun i _=>xs.length-(intOf i).toNat)
  case atStart=>exact⟨0,0,Nat.zero_le _,rfl,Lib.hid rfl,Lib.hid (fun j hj=>by omega)⟩
  case round=>
   obtain⟨k,n,hk,rfl,HW,HE⟩:=hrel
   by_cases hlt:k<xs.length
   ·obtain⟨x,hxk⟩:=getElem_of hlt
    obtain⟨y,hyk⟩:=getElem_of (l:=ys) (i:=k) (by have:=HL.out;omega)
    obtain⟨g,o,rfl,hg,_,d1⟩:=HX.out k x hxk
    obtain⟨g',o',rfl,hg',_,d2⟩:=HY.out k y hyk
    have e1:wr.cell? ⟨g,o+k,none⟩=some (.int .i64 x):=by rw[HW.out];exact d1
    have e2:wr.cell? ⟨g',o'+k,none⟩=some (.int .i64 y):=by rw[HW.out];exact d2
    have hly:k<ys.length:=by have:=HL.out;omega
    have hly2:(k:Int)<(ys.length:Int):=by omega
    have hlx2:(k:Int)<(xs.length:Int):=by omega
    have HXK:=Lib.hid hxk
    have HYK:=Lib.hid hyk
    clear d1 d2 hxk hyk
    by_cases hxy:x=y
    ·subst hxy
     go_wp2
     go_quiet (fail)
     go_wp2
     go_roundw
     case rel=>exact⟨k+1,n+nq,by omega,by go_num,Lib.hid (by rw[HW.out,World.drewN_drewN]),Lib.hid (fun j hj=>by
      rcases Nat.lt_or_ge j k with h|h
      ·exact HE.out j h
      ·obtain rfl:j=k:=by omega
       rw[HXK.out,HYK.out])⟩
     case measure=>simp[intOf];omega
    ·have hne:(x != y)=true:=by simpa using hxy
     have HN:=Lib.hid hxy
     clear hxy
     go_wp2
     go_quiet (fail)
     go_wp2
     go_ret
     refine⟨ret_bool ?_,n+nq,by rw[HW.out,World.drewN_drewN]⟩
     refine(beq_eq_false_iff_ne.2 (fun he=>HN.out ?_)).symm
     have:=HXK.out
     rw[he,HYK.out]at this
     exact(Option.some.inj this).symm
   ·obtain rfl:k=xs.length:=by omega
    go_wp2
    go_ret
    exact⟨ret_bool (by rw[eq_of_all HL.out HE.out];simp),n,HW.out⟩
 ·have hb:((xs.length:Int) != (ys.length:Int))=true:=by simp;omega
  have HL:=Lib.hid hl
  clear hl
  go_enter Tryz.func46,Tryz.ntmps46
  go_wp2
  go_ret
  exact⟨ret_bool (beq_eq_false_iff_ne.2 (fun he=>HL.out (by rw[he]))).symm,0,rfl⟩
set_option maxRecDepth 100000 in
set_option maxHeartbeats 1000000 in
theorem index_i {O:Nat→Prop} (u:Value) (xs:List Int) (y:Int) (w:World) (h1:IntsIn O w u xs) (hs:xs.length≤140737488355328):
  Calls Tryz.prog 99 #[u,.int .i64 y] w (IdxPost (xs.contains y) w):=by
 obtain⟨A,c,rfl,hc,_,hx⟩:=h1
 obtain⟨b,hb⟩: ∃b,xs.contains y=b:=⟨_,rfl⟩
 rw[hb]
 have HB:=Lib.hid hb
 have HX:=Lib.hid hx
 clear hx hb
 go_enter Tryz.func99,Tryz.ntmps99
 go_wp2
 go_loop [8] (fun i=> ∃k:Nat,k≤xs.length∧i= .int .i64 k∧Hid (∀j,j<k→xs[j]? ≠some y)) (fun i=>xs.length-(intOf i).toNat)
 case atStart=>exact⟨0,Nat.zero_le _,rfl,Lib.hid (fun j hj=>by omega)⟩
 case round=>
  obtain⟨k,hk,rfl,HE⟩:=hrel
  by_cases hlt:k<xs.length
  ·obtain⟨x,hxk⟩:=getElem_of hlt
   obtain⟨g,o,rfl,hg,_,d1⟩:=HX.out k x hxk
   have HXK:=Lib.hid hxk
   clear hxk
   by_cases hxy:y=x
   ·subst hxy
    go_wp2
    go_ret
    refine⟨⟨_,rfl,?_⟩,rfl⟩
    have hm:y∈xs:=List.mem_of_getElem? HXK.out
    rw[←HB.out,List.contains_iff_mem.2 hm]
    exact decide_eq_true (by omega)
   ·have hne:(y==x)=false:=by simpa using hxy
    have HN:=Lib.hid hxy
    clear hxy
    go_wp2
    go_round
    case rel=>exact⟨k+1,by omega,by go_num,Lib.hid (fun j hj=>by
     rcases Nat.lt_or_ge j k with h|h
     ·exact HE.out j h
     ·obtain rfl:j=k:=by omega
      rw[HXK.out]
      exact fun e=>HN.out (Option.some.inj e).symm)⟩
    case measure=>simp[intOf];omega
  ·obtain rfl:k=xs.length:=by omega
   go_wp2
   go_ret
   refine⟨⟨_,rfl,?_⟩,rfl⟩
   have hm: ¬y∈xs:=fun h=>by
    obtain⟨j,hj⟩:=List.getElem?_of_mem h
    exact HE.out j (List.getElem?_eq_some_iff.1 hj).1 hj
   rw[←HB.out,show xs.contains y=false by simpa using hm]
   rfl
set_option maxHeartbeats 400000 in
theorem contains_i {O:Nat→Prop} (u:Value) (xs:List Int) (y:Int) (w:World) (h1:IntsIn O w u xs) (hs:xs.length≤140737488355328):
  Calls Tryz.prog 44 #[u,.int .i64 y] w fun e w'=>e= .returned (.bool (xs.contains y))∧w=w':=by
 have H0:=index_i u xs y w h1 hs
 obtain⟨b,hb⟩: ∃b,xs.contains y=b:=⟨_,rfl⟩
 rw[hb]at H0⊢
 have H:=Lib.hid H0
 clear H0 hb
 go_enter Tryz.func44,Tryz.ntmps44
 go_wp2_with fail
 refine H.out.mono ?_
 rintro e w' ⟨⟨i,rfl,hi⟩,rfl⟩
 have HI:=Lib.hid hi
 clear hi
 go_wp2_with fail
 go_ret
 exact⟨ret_bool HI.out,rfl⟩
theorem info_i:(Tryz.prog.info? 3).map (fun i=>(i.zero,i.size,i.bytes))=some (some (.int .i64 0),1,8):=by kernel_rfl
set_option maxRecDepth 100000 in
set_option maxHeartbeats 1000000 in
theorem clone_i {O:Nat→Prop} (u:Value) (xs:List Int) (w:World) (h1:IntsIn O w u xs) (hs:xs.length≤17592186044416):
  Calls Tryz.prog 133 #[u] w fun e w'=> ∃v,e= .returned v∧w'.ownsRow w.heap.size 3 1 v xs.length (xs.map (Value.int .i64))∧Below w.heap.size w w':=by
 obtain⟨i0,hi,hz0,hz1,hz2⟩:=info_parts info_i
 obtain⟨A,c,rfl,hc,hn,hx⟩:=h1
 cases A with
 | none=>
  obtain rfl:=hn rfl
  have h0:xs.length=0:=by omega
  obtain rfl:xs= []:=List.eq_nil_of_length_eq_zero h0
  have hq:=fun w=>Lib.run_eql_slice_nil (P:=Tryz.prog) w 63 3 none 0 0 0 0 Tryz.underlying63
  clear hn hx
  go_enter Tryz.func133,Tryz.ntmps133
  go_wp2
  go_ret
  exact⟨_,rfl,World.ownsRow_nil _ _ _ _,Below.refl _ _⟩
 | some a=>
  have HX:=Lib.hid hx
  have hq:=fun w=>Lib.run_eql_slice_nil (P:=Tryz.prog) w 63 3 (some a) xs.length c 0 0 Tryz.underlying63
  have hnews: ∀j u,(xs.map (Value.int .i64))[j]? =some u→(w.alloc (.cells #[] 3)).cell? (a.add j)=some u:=fun j u hj=>by
   rw[List.getElem?_map]at hj
   cases hxj:xs[j]? with
   | none=>rw[hxj]at hj;cases hj
   | some x=>
    rw[hxj]at hj
    obtain⟨g,o,hA,hg,_,d1⟩:=hx j x hxj
    obtain rfl:=Option.some.inj hA
    rw[addr_add2,((Below.refl _ _).alloc (Nat.le_refl _) _).cell hg,d1]
    exact hj
  have HN:=Lib.hid hnews
  have h0:(w.alloc (.cells #[] 3)).ownsRow w.heap.size 3 1 (.slice (some ⟨w.heap.size,0,none⟩) 0 0) 0 []:=⟨rfl,.inr ⟨w.heap.size,0,#[],rfl,Nat.le_refl _,World.alloc_heap_new _ _,Nat.le_refl _,Nat.zero_le _,rfl,rfl⟩⟩
  have H0:=Lib.hid h0
  clear hx hn hnews h0
  go_enter Tryz.func133,Tryz.ntmps133
  go_wp2_with (at_builtin;refine wpList_append_own_at _ rfl _ _ 63 rfl w.heap.size 3 i0 (.int .i64 0) 1 8 Tryz.underlying63 hi hz0 hz1 hz2 rfl (by decide) _ _ _ rfl H0.out a xs.length c (xs.map (Value.int .i64)) rfl (by simp) HN.out (by simp[Value.oneCell']) (by unfold maxLen;omega) (by omega) (by simp) ?_;intro v' w1 hown hgrow hnl hat)
  go_ret
  have hB:Below w.heap.size w w1:=((Below.refl w.heap.size w).alloc (Nat.le_refl _) (.cells #[] 3)).grown hgrow (by simp) (fun g hg=>by cases hg;exact Nat.le_refl _)
  exact⟨_,rfl,by simpa using hown,hB⟩
set_option maxRecDepth 100000 in
set_option maxHeartbeats 1000000 in
theorem eq_c {O O':Nat→Prop} (u v:Value) (xs ys:List Int) (w:World) (h1:IntsIn O w u xs) (h2:IntsIn O' w v ys) (hs:xs.length≤140737488355328):
  Calls Tryz.prog 25 #[u,v] w fun e w'=>e= .returned (.bool (xs==ys))∧∃n,w'=w.drewN n:=by
 obtain⟨A,c,rfl,hc,_,hx⟩:=h1
 obtain⟨A',c',rfl,hc',_,hy⟩:=h2
 by_cases hl:xs.length=ys.length
 ·have hb:((xs.length:Int) != (ys.length:Int))=false:=by rw[hl];simp
  have HL:=Lib.hid hl
  have HX:=Lib.hid hx
  have HY:=Lib.hid hy
  clear hl hx hy
  go_enter Tryz.func25,Tryz.ntmps25
  go_wp2
  go_loopw [13] (fun i wr=> ∃k n:Nat,k≤xs.length∧i= .int .i64 k∧Hid (wr=w.drewN n)∧Hid (∀j,j<k→xs[j]? =ys[j]?)) (fun i _=>xs.length-(intOf i).toNat)
  case atStart=>exact⟨0,0,Nat.zero_le _,rfl,Lib.hid rfl,Lib.hid (fun j hj=>by omega)⟩
  case round=>
   obtain⟨k,n,hk,rfl,HW,HE⟩:=hrel
   by_cases hlt:k<xs.length
   ·obtain⟨x,hxk⟩:=getElem_of hlt
    obtain⟨y,hyk⟩:=getElem_of (l:=ys) (i:=k) (by have:=HL.out;omega)
    obtain⟨g,o,rfl,hg,_,d1⟩:=HX.out k x hxk
    obtain⟨g',o',rfl,hg',_,d2⟩:=HY.out k y hyk
    have e1:wr.cell? ⟨g,o+k,none⟩=some (.int .i64 x):=by rw[HW.out];exact d1
    have e2:wr.cell? ⟨g',o'+k,none⟩=some (.int .i64 y):=by rw[HW.out];exact d2
    have hly:k<ys.length:=by have:=HL.out;omega
    have hly2:(k:Int)<(ys.length:Int):=by omega
    have hlx2:(k:Int)<(xs.length:Int):=by omega
    have HXK:=Lib.hid hxk
    have HYK:=Lib.hid hyk
    clear d1 d2 hxk hyk
    by_cases hxy:x=y
    ·subst hxy
     go_wp2
     go_quiet (fail)
     go_wp2
     go_roundw
     case rel=>exact⟨k+1,n+nq,by omega,by go_num,Lib.hid (by rw[HW.out,World.drewN_drewN]),Lib.hid (fun j hj=>by
      rcases Nat.lt_or_ge j k with h|h
      ·exact HE.out j h
      ·obtain rfl:j=k:=by omega
       rw[HXK.out,HYK.out])⟩
     case measure=>simp[intOf];omega
    ·have hne:(x != y)=true:=by simpa using hxy
     have HN:=Lib.hid hxy
     clear hxy
     go_wp2
     go_quiet (fail)
     go_wp2
     go_ret
     refine⟨ret_bool ?_,n+nq,by rw[HW.out,World.drewN_drewN]⟩
     refine(beq_eq_false_iff_ne.2 (fun he=>HN.out ?_)).symm
     have:=HXK.out
     rw[he,HYK.out]at this
     exact(Option.some.inj this).symm
   ·obtain rfl:k=xs.length:=by omega
    go_wp2
    go_ret
    exact⟨ret_bool (by rw[eq_of_all HL.out HE.out];simp),n,HW.out⟩
 ·have hb:((xs.length:Int) != (ys.length:Int))=true:=by simp;omega
  have HL:=Lib.hid hl
  clear hl
  go_enter Tryz.func25,Tryz.ntmps25
  go_wp2
  go_ret
  exact⟨ret_bool (beq_eq_false_iff_ne.2 (fun he=>HL.out (by rw[he]))).symm,0,rfl⟩
set_option maxRecDepth 100000 in
set_option maxHeartbeats 1000000 in
theorem index_c {O:Nat→Prop} (u:Value) (xs:List Int) (y:Int) (w:World) (h1:IntsIn O w u xs) (hs:xs.length≤140737488355328):
  Calls Tryz.prog 76 #[u,.int .i64 y] w (IdxPost (xs.contains y) w):=by
 obtain⟨A,c,rfl,hc,_,hx⟩:=h1
 obtain⟨b,hb⟩: ∃b,xs.contains y=b:=⟨_,rfl⟩
 rw[hb]
 have HB:=Lib.hid hb
 have HX:=Lib.hid hx
 clear hx hb
 go_enter Tryz.func76,Tryz.ntmps76
 go_wp2
 go_loop [8] (fun i=> ∃k:Nat,k≤xs.length∧i= .int .i64 k∧Hid (∀j,j<k→xs[j]? ≠some y)) (fun i=>xs.length-(intOf i).toNat)
 case atStart=>exact⟨0,Nat.zero_le _,rfl,Lib.hid (fun j hj=>by omega)⟩
 case round=>
  obtain⟨k,hk,rfl,HE⟩:=hrel
  by_cases hlt:k<xs.length
  ·obtain⟨x,hxk⟩:=getElem_of hlt
   obtain⟨g,o,rfl,hg,_,d1⟩:=HX.out k x hxk
   have HXK:=Lib.hid hxk
   clear hxk
   by_cases hxy:y=x
   ·subst hxy
    go_wp2
    go_ret
    refine⟨⟨_,rfl,?_⟩,rfl⟩
    have hm:y∈xs:=List.mem_of_getElem? HXK.out
    rw[←HB.out,List.contains_iff_mem.2 hm]
    exact decide_eq_true (by omega)
   ·have hne:(y==x)=false:=by simpa using hxy
    have HN:=Lib.hid hxy
    clear hxy
    go_wp2
    go_round
    case rel=>exact⟨k+1,by omega,by go_num,Lib.hid (fun j hj=>by
     rcases Nat.lt_or_ge j k with h|h
     ·exact HE.out j h
     ·obtain rfl:j=k:=by omega
      rw[HXK.out]
      exact fun e=>HN.out (Option.some.inj e).symm)⟩
    case measure=>simp[intOf];omega
  ·obtain rfl:k=xs.length:=by omega
   go_wp2
   go_ret
   refine⟨⟨_,rfl,?_⟩,rfl⟩
   have hm: ¬y∈xs:=fun h=>by
    obtain⟨j,hj⟩:=List.getElem?_of_mem h
    exact HE.out j (List.getElem?_eq_some_iff.1 hj).1 hj
   rw[←HB.out,show xs.contains y=false by simpa using hm]
   rfl
set_option maxHeartbeats 400000 in
theorem contains_c {O:Nat→Prop} (u:Value) (xs:List Int) (y:Int) (w:World) (h1:IntsIn O w u xs) (hs:xs.length≤140737488355328):
  Calls Tryz.prog 28 #[u,.int .i64 y] w fun e w'=>e= .returned (.bool (xs.contains y))∧w=w':=by
 have H0:=index_c u xs y w h1 hs
 obtain⟨b,hb⟩: ∃b,xs.contains y=b:=⟨_,rfl⟩
 rw[hb]at H0⊢
 have H:=Lib.hid H0
 clear H0 hb
 go_enter Tryz.func28,Tryz.ntmps28
 go_wp2_with fail
 refine H.out.mono ?_
 rintro e w' ⟨⟨i,rfl,hi⟩,rfl⟩
 have HI:=Lib.hid hi
 clear hi
 go_wp2_with fail
 go_ret
 exact⟨ret_bool HI.out,rfl⟩
theorem info_c:(Tryz.prog.info? 32).map (fun i=>(i.zero,i.size,i.bytes))=some (some (.int .i64 0),1,8):=by kernel_rfl
set_option maxRecDepth 100000 in
set_option maxHeartbeats 1000000 in
theorem clone_c {O:Nat→Prop} (u:Value) (xs:List Int) (w:World) (h1:IntsIn O w u xs) (hs:xs.length≤17592186044416):
  Calls Tryz.prog 41 #[u] w fun e w'=> ∃v,e= .returned v∧w'.ownsRow w.heap.size 32 1 v xs.length (xs.map (Value.int .i64))∧Below w.heap.size w w':=by
 obtain⟨i0,hi,hz0,hz1,hz2⟩:=info_parts info_c
 obtain⟨A,c,rfl,hc,hn,hx⟩:=h1
 cases A with
 | none=>
  obtain rfl:=hn rfl
  have h0:xs.length=0:=by omega
  obtain rfl:xs= []:=List.eq_nil_of_length_eq_zero h0
  have hq:=fun w=>Lib.run_eql_slice_nil (P:=Tryz.prog) w 34 32 none 0 0 0 0 Tryz.underlying34
  clear hn hx
  go_enter Tryz.func41,Tryz.ntmps41
  go_wp2
  go_ret
  exact⟨_,rfl,World.ownsRow_nil _ _ _ _,Below.refl _ _⟩
 | some a=>
  have HX:=Lib.hid hx
  have hq:=fun w=>Lib.run_eql_slice_nil (P:=Tryz.prog) w 34 32 (some a) xs.length c 0 0 Tryz.underlying34
  have hnews: ∀j u,(xs.map (Value.int .i64))[j]? =some u→(w.alloc (.cells #[] 32)).cell? (a.add j)=some u:=fun j u hj=>by
   rw[List.getElem?_map]at hj
   cases hxj:xs[j]? with
   | none=>rw[hxj]at hj;cases hj
   | some x=>
    rw[hxj]at hj
    obtain⟨g,o,hA,hg,_,d1⟩:=hx j x hxj
    obtain rfl:=Option.some.inj hA
    rw[addr_add2,((Below.refl _ _).alloc (Nat.le_refl _) _).cell hg,d1]
    exact hj
  have HN:=Lib.hid hnews
  have h0:(w.alloc (.cells #[] 32)).ownsRow w.heap.size 32 1 (.slice (some ⟨w.heap.size,0,none⟩) 0 0) 0 []:=⟨rfl,.inr ⟨w.heap.size,0,#[],rfl,Nat.le_refl _,World.alloc_heap_new _ _,Nat.le_refl _,Nat.zero_le _,rfl,rfl⟩⟩
  have H0:=Lib.hid h0
  clear hx hn hnews h0
  go_enter Tryz.func41,Tryz.ntmps41
  go_wp2_with (at_builtin;refine wpList_append_own_at _ rfl _ _ 34 rfl w.heap.size 32 i0 (.int .i64 0) 1 8 Tryz.underlying34 hi hz0 hz1 hz2 rfl (by decide) _ _ _ rfl H0.out a xs.length c (xs.map (Value.int .i64)) rfl (by simp) HN.out (by simp[Value.oneCell']) (by unfold maxLen;omega) (by omega) (by simp) ?_;intro v' w1 hown hgrow hnl hat)
  go_ret
  have hB:Below w.heap.size w w1:=((Below.refl w.heap.size w).alloc (Nat.le_refl _) (.cells #[] 32)).grown hgrow (by simp) (fun g hg=>by cases hg;exact Nat.le_refl _)
  exact⟨_,rfl,by simpa using hown,hB⟩
set_option maxRecDepth 100000 in
set_option maxHeartbeats 1000000 in
theorem index_l {O:Nat→Prop} (u:Value) (xs:List Int) (y:Int) (w:World) (h1:IntsIn O w u xs) (hs:xs.length≤140737488355328):
  Calls Tryz.prog 136 #[u,.int .i64 y] w (IdxPost (xs.contains y) w):=by
 obtain⟨A,c,rfl,hc,_,hx⟩:=h1
 obtain⟨b,hb⟩: ∃b,xs.contains y=b:=⟨_,rfl⟩
 rw[hb]
 have HB:=Lib.hid hb
 have HX:=Lib.hid hx
 clear hx hb
 go_enter Tryz.func136,Tryz.ntmps136
 go_wp2
 go_loop [8] (fun i=> ∃k:Nat,k≤xs.length∧i= .int .i64 k∧Hid (∀j,j<k→xs[j]? ≠some y)) (fun i=>xs.length-(intOf i).toNat)
 case atStart=>exact⟨0,Nat.zero_le _,rfl,Lib.hid (fun j hj=>by omega)⟩
 case round=>
  obtain⟨k,hk,rfl,HE⟩:=hrel
  by_cases hlt:k<xs.length
  ·obtain⟨x,hxk⟩:=getElem_of hlt
   obtain⟨g,o,rfl,hg,_,d1⟩:=HX.out k x hxk
   have HXK:=Lib.hid hxk
   clear hxk
   by_cases hxy:y=x
   ·subst hxy
    go_wp2
    go_ret
    refine⟨⟨_,rfl,?_⟩,rfl⟩
    have hm:y∈xs:=List.mem_of_getElem? HXK.out
    rw[←HB.out,List.contains_iff_mem.2 hm]
    exact decide_eq_true (by omega)
   ·have hne:(y==x)=false:=by simpa using hxy
    have HN:=Lib.hid hxy
    clear hxy
    go_wp2
    go_round
    case rel=>exact⟨k+1,by omega,by go_num,Lib.hid (fun j hj=>by
     rcases Nat.lt_or_ge j k with h|h
     ·exact HE.out j h
     ·obtain rfl:j=k:=by omega
      rw[HXK.out]
      exact fun e=>HN.out (Option.some.inj e).symm)⟩
    case measure=>simp[intOf];omega
  ·obtain rfl:k=xs.length:=by omega
   go_wp2
   go_ret
   refine⟨⟨_,rfl,?_⟩,rfl⟩
   have hm: ¬y∈xs:=fun h=>by
    obtain⟨j,hj⟩:=List.getElem?_of_mem h
    exact HE.out j (List.getElem?_eq_some_iff.1 hj).1 hj
   rw[←HB.out,show xs.contains y=false by simpa using hm]
   rfl
set_option maxHeartbeats 400000 in
theorem contains_l {O:Nat→Prop} (u:Value) (xs:List Int) (y:Int) (w:World) (h1:IntsIn O w u xs) (hs:xs.length≤140737488355328):
  Calls Tryz.prog 143 #[u,.int .i64 y] w fun e w'=>e= .returned (.bool (xs.contains y))∧w=w':=by
 have H0:=index_l u xs y w h1 hs
 obtain⟨b,hb⟩: ∃b,xs.contains y=b:=⟨_,rfl⟩
 rw[hb]at H0⊢
 have H:=Lib.hid H0
 clear H0 hb
 go_enter Tryz.func143,Tryz.ntmps143
 go_wp2_with fail
 refine H.out.mono ?_
 rintro e w' ⟨⟨i,rfl,hi⟩,rfl⟩
 have HI:=Lib.hid hi
 clear hi
 go_wp2_with fail
 go_ret
 exact⟨ret_bool HI.out,rfl⟩
theorem info_l:(Tryz.prog.info? 32).map (fun i=>(i.zero,i.size,i.bytes))=some (some (.int .i64 0),1,8):=by kernel_rfl
set_option maxRecDepth 100000 in
set_option maxHeartbeats 1000000 in
theorem clone_l {O:Nat→Prop} (u:Value) (xs:List Int) (w:World) (h1:IntsIn O w u xs) (hs:xs.length≤17592186044416):
  Calls Tryz.prog 142 #[u] w fun e w'=> ∃v,e= .returned v∧w'.ownsRow w.heap.size 32 1 v xs.length (xs.map (Value.int .i64))∧Below w.heap.size w w':=by
 obtain⟨i0,hi,hz0,hz1,hz2⟩:=info_parts info_l
 obtain⟨A,c,rfl,hc,hn,hx⟩:=h1
 cases A with
 | none=>
  obtain rfl:=hn rfl
  have h0:xs.length=0:=by omega
  obtain rfl:xs= []:=List.eq_nil_of_length_eq_zero h0
  have hq:=fun w=>Lib.run_eql_slice_nil (P:=Tryz.prog) w 33 32 none 0 0 0 0 Tryz.underlying33
  clear hn hx
  go_enter Tryz.func142,Tryz.ntmps142
  go_wp2
  go_ret
  exact⟨_,rfl,World.ownsRow_nil _ _ _ _,Below.refl _ _⟩
 | some a=>
  have HX:=Lib.hid hx
  have hq:=fun w=>Lib.run_eql_slice_nil (P:=Tryz.prog) w 33 32 (some a) xs.length c 0 0 Tryz.underlying33
  have hnews: ∀j u,(xs.map (Value.int .i64))[j]? =some u→(w.alloc (.cells #[] 32)).cell? (a.add j)=some u:=fun j u hj=>by
   rw[List.getElem?_map]at hj
   cases hxj:xs[j]? with
   | none=>rw[hxj]at hj;cases hj
   | some x=>
    rw[hxj]at hj
    obtain⟨g,o,hA,hg,_,d1⟩:=hx j x hxj
    obtain rfl:=Option.some.inj hA
    rw[addr_add2,((Below.refl _ _).alloc (Nat.le_refl _) _).cell hg,d1]
    exact hj
  have HN:=Lib.hid hnews
  have h0:(w.alloc (.cells #[] 32)).ownsRow w.heap.size 32 1 (.slice (some ⟨w.heap.size,0,none⟩) 0 0) 0 []:=⟨rfl,.inr ⟨w.heap.size,0,#[],rfl,Nat.le_refl _,World.alloc_heap_new _ _,Nat.le_refl _,Nat.zero_le _,rfl,rfl⟩⟩
  have H0:=Lib.hid h0
  clear hx hn hnews h0
  go_enter Tryz.func142,Tryz.ntmps142
  go_wp2_with (at_builtin;refine wpList_append_own_at _ rfl _ _ 33 rfl w.heap.size 32 i0 (.int .i64 0) 1 8 Tryz.underlying33 hi hz0 hz1 hz2 rfl (by decide) _ _ _ rfl H0.out a xs.length c (xs.map (Value.int .i64)) rfl (by simp) HN.out (by simp[Value.oneCell']) (by unfold maxLen;omega) (by omega) (by simp) ?_;intro v' w1 hown hgrow hnl hat)
  go_ret
  have hB:Below w.heap.size w w1:=((Below.refl w.heap.size w).alloc (Nat.le_refl _) (.cells #[] 32)).grown hgrow (by simp) (fun g hg=>by cases hg;exact Nat.le_refl _)
  exact⟨_,rfl,by simpa using hown,hB⟩
end Go.Proofs.YtoojmhjagipmdaaGreat
namespace Go.Proofs.YtoojmhjagipmdaaGreat
open Go.RowKit Go.Maps
theorem int_law:Keyed Tryz.prog 3:=int_keyed Tryz.underlying3
theorem int_zero (w:World):(zeroValue 3).run Tryz.prog w= .ok (.int .i64 0) w:=by kernel_rfl
theorem wf64 {x:Int} (h0: -9223372036854775808≤x) (h1:x≤9223372036854775807):(Lit.int .i64 x).wf=true:=by
 refine WalkArith.wf_i64 ?_
 omega
def MapAt (w:World) (b n:Nat) (f:Int→Int):Prop:=
 ∃D:DataW Unit,w.ownsMap Tryz.prog 3 (plainElem Tryz.prog 3) b n D∧IsMap D∧∀x:Int,(Lit.int .i64 x).wf=true→D.atKey (.int .i64 x) (.lit (.int .i64 0))= .lit (.int .i64 (f x))
theorem MapAt.lt {w:World} {b n:Nat} {f:Int→Int} (h:MapAt w b n f):b<w.heap.size:=by
 obtain⟨D,⟨es,cl,hb,_⟩,_⟩:=h
 exact heap_lt hb
theorem MapAt.kept {O:Nat→Prop} {w w':World} {b n:Nat} {f:Int→Int} (h:MapAt w b n f) (k:Kept O w w') (hO: ¬O b):MapAt w' b n f:=by
 obtain⟨D,⟨es,cl,hb,rest⟩,h2⟩:=h
 exact⟨D,⟨es,cl,(k.block b (heap_lt hb) hO).trans hb,rest⟩,h2⟩
theorem MapAt.below {w w':World} {b n:Nat} {f:Int→Int} (h:MapAt w b n f) (k:Below w.heap.size w w'):MapAt w' b n f:=
 h.kept (O:=fun _=>False) (Kept.of_below k) (fun h=>h)
theorem MapAt.made (w:World):MapAt (w.alloc (.map #[] 0)) w.heap.size 0 (fun _=>0):=
 ⟨.map [],World.ownsMap_made _ _ _ _,isMap_empty,fun _ _=>rfl⟩
theorem MapAt.lookup {w:World} {b n:Nat} {f:Int→Int} (h:MapAt w b n f) {x:Int} (hx:(Lit.int .i64 x).wf=true):
  (Instr.lookup 109 (.map (some b)) (.int .i64 x) false).run Tryz.prog w= .ok (.int .i64 (f x)) w:=by
 obtain⟨D,ho,hm,hf⟩:=h
 obtain⟨c,hrun,hat,_⟩:=ho.lookup_int int_law Tryz.underlying109 Tryz.underlying3 (int_zero _) (keyOf_int_mk Tryz.underlying3 hx)
 have:=hf x hx
 rw[hat]at this
 have hc:c=f x:=by simpa using this
 rw[hrun,hc]
theorem MapAt.put {w':World} {b n:Nat} {f:Int→Int} {D:DataW Unit} {x y:Int} (hm:IsMap D) (hf: ∀x:Int,(Lit.int .i64 x).wf=true→D.atKey (.int .i64 x) (.lit (.int .i64 0))= .lit (.int .i64 (f x)))
  (h:w'.ownsMap Tryz.prog 3 (plainElem Tryz.prog 3) b (n+1) (D.put (.int .i64 x) (.lit (.int .i64 y)))):MapAt w' b (n+1) (fun z=>if z=x then y else f z):=by
 refine⟨_,h,hm.put _ _,fun z hz=>?_⟩
 show _=DataW.lit (Lit.int .i64 (if z=x then y else f z))
 by_cases hzx:z=x
 ·subst hzx
  rw[if_pos rfl,atKey_put_same hm (by simp[WideAt.IsKeyLit])]
 ·rw[if_neg hzx,atKey_put_other (by simpa using hzx),hf z hz]
theorem wpList_put {w:World} {ops:Array Oper} {rest:List Oper} {o:Oper} {a:Act} {Q:Exit→Act→World→Prop} {b n:Nat} {f:Int→Int} (hown:MapAt w b n f)
  (hg:o.guard=none) (m x v:Operand) (hop:o.op=Op.mapUpdate 109 m x v) (hm:a.eval m= .map (some b)) (hn:n<maxLen) (i y:Int) (hx:a.eval x= .int .i64 i) (hv:a.eval v= .int .i64 y)
  (hi:(Lit.int .i64 i).wf=true) (hy:(Lit.int .i64 y).wf=true)
  (hK: ∀w',MapAt w' b (n+1) (fun z=>if z=i then y else f z)→w.grownBy w' (some b)→wpList Tryz.prog ops Q rest (a.put o.dst undef) w'):wpList Tryz.prog ops Q (o::rest) a w:=by
 obtain⟨D,ho,hmap,hf⟩:=hown
 exact wpList_mapUpdate_own w hg m x v _ hop 3 3 int_law Tryz.underlying109 _ b n D hm ho hn _ _ _ hx hv (keyOf_int_mk Tryz.underlying3 hi) _ [] (plainElem_int Tryz.underlying3 hy)
  (fun w' h1 h2=>hK w' (MapAt.put hmap hf h1) h2)
end Go.Proofs.YtoojmhjagipmdaaGreat
namespace Go.Proofs.YtoojmhjagipmdaaGreat
open Go.RowKit
def litB (x:Int):Bool:=decide (x≠0∧ -1048576≤x∧x≤1048576)
theorem litB_iff (x:Int):litB x=true↔x≠0∧ -1048576≤x∧x≤1048576:=by simp[litB]
def clauseB (xs:List Int):Bool:=decide (xs.length≤4096)&&xs.all litB
set_option maxHeartbeats 400000 in
theorem right_lit (x:Int) (w:World):Calls Tryz.prog 58 #[.int .i64 x] w fun e w'=>e= .returned (.bool (litB x))∧w=w':=by
 obtain⟨b,hb⟩: ∃b,litB x=b:=⟨_,rfl⟩
 rw[hb]
 have HB:=Lib.hid hb
 clear hb
 by_cases h0:x=0
 ·subst h0
  go_enter Tryz.func58,Tryz.ntmps58
  go_wp2
  go_ret
  exact⟨ret_bool (by rw[←HB.out];rfl),rfl⟩
 ·have h1:(x != 0)=true:=by simpa using h0
  have H0:=Lib.hid h0
  clear h0
  by_cases h2: -1048576≤x
  ·have h2':decide (-1048576≤x)=true:=by simpa using h2
   by_cases h3:x≤1048576
   ·have h3':decide (x≤1048576)=true:=by simpa using h3
    go_enter Tryz.func58,Tryz.ntmps58
    go_wp2
    go_ret
    exact⟨ret_bool (by rw[←HB.out];exact((litB_iff x).2 ⟨H0.out,h2,h3⟩).symm),rfl⟩
   ·have h3':decide (x≤1048576)=false:=by simpa using h3
    go_enter Tryz.func58,Tryz.ntmps58
    go_wp2
    go_ret
    exact⟨ret_bool (by rw[←HB.out];exact(Bool.eq_false_iff.2 (fun h=>by have:=(litB_iff x).1 h;omega)).symm),rfl⟩
  ·have h2':decide (-1048576≤x)=false:=by simpa using h2
   go_enter Tryz.func58,Tryz.ntmps58
   go_wp2
   go_ret
   exact⟨ret_bool (by rw[←HB.out];exact(Bool.eq_false_iff.2 (fun h=>by have:=(litB_iff x).1 h;omega)).symm),rfl⟩
theorem wrong_lit (x:Int) (w:World):Calls Tryz.prog 63 #[.int .i64 x] w fun e w'=>e= .returned (.bool (!litB x))∧w=w':=by
 have H:=fun w=>right_lit x w
 obtain⟨b,hb⟩: ∃b,litB x=b:=⟨_,rfl⟩
 rw[hb]
 rw[hb]at H
 clear hb
 have H:=Lib.hid H
 go_enter Tryz.func63,Tryz.ntmps63
 go_wp2_with fail
 refine(H.out _).mono ?_
 rintro e w' ⟨rfl,rfl⟩
 go_wp2_with fail
 go_ret
 exact⟨rfl,rfl⟩
set_option maxRecDepth 100000 in
set_option maxHeartbeats 1000000 in
theorem index_wrong {O:Nat→Prop} (u:Value) (xs:List Int) (w:World) (h1:IntsIn O w u xs) (hs:xs.length≤140737488355328):
  Calls Tryz.prog 113 #[u,.func (.func 63) #[] #[]] w (IdxPost (!xs.all litB) w):=by
 obtain⟨A,c,rfl,hc,_,hx⟩:=h1
 obtain⟨b,hb⟩: ∃b,(!xs.all litB)=b:=⟨_,rfl⟩
 rw[hb]
 have HB:=Lib.hid hb
 have HX:=Lib.hid hx
 clear hx hb
 go_enter Tryz.func113,Tryz.ntmps113
 go_wp2
 go_loop [8] (fun i=> ∃k:Nat,k≤xs.length∧i= .int .i64 k∧Hid (∀j x,j<k→xs[j]? =some x→litB x=true)) (fun i=>xs.length-(intOf i).toNat)
 case atStart=>exact⟨0,Nat.zero_le _,rfl,Lib.hid (fun j x hj=>by omega)⟩
 case round=>
  obtain⟨k,hk,rfl,HE⟩:=hrel
  by_cases hlt:k<xs.length
  ·obtain⟨x,hxk⟩:=getElem_of hlt
   obtain⟨g,o,rfl,hg,_,d1⟩:=HX.out k x hxk
   have HXK:=Lib.hid hxk
   have HW:=wrong_lit x
   clear hxk
   cases hl:litB x with
   | false=>
    rw[hl]at HW
    have HL:=Lib.hid hl
    have HW:=Lib.hid HW
    clear hl
    go_wp2_with fail
    refine(HW.out _).mono ?_
    rintro e w' ⟨rfl,rfl⟩
    go_wp2
    go_ret
    refine⟨⟨_,rfl,?_⟩,rfl⟩
    have hm:(xs.all litB)=false:=Bool.eq_false_iff.2 (fun h=>by
     have:=List.all_eq_true.1 h x (List.mem_of_getElem? HXK.out)
     rw[HL.out]at this
     cases this)
    rw[←HB.out,hm]
    exact decide_eq_true (by omega)
   | true=>
    rw[hl]at HW
    have HL:=Lib.hid hl
    have HW:=Lib.hid HW
    clear hl
    go_wp2_with fail
    refine(HW.out _).mono ?_
    rintro e w' ⟨rfl,rfl⟩
    go_wp2
    go_round
    case rel=>exact⟨k+1,by omega,by go_num,Lib.hid (fun j y hj hy=>by
     rcases Nat.lt_or_ge j k with h|h
     ·exact HE.out j y h hy
     ·obtain rfl:j=k:=by omega
      rw[HXK.out]at hy
      obtain rfl:=Option.some.inj hy
      exact HL.out)⟩
    case measure=>simp[intOf];omega
  ·obtain rfl:k=xs.length:=by omega
   go_wp2
   go_ret
   refine⟨⟨_,rfl,?_⟩,rfl⟩
   have hm:(xs.all litB)=true:=List.all_eq_true.2 (fun x hx=>by
    obtain⟨j,hj⟩:=List.getElem?_of_mem hx
    exact HE.out j x (List.getElem?_eq_some_iff.1 hj).1 hj)
   rw[←HB.out,hm]
   rfl
set_option maxHeartbeats 400000 in
theorem contains_wrong {O:Nat→Prop} (u:Value) (xs:List Int) (w:World) (h1:IntsIn O w u xs) (hs:xs.length≤140737488355328):
  Calls Tryz.prog 103 #[u,.func (.func 63) #[] #[]] w fun e w'=>e= .returned (.bool (!xs.all litB))∧w=w':=by
 have H0:=index_wrong u xs w h1 hs
 obtain⟨b,hb⟩: ∃b,(!xs.all litB)=b:=⟨_,rfl⟩
 rw[hb]at H0⊢
 have H:=Lib.hid H0
 clear H0 hb
 go_enter Tryz.func103,Tryz.ntmps103
 go_wp2_with fail
 refine H.out.mono ?_
 rintro e w' ⟨⟨i,rfl,hi⟩,rfl⟩
 have HI:=Lib.hid hi
 clear hi
 go_wp2_with fail
 go_ret
 exact⟨ret_bool HI.out,rfl⟩
set_option maxHeartbeats 400000 in
theorem right_clause {O:Nat→Prop} (u:Value) (xs:List Int) (w:World) (h1:IntsIn O w u xs) (hs:xs.length≤140737488355328):
  Calls Tryz.prog 62 #[u] w fun e w'=>e= .returned (.bool (clauseB xs))∧w=w':=by
 have H0:=contains_wrong u xs w h1 hs
 obtain⟨A,c,rfl,_⟩:=h1
 unfold clauseB
 by_cases hl:xs.length≤4096
 ·have hl':decide ((xs.length:Int)≤4096)=true:=by simp;omega
  rw[decide_eq_true hl,Bool.true_and]
  cases ha:xs.all litB with
  | true=>
   rw[ha]at H0
   have H:=Lib.hid H0
   clear H0 ha
   go_enter Tryz.func62,Tryz.ntmps62
   go_wp2_with fail
   refine H.out.mono ?_
   rintro e w' ⟨rfl,rfl⟩
   go_wp2_with fail
   go_ret
   exact⟨rfl,rfl⟩
  | false=>
   rw[ha]at H0
   have H:=Lib.hid H0
   clear H0 ha
   go_enter Tryz.func62,Tryz.ntmps62
   go_wp2_with fail
   refine H.out.mono ?_
   rintro e w' ⟨rfl,rfl⟩
   go_wp2_with fail
   go_ret
   exact⟨rfl,rfl⟩
 ·have hl':decide ((xs.length:Int)≤4096)=false:=by simp;omega
  rw[decide_eq_false hl,Bool.false_and]
  clear H0
  go_enter Tryz.func62,Tryz.ntmps62
  go_wp2_with fail
  go_ret
  exact⟨rfl,rfl⟩
end Go.Proofs.YtoojmhjagipmdaaGreat
namespace Go.Proofs.YtoojmhjagipmdaaGreat
open Go.RowKit
def litV (l:Int):Nat:=if litB l=true then l.natAbs else 0
set_option maxHeartbeats 1000000 in
theorem lit_var (l:Int) (w:World):Calls Tryz.prog 17 #[.int .i64 l] w fun e w'=>e= .returned (.int .i64 (litV l:Nat))∧w=w':=by
 have HR:=Lib.hid (right_lit l w)
 rcases hb:litB l with _|_
 ·rw[hb]at HR
  have hv:litV l=0:=by unfold litV;rw[if_neg (by rw[hb];decide)]
  rw[hv]
  clear hb hv
  go_enter Tryz.func17,Tryz.ntmps17
  go_wp2_with fail
  refine HR.out.mono ?_
  rintro e w' ⟨rfl,rfl⟩
  go_wp2_with fail
  go_ret
  exact⟨rfl,rfl⟩
 ·rw[hb]at HR
  have hr:=(litB_iff l).1 hb
  have hv:(litV l:Int)=max l (-l):=by unfold litV;rw[if_pos hb];omega
  have HV:=Lib.hid hv
  obtain⟨h0,h1,h2⟩:=hr
  clear hb hv
  have hw:IntKind.i64.wrap (-l)= -l:=IntWalk.i64_in _ (by omega)
  go_enter Tryz.func17,Tryz.ntmps17
  go_wp2_with fail
  refine HR.out.mono ?_
  rintro e w' ⟨rfl,rfl⟩
  go_wp2_with fail
  ·go_ret
   exact⟨ret_int (a:= -l) (by have:=HV.out;omega),rfl⟩
  ·go_ret
   exact⟨ret_int (a:=l) (by have:=HV.out;omega),rfl⟩
def litN (l:Int):Int:=if litB l=true then -l else 0
theorem lit_neg (l:Int) (w:World):Calls Tryz.prog 59 #[.int .i64 l] w fun e w'=>e= .returned (.int .i64 (litN l))∧w=w':=by
 have HR:=right_lit l w
 cases hb:litB l
 ·
  rw[hb]at HR
  have HR:=Lib.hid HR
  have hv:litN l=0:=by unfold litN;rw[if_neg (by rw[hb];decide)]
  rw[hv]
  clear hb hv
  go_enter Tryz.func59,Tryz.ntmps59
  go_wp2_with fail
  refine HR.out.mono ?_
  rintro e w' ⟨rfl,rfl⟩
  go_wp2_with fail
  go_ret
  exact⟨rfl,rfl⟩
 ·
  rw[hb]at HR
  have HR:=Lib.hid HR
  have hr:=(litB_iff l).1 hb
  have hv:litN l= -l:=by unfold litN;rw[if_pos hb]
  rw[hv]
  obtain⟨h0,h1,h2⟩:=hr
  clear hb hv
  have hw:IntKind.i64.wrap (-l)= -l:=IntWalk.i64_in _ (by omega)
  go_enter Tryz.func59,Tryz.ntmps59
  go_wp2_with fail
  refine HR.out.mono ?_
  rintro e w' ⟨rfl,rfl⟩
  go_wp2_with fail
  go_ret
  exact⟨rfl,rfl⟩
end Go.Proofs.YtoojmhjagipmdaaGreat
namespace Go.Proofs.YtoojmhjagipmdaaGreat
open Go.RowKit
def litS (l:Int):Int:=if l<0 then -1 else 1
theorem litS_abs (l:Int):litS l=1∨litS l= -1:=by
 unfold litS
 split
 ·exact .inr rfl
 ·exact .inl rfl
structure TV where
 level:Int
 reason:Int
 place:Int
 value:Int
def TV.cells (t:TV):List Value:= [.int .i64 t.level,.int .i64 t.reason,.int .i64 t.place,.int .i64 t.value]
structure Trl where
 vars:List TV
 order:List Int
 starts:List Int
def Trl.at (T:Trl) (v:Int):Option TV:=if 1≤v∧v<T.vars.length then T.vars[v.toNat]? else none
def Trl.val (T:Trl) (l:Int):Int:=match T.at (litV l)with
 | some s=>s.value*litS l
 | none=>0
def Trl.why (T:Trl) (v:Int):Option TV:=match T.at v with
 | some s=>if s.value=0 then none else some s
 | none=>none
structure TrMem (O:Nat→Prop) (w:World) (b:Nat) (T:Trl) (gv cv:Nat) (ov sv:Value):Prop where
 own: ∀g,O g→g<w.heap.size
 inb:O b
 invs:O gv
 block:w.heap[b]? =some (.cells #[.slice (some ⟨gv,0,none⟩) T.vars.length cv,ov,sv,.bool true] 153 (0,0))
 vars:w.ownsRow 0 150 4 (.slice (some ⟨gv,0,none⟩) T.vars.length cv) T.vars.length (T.vars.flatMap TV.cells)
 order:w.ownsRow 0 32 1 ov T.order.length (T.order.map (Value.int .i64))
 orderb: ∀g,ov.ownBlock=some g→O g
 starts:w.ownsRow 0 3 1 sv T.starts.length (T.starts.map (Value.int .i64))
 startsb: ∀g,sv.ownBlock=some g→O g
structure Trl.Ok (T:Trl):Prop where
 vars:1≤T.vars.length∧T.vars.length≤1048577
 order:T.order.length≤1048576
 starts:1≤T.starts.length∧T.starts.length≤1048576
 each: ∀s∈T.vars,s.value=0∨s.value=1∨s.value= -1
def TrAt (O:Nat→Prop) (w:World) (b:Nat) (T:Trl):Prop:=T.Ok∧∃gv cv ov sv,TrMem O w b T gv cv ov sv
theorem TrMem.kept {O O':Nat→Prop} {w w':World} {b:Nat} {T:Trl} {gv cv:Nat} {ov sv:Value} (h:TrMem O w b T gv cv ov sv) (k:Kept O' w w') (hO: ∀g,O g→¬O' g):TrMem O w' b T gv cv ov sv where
 own:=fun g hg=>Nat.lt_of_lt_of_le (h.own g hg) k.size
 inb:=h.inb
 invs:=h.invs
 block:=(k.block b (heap_lt h.block) (hO b h.inb)).trans h.block
 vars:=own_kept h.vars k (fun g hg=>by
  obtain rfl:gv=g:=Option.some.inj hg
  exact hO gv h.invs)
 order:=own_kept h.order k (fun g hg=>hO g (h.orderb g hg))
 orderb:=h.orderb
 starts:=own_kept h.starts k (fun g hg=>hO g (h.startsb g hg))
 startsb:=h.startsb
theorem TrAt.kept {O O':Nat→Prop} {w w':World} {b:Nat} {T:Trl} (h:TrAt O w b T) (k:Kept O' w w') (hO: ∀g,O g→¬O' g):TrAt O w' b T:=by
 obtain⟨hk,gv,cv,ov,sv,h⟩:=h
 exact⟨hk,gv,cv,ov,sv,h.kept k hO⟩
theorem TrAt.below {O:Nat→Prop} {w w':World} {b:Nat} {T:Trl} (h:TrAt O w b T) (k:Below w.heap.size w w'):TrAt O w' b T:=
 h.kept (O':=fun _=>False) (Kept.of_below k) (fun _ _ h=>h)
theorem tvCells_at (l:List TV) (i j:Nat) (x:TV) (h:l[i]? =some x) (hj:j<4):(l.flatMap TV.cells)[i*4+j]? =x.cells[j]? :=by
 induction l generalizing i with
 | nil=>simp at h
 | cons y l ih=>
  rw[List.flatMap_cons]
  cases i with
  | zero=>
   obtain rfl:y=x:=by simpa using h
   rw[Nat.zero_mul,Nat.zero_add,List.getElem?_append_left (by simpa [TV.cells] using hj)]
  | succ i=>
   rw[List.getElem?_append_right (by simp[TV.cells];omega)]
   have e:(i+1)*4+j-y.cells.length=i*4+j:=by simp[TV.cells];omega
   rw[e]
   exact ih i (by simpa using h)
theorem TrMem.var {O:Nat→Prop} {w:World} {b:Nat} {T:Trl} {gv cv:Nat} {ov sv:Value} (h:TrMem O w b T gv cv ov sv) {i:Nat} {s:TV} (hs:T.vars[i]? =some s):
  w.cell? ⟨gv,i*4,none⟩=some (.int .i64 s.level)∧w.cell? ⟨gv,i*4+1,none⟩=some (.int .i64 s.reason)∧w.cell? ⟨gv,i*4+2,none⟩=some (.int .i64 s.place)∧w.cell? ⟨gv,i*4+3,none⟩=some (.int .i64 s.value):=
 ⟨mx_at h.vars (j:=i*4+0) (by rw[tvCells_at _ i 0 s hs (by omega)];rfl),mx_at h.vars (by rw[tvCells_at _ i 1 s hs (by omega)];rfl),mx_at h.vars (by rw[tvCells_at _ i 2 s hs (by omega)];rfl),mx_at h.vars (by rw[tvCells_at _ i 3 s hs (by omega)];rfl)⟩
theorem tr_sign (l:Int) (w:World):Calls Tryz.prog 94 #[.int .i64 l] w fun e w'=>e= .returned (.int .i64 (litS l))∧w=w':=by
 by_cases h:l<0
 ·have hd:decide (l<0)=true:=by simpa using h
  have HS:=Lib.hid (show litS l= -1 from if_pos h)
  clear h
  go_enter Tryz.func94,Tryz.ntmps94
  go_wp2_with fail
  go_ret
  exact⟨by rw[HS.out];rfl,rfl⟩
 ·have hd:decide (l<0)=false:=by simpa using h
  have HS:=Lib.hid (show litS l=1 from if_neg h)
  clear h
  go_enter Tryz.func94,Tryz.ntmps94
  go_wp2_with fail
  go_ret
  exact⟨by rw[HS.out];rfl,rfl⟩
theorem tr_is {O:Nat→Prop} (b:Nat) (T:Trl) (w:World) (h:TrAt O w b T):Calls Tryz.prog 95 #[.pointer (some ⟨b,0,none⟩)] w fun e w'=>e= .returned (.bool true)∧w=w':=by
 obtain⟨hk,gv,cv,ov,sv,h⟩:=h
 have c3:w.cell? ⟨b,3,none⟩=some (.bool true):=mx_cell (j:=3) h.block
 clear h hk
 go_enter Tryz.func95,Tryz.ntmps95
 go_wp2_with fail
 go_ret
 exact⟨rfl,rfl⟩
def stateVal (gv:Nat) (v:Int):Option TV→Value
 | some _=>.tuple #[.pointer (some ⟨gv,v.toNat*4,none⟩),.bool true]
 | none=>.tuple #[.pointer none,.bool false]
theorem stateVal_some (gv:Nat) (v:Int) (s:TV):stateVal gv v (some s)= .tuple #[.pointer (some ⟨gv,v.toNat*4,none⟩),.bool true]:=rfl
theorem stateVal_none (gv:Nat) (v:Int):stateVal gv v none= .tuple #[.pointer none,.bool false]:=rfl
theorem tr_state {O:Nat→Prop} (b:Nat) (T:Trl) (gv cv:Nat) (ov sv:Value) (v:Int) (w:World) (hk:T.Ok) (h:TrMem O w b T gv cv ov sv):
  Calls Tryz.prog 93 #[.pointer (some ⟨b,0,none⟩),.int .i64 v] w fun e w'=>e= .returned (stateVal gv v (T.at v))∧w=w':=by
 have HIS:=Lib.hid (tr_is b T w ⟨hk,gv,cv,ov,sv,h⟩)
 have c0:w.cell? ⟨b,0,none⟩=some (.slice (some ⟨gv,0,none⟩) T.vars.length cv):=mx_cell (j:=0) h.block
 have hv:=hk.vars
 clear h hk
 by_cases h1:v<1
 ·have hd:decide (v<1)=true:=by simpa using h1
  have HN:=Lib.hid (show T.at v=none from if_neg (by omega))
  clear h1
  go_enter Tryz.func93,Tryz.ntmps93
  go_wp2_with fail
  refine HIS.out.mono ?_
  rintro e w' ⟨rfl,rfl⟩
  go_wp2_with fail
  go_ret2
  exact⟨by rw[HN.out];rfl,rfl⟩
 ·have hd:decide (v<1)=false:=by simpa using h1
  obtain⟨n,rfl⟩: ∃n:Nat,v=(n:Int):=⟨v.toNat,by omega⟩
  by_cases h2:n<T.vars.length
  ·have hd2:decide ((T.vars.length:Int)≤(n:Int))=false:=by simp;omega
   have HN:=Lib.hid (show∃s,T.at n=some s from⟨T.vars[n],by unfold Trl.at;rw[if_pos (by omega)];exact List.getElem?_eq_getElem h2⟩)
   clear h1
   go_enter Tryz.func93,Tryz.ntmps93
   go_wp2_with fail
   refine HIS.out.mono ?_
   rintro e w' ⟨rfl,rfl⟩
   go_wp2_with fail
   go_ret2
   refine⟨?_,rfl⟩
   obtain⟨s,hs⟩:=HN.out
   rw[hs]
   rfl
  ·have hd2:decide ((T.vars.length:Int)≤(n:Int))=true:=by simp;omega
   have HN:=Lib.hid (show T.at n=none from if_neg (by omega))
   clear h1
   go_enter Tryz.func93,Tryz.ntmps93
   go_wp2_with fail
   refine HIS.out.mono ?_
   rintro e w' ⟨rfl,rfl⟩
   go_wp2_with fail
   go_ret2
   exact⟨by rw[HN.out];rfl,rfl⟩
end Go.Proofs.YtoojmhjagipmdaaGreat
