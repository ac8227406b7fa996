/- Made (package salvorlaw08): a clause of small numbers. Clauses in memory. salvorlaw08.All: clauses that Made makes. append of a row, whatever its length, nil too. Clauses in blocks of which something is known. -/
import Derived.Test.YteigjcichmpejaaDoorV100
import Derived.Test.YteigjcichmpejaaDoorV103
import Derived.Test.YteigjcichmpejaaDoorV102
import Derived.Test.YteigjcichmpejaaDoorV105
import Derived.Laws.AppendOwnNone
namespace Go.Proofs.YteigjcichmpejaaDoor
open Go.RowKit
theorem info_lit:(Tryd.prog.info? 51).map (fun i=>(i.zero,i.size,i.bytes))=some (some (.int .i64 0),1,8):=by kernel_rfl
def madeLit (x:Int):Int:=if x%2=1 then -(1+(x%256/2)%6)else 1+(x%256/2)%6
def madeL (xs:List Int):List Int:=(xs.take 6).map madeLit
theorem madeLit_rng (x:Int):(-6≤madeLit x∧madeLit x≤6)∧madeLit x≠0:=by
 unfold madeLit
 split <;> omega
theorem madeL_ok (xs:List Int):clauseB (madeL xs)=true:=by
 unfold clauseB
 rw[Bool.and_eq_true,decide_eq_true_eq,List.all_eq_true]
 refine⟨by simp[madeL];omega,fun y hy=>?_⟩
 obtain⟨x,_,rfl⟩:=List.mem_map.1 hy
 have:=madeLit_rng x
 exact(litB_iff _).2 ⟨this.2,by omega,by omega⟩
theorem i8_rng {x:Int} (h:(Lit.int .i8 x).wf=true): -128≤x∧x≤127:=by
 simp only[Lit.wf,Bool.and_eq_true,decide_eq_true_eq]at h
 exact⟨h.1,h.2⟩
theorem and_one_fin: ∀i:Fin 256,bits BinOp.and IntKind.i8 ((i:Nat)-128:Int) 1=(((i:Nat)-128:Int))%2:=by decide +kernel
theorem and_one {x:Int} (h1: -128≤x) (h2:x≤127):bits BinOp.and IntKind.i8 x 1=x%2:=by
 have h:=and_one_fin ⟨(x+128).toNat,by omega⟩
 have e:(((x+128).toNat:Nat):Int)-128=x:=by omega
 simp only[e]at h
 exact h
theorem below_alloc1 (w:World) (o:Obj):Below w.heap.size w (w.alloc o):=(Below.refl _ _).alloc (Nat.le_refl _) _
set_option maxRecDepth 100000 in
set_option maxHeartbeats 2000000 in
theorem made_long (u:Value) (xs:List Int) (w:World) (h:RowAt .i8 w u xs) (h6:(6:Int)<(xs.length:Int)):
  Calls Tryd.prog 10 #[u] w fun e w'=> ∃v,e= .returned v∧w'.ownsRow w.heap.size 51 1 v 6 (((xs.take 6).map madeLit).map (Value.int .i64))∧Below w.heap.size w w':=by
 obtain⟨i0,hi,hz0,hz1,hz2⟩:=info_parts info_lit
 obtain⟨A,c,rfl,hc,hmx,hn,hw,hx⟩:=h
 unfold maxLen at hmx
 have HX:=Lib.hid hx
 have HW:=Lib.hid hw
 clear hx hw hn
 go_enter Tryd.func10,Tryd.ntmps10
 go_wp2_with fail
 go_loopw [3,13] (fun v i wr=> ∃k:Nat,k≤6∧i= .int .i64 k∧Hid (Below w.heap.size w wr)∧Hid (wr.ownsRow w.heap.size 51 1 v k (((xs.take k).map madeLit).map (Value.int .i64)))) (fun _ i _=>6-(intOf i).toNat)
 case atStart=>exact⟨0,Nat.zero_le _,rfl,Lib.hid (Below.refl _ _),Lib.hid (World.ownsRow_nil _ _ _ _)⟩
 case round=>
  obtain⟨k,hk,rfl,HB,HR⟩:=hrel
  by_cases hlt:k<6
  ·obtain⟨x,hxk⟩:=getElem_of (show k<xs.length by omega)
   obtain⟨g,o,rfl,hg,d0⟩:=HX.out k x hxk
   have d1:=(HB.out.cell (p:=⟨g,o+k,none⟩) hg).trans d0
   have hwx:=i8_rng (HW.out x (List.mem_of_getElem? hxk))
   obtain⟨hx1,hx2⟩:=hwx
   have HXK:=Lib.hid hxk
   clear hxk d0
   have hbx:=and_one hx1 hx2
   cases hodd:decide (x%2=1)with
   | true=>
    have hq:(bits BinOp.and IntKind.i8 x 1==1)=true:=by rw[hbx];simpa using hodd
    have HLX:Hid (madeLit x= -(1+x%256/2%6)):=Lib.hid (by unfold madeLit;rw[if_pos (of_decide_eq_true hodd)])
    clear hbx hodd
    go_wp2_with (at_builtin;refine wpList_append_own_at _ rfl _ _ 38 rfl w.heap.size 51 i0 (.int .i64 0) 1 8 Tryd.underlying38 hi hz0 hz1 hz2 rfl (by decide) _ k _ rfl (own_below HR.out (below_alloc1 wr _)) ⟨wr.heap.size,0,none⟩ 1 1 [.int .i64 (-(1+x%256/2%6))] rfl rfl (cell_one_new' _ _ _) (by simp[Value.oneCell']) (by unfold maxLen;omega) (by omega) (by have:=HB.out.size;simp;omega) ?_;intro v' w1 hown hgrow hnl hat)
    obtain⟨Av,kv,rfl,_⟩:=mx_slice hown
    have hb1:Below w.heap.size w w1:=(HB.out.trans ((below_alloc1 wr (.cells #[.int .i64 (-(1+x%256/2%6))] 51)).mono HB.out.size)).grown hgrow (by have:=HB.out.size;simp;omega) (fun g hg=>(own_lt HR.out g hg).1)
    have htk:((xs.take (k+1)).map madeLit).map (Value.int .i64)=((xs.take k).map madeLit).map (Value.int .i64)++ [.int .i64 (-(1+x%256/2%6))]:=by
     rw[List.take_add_one,HXK.out,←HLX.out]
     simp
    have HO:=Lib.hid hown
    have HB1:=Lib.hid hb1
    have HTK:=Lib.hid htk
    clear hown hgrow hnl hat hb1 htk
    go_wp2
    go_roundw
    case rel=>exact⟨k+1,by omega,by go_num,HB1,Lib.hid (by rw[HTK.out];exact HO.out)⟩
    case measure=>simp[intOf];omega
   | false=>
    have hq:(bits BinOp.and IntKind.i8 x 1==1)=false:=by rw[hbx];simpa using hodd
    have HLX:Hid (madeLit x=1+x%256/2%6):=Lib.hid (by unfold madeLit;rw[if_neg (of_decide_eq_false hodd)])
    clear hbx hodd
    go_wp2_with (at_builtin;refine wpList_append_own_at _ rfl _ _ 38 rfl w.heap.size 51 i0 (.int .i64 0) 1 8 Tryd.underlying38 hi hz0 hz1 hz2 rfl (by decide) _ k _ rfl (own_below HR.out (below_alloc1 wr _)) ⟨wr.heap.size,0,none⟩ 1 1 [.int .i64 (1+x%256/2%6)] rfl rfl (cell_one_new' _ _ _) (by simp[Value.oneCell']) (by unfold maxLen;omega) (by omega) (by have:=HB.out.size;simp;omega) ?_;intro v' w1 hown hgrow hnl hat)
    obtain⟨Av,kv,rfl,_⟩:=mx_slice hown
    have hb1:Below w.heap.size w w1:=(HB.out.trans ((below_alloc1 wr (.cells #[.int .i64 (1+x%256/2%6)] 51)).mono HB.out.size)).grown hgrow (by have:=HB.out.size;simp;omega) (fun g hg=>(own_lt HR.out g hg).1)
    have htk:((xs.take (k+1)).map madeLit).map (Value.int .i64)=((xs.take k).map madeLit).map (Value.int .i64)++ [.int .i64 (1+x%256/2%6)]:=by
     rw[List.take_add_one,HXK.out,←HLX.out]
     simp
    have HO:=Lib.hid hown
    have HB1:=Lib.hid hb1
    have HTK:=Lib.hid htk
    clear hown hgrow hnl hat hb1 htk
    go_wp2
    go_roundw
    case rel=>exact⟨k+1,by omega,by go_num,HB1,Lib.hid (by rw[HTK.out];exact HO.out)⟩
    case measure=>simp[intOf];omega
  ·obtain rfl:k=6:=by omega
   go_wp2_with fail
   go_ret
   exact⟨_,rfl,HR.out,HB.out⟩
set_option maxRecDepth 100000 in
set_option maxHeartbeats 2000000 in
theorem made_short (u:Value) (xs:List Int) (w:World) (h:RowAt .i8 w u xs) (h6:(xs.length:Int)≤6):
  Calls Tryd.prog 10 #[u] w fun e w'=> ∃v,e= .returned v∧w'.ownsRow w.heap.size 51 1 v xs.length (((xs.take xs.length).map madeLit).map (Value.int .i64))∧Below w.heap.size w w':=by
 obtain⟨i0,hi,hz0,hz1,hz2⟩:=info_parts info_lit
 obtain⟨A,c,rfl,hc,hmx,hn,hw,hx⟩:=h
 unfold maxLen at hmx
 have HX:=Lib.hid hx
 have HW:=Lib.hid hw
 clear hx hw hn
 go_enter Tryd.func10,Tryd.ntmps10
 go_wp2_with fail
 go_loopw [3,13] (fun v i wr=> ∃k:Nat,k≤xs.length∧i= .int .i64 k∧Hid (Below w.heap.size w wr)∧Hid (wr.ownsRow w.heap.size 51 1 v k (((xs.take k).map madeLit).map (Value.int .i64)))) (fun _ i _=>xs.length-(intOf i).toNat)
 case atStart=>exact⟨0,Nat.zero_le _,rfl,Lib.hid (Below.refl _ _),Lib.hid (World.ownsRow_nil _ _ _ _)⟩
 case round=>
  obtain⟨k,hk,rfl,HB,HR⟩:=hrel
  by_cases hlt:k<xs.length
  ·obtain⟨x,hxk⟩:=getElem_of (show k<xs.length by omega)
   obtain⟨g,o,rfl,hg,d0⟩:=HX.out k x hxk
   have d1:=(HB.out.cell (p:=⟨g,o+k,none⟩) hg).trans d0
   have hwx:=i8_rng (HW.out x (List.mem_of_getElem? hxk))
   obtain⟨hx1,hx2⟩:=hwx
   have HXK:=Lib.hid hxk
   clear hxk d0
   have hbx:=and_one hx1 hx2
   cases hodd:decide (x%2=1)with
   | true=>
    have hq:(bits BinOp.and IntKind.i8 x 1==1)=true:=by rw[hbx];simpa using hodd
    have HLX:Hid (madeLit x= -(1+x%256/2%6)):=Lib.hid (by unfold madeLit;rw[if_pos (of_decide_eq_true hodd)])
    clear hbx hodd
    go_wp2_with (at_builtin;refine wpList_append_own_at _ rfl _ _ 38 rfl w.heap.size 51 i0 (.int .i64 0) 1 8 Tryd.underlying38 hi hz0 hz1 hz2 rfl (by decide) _ k _ rfl (own_below HR.out (below_alloc1 wr _)) ⟨wr.heap.size,0,none⟩ 1 1 [.int .i64 (-(1+x%256/2%6))] rfl rfl (cell_one_new' _ _ _) (by simp[Value.oneCell']) (by unfold maxLen;omega) (by omega) (by have:=HB.out.size;simp;omega) ?_;intro v' w1 hown hgrow hnl hat)
    obtain⟨Av,kv,rfl,_⟩:=mx_slice hown
    have hb1:Below w.heap.size w w1:=(HB.out.trans ((below_alloc1 wr (.cells #[.int .i64 (-(1+x%256/2%6))] 51)).mono HB.out.size)).grown hgrow (by have:=HB.out.size;simp;omega) (fun g hg=>(own_lt HR.out g hg).1)
    have htk:((xs.take (k+1)).map madeLit).map (Value.int .i64)=((xs.take k).map madeLit).map (Value.int .i64)++ [.int .i64 (-(1+x%256/2%6))]:=by
     rw[List.take_add_one,HXK.out,←HLX.out]
     simp
    have HO:=Lib.hid hown
    have HB1:=Lib.hid hb1
    have HTK:=Lib.hid htk
    clear hown hgrow hnl hat hb1 htk
    go_wp2
    go_roundw
    case rel=>exact⟨k+1,by omega,by go_num,HB1,Lib.hid (by rw[HTK.out];exact HO.out)⟩
    case measure=>simp[intOf];omega
   | false=>
    have hq:(bits BinOp.and IntKind.i8 x 1==1)=false:=by rw[hbx];simpa using hodd
    have HLX:Hid (madeLit x=1+x%256/2%6):=Lib.hid (by unfold madeLit;rw[if_neg (of_decide_eq_false hodd)])
    clear hbx hodd
    go_wp2_with (at_builtin;refine wpList_append_own_at _ rfl _ _ 38 rfl w.heap.size 51 i0 (.int .i64 0) 1 8 Tryd.underlying38 hi hz0 hz1 hz2 rfl (by decide) _ k _ rfl (own_below HR.out (below_alloc1 wr _)) ⟨wr.heap.size,0,none⟩ 1 1 [.int .i64 (1+x%256/2%6)] rfl rfl (cell_one_new' _ _ _) (by simp[Value.oneCell']) (by unfold maxLen;omega) (by omega) (by have:=HB.out.size;simp;omega) ?_;intro v' w1 hown hgrow hnl hat)
    obtain⟨Av,kv,rfl,_⟩:=mx_slice hown
    have hb1:Below w.heap.size w w1:=(HB.out.trans ((below_alloc1 wr (.cells #[.int .i64 (1+x%256/2%6)] 51)).mono HB.out.size)).grown hgrow (by have:=HB.out.size;simp;omega) (fun g hg=>(own_lt HR.out g hg).1)
    have htk:((xs.take (k+1)).map madeLit).map (Value.int .i64)=((xs.take k).map madeLit).map (Value.int .i64)++ [.int .i64 (1+x%256/2%6)]:=by
     rw[List.take_add_one,HXK.out,←HLX.out]
     simp
    have HO:=Lib.hid hown
    have HB1:=Lib.hid hb1
    have HTK:=Lib.hid htk
    clear hown hgrow hnl hat hb1 htk
    go_wp2
    go_roundw
    case rel=>exact⟨k+1,by omega,by go_num,HB1,Lib.hid (by rw[HTK.out];exact HO.out)⟩
    case measure=>simp[intOf];omega
  ·obtain rfl:k=xs.length:=by omega
   go_wp2_with fail
   go_ret
   exact⟨_,rfl,HR.out,HB.out⟩
theorem made_any (u:Value) (xs:List Int) (w:World) (h:RowAt .i8 w u xs):
  Calls Tryd.prog 10 #[u] w fun e w'=> ∃v,e= .returned v∧w'.ownsRow w.heap.size 51 1 v (madeL xs).length ((madeL xs).map (Value.int .i64))∧Below w.heap.size w w':=by
 by_cases h6:6<xs.length
 ·have e:(madeL xs).length=6:=by simp[madeL];omega
  rw[e]
  exact made_long u xs w h (by omega)
 ·have e:madeL xs=(xs.take xs.length).map madeLit:=by unfold madeL;rw[List.take_of_length_le (by omega),List.take_length]
  rw[e]
  have:=made_short u xs w h (by omega)
  rwa [show((xs.take xs.length).map madeLit).length=xs.length by simp]
end Go.Proofs.YteigjcichmpejaaDoor
namespace Go.Proofs.YteigjcichmpejaaDoor
open Go.RowKit
def ClsAt (w:World) (v:Value) (cs:List (List Int)):Prop:=
 ∃A c,v= .slice A cs.length c∧∀i xs,cs[i]? =some xs→∃g o u,A=some ⟨g,o,none⟩∧g<w.heap.size∧w.cell? ⟨g,o+i,none⟩=some u∧IntsIn (fun g=>g<w.heap.size) w u xs
theorem ClsAt.below {w w':World} {v:Value} {cs:List (List Int)} (h:ClsAt w v cs) (hb:Below w.heap.size w w'):ClsAt w' v cs:=by
 obtain⟨A,c,hv,hx⟩:=h
 refine⟨A,c,hv,fun i xs hi=>?_⟩
 obtain⟨g,o,u,h1,h2,h3,h4⟩:=hx i xs hi
 exact⟨g,o,u,h1,Nat.lt_of_lt_of_le h2 hb.size,(hb.cell (p:=⟨g,o+i,none⟩) h2).trans h3,(h4.below hb).mono (fun g hg=>Nat.lt_of_lt_of_le hg hb.size)⟩
theorem ClsAt.nil (w:World):ClsAt w (.slice none 0 0) []:=⟨none,0,rfl,fun i xs h=>by simp at h⟩
end Go.Proofs.YteigjcichmpejaaDoor
namespace Go.Proofs.YteigjcichmpejaaDoor
open Go.RowKit
def ClsOwn (n:Nat) (w:World) (v:Value) (cs:List (List Int)):Prop:=
 ∃us:List Value,w.ownsRow n 38 1 v cs.length us∧∀(i:Nat) (xs:List Int),cs[i]? =some xs→∃u,us[i]? =some u∧w.ownsRow n 51 1 u xs.length (xs.map (Value.int .i64))
theorem ClsOwn.below {n:Nat} {w w':World} {v:Value} {cs:List (List Int)} (h:ClsOwn n w v cs) (hb:Below w.heap.size w w'):ClsOwn n w' v cs:=by
 obtain⟨us,h1,h2⟩:=h
 refine⟨us,own_below h1 hb,fun i xs hi=>?_⟩
 obtain⟨u,hu,ho⟩:=h2 i xs hi
 exact⟨u,hu,own_below ho hb⟩
theorem ClsOwn.mono {n m:Nat} {w:World} {v:Value} {cs:List (List Int)} (h:ClsOwn n w v cs) (hm:m≤n):ClsOwn m w v cs:=by
 obtain⟨us,h1,h2⟩:=h
 refine⟨us,own_mono h1 hm,fun i xs hi=>?_⟩
 obtain⟨u,hu,ho⟩:=h2 i xs hi
 exact⟨u,hu,own_mono ho hm⟩
theorem ClsOwn.push {n:Nat} {w w1 w2:World} {v v' u:Value} {cs:List (List Int)} {xs:List Int} {us:List Value} (h1:w.ownsRow n 38 1 v cs.length us) (h2: ∀(i:Nat) (xs:List Int),cs[i]? =some xs→∃u,us[i]? =some u∧w.ownsRow n 51 1 u xs.length (xs.map (Value.int .i64)))
  (hb:Below w.heap.size w w1) (hu:w1.ownsRow n 51 1 u xs.length (xs.map (Value.int .i64))) (hg:w1.grownBy w2 v.ownBlock) (ho:w2.ownsRow n 38 1 v' (cs.length+1) (us++ [u])):ClsOwn n w2 v' (cs++ [xs]):=by
 have hlu:us.length=cs.length:=by
  have:=h1.1
  omega
 have hk: ∀{u:Value} {ys:List Int},w1.ownsRow n 51 1 u ys.length (ys.map (Value.int .i64))→w2.ownsRow n 51 1 u ys.length (ys.map (Value.int .i64)):=fun hu=>own_kept hu (Kept.grown hg) (fun g hg e=>mx_apart hu (own_below h1 hb) (by decide) hg e.symm)
 refine⟨us++ [u],by rw[List.length_append];exact ho,fun i ys hi=>?_⟩
 by_cases hil:i<cs.length
 ·rw[List.getElem?_append_left hil]at hi
  obtain⟨z,hz,hzo⟩:=h2 i ys hi
  exact⟨z,by rw[List.getElem?_append_left (by omega)];exact hz,hk (own_below hzo hb)⟩
 ·have hi2:=(List.getElem?_eq_some_iff.1 hi).1
  rw[List.length_append,List.length_singleton]at hi2
  obtain rfl:i=cs.length:=by omega
  rw[List.getElem?_append_right (Nat.le_refl _),Nat.sub_self,List.getElem?_cons_zero]at hi
  obtain rfl:=Option.some.inj hi
  refine⟨u,?_,hk hu⟩
  rw[List.getElem?_append_right (by omega),hlu,Nat.sub_self,List.getElem?_cons_zero]
end Go.Proofs.YteigjcichmpejaaDoor
namespace Go.Proofs.YteigjcichmpejaaDoor
open Go.RowKit
def SrcAt (w:World) (x:Value) (m:Nat) (news:List Value):Prop:=
 (x= .slice none 0 0∧m=0∧news= [])∨∃ad c,x= .slice (some ad) m c∧∀j u,news[j]? =some u→w.cell? (ad.add j)=some u
theorem SrcAt.below {w w':World} {x:Value} {m:Nat} {news:List Value} (h:SrcAt w x m news) (hb:Below w.heap.size w w'):SrcAt w' x m news:=by
 rcases h with h|⟨ad,c,hx,hn⟩
 ·exact .inl h
 ·refine .inr ⟨ad,c,hx,fun j u hj=>?_⟩
  have h0:=hn j u hj
  have hlt:=World.block_lt_of_cell? w _ h0
  exact(hb.cell hlt).trans h0
section
variable {P:Program}
end
end Go.Proofs.YteigjcichmpejaaDoor
namespace Go.Proofs.YteigjcichmpejaaDoor
open Go.RowKit
def ClsIn (O:Nat→Prop) (w:World) (v:Value) (cs:List (List Int)):Prop:=
 ∃A c,v= .slice A cs.length c∧cs.length≤c∧(A=none→c=0)∧∀i xs,cs[i]? =some xs→∃g o u,A=some ⟨g,o,none⟩∧g<w.heap.size∧O g∧w.cell? ⟨g,o+i,none⟩=some u∧IntsIn O w u xs
theorem ClsIn.kept {O O':Nat→Prop} {w w':World} {v:Value} {cs:List (List Int)} (h:ClsIn O w v cs) (k:Kept O' w w') (hO: ∀g,O g→¬O' g):ClsIn O w' v cs:=by
 obtain⟨A,c,hv,hc,hn,hx⟩:=h
 refine⟨A,c,hv,hc,hn,fun i xs hi=>?_⟩
 obtain⟨g,o,u,h1,h2,h3,h4,h5⟩:=hx i xs hi
 exact⟨g,o,u,h1,Nat.lt_of_lt_of_le h2 k.size,h3,(k.cell (p:=⟨g,o+i,none⟩) h2 (hO g h3)).trans h4,h5.kept k hO⟩
theorem ClsIn.below {O:Nat→Prop} {w w':World} {v:Value} {cs:List (List Int)} (h:ClsIn O w v cs) (k:Below w.heap.size w w'):ClsIn O w' v cs:=
 h.kept (O':=fun _=>False) (Kept.of_below k) (fun _ _ h=>h)
theorem ClsIn.mono {O O':Nat→Prop} {w:World} {v:Value} {cs:List (List Int)} (h:ClsIn O w v cs) (hO: ∀g,O g→O' g):ClsIn O' w v cs:=by
 obtain⟨A,c,hv,hc,hn,hx⟩:=h
 refine⟨A,c,hv,hc,hn,fun i xs hi=>?_⟩
 obtain⟨g,o,u,h1,h2,h3,h4,h5⟩:=hx i xs hi
 exact⟨g,o,u,h1,h2,hO g h3,h4,h5.mono hO⟩
theorem ClsIn.lt {O:Nat→Prop} {w:World} {v:Value} {cs:List (List Int)} (h:ClsIn O w v cs):ClsIn (fun g=>O g∧g<w.heap.size) w v cs:=by
 obtain⟨A,c,hv,hc,hn,hx⟩:=h
 refine⟨A,c,hv,hc,hn,fun i xs hi=>?_⟩
 obtain⟨g,o,u,h1,h2,h3,h4,h5⟩:=hx i xs hi
 exact⟨g,o,u,h1,h2,⟨h3,h2⟩,h4,h5.lt⟩
end Go.Proofs.YteigjcichmpejaaDoor
