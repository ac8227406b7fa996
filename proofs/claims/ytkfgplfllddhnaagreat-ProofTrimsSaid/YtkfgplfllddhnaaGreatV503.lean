/- Made (package salvorlaw08): a clause of small numbers. Clauses in memory. salvorlaw08.All: clauses that Made makes. append of a row, whatever its length, nil too. -/
import Derived.Test.YtkfgplfllddhnaaGreatV500
import Derived.Test.YtkfgplfllddhnaaGreatV501
import Derived.Test.YtkfgplfllddhnaaGreatV502
import Derived.Laws.AppendOwnNone
namespace Go.Proofs.YtkfgplfllddhnaaGreat
open Go.RowKit
theorem info_lit:(Tryz.prog.info? 58).map (fun i=>(i.zero,i.size,i.bytes))=some (some (.int .i64 0),1,8):=by kernel_rfl
def madeLit (x:Int):Int:=if x%2=1 then -(1+(x%256/2)%6)else 1+(x%256/2)%6
def madeL (xs:List Int):List Int:=(xs.take 6).map madeLit
theorem madeLit_rng (x:Int):(-6≤madeLit x∧madeLit x≤6)∧madeLit x≠0:=by
 unfold madeLit
 split <;> omega
theorem i8_rng {x:Int} (h:(Lit.int .i8 x).wf=true): -128≤x∧x≤127:=by
 simp only[Lit.wf,Bool.and_eq_true,decide_eq_true_eq]at h
 exact⟨h.1,h.2⟩
theorem and_one_fin: ∀i:Fin 256,bits BinOp.and IntKind.i8 ((i:Nat)-128:Int) 1=(((i:Nat)-128:Int))%2:=by decide +kernel
theorem and_one {x:Int} (h1: -128≤x) (h2:x≤127):bits BinOp.and IntKind.i8 x 1=x%2:=by
 have h:=and_one_fin ⟨(x+128).toNat,by omega⟩
 have e:(((x+128).toNat:Nat):Int)-128=x:=by omega
 simp only[e]at h
 exact h
theorem below_alloc1 (w:World) (o:Obj):Below w.heap.size w (w.alloc o):=(Below.refl _ _).alloc (Nat.le_refl _) _
set_option maxRecDepth 100000 in
set_option maxHeartbeats 2000000 in
theorem made_long (u:Value) (xs:List Int) (w:World) (h:RowAt .i8 w u xs) (h6:(6:Int)<(xs.length:Int)):
  Calls Tryz.prog 12 #[u] w fun e w'=> ∃v,e= .returned v∧w'.ownsRow w.heap.size 58 1 v 6 (((xs.take 6).map madeLit).map (Value.int .i64))∧Below w.heap.size w w':=by
 obtain⟨i0,hi,hz0,hz1,hz2⟩:=info_parts info_lit
 obtain⟨A,c,rfl,hc,hmx,hn,hw,hx⟩:=h
 unfold maxLen at hmx
 have HX:=Lib.hid hx
 have HW:=Lib.hid hw
 clear hx hw hn
 go_enter Tryz.func12,Tryz.ntmps12
 go_wp2_with fail
 go_loopw [3,13] (fun v i wr=> ∃k:Nat,k≤6∧i= .int .i64 k∧Hid (Below w.heap.size w wr)∧Hid (wr.ownsRow w.heap.size 58 1 v k (((xs.take k).map madeLit).map (Value.int .i64)))) (fun _ i _=>6-(intOf i).toNat)
 case atStart=>exact⟨0,Nat.zero_le _,rfl,Lib.hid (Below.refl _ _),Lib.hid (World.ownsRow_nil _ _ _ _)⟩
 case round=>
  obtain⟨k,hk,rfl,HB,HR⟩:=hrel
  by_cases hlt:k<6
  ·obtain⟨x,hxk⟩:=getElem_of (show k<xs.length by omega)
   obtain⟨g,o,rfl,hg,d0⟩:=HX.out k x hxk
   have d1:=(HB.out.cell (p:=⟨g,o+k,none⟩) hg).trans d0
   have hwx:=i8_rng (HW.out x (List.mem_of_getElem? hxk))
   obtain⟨hx1,hx2⟩:=hwx
   have HXK:=Lib.hid hxk
   clear hxk d0
   have hbx:=and_one hx1 hx2
   cases hodd:decide (x%2=1)with
   | true=>
    have hq:(bits BinOp.and IntKind.i8 x 1==1)=true:=by rw[hbx];simpa using hodd
    have HLX:Hid (madeLit x= -(1+x%256/2%6)):=Lib.hid (by unfold madeLit;rw[if_pos (of_decide_eq_true hodd)])
    clear hbx hodd
    go_wp2_with (at_builtin;refine wpList_append_own_at _ rfl _ _ 35 rfl w.heap.size 58 i0 (.int .i64 0) 1 8 Tryz.underlying35 hi hz0 hz1 hz2 rfl (by decide) _ k _ rfl (own_below HR.out (below_alloc1 wr _)) ⟨wr.heap.size,0,none⟩ 1 1 [.int .i64 (-(1+x%256/2%6))] rfl rfl (cell_one_new' _ _ _) (by simp[Value.oneCell']) (by unfold maxLen;omega) (by omega) (by have:=HB.out.size;simp;omega) ?_;intro v' w1 hown hgrow hnl hat)
    obtain⟨Av,kv,rfl,_⟩:=mx_slice hown
    have hb1:Below w.heap.size w w1:=(HB.out.trans ((below_alloc1 wr (.cells #[.int .i64 (-(1+x%256/2%6))] 58)).mono HB.out.size)).grown hgrow (by have:=HB.out.size;simp;omega) (fun g hg=>(own_lt HR.out g hg).1)
    have htk:((xs.take (k+1)).map madeLit).map (Value.int .i64)=((xs.take k).map madeLit).map (Value.int .i64)++ [.int .i64 (-(1+x%256/2%6))]:=by
     rw[List.take_add_one,HXK.out,←HLX.out]
     simp
    have HO:=Lib.hid hown
    have HB1:=Lib.hid hb1
    have HTK:=Lib.hid htk
    clear hown hgrow hnl hat hb1 htk
    go_wp2
    go_roundw
    case rel=>exact⟨k+1,by omega,by go_num,HB1,Lib.hid (by rw[HTK.out];exact HO.out)⟩
    case measure=>simp[intOf];omega
   | false=>
    have hq:(bits BinOp.and IntKind.i8 x 1==1)=false:=by rw[hbx];simpa using hodd
    have HLX:Hid (madeLit x=1+x%256/2%6):=Lib.hid (by unfold madeLit;rw[if_neg (of_decide_eq_false hodd)])
    clear hbx hodd
    go_wp2_with (at_builtin;refine wpList_append_own_at _ rfl _ _ 35 rfl w.heap.size 58 i0 (.int .i64 0) 1 8 Tryz.underlying35 hi hz0 hz1 hz2 rfl (by decide) _ k _ rfl (own_below HR.out (below_alloc1 wr _)) ⟨wr.heap.size,0,none⟩ 1 1 [.int .i64 (1+x%256/2%6)] rfl rfl (cell_one_new' _ _ _) (by simp[Value.oneCell']) (by unfold maxLen;omega) (by omega) (by have:=HB.out.size;simp;omega) ?_;intro v' w1 hown hgrow hnl hat)
    obtain⟨Av,kv,rfl,_⟩:=mx_slice hown
    have hb1:Below w.heap.size w w1:=(HB.out.trans ((below_alloc1 wr (.cells #[.int .i64 (1+x%256/2%6)] 58)).mono HB.out.size)).grown hgrow (by have:=HB.out.size;simp;omega) (fun g hg=>(own_lt HR.out g hg).1)
    have htk:((xs.take (k+1)).map madeLit).map (Value.int .i64)=((xs.take k).map madeLit).map (Value.int .i64)++ [.int .i64 (1+x%256/2%6)]:=by
     rw[List.take_add_one,HXK.out,←HLX.out]
     simp
    have HO:=Lib.hid hown
    have HB1:=Lib.hid hb1
    have HTK:=Lib.hid htk
    clear hown hgrow hnl hat hb1 htk
    go_wp2
    go_roundw
    case rel=>exact⟨k+1,by omega,by go_num,HB1,Lib.hid (by rw[HTK.out];exact HO.out)⟩
    case measure=>simp[intOf];omega
  ·obtain rfl:k=6:=by omega
   go_wp2_with fail
   go_ret
   exact⟨_,rfl,HR.out,HB.out⟩
set_option maxRecDepth 100000 in
set_option maxHeartbeats 2000000 in
theorem made_short (u:Value) (xs:List Int) (w:World) (h:RowAt .i8 w u xs) (h6:(xs.length:Int)≤6):
  Calls Tryz.prog 12 #[u] w fun e w'=> ∃v,e= .returned v∧w'.ownsRow w.heap.size 58 1 v xs.length (((xs.take xs.length).map madeLit).map (Value.int .i64))∧Below w.heap.size w w':=by
 obtain⟨i0,hi,hz0,hz1,hz2⟩:=info_parts info_lit
 obtain⟨A,c,rfl,hc,hmx,hn,hw,hx⟩:=h
 unfold maxLen at hmx
 have HX:=Lib.hid hx
 have HW:=Lib.hid hw
 clear hx hw hn
 go_enter Tryz.func12,Tryz.ntmps12
 go_wp2_with fail
 go_loopw [3,13] (fun v i wr=> ∃k:Nat,k≤xs.length∧i= .int .i64 k∧Hid (Below w.heap.size w wr)∧Hid (wr.ownsRow w.heap.size 58 1 v k (((xs.take k).map madeLit).map (Value.int .i64)))) (fun _ i _=>xs.length-(intOf i).toNat)
 case atStart=>exact⟨0,Nat.zero_le _,rfl,Lib.hid (Below.refl _ _),Lib.hid (World.ownsRow_nil _ _ _ _)⟩
 case round=>
  obtain⟨k,hk,rfl,HB,HR⟩:=hrel
  by_cases hlt:k<xs.length
  ·obtain⟨x,hxk⟩:=getElem_of (show k<xs.length by omega)
   obtain⟨g,o,rfl,hg,d0⟩:=HX.out k x hxk
   have d1:=(HB.out.cell (p:=⟨g,o+k,none⟩) hg).trans d0
   have hwx:=i8_rng (HW.out x (List.mem_of_getElem? hxk))
   obtain⟨hx1,hx2⟩:=hwx
   have HXK:=Lib.hid hxk
   clear hxk d0
   have hbx:=and_one hx1 hx2
   cases hodd:decide (x%2=1)with
   | true=>
    have hq:(bits BinOp.and IntKind.i8 x 1==1)=true:=by rw[hbx];simpa using hodd
    have HLX:Hid (madeLit x= -(1+x%256/2%6)):=Lib.hid (by unfold madeLit;rw[if_pos (of_decide_eq_true hodd)])
    clear hbx hodd
    go_wp2_with (at_builtin;refine wpList_append_own_at _ rfl _ _ 35 rfl w.heap.size 58 i0 (.int .i64 0) 1 8 Tryz.underlying35 hi hz0 hz1 hz2 rfl (by decide) _ k _ rfl (own_below HR.out (below_alloc1 wr _)) ⟨wr.heap.size,0,none⟩ 1 1 [.int .i64 (-(1+x%256/2%6))] rfl rfl (cell_one_new' _ _ _) (by simp[Value.oneCell']) (by unfold maxLen;omega) (by omega) (by have:=HB.out.size;simp;omega) ?_;intro v' w1 hown hgrow hnl hat)
    obtain⟨Av,kv,rfl,_⟩:=mx_slice hown
    have hb1:Below w.heap.size w w1:=(HB.out.trans ((below_alloc1 wr (.cells #[.int .i64 (-(1+x%256/2%6))] 58)).mono HB.out.size)).grown hgrow (by have:=HB.out.size;simp;omega) (fun g hg=>(own_lt HR.out g hg).1)
    have htk:((xs.take (k+1)).map madeLit).map (Value.int .i64)=((xs.take k).map madeLit).map (Value.int .i64)++ [.int .i64 (-(1+x%256/2%6))]:=by
     rw[List.take_add_one,HXK.out,←HLX.out]
     simp
    have HO:=Lib.hid hown
    have HB1:=Lib.hid hb1
    have HTK:=Lib.hid htk
    clear hown hgrow hnl hat hb1 htk
    go_wp2
    go_roundw
    case rel=>exact⟨k+1,by omega,by go_num,HB1,Lib.hid (by rw[HTK.out];exact HO.out)⟩
    case measure=>simp[intOf];omega
   | false=>
    have hq:(bits BinOp.and IntKind.i8 x 1==1)=false:=by rw[hbx];simpa using hodd
    have HLX:Hid (madeLit x=1+x%256/2%6):=Lib.hid (by unfold madeLit;rw[if_neg (of_decide_eq_false hodd)])
    clear hbx hodd
    go_wp2_with (at_builtin;refine wpList_append_own_at _ rfl _ _ 35 rfl w.heap.size 58 i0 (.int .i64 0) 1 8 Tryz.underlying35 hi hz0 hz1 hz2 rfl (by decide) _ k _ rfl (own_below HR.out (below_alloc1 wr _)) ⟨wr.heap.size,0,none⟩ 1 1 [.int .i64 (1+x%256/2%6)] rfl rfl (cell_one_new' _ _ _) (by simp[Value.oneCell']) (by unfold maxLen;omega) (by omega) (by have:=HB.out.size;simp;omega) ?_;intro v' w1 hown hgrow hnl hat)
    obtain⟨Av,kv,rfl,_⟩:=mx_slice hown
    have hb1:Below w.heap.size w w1:=(HB.out.trans ((below_alloc1 wr (.cells #[.int .i64 (1+x%256/2%6)] 58)).mono HB.out.size)).grown hgrow (by have:=HB.out.size;simp;omega) (fun g hg=>(own_lt HR.out g hg).1)
    have htk:((xs.take (k+1)).map madeLit).map (Value.int .i64)=((xs.take k).map madeLit).map (Value.int .i64)++ [.int .i64 (1+x%256/2%6)]:=by
     rw[List.take_add_one,HXK.out,←HLX.out]
     simp
    have HO:=Lib.hid hown
    have HB1:=Lib.hid hb1
    have HTK:=Lib.hid htk
    clear hown hgrow hnl hat hb1 htk
    go_wp2
    go_roundw
    case rel=>exact⟨k+1,by omega,by go_num,HB1,Lib.hid (by rw[HTK.out];exact HO.out)⟩
    case measure=>simp[intOf];omega
  ·obtain rfl:k=xs.length:=by omega
   go_wp2_with fail
   go_ret
   exact⟨_,rfl,HR.out,HB.out⟩
theorem made_any (u:Value) (xs:List Int) (w:World) (h:RowAt .i8 w u xs):
  Calls Tryz.prog 12 #[u] w fun e w'=> ∃v,e= .returned v∧w'.ownsRow w.heap.size 58 1 v (madeL xs).length ((madeL xs).map (Value.int .i64))∧Below w.heap.size w w':=by
 by_cases h6:6<xs.length
 ·have e:(madeL xs).length=6:=by simp[madeL];omega
  rw[e]
  exact made_long u xs w h (by omega)
 ·have e:madeL xs=(xs.take xs.length).map madeLit:=by unfold madeL;rw[List.take_of_length_le (by omega),List.take_length]
  rw[e]
  have:=made_short u xs w h (by omega)
  rwa [show((xs.take xs.length).map madeLit).length=xs.length by simp]
end Go.Proofs.YtkfgplfllddhnaaGreat
namespace Go.Proofs.YtkfgplfllddhnaaGreat
open Go.RowKit
def ClsAt (w:World) (v:Value) (cs:List (List Int)):Prop:=
 ∃A c,v= .slice A cs.length c∧∀i xs,cs[i]? =some xs→∃g o u,A=some ⟨g,o,none⟩∧g<w.heap.size∧w.cell? ⟨g,o+i,none⟩=some u∧IntsIn (fun g=>g<w.heap.size) w u xs
theorem ClsAt.below {w w':World} {v:Value} {cs:List (List Int)} (h:ClsAt w v cs) (hb:Below w.heap.size w w'):ClsAt w' v cs:=by
 obtain⟨A,c,hv,hx⟩:=h
 refine⟨A,c,hv,fun i xs hi=>?_⟩
 obtain⟨g,o,u,h1,h2,h3,h4⟩:=hx i xs hi
 exact⟨g,o,u,h1,Nat.lt_of_lt_of_le h2 hb.size,(hb.cell (p:=⟨g,o+i,none⟩) h2).trans h3,(h4.below hb).mono (fun g hg=>Nat.lt_of_lt_of_le hg hb.size)⟩
theorem ClsAt.nil (w:World):ClsAt w (.slice none 0 0) []:=⟨none,0,rfl,fun i xs h=>by simp at h⟩
end Go.Proofs.YtkfgplfllddhnaaGreat
namespace Go.Proofs.YtkfgplfllddhnaaGreat
open Go.RowKit
def ClsOwn (n:Nat) (w:World) (v:Value) (cs:List (List Int)):Prop:=
 ∃us:List Value,w.ownsRow n 35 1 v cs.length us∧∀(i:Nat) (xs:List Int),cs[i]? =some xs→∃u,us[i]? =some u∧w.ownsRow n 58 1 u xs.length (xs.map (Value.int .i64))
theorem ClsOwn.below {n:Nat} {w w':World} {v:Value} {cs:List (List Int)} (h:ClsOwn n w v cs) (hb:Below w.heap.size w w'):ClsOwn n w' v cs:=by
 obtain⟨us,h1,h2⟩:=h
 refine⟨us,own_below h1 hb,fun i xs hi=>?_⟩
 obtain⟨u,hu,ho⟩:=h2 i xs hi
 exact⟨u,hu,own_below ho hb⟩
theorem ClsOwn.mono {n m:Nat} {w:World} {v:Value} {cs:List (List Int)} (h:ClsOwn n w v cs) (hm:m≤n):ClsOwn m w v cs:=by
 obtain⟨us,h1,h2⟩:=h
 refine⟨us,own_mono h1 hm,fun i xs hi=>?_⟩
 obtain⟨u,hu,ho⟩:=h2 i xs hi
 exact⟨u,hu,own_mono ho hm⟩
theorem ClsOwn.cls {n:Nat} {w:World} {v:Value} {cs:List (List Int)} (h:ClsOwn n w v cs):ClsAt w v cs:=by
 obtain⟨us,h1,h2⟩:=h
 obtain⟨A,c,rfl,_⟩:=mx_slice h1
 refine⟨A,c,rfl,fun i xs hi=>?_⟩
 obtain⟨u,hu,ho⟩:=h2 i xs hi
 have hil:=(List.getElem?_eq_some_iff.1 hi).1
 obtain⟨g,c',cs',hv,_,_,hg,_⟩:=mx_some h1 (by omega)
 simp only[Value.slice.injEq]at hv
 obtain⟨rfl,_,rfl⟩:=hv
 exact⟨g,0,u,rfl,hg,by rw[Nat.zero_add];exact mx_at h1 hu,(IntsIn.of_own ho).mono (fun g hg=>(own_lt ho g hg.2).2)⟩
theorem info_cls:(Tryz.prog.info? 35).map (fun i=>(i.zero,i.size,i.bytes))=some (some (.slice none 0 0),1,24):=by kernel_rfl
theorem ClsOwn.push {n:Nat} {w w1 w2:World} {v v' u:Value} {cs:List (List Int)} {xs:List Int} {us:List Value} (h1:w.ownsRow n 35 1 v cs.length us) (h2: ∀(i:Nat) (xs:List Int),cs[i]? =some xs→∃u,us[i]? =some u∧w.ownsRow n 58 1 u xs.length (xs.map (Value.int .i64)))
  (hb:Below w.heap.size w w1) (hu:w1.ownsRow n 58 1 u xs.length (xs.map (Value.int .i64))) (hg:w1.grownBy w2 v.ownBlock) (ho:w2.ownsRow n 35 1 v' (cs.length+1) (us++ [u])):ClsOwn n w2 v' (cs++ [xs]):=by
 have hlu:us.length=cs.length:=by
  have:=h1.1
  omega
 have hk: ∀{u:Value} {ys:List Int},w1.ownsRow n 58 1 u ys.length (ys.map (Value.int .i64))→w2.ownsRow n 58 1 u ys.length (ys.map (Value.int .i64)):=fun hu=>own_kept hu (Kept.grown hg) (fun g hg e=>mx_apart hu (own_below h1 hb) (by decide) hg e.symm)
 refine⟨us++ [u],by rw[List.length_append];exact ho,fun i ys hi=>?_⟩
 by_cases hil:i<cs.length
 ·rw[List.getElem?_append_left hil]at hi
  obtain⟨z,hz,hzo⟩:=h2 i ys hi
  exact⟨z,by rw[List.getElem?_append_left (by omega)];exact hz,hk (own_below hzo hb)⟩
 ·have hi2:=(List.getElem?_eq_some_iff.1 hi).1
  rw[List.length_append,List.length_singleton]at hi2
  obtain rfl:i=cs.length:=by omega
  rw[List.getElem?_append_right (Nat.le_refl _),Nat.sub_self,List.getElem?_cons_zero]at hi
  obtain rfl:=Option.some.inj hi
  refine⟨u,?_,hk hu⟩
  rw[List.getElem?_append_right (by omega),hlu,Nat.sub_self,List.getElem?_cons_zero]
set_option maxRecDepth 100000 in
set_option maxHeartbeats 4000000 in
theorem all_min_a (u:Value) (xss:List (List Int)) (m:Nat) (w:World) (h:RowsAt .i8 w u xss) (hlt0:m<xss.length) (hm:m≤1000):
  Calls Tryz.prog 37 #[u,.int .i64 (m:Int)] w fun e w'=> ∃v,e= .returned v∧ClsOwn w.heap.size w' v ((xss.take m).map madeL)∧Below w.heap.size w w':=by
 have hN:min (xss.length:Int) (m:Int)=(m:Int):=by omega
 have hNl:m≤xss.length:=by omega
 have hNm:m≤m:=Nat.le_refl _
 have hltd:decide ((m:Int)<(xss.length:Int))=true:=by simpa using hlt0
 obtain⟨i0,hi,hz0,hz1,hz2⟩:=info_parts info_cls
 have HR0:=Lib.hid h
 obtain⟨A,c,rfl,hc,hmx,hn,hx⟩:=h
 unfold maxLen at hmx
 have hNc:m≤c:=by omega
 have hNc2:(m:Int)≤(c:Int):=by omega
 clear hx hn
 go_enter Tryz.func37,Tryz.ntmps37
 go_wp2_with fail
 go_loopw [5,15] (fun v i wr=> ∃k:Nat,k≤m∧i= .int .i64 k∧Hid (Below w.heap.size w wr)∧Hid (ClsOwn w.heap.size wr v ((xss.take k).map madeL))) (fun _ i _=>m-(intOf i).toNat)
 case atStart=>exact⟨0,Nat.zero_le _,rfl,Lib.hid (Below.refl _ _),Lib.hid ⟨[],World.ownsRow_nil _ _ _ _,fun i xs h=>by simp at h⟩⟩
 case round=>
  obtain⟨k,hk,rfl,HB,HR⟩:=hrel
  by_cases hlt:k<m
  ·have hq:decide ((k:Int)<(m:Int))=true:=by simpa using hlt
   have hq2:decide (k<m)=true:=by simpa using hlt
   obtain⟨x,hxk⟩:=getElem_of (show k<xss.length by omega)
   have hrow: ∃g o u,A=some ⟨g,o,none⟩∧g<w.heap.size∧w.cell? ⟨g,o+k,none⟩=some u∧RowAt .i8 w u x:=by
    obtain⟨A',c',hv,_,_,_,hx⟩:=HR0.out
    simp only[Value.slice.injEq]at hv
    obtain⟨rfl,_,rfl⟩:=hv
    exact hx k x hxk
   obtain⟨g,o,u,rfl,hg,d0,hu⟩:=hrow
   have d1:=(HB.out.cell (p:=⟨g,o+k,none⟩) hg).trans d0
   have HM:=Lib.hid (made_any u x wr (hu.below (HB.out)))
   obtain⟨us,h1,h2⟩:=HR.out
   have hlk:((xss.take k).map madeL).length=k:=by rw[List.length_map,List.length_take];omega
   have HUS:=Lib.hid h1
   have HU2:=Lib.hid h2
   have HLK:=Lib.hid hlk
   rw[hlk]at h1
   obtain⟨Ao,co,rfl,_⟩:=mx_slice h1
   have HO1:=Lib.hid h1
   have HTK:=Lib.hid (show(xss.take (k+1)).map madeL=(xss.take k).map madeL++ [madeL x]from by
    rw[List.take_add_one,hxk]
    simp)
   clear h1 h2 hlk hxk d0 hu
   go_wp2_with fail
   refine HM.out.mono ?_
   rintro e w1 ⟨vx,rfl,hox,hb1⟩
   obtain⟨Ax,cx,rfl,_⟩:=mx_slice hox
   have HOX:=Lib.hid hox
   have HB1:=Lib.hid hb1
   have hwz:=HB.out.size
   have hwz1:=hb1.size
   clear hox hb1 d1
   go_wp2_with (at_builtin;refine wpList_append_own_at _ rfl _ _ 24 rfl w.heap.size 35 i0 (.slice none 0 0) 1 24 Tryz.underlying24 hi hz0 hz1 hz2 rfl (by decide) _ k _ rfl (own_below (own_below HO1.out HB1.out) (below_alloc1 w1 _)) ⟨w1.heap.size,0,none⟩ 1 1 [.slice Ax (madeL x).length cx] rfl rfl (cell_one_new' _ _ _) (by simp[Value.oneCell']) (by unfold maxLen;omega) (by omega) (by simp;omega) ?_;intro v' w2 hown hgrow hnl hat)
   have hb2:Below wr.heap.size wr (w1.alloc (.cells #[.slice Ax (madeL x).length cx] 35)):=HB1.out.trans ((below_alloc1 w1 _).mono hwz1)
   have hpush:=ClsOwn.push HUS.out HU2.out hb2 (own_below (own_mono HOX.out hwz) (below_alloc1 w1 _)) hgrow (by rw[HLK.out];exact hown)
   rw[←HTK.out]at hpush
   have HP:=Lib.hid hpush
   have HB2:=Lib.hid ((HB.out.trans (hb2.mono hwz)).grown hgrow (by simp;omega) (fun g hg=>(own_lt HO1.out g hg).1))
   clear hown hgrow hnl hat hb2 hpush
   go_wp2
   go_roundw
   case rel=>exact⟨k+1,by omega,by go_num,HB2,HP⟩
   case measure=>simp[intOf];omega
  ·have hq:decide ((k:Int)<(m:Int))=false:=by simpa using hlt
   have hq2:decide (k<m)=false:=by simpa using hlt
   obtain rfl:k=m:=by omega
   go_wp2_with fail
   go_ret
   exact⟨_,rfl,HR.out,HB.out⟩
set_option maxRecDepth 100000 in
set_option maxHeartbeats 4000000 in
theorem all_min_b (u:Value) (xss:List (List Int)) (m:Nat) (w:World) (h:RowsAt .i8 w u xss) (hlt0: ¬m<xss.length) (hm:m≤1000):
  Calls Tryz.prog 37 #[u,.int .i64 (m:Int)] w fun e w'=> ∃v,e= .returned v∧ClsOwn w.heap.size w' v ((xss.take xss.length).map madeL)∧Below w.heap.size w w':=by
 have hN:min (xss.length:Int) (m:Int)=(xss.length:Int):=by omega
 have hNl:xss.length≤xss.length:=Nat.le_refl _
 have hNm:xss.length≤m:=by omega
 have hltd:decide ((m:Int)<(xss.length:Int))=false:=by simpa using hlt0
 obtain⟨i0,hi,hz0,hz1,hz2⟩:=info_parts info_cls
 have HR0:=Lib.hid h
 obtain⟨A,c,rfl,hc,hmx,hn,hx⟩:=h
 unfold maxLen at hmx
 have hNc:xss.length≤c:=by omega
 have hNc2:(xss.length:Int)≤(c:Int):=by omega
 clear hx hn
 go_enter Tryz.func37,Tryz.ntmps37
 go_wp2_with fail
 go_loopw [5,15] (fun v i wr=> ∃k:Nat,k≤xss.length∧i= .int .i64 k∧Hid (Below w.heap.size w wr)∧Hid (ClsOwn w.heap.size wr v ((xss.take k).map madeL))) (fun _ i _=>xss.length-(intOf i).toNat)
 case atStart=>exact⟨0,Nat.zero_le _,rfl,Lib.hid (Below.refl _ _),Lib.hid ⟨[],World.ownsRow_nil _ _ _ _,fun i xs h=>by simp at h⟩⟩
 case round=>
  obtain⟨k,hk,rfl,HB,HR⟩:=hrel
  by_cases hlt:k<xss.length
  ·have hq:decide ((k:Int)<(xss.length:Int))=true:=by simpa using hlt
   have hq2:decide (k<xss.length)=true:=by simpa using hlt
   obtain⟨x,hxk⟩:=getElem_of (show k<xss.length by omega)
   have hrow: ∃g o u,A=some ⟨g,o,none⟩∧g<w.heap.size∧w.cell? ⟨g,o+k,none⟩=some u∧RowAt .i8 w u x:=by
    obtain⟨A',c',hv,_,_,_,hx⟩:=HR0.out
    simp only[Value.slice.injEq]at hv
    obtain⟨rfl,_,rfl⟩:=hv
    exact hx k x hxk
   obtain⟨g,o,u,rfl,hg,d0,hu⟩:=hrow
   have d1:=(HB.out.cell (p:=⟨g,o+k,none⟩) hg).trans d0
   have HM:=Lib.hid (made_any u x wr (hu.below (HB.out)))
   obtain⟨us,h1,h2⟩:=HR.out
   have hlk:((xss.take k).map madeL).length=k:=by rw[List.length_map,List.length_take];omega
   have HUS:=Lib.hid h1
   have HU2:=Lib.hid h2
   have HLK:=Lib.hid hlk
   rw[hlk]at h1
   obtain⟨Ao,co,rfl,_⟩:=mx_slice h1
   have HO1:=Lib.hid h1
   have HTK:=Lib.hid (show(xss.take (k+1)).map madeL=(xss.take k).map madeL++ [madeL x]from by
    rw[List.take_add_one,hxk]
    simp)
   clear h1 h2 hlk hxk d0 hu
   go_wp2_with fail
   refine HM.out.mono ?_
   rintro e w1 ⟨vx,rfl,hox,hb1⟩
   obtain⟨Ax,cx,rfl,_⟩:=mx_slice hox
   have HOX:=Lib.hid hox
   have HB1:=Lib.hid hb1
   have hwz:=HB.out.size
   have hwz1:=hb1.size
   clear hox hb1 d1
   go_wp2_with (at_builtin;refine wpList_append_own_at _ rfl _ _ 24 rfl w.heap.size 35 i0 (.slice none 0 0) 1 24 Tryz.underlying24 hi hz0 hz1 hz2 rfl (by decide) _ k _ rfl (own_below (own_below HO1.out HB1.out) (below_alloc1 w1 _)) ⟨w1.heap.size,0,none⟩ 1 1 [.slice Ax (madeL x).length cx] rfl rfl (cell_one_new' _ _ _) (by simp[Value.oneCell']) (by unfold maxLen;omega) (by omega) (by simp;omega) ?_;intro v' w2 hown hgrow hnl hat)
   have hb2:Below wr.heap.size wr (w1.alloc (.cells #[.slice Ax (madeL x).length cx] 35)):=HB1.out.trans ((below_alloc1 w1 _).mono hwz1)
   have hpush:=ClsOwn.push HUS.out HU2.out hb2 (own_below (own_mono HOX.out hwz) (below_alloc1 w1 _)) hgrow (by rw[HLK.out];exact hown)
   rw[←HTK.out]at hpush
   have HP:=Lib.hid hpush
   have HB2:=Lib.hid ((HB.out.trans (hb2.mono hwz)).grown hgrow (by simp;omega) (fun g hg=>(own_lt HO1.out g hg).1))
   clear hown hgrow hnl hat hb2 hpush
   go_wp2
   go_roundw
   case rel=>exact⟨k+1,by omega,by go_num,HB2,HP⟩
   case measure=>simp[intOf];omega
  ·have hq:decide ((k:Int)<(xss.length:Int))=false:=by simpa using hlt
   have hq2:decide (k<xss.length)=false:=by simpa using hlt
   obtain rfl:k=xss.length:=by omega
   go_wp2_with fail
   go_ret
   exact⟨_,rfl,HR.out,HB.out⟩
theorem all_any (u:Value) (xss:List (List Int)) (m:Nat) (w:World) (h:RowsAt .i8 w u xss) (hm:m≤1000):
  Calls Tryz.prog 37 #[u,.int .i64 (m:Int)] w fun e w'=> ∃v,e= .returned v∧ClsOwn w.heap.size w' v ((xss.take m).map madeL)∧Below w.heap.size w w':=by
 by_cases hlt:m<xss.length
 ·exact all_min_a u xss m w h hlt hm
 ·have:=all_min_b u xss m w h hlt hm
  rwa [List.take_length,show xss.map madeL=(xss.take m).map madeL from by rw[List.take_of_length_le (by omega)]]at this
end Go.Proofs.YtkfgplfllddhnaaGreat
namespace Go.Proofs.YtkfgplfllddhnaaGreat
open Go.RowKit
def SrcAt (w:World) (x:Value) (m:Nat) (news:List Value):Prop:=
 (x= .slice none 0 0∧m=0∧news= [])∨∃ad c,x= .slice (some ad) m c∧∀j u,news[j]? =some u→w.cell? (ad.add j)=some u
theorem SrcAt.below {w w':World} {x:Value} {m:Nat} {news:List Value} (h:SrcAt w x m news) (hb:Below w.heap.size w w'):SrcAt w' x m news:=by
 rcases h with h|⟨ad,c,hx,hn⟩
 ·exact .inl h
 ·refine .inr ⟨ad,c,hx,fun j u hj=>?_⟩
  have h0:=hn j u hj
  have hlt:=World.block_lt_of_cell? w _ h0
  exact(hb.cell hlt).trans h0
theorem IntsIn.src {O:Nat→Prop} {w:World} {v:Value} {xs:List Int} (h:IntsIn O w v xs):SrcAt w v xs.length (xs.map (Value.int .i64)):=by
 obtain⟨A,c,hv,hc,hn,hx⟩:=h
 cases A with
 | none=>
  have h0:=hn rfl
  have hx0:xs= []:=List.eq_nil_of_length_eq_zero (by omega)
  subst hx0
  subst h0
  exact .inl ⟨hv,rfl,rfl⟩
 | some ad=>
  by_cases h0:xs= []
  ·subst h0
   exact .inr ⟨ad,c,hv,fun j u hj=>by simp at hj⟩
  ·obtain⟨x0,hx0⟩: ∃x,xs[0]? =some x:=⟨_,List.getElem?_eq_getElem (by cases xs with
    | nil=>exact absurd rfl h0
    | cons _ _=>simp)⟩
   obtain⟨g,o,hA,_⟩:=hx 0 x0 hx0
   obtain rfl:=Option.some.inj hA
   refine .inr ⟨_,c,hv,fun j u hj=>?_⟩
   rw[List.getElem?_map]at hj
   cases hxj:xs[j]? with
   | none=>rw[hxj]at hj;cases hj
   | some x=>
    rw[hxj]at hj
    obtain rfl:=Option.some.inj hj
    obtain⟨g',o',hA',_,_,hc'⟩:=hx j x hxj
    cases hA'
    rw[addr_add2]
    exact hc'
section
variable {P:Program}
theorem run_append_any (w:World) (base:Nat) (t ty e:TypeId) (i:TypeInfo) (z:Value) (size bytes:Nat) (ht:P.underlying t=some (.slice e)) (hi:P.info? e=some i) (hz:i.zero=some z) (hsize:i.size=size) (hby:i.bytes=bytes) (hzs:z.cells.size=size) (hsz:0<size)
  (v:Value) (n:Nat) (xs:List Value) (hown:w.ownsRow base e size v n xs) (x:Value) (m:Nat) (news:List Value) (hx:SrcAt w x m news) (hl:news.length=m*size) (h1: ∀u∈news,u.oneCell'=true)
  (h63:n+m≤maxLen) (hbytes:(n+m)*bytes≤140737488355328) (hbase:base≤w.heap.size):
  ∃v' w',(Builtin.append_ #[t,t] ty #[v,x]).run P w= .ok v' w'∧w'.ownsRow base e size v' (n+m) (xs++news)∧w.grownBy w' v.ownBlock∧(v'.ownBlock=v.ownBlock∨v'.ownBlock=some w.heap.size):=by
 rcases hx with⟨rfl,rfl,rfl⟩|⟨ad,c,rfl,hn⟩
 ·exact⟨v,w,run_append_owned_none (P:=P) (w:=w) base t ty e i size ht hi v n xs hown,by simpa using hown,World.grownBy.refl w _,.inl rfl⟩
 ·obtain⟨v',w',hr,h2,h3,_,h5⟩:=run_append_own_at (P:=P) w base t ty e i z size bytes ht hi hz hsize hby hzs hsz v n xs hown ad m c news hl hn h1 h63 hbytes hbase
  exact⟨v',w',hr,h2,h3,h5⟩
theorem wpList_append_any {w:World} {ops:Array Oper} {rest:List Oper} {o:Oper} {a:Act} {Q:Exit→Act→World→Prop} (hg:o.guard=none) (s x:Operand) (t:TypeId) (ho:o.op= .call { callee:=.builtin .append,args:= #[s,x],argTypes:= #[t,t] })
  (base:Nat) (e:TypeId) (i:TypeInfo) (z:Value) (size bytes:Nat) (ht:P.underlying t=some (.slice e)) (hi:P.info? e=some i) (hz:i.zero=some z) (hsize:i.size=size) (hby:i.bytes=bytes) (hzs:z.cells.size=size) (hsz:0<size)
  (v:Value) (n:Nat) (xs:List Value) (hs:a.eval s=v) (hown:w.ownsRow base e size v n xs)
  (y:Value) (m:Nat) (news:List Value) (hx:a.eval x=y) (hy:SrcAt w y m news) (hl:news.length=m*size) (h1: ∀u∈news,u.oneCell'=true)
  (h63:n+m≤maxLen) (hbytes:(n+m)*bytes≤140737488355328) (hbase:base≤w.heap.size)
  (h: ∀v' w',w'.ownsRow base e size v' (n+m) (xs++news)→w.grownBy w' v.ownBlock→(v'.ownBlock=v.ownBlock∨v'.ownBlock=some w.heap.size)→wpList P ops Q rest (a.put o.dst v') w'):wpList P ops Q (o::rest) a w:=by
 refine wpList_plain hg fun K hK=>?_
 obtain⟨v',w',hr,h2,h3,h5⟩:=run_append_any (P:=P) w base t o.type e i z size bytes ht hi hz hsize hby hzs hsz v n xs hown y m news hy hl h1 h63 hbytes hbase
 unfold Oper.wp execOp
 simp only[ho,resolve,invoke,builtin,Sem.run_bind,Sem.run_pure,Result.andThen_ok,List.map_toArray,List.map_cons,List.map_nil,hs,hx,hr]
 exact hK _ _ (h v' w' h2 h3 h5)
end
end Go.Proofs.YtkfgplfllddhnaaGreat
