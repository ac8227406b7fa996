/- What comes first of a clause: the watch's iterator. The watch: clauses with variables that the trail has not; New; first. -/
import Derived.Test.YtoojmhjagipmdaaGreatV318
import Derived.Test.YtoojmhjagipmdaaGreatV319
import Derived.Test.YtoojmhjagipmdaaGreatV306
namespace Go.Proofs.YtoojmhjagipmdaaGreat
open Go.RowKit Go.Maps Go.Shelf
attribute [local go_sem] Oper.semAt_some
def fv1 (x:Int):Array Value:= #[.int .i64 x]
theorem grown_below {w w':World} (h:Below w.heap.size w w') (row:Option Nat):w.grownBy w' row:=⟨h.os,h.tape,h.output,h.size,fun i hi _=>h.block i hi⟩
theorem grown_kept {w w':World} {row:Option Nat} (h:Kept (fun g=>row=some g) w w'):w.grownBy w' row:=⟨h.os,h.tape,h.output,h.size,fun i hi hn=>h.block i hi (fun e=>hn e.symm)⟩
structure FiSt (X0:Nat→Prop) (W wr:World) (J:List Int→(Nat→Prop)→World→Prop) (fv:Value) (fs pre:List Int) (B:Nat→Prop):Prop where
 row:wr.ownsRow W.heap.size 32 1 fv fs.length (fs.map (Value.int .i64))
 free: ∀g,fv.ownBlock=some g→¬B g
 inv:J pre B wr
 kp:KpC (fun g=>X0 g∨W.heap.size≤g) W wr
 bs: ∀g,B g→W.heap.size≤g∧g<wr.heap.size
section
variable {X0:Nat→Prop} {W wr w':World} {J:List Int→(Nat→Prop)→World→Prop} {fv:Value} {fs pre:List Int} {B:Nat→Prop}
theorem FiSt.below (h:FiSt X0 W wr J fv fs pre B) (hJ:OwnB W.heap.size J) (hb:Below wr.heap.size wr w'):FiSt X0 W w' J fv fs pre B:=
 ⟨own_below h.row hb,h.free,hJ _ _ _ _ none h.inv (grown_below hb none) (fun r e=>by cases e),h.kp.trans (KpC.of_below hb),fun g hg=>⟨(h.bs g hg).1,Nat.lt_of_lt_of_le (h.bs g hg).2 hb.size⟩⟩
theorem FiSt.write (h:FiSt X0 W wr J fv fs pre B) (hJ:OwnB W.heap.size J) {fv':Value} {fs':List Int} (hg:wr.grownBy w' fv.ownBlock) (hr:w'.ownsRow W.heap.size 32 1 fv' fs'.length (fs'.map (Value.int .i64))) (hv:fv'.ownBlock=fv.ownBlock∨∃g,fv'.ownBlock=some g∧wr.heap.size≤g):FiSt X0 W w' J fv' fs' pre B:=by
 refine⟨hr,fun g e=>?_,hJ _ _ _ _ _ h.inv hg (fun r e=>⟨(own_lt h.row r e).1,h.free r e⟩),h.kp.trans ((KpC.of_grown hg).mono (fun g _ e=>.inr (own_lt h.row g e.symm).1)),fun g hg'=>⟨(h.bs g hg').1,Nat.lt_of_lt_of_le (h.bs g hg').2 hg.size⟩⟩
 rcases hv with e'|⟨g',e',hge⟩
 ·exact h.free g (e'▸e)
 ·intro hb
  have:=(h.bs g hb).2
  rw[e']at e
  obtain rfl:=Option.some.inj e
  omega
theorem FiSt.round (h:FiSt X0 W wr J fv fs pre B) (hX: ∀g,X0 g→g<W.heap.size) {J':List Int→(Nat→Prop)→World→Prop} {x:Int} (hj:J' (pre++ [x]) (addB B wr w') w') (hk:KpC (fun g=>X0 g∨B g) wr w'):FiSt X0 W w' J' fv fs (pre++ [x]) (addB B wr w'):=by
 refine⟨own_kept h.row hk.kept (fun g hg ho=>?_),fun g hg hb=>?_,hj,h.kp.trans (hk.mono (fun g _ e=>e.imp_right (fun e=>(h.bs g e).1))),fun g hg=>?_⟩
 ·rcases ho with(e|e)|e
  ·have:=hX g e
   have:=(own_lt h.row g hg).1
   omega
  ·exact h.free g hg e
  ·obtain⟨c,hc⟩:=own_type h.row g hg
   exact xo_cells hc e
 ·rcases hb with e|e
  ·exact h.free g hg e
  ·have:=(own_lt h.row g hg).2
   omega
 ·rcases hg with e|e
  ·exact⟨(h.bs g e).1,Nat.lt_of_lt_of_le (h.bs g e).2 hk.size⟩
  ·have:=h.kp.size
   exact⟨by omega,e.2⟩
end
theorem filter_snoc {p:Int→Bool} {xs:List Int} {k:Nat} {x:Int} (hx:xs[k]? =some x):(xs.take (k+1)).filter p=if p x=true then(xs.take k).filter p++ [x]else(xs.take k).filter p:=by
 rw[List.take_add_one,hx]
 simp only[Option.toList_some,List.filter_append]
 split
 ·rename_i h
  rw[List.filter_cons_of_pos h]
  rfl
 ·rename_i h
  rw[List.filter_cons_of_neg h]
  simp
set_option maxRecDepth 100000 in
set_option maxHeartbeats 4000000 in
theorem first1_in {O Ot X0:Nat→Prop} (b tb Bl Bw:Nat) (T:Trl) (lv:Value) (xs:List Int) (w:World) (hT:TrAt Ot w tb T) (hBl:w.cell? ⟨Bl,0,none⟩=some lv) (hl:IntsIn O w lv xs) (hBw:w.cell? ⟨Bw,0,none⟩=some (.pointer (some ⟨b,0,none⟩))) (hc1:w.cell? ⟨b,1,none⟩=some (.pointer (some ⟨tb,0,none⟩)))
  (hX: ∀g,X0 g→g<w.heap.size∧g≠Bl∧g≠Bw∧g≠b∧¬Ot g∧¬O g) (hn:xs.length<20):
  SeqB Tryz.prog 144 #[.pointer (some ⟨Bl,0,none⟩),.pointer (some ⟨Bw,0,none⟩)] fv1 X0 (fun ys=>ys=T.first xs) (fun pre=>pre <+: T.first xs) w:=by
 intro l J Jx W hb hJ hJx hY h0
 have hl0:Bl<w.heap.size:=World.block_lt_of_cell? w _ hBl
 have hl1:Bw<w.heap.size:=World.block_lt_of_cell? w _ hBw
 have hl2:b<w.heap.size:=World.block_lt_of_cell? w _ hc1
 have hwW:=hb.size
 have c0:=(hb.cell (p:=⟨Bl,0,none⟩) hl0).trans hBl
 have HC1:=Lib.hid ((hb.cell (p:=⟨Bw,0,none⟩) hl1).trans hBw)
 have HC2:=Lib.hid ((hb.cell (p:=⟨b,1,none⟩) hl2).trans hc1)
 have HT:=Lib.hid (show TrAt Ot W tb T from hT.below hb)
 have HOT:=Lib.hid (show∀g,Ot g→¬(X0 g∨W.heap.size≤g)from fun g hg h=>h.elim (fun h=>(hX g h).2.2.2.2.1 hg) (fun h=>by
  have:=(hT.below hb).1
  obtain⟨_,gv,cv,ov,sv,hm⟩:=hT.below hb
  have:=hm.own g hg
  omega))
 have HL:=Lib.hid (show IntsIn (fun g=>(O g∧g<w.heap.size)∧¬XO W g) W lv xs from(hl.lt.below hb).narrow)
 have HXW:=Lib.hid (show∀g,X0 g→g<W.heap.size from fun g hg=>Nat.lt_of_lt_of_le (hX g hg).1 hwW)
 have HXN:=Lib.hid (show∀g,X0 g→g≠Bl∧g≠Bw∧g≠b∧¬O g from fun g hg=>⟨(hX g hg).2.1,(hX g hg).2.2.1,(hX g hg).2.2.2.1,(hX g hg).2.2.2.2.2⟩)
 have HJ:=Lib.hid hJ
 have HJX:=Lib.hid hJx
 have HY:=Lib.hid hY
 have HST:=Lib.hid (show FiSt X0 W W J (.slice none 0 0) [] [] (fun _=>False)from⟨World.ownsRow_nil _ _ _ _,fun g e=>(by cases e),h0,KpC.refl _ _,fun g h=>h.elim⟩)
 obtain⟨A,c,hv,_⟩:=hl
 subst hv
 obtain⟨n,hnn⟩: ∃n,xs.length=n:=⟨_,rfl⟩
 have HN:=Lib.hid hnn
 rw[hnn]at hn c0 HL
 clear hT hBl hBw hc1 hX hb hJ hJx hY h0 hnn
 refine callsIn_of_wp Tryz.func144 rfl trivial ?_ rfl
 simp only[Tryz.ntmps144,List.size_toArray,List.length_cons,List.length_nil,Nat.reduceAdd,Nat.reduceSub,Array.replicate_succ,Array.replicate_zero,List.push_toArray,List.append_toArray,List.nil_append,List.cons_append]
 gi_wp2
 clear c0
 obtain⟨i0,hi,hz0,hz1,hz2⟩:=info_parts cinfo_lit
 gi_loopw [4,11] (fun fvv iv wr=> ∃(k:Nat) (pre:List Int) (B:Nat→Prop),k≤n∧iv= .int .i64 k∧Hid (pre=(xs.take k).filter (fun x=> !T.fal x))∧Hid (FiSt X0 W wr J fvv ((xs.take k).filter T.fal) pre B)) (fun _ iv _=>n-(intOf iv).toNat)
 case atStart=>exact⟨0,[],fun _=>False,Nat.zero_le _,rfl,Lib.hid rfl,HST⟩
 case round=>
  obtain⟨k,pre,B,hk,rfl,HP,HF⟩:=hrel
  obtain⟨fs,hfs⟩: ∃z,(xs.take k).filter T.fal=z:=⟨_,rfl⟩
  rw[hfs]at HF
  obtain⟨Af,cf,rfl,_⟩:=mx_slice HF.out.row
  have HTR:=Lib.hid (HT.out.rounds HF.out.kp HOT.out)
  have hz:=HF.out.kp.size
  have d1:wr.cell? ⟨Bw,0,none⟩=some (.pointer (some ⟨b,0,none⟩)):=(HF.out.kp.kept.cell (p:=⟨Bw,0,none⟩) (Nat.lt_of_lt_of_le hl1 hwW) (fun h=>h.elim (fun h=>h.elim (fun h=>(HXN.out _ h).2.1 rfl) (fun h=>by have h2:W.heap.size≤Bw:=h;omega)) (xo_cell HC1.out))).trans HC1.out
  have d2:wr.cell? ⟨b,1,none⟩=some (.pointer (some ⟨tb,0,none⟩)):=(HF.out.kp.kept.cell (p:=⟨b,1,none⟩) (Nat.lt_of_lt_of_le hl2 hwW) (fun h=>h.elim (fun h=>h.elim (fun h=>(HXN.out _ h).2.2.1 rfl) (fun h=>by have h2:W.heap.size≤b:=h;omega)) (xo_cell HC2.out))).trans HC2.out
  by_cases hlt:k<n
  ·obtain⟨y,hy⟩:=getElem_of (l:=xs) (i:=k) (by rw[HN.out];exact hlt)
   have hin:=HL.out.kept HF.out.kp.kept (fun g hg ho=>ho.elim (fun h=>h.elim (fun h=>(HXN.out _ h).2.2.2 hg.1.1) (fun h=>by have:=hg.1.2;omega)) hg.2)
   obtain⟨A',c',hAc,_,_,hxs⟩:=hin
   simp only[Value.slice.injEq]at hAc
   obtain⟨rfl,hnx,rfl⟩:=hAc
   clear hnx
   obtain⟨g,o,rfl,hg,_,e0⟩:=hxs k y hy
   have HFA:=Lib.hid (wa_false b tb T y wr HTR.out d2)
   have hs1:=filter_snoc (p:=fun x=> !T.fal x) hy
   have hs2:=filter_snoc (p:=T.fal) hy
   have hfl:((xs.take k).filter T.fal).length≤20:=by
    have:=List.length_filter_le T.fal (xs.take k)
    rw[List.length_take]at this
    omega
   rw[hfs]at hs2 hfl
   have hp:=HP.out
   rw[←hp]at hs1
   have HFQ:=HF
   obtain⟨q,hq⟩: ∃q,T.fal y=q:=⟨_,rfl⟩
   rw[hq]at HFA hs1 hs2
   clear hp hxs hq hfs HF hy
   cases q with
   | true=>
    have HS1:=Lib.hid (show(xs.take (k+1)).filter (fun x=> !T.fal x)=pre from hs1)
    have HS2:=Lib.hid (show(xs.take (k+1)).filter T.fal=fs++ [y]from hs2)
    clear hs1 hs2
    gi_wp2_with fail
    refine⟨trivial,?_⟩
    refine(callsIn_wide.2 HFA.out).mono ?_
    rintro e w1 ⟨rfl,hb1⟩
    have HF1:=Lib.hid (HFQ.out.below HJ.out hb1)
    have hzz:=Nat.le_trans hz hb1.size
    clear hb1 e0 d1 d2
    gi_wp2_with (gi_at_builtin;refine wpListIn_append_own_at _ rfl _ _ 33 rfl W.heap.size 32 i0 (.int .i64 0) 1 8 Tryz.underlying33 hi hz0 hz1 hz2 rfl (by decide) _ fs.length _ rfl (own_below HF1.out.row (mx_al w1 _)) ⟨w1.heap.size,0,none⟩ 1 1 [.int .i64 y] rfl rfl (cell_one_new' _ _ _) (by simp[Value.oneCell']) (by unfold maxLen;omega) (by omega) (by simp;omega) ?_;intro v' w2 hown hgrow hnl2 hat)
    have HF2:=Lib.hid (show FiSt X0 W w2 J v' (fs++ [y]) pre B from(HF1.out.below HJ.out (mx_al w1 (.cells #[.int .i64 y] 32))).write HJ.out hgrow (by rw[List.length_append,List.map_append];exact hown) (hat.imp_right (fun e=>⟨_,e,Nat.le_refl _⟩)))
    clear hown hgrow hnl2 hat
    gi_wp2_with fail
    go_roundw
    case rel=>
     refine⟨k+1,pre,B,by omega,by go_num,?_,?_⟩
     ·rw[HS1.out]
      exact Lib.hid rfl
     ·rw[HS2.out]
      exact HF2
    case measure=>simp[intOf];omega
   | false=>
    have HS1:=Lib.hid (show(xs.take (k+1)).filter (fun x=> !T.fal x)=pre++ [y]from hs1)
    have HS2:=Lib.hid (show(xs.take (k+1)).filter T.fal=fs from hs2)
    clear hs1 hs2
    gi_wp2_with fail
    refine⟨trivial,?_⟩
    refine(callsIn_wide.2 HFA.out).mono ?_
    rintro e w1 ⟨rfl,hb1⟩
    have HF1:=Lib.hid (HFQ.out.below HJ.out hb1)
    have hzz:=Nat.le_trans hz hb1.size
    obtain⟨fn,tmps,assign,body,hy,hR⟩:=yield_any 8 (HY.out pre B y w1 HF1.out.inv hzz HF1.out.bs)
    dsimp only[fv1]at hy
    have HR:=Lib.hid hR
    clear hb1 e0 d1 d2 hR
    gi_wp2_with fail
    refine HR.out.mono ?_
    rintro e W3 ⟨⟨rfl,hJ3⟩|⟨rfl,hJ3⟩,hk3⟩
    ·have HF3:=Lib.hid (HF1.out.round HXW.out hJ3 hk3)
     clear hJ3 hk3 hy
     gi_wp2_with fail
     go_roundw
     case rel=>
      refine⟨k+1,pre++ [y],addB B w1 W3,by omega,by go_num,?_,?_⟩
      ·rw[HS1.out]
       exact Lib.hid rfl
      ·rw[HS2.out]
       exact HF3
     case measure=>simp[intOf];omega
    ·have HJ3:=Lib.hid hJ3
     have HPX:=Lib.hid (show pre++ [y] <+: T.first xs from by
      unfold Trl.first
      rw[←HS1.out]
      exact List.IsPrefix.trans (List.IsPrefix.filter (fun x=> !T.fal x) (List.take_prefix (k+1) xs)) (List.prefix_append _ _))
     clear hJ3 hk3 hy
     gi_wp2
     refine bodyPost_ret (results_none rfl _ _ _) rfl ?_
     exact⟨⟨_,rfl⟩,.inr ⟨_,_,HPX.out,HJ3.out⟩⟩
  ·obtain rfl:k=n:=by omega
   have hf:=HF.out
   have hp:=HP.out
   rw[List.take_of_length_le (by rw[HN.out];exact Nat.le_refl _)]at hfs hp
   have hfl:fs.length<20:=by
    have:=List.length_filter_le T.fal xs
    rw[hfs]at this
    have:=HN.out
    omega
   have hfst:T.first xs=pre++T.stab fs:=by unfold Trl.first;rw[←hp,hfs]
   have HSO:=Lib.hid (wa_stable b tb Bw T _ fs wr HTR.out d1 d2 hf.row (fun g hg=>by
    have h1:=(own_lt hf.row g hg).1
    refine⟨fun h=>HOT.out g h.1 (.inr h1),by omega,by omega⟩) hfl)
   have hsl:=stab_length T fs
   obtain⟨ss,hss⟩: ∃z,T.stab fs=z:=⟨_,rfl⟩
   rw[hss]at HSO hfst hsl
   obtain⟨m,hm⟩: ∃m,fs.length=m:=⟨_,rfl⟩
   rw[hm]at hsl hfl HSO hf⊢
   have HFS:=Lib.hid hfst
   have HSL:=Lib.hid hsl
   have HM:=Lib.hid hm
   have HF0:=Lib.hid (show FiSt X0 W wr J (.slice Af m cf) fs pre B from hf)
   clear hf hp hfst hsl hss hfs d1 d2 hm HF
   gi_wp2_with fail
   refine⟨trivial,?_⟩
   refine(callsIn_wide.2 HSO.out).mono ?_
   rintro e w1 ⟨rfl,hr1,hk1⟩
   have HF1:=Lib.hid (HF0.out.write HJ.out (fs':=ss) (grown_kept hk1) hr1 (.inl rfl))
   clear hr1 hk1
   gi_wp2_with fail
   gi_loopw [32] (fun iv wq=> ∃(j:Nat) (B':Nat→Prop),j≤m∧iv= .int .i64 j∧Hid (FiSt X0 W wq J (.slice Af m cf) ss (pre++ss.take j) B')) (fun iv _=>m-(intOf iv).toNat)
   case atStart=>exact⟨0,B,Nat.zero_le _,rfl,by rw[List.take_zero,List.append_nil];exact HF1⟩
   case round=>
    obtain⟨j,B',hj,rfl,HFJ⟩:=hrel
    by_cases hlt:j<m
    ·obtain⟨y,hy⟩:=getElem_of (l:=ss) (i:=j) (by rw[HSL.out];exact hlt)
     obtain⟨g,c',hv,hg,e0⟩:=own_get HFJ.out.row hy
     simp only[Value.slice.injEq]at hv
     obtain⟨rfl,hnx,rfl⟩:=hv
     clear hnx
     have HTK:=Lib.hid (show pre++ss.take (j+1)=(pre++ss.take j)++ [y]from by rw[List.take_add_one,hy];simp)
     have hzz:=HFJ.out.kp.size
     obtain⟨fn,tmps,assign,body,hyy,hR⟩:=yield_any 8 (HY.out (pre++ss.take j) B' y wr HFJ.out.inv hzz HFJ.out.bs)
     dsimp only[fv1]at hyy
     have HR:=Lib.hid hR
     clear hR hy
     gi_wp2_with fail
     refine HR.out.mono ?_
     rintro e W3 ⟨⟨rfl,hJ3⟩|⟨rfl,hJ3⟩,hk3⟩
     ·have HF3:=Lib.hid (HFJ.out.round HXW.out hJ3 hk3)
      clear hJ3 hk3 hyy e0
      gi_wp2_with fail
      go_roundw
      case rel=>
       refine⟨j+1,addB B' wr W3,by omega,by go_num,?_⟩
       rw[HTK.out]
       exact HF3
      case measure=>simp[intOf];omega
     ·have HJ3:=Lib.hid hJ3
      have HPX:=Lib.hid (show(pre++ss.take j)++ [y] <+: T.first xs from by
       rw[HFS.out,←HTK.out]
       exact(List.prefix_append_right_inj _).2 (List.take_prefix _ _))
      clear hJ3 hk3 hyy e0
      gi_wp2
      refine bodyPost_ret (results_none rfl _ _ _) rfl ?_
      exact⟨⟨_,rfl⟩,.inr ⟨_,_,HPX.out,HJ3.out⟩⟩
    ·obtain rfl:j=m:=by omega
     have hf:=HFJ.out
     rw[List.take_of_length_le (by rw[HSL.out];exact Nat.le_refl _),←HFS.out]at hf
     have HFE:=Lib.hid hf.inv
     clear hf
     gi_wp2
     go_end0
     exact⟨⟨_,rfl⟩,.inl ⟨_,_,rfl,HFE.out⟩⟩
end Go.Proofs.YtoojmhjagipmdaaGreat
namespace Go.Proofs.YtoojmhjagipmdaaGreat
open Go.RowKit Go.Maps Go.Shelf
theorem tr_vars {O:Nat→Prop} (b:Nat) (T:Trl) (w:World) (h:TrAt O w b T):
  Calls Tryz.prog 105 #[.pointer (some ⟨b,0,none⟩)] w fun e w'=>e= .returned (.int .i64 ((T.vars.length:Int)-1))∧w=w':=by
 have HIS:=Lib.hid (tr_is b T w h)
 obtain⟨hk,gv,cv,ov,sv,h⟩:=h
 have c0:w.cell? ⟨b,0,none⟩=some (.slice (some ⟨gv,0,none⟩) T.vars.length cv):=mx_cell (j:=0) h.block
 have hv:=hk.vars
 clear h hk
 go_enter Tryz.func105,Tryz.ntmps105
 go_wp2_with fail
 refine HIS.out.mono ?_
 rintro e w' ⟨rfl,rfl⟩
 go_wp2_with fail
 go_ret
 exact⟨rfl,rfl⟩
def Trl.big (T:Trl) (l:Int):Bool:=decide ((T.vars.length:Int)-1<(litV l:Nat))
set_option maxRecDepth 100000 in
set_option maxHeartbeats 2000000 in
theorem big_one {O:Nat→Prop} (b tb q:Nat) (T:Trl) (x:Int) (w:World) (hT:TrAt O w tb T) (c0:w.cell? ⟨q,0,none⟩=some (.pointer (some ⟨b,0,none⟩))) (c1:w.cell? ⟨b,1,none⟩=some (.pointer (some ⟨tb,0,none⟩))):
  Calls Tryz.prog 104 #[.int .i64 x,.pointer (some ⟨q,0,none⟩)] w fun e w'=>e= .returned (.bool (T.big x))∧Below w.heap.size w w':=by
 have hl0:q<w.heap.size:=World.block_lt_of_cell? w _ c0
 have hl1:b<w.heap.size:=World.block_lt_of_cell? w _ c1
 have HV:=Lib.hid (lit_var x w.drew)
 have HN:=Lib.hid (tr_vars tb T w.drew (hT.below (mx_drew w)))
 unfold Trl.big
 obtain⟨v,hv⟩: ∃v:Int,((litV x:Nat):Int)=v:=⟨_,rfl⟩
 obtain⟨n,hn⟩: ∃n:Int,(T.vars.length:Int)-1=n:=⟨_,rfl⟩
 rw[hv]at HV⊢
 rw[hn]at HN⊢
 have HC:=Lib.hid c0
 have HC1:=Lib.hid c1
 clear hT hv hn c0 c1
 go_enter Tryz.func104,Tryz.ntmps104
 go_upto_region 1 with fail
 refine wp_region_held_drew (S:=fun w'=>Below w.heap.size w w') (by kernel_rfl) (mx_drew w) (fun hS=>?_)
 refine takeE 0 4 ?_
 refine takeF 2 6 (fun wq hSw=>(hSw.cell (p:=⟨q,0,none⟩) hl0).trans HC.out) ?_
 refine takeE 3 7 ?_
 refine takeE 4 8 ?_
 refine takeF 5 9 (fun wq hSw=>(hSw.cell (p:=⟨b,1,none⟩) hl1).trans HC1.out) ?_
 refine ready1 1 (fun K hK=>?_)
 go_simp
 refine HV.out.mono ?_
 rintro e w' ⟨rfl,rfl⟩
 refine hK.out _ _ hS (fun _=>?_)
 clear hK
 refine ready1 6 (fun K hK=>?_)
 go_simp
 refine HN.out.mono ?_
 rintro e w' ⟨rfl,rfl⟩
 refine hK.out _ _ hS (fun _=>?_)
 clear hK
 refine takeE 7 11 ?_
 refine takeE 8 3 ?_
 refine wpAnyH_done (by kernel_rfl) ?_ _
 have HB:=Lib.hid hS
 clear hS
 go_wp2_with fail
 go_ret
 exact⟨rfl,HB.out⟩
set_option maxRecDepth 100000 in
set_option maxHeartbeats 2000000 in
theorem index_big {O Oc:Nat→Prop} (b tb q:Nat) (T:Trl) (u:Value) (xs:List Int) (w:World) (hT:TrAt O w tb T) (c0:w.cell? ⟨q,0,none⟩=some (.pointer (some ⟨b,0,none⟩))) (c1:w.cell? ⟨b,1,none⟩=some (.pointer (some ⟨tb,0,none⟩))) (h1:IntsIn Oc w u xs) (hs:xs.length≤4194304):
  Calls Tryz.prog 113 #[u,.func (.func 104) #[] #[.pointer (some ⟨q,0,none⟩)]] w fun e w'=>(∃i:Int,e= .returned (.int .i64 i)∧decide (0≤i)=xs.any T.big)∧Below w.heap.size w w':=by
 have HONE:=Lib.hid (fun(W:World) (hb:Below w.heap.size w W) (x:Int)=>big_one b tb q T x W (hT.below hb) ((hb.cell (p:=⟨q,0,none⟩) (World.block_lt_of_cell? w _ c0)).trans c0) ((hb.cell (p:=⟨b,1,none⟩) (World.block_lt_of_cell? w _ c1)).trans c1))
 have HX:=Lib.hid h1
 obtain⟨A,c,rfl,hc,_,_⟩:=h1
 clear hT c0 c1
 go_enter Tryz.func113,Tryz.ntmps113
 go_wp2
 go_loopw [8] (fun i wr=> ∃k:Nat,k≤xs.length∧i= .int .i64 k∧Hid ((xs.take k).any T.big=false)∧Hid (Below w.heap.size w wr)) (fun i _=>xs.length-(intOf i).toNat)
 case atStart=>exact⟨0,Nat.zero_le _,rfl,Lib.hid rfl,Lib.hid (Below.refl _ _)⟩
 case round=>
  obtain⟨k,hk,rfl,HE,HW⟩:=hrel
  by_cases hlt:k<xs.length
  ·obtain⟨x,hxk⟩:=getElem_of hlt
   obtain⟨A',c',hAc,_,_,hxs⟩:=HX.out.below HW.out
   simp only[Value.slice.injEq,true_and]at hAc
   obtain⟨rfl,rfl⟩:=hAc
   obtain⟨g,o,rfl,hg,_,d1⟩:=hxs k x hxk
   have HTK:=Lib.hid (show(xs.take (k+1)).any T.big=((xs.take k).any T.big||T.big x)from by rw[List.take_add_one,hxk];simp)
   have HMX:=Lib.hid (List.mem_of_getElem? hxk)
   have HC:=Lib.hid (HONE.out wr HW.out x)
   obtain⟨q,hb⟩: ∃q,T.big x=q:=⟨_,rfl⟩
   have HQ:=Lib.hid hb
   rw[hb]at HC
   clear hb hxk hxs
   cases q with
   | true=>
    go_wp2_with fail
    refine HC.out.mono ?_
    rintro e w' ⟨rfl,hbw⟩
    have HB2:=Lib.hid (HW.out.trans (hbw.mono HW.out.size))
    clear hbw d1
    go_wp2
    go_ret
    refine⟨⟨_,rfl,?_⟩,HB2.out⟩
    rw[List.any_eq_true.2 ⟨x,HMX.out,HQ.out⟩]
    simp
   | false=>
    go_wp2_with fail
    refine HC.out.mono ?_
    rintro e w' ⟨rfl,hbw⟩
    have HB2:=Lib.hid (HW.out.trans (hbw.mono HW.out.size))
    clear hbw d1
    go_wp2
    go_roundw
    case rel=>exact⟨k+1,by omega,by go_num,Lib.hid (by rw[HTK.out,HE.out,HQ.out];rfl),HB2⟩
    case measure=>simp[intOf];omega
  ·obtain rfl:k=xs.length:=by omega
   go_wp2
   go_ret
   refine⟨⟨_,rfl,?_⟩,HW.out⟩
   have:=HE.out
   rw[List.take_length]at this
   rw[this]
   rfl
theorem contains_big {O Oc:Nat→Prop} (b tb q:Nat) (T:Trl) (u:Value) (xs:List Int) (w:World) (hT:TrAt O w tb T) (c0:w.cell? ⟨q,0,none⟩=some (.pointer (some ⟨b,0,none⟩))) (c1:w.cell? ⟨b,1,none⟩=some (.pointer (some ⟨tb,0,none⟩))) (h1:IntsIn Oc w u xs) (hs:xs.length≤4194304):
  Calls Tryz.prog 103 #[u,.func (.func 104) #[] #[.pointer (some ⟨q,0,none⟩)]] w fun e w'=>e= .returned (.bool (xs.any T.big))∧Below w.heap.size w w':=by
 have H:=Lib.hid (index_big b tb q T u xs w hT c0 c1 h1 hs)
 obtain⟨z,hz⟩: ∃z,xs.any T.big=z:=⟨_,rfl⟩
 rw[hz]at H⊢
 clear hT c0 c1 h1 hz
 go_enter Tryz.func103,Tryz.ntmps103
 go_wp2_with fail
 refine H.out.mono ?_
 rintro e w' ⟨⟨i,rfl,hi⟩,hb⟩
 have HI:=Lib.hid hi
 have HB:=Lib.hid hb
 clear hi hb
 go_wp2_with fail
 go_ret
 exact⟨ret_bool HI.out,HB.out⟩
theorem first_run (b:Nat) (A:Option Addr) (n c:Nat) (w:World):Calls Tryz.prog 108 #[.pointer (some ⟨b,0,none⟩),.slice A n c] w fun e w'=>e= .returned (.func (.func 144) #[] #[.pointer (some ⟨w.heap.size+1,0,none⟩),.pointer (some ⟨w.heap.size,0,none⟩)])∧(w.alloc (.cells #[.pointer (some ⟨b,0,none⟩)] 39)).alloc (.cells #[.slice A n c] 33)=w':=by
 go_enter Tryz.func108,Tryz.ntmps108
 go_wp2
 go_ret
 exact⟨rfl,rfl⟩
end Go.Proofs.YtoojmhjagipmdaaGreat
