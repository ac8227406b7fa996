/- Moves of a region that draws in a fence; package rat: the candidates' iterator. package rat: find (BinarySearchFunc over entries). package rup: Look. -/
import Derived.Test.YtkfgplfllddhnaaGreatDoorV701
import Derived.Test.YtkfgplfllddhnaaGreatDoorV702
import Derived.Test.YtkfgplfllddhnaaGreatDoorV714
import Derived.Test.YtkfgplfllddhnaaGreatDoorV705
import Derived.Test.YtkfgplfllddhnaaGreatDoorV710
import Derived.Test.YtkfgplfllddhnaaGreatDoorV713
import Derived.Test.YtkfgplfllddhnaaGreatDoorV700
import Derived.Test.YtkfgplfllddhnaaGreatDoorV706
namespace Go.Proofs.YtkfgplfllddhnaaGreatDoor
open Go.RowKit Go.Shelf
attribute [local go_sem] Oper.semAt_some
section
variable {P:Program} {F:Fence} {n:Nat}
theorem takeI {md:Region.Mode} {ops:Array Oper} {Q:Exit→Act→World→Prop} (i d:Nat) {oi:Oper} {v:Value} {fuel:Nat} {listed:Array Bool} {a a':Act} {w:World}
  (h:wpAnyIn F n P md ops Q fuel (listed.setIfInBounds i true) a' w) (hro:F.round=none:=by rfl)
  (hi:ops[i]? =some oi:=by rfl) (hd:oi.dst=some d:=by rfl) (hs:Region.noSelect ops=true:=by kernel_rfl) (hf:Region.free md ops listed i=true:=by kernel_rfl) (hr:(Region.ready md ops listed).contains i=true:=by kernel_rfl)
  (hQ: ∀c (a:Act) w,Q (.panic c) (a.put oi.dst v) w→Q (.panic c) a w:=by exact fun _ _ _ h=>h) (hw:Region.wanted oi (yielded ops a.tmps)=true:=by rfl)
  (hy: ∀w,(execOp a.eval oi).run P w= .ok (.value v) w:=by(intro wq;go_simp;try with_reducible rfl)) (hab: ∀w,oi.about P w a.eval=none:=by(intro wq;rfl))
  (ha:a.put (some d) v=a':=by(conv=>lhs;simp only[Act.put,List.setIfInBounds_toArray,List.set_cons_zero,List.set_cons_succ])):wpAnyIn F n P md ops Q (fuel+1) listed a w:=
 wpAnyIn_take hro hi hs hf hr hQ ⟨.inl ⟨hw,hy⟩,hab⟩ (by rw[hd,ha];exact h)
theorem takeJ {md:Region.Mode} {ops:Array Oper} {Q:Exit→Act→World→Prop} (i d:Nat) {oi:Oper} {fuel:Nat} {listed:Array Bool} {a a':Act} {w:World}
  (h:wpAnyIn F n P md ops Q fuel (listed.setIfInBounds i true) a' w) (hro:F.round=none:=by rfl)
  (hi:ops[i]? =some oi:=by rfl) (hd:oi.dst=some d:=by rfl) (hs:Region.noSelect ops=true:=by kernel_rfl) (hf:Region.free md ops listed i=true:=by kernel_rfl) (hr:(Region.ready md ops listed).contains i=true:=by kernel_rfl)
  (hQ: ∀c (a:Act) w,Q (.panic c) (a.put oi.dst undef) w→Q (.panic c) a w:=by exact fun _ _ _ h=>h) (hw:Region.wanted oi (yielded ops a.tmps)=false:=by rfl)
  (hab: ∀w,oi.about P w a.eval=none:=by(intro wq;rfl))
  (ha:a.put (some d) undef=a':=by(conv=>lhs;simp only[Act.put,List.setIfInBounds_toArray,List.set_cons_zero,List.set_cons_succ])):wpAnyIn F n P md ops Q (fuel+1) listed a w:=
 wpAnyIn_take hro hi hs hf hr hQ ⟨.inr ⟨hw,rfl⟩,hab⟩ (by rw[hd,ha];exact h)
theorem readyI {md:Region.Mode} {ops:Array Oper} {Q:Exit→Act→World→Prop} (i:Nat) {o:Oper} {fuel:Nat} {listed:Array Bool} {a:Act} {w:World}
  (h: ∀K':Act→World→Prop,Shut (∀a w,wpAnyIn F n P md ops Q fuel (listed.setIfInBounds i true) a w→K' a w)→Oper.wpIn F n P o a w K' Q)
  (ho:ops[i]? =some o:=by rfl) (hr:Region.ready md ops listed= [i]:=by kernel_rfl) (hw:Region.wanted o (yielded ops a.tmps)=true:=by rfl):wpAnyIn F n P md ops Q (fuel+1) listed a w:=
 wpAnyIn_ready hr (by simp) (AllReadyIn.cons ho (fun K' hK=>by rw[if_pos hw];exact h K' hK) AllReadyIn.nil)
theorem readyU {md:Region.Mode} {ops:Array Oper} {Q:Exit→Act→World→Prop} (i d:Nat) {o:Oper} {fuel:Nat} {listed:Array Bool} {a a':Act} {w:World}
  (h:wpAnyIn F n P md ops Q fuel (listed.setIfInBounds i true) a' w) (hF: ∀f,F.fn f:=by exact fun _=>trivial)
  (ho:ops[i]? =some o:=by rfl) (hd:o.dst=some d:=by rfl) (hr:Region.ready md ops listed= [i]:=by kernel_rfl) (hw:Region.wanted o (yielded ops a.tmps)=false:=by rfl)
  (ha:a.put (some d) undef=a':=by(conv=>lhs;simp only[Act.put,List.setIfInBounds_toArray,List.set_cons_zero,List.set_cons_succ])):wpAnyIn F n P md ops Q (fuel+1) listed a w:=
 wpAnyIn_ready hr (by simp) (AllReadyIn.cons ho (fun K' hK=>by rw[if_neg (by rw[hw];decide),hd,ha];exact⟨fun f _=>hF f,hK _ _ h⟩) AllReadyIn.nil)
theorem readyI2 {md:Region.Mode} {ops:Array Oper} {Q:Exit→Act→World→Prop} (i j:Nat) {o p:Oper} {fuel:Nat} {listed:Array Bool} {a:Act} {w:World}
  (h: ∀K':Act→World→Prop,Shut (∀a w,wpAnyIn F n P md ops Q fuel (listed.setIfInBounds i true) a w→K' a w)→Oper.wpIn F n P o a w K' Q)
  (h2: ∀K':Act→World→Prop,Shut (∀a w,wpAnyIn F n P md ops Q fuel (listed.setIfInBounds j true) a w→K' a w)→Oper.wpIn F n P p a w K' Q)
  (ho:ops[i]? =some o:=by rfl) (hp:ops[j]? =some p:=by rfl) (hr:Region.ready md ops listed= [i,j]:=by kernel_rfl) (hw:Region.wanted o (yielded ops a.tmps)=true:=by rfl) (hw2:Region.wanted p (yielded ops a.tmps)=true:=by rfl):wpAnyIn F n P md ops Q (fuel+1) listed a w:=
 wpAnyIn_ready hr (by simp) (AllReadyIn.cons ho (fun K' hK=>by rw[if_pos hw];exact h K' hK) (AllReadyIn.cons hp (fun K' hK=>by rw[if_pos hw2];exact h2 K' hK) AllReadyIn.nil))
end
theorem via {T R:Prop} (f:T→R) (t:T):R:=f t
theorem EntIn.narrow {O:Nat→Prop} {w:World} {v:Value} {es:Ents} (h:EntIn O w v es):EntIn (fun g=>O g∧¬XO w g) w v es:=by
 obtain⟨A,c,hv,hc,hn,hx⟩:=h
 refine⟨A,c,hv,hc,hn,fun i p hi=>?_⟩
 obtain⟨g,o,u,h1,h2,h3,h4,h5,h6⟩:=hx i p hi
 exact⟨g,o,u,h1,h2,⟨h3,xo_cell h4⟩,h4,h5,h6.narrow⟩
def cvv (x:Nat×Int):Array Value:= #[.int .i64 (x.1:Int)]
structure CPre (es:Ents) (_:Nat) (pre:List (Nat×Int)) (x:Nat×Int) (_:World):Prop where
 at_: ∃c,es[x.1]? =some (x.2,c)
 few:pre.length<es.length
theorem want_cons (p:Int) (x:Int×List Int) (es:Ents):ratWant (x::es) p=if candB p x.2=true then x.1::ratWant es p else ratWant es p:=by
 unfold ratWant
 rw[List.filter_cons]
 split <;> rfl
theorem want_len (p:Int) (es:Ents):(ratWant es p).length≤es.length:=by
 unfold ratWant
 rw[List.length_map]
 exact List.length_filter_le _ _
set_option maxRecDepth 100000 in
set_option maxHeartbeats 4000000 in
theorem cand_stops {O:Nat→Prop} (X0:Nat→Prop) (Bl Bp:Nat) (lv:Value) (es:Ents) (p:Int) (w:World) (hBl:w.cell? ⟨Bl,0,none⟩=some lv) (hBp:w.cell? ⟨Bp,0,none⟩=some (.int .i64 p)) (h:EntIn O w lv es) (ho:EntOk es) (hX0: ∀g,X0 g→¬O g∧g≠Bl∧g≠Bp):
  SeqM Tryz.prog 123 #[.pointer (some ⟨Bl,0,none⟩),.pointer (some ⟨Bp,0,none⟩)] cvv (CPre es) (fun _ W W'=>KpC X0 W W') (fun _ _ _=>True) (fun ys=>ys.map Prod.snd=ratWant es p) (fun _=>True) w:=by
 intro l J Jx W hW hJ hJx hY h0
 have hBl':=World.block_lt_of_cell? w _ hBl
 have hBp':=World.block_lt_of_cell? w _ hBp
 have e1:W.cell? ⟨Bl,0,none⟩=some lv:=(hW.cell (p:=⟨Bl,0,none⟩) hBl').trans hBl
 have HBP:=Lib.hid (show W.cell? ⟨Bp,0,none⟩=some (.int .i64 p)from(hW.cell (p:=⟨Bp,0,none⟩) hBp').trans hBp)
 have hzW:=hW.size
 have HE:=Lib.hid (h.below hW).narrow
 have HOK:=Lib.hid ho
 have HJ:=Lib.hid hJ
 have HY:=Lib.hid hY
 have HX0:=Lib.hid hX0
 have H0:=Lib.hid h0
 have hlen:=ho.len
 obtain⟨q,hq⟩: ∃q,litN p=q:=⟨_,rfl⟩
 have HNG:=Lib.hid (fun W=>lit_neg p W)
 rw[hq]at HNG
 have HQ:=Lib.hid hq
 obtain⟨A,c,rfl,hc,_,_⟩:=h
 clear hBl hBp hW hJ hJx hY hX0 h0 ho hq hBl'
 refine callsIn_of_wp Tryz.func123 rfl trivial ?_ rfl
 simp only[Tryz.ntmps123,List.size_toArray,List.length_cons,List.length_nil,Nat.reduceAdd,Nat.reduceSub,Array.replicate_succ,Array.replicate_zero,List.push_toArray,List.append_toArray,List.nil_append,List.cons_append]
 gi_wp2
 clear e1
 gi_loopw [8] (fun i wr=> ∃(k:Nat) (pre:List (Nat×Int)),k≤es.length∧i= .int .i64 k∧Hid (pre.length≤k)∧Hid (pre.map Prod.snd++ratWant (es.drop k) p=ratWant es p)∧Hid (KpC X0 W wr)∧Hid (J pre wr)) (fun i _=>es.length-(intOf i).toNat)
 case atStart=>exact⟨0,[],Nat.zero_le _,rfl,Lib.hid (Nat.le_refl _),Lib.hid rfl,Lib.hid (KpC.refl _ _),H0⟩
 case round=>
  obtain⟨k,pre,hk,rfl,HPL,HP,HK,HJS⟩:=hrel
  by_cases hlt:k<es.length
  ·obtain⟨x,hxk⟩:=getElem_of hlt
   have hin:=HE.out.kept HK.out.kept (fun g hg ho=>ho.elim (fun h=>(HX0.out g h).1 hg.1) hg.2)
   obtain⟨A',c',hAc,_,_,hxs⟩:=hin
   simp only[Value.slice.injEq,true_and]at hAc
   obtain⟨rfl,rfl⟩:=hAc
   obtain⟨g,o,u,rfl,hg,_,d0,d1,hu⟩:=hxs k x hxk
   have ep:wr.cell? ⟨Bp,0,none⟩=some (.int .i64 p):=(HK.out.kept.cell (p:=⟨Bp,0,none⟩) (Nat.lt_of_lt_of_le hBp' hzW) (fun h=>h.elim (fun h=>(HX0.out _ h).2.2 rfl) (xo_cell HBP.out))).trans HBP.out
   have hxm:=List.mem_of_getElem? hxk
   have hxl:=clause_len (HOK.out.cls x hxm)
   have HXK:=Lib.hid hxk
   have HDK:=Lib.hid (show es.drop k=x::es.drop (k+1)from by
    rw[List.drop_eq_getElem_cons hlt]
    rw[List.getElem?_eq_getElem hlt]at hxk
    rw[Option.some.inj hxk])
   have HP2:=Lib.hid (show pre.map Prod.snd++(if candB p x.2=true then x.1::ratWant (es.drop (k+1)) p else ratWant (es.drop (k+1)) p)=ratWant es p from by
    rw[←want_cons,←HDK.out]
    exact HP.out)
   obtain⟨id,d⟩:=x
   simp only at d0 d1 hu hxl HP2
   obtain⟨W1,W2,W3,hW1,hW2,hW3,f0,f1,f2,y0,y1,y2,hbx,hb3⟩:=two_new wr (.int .i64 0) (.slice none 0 0) (.int .i64 id) u 144
   have hb3D:=hb3.trans ((mx_drew W3).mono hb3.size)
   obtain⟨wD,hwD⟩: ∃z,W3.drew=z:=⟨_,rfl⟩
   rw[hwD]at hb3D
   have hbxD:wD.heap[wr.heap.size]? =some (.cells #[.int .i64 id,u] 144 (0,0)):=by rw[←hwD];exact hbx
   have z1:=mx_cell (j:=1) hbxD
   have epD:wD.cell? ⟨Bp,0,none⟩=some (.int .i64 p):=(hb3D.cell (p:=⟨Bp,0,none⟩) (World.block_lt_of_cell? wr _ ep)).trans ep
   have HCT:=Lib.hid (contains_c u d q wD (hu.below hb3D) (by omega))
   have HAL:=Lib.hid (always_any u d wD (hu.below hb3D) (by omega))
   have HKD:=Lib.hid (HK.out.trans (KpC.of_below (X:=X0) hb3D))
   have HJD:=Lib.hid (own_from_below' HJ.out HJS.out hb3D)
   obtain⟨Au,cu,rfl,_⟩:=hu
   clear hxk hxs hxm hbx hbxD hb3D
   gi_wp2_with fail
   clear hW1 hW2 hb3 d0 d1 f0 f1 f2 y0 y1 y2 ep
   refine wpIn_region_any (by kernel_rfl) ?_
   change wpAnyIn _ _ _ _ _ _ _ _ _ (World.drew _)
   rw[hwD]
   clear hW3 hwD W1 W2 W3
   apply via
   ·intro TAIL
    refine takeI 0 13 ?_
    refine readyI2 1 2 (fun K hK=>?_) (fun K hK=>?_)
    ·go_simp
     refine hK.out _ _ ?_
     refine readyI 2 (fun K hK=>?_)
     go_simp
     refine hK.out _ _ ?_
     refine readyI 3 (fun K hK=>?_)
     go_simp
     refine⟨trivial,?_⟩
     refine(callsIn_wide.2 (HNG.out _)).mono ?_
     rintro e w' ⟨rfl,rfl⟩
     refine hK.out _ _ ?_
     exact TAIL
    ·go_simp
     refine hK.out _ _ ?_
     refine readyI2 1 3 (fun K hK=>?_) (fun K hK=>?_)
     ·go_simp
      refine hK.out _ _ ?_
      refine readyI 3 (fun K hK=>?_)
      go_simp
      refine⟨trivial,?_⟩
      refine(callsIn_wide.2 (HNG.out _)).mono ?_
      rintro e w' ⟨rfl,rfl⟩
      refine hK.out _ _ ?_
      exact TAIL
     ·go_simp
      refine⟨trivial,?_⟩
      refine(callsIn_wide.2 (HNG.out _)).mono ?_
      rintro e w' ⟨rfl,rfl⟩
      refine hK.out _ _ ?_
      refine readyI 1 (fun K hK=>?_)
      go_simp
      refine hK.out _ _ ?_
      exact TAIL
   ·refine readyI 4 (fun K hK=>?_)
    go_simp
    refine⟨trivial,?_⟩
    refine(callsIn_wide.2 HCT.out).mono ?_
    rintro e w' ⟨rfl,rfl⟩
    refine hK.out _ _ ?_
    clear hK
    have hcd:candB p d=(d.contains q&& !alwL d):=by unfold candB;rw[HQ.out]
    rw[hcd]at HP2
    obtain⟨ct,hct⟩: ∃b,d.contains q=b:=⟨_,rfl⟩
    obtain⟨al,hal⟩: ∃b,alwL d=b:=⟨_,rfl⟩
    rw[hal]at HAL HP2
    rw[hct]at HP2⊢
    clear hcd hct hal HCT
    cases ct with
    | false=>
     have HP3:=Lib.hid (show pre.map Prod.snd++ratWant (es.drop (k+1)) p=ratWant es p from HP2.out)
     clear HP2
     refine takeI 5 18 ?_
     refine takeJ 6 19 ?_
     refine takeJ 7 20 ?_
     refine readyU 8 21 ?_
     refine takeJ 9 22 ?_
     refine takeI 10 23 ?_
     refine takeI 11 24 ?_
     refine takeJ 12 25 ?_
     refine takeJ 13 26 ?_
     refine readyU 14 27 ?_
     refine takeJ 15 28 ?_
     refine takeI 16 29 ?_
     refine wpAnyIn_done (by kernel_rfl) ?_ _
     gi_wp2_with fail
     go_roundw
     case rel=>exact⟨k+1,pre,by omega,by go_num,Lib.hid (by have:=HPL.out;omega),HP3,HKD,HJD⟩
     case measure=>simp[intOf];omega
    | true=>
     refine takeI 5 18 ?_
     refine takeI 6 19 ?_
     refine readyI 7 (fun K hK=>?_)
     go_simp
     refine hK.out _ _ ?_
     clear hK
     refine readyI 8 (fun K hK=>?_)
     go_simp
     refine⟨trivial,?_⟩
     refine(callsIn_wide.2 HAL.out).mono ?_
     rintro e wA ⟨rfl,hbA⟩
     refine hK.out _ _ ?_
     have HKA:=Lib.hid (HKD.out.trans (KpC.of_below (X:=X0) hbA))
     have HJA:=Lib.hid (own_from_below' HJ.out HJD.out hbA)
     clear hK hbA HAL
     cases al with
     | true=>
      have HP3:=Lib.hid (show pre.map Prod.snd++ratWant (es.drop (k+1)) p=ratWant es p from HP2.out)
      clear HP2
      refine takeI 9 22 ?_
      refine takeI 10 23 ?_
      refine takeI 11 24 ?_
      refine takeJ 12 25 ?_
      refine takeJ 13 26 ?_
      refine readyU 14 27 ?_
      refine takeJ 15 28 ?_
      refine takeI 16 29 ?_
      refine wpAnyIn_done (by kernel_rfl) ?_ _
      gi_wp2_with fail
      go_roundw
      case rel=>exact⟨k+1,pre,by omega,by go_num,Lib.hid (by have:=HPL.out;omega),HP3,HKA,HJA⟩
      case measure=>simp[intOf];omega
     | false=>
      have HP3:=Lib.hid (show(pre++ [(k,id)]).map Prod.snd++ratWant (es.drop (k+1)) p=ratWant es p from by
       rw[←HP2.out,List.map_append,List.append_assoc]
       rfl)
      clear HP2
      refine takeI 9 22 ?_
      refine takeI 10 23 ?_
      refine takeI 11 24 ?_
      refine takeI 12 25 ?_
      refine takeI 13 26 ?_
      obtain⟨fn,tmps,assign,body,hy,hR⟩:=yield_any 8 (HY.out pre (k,id) wA HJA.out ⟨⟨d,HXK.out⟩,by have:=HPL.out;omega⟩)
      dsimp only[cvv]at hy
      have HRR:=Lib.hid hR
      clear hR
      refine readyI 14 (fun K hK=>?_)
      go_simp
      refine HRR.out.mono ?_
      rintro e W5 (⟨rfl,hJ5,hk5⟩|⟨rfl,hJx5,_⟩)
      ·refine hK.out _ _ ?_
       have HJ5:=Lib.hid hJ5
       have HK5:=Lib.hid (HKA.out.trans hk5)
       clear hK hJ5 hk5 hy
       refine takeI 15 28 ?_
       refine takeI 16 29 ?_
       refine wpAnyIn_done (by kernel_rfl) ?_ _
       gi_wp2_with fail
       go_roundw
       case rel=>exact⟨k+1,pre++ [(k,id)],by omega,by go_num,Lib.hid (by have:=HPL.out;simp;omega),HP3,HK5,HJ5⟩
       case measure=>simp[intOf];omega
      ·refine hK.out _ _ ?_
       clear hK hy
       refine takeI 15 28 ?_
       refine takeI 16 29 ?_
       refine wpAnyIn_done (by kernel_rfl) ?_ _
       gi_wp2
       refine bodyPost_ret (results_none rfl _ _ _) rfl ?_
       exact⟨⟨_,rfl⟩,.inr ⟨_,trivial,hJx5⟩⟩
  ·obtain rfl:k=es.length:=by omega
   gi_wp2
   go_end0
   refine⟨⟨_,rfl⟩,.inl ⟨pre,?_,HJS.out⟩⟩
   have:=HP.out
   rw[List.drop_length]at this
   have e:ratWant [] p= []:=rfl
   rwa [e,List.append_nil]at this
end Go.Proofs.YtkfgplfllddhnaaGreatDoor
namespace Go.Proofs.YtkfgplfllddhnaaGreatDoor
open Go.RowKit Go.Maps
def cmpI (x y:Int):Int:=if x<y then -1 else if y<x then 1 else 0
set_option maxRecDepth 100000 in
set_option maxHeartbeats 2000000 in
theorem find_cmp (x y:Int) (u:Value) (w:World):
  Calls Tryz.prog 100 #[.agg #[.int .i64 x,u],.int .i64 y] w fun e w'=>e= .returned (.int .i64 (cmpI x y))∧Below w.heap.size w w':=by
 obtain⟨W,hW⟩: ∃W,w.alloc (.cells #[.int .i64 x,u] 144)=W:=⟨_,rfl⟩
 have hb:Below w.heap.size w W:=by rw[←hW];exact mx_al _ _
 have hn:W.heap[w.heap.size]? =some (.cells #[.int .i64 x,u] 144 (0,0)):=by rw[←hW];exact World.alloc_heap_new _ _
 have b0:W.cell? ⟨w.heap.size,0,none⟩=some (.int .i64 x):=mx_cell (j:=0) hn
 obtain⟨R,hR⟩: ∃R,cmpI x y=R:=⟨_,rfl⟩
 rw[hR]
 have HR:=Lib.hid hR
 have HB:=Lib.hid hb
 clear hb hn hR
 by_cases h1:x<y
 ·have q1:decide (x<y)=true:=decide_eq_true h1
  have HF:=Lib.hid (show R= -1 from by rw[←HR.out];exact if_pos h1)
  clear h1
  go_enter Tryz.func100,Tryz.ntmps100
  go_wp2_with fail
  go_ret
  rw[HF.out]
  exact⟨rfl,HB.out⟩
 ·have q1:decide (x<y)=false:=decide_eq_false h1
  by_cases h2:y<x
  ·have q2:decide (y<x)=true:=decide_eq_true h2
   have HF:=Lib.hid (show R=1 from by rw[←HR.out];exact(if_neg h1).trans (if_pos h2))
   clear h1 h2
   go_enter Tryz.func100,Tryz.ntmps100
   go_wp2_with fail
   go_ret
   rw[HF.out]
   exact⟨rfl,HB.out⟩
  ·have q2:decide (y<x)=false:=decide_eq_false h2
   have HF:=Lib.hid (show R=0 from by rw[←HR.out];exact(if_neg h1).trans (if_neg h2))
   clear h1 h2
   go_enter Tryz.func100,Tryz.ntmps100
   go_wp2_with fail
   go_ret
   rw[HF.out]
   exact⟨rfl,HB.out⟩
theorem rise_lt {es:Ents} (h:Rising es) {i j:Nat} {x y:Int×List Int} (hi:es[i]? =some x) (hj:es[j]? =some y) (hij:i<j):x.1<y.1:=by
 have hi':=List.getElem?_eq_some_iff.1 hi
 have hj':=List.getElem?_eq_some_iff.1 hj
 have:=List.pairwise_iff_getElem.1 h i j hi'.1 hj'.1 hij
 rw[hi'.2,hj'.2]at this
 exact this
structure FindO (es:Ents) (y:Int) (p:Int) (ok:Bool):Prop where
 ok:ok=(getA es y).isSome
 at_: ∀c,getA es y=some c→∃i:Nat,p=i∧es[i]? =some (y,c)
set_option maxRecDepth 100000 in
set_option maxHeartbeats 4000000 in
theorem find_bsf {O:Nat→Prop} (v:Value) (es:Ents) (y:Int) (w:World) (h:EntIn O w v es) (hr:Rising es) (hl:es.length≤4194304):
  Calls Tryz.prog 99 #[v,.int .i64 y,.func (.func 100) #[] #[]] w fun r w'=> ∃(p:Int) (ok:Bool),r= .returned (.tuple #[.int .i64 p,.bool ok])∧FindO es y p ok∧Below w.heap.size w w':=by
 have HX:=Lib.hid h
 have HS:=Lib.hid hr
 obtain⟨A,c,rfl,hc,_,_⟩:=h
 clear hr
 go_enter Tryz.func99,Tryz.ntmps99
 go_wp2_with fail
 go_loopw [9,10] (fun a b wr=> ∃i j:Nat,i≤j∧j≤es.length∧a= .int .i64 i∧b= .int .i64 j∧Hid (Below w.heap.size w wr)∧Hid (∀k (e:Int×List Int),k<i→es[k]? =some e→e.1<y)∧Hid (∀k (e:Int×List Int),j≤k→es[k]? =some e→y≤e.1)) (fun a b _=>(intOf b).toNat-(intOf a).toNat)
 case atStart=>exact⟨0,es.length,Nat.zero_le _,Nat.le_refl _,rfl,rfl,Lib.hid (Below.refl _ _),Lib.hid (fun k e hk=>by omega),Lib.hid (fun k e hk he=>by have:=(List.getElem?_eq_some_iff.1 he).1;omega)⟩
 case round=>
  obtain⟨i,j,hij,hjl,rfl,rfl,HW,H1,H2⟩:=hrel
  by_cases hlt:i<j
  ·have hw1:IntKind.i64.wrap ((i:Int)+(j:Int))=(i:Int)+(j:Int):=IntWalk.i64_in _ (by omega)
   obtain⟨m,hm⟩: ∃m,(i+j)/2=m:=⟨_,rfl⟩
   have hm2:((i:Int)+(j:Int))/2=(m:Int):=by omega
   have him:i≤m:=by omega
   have hmj:m<j:=by omega
   clear hm
   obtain⟨x,hx⟩: ∃x,es[m]? =some x:=⟨_,List.getElem?_eq_getElem (by omega)⟩
   obtain⟨A',c',hAc,_,_,hxs⟩:=HX.out.below HW.out
   simp only[Value.slice.injEq,true_and]at hAc
   obtain⟨rfl,rfl⟩:=hAc
   obtain⟨g,o,u,rfl,hgl,_,d0,d1,_⟩:=hxs m x hx
   have HCM:=Lib.hid (find_cmp x.1 y u wr)
   have HXM:=Lib.hid hx
   clear hx hxs
   by_cases hcx:x.1<y
   ·have hd:decide (cmpI x.1 y<0)=true:=decide_eq_true (by unfold cmpI;rw[if_pos hcx];decide)
    have HC:=Lib.hid hcx
    clear hcx
    go_wp2_with fail
    refine HCM.out.mono ?_
    rintro e w1 ⟨rfl,hb1⟩
    have HB1:=Lib.hid (HW.out.trans (hb1.mono HW.out.size))
    clear d0 d1 hb1
    go_wp2_with fail
    go_roundw
    case rel=>exact⟨m+1,j,by omega,hjl,by go_num,rfl,HB1,Lib.hid (fun k z hk hz=>by
     rcases Nat.lt_or_ge k m with h|h
     ·have:=rise_lt HS.out hz HXM.out h
      have:=HC.out
      omega
     ·obtain rfl:k=m:=by omega
      rw[HXM.out]at hz
      obtain rfl:=Option.some.inj hz
      exact HC.out),H2⟩
    case measure=>simp[intOf];omega
   ·have hd:decide (cmpI x.1 y<0)=false:=decide_eq_false (by unfold cmpI;rw[if_neg hcx];split <;> decide)
    have HC:=Lib.hid hcx
    clear hcx
    go_wp2_with fail
    refine HCM.out.mono ?_
    rintro e w1 ⟨rfl,hb1⟩
    have HB1:=Lib.hid (HW.out.trans (hb1.mono HW.out.size))
    clear d0 d1 hb1
    go_wp2_with fail
    go_roundw
    case rel=>exact⟨i,m,him,by omega,rfl,by go_num,HB1,H1,Lib.hid (fun k z hk hz=>by
     have hcc:=HC.out
     rcases Nat.lt_or_ge m k with h|h
     ·have:=rise_lt HS.out HXM.out hz h
      omega
     ·obtain rfl:k=m:=by omega
      rw[HXM.out]at hz
      obtain rfl:=Option.some.inj hz
      omega)⟩
    case measure=>simp[intOf];omega
  ·obtain rfl:i=j:=by omega
   by_cases hil:i<es.length
   ·obtain⟨x,hx⟩: ∃x,es[i]? =some x:=⟨_,List.getElem?_eq_getElem hil⟩
    obtain⟨A',c',hAc,_,_,hxs⟩:=HX.out.below HW.out
    simp only[Value.slice.injEq,true_and]at hAc
    obtain⟨rfl,rfl⟩:=hAc
    obtain⟨g,o,u,rfl,hgl,_,d0,d1,_⟩:=hxs i x hx
    have HCM:=Lib.hid (find_cmp x.1 y u wr)
    have hres:FindO es y i (cmpI x.1 y==0):=by
     by_cases hxy:x.1=y
     ·have hg:getA es y=some x.2:=getA_of HS.out (by rw[←hxy];exact List.mem_of_getElem? hx)
      refine⟨?_,fun c hc=>⟨i,rfl,?_⟩⟩
      ·rw[hg,hxy]
       unfold cmpI
       rw[if_neg (by omega),if_neg (by omega)]
       rfl
      ·rw[hg]at hc
       rw[hx,←Option.some.inj hc,←hxy]
     ·have hg:getA es y=none:=getA_none.2 fun v hv=>by
       obtain⟨k,hk⟩:=List.getElem?_of_mem hv
       rcases Nat.lt_trichotomy k i with h|h|h
       ·have:=H1.out k _ h hk
        simp only at this
        omega
       ·subst h
        rw[hx]at hk
        rw[Option.some.inj hk]at hxy
        exact hxy rfl
       ·have h3:=rise_lt HS.out hx hk h
        have h4:=H2.out i x (Nat.le_refl _) hx
        simp only at h3
        omega
      refine⟨?_,fun c hc=>by rw[hg]at hc;cases hc⟩
      rw[hg]
      unfold cmpI
      split
      ·rfl
      ·split
       ·rfl
       ·omega
    have HRES:=Lib.hid hres
    clear hxs hx hres
    go_wp2_with fail
    refine HCM.out.mono ?_
    rintro e w1 ⟨rfl,hb1⟩
    have HB1:=Lib.hid (HW.out.trans (hb1.mono HW.out.size))
    clear d0 d1 hb1
    go_wp2_with fail
    go_ret2
    exact⟨_,_,rfl,HRES.out,HB1.out⟩
   ·have hd:decide ((i:Int)<(es.length:Int))=false:=decide_eq_false (by omega)
    have HRES:=Lib.hid (show FindO es y i false from by
     have hg:getA es y=none:=getA_none.2 fun v hv=>by
      obtain⟨k,hk⟩:=List.getElem?_of_mem hv
      have h5:=(List.getElem?_eq_some_iff.1 hk).1
      have:=H1.out k _ (by omega) hk
      simp only at this
      omega
     exact⟨by rw[hg];rfl,fun c hc=>by rw[hg]at hc;cases hc⟩)
    go_wp2_with fail
    go_ret2
    exact⟨_,_,rfl,HRES.out,HW.out⟩
set_option maxHeartbeats 2000000 in
theorem rat_find {O:Nat→Prop} (v:Value) (es:Ents) (y:Int) (w:World) (h:EntIn O w v es) (hr:Rising es) (hl:es.length≤4194304):
  Calls Tryz.prog 72 #[v,.int .i64 y] w fun r w'=> ∃(p:Int) (ok:Bool),r= .returned (.tuple #[.int .i64 p,.bool ok])∧FindO es y p ok∧Below w.heap.size w w':=by
 have HC:=Lib.hid (find_bsf v es y w h hr hl)
 obtain⟨A,c,rfl,hc,_,_⟩:=h
 clear hr
 go_enter Tryz.func72,Tryz.ntmps72
 go_wp2_with fail
 refine HC.out.mono ?_
 rintro e w1 ⟨p,ok,rfl,hf,hb⟩
 have HF:=Lib.hid hf
 have HB:=Lib.hid hb
 clear hf hb
 go_wp2_with fail
 go_ret2
 exact⟨_,_,rfl,HF.out,HB.out⟩
end Go.Proofs.YtkfgplfllddhnaaGreatDoor
namespace Go.Proofs.YtkfgplfllddhnaaGreatDoor
open Go.RowKit Go.Maps Go.Shelf
theorem IntsIn.take {O:Nat→Prop} {w:World} {A:Option Addr} {n c:Nat} {xs:List Int} (h:IntsIn O w (.slice A n c) xs) {k:Nat} (hk:k≤xs.length):IntsIn O w (.slice A k c) (xs.take k):=by
 obtain⟨A',c',e,hc,hn,hx⟩:=h
 cases e
 have hl:(xs.take k).length=k:=by rw[List.length_take];omega
 refine⟨A,c,by rw[hl],by omega,hn,fun i x hi=>?_⟩
 have hik:=(List.getElem?_eq_some_iff.1 hi).1
 rw[List.getElem?_take,if_pos (by omega)]at hi
 exact hx i x hi
set_option maxRecDepth 100000 in
set_option maxHeartbeats 2000000 in
theorem rup_Look {O Oc:Nat→Prop} (cv u:Value) (c xs:List Int) (w:World) (hc:IntsIn Oc w cv c) (hu:IntsIn O w u xs) (hcb:clauseB c=true) (f:Int→Int) (hf:asgF xs=some f) (hcl:c.length≤4096) (hlen:xs.length≤100000000000):
  Calls Tryz.prog 93 #[cv,u] w fun e w'=>e= .returned (.tuple #[.int .u8 ((lookF f c).1:Nat),.int .i64 (lookF f c).2,.int .i64 0])∧Below w.heap.size w w':=by
 have HA:=Lib.hid (rup_assigned u xs w hu hlen)
 have HC:=Lib.hid hc
 have HF:=Lib.hid hf
 obtain⟨A,k,rfl,_⟩:=hu
 obtain⟨Ac,kc,rfl,_⟩:=hc
 clear hf
 go_enter Tryz.func93,Tryz.ntmps93
 go_wp2_with fail
 refine HA.out.mono ?_
 rintro e w1 ⟨ho,hb1⟩
 rw[HF.out]at ho
 obtain⟨b,n,rfl,_,_,hm,hok⟩:=ho
 have hr:=right_clause _ c w1 (HC.out.below hb1) (by omega)
 rw[hcb]at hr
 have HR:=Lib.hid hr
 have HL:=Lib.hid (rup_look b n f _ c w1 hm hok (HC.out.below hb1) (by omega))
 have HB:=Lib.hid hb1
 clear hr hm hok hb1 HA
 go_wp2_with fail
 refine HR.out.mono ?_
 rintro e w' ⟨rfl,rfl⟩
 go_wp2_with fail
 refine HL.out.mono ?_
 rintro e w' ⟨rfl,rfl⟩
 go_wp2_with fail
 go_ret3
 exact⟨rfl,HB.out⟩
end Go.Proofs.YtkfgplfllddhnaaGreatDoor
