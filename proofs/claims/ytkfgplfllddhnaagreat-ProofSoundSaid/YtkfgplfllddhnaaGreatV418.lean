/- Moves of a region that draws in a fence; package rat: the candidates' iterator. package rat: rest. -/
import Derived.Test.YtkfgplfllddhnaaGreatV405
import Derived.Test.YtkfgplfllddhnaaGreatV403
import Derived.Test.YtkfgplfllddhnaaGreatV415
import Derived.Test.YtkfgplfllddhnaaGreatV407
import Derived.Test.YtkfgplfllddhnaaGreatV411
import Derived.Test.YtkfgplfllddhnaaGreatV414
import Derived.Test.YtkfgplfllddhnaaGreatV402
import Derived.Test.YtkfgplfllddhnaaGreatV416
namespace Go.Proofs.YtkfgplfllddhnaaGreat
open Go.RowKit Go.Shelf
attribute [local go_sem] Oper.semAt_some
section
variable {P:Program} {F:Fence} {n:Nat}
theorem takeI {md:Region.Mode} {ops:Array Oper} {Q:Exit→Act→World→Prop} (i d:Nat) {oi:Oper} {v:Value} {fuel:Nat} {listed:Array Bool} {a a':Act} {w:World}
  (h:wpAnyIn F n P md ops Q fuel (listed.setIfInBounds i true) a' w) (hro:F.round=none:=by rfl)
  (hi:ops[i]? =some oi:=by rfl) (hd:oi.dst=some d:=by rfl) (hs:Region.noSelect ops=true:=by kernel_rfl) (hf:Region.free md ops listed i=true:=by kernel_rfl) (hr:(Region.ready md ops listed).contains i=true:=by kernel_rfl)
  (hQ: ∀c (a:Act) w,Q (.panic c) (a.put oi.dst v) w→Q (.panic c) a w:=by exact fun _ _ _ h=>h) (hw:Region.wanted oi (yielded ops a.tmps)=true:=by rfl)
  (hy: ∀w,(execOp a.eval oi).run P w= .ok (.value v) w:=by(intro wq;go_simp;try with_reducible rfl)) (hab: ∀w,oi.about P w a.eval=none:=by(intro wq;rfl))
  (ha:a.put (some d) v=a':=by(conv=>lhs;simp only[Act.put,List.setIfInBounds_toArray,List.set_cons_zero,List.set_cons_succ])):wpAnyIn F n P md ops Q (fuel+1) listed a w:=
 wpAnyIn_take hro hi hs hf hr hQ ⟨.inl ⟨hw,hy⟩,hab⟩ (by rw[hd,ha];exact h)
theorem takeJ {md:Region.Mode} {ops:Array Oper} {Q:Exit→Act→World→Prop} (i d:Nat) {oi:Oper} {fuel:Nat} {listed:Array Bool} {a a':Act} {w:World}
  (h:wpAnyIn F n P md ops Q fuel (listed.setIfInBounds i true) a' w) (hro:F.round=none:=by rfl)
  (hi:ops[i]? =some oi:=by rfl) (hd:oi.dst=some d:=by rfl) (hs:Region.noSelect ops=true:=by kernel_rfl) (hf:Region.free md ops listed i=true:=by kernel_rfl) (hr:(Region.ready md ops listed).contains i=true:=by kernel_rfl)
  (hQ: ∀c (a:Act) w,Q (.panic c) (a.put oi.dst undef) w→Q (.panic c) a w:=by exact fun _ _ _ h=>h) (hw:Region.wanted oi (yielded ops a.tmps)=false:=by rfl)
  (hab: ∀w,oi.about P w a.eval=none:=by(intro wq;rfl))
  (ha:a.put (some d) undef=a':=by(conv=>lhs;simp only[Act.put,List.setIfInBounds_toArray,List.set_cons_zero,List.set_cons_succ])):wpAnyIn F n P md ops Q (fuel+1) listed a w:=
 wpAnyIn_take hro hi hs hf hr hQ ⟨.inr ⟨hw,rfl⟩,hab⟩ (by rw[hd,ha];exact h)
theorem readyI {md:Region.Mode} {ops:Array Oper} {Q:Exit→Act→World→Prop} (i:Nat) {o:Oper} {fuel:Nat} {listed:Array Bool} {a:Act} {w:World}
  (h: ∀K':Act→World→Prop,Shut (∀a w,wpAnyIn F n P md ops Q fuel (listed.setIfInBounds i true) a w→K' a w)→Oper.wpIn F n P o a w K' Q)
  (ho:ops[i]? =some o:=by rfl) (hr:Region.ready md ops listed= [i]:=by kernel_rfl) (hw:Region.wanted o (yielded ops a.tmps)=true:=by rfl):wpAnyIn F n P md ops Q (fuel+1) listed a w:=
 wpAnyIn_ready hr (by simp) (AllReadyIn.cons ho (fun K' hK=>by rw[if_pos hw];exact h K' hK) AllReadyIn.nil)
theorem readyU {md:Region.Mode} {ops:Array Oper} {Q:Exit→Act→World→Prop} (i d:Nat) {o:Oper} {fuel:Nat} {listed:Array Bool} {a a':Act} {w:World}
  (h:wpAnyIn F n P md ops Q fuel (listed.setIfInBounds i true) a' w) (hF: ∀f,F.fn f:=by exact fun _=>trivial)
  (ho:ops[i]? =some o:=by rfl) (hd:o.dst=some d:=by rfl) (hr:Region.ready md ops listed= [i]:=by kernel_rfl) (hw:Region.wanted o (yielded ops a.tmps)=false:=by rfl)
  (ha:a.put (some d) undef=a':=by(conv=>lhs;simp only[Act.put,List.setIfInBounds_toArray,List.set_cons_zero,List.set_cons_succ])):wpAnyIn F n P md ops Q (fuel+1) listed a w:=
 wpAnyIn_ready hr (by simp) (AllReadyIn.cons ho (fun K' hK=>by rw[if_neg (by rw[hw];decide),hd,ha];exact⟨fun f _=>hF f,hK _ _ h⟩) AllReadyIn.nil)
theorem readyI2 {md:Region.Mode} {ops:Array Oper} {Q:Exit→Act→World→Prop} (i j:Nat) {o p:Oper} {fuel:Nat} {listed:Array Bool} {a:Act} {w:World}
  (h: ∀K':Act→World→Prop,Shut (∀a w,wpAnyIn F n P md ops Q fuel (listed.setIfInBounds i true) a w→K' a w)→Oper.wpIn F n P o a w K' Q)
  (h2: ∀K':Act→World→Prop,Shut (∀a w,wpAnyIn F n P md ops Q fuel (listed.setIfInBounds j true) a w→K' a w)→Oper.wpIn F n P p a w K' Q)
  (ho:ops[i]? =some o:=by rfl) (hp:ops[j]? =some p:=by rfl) (hr:Region.ready md ops listed= [i,j]:=by kernel_rfl) (hw:Region.wanted o (yielded ops a.tmps)=true:=by rfl) (hw2:Region.wanted p (yielded ops a.tmps)=true:=by rfl):wpAnyIn F n P md ops Q (fuel+1) listed a w:=
 wpAnyIn_ready hr (by simp) (AllReadyIn.cons ho (fun K' hK=>by rw[if_pos hw];exact h K' hK) (AllReadyIn.cons hp (fun K' hK=>by rw[if_pos hw2];exact h2 K' hK) AllReadyIn.nil))
end
theorem via {T R:Prop} (f:T→R) (t:T):R:=f t
theorem EntIn.narrow {O:Nat→Prop} {w:World} {v:Value} {es:Ents} (h:EntIn O w v es):EntIn (fun g=>O g∧¬XO w g) w v es:=by
 obtain⟨A,c,hv,hc,hn,hx⟩:=h
 refine⟨A,c,hv,hc,hn,fun i p hi=>?_⟩
 obtain⟨g,o,u,h1,h2,h3,h4,h5,h6⟩:=hx i p hi
 exact⟨g,o,u,h1,h2,⟨h3,xo_cell h4⟩,h4,h5,h6.narrow⟩
def cvv (x:Nat×Int):Array Value:= #[.int .i64 (x.1:Int)]
structure CPre (es:Ents) (_:Nat) (pre:List (Nat×Int)) (x:Nat×Int) (_:World):Prop where
 at_: ∃c,es[x.1]? =some (x.2,c)
 few:pre.length<es.length
theorem want_cons (p:Int) (x:Int×List Int) (es:Ents):ratWant (x::es) p=if candB p x.2=true then x.1::ratWant es p else ratWant es p:=by
 unfold ratWant
 rw[List.filter_cons]
 split <;> rfl
theorem want_len (p:Int) (es:Ents):(ratWant es p).length≤es.length:=by
 unfold ratWant
 rw[List.length_map]
 exact List.length_filter_le _ _
set_option maxRecDepth 100000 in
set_option maxHeartbeats 4000000 in
theorem cand_stops {O:Nat→Prop} (X0:Nat→Prop) (Bl Bp:Nat) (lv:Value) (es:Ents) (p:Int) (w:World) (hBl:w.cell? ⟨Bl,0,none⟩=some lv) (hBp:w.cell? ⟨Bp,0,none⟩=some (.int .i64 p)) (h:EntIn O w lv es) (ho:EntOk es) (hX0: ∀g,X0 g→¬O g∧g≠Bl∧g≠Bp):
  SeqM Tryz.prog 146 #[.pointer (some ⟨Bl,0,none⟩),.pointer (some ⟨Bp,0,none⟩)] cvv (CPre es) (fun _ W W'=>KpC X0 W W') (fun _ _ _=>True) (fun ys=>ys.map Prod.snd=ratWant es p) (fun _=>True) w:=by
 intro l J Jx W hW hJ hJx hY h0
 have hBl':=World.block_lt_of_cell? w _ hBl
 have hBp':=World.block_lt_of_cell? w _ hBp
 have e1:W.cell? ⟨Bl,0,none⟩=some lv:=(hW.cell (p:=⟨Bl,0,none⟩) hBl').trans hBl
 have HBP:=Lib.hid (show W.cell? ⟨Bp,0,none⟩=some (.int .i64 p)from(hW.cell (p:=⟨Bp,0,none⟩) hBp').trans hBp)
 have hzW:=hW.size
 have HE:=Lib.hid (h.below hW).narrow
 have HOK:=Lib.hid ho
 have HJ:=Lib.hid hJ
 have HY:=Lib.hid hY
 have HX0:=Lib.hid hX0
 have H0:=Lib.hid h0
 have hlen:=ho.len
 obtain⟨q,hq⟩: ∃q,litN p=q:=⟨_,rfl⟩
 have HNG:=Lib.hid (fun W=>lit_neg p W)
 rw[hq]at HNG
 have HQ:=Lib.hid hq
 obtain⟨A,c,rfl,hc,_,_⟩:=h
 clear hBl hBp hW hJ hJx hY hX0 h0 ho hq hBl'
 refine callsIn_of_wp Tryz.func146 rfl trivial ?_ rfl
 simp only[Tryz.ntmps146,List.size_toArray,List.length_cons,List.length_nil,Nat.reduceAdd,Nat.reduceSub,Array.replicate_succ,Array.replicate_zero,List.push_toArray,List.append_toArray,List.nil_append,List.cons_append]
 gi_wp2
 clear e1
 gi_loopw [8] (fun i wr=> ∃(k:Nat) (pre:List (Nat×Int)),k≤es.length∧i= .int .i64 k∧Hid (pre.length≤k)∧Hid (pre.map Prod.snd++ratWant (es.drop k) p=ratWant es p)∧Hid (KpC X0 W wr)∧Hid (J pre wr)) (fun i _=>es.length-(intOf i).toNat)
 case atStart=>exact⟨0,[],Nat.zero_le _,rfl,Lib.hid (Nat.le_refl _),Lib.hid rfl,Lib.hid (KpC.refl _ _),H0⟩
 case round=>
  obtain⟨k,pre,hk,rfl,HPL,HP,HK,HJS⟩:=hrel
  by_cases hlt:k<es.length
  ·obtain⟨x,hxk⟩:=getElem_of hlt
   have hin:=HE.out.kept HK.out.kept (fun g hg ho=>ho.elim (fun h=>(HX0.out g h).1 hg.1) hg.2)
   obtain⟨A',c',hAc,_,_,hxs⟩:=hin
   simp only[Value.slice.injEq,true_and]at hAc
   obtain⟨rfl,rfl⟩:=hAc
   obtain⟨g,o,u,rfl,hg,_,d0,d1,hu⟩:=hxs k x hxk
   have ep:wr.cell? ⟨Bp,0,none⟩=some (.int .i64 p):=(HK.out.kept.cell (p:=⟨Bp,0,none⟩) (Nat.lt_of_lt_of_le hBp' hzW) (fun h=>h.elim (fun h=>(HX0.out _ h).2.2 rfl) (xo_cell HBP.out))).trans HBP.out
   have hxm:=List.mem_of_getElem? hxk
   have hxl:=clause_len (HOK.out.cls x hxm)
   have HXK:=Lib.hid hxk
   have HDK:=Lib.hid (show es.drop k=x::es.drop (k+1)from by
    rw[List.drop_eq_getElem_cons hlt]
    rw[List.getElem?_eq_getElem hlt]at hxk
    rw[Option.some.inj hxk])
   have HP2:=Lib.hid (show pre.map Prod.snd++(if candB p x.2=true then x.1::ratWant (es.drop (k+1)) p else ratWant (es.drop (k+1)) p)=ratWant es p from by
    rw[←want_cons,←HDK.out]
    exact HP.out)
   obtain⟨id,d⟩:=x
   simp only at d0 d1 hu hxl HP2
   obtain⟨W1,W2,W3,hW1,hW2,hW3,f0,f1,f2,y0,y1,y2,hbx,hb3⟩:=two_new wr (.int .i64 0) (.slice none 0 0) (.int .i64 id) u 65
   have hb3D:=hb3.trans ((mx_drew W3).mono hb3.size)
   obtain⟨wD,hwD⟩: ∃z,W3.drew=z:=⟨_,rfl⟩
   rw[hwD]at hb3D
   have hbxD:wD.heap[wr.heap.size]? =some (.cells #[.int .i64 id,u] 65 (0,0)):=by rw[←hwD];exact hbx
   have z1:=mx_cell (j:=1) hbxD
   have epD:wD.cell? ⟨Bp,0,none⟩=some (.int .i64 p):=(hb3D.cell (p:=⟨Bp,0,none⟩) (World.block_lt_of_cell? wr _ ep)).trans ep
   have HCT:=Lib.hid (contains_c u d q wD (hu.below hb3D) (by omega))
   have HAL:=Lib.hid (always_any u d wD (hu.below hb3D) (by omega))
   have HKD:=Lib.hid (HK.out.trans (KpC.of_below (X:=X0) hb3D))
   have HJD:=Lib.hid (own_from_below' HJ.out HJS.out hb3D)
   obtain⟨Au,cu,rfl,_⟩:=hu
   clear hxk hxs hxm hbx hbxD hb3D
   gi_wp2_with fail
   clear hW1 hW2 hb3 d0 d1 f0 f1 f2 y0 y1 y2 ep
   refine wpIn_region_any (by kernel_rfl) ?_
   change wpAnyIn _ _ _ _ _ _ _ _ _ (World.drew _)
   rw[hwD]
   clear hW3 hwD W1 W2 W3
   apply via
   ·intro TAIL
    refine takeI 0 13 ?_
    refine readyI2 1 2 (fun K hK=>?_) (fun K hK=>?_)
    ·go_simp
     refine hK.out _ _ ?_
     refine readyI 2 (fun K hK=>?_)
     go_simp
     refine hK.out _ _ ?_
     refine readyI 3 (fun K hK=>?_)
     go_simp
     refine⟨trivial,?_⟩
     refine(callsIn_wide.2 (HNG.out _)).mono ?_
     rintro e w' ⟨rfl,rfl⟩
     refine hK.out _ _ ?_
     exact TAIL
    ·go_simp
     refine hK.out _ _ ?_
     refine readyI2 1 3 (fun K hK=>?_) (fun K hK=>?_)
     ·go_simp
      refine hK.out _ _ ?_
      refine readyI 3 (fun K hK=>?_)
      go_simp
      refine⟨trivial,?_⟩
      refine(callsIn_wide.2 (HNG.out _)).mono ?_
      rintro e w' ⟨rfl,rfl⟩
      refine hK.out _ _ ?_
      exact TAIL
     ·go_simp
      refine⟨trivial,?_⟩
      refine(callsIn_wide.2 (HNG.out _)).mono ?_
      rintro e w' ⟨rfl,rfl⟩
      refine hK.out _ _ ?_
      refine readyI 1 (fun K hK=>?_)
      go_simp
      refine hK.out _ _ ?_
      exact TAIL
   ·refine readyI 4 (fun K hK=>?_)
    go_simp
    refine⟨trivial,?_⟩
    refine(callsIn_wide.2 HCT.out).mono ?_
    rintro e w' ⟨rfl,rfl⟩
    refine hK.out _ _ ?_
    clear hK
    have hcd:candB p d=(d.contains q&& !alwL d):=by unfold candB;rw[HQ.out]
    rw[hcd]at HP2
    obtain⟨ct,hct⟩: ∃b,d.contains q=b:=⟨_,rfl⟩
    obtain⟨al,hal⟩: ∃b,alwL d=b:=⟨_,rfl⟩
    rw[hal]at HAL HP2
    rw[hct]at HP2⊢
    clear hcd hct hal HCT
    cases ct with
    | false=>
     have HP3:=Lib.hid (show pre.map Prod.snd++ratWant (es.drop (k+1)) p=ratWant es p from HP2.out)
     clear HP2
     refine takeI 5 18 ?_
     refine takeJ 6 19 ?_
     refine takeJ 7 20 ?_
     refine readyU 8 21 ?_
     refine takeJ 9 22 ?_
     refine takeI 10 23 ?_
     refine takeI 11 24 ?_
     refine takeJ 12 25 ?_
     refine takeJ 13 26 ?_
     refine readyU 14 27 ?_
     refine takeJ 15 28 ?_
     refine takeI 16 29 ?_
     refine wpAnyIn_done (by kernel_rfl) ?_ _
     gi_wp2_with fail
     go_roundw
     case rel=>exact⟨k+1,pre,by omega,by go_num,Lib.hid (by have:=HPL.out;omega),HP3,HKD,HJD⟩
     case measure=>simp[intOf];omega
    | true=>
     refine takeI 5 18 ?_
     refine takeI 6 19 ?_
     refine readyI 7 (fun K hK=>?_)
     go_simp
     refine hK.out _ _ ?_
     clear hK
     refine readyI 8 (fun K hK=>?_)
     go_simp
     refine⟨trivial,?_⟩
     refine(callsIn_wide.2 HAL.out).mono ?_
     rintro e wA ⟨rfl,hbA⟩
     refine hK.out _ _ ?_
     have HKA:=Lib.hid (HKD.out.trans (KpC.of_below (X:=X0) hbA))
     have HJA:=Lib.hid (own_from_below' HJ.out HJD.out hbA)
     clear hK hbA HAL
     cases al with
     | true=>
      have HP3:=Lib.hid (show pre.map Prod.snd++ratWant (es.drop (k+1)) p=ratWant es p from HP2.out)
      clear HP2
      refine takeI 9 22 ?_
      refine takeI 10 23 ?_
      refine takeI 11 24 ?_
      refine takeJ 12 25 ?_
      refine takeJ 13 26 ?_
      refine readyU 14 27 ?_
      refine takeJ 15 28 ?_
      refine takeI 16 29 ?_
      refine wpAnyIn_done (by kernel_rfl) ?_ _
      gi_wp2_with fail
      go_roundw
      case rel=>exact⟨k+1,pre,by omega,by go_num,Lib.hid (by have:=HPL.out;omega),HP3,HKA,HJA⟩
      case measure=>simp[intOf];omega
     | false=>
      have HP3:=Lib.hid (show(pre++ [(k,id)]).map Prod.snd++ratWant (es.drop (k+1)) p=ratWant es p from by
       rw[←HP2.out,List.map_append,List.append_assoc]
       rfl)
      clear HP2
      refine takeI 9 22 ?_
      refine takeI 10 23 ?_
      refine takeI 11 24 ?_
      refine takeI 12 25 ?_
      refine takeI 13 26 ?_
      obtain⟨fn,tmps,assign,body,hy,hR⟩:=yield_any 8 (HY.out pre (k,id) wA HJA.out ⟨⟨d,HXK.out⟩,by have:=HPL.out;omega⟩)
      dsimp only[cvv]at hy
      have HRR:=Lib.hid hR
      clear hR
      refine readyI 14 (fun K hK=>?_)
      go_simp
      refine HRR.out.mono ?_
      rintro e W5 (⟨rfl,hJ5,hk5⟩|⟨rfl,hJx5,_⟩)
      ·refine hK.out _ _ ?_
       have HJ5:=Lib.hid hJ5
       have HK5:=Lib.hid (HKA.out.trans hk5)
       clear hK hJ5 hk5 hy
       refine takeI 15 28 ?_
       refine takeI 16 29 ?_
       refine wpAnyIn_done (by kernel_rfl) ?_ _
       gi_wp2_with fail
       go_roundw
       case rel=>exact⟨k+1,pre++ [(k,id)],by omega,by go_num,Lib.hid (by have:=HPL.out;simp;omega),HP3,HK5,HJ5⟩
       case measure=>simp[intOf];omega
      ·refine hK.out _ _ ?_
       clear hK hy
       refine takeI 15 28 ?_
       refine takeI 16 29 ?_
       refine wpAnyIn_done (by kernel_rfl) ?_ _
       gi_wp2
       refine bodyPost_ret (results_none rfl _ _ _) rfl ?_
       exact⟨⟨_,rfl⟩,.inr ⟨_,trivial,hJx5⟩⟩
  ·obtain rfl:k=es.length:=by omega
   gi_wp2
   go_end0
   refine⟨⟨_,rfl⟩,.inl ⟨pre,?_,HJS.out⟩⟩
   have:=HP.out
   rw[List.drop_length]at this
   have e:ratWant [] p= []:=rfl
   rwa [e,List.append_nil]at this
end Go.Proofs.YtkfgplfllddhnaaGreat
namespace Go.Proofs.YtkfgplfllddhnaaGreat
open Go.RowKit Go.Maps
theorem restGo_step {p:Int} {asg out c:List Int} {j:Nat} {l:Int} (h:c[j]? =some l):restGo p asg out (c.drop j)=if l=litN p then restGo p asg out (c.drop (j+1))else if asg.contains l=true then([],false)else restGo p asg (out++ [litN l]) (c.drop (j+1)):=by
 have hlt:=(List.getElem?_eq_some_iff.1 h).1
 rw[List.drop_eq_getElem_cons hlt]
 rw[List.getElem?_eq_getElem hlt]at h
 rw[Option.some.inj h]
 rfl
set_option maxRecDepth 100000 in
set_option maxHeartbeats 4000000 in
theorem rat_rest {Oc Oa:Nat→Prop} (cv av:Value) (p:Int) (c asg:List Int) (w:World) (hc:IntsIn Oc w cv c) (ha:IntsIn Oa w av asg) (hcl:c.length≤10000) (hal:asg.length≤1000000):
  Calls Tryz.prog 96 #[cv,.int .i64 p,av] w fun e w'=> ∃u,e= .returned (.tuple #[u,.bool (restGo p asg [] c).2])∧w'.ownsRow w.heap.size 58 1 u (restGo p asg [] c).1.length ((restGo p asg [] c).1.map (Value.int .i64))∧Below w.heap.size w w':=by
 obtain⟨i0,hi,hz0,hz1,hz2⟩:=info_parts cinfo_lit
 have HC:=Lib.hid hc
 have HA:=Lib.hid ha
 obtain⟨R,hR⟩: ∃R,restGo p asg [] c=R:=⟨_,rfl⟩
 rw[hR]
 have HR:=Lib.hid (show R=restGo p asg [] (c.drop 0)from by rw[List.drop_zero];exact hR.symm)
 obtain⟨Ac,cc,rfl,_⟩:=hc
 obtain⟨Aa,ca,rfl,_⟩:=ha
 obtain⟨q,hq⟩: ∃q,litN p=q:=⟨_,rfl⟩
 have HNP:=Lib.hid (fun W=>lit_neg p W)
 rw[hq]at HNP
 have HQ:=Lib.hid hq
 clear hR hq
 go_enter Tryz.func96,Tryz.ntmps96
 go_wp2_with fail
 go_loopw [8,13] (fun v i wr=> ∃(j:Nat) (out:List Int),j≤c.length∧i= .int .i64 j∧out.length≤j∧Hid (wr.ownsRow w.heap.size 58 1 v out.length (out.map (Value.int .i64)))∧Hid (R=restGo p asg out (c.drop j))∧Hid (Below w.heap.size w wr)) (fun _ i _=>c.length-(intOf i).toNat)
 case atStart=>exact⟨0,[],Nat.zero_le _,rfl,Nat.le_refl _,Lib.hid (World.ownsRow_nil _ _ _ _),HR,Lib.hid (Below.refl _ _)⟩
 case round=>
  obtain⟨j,out,hj,rfl,hol,HO,HRs,HB⟩:=hrel
  obtain⟨Ao,co,rfl,_⟩:=mx_slice HO.out
  by_cases hlt:j<c.length
  ·obtain⟨l,hl⟩:=getElem_of hlt
   obtain⟨A',c',hAc,_,_,hxs⟩:=HC.out.below HB.out
   simp only[Value.slice.injEq,true_and]at hAc
   obtain⟨rfl,rfl⟩:=hAc
   obtain⟨g,o,rfl,hg,_,d1⟩:=hxs j l hl
   have hst:=HRs.out.trans (restGo_step hl)
   rw[HQ.out]at hst
   clear hl hxs
   by_cases h1:l=q
   ·have q1:(l==q)=true:=by simpa using h1
    have HST:=Lib.hid (hst.trans (if_pos h1))
    clear hst h1
    go_wp2_with fail
    refine(HNP.out _).mono ?_
    rintro e w' ⟨rfl,rfl⟩
    go_wp2_with fail
    go_roundw
    case rel=>exact⟨j+1,out,by omega,by go_num,by omega,HO,HST,HB⟩
    case measure=>simp[intOf];omega
   ·have q1:(l==q)=false:=by simpa using h1
    have hst2:=hst.trans (if_neg h1)
    have HCT:=Lib.hid (contains_l _ asg l wr (HA.out.below HB.out) (by omega))
    clear hst h1
    cases hcn:asg.contains l with
    | true=>
     have HST:=Lib.hid (hst2.trans (if_pos hcn))
     rw[hcn]at HCT
     clear hst2 hcn
     go_wp2_with fail
     refine(HNP.out _).mono ?_
     rintro e w' ⟨rfl,rfl⟩
     go_wp2_with fail
     refine HCT.out.mono ?_
     rintro e w' ⟨rfl,rfl⟩
     go_wp2_with fail
     go_ret2
     rw[HST.out]
     exact⟨_,rfl,World.ownsRow_nil _ _ _ _,HB.out⟩
    | false=>
     have HST:=Lib.hid (hst2.trans (if_neg (by rw[hcn];decide)))
     rw[hcn]at HCT
     have HNL:=Lib.hid (fun W=>lit_neg l W)
     obtain⟨m,hm⟩: ∃m,litN l=m:=⟨_,rfl⟩
     rw[hm]at HNL HST
     clear hst2 hcn hm
     go_wp2_with fail
     refine(HNP.out _).mono ?_
     rintro e w' ⟨rfl,rfl⟩
     go_wp2_with fail
     refine HCT.out.mono ?_
     rintro e w' ⟨rfl,rfl⟩
     go_wp2_with fail
     refine(HNL.out _).mono ?_
     rintro e w' ⟨rfl,rfl⟩
     go_wp2_with (at_builtin;refine wpList_append_own_at _ rfl _ _ 34 rfl w.heap.size 58 i0 (.int .i64 0) 1 8 Tryz.underlying34 hi hz0 hz1 hz2 rfl (by decide) _ out.length _ rfl (own_below HO.out (mx_al wr _)) ⟨wr.heap.size,0,none⟩ 1 1 [.int .i64 m] rfl rfl (cell_one_new' _ _ _) (by simp[Value.oneCell']) (by unfold maxLen;omega) (by omega) (by have:=HB.out.size;simp;omega) ?_;intro v' w2 hown hgrow hnl hat)
     obtain⟨Av,kv,rfl,_⟩:=mx_slice hown
     have hb2:Below w.heap.size w w2:=(HB.out.trans ((mx_al wr (.cells #[.int .i64 m] 58)).mono HB.out.size)).grown hgrow (by have:=HB.out.size;simp;omega) (fun g hg=>(own_lt HO.out g hg).1)
     have HO2:=Lib.hid (show w2.ownsRow w.heap.size 58 1 (.slice Av (out.length+1) kv) (out++ [m]).length ((out++ [m]).map (Value.int .i64))from by
      rw[List.length_append,List.map_append]
      exact hown)
     have HB2:=Lib.hid hb2
     clear hown hgrow hnl hat hb2
     go_wp2_with fail
     go_roundw
     case rel=>exact⟨j+1,out++ [m],by omega,by go_num,by simp;omega,HO2,HST,HB2⟩
     case measure=>simp[intOf];omega
  ·obtain rfl:j=c.length:=by omega
   have HST:=Lib.hid (show R=(out,true)from by rw[HRs.out,List.drop_length];rfl)
   go_wp2_with fail
   go_ret2
   rw[HST.out]
   exact⟨_,rfl,HO.out,HB.out⟩
end Go.Proofs.YtkfgplfllddhnaaGreat
