/- The iterator over IDs that are not there (package emit: none). -/
import Derived.Test.YteigjcichmpejaaDoorV110
import Derived.Test.YteigjcichmpejaaDoorV113
import Derived.RangeFuncNested
import Derived.RangeFuncBound
import Derived.RangeFuncCalls
import Derived.RangeFuncLeaves
import Derived.RangeFuncBox
import Derived.Shelf.Abstract
import Derived.Shelf.RegionOpen
import Derived.OwnWalkIn
import Derived.TacticsInMore
import Derived.LoopNIn
import Derived.LoopIn
import Derived.Maps.OwnIn
namespace Go.Proofs.YteigjcichmpejaaDoor
open Go.RowKit Go.Shelf Go.Maps
attribute [local go_sem] Oper.semAt_some
theorem LogAt.narrow {O:Nat→Prop} {w:World} {b:Nat} {L:ELog} (h:LogAt O w b L):LogAt (fun g=>O g∧¬XO w g) w b L:=by
 obtain⟨mb,sv,ms,h⟩:=h
 refine⟨mb,sv,ms,fun g hg=>h.own g hg.1,⟨h.inb,xo_cells h.block⟩,⟨h.inm,?_⟩,h.block,h.map,h.row,fun g hg=>⟨h.rowb g hg,?_⟩,h.steps,fun m hm=>?_,h.apart⟩
 ·obtain⟨D,⟨es,cl,hb,_⟩,_⟩:=h.map
  rintro ⟨o,ho,_,hw⟩
  rw[hb]at ho
  cases ho
  cases hw
 ·obtain⟨c,hc⟩:=own_type h.row g hg
  exact xo_cells hc
 ·have hm:=h.each m hm
  exact⟨hm.lits,fun g hg=>⟨hm.litb g hg,by obtain⟨c,hc⟩:=own_type hm.lits g hg;exact xo_cells hc⟩,hm.hints,fun g hg=>⟨hm.block g hg,by obtain⟨c,hc⟩:=own_type hm.hints g hg;exact xo_cells hc⟩⟩
def badGo (L:ELog):List Int→List Int→List Int
 | _,[]=> []
 | seen,x::r=>if !L.has x||seen.contains x then x::badGo L (seen++ [x]) r else badGo L (seen++ [x]) r
theorem goneF_put (l:List Int) (x:Int):(fun z=>if z=x then(1:Int)else goneF l z)=goneF (l++ [x]):=by
 funext z
 unfold goneF
 by_cases h:z=x
 ·simp[h]
 ·simp[h]
theorem goneF_one (l:List Int) (x:Int):(goneF l x==1)=l.contains x:=by
 unfold goneF
 cases l.contains x <;> simp
set_option maxRecDepth 100000 in
set_option maxHeartbeats 2000000 in
theorem none1_in {O Oi:Nat→Prop} (l Bi Bl b:Nat) (L:ELog) (ids:List Int) (iv:Value) (J Jx:List Int→World→Prop) (W:World) (hJ:AbidesFrom W.heap.size J)
  (hY: ∀pre x W1,J pre W1→pre.length<ids.length→YieldAt Fence.wide 7 Tryd.prog l #[.int .i64 x] W1 fun e W'=>
   (e= .returned (.bool true)∧J (pre++ [x]) W'∧KpC (fun _=>False) W1 W')∨(e= .returned (.bool false)∧Jx (pre++ [x]) W'))
  (hBi:W.cell? ⟨Bi,0,none⟩=some iv) (hBl:W.cell? ⟨Bl,0,none⟩=some (.pointer (some ⟨b,0,none⟩))) (hi:IntsIn Oi W iv ids) (hlen:ids.length≤140737488355328) (hwf: ∀x∈ids,(Lit.int .i64 x).wf=true) (hL:LogAt O W b L) (h0:J [] W):
  CallsIn Fence.wide 8 Tryd.prog 36 #[.func (.yield l) #[] #[],.pointer (some ⟨Bi,0,none⟩),.pointer (some ⟨Bl,0,none⟩)] W fun e W'=>(∃v,e= .returned v)∧
   ((∃ys,ys=badGo L [] ids∧J ys W')∨(∃pre,(pre <+: badGo L [] ids∧pre≠ [])∧Jx pre W')):=by
 have hmm:=@run_makeMap Tryd.prog
 have hBi':=World.block_lt_of_cell? W _ hBi
 have hBl':=World.block_lt_of_cell? W _ hBl
 obtain⟨A,c,rfl,hc,hn,hx⟩:=hi
 have HN:=Lib.hid (show IntsIn Oi W (.slice A ids.length c) ids from⟨A,c,rfl,hc,hn,hx⟩)
 have HBI:=Lib.hid hBi
 have HBL:=Lib.hid hBl
 have HLG:=Lib.hid hL
 have HJ:=Lib.hid hJ
 have HY:=Lib.hid hY
 have HWF:=Lib.hid hwf
 have HM:=Lib.hid (MapAt.made W)
 have H0:=Lib.hid h0
 have HBA:=Lib.hid ((Below.refl W.heap.size W).alloc (Nat.le_refl _) (.map #[] 0))
 have hcB:(W.alloc (.map #[] 0)).cell? ⟨Bi,0,none⟩=some (.slice A ids.length c):=(HBA.out.cell (p:=⟨Bi,0,none⟩) hBi').trans hBi
 clear hn hx hBi hBl hL hJ hY hwf h0
 refine callsIn_of_wp Tryd.func36 rfl trivial ?_ rfl
 simp only[Tryd.ntmps36,List.size_toArray,List.length_cons,List.length_nil,Nat.reduceAdd,Nat.reduceSub,Array.replicate_succ,Array.replicate_zero,List.push_toArray,List.append_toArray,List.nil_append,List.cons_append]
 gi_wp2
 gi_loopw [10] (fun i wr=> ∃(k:Nat) (pre:List Int),k≤ids.length∧i= .int .i64 k∧Hid (pre.length≤k)∧Hid (pre++badGo L (ids.take k) (ids.drop k)=badGo L [] ids)∧Hid (KpC (fun g=>g=W.heap.size) (W.alloc (.map #[] 0)) wr)∧Hid (MapAt wr W.heap.size k (goneF (ids.take k)))∧Hid (J pre wr))
  (fun i _=>ids.length-(intOf i).toNat)
 case atStart=>
  refine⟨0,[],Nat.zero_le _,rfl,Lib.hid (Nat.le_refl _),Lib.hid rfl,Lib.hid (KpC.refl _ _),HM,Lib.hid ?_⟩
  exact HJ.out [] W _ none H0.out (World.grownBy_alloc W _ none) (fun r e=>by cases e)
 case round=>
  obtain⟨k,pre,hk,rfl,HPL,HPE,HK,HMP,HJS⟩:=hrel
  by_cases hlt:k<ids.length
  ·obtain⟨x,hxk⟩:=getElem_of hlt
   have hkk:=HK.out.kept
   have hK0:Kept (fun g=>g=W.heap.size∨XO (W.alloc (.map #[] 0)) g) W wr:=(Kept.of_below HBA.out).trans (O:=fun g=>g=W.heap.size∨XO (W.alloc (.map #[] 0)) g) hkk (fun _ _ h=>h)
   have hxo: ∀g,g<W.heap.size→¬XO W g→¬(g=W.heap.size∨XO (W.alloc (.map #[] 0)) g):=fun g hg hn ho=>by
    rcases ho with e|⟨o,ho,h1,h2⟩
    ·omega
    ·rw[Below.heap_alloc W _ g hg]at ho
     exact hn ⟨o,ho,h1,h2⟩
   have hin:=HN.out.narrow
   have hLr:LogAt (fun g=>O g∧¬XO W g) wr b L:=by
    obtain⟨mb,sv,ms,hl⟩:=HLG.out.narrow
    exact⟨mb,sv,ms,hl.kept (hK0.mono (O':=fun g=> ¬g<W.heap.size∨XO W g) (fun g hg ho=>by
     apply Classical.byContradiction
     intro hn
     simp only[not_or]at hn
     exact hxo g hg hn.2 ho)) (fun g hg ho=>ho.elim (fun h=>h (hl.own g hg)) hg.2)⟩
   obtain⟨A',c',hAc,_,_,hxs⟩:=hin
   simp only[Value.slice.injEq,true_and]at hAc
   obtain⟨rfl,rfl⟩:=hAc
   obtain⟨g,o,rfl,hg,hgo,d0⟩:=hxs k x hxk
   have d1:wr.cell? ⟨g,o+k,none⟩=some (.int .i64 x):=(hK0.cell (p:=⟨g,o+k,none⟩) hg (hxo g hg hgo.2)).trans d0
   have d2:wr.cell? ⟨Bl,0,none⟩=some (.pointer (some ⟨b,0,none⟩)):=(hK0.cell (p:=⟨Bl,0,none⟩) hBl' (hxo Bl hBl' (xo_cell HBL.out))).trans HBL.out
   have hwx:=HWF.out x (List.mem_of_getElem? hxk)
   have hlk:=HMP.out.lookup hwx
   have hg1:=goneF_one (ids.take k) x
   have hdk:ids.drop k=x::ids.drop (k+1):=by
    rw[List.drop_eq_getElem_cons hlt]
    rw[List.getElem?_eq_getElem hlt]at hxk
    rw[Option.some.inj hxk]
   have htk:ids.take (k+1)=ids.take k++ [x]:=by rw[List.take_add_one,hxk];rfl
   have hhas:=log_has b L x wr hLr hwx
   have HTK:=Lib.hid htk
   have HDK:=Lib.hid hdk
   have HWX:=Lib.hid hwx
   have hone:(Lit.int .i64 1).wf=true:=by decide
   clear hkk hK0 hxo hLr hxs hxk hg hgo d0
   have HNEWS:True:=trivial
   cases hhx:L.has x with
   | false=>
    rw[hhx]at hhas
    have HH:=Lib.hid hhas
    clear hhas hg1
    have hbad:badGo L (ids.take k) (ids.drop k)=x::badGo L (ids.take (k+1)) (ids.drop (k+1)):=by
     rw[hdk,htk]
     simp only[badGo]
     rw[if_pos (by rw[hhx];rfl)]
    have HBD:=Lib.hid hbad
    obtain⟨fn,tmps,assign,body,hy,hR⟩:=HY.out pre x wr HJS.out (by have:=HPL.out;omega)
    have HR:=Lib.hid hR
    have HHX:=Lib.hid hhx
    clear hhx hbad hR hdk htk hwx HNEWS
    gi_wp2_with fail
    refine⟨trivial,?_⟩
    refine(callsIn_wide.2 HH.out).mono ?_
    rintro e wy ⟨rfl,rfl⟩
    gi_wp2_with fail
    refine HR.out.mono ?_
    rintro e W3 (⟨rfl,hJ3,hk3⟩|⟨rfl,hJx3⟩)
    ·have hm3:MapAt W3 W.heap.size k (goneF (ids.take k)):=HMP.out.kept hk3.kept (by
      rintro (h|⟨o,ho,_,h2⟩)
      ·exact h
      ·obtain⟨D,⟨es,cl,hb,_⟩,_⟩:=HMP.out
       rw[hb]at ho
       cases ho
       cases h2)
     have HJ3:=Lib.hid hJ3
     have HK3:=Lib.hid hk3
     have HM3:=Lib.hid hm3
     clear hJ3 hk3 hm3 hlk hy
     gi_wp2_with (gi_at_mapUpdate;refine wpListIn_put HM3.out rfl _ _ _ rfl rfl (by unfold maxLen;omega) x 1 rfl rfl HWX.out rfl ?_;intro w4 hm4 hg4)
     have hm4':MapAt w4 W.heap.size (k+1) (goneF (ids.take (k+1))):=by rw[HTK.out,←goneF_put];exact hm4
     have hJ4:J (pre++ [x]) w4:=HJ.out _ W3 w4 (some W.heap.size) HJ3.out hg4 (fun r e=>by
      cases e
      obtain⟨D,⟨es,cl,hb,_⟩,_⟩:=HM3.out
      exact⟨Nat.le_refl _,_,hb,rfl⟩)
     have hk4:KpC (fun g=>g=W.heap.size) (W.alloc (.map #[] 0)) w4:=(HK.out.trans (HK3.out.mono (fun _ _ h=>h.elim))).trans ((KpC.of_grown hg4).mono (fun g _ h=>by cases h;rfl))
     have HM4:=Lib.hid hm4'
     have HJ4:=Lib.hid hJ4
     have HK4:=Lib.hid hk4
     clear hm4 hm4' hJ4 hk4 hg4
     gi_wp2
     go_roundw
     case rel=>exact⟨k+1,pre++ [x],by omega,by go_num,Lib.hid (by have:=HPL.out;simp;omega),Lib.hid (by rw[←HPE.out,HBD.out];simp),HK4,HM4,HJ4⟩
     case measure=>simp[intOf];omega
    ·gi_wp2
     refine bodyPost_ret (results_none rfl _ _ _) rfl ?_
     refine⟨⟨_,rfl⟩,.inr ⟨pre++ [x],⟨?_,by simp⟩,hJx3⟩⟩
     rw[←HPE.out,HBD.out]
     exact⟨_,by rw[List.append_assoc];rfl⟩
   | true=>
    rw[hhx]at hhas
    have HH:=Lib.hid hhas
    clear hhas
    cases hs:(ids.take k).contains x with
    | true=>
     rw[hs]at hg1
     have hbad:badGo L (ids.take k) (ids.drop k)=x::badGo L (ids.take (k+1)) (ids.drop (k+1)):=by
      rw[hdk,htk]
      simp only[badGo]
      rw[if_pos (by rw[hs];simp)]
     have HBD:=Lib.hid hbad
     obtain⟨fn,tmps,assign,body,hy,hR⟩:=HY.out pre x wr HJS.out (by have:=HPL.out;omega)
     have HR:=Lib.hid hR
     clear hhx hs hbad hR hdk htk hwx HNEWS
     gi_wp2_with fail
     refine⟨trivial,?_⟩
     refine(callsIn_wide.2 HH.out).mono ?_
     rintro e wy ⟨rfl,rfl⟩
     gi_wp2_with fail
     refine HR.out.mono ?_
     rintro e W3 (⟨rfl,hJ3,hk3⟩|⟨rfl,hJx3⟩)
     ·have hm3:MapAt W3 W.heap.size k (goneF (ids.take k)):=HMP.out.kept hk3.kept (by
       rintro (h|⟨o,ho,_,h2⟩)
       ·exact h
       ·obtain⟨D,⟨es,cl,hb,_⟩,_⟩:=HMP.out
        rw[hb]at ho
        cases ho
        cases h2)
      have HJ3:=Lib.hid hJ3
      have HK3:=Lib.hid hk3
      have HM3:=Lib.hid hm3
      clear hJ3 hk3 hm3 hlk hy
      gi_wp2_with (gi_at_mapUpdate;refine wpListIn_put HM3.out rfl _ _ _ rfl rfl (by unfold maxLen;omega) x 1 rfl rfl HWX.out rfl ?_;intro w4 hm4 hg4)
      have hm4':MapAt w4 W.heap.size (k+1) (goneF (ids.take (k+1))):=by rw[HTK.out,←goneF_put];exact hm4
      have hJ4:J (pre++ [x]) w4:=HJ.out _ W3 w4 (some W.heap.size) HJ3.out hg4 (fun r e=>by
       cases e
       obtain⟨D,⟨es,cl,hb,_⟩,_⟩:=HM3.out
       exact⟨Nat.le_refl _,_,hb,rfl⟩)
      have hk4:KpC (fun g=>g=W.heap.size) (W.alloc (.map #[] 0)) w4:=(HK.out.trans (HK3.out.mono (fun _ _ h=>h.elim))).trans ((KpC.of_grown hg4).mono (fun g _ h=>by cases h;rfl))
      have HM4:=Lib.hid hm4'
      have HJ4:=Lib.hid hJ4
      have HK4:=Lib.hid hk4
      clear hm4 hm4' hJ4 hk4 hg4
      gi_wp2
      go_roundw
      case rel=>exact⟨k+1,pre++ [x],by omega,by go_num,Lib.hid (by have:=HPL.out;simp;omega),Lib.hid (by rw[←HPE.out,HBD.out];simp),HK4,HM4,HJ4⟩
      case measure=>simp[intOf];omega
     ·gi_wp2
      refine bodyPost_ret (results_none rfl _ _ _) rfl ?_
      refine⟨⟨_,rfl⟩,.inr ⟨pre++ [x],⟨?_,by simp⟩,hJx3⟩⟩
      rw[←HPE.out,HBD.out]
      exact⟨_,by rw[List.append_assoc];rfl⟩
    | false=>
     rw[hs]at hg1
     have hgood:badGo L (ids.take k) (ids.drop k)=badGo L (ids.take (k+1)) (ids.drop (k+1)):=by
      rw[hdk,htk]
      simp only[badGo]
      rw[if_neg (by rw[hhx,hs];decide)]
     have HBD:=Lib.hid hgood
     clear hhx hs hgood hdk htk hwx HNEWS
     gi_wp2_with fail
     refine⟨trivial,?_⟩
     refine(callsIn_wide.2 HH.out).mono ?_
     rintro e wy ⟨rfl,rfl⟩
     gi_wp2_with fail
     refine⟨fun _ h=>(by cases h),?_⟩
     gi_wp2_with (gi_at_mapUpdate;refine wpListIn_put HMP.out rfl _ _ _ rfl rfl (by unfold maxLen;omega) x 1 rfl rfl HWX.out rfl ?_;intro w4 hm4 hg4)
     have hm4':MapAt w4 W.heap.size (k+1) (goneF (ids.take (k+1))):=by rw[HTK.out,←goneF_put];exact hm4
     have hJ4:J pre w4:=HJ.out _ wr w4 (some W.heap.size) HJS.out hg4 (fun r e=>by
      cases e
      obtain⟨D,⟨es,cl,hb,_⟩,_⟩:=HMP.out
      exact⟨Nat.le_refl _,_,hb,rfl⟩)
     have hk4:KpC (fun g=>g=W.heap.size) (W.alloc (.map #[] 0)) w4:=HK.out.trans ((KpC.of_grown hg4).mono (fun g _ h=>by cases h;rfl))
     have HM4:=Lib.hid hm4'
     have HJ4:=Lib.hid hJ4
     have HK4:=Lib.hid hk4
     clear hm4 hm4' hJ4 hk4 hg4
     gi_wp2
     go_roundw
     case rel=>exact⟨k+1,pre,by omega,by go_num,Lib.hid (by have:=HPL.out;omega),Lib.hid (by rw[←HPE.out,HBD.out]),HK4,HM4,HJ4⟩
     case measure=>simp[intOf];omega
  ·obtain rfl:k=ids.length:=by omega
   gi_wp2
   go_end0
   refine⟨⟨_,rfl⟩,.inl ⟨pre,?_,HJS.out⟩⟩
   have:=HPE.out
   rw[List.drop_length]at this
   simpa [badGo] using this
end Go.Proofs.YteigjcichmpejaaDoor
