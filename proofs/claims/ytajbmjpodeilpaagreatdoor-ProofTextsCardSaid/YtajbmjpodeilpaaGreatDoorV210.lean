/- package rup: Assume. Plain: what is assumed where a clause fails has values. Plain: a clause that holds always has a literal and its negation. package rup: moving. Reverse at rows that are owned. package rup: needed. -/
import Derived.Test.YtajbmjpodeilpaaGreatDoorV209
import Derived.Test.YtajbmjpodeilpaaGreatDoorV203
import Derived.Test.YtajbmjpodeilpaaGreatDoorV208
import Derived.Test.YtajbmjpodeilpaaGreatDoorShelf
import Derived.Test.YtajbmjpodeilpaaGreatDoorV207
namespace Go.Proofs.YtajbmjpodeilpaaGreatDoor
open Go.RowKit Go.Maps Go.Shelf
theorem rup_many (A:Option Addr) (n c:Nat) (w:World):Calls Tryz.prog 137 #[.slice A n c] w fun e w'=>e= .returned (.int .i64 (if 65536<n then 5 else 0))∧w=w':=by
 by_cases h:65536<n
 ·have hd:decide ((65536:Int)<(n:Int))=true:=by simp;omega
  rw[if_pos h]
  clear h
  go_enter Tryz.func137,Tryz.ntmps137
  go_wp2_with fail
  go_ret
  exact⟨rfl,rfl⟩
 ·have hd:decide ((65536:Int)<(n:Int))=false:=by simp;omega
  rw[if_neg h]
  clear h
  go_enter Tryz.func137,Tryz.ntmps137
  go_wp2_with fail
  go_ret
  exact⟨rfl,rfl⟩
def firstE:List Int→Int
 | []=>0
 | e::r=>if e=0 then firstE r else e
set_option maxRecDepth 100000 in
set_option maxHeartbeats 1000000 in
theorem rup_first {O:Nat→Prop} (u:Value) (es:List Int) (w:World) (hu:IntsIn O w u es) (hlen:es.length≤1000):
  Calls Tryz.prog 135 #[u] w fun e w'=>e= .returned (.int .i64 (firstE es))∧w=w':=by
 have HX:=Lib.hid hu
 obtain⟨A,c,rfl,hc,_,_⟩:=hu
 obtain⟨R,hR⟩: ∃z,firstE es=z:=⟨_,rfl⟩
 have HR:=Lib.hid hR
 rw[hR]
 clear hR
 go_enter Tryz.func135,Tryz.ntmps135
 go_wp2_with fail
 go_loopw [7] (fun iv wr=> ∃j:Nat,j≤es.length∧iv= .int .i64 j∧Hid (firstE (es.drop j)=R)∧wr=w) (fun iv _=>es.length-(intOf iv).toNat)
 case atStart=>exact⟨0,Nat.zero_le _,rfl,HR,rfl⟩
 case round=>
  obtain⟨j,hj,rfl,HG,rfl⟩:=hrel
  by_cases hlt:j<es.length
  ·obtain⟨x,hxk⟩:=getElem_of hlt
   obtain⟨A',c',hAc,_,_,hxs⟩:=HX.out
   simp only[Value.slice.injEq,true_and]at hAc
   obtain⟨rfl,rfl⟩:=hAc
   obtain⟨g,o,rfl,hg,_,d0⟩:=hxs j x hxk
   have hgo:=HG.out
   rw[List.drop_eq_getElem_cons hlt]at hgo
   rw[List.getElem?_eq_getElem hlt]at hxk
   rw[Option.some.inj hxk]at hgo
   simp only[firstE]at hgo
   clear hxk hxs
   by_cases h0:x=0
   ·rw[if_pos h0]at hgo
    have d1:(x != 0)=false:=by simpa using h0
    have HG:=Lib.hid hgo
    clear hgo h0
    go_wp2_with fail
    go_roundw
    case rel=>exact⟨j+1,by omega,by go_num,HG,trivial⟩
    case measure=>simp[intOf];omega
   ·rw[if_neg h0]at hgo
    have d1:(x != 0)=true:=by simpa using h0
    have HG:=Lib.hid hgo
    clear hgo h0
    go_wp2_with fail
    go_ret
    rw[←HG.out]
    exact⟨rfl,rfl⟩
  ·obtain rfl:j=es.length:=by omega
   have hgo:=HG.out
   rw[List.drop_length]at hgo
   have HG:=Lib.hid (show 0=R from hgo)
   clear hgo
   go_wp2_with fail
   go_ret
   rw[←HG.out]
   exact⟨rfl,rfl⟩
def wrongE (cs:List (List Int)):Int:=if cs.all clauseB=true then 0 else 20
set_option maxRecDepth 100000 in
set_option maxHeartbeats 2000000 in
theorem rup_wrong {O:Nat→Prop} (lv cv:Value) (mb:Nat) (cs:List (List Int)) (c:List Int) (w:World) (hl:ClsIn O w lv cs) (hm:w.cell? ⟨mb,0,none⟩=some cv) (hc:IntsIn O w cv c) (hn:cs.length≤1000000) (hx: ∀xs∈cs++ [c],xs.length≤100000000000):
  Calls Tryz.prog 136 #[lv,.slice (some ⟨mb,0,none⟩) 1 1] w fun e w'=>e= .returned (.int .i64 (wrongE (cs++ [c])))∧Below w.heap.size w w':=by
 obtain⟨i0,hi,hz0,hz1,hz2⟩:=info_parts info_cls
 obtain⟨us,hul,hus,hu1,hue⟩:=hl.src
 obtain⟨A,cc,rfl,_,hA,_⟩:=hl
 obtain⟨k,hk⟩: ∃k,cs.length=k:=⟨_,rfl⟩
 rw[hk]at hus hul hn⊢
 have hAk:A=none→k=0∧cc=0:=fun h=>by
  have h1:=hA h
  omega
 have HCL:=Lib.hid (clone_row A k cc us w hus hAk hul hu1 (by omega))
 have HM:=Lib.hid hm
 have hmb:=World.block_lt_of_cell? w _ hm
 have HK:=Lib.hid hk
 have HX:=Lib.hid hx
 have hlt: ∀(j:Nat) (xs:List Int),(cs++ [c])[j]? =some xs→∃u,(us++ [cv])[j]? =some u∧IntsIn (fun g=>g<w.heap.size) w u xs:=fun j xs hj=>by
  by_cases hjl:j<cs.length
  ·rw[List.getElem?_append_left hjl]at hj
   obtain⟨u,h1,h2⟩:=hue j xs hj
   exact⟨u,by rw[List.getElem?_append_left (by omega)];exact h1,h2.lt.mono (fun _ h=>h.2)⟩
  ·have hj2:=(List.getElem?_eq_some_iff.1 hj).1
   rw[List.length_append,List.length_singleton]at hj2
   obtain rfl:j=cs.length:=by omega
   rw[List.getElem?_append_right (Nat.le_refl _),Nat.sub_self,List.getElem?_cons_zero]at hj
   obtain rfl:=Option.some.inj hj
   exact⟨cv,by rw[List.getElem?_append_right (by omega),show cs.length-us.length=0 by omega,List.getElem?_cons_zero],hc.lt.mono (fun _ h=>h.2)⟩
 have HE:=Lib.hid hlt
 have hcv:cv.oneCell'=true:=by
  obtain⟨_,_,h,_⟩:=hc
  rw[h]
  rfl
 have HCV:=Lib.hid hcv
 have HUL:=Lib.hid hul
 clear hus hul hu1 hue hA hAk hm hk hx hc hlt hcv
 obtain⟨R,hR⟩: ∃z,wrongE (cs++ [c])=z:=⟨_,rfl⟩
 have HR:=Lib.hid hR
 rw[hR]
 clear hR
 go_enter Tryz.func136,Tryz.ntmps136
 go_wp2_with fail
 refine HCL.out.mono ?_
 rintro e w1 ⟨v,rfl,hr,hb⟩
 have HR1:=Lib.hid hr
 have HB1:=Lib.hid hb
 obtain⟨Av,c1,rfl,_⟩:=mx_slice hr
 have hm1:=(hb.cell (p:=⟨mb,0,none⟩) hmb).trans HM.out
 have HM1:=Lib.hid hm1
 have hz:=hb.size
 clear hr hb hm1
 go_wp2_with (at_builtin;refine wpList_append_own_at _ rfl _ _ 22 rfl w.heap.size 30 i0 (.slice none 0 0) 1 24 Tryz.underlying22 hi hz0 hz1 hz2 rfl (by decide) _ _ _ rfl HR1.out ⟨mb,0,none⟩ 1 1 [cv] rfl rfl (fun j u hj=>by
  match j,hj with
  | 0,hj=>simp at hj;subst hj;simpa [Addr.add] using HM1.out) (fun u hu=>by rw[List.mem_singleton.1 hu];exact HCV.out) (by unfold maxLen;omega) (by omega) hz ?_;intro v' w2 hown hgrow hnl hat;obtain⟨g2,c2,rfl⟩:=ownsRow_succ hown)
 have HB2:=Lib.hid (HB1.out.grown hgrow hz (fun g hg=>(own_lt HR1.out g hg).1))
 have HR2:=Lib.hid hown
 have hcl: ∀(j:Nat),j<k+1→∃u xs,(cs++ [c])[j]? =some xs∧w2.cell? ⟨g2,j,none⟩=some u∧IntsIn (fun g=>g<w.heap.size) w2 u xs:=fun j hj=>by
  obtain⟨xs,hxs⟩:=getElem_of (l:=cs++ [c]) (i:=j) (by rw[List.length_append,List.length_singleton,HK.out];exact hj)
  obtain⟨u,h1,h2⟩:=HE.out j xs hxs
  exact⟨u,xs,hxs,mx_at HR2.out h1,h2.kept (O':=fun g=>w.heap.size≤g) ⟨HB2.out.os,HB2.out.tape,HB2.out.output,HB2.out.size,fun g _ hn=>HB2.out.block g (by omega)⟩ (fun g hg h=>by omega)⟩
 have HCL2:=Lib.hid hcl
 clear hown hgrow hnl hat hcl
 have HAL:=Lib.hid (show(∀j xs,j<0→(cs++ [c])[j]? =some xs→clauseB xs=true)from fun j xs h=>by omega)
 go_wp2_with fail
 go_loopw [12] (fun iv wr=> ∃j:Nat,j≤k+1∧iv= .int .i64 j∧Hid (∀i xs,i<j→(cs++ [c])[i]? =some xs→clauseB xs=true)∧wr=w2) (fun iv _=>k+1-(intOf iv).toNat)
 case atStart=>exact⟨0,Nat.zero_le _,rfl,HAL,rfl⟩
 case round=>
  obtain⟨j,hj,rfl,HG,rfl⟩:=hrel
  by_cases hlt:j<k+1
  ·obtain⟨u,xs,hxs,e0,hin⟩:=HCL2.out j hlt
   have HRC:=right_clause u xs wr hin (by have:=HX.out xs (List.mem_of_getElem? hxs);omega)
   obtain⟨A',c',rfl,_⟩:=hin
   have HXS:=Lib.hid hxs
   have hd:decide ((j:Int)<(k:Int)+1)=true:=by simp;omega
   clear hxs
   cases hcb:clauseB xs with
   | false=>
    rw[hcb]at HRC
    have HRC:=Lib.hid HRC
    have HF:=Lib.hid hcb
    clear hcb
    go_wp2_with fail
    refine HRC.out.mono ?_
    rintro e w' ⟨rfl,rfl⟩
    go_wp2_with fail
    go_ret
    refine⟨?_,HB2.out⟩
    rw[←HR.out]
    unfold wrongE
    rw[if_neg (fun h=>by
     have:=List.all_eq_true.1 h xs (List.mem_of_getElem? HXS.out)
     rw[HF.out]at this
     cases this)]
    rfl
   | true=>
    rw[hcb]at HRC
    have HRC:=Lib.hid HRC
    have HF:=Lib.hid hcb
    clear hcb
    go_wp2_with fail
    refine HRC.out.mono ?_
    rintro e w' ⟨rfl,rfl⟩
    go_wp2_with fail
    go_roundw
    case rel=>exact⟨j+1,by omega,by go_num,Lib.hid (fun i ys hi hy=>by
     rcases Nat.lt_or_ge i j with h|h
     ·exact HG.out i ys h hy
     ·obtain rfl:i=j:=by omega
      rw[HXS.out]at hy
      obtain rfl:=Option.some.inj hy
      exact HF.out),trivial⟩
    case measure=>simp[intOf];omega
  ·obtain rfl:j=k+1:=by omega
   have hd:decide (((k+1:Nat):Int)<(k:Int)+1)=false:=by simp
   go_wp2_with fail
   go_ret
   refine⟨?_,HB2.out⟩
   rw[←HR.out]
   unfold wrongE
   rw[if_pos (List.all_eq_true.2 (fun ys hy=>by
    obtain⟨i,hi⟩:=List.getElem?_of_mem hy
    refine HG.out i ys ?_ hi
    have:=(List.getElem?_eq_some_iff.1 hi).1
    rw[List.length_append,List.length_singleton,HK.out]at this
    exact this))]
   rfl
end Go.Proofs.YtajbmjpodeilpaaGreatDoor
namespace Go.Proofs.YtajbmjpodeilpaaGreatDoor
open Go.RowKit Go.Maps Go.Shelf
def asmL (c:List Int):List Int:=sortL ((normL c).map litN)
def AsmOut (w w':World) (c:List Int) (e:Ending):Prop:=
 if clauseB c=true then(if alwL c=true then e= .returned (.tuple #[.slice none 0 0,.bool true,.int .i64 0])else∃v,e= .returned (.tuple #[v,.bool false,.int .i64 0])∧w'.ownsRow w.heap.size 28 1 v (asmL c).length ((asmL c).map (Value.int .i64)))
 else e= .returned (.tuple #[.slice none 0 0,.bool false,.int .i64 20])
set_option maxRecDepth 100000 in
set_option maxHeartbeats 2000000 in
theorem rup_assume {O:Nat→Prop} (u:Value) (c:List Int) (w:World) (hu:IntsIn O w u c) (hlen:c.length≤100000000000):
  Calls Tryz.prog 117 #[u] w fun e w'=>AsmOut w w' c e∧Below w.heap.size w w':=by
 obtain⟨i0,hi,hz0,hz1,hz2⟩:=info_parts cinfo_lit
 have HN:=norm_any u c w hu (by omega)
 obtain⟨A,cc,rfl,_⟩:=hu
 unfold AsmOut
 unfold NormOut at HN
 have HNL:=Lib.hid (normL_len c)
 obtain⟨q,hq⟩: ∃q,clauseB c=q:=⟨_,rfl⟩
 obtain⟨al,hal⟩: ∃q,alwL c=q:=⟨_,rfl⟩
 rw[hq,hal]at HN
 rw[hq,hal]
 clear hq hal
 cases q with
 | false=>
  simp only[Bool.false_eq_true,if_false]at HN⊢
  have HN:=Lib.hid HN
  go_enter Tryz.func117,Tryz.ntmps117
  go_wp2_with fail
  refine HN.out.mono ?_
  rintro e w1 ⟨rfl,hb⟩
  have HB:=Lib.hid hb
  clear hb
  go_wp2_with fail
  refine bodyPost_ret (res_norm rfl _ _) rfl ?_
  exact⟨rfl,HB.out⟩
 | true=>
  simp only[if_true]at HN⊢
  have HN:=Lib.hid HN
  cases al with
  | true=>
   simp only[if_true]at HN⊢
   go_enter Tryz.func117,Tryz.ntmps117
   go_wp2_with fail
   refine HN.out.mono ?_
   rintro e w1 ⟨⟨v,rfl,_⟩,hb⟩
   have HB:=Lib.hid hb
   clear hb
   go_wp2_with fail
   refine bodyPost_ret (res_norm rfl _ _) rfl ?_
   exact⟨rfl,HB.out⟩
  | false=>
   simp only[Bool.false_eq_true,if_false]
   obtain⟨ys,hys⟩: ∃y,normL c=y:=⟨_,rfl⟩
   unfold asmL
   rw[hys]at HN HNL⊢
   clear hys
   go_enter Tryz.func117,Tryz.ntmps117
   go_wp2_with fail
   refine HN.out.mono ?_
   rintro e w1 ⟨⟨v,rfl,hr⟩,hb⟩
   obtain⟨Av,cv,rfl,_⟩:=mx_slice hr
   have HB:=Lib.hid hb
   have HR:=Lib.hid hr
   have hnl:=HNL.out
   have hz:=hb.size
   clear hb hr
   go_wp2_with fail
   go_loopw [8,26] (fun ov iv wr=> ∃j:Nat,j≤ys.length∧iv= .int .i64 j∧Hid (wr.ownsRow w1.heap.size 28 1 ov j (((ys.take j).map litN).map (Value.int .i64)))∧Hid (Below w1.heap.size w1 wr)) (fun _ iv _=>ys.length-(intOf iv).toNat)
   case atStart=>exact⟨0,Nat.zero_le _,rfl,Lib.hid (World.ownsRow_nil _ _ _ _),Lib.hid (Below.refl _ _)⟩
   case round=>
    obtain⟨j,hj,rfl,HO,HB1⟩:=hrel
    obtain⟨Ao,co,rfl,_⟩:=mx_slice HO.out
    by_cases hlt:j<ys.length
    ·obtain⟨x,hxk⟩:=getElem_of hlt
     obtain⟨g,c',hv,hg0,hg,e0⟩:=own_cell HR.out hxk
     simp only[Value.slice.injEq,true_and]at hv
     obtain⟨rfl,rfl⟩:=hv
     have d1:wr.cell? ⟨g,j,none⟩=some (.int .i64 x):=(HB1.out.cell (p:=⟨g,j,none⟩) hg).trans e0
     have HTK:=Lib.hid (show(((ys.take (j+1)).map litN).map (Value.int .i64))=(((ys.take j).map litN).map (Value.int .i64))++ [.int .i64 (litN x)]from by rw[List.take_add_one,hxk];simp)
     have HG:=Lib.hid (fun W=>lit_neg x W)
     have hz1':=HB1.out.size
     clear hxk e0
     go_wp2_with fail
     refine(HG.out _).mono ?_
     rintro e w' ⟨rfl,rfl⟩
     go_wp2_with (at_builtin;refine wpList_append_own_at _ rfl _ _ 29 rfl w1.heap.size 28 i0 (.int .i64 0) 1 8 Tryz.underlying29 hi hz0 hz1 hz2 rfl (by decide) _ j _ rfl (own_below HO.out (mx_al wr _)) ⟨wr.heap.size,0,none⟩ 1 1 [.int .i64 (litN x)] rfl rfl (fun i u hi=>by
      match i,hi with
      | 0,hi=>simp at hi;subst hi;simp[Addr.add]) (fun u hu=>by rw[List.mem_singleton.1 hu];rfl) (by unfold maxLen;omega) (by omega) (by simp;omega) ?_;intro v' w2 hown hgrow hnl2 hat)
     have HO2:=Lib.hid hown
     have HB2:=Lib.hid (HB1.out.trans (((mx_al wr (.cells #[.int .i64 (litN x)] 28)).mono hz1').grown hgrow (by simp;omega) (fun g hg=>(own_lt HO.out g hg).1)))
     clear hown hgrow hnl2 hat
     go_wp2
     go_roundw
     case rel=>exact⟨j+1,by omega,by go_num,Lib.hid (by rw[HTK.out];exact HO2.out),HB2⟩
     case measure=>simp[intOf];omega
    ·obtain rfl:j=ys.length:=by omega
     have ho:=HO.out
     rw[List.take_length]at ho
     have e:ys.length=(ys.map litN).length:=(List.length_map _).symm
     rw[e]at ho
     have HS:=own_sortL _ _ wr ho (by rw[←e];omega)
     rw[←e]at HS ho
     have HO2:=Lib.hid ho
     have HS:=Lib.hid HS
     clear ho e
     go_wp2_with fail
     refine HS.out.mono ?_
     rintro e w2 ⟨rfl,hr2,hk2⟩
     have HR2:=Lib.hid hr2
     have HB2:=Lib.hid (HB.out.trans ((HB1.out.trans (hk2.below (fun g hg=>(own_lt HO2.out g hg).1) HB1.out.size)).mono hz))
     clear hr2 hk2
     go_wp2_with fail
     refine bodyPost_ret (res_norm rfl _ _) rfl ?_
     exact⟨⟨_,rfl,own_mono (by simpa [sortL_length] using HR2.out) hz⟩,HB2.out⟩
end Go.Proofs.YtajbmjpodeilpaaGreatDoor
namespace Go.Proofs.YtajbmjpodeilpaaGreatDoor
open Go.RowKit Go.Maps Go.Shelf
theorem lukGo_unit {f:Int→Int} {k:Nat} {t u:Int} {c:List Int} (h:lukGo f k t c=(3,u)):(k=3∧u=t)∨(u∈c∧ofF f u=0):=by
 induction c generalizing k t with
 | nil=>
  simp only[lukGo,Prod.mk.injEq]at h
  obtain⟨rfl,h⟩:=h
  exact .inl ⟨rfl,by simpa using h.symm⟩
 | cons l r ih=>
  simp only[lukGo]at h
  split at h
  ·cases h
  ·rename_i h1
   split at h
   ·exact(ih h).imp_right (fun h=>⟨List.mem_cons_of_mem _ h.1,h.2⟩)
   ·rename_i h2
    simp only[not_or]at h2
    split at h
    ·rcases ih h with⟨_,rfl⟩|h
     ·exact .inr ⟨List.mem_cons_self,by omega⟩
     ·exact .inr ⟨List.mem_cons_of_mem _ h.1,h.2⟩
    ·rcases ih h with⟨h,_⟩|h
     ·cases h
     ·exact .inr ⟨List.mem_cons_of_mem _ h.1,h.2⟩
theorem lookF_unit {f:Int→Int} {u:Int} {c:List Int} (h:lookF f c=(3,u)):u∈c∧ofF f u=0:=by
 rcases lukGo_unit h with⟨h,_⟩|h
 ·cases h
 ·exact h
theorem ofF_put_self {f:Int→Int} {u:Int}:ofF (putF f u) u=1:=by
 unfold ofF putF
 cases litG u <;> simp
def freeN (f:Int→Int) (ls:List Int):Nat:=(ls.filter (fun l=>decide (ofF f l=0))).length
theorem asgGo_some {xs:List Int}: ∀(f:Int→Int),(∀x∈xs,litB x=true)→(∀x∈xs,∀y∈xs,y≠ -x)→(∀x∈xs,0≤ofF f x)→∃g,asgGo f xs=some g:=by
 induction xs with
 | nil=>exact fun f _ _ _=>⟨f,rfl⟩
 | cons x r ih=>
  intro f h1 h2 h3
  have hb:=h1 x List.mem_cons_self
  simp only[asgGo]
  rw[if_pos ⟨hb,h3 x List.mem_cons_self⟩]
  refine ih (putF f x) (fun y hy=>h1 y (List.mem_cons_of_mem _ hy)) (fun y hy z hz=>h2 y (List.mem_cons_of_mem _ hy) z (List.mem_cons_of_mem _ hz)) (fun y hy=>?_)
  have hyb:=h1 y (List.mem_cons_of_mem _ hy)
  have hne:=h2 x List.mem_cons_self y (List.mem_cons_of_mem _ hy)
  by_cases hv:((litV y:Nat):Int)=((litV x:Nat):Int)
  ·have e1:=litV_right hb
   have e2:=litV_right hyb
   obtain rfl:y=x:=by omega
   rw[ofF_put_self]
   decide
  ·have:=h3 y (List.mem_cons_of_mem _ hy)
   unfold ofF putF at *
   simp only[if_neg hv]
   exact this
theorem alw_pair {l:Int} {xs:List Int} (hr: ∀x∈xs,litB x=true) (hp:xs.Pairwise (fun a b=>litI a<litI b)) (h:alwGo l xs=false): ∀x∈xs,0<x→∀y∈xs,y≠ -x:=by
 induction xs generalizing l with
 | nil=>exact fun x hx=>by cases hx
 | cons z r ih=>
  obtain⟨hz,hpr⟩:=List.pairwise_cons.1 hp
  have hal:alwGo z r=false:=by
   simp only[alwGo,Bool.or_eq_false_iff]at h
   exact h.2
  have hir:=ih (fun x hx=>hr x (List.mem_cons_of_mem _ hx)) hpr hal
  have hI: ∀v:Int,0<v→litB v=true→litI (-v)=litI v+1:=fun v hv hb=>by
   have h1:=litV_right hb
   have hb2:litB (-v)=true:=by
    have:=(litB_iff v).1 hb
    exact(litB_iff (-v)).2 (by omega)
   have h2:=litV_right hb2
   unfold litI
   rw[if_pos (show -v<0 by omega),if_neg (show¬v<0 by omega)]
   omega
  rintro x hx hx0 y hy rfl
  rcases List.mem_cons.1 hx with rfl|hxr
  ·rcases List.mem_cons.1 hy with he|hyr
   ·omega
   ·have hy1:=hI x hx0 (hr x List.mem_cons_self)
    cases r with
    | nil=>cases hyr
    | cons y1 r'=>
     have h1:=hz y1 List.mem_cons_self
     have hy2:y1= -x:=by
      rcases List.mem_cons.1 hyr with h|h
      ·exact h.symm
      ·have:=(List.pairwise_cons.1 hpr).1 _ h
       omega
     have hb:=hr x List.mem_cons_self
     simp only[alwGo,Bool.or_eq_false_iff,Bool.and_eq_false_iff]at hal
     rcases hal.1 with h|h
     ·have:x≠0:=by omega
      simp[this]at h
     ·rw[hy2]at h
      unfold litN at h
      rw[if_pos hb]at h
      simp at h
  ·rcases List.mem_cons.1 hy with he|hyr
   ·have h1:=hz x hxr
    have h2:=hI x hx0 (hr x hx)
    rw[he]at h2
    omega
   ·exact hir x hxr hx0 _ hyr rfl
theorem asm_some {c:List Int} (hc:clauseB c=true) (ha:alwL c=false): ∃f,asgF (asmL c)=some f:=by
 have hr: ∀x∈c,litB x=true:=fun x hx=>by
  unfold clauseB at hc
  rw[Bool.and_eq_true]at hc
  exact List.all_eq_true.1 hc.2 x hx
 unfold alwL at ha
 rw[hc,Bool.true_and]at ha
 have hrn: ∀x∈normL c,litB x=true:=fun x hx=>hr x (normL_mem hx)
 have hp:=alw_pair hrn (normL_pair hr) ha
 have hneg: ∀x∈asmL c,litB x=true∧ -x∈normL c:=fun x hx=>by
  unfold asmL at hx
  obtain⟨y,hy,rfl⟩:=List.mem_map.1 (sortL_mem.1 hx)
  have hb:=hrn y hy
  have h1:=(litB_iff y).1 hb
  unfold litN
  rw[if_pos hb]
  exact⟨(litB_iff _).2 (by omega),by rw[Int.neg_neg];exact hy⟩
 unfold asgF
 refine asgGo_some _ (fun x hx=>(hneg x hx).1) (fun x hx y hy e=>?_) (fun x hx=>by unfold ofF;simp)
 have h1:=(hneg x hx).2
 have h2:=(hneg y hy).2
 rw[e,Int.neg_neg]at h2
 have h0:=(litB_iff x).1 (hneg x hx).1
 by_cases hx0:0<x
 ·exact hp x h2 hx0 (-x) h1 rfl
 ·exact hp (-x) h1 (by omega) x h2 (by omega)
end Go.Proofs.YtajbmjpodeilpaaGreatDoor
namespace Go.Proofs.YtajbmjpodeilpaaGreatDoor
open Go.RowKit
theorem alwGo_two {c:List Int} (hc: ∀y∈c,litB y=true): ∀{r:List Int} {l:Int},(l=0∨l∈c)→(∀x∈r,x∈c)→alwGo l r=true→∃y∈c,-y∈c:=by
 intro r
 induction r with
 | nil=>intro l _ _ h;cases h
 | cons x r ih=>
  intro l hl hr h
  unfold alwGo at h
  have hx:=hr x List.mem_cons_self
  rw[Bool.or_eq_true]at h
  rcases h with h|h
  ·rw[Bool.and_eq_true]at h
   obtain⟨h1,h2⟩:=h
   rcases hl with rfl|hl
   ·cases h1
   ·have e:x=litN l:=by simpa using h2
    unfold litN at e
    rw[if_pos (hc l hl)]at e
    exact⟨l,hl,e▸hx⟩
  ·exact ih (.inr hx) (fun y hy=>hr y (List.mem_cons_of_mem _ hy)) h
theorem alwL_two {c:List Int} (h:alwL c=true): ∃y∈c,-y∈c:=by
 unfold alwL at h
 rw[Bool.and_eq_true]at h
 obtain⟨h1,h2⟩:=h
 unfold clauseB at h1
 rw[Bool.and_eq_true,List.all_eq_true]at h1
 exact alwGo_two h1.2 (.inl rfl) (fun x hx=>normL_mem hx) h2
theorem alwL_no {c:List Int} (h: ∀y∈c,-y∉c):alwL c=false:=by
 cases ha:alwL c with
 | false=>rfl
 | true=>
  obtain⟨y,hy,hn⟩:=alwL_two ha
  exact absurd hn (h y hy)
end Go.Proofs.YtajbmjpodeilpaaGreatDoor
namespace Go.Proofs.YtajbmjpodeilpaaGreatDoor
open Go.RowKit Go.Maps Go.Shelf
attribute [local go_sem] Oper.semAt_some
def movL (f:Int→Int) (kd:Nat):Nat→List (List Int)→List (Nat×Int)
 | _,[]=> []
 | i,c::r=>if(lookF f c).1=kd then(i,(lookF f c).2)::movL f kd (i+1) r else movL f kd (i+1) r
def mvv (x:Nat×Int):Array Value:= #[.int .i64 (x.1:Int),.int .i64 x.2]
theorem ClsIn.narrow {O:Nat→Prop} {w:World} {v:Value} {cs:List (List Int)} (h:ClsIn O w v cs):ClsIn (fun g=>O g∧¬XO w g) w v cs:=by
 obtain⟨A,c,hv,hc,hn,hx⟩:=h
 refine⟨A,c,hv,hc,hn,fun i xs hi=>?_⟩
 obtain⟨g,o,u,h1,h2,h3,h4,h5⟩:=hx i xs hi
 exact⟨g,o,u,h1,h2,⟨h3,xo_cell h4⟩,h4,h5.narrow⟩
theorem MapAt.kpc {W w:World} {b n:Nat} {f:Int→Int} (h:MapAt W b n f) (k:KpC (fun _=>False) W w):MapAt w b n f:=
 h.kept k.kept (by
  rintro (h'|⟨o,ho,_,h2⟩)
  ·exact h'
  ·obtain⟨D,⟨es,cl,hb,_⟩,_⟩:=h
   rw[hb]at ho
   cases ho
   cases h2)
end Go.Proofs.YtajbmjpodeilpaaGreatDoor
namespace Go.Proofs.YtajbmjpodeilpaaGreatDoor
open Go.RowKit Go.Sort
theorem own_reverse {base:Nat} (v:Value) (xs:List Int) (w:World) (h:w.ownsRow base 3 1 v xs.length (xs.map (Value.int .i64))) (hl:xs.length<4611686018427387904):
  Calls Tryz.prog 141 #[v] w fun e w'=>e= .returned (.tuple #[])∧w'.ownsRow base 3 1 v xs.reverse.length (xs.reverse.map (Value.int .i64))∧Kept (fun g=>v.ownBlock=some g) w w':=by
 rcases h.2 with⟨rfl,h0⟩|⟨g,cap,cur,rfl,hb,hg,h1,h2,h3,h4⟩
 ·obtain rfl:xs= []:=List.eq_nil_of_length_eq_zero h0
  refine(Tryz.slices_Reverse_int_empty none 0 w).mono ?_
  rintro e w' ⟨rfl,rfl⟩
  exact⟨rfl,h,Kept.refl _ _⟩
 ·refine(Tryz.slices_Reverse_int g 0 cap xs w (st_holds hg (by simpa using h4)) (by omega)).mono ?_
  rintro e w' ⟨rfl,n,rfl⟩
  refine⟨rfl,?_,st_kept1 _⟩
  rw[List.length_reverse]
  refine⟨by simp,.inr ⟨g,cap,_,rfl,hb,st_heap1 _ hg,h1,h2,by simp[putCells,h3],?_⟩⟩
  have e:xs.length*1=xs.reverse.length:=by simp
  rw[e]
  exact st_take cur xs.reverse (by rw[List.length_reverse];omega)
end Go.Proofs.YtajbmjpodeilpaaGreatDoor
namespace Go.Proofs.YtajbmjpodeilpaaGreatDoor
open Go.RowKit Go.Maps Go.Shelf
def needM (f:Int→Int) (xs:List Int):Int→Int:=xs.foldl (fun f l=>fun z=>if z=litN l then 1 else f z) f
def needGo (hs:List (List Int)) (us:List Int):Nat→(Int→Int)→List Int→List Int
 | 0,_,out=>out
 | k+1,f,out=>if k<us.length∧f (us.getD k 0)=0 then needGo hs us k f out else needGo hs us k (needM f (hs.getD k [])) (out++ [(k:Int)])
def needL (hs:List (List Int)) (us:List Int):List Int:=(needGo hs us hs.length (fun _=>0) []).reverse
theorem wf_litN (l:Int):(Lit.int .i64 (litN l)).wf=true:=by
 unfold litN
 split
 ·rename_i h
  have:=(litB_iff l).1 h
  exact wf64 (by omega) (by omega)
 ·exact wf64 (by omega) (by omega)
theorem cinfo_int:(Tryz.prog.info? 3).map (fun i=>(i.zero,i.size,i.bytes))=some (some (.int .i64 0),1,8):=by kernel_rfl
set_option maxRecDepth 100000 in
set_option maxHeartbeats 4000000 in
theorem rup_needed {O Ou:Nat→Prop} (hv uv:Value) (hs:List (List Int)) (us:List Int) (w:World) (hh:ClsIn O w hv hs) (hu:IntsIn Ou w uv us) (hn:hs.length≤1000000) (hx: ∀xs∈hs,xs.length≤1000000) (hul:us.length≤1000000) (hw: ∀x∈us,(Lit.int .i64 x).wf=true):
  Calls Tryz.prog 97 #[hv,uv] w fun e w'=> ∃v,e= .returned v∧w'.ownsRow (w.heap.size+1) 3 1 v (needL hs us).length ((needL hs us).map (Value.int .i64))∧Below w.heap.size w w':=by
 have hmm:=@run_makeMap Tryz.prog
 obtain⟨i0,hi,hz0,hz1,hz2⟩:=info_parts cinfo_int
 obtain⟨W0,hW0⟩: ∃x,w.alloc (.map #[] 0)=x:=⟨_,rfl⟩
 have hb0:Below w.heap.size w W0:=by rw[←hW0];exact mx_al _ _
 have hm0:MapL W0 w.heap.size 0 (fun _=>0):=by rw[←hW0];exact MapL.made w
 have hs0:W0.heap.size=w.heap.size+1:=by rw[←hW0];simp
 have HH:=Lib.hid hh.lt
 have HU:=Lib.hid hu.lt
 have HX:=Lib.hid hx
 have HWF:=Lib.hid hw
 obtain⟨Ah,ch,rfl,_⟩:=hh
 obtain⟨Au,cu,rfl,_⟩:=hu
 have HW0:=Lib.hid hW0
 have HB0:=Lib.hid hb0
 have HM0:=Lib.hid hm0
 obtain⟨R,hR⟩: ∃r,needGo hs us hs.length (fun _=>0) []=r:=⟨_,rfl⟩
 have HR:=Lib.hid hR
 unfold needL
 rw[hR]
 clear hW0 hb0 hm0 hR hx hw
 go_enter Tryz.func97,Tryz.ntmps97
 go_wp2_with fail
 rw[HW0.out]
 go_loopw [5,7] (fun ov iv wr=> ∃(z:Int) (k n:Nat) (f:Int→Int) (out:List Int),iv= .int .i64 z∧ -1≤z∧z<1000000∧Hid (z+1=k)∧Hid (k≤hs.length)∧Hid (n≤(hs.length-k)*1000000)∧Hid (needGo hs us k f out=R)∧Hid (MapL wr w.heap.size n f)∧Hid (wr.ownsRow (w.heap.size+1) 3 1 ov out.length (out.map (Value.int .i64)))∧Hid (out.length≤hs.length-k)∧Hid (Below w.heap.size w wr∧w.heap.size+1≤wr.heap.size)) (fun _ iv _=>(intOf iv+1).toNat)
 case atStart=>exact⟨(hs.length:Int)-1,hs.length,0,_,[],rfl,by omega,by omega,Lib.hid (by omega),Lib.hid (Nat.le_refl _),Lib.hid (by omega),HR,HM0,Lib.hid (World.ownsRow_nil _ _ _ _),Lib.hid (by simp),Lib.hid ⟨HB0.out,by omega⟩⟩
 case round=>
  obtain⟨z,k1,n,f,out,rfl,hz1',hz2',HZ,HKL,HNB,HG,HM,HO,HOL,HB⟩:=hrel
  obtain⟨Ao,co,rfl,_⟩:=mx_slice HO.out
  by_cases hlt:0≤z
  ·obtain⟨k,rfl⟩: ∃k:Nat,z=(k:Int):=⟨z.toNat,by omega⟩
   obtain rfl:k1=k+1:=by have:=HZ.out;omega
   have hkl:k<hs.length:=HKL.out
   obtain⟨xs,hxk⟩:=getElem_of hkl
   have HXS:=Lib.hid (show hs.getD k []=xs from by rw[List.getD_eq_getElem?_getD,hxk];rfl)
   have hgo:=HG.out
   simp only[needGo]at hgo
   rw[HXS.out]at hgo
   obtain⟨A',c',hAc,_,_,hxs⟩:=HH.out
   simp only[Value.slice.injEq,true_and]at hAc
   obtain⟨rfl,rfl⟩:=hAc
   obtain⟨g,o,hv,rfl,hg,_,d0,hin⟩:=hxs k xs hxk
   have d1:wr.cell? ⟨g,o+k,none⟩=some hv:=(HB.out.1.cell (p:=⟨g,o+k,none⟩) hg).trans d0
   have hxl:=HX.out xs (List.mem_of_getElem? hxk)
   have HIN:=Lib.hid hin
   obtain⟨Ax,cx,rfl,_⟩:=hin
   clear hxk hxs d0
   have hbs:=HB.out.2
   have hol:=HOL.out
   have HZZ:=Lib.hid hz2'
   clear hz1' hz2' hlt hs0
   have hnb:n≤1000000000000:=Nat.le_trans HNB.out (Nat.le_trans (Nat.mul_le_mul_right _ (show _≤1000000 by omega)) (by decide))
   by_cases hku:k<us.length
   ·obtain⟨x,hxu⟩:=getElem_of hku
    have hxd:us.getD k 0=x:=by rw[List.getD_eq_getElem?_getD,hxu];rfl
    rw[hxd]at hgo
    obtain⟨A',c',hAc,_,_,hus⟩:=HU.out
    simp only[Value.slice.injEq,true_and]at hAc
    obtain⟨rfl,rfl⟩:=hAc
    obtain⟨gu,ou,rfl,hgu,_,u0⟩:=hus k x hxu
    have u1:wr.cell? ⟨gu,ou+k,none⟩=some (.int .i64 x):=(HB.out.1.cell (p:=⟨gu,ou+k,none⟩) hgu).trans u0
    have hlk:=HM.out.look (HWF.out x (List.mem_of_getElem? hxu))
    obtain⟨fx,hfx⟩: ∃y,f x=y:=⟨_,rfl⟩
    rw[hfx]at hgo hlk
    have hdu:decide ((k:Int)<(us.length:Int))=true:=by simp;omega
    clear hxu hxd hus u0 hfx
    by_cases hf0:fx=0
    ·rw[if_pos ⟨hku,hf0⟩]at hgo
     have q0:(fx==0)=true:=by simpa using hf0
     have HG2:=Lib.hid hgo
     clear hgo hf0 d1
     go_wp2_with fail
     go_roundw
     case rel=>exact⟨(k:Int)-1,k,n,f,out,by go_num,by omega,by have:=HZZ.out;omega,Lib.hid (by omega),Lib.hid (by omega),Lib.hid (Nat.le_trans HNB.out (Nat.mul_le_mul_right _ (by omega))),HG2,HM,HO,Lib.hid (by omega),HB⟩
     case measure=>simp[intOf]
    ·rw[if_neg (fun h=>hf0 h.2)]at hgo
     have q0:(fx==0)=false:=by simpa using hf0
     clear hf0
     have HG2:=Lib.hid hgo
     clear hgo
     go_wp2_with (at_builtin;refine wpList_append_own_at _ rfl _ _ 31 rfl (w.heap.size+1) 3 i0 (.int .i64 0) 1 8 Tryz.underlying31 hi hz0 hz1 hz2 rfl (by decide) _ out.length _ rfl (own_below HO.out (mx_al wr _)) ⟨wr.heap.size,0,none⟩ 1 1 [.int .i64 (k:Int)] rfl rfl (fun i u hi=>by
      match i,hi with
      | 0,hi=>simp at hi;subst hi;simp[Addr.add]) (fun u hu=>by rw[List.mem_singleton.1 hu];rfl) (by unfold maxLen;omega) (by omega) (by simp;omega) ?_;intro v' w2 hown hgrow hnl2 hat;obtain⟨g2,c2,rfl⟩:=ownsRow_succ hown;have hB2:Below (w.heap.size+1) wr w2:=((mx_al wr (.cells #[.int .i64 (k:Int)] 3)).mono hbs).grown hgrow (by simp;omega) (fun g hg=>(own_lt HO.out g hg).1);have d2:w2.cell? ⟨g,o+k,none⟩=some (.slice Ax xs.length cx):=(hB2.cell (p:=⟨g,o+k,none⟩) (by simp only;omega)).trans d1)
     have HO2:=Lib.hid hown
     have HB2:=Lib.hid hB2
     have HM2:=Lib.hid ((HM.out.below (mx_al wr (.cells #[.int .i64 (k:Int)] 3))).kept (Kept.grown hgrow) (fun e=>by
      have:=(own_lt HO.out _ e.symm).1
      omega))
     have hsz2:=hB2.size
     clear hown hgrow hnl2 hat hB2 d2 d1
     go_wp2_with fail
     obtain⟨wo,hwo⟩: ∃wo:World,wo=w2:=⟨_,rfl⟩
     rw[←hwo]at HO2 HB2 HM2 hsz2⊢
     clear hwo
     go_loopw [40] (fun iv wq=> ∃(j n':Nat),j≤xs.length∧iv= .int .i64 j∧n'≤n+j∧Hid (MapL wq w.heap.size n' (needM f (xs.take j)))∧Hid (Kept (fun g=>g=w.heap.size) wo wq)) (fun iv _=>xs.length-(intOf iv).toNat)
     case atStart=>exact⟨0,n,Nat.zero_le _,rfl,Nat.le_refl _,HM2,Lib.hid (Kept.refl _ _)⟩
     case round=>
      obtain⟨j,n',hj,rfl,hn',HMQ,HKQ⟩:=hrel
      by_cases hjl:j<xs.length
      ·obtain⟨y,hyk⟩:=getElem_of hjl
       obtain⟨A'',c'',hAc,_,_,hys⟩:=HIN.out
       simp only[Value.slice.injEq,true_and]at hAc
       obtain⟨rfl,rfl⟩:=hAc
       obtain⟨g3,o3,rfl,hg3,hlt3,f0⟩:=hys j y hyk
       have f1:wr.cell? ⟨g3,o3+j,none⟩=some (.int .i64 y):=(HKQ.out.cell (p:=⟨g3,o3+j,none⟩) (by simp only;omega) (by simp only;omega)).trans ((HB2.out.cell (p:=⟨g3,o3+j,none⟩) (by simp only;omega)).trans ((HB.out.1.cell (p:=⟨g3,o3+j,none⟩) hg3).trans f0))
       have HTK:=Lib.hid (show needM f (xs.take (j+1))=fun z=>if z=litN y then 1 else needM f (xs.take j) z from by
        unfold needM
        rw[List.take_add_one,hyk]
        simp)
       have HNG:=Lib.hid (fun W=>lit_neg y W)
       have HWN:=Lib.hid (wf_litN y)
       clear hyk hys f0
       go_wp2_with fail
       refine(HNG.out _).mono ?_
       rintro e w' ⟨rfl,rfl⟩
       go_wp2_with (at_mapUpdate;refine wpList_putL HMQ.out rfl _ _ _ rfl rfl (by unfold maxLen;omega) (litN y) 1 rfl rfl HWN.out rfl ?_;intro w4 hm4 hg4)
       have HM4:=Lib.hid (show MapL w4 w.heap.size (n'+1) (needM f (xs.take (j+1)))from by rw[HTK.out];exact hm4)
       have HK4:=Lib.hid (HKQ.out.trans (O:=fun g=>g=w.heap.size) (Kept.grown hg4) (fun i _ e=>Option.some.inj e))
       clear hm4 hg4
       go_wp2_with fail
       go_roundw
       case rel=>exact⟨j+1,n'+1,by omega,by go_num,by omega,HM4,HK4⟩
       case measure=>simp[intOf];omega
      ·obtain rfl:j=xs.length:=by omega
       have hmq:=HMQ.out
       rw[List.take_length]at hmq
       have HMF:=Lib.hid hmq
       clear hmq
       go_wp2_with fail
       go_roundw
       case rel=>exact⟨(k:Int)-1,k,n',_,out++ [(k:Int)],by go_num,by omega,by have:=HZZ.out;omega,Lib.hid (by omega),Lib.hid (by omega),Lib.hid (by
        rw[show hs.length-k=(hs.length-(k+1))+1 by omega,Nat.succ_mul]
        exact Nat.le_trans hn' (Nat.add_le_add HNB.out hxl)),HG2,HMF,Lib.hid (by
        have:=own_kept HO2.out HKQ.out (fun g hg e=>by have:=(own_lt HO2.out g hg).1;omega)
        simpa using this),Lib.hid (by have:=HOL.out;simp;omega),Lib.hid ⟨HB.out.1.trans ((HB2.out.mono (Nat.le_succ _)).trans (HKQ.out.below (fun g e=>by omega) (by omega))),by have:=HKQ.out.size;omega⟩⟩
       case measure=>simp[intOf]
   ·rw[if_neg (fun h=>hku h.1)]at hgo
    have hdu:decide ((k:Int)<(us.length:Int))=false:=by simp;omega
    have HG2:=Lib.hid hgo
    clear hgo
    go_wp2_with (at_builtin;refine wpList_append_own_at _ rfl _ _ 31 rfl (w.heap.size+1) 3 i0 (.int .i64 0) 1 8 Tryz.underlying31 hi hz0 hz1 hz2 rfl (by decide) _ out.length _ rfl (own_below HO.out (mx_al wr _)) ⟨wr.heap.size,0,none⟩ 1 1 [.int .i64 (k:Int)] rfl rfl (fun i u hi=>by
     match i,hi with
     | 0,hi=>simp at hi;subst hi;simp[Addr.add]) (fun u hu=>by rw[List.mem_singleton.1 hu];rfl) (by unfold maxLen;omega) (by omega) (by simp;omega) ?_;intro v' w2 hown hgrow hnl2 hat;obtain⟨g2,c2,rfl⟩:=ownsRow_succ hown;have hB2:Below (w.heap.size+1) wr w2:=((mx_al wr (.cells #[.int .i64 (k:Int)] 3)).mono hbs).grown hgrow (by simp;omega) (fun g hg=>(own_lt HO.out g hg).1);have d2:w2.cell? ⟨g,o+k,none⟩=some (.slice Ax xs.length cx):=(hB2.cell (p:=⟨g,o+k,none⟩) (by simp only;omega)).trans d1)
    have HO2:=Lib.hid hown
    have HB2:=Lib.hid hB2
    have HM2:=Lib.hid ((HM.out.below (mx_al wr (.cells #[.int .i64 (k:Int)] 3))).kept (Kept.grown hgrow) (fun e=>by
     have:=(own_lt HO.out _ e.symm).1
     omega))
    have hsz2:=hB2.size
    clear hown hgrow hnl2 hat hB2 d2 d1
    go_wp2_with fail
    obtain⟨wo,hwo⟩: ∃wo:World,wo=w2:=⟨_,rfl⟩
    rw[←hwo]at HO2 HB2 HM2 hsz2⊢
    clear hwo
    go_loopw [40] (fun iv wq=> ∃(j n':Nat),j≤xs.length∧iv= .int .i64 j∧n'≤n+j∧Hid (MapL wq w.heap.size n' (needM f (xs.take j)))∧Hid (Kept (fun g=>g=w.heap.size) wo wq)) (fun iv _=>xs.length-(intOf iv).toNat)
    case atStart=>exact⟨0,n,Nat.zero_le _,rfl,Nat.le_refl _,HM2,Lib.hid (Kept.refl _ _)⟩
    case round=>
     obtain⟨j,n',hj,rfl,hn',HMQ,HKQ⟩:=hrel
     by_cases hjl:j<xs.length
     ·obtain⟨y,hyk⟩:=getElem_of hjl
      obtain⟨A'',c'',hAc,_,_,hys⟩:=HIN.out
      simp only[Value.slice.injEq,true_and]at hAc
      obtain⟨rfl,rfl⟩:=hAc
      obtain⟨g3,o3,rfl,hg3,hlt3,f0⟩:=hys j y hyk
      have f1:wr.cell? ⟨g3,o3+j,none⟩=some (.int .i64 y):=(HKQ.out.cell (p:=⟨g3,o3+j,none⟩) (by simp only;omega) (by simp only;omega)).trans ((HB2.out.cell (p:=⟨g3,o3+j,none⟩) (by simp only;omega)).trans ((HB.out.1.cell (p:=⟨g3,o3+j,none⟩) hg3).trans f0))
      have HTK:=Lib.hid (show needM f (xs.take (j+1))=fun z=>if z=litN y then 1 else needM f (xs.take j) z from by
       unfold needM
       rw[List.take_add_one,hyk]
       simp)
      have HNG:=Lib.hid (fun W=>lit_neg y W)
      have HWN:=Lib.hid (wf_litN y)
      clear hyk hys f0
      go_wp2_with fail
      refine(HNG.out _).mono ?_
      rintro e w' ⟨rfl,rfl⟩
      go_wp2_with (at_mapUpdate;refine wpList_putL HMQ.out rfl _ _ _ rfl rfl (by unfold maxLen;omega) (litN y) 1 rfl rfl HWN.out rfl ?_;intro w4 hm4 hg4)
      have HM4:=Lib.hid (show MapL w4 w.heap.size (n'+1) (needM f (xs.take (j+1)))from by rw[HTK.out];exact hm4)
      have HK4:=Lib.hid (HKQ.out.trans (O:=fun g=>g=w.heap.size) (Kept.grown hg4) (fun i _ e=>Option.some.inj e))
      clear hm4 hg4
      go_wp2_with fail
      go_roundw
      case rel=>exact⟨j+1,n'+1,by omega,by go_num,by omega,HM4,HK4⟩
      case measure=>simp[intOf];omega
     ·obtain rfl:j=xs.length:=by omega
      have hmq:=HMQ.out
      rw[List.take_length]at hmq
      have HMF:=Lib.hid hmq
      clear hmq
      go_wp2_with fail
      go_roundw
      case rel=>exact⟨(k:Int)-1,k,n',_,out++ [(k:Int)],by go_num,by omega,by have:=HZZ.out;omega,Lib.hid (by omega),Lib.hid (by omega),Lib.hid (by
       rw[show hs.length-k=(hs.length-(k+1))+1 by omega,Nat.succ_mul]
       exact Nat.le_trans hn' (Nat.add_le_add HNB.out hxl)),HG2,HMF,Lib.hid (by
       have:=own_kept HO2.out HKQ.out (fun g hg e=>by have:=(own_lt HO2.out g hg).1;omega)
       simpa using this),Lib.hid (by have:=HOL.out;simp;omega),Lib.hid ⟨HB.out.1.trans ((HB2.out.mono (Nat.le_succ _)).trans (HKQ.out.below (fun g e=>by omega) (by omega))),by have:=HKQ.out.size;omega⟩⟩
      case measure=>simp[intOf]
  ·obtain rfl:k1=0:=by have:=HZ.out;omega
   have hd:decide (0≤z)=false:=by simpa using hlt
   have hgo:=HG.out
   simp only[needGo]at hgo
   have hol:=HOL.out
   have hb:=HB.out
   subst hgo
   have HS:=Lib.hid (own_reverse _ _ wr HO.out (by omega))
   clear hlt
   go_wp2_with fail
   refine HS.out.mono ?_
   rintro e w2 ⟨rfl,hr2,hk2⟩
   have HR2:=Lib.hid hr2
   have HB2:=Lib.hid (hb.1.trans (hk2.below (fun g hg=>by have:=(own_lt HO.out g hg).1;omega) hb.1.size))
   clear hr2 hk2
   go_wp2_with fail
   go_ret
   exact⟨_,rfl,by simpa using HR2.out,HB2.out⟩
end Go.Proofs.YtajbmjpodeilpaaGreatDoor
