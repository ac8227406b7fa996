/- package rup: follow, check, Check, Trim. package proof: follows. The table of integers. package proof: New, at a formula that is right. package proof: remove. -/
import Derived.Test.YtajbmjpodeilpaaGreatDoorV211
import Derived.Test.YtajbmjpodeilpaaGreatDoorV210
import Derived.Test.YtajbmjpodeilpaaGreatDoorV212
import Derived.Test.YtajbmjpodeilpaaGreatDoorShelh
namespace Go.Proofs.YtajbmjpodeilpaaGreatDoor
open Go.RowKit Go.Maps Go.Shelf
theorem folGo_nil (f:Int→Int) (us:List Int) (i:Nat):folGo f [] us i=(us,i,false,0):=rfl
theorem folGo_len (hs:List (List Int)): ∀(f:Int→Int) (us:List Int) (i:Nat),(folGo f hs us i).1.length≤us.length+hs.length∧(folGo f hs us i).2.1≤i+hs.length:=by
 induction hs with
 | nil=>exact fun _ _ _=>⟨Nat.le_refl _,Nat.le_refl _⟩
 | cons c r ih=>
  intro f us i
  unfold folGo
  split
  ·exact⟨Nat.le_add_right _ _,by simp only[List.length_cons];omega⟩
  ·split
   ·have:=ih (putF f (lookF f c).2) (us++ [(lookF f c).2]) (i+1)
    simp only[List.length_append,List.length_cons,List.length_nil]at this⊢
    omega
   ·exact⟨Nat.zero_le _,Nat.le_add_right _ _⟩
theorem folGo_lit (hs:List (List Int)): ∀(f:Int→Int) (us:List Int) (i:Nat),∀x∈(folGo f hs us i).1,x∈us∨∃d∈hs,x∈d:=by
 induction hs with
 | nil=>exact fun _ _ _ x hx=>.inl hx
 | cons c r ih=>
  intro f us i x hx
  unfold folGo at hx
  split at hx
  ·exact .inl hx
  ·split at hx
   ·rename_i h3
    rcases ih _ _ _ x hx with h|⟨d,hd,hxd⟩
    ·rcases List.mem_append.1 h with h|h
     ·exact .inl h
     ·rw[List.mem_singleton.1 h]
      exact .inr ⟨c,List.mem_cons_self,(lookF_unit (f:=f) (u:=(lookF f c).2) (c:=c) (Prod.ext h3 rfl)).1⟩
    ·exact .inr ⟨d,List.mem_cons_of_mem _ hd,hxd⟩
   ·cases hx
theorem ClsIn.take {O:Nat→Prop} {w:World} {A:Option Addr} {n c:Nat} {cs:List (List Int)} (h:ClsIn O w (.slice A n c) cs) {m:Nat} (hm:m≤cs.length):ClsIn O w (.slice A m c) (cs.take m):=by
 obtain⟨A',c',hv,hc,hn,hx⟩:=h
 simp only[Value.slice.injEq]at hv
 obtain⟨rfl,_,rfl⟩:=hv
 have hl:(cs.take m).length=m:=by rw[List.length_take];omega
 refine⟨A,c,by rw[hl],by rw[hl];omega,hn,fun i xs hi=>?_⟩
 have hil:=(List.getElem?_eq_some_iff.1 hi).1
 rw[List.getElem?_take,if_pos (by omega)]at hi
 exact hx i xs hi
theorem res_four {fn:Func} (h:fn.results= #[.tmp 4,.tmp 5,.tmp 6,.tmp 7]) (tmps:Array Value) (w:World):(results fn tmps).run Tryz.prog w= .ok (.tuple #[tmps.getD 4 undef,tmps.getD 5 undef,tmps.getD 6 undef,tmps.getD 7 undef]) w:=by
 simp[results,h]
def FolOut (w w':World) (R:List Int×Nat×Bool×Nat) (e:Ending):Prop:= ∃v,e= .returned (.tuple #[v,.int .i64 (R.2.1:Nat),.bool R.2.2.1,.int .i64 (R.2.2.2:Nat)])∧w'.ownsRow w.heap.size 28 1 v R.1.length (R.1.map (Value.int .i64))
set_option maxRecDepth 100000 in
set_option maxHeartbeats 4000000 in
theorem rup_follow {O:Nat→Prop} (b n:Nat) (f:Int→Int) (lv:Value) (cs:List (List Int)) (w:World) (hm:MapAt w b n f) (hok:okF f) (hl:ClsIn O w lv cs) (hnb: ¬O b) (hlen:cs.length≤70000) (hxs: ∀xs∈cs,xs.length≤4096) (hn:n≤100000):
  Calls Tryz.prog 139 #[.map (some b),lv] w fun e w'=>FolOut w w' (folGo f cs [] 0) e∧Kept (fun g=>g=b) w w':=by
 obtain⟨i0,hi,hz0,hz1,hz2⟩:=info_parts cinfo_lit
 have hbl:=hm.lt
 have HL:=Lib.hid hl
 have HM:=Lib.hid hm
 have HOK:=Lib.hid hok
 have HX:=Lib.hid hxs
 obtain⟨Al,cl,rfl,_⟩:=hl
 obtain⟨R,hR⟩: ∃R,folGo f cs [] 0=R:=⟨_,rfl⟩
 have HR:=Lib.hid hR
 rw[hR]
 clear hm hok hxs hR
 go_enter Tryz.func139,Tryz.ntmps139
 go_wp2_with fail
 go_loopw [8,15] (fun ov iv wr=> ∃(k n':Nat) (us:List Int) (f':Int→Int),k≤cs.length∧us.length≤k∧n'≤n+2*k∧iv= .int .i64 k∧Hid (wr.ownsRow w.heap.size 28 1 ov us.length (us.map (Value.int .i64)))∧Hid (MapAt wr b n' f')∧Hid (okF f')∧Hid (folGo f' (cs.drop k) us k=R)∧Hid (Kept (fun g=>g=b) w wr)) (fun _ iv _=>cs.length-(intOf iv).toNat)
 case atStart=>exact⟨0,n,[],f,Nat.zero_le _,Nat.le_refl _,Nat.le_refl _,rfl,Lib.hid (World.ownsRow_nil _ _ _ _),HM,HOK,HR,Lib.hid (Kept.refl _ _)⟩
 case round=>
  obtain⟨k,n',us,f',hk,hul,hn',rfl,HO,HMR,HOKR,HG,HK⟩:=hrel
  obtain⟨Ao,co,rfl,_⟩:=mx_slice HO.out
  by_cases hlt:k<cs.length
  ·obtain⟨c,hck⟩:=getElem_of hlt
   obtain⟨A',c',hAc,_,_,hxs⟩:=HL.out.kept HK.out (fun g hg e=>hnb (e▸hg))
   simp only[Value.slice.injEq,true_and]at hAc
   obtain⟨rfl,rfl⟩:=hAc
   obtain⟨g,o,u,rfl,hg,_,d0,hin⟩:=hxs k c hck
   have HC:=Lib.hid (HX.out c (List.mem_of_getElem? hck))
   have HLK:=Lib.hid (rup_look b n' f' u c wr HMR.out HOKR.out hin (by have:=HC.out;omega))
   have hg2:=HG.out
   have hdr:cs.drop k=c::cs.drop (k+1):=by
    rw[List.drop_eq_getElem_cons hlt]
    rw[List.getElem?_eq_getElem hlt]at hck
    rw[Option.some.inj hck]
   rw[hdr]at hg2
   unfold folGo at hg2
   obtain⟨Ax,cx,rfl,_⟩:=hin
   obtain⟨K,hKK⟩: ∃K,(lookF f' c).1=K:=⟨_,rfl⟩
   obtain⟨U,hU⟩: ∃U,(lookF f' c).2=U:=⟨_,rfl⟩
   have hlk:=HLK.out
   rw[hKK,hU]at hlk
   rw[hKK,hU]at hg2
   have HLK:=Lib.hid hlk
   clear hck hxs hdr hlk hKK hU
   by_cases e2:K=2
   ·subst e2
    rw[if_pos rfl]at hg2
    have HG2:=Lib.hid hg2
    have hwk:IntKind.i64.wrap ((k:Int)+1)=(k:Int)+1:=IntWalk.i64_in _ (by omega)
    clear hg2
    go_wp2_with fail
    refine HLK.out.mono ?_
    rintro e w' ⟨rfl,rfl⟩
    go_wp2_with fail
    refine bodyPost_ret (res_four rfl _ _) rfl ?_
    rw[←HG2.out]
    exact⟨⟨_,by go_num,HO.out⟩,HK.out⟩
   ·rw[if_neg e2]at hg2
    have q2:((K:Int)==2)=false:=by simp;omega
    by_cases e3:K=3
    ·subst e3
     rw[if_pos rfl]at hg2
     have HG2:=Lib.hid hg2
     clear hg2 q2 e2
     go_wp2_with fail
     refine HLK.out.mono ?_
     rintro e w' ⟨rfl,rfl⟩
     go_wp2_with (at_builtin;refine wpList_append_own_at _ rfl _ _ 29 rfl w.heap.size 28 i0 (.int .i64 0) 1 8 Tryz.underlying29 hi hz0 hz1 hz2 rfl (by decide) _ us.length _ rfl (own_below HO.out (mx_al wr _)) ⟨wr.heap.size,0,none⟩ 1 1 [.int .i64 U] rfl rfl (fun i u hi=>by
      match i,hi with
      | 0,hi=>simp at hi;subst hi;simp[Addr.add]) (fun u hu=>by rw[List.mem_singleton.1 hu];rfl) (by unfold maxLen;omega) (by omega) (by have:=HK.out.size;simp;omega) ?_;intro v' w2 hown hgrow hnl2 hat)
     have hal:=mx_al wr (.cells #[.int .i64 U] 28)
     have hkx:Kept (fun g=>w.heap.size≤g) wr w2:=(Kept.of_below hal).trans (Kept.grown hgrow) (fun i _ e=>(own_lt HO.out i e.symm).1)
     have HK2:=Lib.hid (HK.out.trans hkx (fun i hi h=>by omega))
     have HPT:=Lib.hid (rup_put b n' f' U w2 (HMR.out.kept hkx (by omega)) (by omega))
     have HO2:=Lib.hid (show w2.ownsRow w.heap.size 28 1 v' (us++ [U]).length ((us++ [U]).map (Value.int .i64))from by simpa using hown)
     obtain⟨Av,cv,rfl,_⟩:=mx_slice hown
     clear hown hgrow hnl2 hat hal hkx
     go_wp2_with fail
     refine HPT.out.mono ?_
     rintro e w3 ⟨rfl,⟨n3,hn3,hm3⟩,hk3⟩
     have HO3:=Lib.hid (own_kept HO2.out hk3 (fun g hg e=>by have:=(own_lt HO2.out g hg).1;omega))
     have HK3:=Lib.hid (HK2.out.trans hk3 (fun i _ e=>e))
     have HM3:=Lib.hid hm3
     clear hm3 hk3 HPT HK2 HO2
     go_wp2_with fail
     go_roundw
     case rel=>exact⟨k+1,n3,us++ [U],putF f' U,by omega,by simp;omega,by omega,by go_num,HO3,HM3,Lib.hid (okF_put HOKR.out U),HG2,HK3⟩
     case measure=>simp[intOf];omega
    ·rw[if_neg e3]at hg2
     have q3:((K:Int)==3)=false:=by simp;omega
     have HG2:=Lib.hid hg2
     clear hg2
     go_wp2_with fail
     refine HLK.out.mono ?_
     rintro e w' ⟨rfl,rfl⟩
     go_wp2_with fail
     refine bodyPost_ret (res_four rfl _ _) rfl ?_
     rw[←HG2.out]
     exact⟨⟨_,rfl,World.ownsRow_nil _ _ _ _⟩,HK.out⟩
  ·obtain rfl:k=cs.length:=by omega
   have hg2:=HG.out
   rw[List.drop_length,folGo_nil]at hg2
   have HG2:=Lib.hid hg2
   clear hg2
   go_wp2_with fail
   refine bodyPost_ret (res_four rfl _ _) rfl ?_
   rw[←HG2.out]
   exact⟨⟨_,rfl,HO.out⟩,HK.out⟩
theorem res_three {fn:Func} (h:fn.results= #[.tmp 4,.tmp 5,.tmp 6]) (tmps:Array Value) (w:World):(results fn tmps).run Tryz.prog w= .ok (.tuple #[tmps.getD 4 undef,tmps.getD 5 undef,tmps.getD 6 undef]) w:=by
 simp[results,h]
theorem wrong_ok {cs:List (List Int)} (h: ∀xs∈cs,clauseB xs=true):wrongE cs=0:=by
 unfold wrongE
 rw[if_pos (List.all_eq_true.2 h)]
theorem fresh_ints (W:World) (xs:List Int) (t:TypeId):IntsIn (fun g=>W.heap.size≤g) (W.alloc (.cells (xs.map (Value.int .i64)).toArray t)) (.slice (some ⟨W.heap.size,0,none⟩) xs.length xs.length) xs:=
 ⟨some ⟨W.heap.size,0,none⟩,xs.length,rfl,Nat.le_refl _,(fun h=>by cases h),fun i x hi=>⟨W.heap.size,0,rfl,by simp,Nat.le_refl _,by
  rw[mx_cell (World.alloc_heap_new _ _),Nat.zero_add]
  simp[hi]⟩⟩
def ChkOut (w w':World) (R:List Int×Nat×Nat) (e:Ending):Prop:= ∃v,e= .returned (.tuple #[v,.int .i64 (R.2.1:Nat),.int .i64 (R.2.2:Nat)])∧w'.ownsRow w.heap.size 28 1 v R.1.length (R.1.map (Value.int .i64))
theorem clause_len {xs:List Int} (h:clauseB xs=true):xs.length≤4096:=by
 unfold clauseB at h
 rw[Bool.and_eq_true,decide_eq_true_eq]at h
 exact h.1
set_option maxRecDepth 100000 in
set_option maxHeartbeats 4000000 in
theorem rup_check {O:Nat→Prop} (cv lv:Value) (c:List Int) (cs:List (List Int)) (w:World) (hc:IntsIn O w cv c) (hl:ClsIn O w lv cs) (hcl:clauseB c=true) (hcs: ∀xs∈cs,clauseB xs=true) (hn:cs.length≤65536):
  Calls Tryz.prog 96 #[cv,lv] w fun e w'=>ChkOut w w' (chkP c cs) e∧Below w.heap.size w w':=by
 obtain⟨W1,hW1⟩: ∃x,w.alloc (.cells #[cv] 30)=x:=⟨_,rfl⟩
 have hb1:Below w.heap.size w W1:=by rw[←hW1];exact mx_al _ _
 have hc1:W1.cell? ⟨w.heap.size,0,none⟩=some cv:=by rw[←hW1];exact mx_cell (j:=0) (World.alloc_heap_new _ _)
 have hall: ∀xs∈cs++ [c],clauseB xs=true:=fun xs hx=>by
  rcases List.mem_append.1 hx with h|h
  ·exact hcs xs h
  ·rw[List.mem_singleton.1 h];exact hcl
 have hwr:=rup_wrong lv cv w.heap.size cs c W1 (hl.below hb1) hc1 (hc.below hb1) (by omega) (fun xs hx=>by have:=clause_len (hall xs hx);omega)
 rw[wrong_ok hall]at hwr
 have HWR:=Lib.hid hwr
 have HC:=Lib.hid hc.lt
 have HL:=Lib.hid hl.lt
 have HCS:=Lib.hid hcs
 have HCL:=Lib.hid hcl
 have HW1:=Lib.hid hW1
 have HB1:=Lib.hid hb1
 obtain⟨Ac,cc,rfl,_⟩:=hc
 obtain⟨Al,cl,rfl,_⟩:=hl
 obtain⟨R,hR⟩: ∃r,chkP c cs=r:=⟨_,rfl⟩
 have HR:=Lib.hid hR
 rw[hR]
 clear hW1 hb1 hc1 hwr hall hcs hcl hR
 go_enter Tryz.func96,Tryz.ntmps96
 go_wp2_with fail
 rw[HW1.out]
 refine HWR.out.mono ?_
 rintro e W2 ⟨rfl,hb2⟩
 have HB2:=Lib.hid (HB1.out.trans (hb2.mono HB1.out.size))
 have HMA:=Lib.hid (rup_many Al cs.length cl W2)
 rw[if_neg (by omega)]at HMA
 clear hb2
 go_wp2_with fail
 refine HMA.out.mono ?_
 rintro e w' ⟨rfl,rfl⟩
 go_wp2_with fail
 have hbF:=mx_al W2 (.cells #[.int .i64 0,.int .i64 0] 40)
 have HFI:=Lib.hid (rup_first _ [0,0] _ (fresh_ints W2 [0,0] 40) (by decide))
 obtain⟨W3,hW3⟩: ∃x,W2.alloc (.cells #[.int .i64 0,.int .i64 0] 40)=x:=⟨_,rfl⟩
 have hfi:=HFI.out
 simp only[List.map_cons,List.map_nil,List.length_cons,List.length_nil]at hfi
 rw[hW3]at hfi hbF⊢
 have HFI:=Lib.hid hfi
 have HB3:=Lib.hid (HB2.out.trans (hbF.mono HB2.out.size))
 clear hW3 hbF hfi
 refine HFI.out.mono ?_
 rintro e w' ⟨rfl,rfl⟩
 have HAS:=rup_assume _ c W3 (HC.out.below HB3.out) (by have:=clause_len HCL.out;omega)
 unfold AsmOut at HAS
 simp only[HCL.out,if_true]at HAS
 have hf0:firstE [0,0]=0:=by decide
 rw[hf0]
 obtain⟨al,hal⟩: ∃q,alwL c=q:=⟨_,rfl⟩
 rw[hal]at HAS
 cases al with
 | true=>
  simp only[if_true]at HAS
  have HAS:=Lib.hid HAS
  have HR0:=Lib.hid (show(([],0,0):List Int×Nat×Nat)=R from by
   rw[←HR.out]
   unfold chkP
   rw[if_pos hal])
  clear hal hf0
  go_wp2_with fail
  refine HAS.out.mono ?_
  rintro e w4 ⟨rfl,hb⟩
  have HB4:=Lib.hid (HB3.out.trans (hb.mono HB3.out.size))
  clear hb
  go_wp2_with fail
  refine bodyPost_ret (res_three rfl _ _) rfl ?_
  rw[←HR0.out]
  exact⟨⟨_,rfl,World.ownsRow_nil _ _ _ _⟩,HB4.out⟩
 | false=>
  simp only[Bool.false_eq_true,if_false]at HAS
  have HAS:=Lib.hid HAS
  obtain⟨f0,hf⟩:=asm_some HCL.out hal
  have hrs:=HR.out
  unfold chkP at hrs
  rw[hal,hf]at hrs
  simp only[Bool.false_eq_true,if_false]at hrs
  have HR1:=Lib.hid hrs
  have HF0:=Lib.hid hf
  have hasl:(asmL c).length≤4096:=by
   have h1:=clause_len HCL.out
   have h2:=normL_len c
   unfold asmL
   rw[sortL_length,List.length_map]
   omega
  clear hal hf hf0 hrs
  go_wp2_with fail
  refine HAS.out.mono ?_
  rintro e w4 ⟨⟨v,rfl,hr⟩,hb⟩
  have HB4:=Lib.hid (HB3.out.trans (hb.mono HB3.out.size))
  have hasg:=rup_assigned v (asmL c) w4 (IntsIn.of_own hr) (by omega)
  rw[HF0.out]at hasg
  have HASG:=Lib.hid hasg
  obtain⟨Av,cv,rfl,_⟩:=mx_slice hr
  clear hb hr hasg
  go_wp2_with fail
  refine HASG.out.mono ?_
  rintro e w5 ⟨⟨mb,n,rfl,hmb,hnn,hm,hok⟩,hb5⟩
  have HB5:=Lib.hid (HB4.out.trans (hb5.mono HB4.out.size))
  have hsz:=HB4.out.size
  have hfo:=rup_follow mb n f0 _ cs w5 hm hok (HL.out.below HB5.out) (fun h=>by omega) (by omega) (fun xs hx=>clause_len (HCS.out xs hx)) (by omega)
  obtain⟨F,hF⟩: ∃F,folGo f0 cs [] 0=F:=⟨_,rfl⟩
  rw[hF]at hfo
  have hr1:=HR1.out
  rw[hF]at hr1
  obtain⟨us,m,bb,er,rfl⟩: ∃us m bb er,F=(us,m,bb,er):=⟨F.1,F.2.1,F.2.2.1,F.2.2.2,rfl⟩
  have HFO:=Lib.hid hfo
  have HR2:=Lib.hid hr1
  clear hb5 hm hok hfo hF hr1 HASG HAS
  go_wp2_with fail
  refine HFO.out.mono ?_
  rintro e w6 ⟨⟨vu,rfl,hu⟩,hk6⟩
  have HB6:=Lib.hid (HB5.out.trans (hk6.below (fun i e=>by omega) HB5.out.size))
  have HU:=Lib.hid (own_mono hu HB5.out.size)
  clear hu hk6 HFO
  simp only at HU⊢
  by_cases he:er=0
  ·subst he
   cases bb with
   | true=>
    go_wp2_with fail
    refine bodyPost_ret (res_three rfl _ _) rfl ?_
    rw[←HR2.out]
    exact⟨⟨_,rfl,HU.out⟩,HB6.out⟩
   | false=>
    go_wp2_with fail
    refine bodyPost_ret (res_three rfl _ _) rfl ?_
    rw[←HR2.out]
    exact⟨⟨_,rfl,HU.out⟩,HB6.out⟩
  ·have q0:((er:Int)==0)=false:=by simp;omega
   have hz: ¬(er=0∧bb=false):=fun h=>he h.1
   have hr2:=HR2.out
   rw[if_neg hz]at hr2
   have HR3:=Lib.hid hr2
   clear hr2 HR2 hz
   go_wp2_with fail
   refine bodyPost_ret (res_three rfl _ _) rfl ?_
   rw[←HR3.out]
   exact⟨⟨_,rfl,HU.out⟩,HB6.out⟩
set_option maxRecDepth 100000 in
theorem rup_Check {O:Nat→Prop} (cv lv:Value) (c:List Int) (cs:List (List Int)) (w:World) (hc:IntsIn O w cv c) (hl:ClsIn O w lv cs) (hcl:clauseB c=true) (hcs: ∀xs∈cs,clauseB xs=true) (hn:cs.length≤65536):
  Calls Tryz.prog 79 #[cv,lv] w fun e w'=>e= .returned (.tuple #[.int .i64 ((chkP c cs).2.1:Nat),.int .i64 ((chkP c cs).2.2:Nat)])∧Below w.heap.size w w':=by
 have H:=Lib.hid (rup_check cv lv c cs w hc hl hcl hcs hn)
 obtain⟨us,m,er,hR⟩: ∃us m er,chkP c cs=(us,m,er):=⟨_,_,_,rfl⟩
 rw[hR]at H⊢
 obtain⟨Ac,cc,rfl,_⟩:=hc
 obtain⟨Al,cl,rfl,_⟩:=hl
 clear hR hcs hcl
 go_enter Tryz.func79,Tryz.ntmps79
 go_wp2_with fail
 refine H.out.mono ?_
 rintro e w1 ⟨⟨v,rfl,hu⟩,hb⟩
 obtain⟨Av,cv,rfl,_⟩:=mx_slice hu
 have HB:=Lib.hid hb
 clear hu hb
 go_wp2_with fail
 go_ret2
 exact⟨rfl,HB.out⟩
set_option maxRecDepth 100000 in
set_option maxHeartbeats 1000000 in
theorem rup_Trim {O:Nat→Prop} (cv lv:Value) (c:List Int) (cs:List (List Int)) (w:World) (hc:IntsIn O w cv c) (hl:ClsIn O w lv cs) (hcl:clauseB c=true) (hcs: ∀xs∈cs,clauseB xs=true) (hn:cs.length≤65536):
  Calls Tryz.prog 55 #[cv,lv] w fun e w'=> ∃v,e= .returned (.tuple #[v,.int .i64 ((chkP c cs).2.2:Nat)])∧w'.ownsRow w.heap.size 3 1 v (trimP c cs).length ((trimP c cs).map (Value.int .i64))∧Below w.heap.size w w':=by
 have hlen:(chkP c cs).2.1≤cs.length∧(chkP c cs).1.length≤cs.length:=by
  unfold chkP
  split
  ·exact⟨Nat.zero_le _,Nat.zero_le _⟩
  ·split
   ·exact⟨Nat.zero_le _,Nat.zero_le _⟩
   ·rename_i f _
    have:=folGo_len cs f [] 0
    simp only[List.length_nil,Nat.zero_add]at this
    exact⟨this.2,this.1⟩
 have hlit: ∀x∈(chkP c cs).1,(Lit.int .i64 x).wf=true:=fun x hx=>by
  unfold chkP at hx
  split at hx
  ·cases hx
  ·split at hx
   ·cases hx
   ·rcases folGo_lit cs _ _ _ x hx with h|⟨d,hd,hxd⟩
    ·cases h
    ·have h1:=hcs d hd
     unfold clauseB at h1
     rw[Bool.and_eq_true]at h1
     have:=(litB_iff x).1 (List.all_eq_true.1 h1.2 x hxd)
     exact wf64 (by omega) (by omega)
 have HLI:=Lib.hid hlit
 have H:=Lib.hid (rup_check cv lv c cs w hc hl hcl hcs hn)
 have HL:=Lib.hid hl
 have HCS:=Lib.hid hcs
 unfold trimP
 obtain⟨us,m,er,hR⟩: ∃us m er,chkP c cs=(us,m,er):=⟨_,_,_,rfl⟩
 rw[hR]at H HLI hlen⊢
 obtain⟨hm,hul⟩:=hlen
 simp only at hm hul HLI⊢
 obtain⟨TR,hTR⟩: ∃t,(if er=0∧m≠0 then needL (cs.take m) us else [])=t:=⟨_,rfl⟩
 rw[hTR]
 obtain⟨Ac,cc,rfl,_⟩:=hc
 obtain⟨Al,cl,rfl,hcl',hAl,_⟩:=hl
 have HTR:=Lib.hid hTR
 clear hR hcs hcl hlit hTR
 go_enter Tryz.func55,Tryz.ntmps55
 go_wp2_with fail
 refine H.out.mono ?_
 rintro e w1 ⟨⟨v,rfl,hu⟩,hb⟩
 obtain⟨Av,cv,rfl,_⟩:=mx_slice hu
 have HB:=Lib.hid hb
 have HU:=Lib.hid hu
 clear hu hb
 simp only at HU⊢
 by_cases he:er=0
 ·subst he
  by_cases h0:m=0
  ·subst h0
   have h1:=HTR.out
   rw[if_neg (by simp)]at h1
   have HT:=Lib.hid h1
   clear h1 HTR
   go_wp2_with fail
   go_ret2
   rw[←HT.out]
   exact⟨_,rfl,World.ownsRow_nil _ _ _ _,HB.out⟩
  ·have h1:=HTR.out
   rw[if_pos ⟨rfl,h0⟩]at h1
   have HT:=Lib.hid h1
   have q0:((m:Int)==0)=false:=by simp;omega
   have hAl2:Al≠none:=fun e=>by have:=hAl e;omega
   obtain⟨a,rfl⟩: ∃a,Al=some a:=by cases Al with|none=>exact absurd rfl hAl2|some a=>exact⟨a,rfl⟩
   have hmc:m≤cl:=by omega
   clear h1 HTR hAl hAl2
   have htl:(cs.take m).length=m:=by rw[List.length_take];omega
   have hnd:=rup_needed _ _ (cs.take m) us w1 ((HL.out.below HB.out).take hm) (IntsIn.of_own HU.out) (by omega) (fun xs hx=>by have:=clause_len (HCS.out xs (List.mem_of_mem_take hx));omega) (by omega) HLI.out
   rw[HT.out]at hnd
   have HND:=Lib.hid hnd
   clear hnd htl
   go_wp2_with fail
   refine HND.out.mono ?_
   rintro e w2 ⟨vr,rfl,ho,hb2⟩
   obtain⟨Ar,cr,rfl,_⟩:=mx_slice ho
   have HO:=Lib.hid (own_mono ho (show w.heap.size≤w1.heap.size+1 from Nat.le_succ_of_le HB.out.size))
   have HB2:=Lib.hid (HB.out.trans (hb2.mono HB.out.size))
   clear ho hb2 HND
   go_wp2_with fail
   go_ret2
   exact⟨_,rfl,HO.out,HB2.out⟩
 ·have h1:=HTR.out
  rw[if_neg (fun h=>he h.1)]at h1
  have HT:=Lib.hid h1
  have q0:((er:Int) != 0)=true:=by simp;omega
  clear h1 HTR
  go_wp2_with fail
  go_ret2
  rw[←HT.out]
  exact⟨_,rfl,World.ownsRow_nil _ _ _ _,HB.out⟩
end Go.Proofs.YtajbmjpodeilpaaGreatDoor
namespace Go.Proofs.YtajbmjpodeilpaaGreatDoor
open Go.RowKit Go.Maps
theorem folGo_lt: ∀(cs:List (List Int)) (f:Int→Int) (us:List Int) (i:Nat),(folGo f cs us i).2.2.2≠0→(folGo f cs us i).2.1<i+cs.length:=by
 intro cs
 induction cs with
 | nil=>
  intro f us i h
  exact absurd rfl h
 | cons c r ih=>
  intro f us i h
  unfold folGo at h⊢
  by_cases h1:(lookF f c).1=2
  ·rw[if_pos h1]at h
   exact absurd rfl h
  ·rw[if_neg h1]at h⊢
   by_cases h2:(lookF f c).1=3
   ·rw[if_pos h2]at h⊢
    have:=ih _ _ _ h
    rw[List.length_cons]
    omega
   ·rw[if_neg h2,List.length_cons]
    show i<_
    omega
theorem chkP_lt {c:List Int} {hs:List (List Int)} (h:(chkP c hs).2.2=81):(chkP c hs).2.1<hs.length:=by
 unfold chkP at h⊢
 split at h
 ·cases h
 ·rename_i h1
  rw[if_neg h1]
  split at h
  ·cases h
  ·simp only at h⊢
   split at h
   ·cases h
   ·have:=folGo_lt hs _ [] 0 (by rw[h];decide)
    omega
theorem named_len (es:Ents): ∀hs:List Int,(ckNamed es hs).length≤hs.length:=by
 intro hs
 induction hs with
 | nil=>exact Nat.le_refl _
 | cons h r ih=>
  unfold ckNamed
  split
  ·rw[List.length_cons,List.length_cons]
   omega
  ·exact Nat.zero_le _
theorem named_clause {es:Ents} (hb: ∀p∈es,clauseB p.2=true) (hs:List Int): ∀d∈ckNamed es hs,clauseB d=true:=by
 induction hs with
 | nil=>intro d hd;cases hd
 | cons h r ih=>
  intro d hd
  unfold ckNamed at hd
  split at hd
  ·rename_i c hc
   rcases List.mem_cons.1 hd with e|hd
   ·rw[e]
    exact hb _ (getA_some hc)
   ·exact ih d hd
  ·cases hd
set_option maxRecDepth 100000 in
set_option maxHeartbeats 4000000 in
theorem ck_follows {base:Nat} {O Oc:Nat→Prop} (b:Nat) (k:Ckr) (cv hv:Value) (c hs:List Int) (w:World) (h:CkAt base w b k) (hb: ∀p∈k.ents,clauseB p.2=true) (hc:IntsIn Oc w cv c) (hcb:clauseB c=true) (hh:IntsIn O w hv hs) (hwf: ∀x∈hs,(Lit.int .i64 x).wf=true) (hl:hs.length≤65536):
  Calls Tryz.prog 78 #[.pointer (some ⟨b,0,none⟩),cv,hv,.func (.func 79) #[] #[]] w fun e w'=>e= .returned (.tuple #[.bool (ckFol k.ents c hs).1,.int .i64 (ckFol k.ents c hs).2.1,.int .i64 ((ckFol k.ents c hs).2.2:Nat)])∧Below w.heap.size w w':=by
 have HN:=Lib.hid (ck_named b k hv hs w h hh hwf (by omega))
 have hnl:=named_len k.ents hs
 have hbw:b<w.heap.size:=by
  obtain⟨_,_,hm⟩:=h
  exact heap_lt hm.box
 have HCK:=Lib.hid (fun(W:World) (v:Value) (hbl:Below w.heap.size w W) (hv:ClsIn (fun _=>True) W v (ckNamed k.ents hs))=>rup_Check cv v c (ckNamed k.ents hs) W ((hc.below hbl).mono fun _ _=>trivial) hv hcb (named_clause hb hs) (by omega))
 have hlt:=fun h=>chkP_lt (c:=c) (hs:=ckNamed k.ents hs) h
 obtain⟨L,hL⟩: ∃L,ckNamed k.ents hs=L:=⟨_,rfl⟩
 have hF:ckFol k.ents c hs=if(chkP c L).2.2=0 then(true,0,0)else if(chkP c L).2.2=81 then(false,hs.getD (chkP c L).2.1 0,81)else if L.length<hs.length then(false,hs.getD L.length 0,91)else(false,0,0):=by
  unfold ckFol
  rw[hL]
 obtain⟨R,hR⟩: ∃R,ckFol k.ents c hs=R:=⟨_,rfl⟩
 rw[hR]at hF⊢
 rw[hL]at hnl HN HCK hlt
 obtain⟨n,hn⟩: ∃n,(chkP c L).2.1=n:=⟨_,rfl⟩
 obtain⟨er,her⟩: ∃er,(chkP c L).2.2=er:=⟨_,rfl⟩
 rw[hn,her]at HCK hF hlt
 have HF:=Lib.hid hF
 have HH:=Lib.hid hh
 have HC:=Lib.hid hc
 obtain⟨Ac,cc,rfl,_⟩:=hc
 obtain⟨A,ch,rfl,hch,_,_⟩:=hh
 clear h hwf hR hF hL hn her hb hcb
 go_enter Tryz.func78,Tryz.ntmps78
 go_wp2_with fail
 refine HN.out.mono ?_
 rintro e w1 ⟨v,rfl,hna,hb1⟩
 have hcl:=(hna.cls hbw).mono (O':=fun _=>True) fun _ _=>trivial
 obtain⟨Al,cl,rfl,_⟩:=id hcl
 have HK2:=Lib.hid (HCK.out w1 _ hb1 hcl)
 have HB1:=Lib.hid hb1
 clear hna hb1 hcl HN HCK
 go_wp2_with fail
 refine HK2.out.mono ?_
 rintro e w2 ⟨rfl,hb2⟩
 have HB2:=Lib.hid (HB1.out.trans (hb2.mono HB1.out.size))
 clear hb2 HK2
 by_cases h0:er=0
 ·obtain rfl:=HF.out.trans (if_pos h0)
  have q0:((er:Int)==0)=true:=beq_iff_eq.2 (by omega)
  clear h0 HF hlt
  go_wp2_with fail
  refine bodyPost_ret (v:=.tuple #[.bool true,.int .i64 0,.int .i64 0]) (by simp[results,Tryz.results78,go_sem]) rfl ?_
  exact⟨rfl,HB2.out⟩
 ·have q0:((er:Int)==0)=false:=beq_eq_false_iff_ne.2 (by omega)
  have HF2:=Lib.hid (HF.out.trans (if_neg h0))
  clear HF h0
  by_cases h1:er=81
  ·have q1:((er:Int)==81)=true:=beq_iff_eq.2 (by omega)
   have hnlt:=hlt h1
   have hnh:n<hs.length:=by omega
   obtain⟨id,hid⟩:=getElem_of hnh
   have hgd:hs.getD n 0=id:=by rw[List.getD_eq_getElem?_getD,hid];rfl
   obtain⟨A',c',hAc,_,_,hxs⟩:=HH.out.below HB2.out
   simp only[Value.slice.injEq,true_and]at hAc
   obtain⟨rfl,rfl⟩:=hAc
   obtain⟨g,o,rfl,hg,_,d1⟩:=hxs n id hid
   obtain rfl:R=(false,id,81):=(HF2.out.trans (if_pos h1)).trans (by rw[hgd])
   have HER:=Lib.hid h1
   have hni:(n:Int)<(hs.length:Int):=by omega
   have hwn:IntKind.i64.wrap (n:Int)=(n:Int):=IntWalk.i64_in _ (by omega)
   clear HF2 hxs hid hgd hlt h1 hnlt
   go_upto_region 6 with fail
   refine wp_region_held_drew (S:=fun w'=>Below w2.heap.size w2 w') (by kernel_rfl) (mx_drew w2) (fun hS=>?_)
   refine takeE 0 30 ?_
   refine takeE 1 31 ?_
   refine takeE 2 32 ?_
   refine takeF 3 33 (fun wq hSw=>(hSw.cell (p:=⟨g,o+n,none⟩) hg).trans d1) ?_
   refine takeE 4 34 ?_
   refine takeE 5 8 ?_
   refine takeE 6 9 ?_
   refine takeE 7 10 ?_
   refine wpAnyH_done (by kernel_rfl) ?_ _
   go_wp2_with fail
   refine bodyPost_ret (v:=.tuple #[.bool false,.int .i64 id,.int .i64 (er:Int)]) (by simp[results,Tryz.results78,go_sem]) rfl ?_
   exact⟨by rw[HER.out];rfl,HB2.out.trans (hS.mono HB2.out.size)⟩
  ·have q1:((er:Int)==81)=false:=beq_eq_false_iff_ne.2 (by omega)
   have HF3:=Lib.hid (HF2.out.trans (if_neg h1))
   clear HF2 h1 hlt
   by_cases h2:L.length<hs.length
   ·have q2:decide ((L.length:Int)<(hs.length:Int))=true:=decide_eq_true (by omega)
    have q2n:decide (L.length<hs.length)=true:=decide_eq_true h2
    obtain⟨id,hid⟩:=getElem_of h2
    have hgd:hs.getD L.length 0=id:=by rw[List.getD_eq_getElem?_getD,hid];rfl
    obtain⟨A',c',hAc,_,_,hxs⟩:=HH.out.below HB2.out
    simp only[Value.slice.injEq,true_and]at hAc
    obtain⟨rfl,rfl⟩:=hAc
    obtain⟨g,o,rfl,hg,_,d1⟩:=hxs L.length id hid
    obtain rfl:R=(false,id,91):=(HF3.out.trans (if_pos h2)).trans (by rw[hgd])
    have hni:(L.length:Int)<(hs.length:Int):=by omega
    clear HF3 hxs hid hgd
    go_upto_region 8 with fail
    refine wp_region_held_drew (S:=fun w'=>Below w2.heap.size w2 w') (by kernel_rfl) (mx_drew w2) (fun hS=>?_)
    refine takeE 0 41 ?_
    refine takeE 1 42 ?_
    refine takeE 2 43 ?_
    refine takeE 3 44 ?_
    refine takeF 4 45 (fun wq hSw=>(hSw.cell (p:=⟨g,o+L.length,none⟩) hg).trans d1) ?_
    refine takeE 5 8 ?_
    refine takeE 6 9 ?_
    refine takeE 7 10 ?_
    refine wpAnyH_done (by kernel_rfl) ?_ _
    go_wp2_with fail
    refine bodyPost_ret (v:=.tuple #[.bool false,.int .i64 id,.int .i64 91]) (by simp[results,Tryz.results78,go_sem]) rfl ?_
    exact⟨rfl,HB2.out.trans (hS.mono HB2.out.size)⟩
   ·have q2:decide ((L.length:Int)<(hs.length:Int))=false:=decide_eq_false (by omega)
    have q2n:decide (L.length<hs.length)=false:=decide_eq_false h2
    obtain rfl:=HF3.out.trans (if_neg h2)
    clear HF3 h2
    go_wp2_with fail
    refine bodyPost_ret (v:=.tuple #[.bool false,.int .i64 0,.int .i64 0]) (by simp[results,Tryz.results78,go_sem]) rfl ?_
    exact⟨rfl,HB2.out⟩
end Go.Proofs.YtajbmjpodeilpaaGreatDoor
namespace Go.Proofs.YtajbmjpodeilpaaGreatDoor
open Go.RowKit
theorem jinfo_int:(Tryz.prog.info? 3).map (fun i=>(i.zero,i.size,i.bytes))=some (some (.int .i64 0),1,8):=by kernel_rfl
end Go.Proofs.YtajbmjpodeilpaaGreatDoor
namespace Go.Proofs.YtajbmjpodeilpaaGreatDoor
open Go.RowKit Go.Maps
theorem CkAtX.lower {X:Nat→Prop} {base base':Nat} {w:World} {b:Nat} {k:Ckr} (h:CkAtX X base w b k) (hl:base'≤base):CkAtX X base' w b k:=by
 obtain⟨mb,K,h⟩:=h
 exact⟨mb,K,{ h with
  bb:=Nat.le_trans hl h.bb
  bm:=Nat.le_trans hl h.bm
  row:=fun p hp=>own_mono (h.row p hp) hl
  offb:=h.offb
  offm:=h.offm
  off:=h.off }⟩
theorem putAll_snoc (c:List Int): ∀(cs:List (List Int)) (k:Ckr) (i:Nat),k.putAll i (cs++ [c])=(k.putAll i cs).put (((i+cs.length:Nat):Int)+1) c
 | [],k,i=>rfl
 | d::r,k,i=>by
  show(k.put ((i:Int)+1) d).putAll (i+1) (r++ [c])=((k.put ((i:Int)+1) d).putAll (i+1) r).put _ c
  rw[putAll_snoc c r _ (i+1),List.length_cons,show i+1+r.length=i+(r.length+1) by omega]
theorem putAll_len: ∀(cs:List (List Int)) (k:Ckr) (i:Nat),(k.putAll i cs).ents.length≤k.ents.length+cs.length
 | [],k,i=>Nat.le_refl _
 | d::r,k,i=>by
  have h1:=putAll_len r (k.put ((i:Int)+1) d) (i+1)
  have h2:(k.put ((i:Int)+1) d).ents.length≤k.ents.length+1:=putA_length_le k.ents _ _
  show((k.put ((i:Int)+1) d).putAll (i+1) r).ents.length≤_
  rw[List.length_cons]
  omega
set_option maxRecDepth 100000 in
set_option maxHeartbeats 4000000 in
theorem ck_new {O:Nat→Prop} (n:Int) (lv:Value) (cs:List (List Int)) (w:World) (h:ClsIn O w lv cs) (hc: ∀c∈cs,clauseB c=true) (hn:cs.length≤1000) (hf:fchk n cs=(-1,0)):
  Calls Tryz.prog 28 #[.agg #[.int .i64 n,lv]] w fun e w'=> ∃b,e= .returned (.tuple #[.pointer (some ⟨b,0,none⟩),.int .i64 0])∧CkAt w.heap.size w' b (ckrNew cs)∧Below w.heap.size w w':=by
 obtain⟨W,hW⟩: ∃W,w.alloc (.cells #[.int .i64 n,lv] 24)=W:=⟨_,rfl⟩
 have hb:Below w.heap.size w W:=by rw[←hW];exact mx_al _ _
 have hz:W.heap.size=w.heap.size+1:=by rw[←hW];simp
 have hbn:W.heap[w.heap.size]? =some (.cells #[.int .i64 n,lv] 24 (0,0)):=by rw[←hW];exact World.alloc_heap_new _ _
 have b0:W.cell? ⟨w.heap.size,0,none⟩=some (.int .i64 n):=mx_cell (j:=0) hbn
 have b1:W.cell? ⟨w.heap.size,1,none⟩=some lv:=mx_cell (j:=1) hbn
 have hlt:=heap_lt hbn
 have HC:=Lib.hid (h.below hb).lt
 have HCB:=Lib.hid hc
 have HCH:=form_check n lv cs W (h.below hb) (fun c hc2=>by
  have:=hc c hc2
  unfold clauseB at this
  rw[Bool.and_eq_true,decide_eq_true_eq]at this
  omega)
 rw[hf]at HCH
 have HCH:=Lib.hid HCH
 have HW:=Lib.hid hW
 have HB:=Lib.hid hb
 have B1:=Lib.hid b1
 obtain⟨A,c,rfl,hcc,_⟩:=h
 have hmm:=@run_makeMap Tryz.prog
 clear hb hf hbn hc
 go_enter Tryz.func28,Tryz.ntmps28
 go_wp2_with fail
 refine HCH.out.mono ?_
 rintro e w1 ⟨rfl,hb1⟩
 have HB1:=Lib.hid hb1
 have hz1:=hb1.size
 obtain⟨W2,hW2⟩: ∃x,w1.alloc (.map #[] 0)=x:=⟨_,rfl⟩
 obtain⟨W3,hW3⟩: ∃x,W2.alloc (.cells #[.map (some w1.heap.size),.int .i64 0,.bool false,.int .i64 0,.int .i64 0,.int .i64 0,.int .i64 0] 91)=x:=⟨_,rfl⟩
 have hb2:Below w1.heap.size w1 W2:=by rw[←hW2];exact mx_al _ _
 have hb3:Below W2.heap.size W2 W3:=by rw[←hW3];exact mx_al _ _
 have hz2:W2.heap.size=w1.heap.size+1:=by rw[←hW2];simp
 have hm2:MapI W2 w1.heap.size []:=by rw[←hW2];exact MapS.made w1
 have hbx:W3.heap[W2.heap.size]? =some (.cells #[.map (some w1.heap.size),.int .i64 0,.bool false,.int .i64 0,.int .i64 0,.int .i64 0,.int .i64 0] 91 (0,0)):=by rw[←hW3];exact World.alloc_heap_new _ _
 rw[hz2]at hbx
 have HCK:=Lib.hid (show CkAt (w.heap.size+1) W3 (w1.heap.size+1) ckr0 from⟨w1.heap.size,[],⟨by omega,by omega,hbx,hm2.below hb3,rfl,(fun p hp=>by cases hp),fun h=>h,fun h=>h,(fun p hp=>by cases hp)⟩⟩)
 have HBW3:=Lib.hid (HB1.out.trans ((hb2.trans (hb3.mono (by omega))).mono hz1))
 have hlt1:=hlt
 have d1:=(HB1.out.cell (p:=⟨w.heap.size,1,none⟩) hlt).trans B1.out
 have d3:=(HBW3.out.cell (p:=⟨w.heap.size,1,none⟩) hlt).trans B1.out
 have hzz:W.heap.size≤W3.heap.size:=HBW3.out.size
 clear hb1 hb2 hb3 hm2 hbx b1
 go_wp2_with fail
 clear hW2 hW3 d1 d3 hmm
 go_loopw [23] (fun iv wr=> ∃k:Nat,k≤cs.length∧iv= .int .i64 k∧Hid (CkAt (w.heap.size+1) wr (w1.heap.size+1) (ckr0.putAll 0 (cs.take k)))∧Hid (Below (w.heap.size+1) W3 wr)) (fun iv _=>cs.length-(intOf iv).toNat)
 case atStart=>exact⟨0,Nat.zero_le _,rfl,HCK,Lib.hid (Below.refl _ _)⟩
 case round=>
  obtain⟨k,hk,rfl,HCk,HBk⟩:=hrel
  have HBr:=Lib.hid (HBW3.out.trans (HBk.out.mono (by omega)))
  by_cases hlt2:k<cs.length
  ·obtain⟨x,hx⟩:=getElem_of hlt2
   have hbr2:Below W.heap.size W wr:=HBW3.out.trans (HBk.out.mono (by omega))
   obtain⟨A',c',hAc,_,_,hxs⟩:=HC.out.below hbr2
   simp only[Value.slice.injEq,true_and]at hAc
   obtain⟨rfl,rfl⟩:=hAc
   obtain⟨g,o,u,rfl,hg,_,d0,hu⟩:=hxs k x hx
   have hxb:=HCB.out x (List.mem_of_getElem? hx)
   have hxl:x.length≤4096:=by
    unfold clauseB at hxb
    rw[Bool.and_eq_true,decide_eq_true_eq]at hxb
    exact hxb.1
   have hel:(ckr0.putAll 0 (cs.take k)).ents.length≤1000000:=by
    have:=putAll_len (cs.take k) ckr0 0
    rw[List.length_take]at this
    have h0:ckr0.ents.length=0:=rfl
    omega
   have hbz:w.heap.size+1≤wr.heap.size:=by have:=HBk.out.size;omega
   have hwf:(Lit.int .i64 ((k:Int)+1)).wf=true:=wf64 (by omega) (by omega)
   have HPUT:=Lib.hid (ck_put (w1.heap.size+1) _ ((k:Int)+1) u x wr HCk.out hbz hwf hu hxl hel)
   have HTK:=Lib.hid (show ckr0.putAll 0 (cs.take (k+1))=(ckr0.putAll 0 (cs.take k)).put ((k:Int)+1) x from by
    rw[List.take_add_one,hx]
    show ckr0.putAll 0 (cs.take k++ [x])=_
    rw[putAll_snoc,Nat.zero_add,List.length_take,Nat.min_eq_left hk])
   have hwk:IntKind.i64.wrap ((k:Int)+1)=(k:Int)+1:=IntWalk.i64_in _ (by omega)
   obtain⟨Au,cu,rfl,_⟩:=hu
   clear hx hxs hbr2 hxb hxl hel hwf
   go_wp2_with fail
   refine HPUT.out.mono ?_
   rintro e w5 ⟨rfl,hck5,hb5,-⟩
   have HCK5:=Lib.hid (HTK.out▸hck5)
   have HB5:=Lib.hid (HBk.out.trans hb5)
   clear hck5 hb5 HPUT d0
   go_wp2_with fail
   go_roundw
   case rel=>exact⟨k+1,by omega,by go_num,HCK5,HB5⟩
   case measure=>simp[intOf];omega
  ·obtain rfl:k=cs.length:=by omega
   have hck:=HCk.out
   rw[List.take_length]at hck
   obtain⟨mb,K,hm⟩:=hck
   have c1:=hm.cells.2.1
   have f1:=hm.free 1
   have hblt:=heap_lt hm.box
   have d1:wr.cell? ⟨w.heap.size,1,none⟩=some (.slice A cs.length c):=(HBk.out.cell (p:=⟨w.heap.size,1,none⟩) (by simp only;omega)).trans ((HBW3.out.cell (p:=⟨w.heap.size,1,none⟩) hlt).trans B1.out)
   have HM:=Lib.hid hm
   clear hm
   go_wp2_with fail
   have hx:=HM.out.box
   have HSET:=Lib.hid (HM.out.set (k':=ckrNew cs) (j:=1) (v:=.int .i64 (cs.length:Nat)) (by exact mx_set hx (j:=1) _) rfl)
   refine bodyPost_ret (v:=.tuple #[.pointer (some ⟨w1.heap.size+1,0,none⟩),.int .i64 0]) (by simp[results,Tryz.results28,go_sem]) rfl ?_
   refine⟨_,rfl,CkAtX.lower ⟨mb,K,HSET.out⟩ (Nat.le_succ _),?_⟩
   exact(HB.out.trans ((HBr.out.mono (by omega)).trans ((HM.out.setBelow 1 _ (by omega)).mono (by omega))))
end Go.Proofs.YtajbmjpodeilpaaGreatDoor
namespace Go.Proofs.YtajbmjpodeilpaaGreatDoor
open Go.RowKit Go.Maps
theorem ck_clone {w:World} {mb:Nat} {m:List (Int×Value)} (h:MapI w mb m):
  Calls Tryz.prog 77 #[.map (some mb)] w fun e w'=>e= .returned (.map (some w.heap.size))∧MapI w' w.heap.size m∧Below w.heap.size w w':=
 (AnyW.maps_Clone_owns Tryz.cloneM _ _ mb _ _ w h.1).mono fun _ _ ⟨h1,h2,_,h4⟩=>⟨h1,⟨h2,h.2⟩,h4⟩
theorem ckDel_step {K:List (Int×(Value×List Int))} {hs:List Int} {j:Nat} {id:Int} (h:hs[j]? =some id):ckDel (mapV Prod.snd K) (hs.drop j)=if(getA K id).isNone=true then(mapV Prod.snd K,id,91)else ckDel (mapV Prod.snd (delA K id)) (hs.drop (j+1)):=by
 have hlt:=(List.getElem?_eq_some_iff.1 h).1
 rw[List.drop_eq_getElem_cons hlt]
 rw[List.getElem?_eq_getElem hlt]at h
 rw[Option.some.inj h]
 show(if(getA (mapV Prod.snd K) id).isNone=true then _ else ckDel (delA (mapV Prod.snd K) id) _)=_
 rw[mapV_get,Option.isNone_map,mapV_del]
set_option maxRecDepth 100000 in
set_option maxHeartbeats 4000000 in
theorem ck_remove {X:Nat→Prop} {base:Nat} {O:Nat→Prop} (b:Nat) (k:Ckr) (hv:Value) (hs:List Int) (w:World) (h:CkAtX X base w b k) (hbase:base≤w.heap.size) (hh:IntsIn O w hv hs) (hwf: ∀x∈hs,(Lit.int .i64 x).wf=true) (hl:hs.length≤1000000) (hX: ∀g,X g→g<w.heap.size:=by exact fun _ h=>h.elim):
  Calls Tryz.prog 39 #[.pointer (some ⟨b,0,none⟩),hv] w fun e w'=>e= .returned (.tuple #[.int .i64 (ckDel k.ents hs).2.1,.int .i64 ((ckDel k.ents hs).2.2:Nat)])∧CkAtX X base w' b (if(ckDel k.ents hs).2.2=0 then { k with ents:=(ckDel k.ents hs).1 } else k)∧Below base w w'∧Kept (fun g=>g=b) w w':=by
 obtain⟨mb,K,h⟩:=h
 have HM:=Lib.hid h
 have HH:=Lib.hid hh
 have HWF:=Lib.hid hwf
 have c0:=h.cells.1
 have hbl:=heap_lt h.box
 have HCN:=Lib.hid (ck_clone h.map)
 obtain⟨R,hR⟩: ∃R,ckDel k.ents hs=R:=⟨_,rfl⟩
 rw[hR]
 have HR:=Lib.hid (show R=ckDel (mapV Prod.snd K) (hs.drop 0)from by rw[←hR,h.ents,List.drop_zero])
 obtain⟨k2,hk2⟩: ∃k2,(if R.2.2=0 then { k with ents:=R.1 } else k)=k2:=⟨_,rfl⟩
 rw[hk2]
 have HK2:=Lib.hid hk2
 obtain⟨A,c,rfl,hc,_,_⟩:=hh
 clear h hwf hR hk2
 go_enter Tryz.func39,Tryz.ntmps39
 go_wp2_with fail
 refine HCN.out.mono ?_
 rintro e w1 ⟨rfl,hm1,hb1⟩
 have HM1:=Lib.hid hm1
 have HB1:=Lib.hid hb1
 clear hm1 hb1 HCN c0
 go_wp2_with fail
 go_loopw [18] (fun i wr=> ∃(j:Nat) (Kc:List (Int×(Value×List Int))),j≤hs.length∧i= .int .i64 j∧Hid (R=ckDel (mapV Prod.snd Kc) (hs.drop j))∧Hid (∀p∈Kc,p∈K)∧Hid (MapI wr w.heap.size (mapV Prod.fst Kc))∧Hid (Below w.heap.size w wr)) (fun i _=>hs.length-(intOf i).toNat)
 case atStart=>exact⟨0,K,Nat.zero_le _,rfl,HR,Lib.hid (fun p hp=>hp),HM1,HB1⟩
 case round=>
  obtain⟨j,Kc,hj,rfl,HE,HS,HMc,HB⟩:=hrel
  by_cases hlt:j<hs.length
  ·obtain⟨id,hid⟩:=getElem_of hlt
   obtain⟨A',c',hAc,_,_,hxs⟩:=HH.out.below HB.out
   simp only[Value.slice.injEq,true_and]at hAc
   obtain⟨rfl,rfl⟩:=hAc
   obtain⟨g,o,rfl,hg,_,d1⟩:=hxs j id hid
   have hwf:=HWF.out id (List.mem_of_getElem? hid)
   have hlk:=HMc.out.look int_law Tryz.underlying3 Tryz.underlying89 (z:=.slice none 0 0) (by kernel_rfl) true hwf
   rw[mapV_get,Option.isSome_map]at hlk
   have hst:=ckDel_step (K:=Kc) hid
   obtain⟨q,hq⟩: ∃q,getA Kc id=q:=⟨_,rfl⟩
   rw[hq]at hlk hst
   cases q with
   | none=>
    have HE2:=Lib.hid (show R=(mapV Prod.snd Kc,id,91)from HE.out.trans (hst.trans (if_pos rfl)))
    simp only[Option.map_none,Option.getD_none,Option.isSome_none,if_true]at hlk
    clear hst hq hxs hid
    go_wp2_with fail
    go_ret2
    rw[←HK2.out,HE2.out]
    exact⟨rfl,⟨mb,K,HM.out.below HB.out⟩,HB.out.mono hbase,Kept.of_below HB.out⟩
   | some p=>
    obtain⟨u,d⟩:=p
    have HE2:=Lib.hid (show R=ckDel (mapV Prod.snd (delA Kc id)) (hs.drop (j+1))from HE.out.trans (hst.trans (if_neg (by simp))))
    simp only[Option.map_some,Option.getD_some,Option.isSome_some,if_true]at hlk
    have HWX:=Lib.hid hwf
    clear hst hq hxs hid
    go_wp2_with (at_delete;go_must (refine wpList_delS HMc.out int_law Tryz.underlying3 Tryz.underlying89 rfl _ _ rfl rfl id rfl HWX.out ?_);intro w2 hm2 hg2)
    have HM2:=Lib.hid (show MapI w2 w.heap.size (mapV Prod.fst (delA Kc id))from by rw[mapV_del];exact hm2)
    have HB2:=Lib.hid (HB.out.grown hg2 HB.out.size (fun g e=>by rw[Option.some.inj e];exact Nat.le_refl _))
    have HS2:=Lib.hid (show∀p∈delA Kc id,p∈K from fun p hp=>HS.out p (delA_mem.1 hp).1)
    clear hm2 hg2 hlk hwf
    go_wp2_with fail
    go_roundw
    case rel=>exact⟨j+1,_,by omega,by go_num,HE2,HS2,HM2,HB2⟩
    case measure=>simp[intOf];omega
  ·obtain rfl:j=hs.length:=by omega
   have HE2:=Lib.hid (show R=(mapV Prod.snd Kc,0,0)from by rw[HE.out,List.drop_length];rfl)
   have hm:=HM.out.below HB.out
   have hbx:=hm.box
   have c0:=hm.cells.1
   have f0:=hm.free 0
   clear hm
   go_wp2_with fail
   go_ret2
   rw[←HK2.out,HE2.out]
   have hk:Kept (fun g=>g=b) wr (wr.setCell ⟨b,0,none⟩ (.map (some w.heap.size))):=(Kept.refl (fun g=>g=b) wr).setCell ⟨b,0,none⟩ _ rfl
   refine⟨rfl,?_,below_kept (HB.out.mono hbase) hk (fun i e=>by rw[e];exact HM.out.bb) (Nat.le_trans hbase HB.out.size),(Kept.of_below HB.out).trans hk (fun _ _ h=>h)⟩
   rw[if_pos rfl]
   exact⟨w.heap.size,Kc,{
    bb:=HM.out.bb
    bm:=hbase
    box:=by exact mx_set hbx (j:=0) _
    map:=HMc.out.kept hk (fun e=>by omega)
    ents:=rfl
    row:=fun p hp=>by
     have hr:=own_below (HM.out.row p (HS.out p hp)) HB.out
     exact own_kept hr hk (fun _ hg e=>mx_not hr hbx (by decide) (by rw[←e];exact hg))
    offb:=HM.out.offb
    offm:=fun hx=>Nat.lt_irrefl _ (hX _ hx)
    off:=fun p hp=>HM.out.off p (HS.out p hp) }⟩
end Go.Proofs.YtajbmjpodeilpaaGreatDoor
