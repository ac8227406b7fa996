/- package clauses: Without. awake (package salvorlaw14). package salvorlaw13: WatchAdds. Calls of a law at a watch that knows all of its clauses. package rup: follow, check, Check, Trim. AnalyzeReasons: the plain law, and the walk. package salvorlaw08: True, AllTrue. How many different numbers there are in a list: sorted, and compacted. Plain: all that a law asks of what is learned. package salvorlaw14: Good. Plain: a search learns a clause: it is unit behind the level to which it leads, and no clause lay within it. package salvorlaw14: Learn. AnalyzeFollows: the walk. -/
import Derived.Test.YtoojmhjagipmdaaGreatV326
import Derived.Test.YtoojmhjagipmdaaGreatV310
import Derived.Test.YtoojmhjagipmdaaGreatV325
import Derived.Test.YtoojmhjagipmdaaGreatV312
import Derived.Lib.SliceRun
import Derived.Test.YtoojmhjagipmdaaGreatV306
import Derived.Test.YtoojmhjagipmdaaGreatV314
import Derived.Test.YtoojmhjagipmdaaGreatV316
import Derived.Test.YtoojmhjagipmdaaGreatV315
import Derived.Test.YtoojmhjagipmdaaGreatV319
import Derived.Test.YtoojmhjagipmdaaGreatV324
import Derived.Deep.DeepCutAuto
import Derived.Deep.CutBlock
import Derived.Test.YtoojmhjagipmdaaGreatV323
namespace Go.Proofs.YtoojmhjagipmdaaGreat
open Go.RowKit
def restW (v:Int) (c:List Int):List Int:=c.filter fun l=>decide (l≠v)
def keepW (v:Int) (c:List Int) (k:Nat):List Int:=restW v (c.take k)
end Go.Proofs.YtoojmhjagipmdaaGreat
namespace Go.Proofs.YtoojmhjagipmdaaGreat
open Go.RowKit
def exL:List (List Int):= [[-1,2],[-2,-3,4],[-4,5],[-5,-4,-2],[3]]
def exA:List ActP:= [⟨true,0,0⟩,⟨false,3,0⟩,⟨true,0,0⟩,⟨false,1,0⟩,⟨false,2,1⟩,⟨false,4,2⟩,⟨false,5,3⟩]
def exB:List ActP:= [⟨false,3,5⟩,⟨true,0,0⟩,⟨false,1,0⟩,⟨false,2,1⟩,⟨false,4,2⟩,⟨false,5,3⟩]
def exAr:Arn:=addAll arn0 0 exL
def exT:Trl:=playAll (trl0 5) exA
def exU:Trl:=playAll (trl0 5) exB
end Go.Proofs.YtoojmhjagipmdaaGreat
namespace Go.Proofs.YtoojmhjagipmdaaGreat
open Go.RowKit
end Go.Proofs.YtoojmhjagipmdaaGreat
namespace Go.Proofs.YtoojmhjagipmdaaGreat
open Go.RowKit
def exD:List ActP:= [⟨false,3,5⟩,⟨true,0,0⟩,⟨true,0,0⟩,⟨false,1,0⟩,⟨false,2,1⟩,⟨false,4,2⟩,⟨false,5,3⟩]
end Go.Proofs.YtoojmhjagipmdaaGreat
namespace Go.Proofs.YtoojmhjagipmdaaGreat
open Go.RowKit
theorem madeLit_six (x:Int):litB (madeLit x)=true∧litV (madeLit x)<7:=by
 obtain⟨h1,h2⟩:=madeLit_rng x
 have hb:litB (madeLit x)=true:=(litB_iff _).2 (by omega)
 exact⟨hb,by have:=(litV_pos hb).2;omega⟩
structure FewT (T:Trl) (k:Nat):Prop where
 sim: ∃its,Sim T its
 vars:T.vars.length=7
 starts:T.starts.length≤k+1
theorem FewT.push {T:Trl} {k:Nat} (h:FewT T k):FewT T.push (k+1):=by
 obtain⟨⟨its,h1⟩,h2,h3⟩:=h
 exact⟨⟨its,h1.pushT⟩,h2,by show(T.starts++ [(T.order.length:Int)]).length≤_;rw[List.length_append];simp;omega⟩
theorem FewT.assign {T:Trl} {k:Nat} (h:FewT T k) (l:Int):FewT (T.assigned l 0) k:=by
 obtain⟨⟨its,h1⟩,h2,h3⟩:=h
 refine⟨?_,(assigned_vars T l 0).trans h2,by rw[assigned_starts];exact h3⟩
 by_cases he:T.assignErr l 0=0
 ·exact⟨_,h1.snoc he⟩
 ·have e:T.assigned l 0=T:=by unfold Trl.assigned;rw[if_neg he]
  rw[e]
  exact⟨its,h1⟩
theorem FewT.few {T:Trl} {k:Nat} (h:FewT T k):T.order.length≤6:=by
 obtain⟨⟨its,h1⟩,h2,_⟩:=h
 exact h1.few h2
theorem FewT.mono {T:Trl} {k j:Nat} (h:FewT T k) (hj:k≤j):FewT T j:=⟨h.sim,h.vars,by have:=h.starts;omega⟩
inductive AddsO (T:Trl) (c:List Int) (K I:Nat) (U:Int) (T':Trl):Prop
 | alw (ha:alwL c=true) (hk:K=4) (ht:T'=T)
 | unit (ha:alwL c=false) (hi:I=3) (hk:K=2) (ho:T'.order=T.order++ [U]) (hs:T'.starts=T.starts) (hl:T'.level (litV U:Nat)=(T.starts.length:Int)-1) (hr:T'.reason (litV U:Nat)=1)
 | fails (ha:alwL c=false) (hi:I=2) (hk:K=3) (ht:T'=T)
 | rests (ha:alwL c=false) (hi:I≠2∧I≠3) (hk:K=1) (ht:T'=T)
end Go.Proofs.YtoojmhjagipmdaaGreat
namespace Go.Proofs.YtoojmhjagipmdaaGreat
open Go.RowKit
section
variable {cs:List (List Int)} {T:Trl} {its:List RIt} {S:Wst} {w0 w:World} {lab:Nat→Nat} {b ab tb:Nat}
theorem six_made (xss:List (List Int)) (m:Nat) (hm:m≤900):Six ((xss.take m).map madeL):=by
 refine⟨by rw[List.length_map,List.length_take];omega,fun c hc=>?_⟩
 obtain⟨xs,_,rfl⟩:=List.mem_map.1 hc
 refine⟨by simp[madeL];omega,fun y hy=>?_⟩
 obtain⟨n,_,rfl⟩:=List.mem_map.1 hy
 exact madeLit_six n
end
end Go.Proofs.YtoojmhjagipmdaaGreat
namespace Go.Proofs.YtoojmhjagipmdaaGreat
open Go.RowKit Go.Maps Go.Shelf
theorem folGo_nil (f:Int→Int) (us:List Int) (i:Nat):folGo f [] us i=(us,i,false,0):=rfl
theorem folGo_len (hs:List (List Int)): ∀(f:Int→Int) (us:List Int) (i:Nat),(folGo f hs us i).1.length≤us.length+hs.length∧(folGo f hs us i).2.1≤i+hs.length:=by
 induction hs with
 | nil=>exact fun _ _ _=>⟨Nat.le_refl _,Nat.le_refl _⟩
 | cons c r ih=>
  intro f us i
  unfold folGo
  split
  ·exact⟨Nat.le_add_right _ _,by simp only[List.length_cons];omega⟩
  ·split
   ·have:=ih (putF f (lookF f c).2) (us++ [(lookF f c).2]) (i+1)
    simp only[List.length_append,List.length_cons,List.length_nil]at this⊢
    omega
   ·exact⟨Nat.zero_le _,Nat.le_add_right _ _⟩
theorem folGo_lit (hs:List (List Int)): ∀(f:Int→Int) (us:List Int) (i:Nat),∀x∈(folGo f hs us i).1,x∈us∨∃d∈hs,x∈d:=by
 induction hs with
 | nil=>exact fun _ _ _ x hx=>.inl hx
 | cons c r ih=>
  intro f us i x hx
  unfold folGo at hx
  split at hx
  ·exact .inl hx
  ·split at hx
   ·rename_i h3
    rcases ih _ _ _ x hx with h|⟨d,hd,hxd⟩
    ·rcases List.mem_append.1 h with h|h
     ·exact .inl h
     ·rw[List.mem_singleton.1 h]
      exact .inr ⟨c,List.mem_cons_self,(lookF_unit (f:=f) (u:=(lookF f c).2) (c:=c) (Prod.ext h3 rfl)).1⟩
    ·exact .inr ⟨d,List.mem_cons_of_mem _ hd,hxd⟩
   ·cases hx
theorem ClsIn.take {O:Nat→Prop} {w:World} {A:Option Addr} {n c:Nat} {cs:List (List Int)} (h:ClsIn O w (.slice A n c) cs) {m:Nat} (hm:m≤cs.length):ClsIn O w (.slice A m c) (cs.take m):=by
 obtain⟨A',c',hv,hc,hn,hx⟩:=h
 simp only[Value.slice.injEq]at hv
 obtain⟨rfl,_,rfl⟩:=hv
 have hl:(cs.take m).length=m:=by rw[List.length_take];omega
 refine⟨A,c,by rw[hl],by rw[hl];omega,hn,fun i xs hi=>?_⟩
 have hil:=(List.getElem?_eq_some_iff.1 hi).1
 rw[List.getElem?_take,if_pos (by omega)]at hi
 exact hx i xs hi
theorem res_four {fn:Func} (h:fn.results= #[.tmp 4,.tmp 5,.tmp 6,.tmp 7]) (tmps:Array Value) (w:World):(results fn tmps).run Tryz.prog w= .ok (.tuple #[tmps.getD 4 undef,tmps.getD 5 undef,tmps.getD 6 undef,tmps.getD 7 undef]) w:=by
 simp[results,h]
def FolOut (w w':World) (R:List Int×Nat×Bool×Nat) (e:Ending):Prop:= ∃v,e= .returned (.tuple #[v,.int .i64 (R.2.1:Nat),.bool R.2.2.1,.int .i64 (R.2.2.2:Nat)])∧w'.ownsRow w.heap.size 32 1 v R.1.length (R.1.map (Value.int .i64))
set_option maxRecDepth 100000 in
set_option maxHeartbeats 4000000 in
theorem rup_follow {O:Nat→Prop} (b n:Nat) (f:Int→Int) (lv:Value) (cs:List (List Int)) (w:World) (hm:MapAt w b n f) (hok:okF f) (hl:ClsIn O w lv cs) (hnb: ¬O b) (hlen:cs.length≤70000) (hxs: ∀xs∈cs,xs.length≤4096) (hn:n≤100000):
  Calls Tryz.prog 173 #[.map (some b),lv] w fun e w'=>FolOut w w' (folGo f cs [] 0) e∧Kept (fun g=>g=b) w w':=by
 obtain⟨i0,hi,hz0,hz1,hz2⟩:=info_parts cinfo_lit
 have hbl:=hm.lt
 have HL:=Lib.hid hl
 have HM:=Lib.hid hm
 have HOK:=Lib.hid hok
 have HX:=Lib.hid hxs
 obtain⟨Al,cl,rfl,_⟩:=hl
 obtain⟨R,hR⟩: ∃R,folGo f cs [] 0=R:=⟨_,rfl⟩
 have HR:=Lib.hid hR
 rw[hR]
 clear hm hok hxs hR
 go_enter Tryz.func173,Tryz.ntmps173
 go_wp2_with fail
 go_loopw [8,15] (fun ov iv wr=> ∃(k n':Nat) (us:List Int) (f':Int→Int),k≤cs.length∧us.length≤k∧n'≤n+2*k∧iv= .int .i64 k∧Hid (wr.ownsRow w.heap.size 32 1 ov us.length (us.map (Value.int .i64)))∧Hid (MapAt wr b n' f')∧Hid (okF f')∧Hid (folGo f' (cs.drop k) us k=R)∧Hid (Kept (fun g=>g=b) w wr)) (fun _ iv _=>cs.length-(intOf iv).toNat)
 case atStart=>exact⟨0,n,[],f,Nat.zero_le _,Nat.le_refl _,Nat.le_refl _,rfl,Lib.hid (World.ownsRow_nil _ _ _ _),HM,HOK,HR,Lib.hid (Kept.refl _ _)⟩
 case round=>
  obtain⟨k,n',us,f',hk,hul,hn',rfl,HO,HMR,HOKR,HG,HK⟩:=hrel
  obtain⟨Ao,co,rfl,_⟩:=mx_slice HO.out
  by_cases hlt:k<cs.length
  ·obtain⟨c,hck⟩:=getElem_of hlt
   obtain⟨A',c',hAc,_,_,hxs⟩:=HL.out.kept HK.out (fun g hg e=>hnb (e▸hg))
   simp only[Value.slice.injEq,true_and]at hAc
   obtain⟨rfl,rfl⟩:=hAc
   obtain⟨g,o,u,rfl,hg,_,d0,hin⟩:=hxs k c hck
   have HC:=Lib.hid (HX.out c (List.mem_of_getElem? hck))
   have HLK:=Lib.hid (rup_look b n' f' u c wr HMR.out HOKR.out hin (by have:=HC.out;omega))
   have hg2:=HG.out
   have hdr:cs.drop k=c::cs.drop (k+1):=by
    rw[List.drop_eq_getElem_cons hlt]
    rw[List.getElem?_eq_getElem hlt]at hck
    rw[Option.some.inj hck]
   rw[hdr]at hg2
   unfold folGo at hg2
   obtain⟨Ax,cx,rfl,_⟩:=hin
   obtain⟨K,hKK⟩: ∃K,(lookF f' c).1=K:=⟨_,rfl⟩
   obtain⟨U,hU⟩: ∃U,(lookF f' c).2=U:=⟨_,rfl⟩
   have hlk:=HLK.out
   rw[hKK,hU]at hlk
   rw[hKK,hU]at hg2
   have HLK:=Lib.hid hlk
   clear hck hxs hdr hlk hKK hU
   by_cases e2:K=2
   ·subst e2
    rw[if_pos rfl]at hg2
    have HG2:=Lib.hid hg2
    have hwk:IntKind.i64.wrap ((k:Int)+1)=(k:Int)+1:=IntWalk.i64_in _ (by omega)
    clear hg2
    go_wp2_with fail
    refine HLK.out.mono ?_
    rintro e w' ⟨rfl,rfl⟩
    go_wp2_with fail
    refine bodyPost_ret (res_four rfl _ _) rfl ?_
    rw[←HG2.out]
    exact⟨⟨_,by go_num,HO.out⟩,HK.out⟩
   ·rw[if_neg e2]at hg2
    have q2:((K:Int)==2)=false:=by simp;omega
    by_cases e3:K=3
    ·subst e3
     rw[if_pos rfl]at hg2
     have HG2:=Lib.hid hg2
     clear hg2 q2 e2
     go_wp2_with fail
     refine HLK.out.mono ?_
     rintro e w' ⟨rfl,rfl⟩
     go_wp2_with (at_builtin;refine wpList_append_own_at _ rfl _ _ 33 rfl w.heap.size 32 i0 (.int .i64 0) 1 8 Tryz.underlying33 hi hz0 hz1 hz2 rfl (by decide) _ us.length _ rfl (own_below HO.out (mx_al wr _)) ⟨wr.heap.size,0,none⟩ 1 1 [.int .i64 U] rfl rfl (fun i u hi=>by
      match i,hi with
      | 0,hi=>simp at hi;subst hi;simp[Addr.add]) (fun u hu=>by rw[List.mem_singleton.1 hu];rfl) (by unfold maxLen;omega) (by omega) (by have:=HK.out.size;simp;omega) ?_;intro v' w2 hown hgrow hnl2 hat)
     have hal:=mx_al wr (.cells #[.int .i64 U] 32)
     have hkx:Kept (fun g=>w.heap.size≤g) wr w2:=(Kept.of_below hal).trans (Kept.grown hgrow) (fun i _ e=>(own_lt HO.out i e.symm).1)
     have HK2:=Lib.hid (HK.out.trans hkx (fun i hi h=>by omega))
     have HPT:=Lib.hid (rup_put b n' f' U w2 (HMR.out.kept hkx (by omega)) (by omega))
     have HO2:=Lib.hid (show w2.ownsRow w.heap.size 32 1 v' (us++ [U]).length ((us++ [U]).map (Value.int .i64))from by simpa using hown)
     obtain⟨Av,cv,rfl,_⟩:=mx_slice hown
     clear hown hgrow hnl2 hat hal hkx
     go_wp2_with fail
     refine HPT.out.mono ?_
     rintro e w3 ⟨rfl,⟨n3,hn3,hm3⟩,hk3⟩
     have HO3:=Lib.hid (own_kept HO2.out hk3 (fun g hg e=>by have:=(own_lt HO2.out g hg).1;omega))
     have HK3:=Lib.hid (HK2.out.trans hk3 (fun i _ e=>e))
     have HM3:=Lib.hid hm3
     clear hm3 hk3 HPT HK2 HO2
     go_wp2_with fail
     go_roundw
     case rel=>exact⟨k+1,n3,us++ [U],putF f' U,by omega,by simp;omega,by omega,by go_num,HO3,HM3,Lib.hid (okF_put HOKR.out U),HG2,HK3⟩
     case measure=>simp[intOf];omega
    ·rw[if_neg e3]at hg2
     have q3:((K:Int)==3)=false:=by simp;omega
     have HG2:=Lib.hid hg2
     clear hg2
     go_wp2_with fail
     refine HLK.out.mono ?_
     rintro e w' ⟨rfl,rfl⟩
     go_wp2_with fail
     refine bodyPost_ret (res_four rfl _ _) rfl ?_
     rw[←HG2.out]
     exact⟨⟨_,rfl,World.ownsRow_nil _ _ _ _⟩,HK.out⟩
  ·obtain rfl:k=cs.length:=by omega
   have hg2:=HG.out
   rw[List.drop_length,folGo_nil]at hg2
   have HG2:=Lib.hid hg2
   clear hg2
   go_wp2_with fail
   refine bodyPost_ret (res_four rfl _ _) rfl ?_
   rw[←HG2.out]
   exact⟨⟨_,rfl,HO.out⟩,HK.out⟩
theorem res_three {fn:Func} (h:fn.results= #[.tmp 4,.tmp 5,.tmp 6]) (tmps:Array Value) (w:World):(results fn tmps).run Tryz.prog w= .ok (.tuple #[tmps.getD 4 undef,tmps.getD 5 undef,tmps.getD 6 undef]) w:=by
 simp[results,h]
theorem wrong_ok {cs:List (List Int)} (h: ∀xs∈cs,clauseB xs=true):wrongE cs=0:=by
 unfold wrongE
 rw[if_pos (List.all_eq_true.2 h)]
theorem fresh_ints (W:World) (xs:List Int) (t:TypeId):IntsIn (fun g=>W.heap.size≤g) (W.alloc (.cells (xs.map (Value.int .i64)).toArray t)) (.slice (some ⟨W.heap.size,0,none⟩) xs.length xs.length) xs:=
 ⟨some ⟨W.heap.size,0,none⟩,xs.length,rfl,Nat.le_refl _,(fun h=>by cases h),fun i x hi=>⟨W.heap.size,0,rfl,by simp,Nat.le_refl _,by
  rw[mx_cell (World.alloc_heap_new _ _),Nat.zero_add]
  simp[hi]⟩⟩
def ChkOut (w w':World) (R:List Int×Nat×Nat) (e:Ending):Prop:= ∃v,e= .returned (.tuple #[v,.int .i64 (R.2.1:Nat),.int .i64 (R.2.2:Nat)])∧w'.ownsRow w.heap.size 32 1 v R.1.length (R.1.map (Value.int .i64))
theorem clause_len {xs:List Int} (h:clauseB xs=true):xs.length≤4096:=by
 unfold clauseB at h
 rw[Bool.and_eq_true,decide_eq_true_eq]at h
 exact h.1
set_option maxRecDepth 100000 in
set_option maxHeartbeats 4000000 in
theorem rup_check {O:Nat→Prop} (cv lv:Value) (c:List Int) (cs:List (List Int)) (w:World) (hc:IntsIn O w cv c) (hl:ClsIn O w lv cs) (hcl:clauseB c=true) (hcs: ∀xs∈cs,clauseB xs=true) (hn:cs.length≤65536):
  Calls Tryz.prog 129 #[cv,lv] w fun e w'=>ChkOut w w' (chkP c cs) e∧Below w.heap.size w w':=by
 obtain⟨W1,hW1⟩: ∃x,w.alloc (.cells #[cv] 34)=x:=⟨_,rfl⟩
 have hb1:Below w.heap.size w W1:=by rw[←hW1];exact mx_al _ _
 have hc1:W1.cell? ⟨w.heap.size,0,none⟩=some cv:=by rw[←hW1];exact mx_cell (j:=0) (World.alloc_heap_new _ _)
 have hall: ∀xs∈cs++ [c],clauseB xs=true:=fun xs hx=>by
  rcases List.mem_append.1 hx with h|h
  ·exact hcs xs h
  ·rw[List.mem_singleton.1 h];exact hcl
 have hwr:=rup_wrong lv cv w.heap.size cs c W1 (hl.below hb1) hc1 (hc.below hb1) (by omega) (fun xs hx=>by have:=clause_len (hall xs hx);omega)
 rw[wrong_ok hall]at hwr
 have HWR:=Lib.hid hwr
 have HC:=Lib.hid hc.lt
 have HL:=Lib.hid hl.lt
 have HCS:=Lib.hid hcs
 have HCL:=Lib.hid hcl
 have HW1:=Lib.hid hW1
 have HB1:=Lib.hid hb1
 obtain⟨Ac,cc,rfl,_⟩:=hc
 obtain⟨Al,cl,rfl,_⟩:=hl
 obtain⟨R,hR⟩: ∃r,chkP c cs=r:=⟨_,rfl⟩
 have HR:=Lib.hid hR
 rw[hR]
 clear hW1 hb1 hc1 hwr hall hcs hcl hR
 go_enter Tryz.func129,Tryz.ntmps129
 go_wp2_with fail
 rw[HW1.out]
 refine HWR.out.mono ?_
 rintro e W2 ⟨rfl,hb2⟩
 have HB2:=Lib.hid (HB1.out.trans (hb2.mono HB1.out.size))
 have HMA:=Lib.hid (rup_many Al cs.length cl W2)
 rw[if_neg (by omega)]at HMA
 clear hb2
 go_wp2_with fail
 refine HMA.out.mono ?_
 rintro e w' ⟨rfl,rfl⟩
 go_wp2_with fail
 have hbF:=mx_al W2 (.cells #[.int .i64 0,.int .i64 0] 44)
 have HFI:=Lib.hid (rup_first _ [0,0] _ (fresh_ints W2 [0,0] 44) (by decide))
 obtain⟨W3,hW3⟩: ∃x,W2.alloc (.cells #[.int .i64 0,.int .i64 0] 44)=x:=⟨_,rfl⟩
 have hfi:=HFI.out
 simp only[List.map_cons,List.map_nil,List.length_cons,List.length_nil]at hfi
 rw[hW3]at hfi hbF⊢
 have HFI:=Lib.hid hfi
 have HB3:=Lib.hid (HB2.out.trans (hbF.mono HB2.out.size))
 clear hW3 hbF hfi
 refine HFI.out.mono ?_
 rintro e w' ⟨rfl,rfl⟩
 have HAS:=rup_assume _ c W3 (HC.out.below HB3.out) (by have:=clause_len HCL.out;omega)
 unfold AsmOut at HAS
 simp only[HCL.out,if_true]at HAS
 have hf0:firstE [0,0]=0:=by decide
 rw[hf0]
 obtain⟨al,hal⟩: ∃q,alwL c=q:=⟨_,rfl⟩
 rw[hal]at HAS
 cases al with
 | true=>
  simp only[if_true]at HAS
  have HAS:=Lib.hid HAS
  have HR0:=Lib.hid (show(([],0,0):List Int×Nat×Nat)=R from by
   rw[←HR.out]
   unfold chkP
   rw[if_pos hal])
  clear hal hf0
  go_wp2_with fail
  refine HAS.out.mono ?_
  rintro e w4 ⟨rfl,hb⟩
  have HB4:=Lib.hid (HB3.out.trans (hb.mono HB3.out.size))
  clear hb
  go_wp2_with fail
  refine bodyPost_ret (res_three rfl _ _) rfl ?_
  rw[←HR0.out]
  exact⟨⟨_,rfl,World.ownsRow_nil _ _ _ _⟩,HB4.out⟩
 | false=>
  simp only[Bool.false_eq_true,if_false]at HAS
  have HAS:=Lib.hid HAS
  obtain⟨f0,hf⟩:=asm_some HCL.out hal
  have hrs:=HR.out
  unfold chkP at hrs
  rw[hal,hf]at hrs
  simp only[Bool.false_eq_true,if_false]at hrs
  have HR1:=Lib.hid hrs
  have HF0:=Lib.hid hf
  have hasl:(asmL c).length≤4096:=by
   have h1:=clause_len HCL.out
   have h2:=normL_len c
   unfold asmL
   rw[sortL_length,List.length_map]
   omega
  clear hal hf hf0 hrs
  go_wp2_with fail
  refine HAS.out.mono ?_
  rintro e w4 ⟨⟨v,rfl,hr⟩,hb⟩
  have HB4:=Lib.hid (HB3.out.trans (hb.mono HB3.out.size))
  have hasg:=rup_assigned v (asmL c) w4 (IntsIn.of_own hr) (by omega)
  rw[HF0.out]at hasg
  have HASG:=Lib.hid hasg
  obtain⟨Av,cv,rfl,_⟩:=mx_slice hr
  clear hb hr hasg
  go_wp2_with fail
  refine HASG.out.mono ?_
  rintro e w5 ⟨⟨mb,n,rfl,hmb,hnn,hm,hok⟩,hb5⟩
  have HB5:=Lib.hid (HB4.out.trans (hb5.mono HB4.out.size))
  have hsz:=HB4.out.size
  have hfo:=rup_follow mb n f0 _ cs w5 hm hok (HL.out.below HB5.out) (fun h=>by omega) (by omega) (fun xs hx=>clause_len (HCS.out xs hx)) (by omega)
  obtain⟨F,hF⟩: ∃F,folGo f0 cs [] 0=F:=⟨_,rfl⟩
  rw[hF]at hfo
  have hr1:=HR1.out
  rw[hF]at hr1
  obtain⟨us,m,bb,er,rfl⟩: ∃us m bb er,F=(us,m,bb,er):=⟨F.1,F.2.1,F.2.2.1,F.2.2.2,rfl⟩
  have HFO:=Lib.hid hfo
  have HR2:=Lib.hid hr1
  clear hb5 hm hok hfo hF hr1 HASG HAS
  go_wp2_with fail
  refine HFO.out.mono ?_
  rintro e w6 ⟨⟨vu,rfl,hu⟩,hk6⟩
  have HB6:=Lib.hid (HB5.out.trans (hk6.below (fun i e=>by omega) HB5.out.size))
  have HU:=Lib.hid (own_mono hu HB5.out.size)
  clear hu hk6 HFO
  simp only at HU⊢
  by_cases he:er=0
  ·subst he
   cases bb with
   | true=>
    go_wp2_with fail
    refine bodyPost_ret (res_three rfl _ _) rfl ?_
    rw[←HR2.out]
    exact⟨⟨_,rfl,HU.out⟩,HB6.out⟩
   | false=>
    go_wp2_with fail
    refine bodyPost_ret (res_three rfl _ _) rfl ?_
    rw[←HR2.out]
    exact⟨⟨_,rfl,HU.out⟩,HB6.out⟩
  ·have q0:((er:Int)==0)=false:=by simp;omega
   have hz: ¬(er=0∧bb=false):=fun h=>he h.1
   have hr2:=HR2.out
   rw[if_neg hz]at hr2
   have HR3:=Lib.hid hr2
   clear hr2 HR2 hz
   go_wp2_with fail
   refine bodyPost_ret (res_three rfl _ _) rfl ?_
   rw[←HR3.out]
   exact⟨⟨_,rfl,HU.out⟩,HB6.out⟩
set_option maxRecDepth 100000 in
theorem rup_Check {O:Nat→Prop} (cv lv:Value) (c:List Int) (cs:List (List Int)) (w:World) (hc:IntsIn O w cv c) (hl:ClsIn O w lv cs) (hcl:clauseB c=true) (hcs: ∀xs∈cs,clauseB xs=true) (hn:cs.length≤65536):
  Calls Tryz.prog 87 #[cv,lv] w fun e w'=>e= .returned (.tuple #[.int .i64 ((chkP c cs).2.1:Nat),.int .i64 ((chkP c cs).2.2:Nat)])∧Below w.heap.size w w':=by
 have H:=Lib.hid (rup_check cv lv c cs w hc hl hcl hcs hn)
 obtain⟨us,m,er,hR⟩: ∃us m er,chkP c cs=(us,m,er):=⟨_,_,_,rfl⟩
 rw[hR]at H⊢
 obtain⟨Ac,cc,rfl,_⟩:=hc
 obtain⟨Al,cl,rfl,_⟩:=hl
 clear hR hcs hcl
 go_enter Tryz.func87,Tryz.ntmps87
 go_wp2_with fail
 refine H.out.mono ?_
 rintro e w1 ⟨⟨v,rfl,hu⟩,hb⟩
 obtain⟨Av,cv,rfl,_⟩:=mx_slice hu
 have HB:=Lib.hid hb
 clear hu hb
 go_wp2_with fail
 go_ret2
 exact⟨rfl,HB.out⟩
set_option maxRecDepth 100000 in
set_option maxHeartbeats 1000000 in
theorem rup_Trim {O:Nat→Prop} (cv lv:Value) (c:List Int) (cs:List (List Int)) (w:World) (hc:IntsIn O w cv c) (hl:ClsIn O w lv cs) (hcl:clauseB c=true) (hcs: ∀xs∈cs,clauseB xs=true) (hn:cs.length≤65536):
  Calls Tryz.prog 88 #[cv,lv] w fun e w'=> ∃v,e= .returned (.tuple #[v,.int .i64 ((chkP c cs).2.2:Nat)])∧w'.ownsRow w.heap.size 3 1 v (trimP c cs).length ((trimP c cs).map (Value.int .i64))∧Below w.heap.size w w':=by
 have hlen:(chkP c cs).2.1≤cs.length∧(chkP c cs).1.length≤cs.length:=by
  unfold chkP
  split
  ·exact⟨Nat.zero_le _,Nat.zero_le _⟩
  ·split
   ·exact⟨Nat.zero_le _,Nat.zero_le _⟩
   ·rename_i f _
    have:=folGo_len cs f [] 0
    simp only[List.length_nil,Nat.zero_add]at this
    exact⟨this.2,this.1⟩
 have hlit: ∀x∈(chkP c cs).1,(Lit.int .i64 x).wf=true:=fun x hx=>by
  unfold chkP at hx
  split at hx
  ·cases hx
  ·split at hx
   ·cases hx
   ·rcases folGo_lit cs _ _ _ x hx with h|⟨d,hd,hxd⟩
    ·cases h
    ·have h1:=hcs d hd
     unfold clauseB at h1
     rw[Bool.and_eq_true]at h1
     have:=(litB_iff x).1 (List.all_eq_true.1 h1.2 x hxd)
     exact wf64 (by omega) (by omega)
 have HLI:=Lib.hid hlit
 have H:=Lib.hid (rup_check cv lv c cs w hc hl hcl hcs hn)
 have HL:=Lib.hid hl
 have HCS:=Lib.hid hcs
 unfold trimP
 obtain⟨us,m,er,hR⟩: ∃us m er,chkP c cs=(us,m,er):=⟨_,_,_,rfl⟩
 rw[hR]at H HLI hlen⊢
 obtain⟨hm,hul⟩:=hlen
 simp only at hm hul HLI⊢
 obtain⟨TR,hTR⟩: ∃t,(if er=0∧m≠0 then needL (cs.take m) us else [])=t:=⟨_,rfl⟩
 rw[hTR]
 obtain⟨Ac,cc,rfl,_⟩:=hc
 obtain⟨Al,cl,rfl,hcl',hAl,_⟩:=hl
 have HTR:=Lib.hid hTR
 clear hR hcs hcl hlit hTR
 go_enter Tryz.func88,Tryz.ntmps88
 go_wp2_with fail
 refine H.out.mono ?_
 rintro e w1 ⟨⟨v,rfl,hu⟩,hb⟩
 obtain⟨Av,cv,rfl,_⟩:=mx_slice hu
 have HB:=Lib.hid hb
 have HU:=Lib.hid hu
 clear hu hb
 simp only at HU⊢
 by_cases he:er=0
 ·subst he
  by_cases h0:m=0
  ·subst h0
   have h1:=HTR.out
   rw[if_neg (by simp)]at h1
   have HT:=Lib.hid h1
   clear h1 HTR
   go_wp2_with fail
   go_ret2
   rw[←HT.out]
   exact⟨_,rfl,World.ownsRow_nil _ _ _ _,HB.out⟩
  ·have h1:=HTR.out
   rw[if_pos ⟨rfl,h0⟩]at h1
   have HT:=Lib.hid h1
   have q0:((m:Int)==0)=false:=by simp;omega
   have hAl2:Al≠none:=fun e=>by have:=hAl e;omega
   obtain⟨a,rfl⟩: ∃a,Al=some a:=by cases Al with|none=>exact absurd rfl hAl2|some a=>exact⟨a,rfl⟩
   have hmc:m≤cl:=by omega
   clear h1 HTR hAl hAl2
   have htl:(cs.take m).length=m:=by rw[List.length_take];omega
   have hnd:=rup_needed _ _ (cs.take m) us w1 ((HL.out.below HB.out).take hm) (IntsIn.of_own HU.out) (by omega) (fun xs hx=>by have:=clause_len (HCS.out xs (List.mem_of_mem_take hx));omega) (by omega) HLI.out
   rw[HT.out]at hnd
   have HND:=Lib.hid hnd
   clear hnd htl
   go_wp2_with fail
   refine HND.out.mono ?_
   rintro e w2 ⟨vr,rfl,ho,hb2⟩
   obtain⟨Ar,cr,rfl,_⟩:=mx_slice ho
   have HO:=Lib.hid (own_mono ho (show w.heap.size≤w1.heap.size+1 from Nat.le_succ_of_le HB.out.size))
   have HB2:=Lib.hid (HB.out.trans (hb2.mono HB.out.size))
   clear ho hb2 HND
   go_wp2_with fail
   go_ret2
   exact⟨_,rfl,HO.out,HB2.out⟩
 ·have h1:=HTR.out
  rw[if_neg (fun h=>he h.1)]at h1
  have HT:=Lib.hid h1
  have q0:((er:Int) != 0)=true:=by simp;omega
  clear h1 HTR
  go_wp2_with fail
  go_ret2
  rw[←HT.out]
  exact⟨_,rfl,World.ownsRow_nil _ _ _ _,HB.out⟩
end Go.Proofs.YtoojmhjagipmdaaGreat
namespace Go.Proofs.YtoojmhjagipmdaaGreat
open Go.RowKit
section
variable {A:Arn} {C:Int→Option (List Int)} {T:Trl} {its:List RIt}
end
theorem Six.fitB {cs:List (List Int)} (h:Six cs):FitB (clsC cs):=fun _ _ hc=>h.fit.right hc
theorem made_sub (g o c:Nat) (n:Int) (w:World) (hn:(Lit.int .i8 n).wf=true) (hc:1≤c) (hcm:c≤maxLen) (hg:g<w.heap.size) (h:w.cell? ⟨g,o,none⟩=some (.int .i8 n)):
  Calls Tryz.prog 14 #[.slice (some ⟨g,o,none⟩) 1 c] w fun e w'=> ∃g c,e= .returned (.slice (some ⟨g,0,none⟩) 1 c)∧1≤c∧w'.cell? ⟨g,0,none⟩=some (.int .i64 (madeLit n))∧Below w.heap.size w w':=by
 have hr:RowAt .i8 w (.slice (some ⟨g,o,none⟩) 1 c) [n]:=⟨some ⟨g,o,none⟩,c,rfl,hc,hcm,(fun h=>by cases h),(fun m hm=>by rw[List.mem_singleton.1 hm];exact hn),fun i x hi=>⟨g,o,rfl,hg,by
  match i,hi with
  | 0,hi=>
   obtain rfl:n=x:=by simpa using hi
   exact h⟩⟩
 refine(made_any _ [n] _ hr).mono ?_
 rintro e w' ⟨v,rfl,ho,hb⟩
 obtain⟨g,c,cs,rfl,hc,_,_,hg,hx⟩:=mx_some ho (by simp[madeL])
 exact⟨g,c,rfl,hc,mx_at ho rfl,hb⟩
end Go.Proofs.YtoojmhjagipmdaaGreat
namespace Go.Proofs.YtoojmhjagipmdaaGreat
open Go.RowKit
def bitT (n:Nat) (l:Int):Bool:=if 0<l then n.testBit l.toNat else !n.testBit (-l).toNat
def allT (n:Nat) (cs:List (List Int)):Bool:=cs.all fun c=>c.any (bitT n)
def Lits6 (cs:List (List Int)):Prop:= ∀c∈cs,c.length≤1000000∧∀y∈c,y≠0∧ -7<y∧y<7
end Go.Proofs.YtoojmhjagipmdaaGreat
namespace Go.Proofs.YtoojmhjagipmdaaGreat
open Go.RowKit
def dn (xs:List Int):Nat:=(Lib.compact (sortI xs)).length
end Go.Proofs.YtoojmhjagipmdaaGreat
namespace Go.Proofs.YtoojmhjagipmdaaGreat
open Go.RowKit
structure GoodF (cs:List (List Int)) (T:Trl) (id lv:Int) (x:Lrn) (hcl:List (List Int)) (f:Int→Int):Prop where
 len:hcl.length=x.hints.length
 pos:0<x.hints.length
 few:x.hints.length≤7
 hint: ∀(k:Nat) (h:Int),x.hints[k]? =some h→∃(i:Nat) (d:List Int),h=(i:Int)+1∧cs[i]? =some d∧hcl[k]? =some d
 last:x.hints[x.hints.length-1]? =some id
 litb:clauseB x.lits=true
 lits6:x.lits.length≤6
 litr: ∀y∈x.lits,litB y=true∧litV y<7
 clsb: ∀d∈hcl,clauseB d=true
 chk:(chkP x.lits hcl).2=(x.hints.length,0)
 trm:(trimP x.lits hcl).length=x.hints.length
 asg:asgF T.order=some f
 look:lookF f x.lits=(2,0)
 nlev:((T.nLevels x.lits:Nat):Int)=x.levels
 lev:x.levels≤(x.lits.length:Int)
 lit: ∀(k:Nat) (y:Int),x.lits[k]? =some y→∃(n:Int) (q:Nat),T.level (litV y:Nat)=n∧(T.why (litV y:Nat)).isSome=true∧0<n∧((n==lv)=(k==0))∧(k=1→n=x.back)∧((litV y:Nat):Int)∈x.met∧T.place (litV y:Nat)=q∧∀(y':Int),0<k→x.lits[k-1]? =some y'→(q:Int)<T.place (litV y':Nat)
 sat: ∀n,n<128→allT n cs=true→x.lits.any (bitT n)=true
 back:1<x.lits.length∨x.back=0
section
variable {cs:List (List Int)} {T:Trl} {its:List RIt} {id lv:Int} {c:List Int} {x:Lrn} {R K:List Nat}
end
end Go.Proofs.YtoojmhjagipmdaaGreat
namespace Go.Proofs.YtoojmhjagipmdaaGreat
open Go.RowKit
structure HintsAt (w0 w:World) (v:Value) (k:Nat) (hcl:List (List Int)):Prop where
 ex: ∃vs:List Value,w.ownsRow w0.heap.size 34 1 v k vs∧∀(i:Nat) (d:List Int),i<k→hcl[i]? =some d→∃u,vs[i]? =some u∧IntsIn (fun g=>g<w0.heap.size) w u d
theorem IntsIn.all {O:Nat→Prop} {w:World} {v:Value} {xs:List Int} (h:IntsIn O w v xs):IntsIn (fun _=>True) w v xs:=h.mono fun _ _=>trivial
theorem HintsAt.cls {w0 w:World} {v:Value} {hcl:List (List Int)} (h:HintsAt w0 w v hcl.length hcl):ClsIn (fun _=>True) w v hcl:=by
 obtain⟨vs,hrow,hin⟩:=h.ex
 rcases hrow.2 with⟨rfl,h0⟩|⟨g,cap,cur,rfl,_,hg,hle,_⟩
 ·exact⟨none,0,by rw[h0],by omega,fun _=>rfl,fun i xs hi=>by
   have:=(List.getElem?_eq_some_iff.1 hi).1
   omega⟩
 ·refine⟨_,cap,rfl,hle,(fun h=>by cases h),fun i xs hi=>?_⟩
  obtain⟨u,hu,ho⟩:=hin i xs (List.getElem?_eq_some_iff.1 hi).1 hi
  exact⟨g,0,u,rfl,heap_lt hg,trivial,by rw[Nat.zero_add];exact mx_at hrow hu,ho.all⟩
theorem HintsAt.nil (w0 w:World) (hcl:List (List Int)):HintsAt w0 w (.slice none 0 0) 0 hcl:=⟨[],World.ownsRow_nil _ _ _ _,fun i d h=>by omega⟩
theorem Six.lits {cs:List (List Int)} (h:Six cs):Lits6 cs:=fun c hc=>by
 obtain⟨h1,h2⟩:=h.2 c hc
 refine⟨by omega,fun y hy=>?_⟩
 obtain⟨a1,a2⟩:=h2 y hy
 have h3:=(litV_pos a1).2
 have h4:=(litB_iff y).1 a1
 omega
end Go.Proofs.YtoojmhjagipmdaaGreat
namespace Go.Proofs.YtoojmhjagipmdaaGreat
open Go.RowKit
section
variable {C:Int→Option (List Int)} {T:Trl} {its:List RIt} {S:Wst} {cs:List (List Int)} {id lv:Int} {c:List Int} {x:Lrn} {R K:List Nat}
theorem ConfO.parts (h:ConfO C T its id c lv x R K) (hs:Sim T its) (hlv:lv≠0): ∃(k0:Nat) (K':List Nat) (z0:RIt),K=k0::K'∧its[k0]? =some z0∧z0.level=lv∧x.lits= -z0.lit::K'.map (fun q=> -(litAt its q))∧(∀q∈K',∃z,its[q]? =some z∧z.level<lv∧0<z.level∧z.level≤x.back)∧0≤x.back∧x.back<lv∧(K'= []→x.back=0)∧(K'≠ []→∃q∈K',∃z,its[q]? =some z∧z.level=x.back):=by
 obtain⟨k0,K',hK,h1,h2⟩:=h.one hlv
 have hkin:=h.kin
 have hkd:=h.kdn
 have hl:=h.lits
 rw[hK]at hkin hkd hl
 obtain⟨z0,hz0⟩:=getElem_of (hkin k0 List.mem_cons_self).1
 rw[lvAt_eq hz0]at h1
 rw[List.map_cons,litAt_eq hz0]at hl
 have hlv0:=h.lv0
 have hat: ∀q∈K',∃z,its[q]? =some z∧z.level<lv∧0<z.level:=fun q hq=>by
  obtain⟨a1,a2,_⟩:=hkin q (List.mem_cons_of_mem _ hq)
  obtain⟨z,hz⟩:=getElem_of a1
  have:=h2 q hq
  rw[lvAt_eq hz]at this a2
  exact⟨z,hz,this,a2⟩
 cases hKK:K' with
 | nil=>
  subst hKK
  have hb:x.back=0:=by rw[h.back,hl];rfl
  refine⟨k0,[],z0,hK,hz0,h1,hl,?_,by omega,by omega,fun _=>hb,fun h=>absurd rfl h⟩
  intro q hq
  cases hq
 | cons k1 K2=>
  obtain⟨z1,hz1,b1,b2⟩:=hat k1 (by rw[hKK];exact List.mem_cons_self)
  have hb:x.back=z1.level:=by
   rw[h.back,hl,hKK,List.map_cons]
   show T.level (litV (-(litAt its k1)):Nat)=_
   rw[litAt_eq hz1,litV_negate,hs.level hz1]
  refine⟨k0,k1::K2,z0,by rw[hK,hKK],hz0,h1,by rw[hl,hKK],fun q hq=>?_,by omega,by omega,(fun h=>by cases h),fun _=>⟨k1,List.mem_cons_self,z1,hz1,hb.symm⟩⟩
  obtain⟨z,hz,a1,a2⟩:=hat q (by rw[hKK];exact hq)
  refine⟨z,hz,a1,a2,?_⟩
  rw[hb]
  rcases List.mem_cons.1 hq with e|hq
  ·subst e
   rw[hz1]at hz
   obtain rfl:=Option.some.inj hz
   exact Int.le_refl _
  ·rw[hKK,List.pairwise_cons,List.pairwise_cons]at hkd
   exact hs.mono q k1 z z1 (Nat.le_of_lt (hkd.2.1 q hq)) hz hz1
structure LearnO (cs:List (List Int)) (x:Lrn) (T:Trl) (its:List RIt) (S:Wst) (l0:Int) (its1:List RIt) (W:WRes):Prop where
 berr:T.backErr x.back=0
 head: ∃r,x.lits=l0::r
 now1:(T.backed x.back).now=x.back
 st1:St (clsC cs) (T.backed x.back) its1 (backS T S x.back)
 pre:its1 <+: its
 lvl: ∀(p:Nat) (y:RIt),its[p]? =some y→y.level≤x.back→its1[p]? =some y
 val:(T.backed x.back).val l0=0
 fal: ∀y∈x.lits,y≠l0→Has its1 (-y)
 res:W.res=2
 err:W.err=0
 tr:W.T=(T.backed x.back).assigned l0 ((cs.length:Int)+1)
 now:W.T.now=x.back
 st:St (clsC (cs++ [x.lits])) W.T (its1++ [⟨l0,(cs.length:Int)+1,x.back⟩]) W.S
 dcs:Dcs (its1++ [⟨l0,(cs.length:Int)+1,x.back⟩])
 kn: ∀j,(W.S.kn j).isSome=(clsC (cs++ [x.lits]) j).isSome
 one:One (clsC (cs++ [x.lits])) (fun _=>True) (its1++ [⟨l0,(cs.length:Int)+1,x.back⟩])
 six:Six (cs++ [x.lits])
end
end Go.Proofs.YtoojmhjagipmdaaGreat
namespace Go.Proofs.YtoojmhjagipmdaaGreat
open Go.RowKit
theorem Lw.kept {O:Nat→Prop} {w0 w w':World} {lab:Nat→Nat} {b ab tb:Nat} {A:Arn} {T:Trl} {S:Wst} (h:Lw w0 w lab b ab tb A T S) (k:Kept O w w') (hO: ∀g,O g→lab g=0∧w0.heap.size≤g):Lw w0 w' lab b ab tb A T S:=
 ⟨h.sys.kept k (fun g hg ho=>hg (hO g ho).1),h.ge,h.hb.trans (k.below (fun i h=>(hO i h).2) h.hb.size)⟩
end Go.Proofs.YtoojmhjagipmdaaGreat
namespace Go.Proofs.YtoojmhjagipmdaaGreat
open Go.RowKit
theorem LrnAt.mono {n m:Nat} {w:World} {v:Value} {x:Lrn} (h:LrnAt n w v x) (hm:m≤n):LrnAt m w v x:=by
 obtain⟨a,b,c,rfl,h1,h2,h3⟩:=h
 exact⟨a,b,c,rfl,own_mono h1 hm,own_mono h2 hm,own_mono h3 hm⟩
theorem LrnAt.below {n:Nat} {w w':World} {v:Value} {x:Lrn} (h:LrnAt n w v x) (k:Below w.heap.size w w'):LrnAt n w' v x:=by
 obtain⟨a,b,c,rfl,h1,h2,h3⟩:=h
 exact⟨a,b,c,rfl,own_below h1 k,own_below h2 k,own_below h3 k⟩
theorem LrnAt.kept {O:Nat→Prop} {n:Nat} {w w':World} {v:Value} {x:Lrn} (h:LrnAt n w v x) (k:Kept O w w') (hO: ∀g,n≤g→¬O g):LrnAt n w' v x:=by
 obtain⟨a,b,c,rfl,h1,h2,h3⟩:=h
 exact⟨a,b,c,rfl,own_kept h1 k (fun g hg=>hO g (own_lt h1 g hg).1),own_kept h2 k (fun g hg=>hO g (own_lt h2 g hg).1),own_kept h3 k (fun g hg=>hO g (own_lt h3 g hg).1)⟩
structure YAt (wc wx:World) (yb:Nat) (y:Lrn) (a b c:Value):Prop where
 box:wx.heap[yb]? =some (.cells #[a,.int .i64 y.back,.int .i64 y.levels,b,c] 65 (0,0))
 lrn:LrnAt wc.heap.size wx (.agg #[a,.int .i64 y.back,.int .i64 y.levels,b,c]) y
 hb:Below wc.heap.size wc wx
 le:wc.heap.size≤yb
theorem YAt.kept {O:Nat→Prop} {wc w w':World} {yb:Nat} {y:Lrn} {a b c:Value} (h:YAt wc w yb y a b c) (k:Kept O w w') (hO: ∀g,wc.heap.size≤g→¬O g):w'.heap[yb]? =some (.cells #[a,.int .i64 y.back,.int .i64 y.levels,b,c] 65 (0,0))∧LrnAt wc.heap.size w' (.agg #[a,.int .i64 y.back,.int .i64 y.levels,b,c]) y:=
 ⟨(k.block _ (heap_lt h.box) (hO _ h.le)).trans h.box,h.lrn.kept k hO⟩
theorem YAt.below {wc w w':World} {yb:Nat} {y:Lrn} {a b c:Value} (h:YAt wc w yb y a b c) (k:Below w.heap.size w w'):YAt wc w' yb y a b c:=
 ⟨(k.block _ (heap_lt h.box)).trans h.box,h.lrn.below k,h.hb.trans (k.mono h.hb.size),h.le⟩
end Go.Proofs.YtoojmhjagipmdaaGreat
