/- package rat: entries in memory; Right. package rat: find (BinarySearchFunc over entries). package rup: Look. slices.Clip; package rat: follow. References of layers 8 and 9: has, find, always, Look. References of layers 8 and 9: always, Look, Candidates. -/
import Derived.Test.YtajbmjpodeilpaaGreatDoorV213
import Derived.Test.YtajbmjpodeilpaaGreatDoorV209
import Derived.Test.YtajbmjpodeilpaaGreatDoorV202
import Derived.Test.YtajbmjpodeilpaaGreatDoorV210
import Derived.ArgAppend
import Derived.Test.YtajbmjpodeilpaaGreatDoorV211
namespace Go.Proofs.YtajbmjpodeilpaaGreatDoor
open Go.RowKit Go.Maps
def EntIn (O:Nat→Prop) (w:World) (v:Value) (es:Ents):Prop:=
 ∃A c,v= .slice A es.length c∧es.length≤c∧(A=none→c=0)∧∀(i:Nat) (p:Int×List Int),es[i]? =some p→∃g o u,A=some ⟨g,o,none⟩∧g<w.heap.size∧O g∧w.cell? ⟨g,o+i*2,none⟩=some (.int .i64 p.1)∧w.cell? ⟨g,o+i*2+1,none⟩=some u∧IntsIn O w u p.2
theorem EntIn.kept {O O':Nat→Prop} {w w':World} {v:Value} {es:Ents} (h:EntIn O w v es) (k:Kept O' w w') (hO: ∀g,O g→¬O' g):EntIn O w' v es:=by
 obtain⟨A,c,hv,hc,hn,hx⟩:=h
 refine⟨A,c,hv,hc,hn,fun i p hi=>?_⟩
 obtain⟨g,o,u,h1,h2,h3,h4,h5,h6⟩:=hx i p hi
 exact⟨g,o,u,h1,Nat.lt_of_lt_of_le h2 k.size,h3,(k.cell (p:=⟨g,o+i*2,none⟩) h2 (hO g h3)).trans h4,(k.cell (p:=⟨g,o+i*2+1,none⟩) h2 (hO g h3)).trans h5,h6.kept k hO⟩
theorem EntIn.below {O:Nat→Prop} {w w':World} {v:Value} {es:Ents} (h:EntIn O w v es) (k:Below w.heap.size w w'):EntIn O w' v es:=
 h.kept (O':=fun _=>False) (Kept.of_below k) (fun _ _ h=>h)
theorem EntIn.mono {O O':Nat→Prop} {w:World} {v:Value} {es:Ents} (h:EntIn O w v es) (hO: ∀g,O g→O' g):EntIn O' w v es:=by
 obtain⟨A,c,hv,hc,hn,hx⟩:=h
 refine⟨A,c,hv,hc,hn,fun i p hi=>?_⟩
 obtain⟨g,o,u,h1,h2,h3,h4,h5,h6⟩:=hx i p hi
 exact⟨g,o,u,h1,h2,hO g h3,h4,h5,h6.mono hO⟩
structure EntOk (es:Ents):Prop where
 rise:Rising es
 ids: ∀p∈es,1≤p.1∧p.1≤1073741824
 cls: ∀p∈es,clauseB p.2=true
 len:es.length≤1048576
theorem two_new (w:World) (z0 z1 a0 a1:Value) (t:TypeId): ∃W1 W2 W3,w.alloc (.cells #[z0,z1] t)=W1∧W1.setCell ⟨w.heap.size,0,none⟩ a0=W2∧W2.setCell ⟨w.heap.size,1,none⟩ a1=W3∧
  W1.frozen? ⟨w.heap.size,0,none⟩=false∧W1.frozen? ⟨w.heap.size,1,none⟩=false∧W2.frozen? ⟨w.heap.size,1,none⟩=false∧W1.cell? ⟨w.heap.size,0,none⟩=some z0∧W1.cell? ⟨w.heap.size,1,none⟩=some z1∧W2.cell? ⟨w.heap.size,1,none⟩=some z1∧
  W3.heap[w.heap.size]? =some (.cells #[a0,a1] t (0,0))∧Below w.heap.size w W3:=by
 have h1:(w.alloc (.cells #[z0,z1] t)).heap[w.heap.size]? =some (.cells #[z0,z1] t (0,0)):=World.alloc_heap_new _ _
 have h2:=mx_set h1 (j:=0) a0
 have h3:=mx_set h2 (j:=1) a1
 refine⟨_,_,_,rfl,rfl,rfl,free_at h1,free_at h1,free_at h2,mx_cell (j:=0) h1,mx_cell (j:=1) h1,mx_cell (j:=1) h2,h3,?_⟩
 exact((mx_al w _).setCell (p:=⟨w.heap.size,0,none⟩) (Nat.le_refl _) _).setCell (p:=⟨w.heap.size,1,none⟩) (Nat.le_refl _) _
set_option maxRecDepth 100000 in
set_option maxHeartbeats 4000000 in
theorem rat_right {O:Nat→Prop} (v:Value) (es:Ents) (w:World) (h:EntIn O w v es) (ho:EntOk es):
  Calls Tryz.prog 116 #[v] w fun e w'=>e= .returned (.bool true)∧Below w.heap.size w w':=by
 have hlen:=ho.len
 have HH:=Lib.hid h
 have HO:=Lib.hid ho
 obtain⟨A,c,rfl,hc,_,_⟩:=h
 clear ho
 go_enter Tryz.func116,Tryz.ntmps116
 go_wp2_with fail
 go_loopw [3,8] (fun lv i wr=> ∃(k:Nat) (last:Int),k≤es.length∧lv= .int .i64 last∧i= .int .i64 k∧Hid (∀p∈es.drop k,last<p.1)∧Hid (Below w.heap.size w wr)) (fun _ i _=>es.length-(intOf i).toNat)
 case atStart=>exact⟨0,0,Nat.zero_le _,rfl,rfl,Lib.hid (fun p hp=>by have:=(HO.out.ids p hp).1;omega),Lib.hid (Below.refl _ _)⟩
 case round=>
  obtain⟨k,last,hk,rfl,rfl,HL,HB⟩:=hrel
  by_cases hlt:k<es.length
  ·obtain⟨p,hp⟩:=getElem_of hlt
   obtain⟨A',c',hAc,_,_,hxs⟩:=HH.out.below HB.out
   simp only[Value.slice.injEq,true_and]at hAc
   obtain⟨rfl,rfl⟩:=hAc
   obtain⟨g,o,u,rfl,hg,_,d0,d1,hu⟩:=hxs k p hp
   have hdk:es.drop k=p::es.drop (k+1):=by
    rw[List.drop_eq_getElem_cons hlt]
    rw[List.getElem?_eq_getElem hlt]at hp
    rw[Option.some.inj hp]
   have hlast:=HL.out p (by rw[hdk];exact List.mem_cons_self)
   have hpm:=List.mem_of_getElem? hp
   obtain⟨i1,i2⟩:=HO.out.ids p hpm
   have hcl:=HO.out.cls p hpm
   have hpl:p.2.length≤140737488355328:=by
    unfold clauseB at hcl
    rw[Bool.and_eq_true,decide_eq_true_eq]at hcl
    omega
   have HL2:=Lib.hid (show∀q∈es.drop (k+1),p.1<q.1 from fun q hq=>by
    have h1:(es.drop k).Pairwise fun p q=>p.1<q.1:=List.Pairwise.drop HO.out.rise
    rw[hdk,List.pairwise_cons]at h1
    exact h1.1 q hq)
   obtain⟨id,hid⟩: ∃id,p.1=id:=⟨_,rfl⟩
   obtain⟨d,hd⟩: ∃d,p.2=d:=⟨_,rfl⟩
   rw[hid]at d0 hlast i1 i2 HL2
   rw[hd]at hu hcl hpl
   obtain⟨W1,W2,W3,hW1,hW2,hW3,f0,f1,f2,y0,y1,y2,hbx,hb3⟩:=two_new wr (.int .i64 0) (.slice none 0 0) (.int .i64 id) u 86
   have z0:=mx_cell (j:=0) hbx
   have z1:=mx_cell (j:=1) hbx
   have HRC:=Lib.hid (fun W (hb:Below W3.heap.size W3 W)=>right_clause u d W ((hu.below hb3).below hb) hpl)
   rw[hcl]at HRC
   have HB3:=Lib.hid (HB.out.trans (hb3.mono HB.out.size))
   have q0:decide (id≤last)=false:=decide_eq_false (by omega)
   have q1:decide ((1073741824:Int)<id)=false:=decide_eq_false (by omega)
   obtain⟨Au,cu,rfl,_⟩:=hu
   clear hp hxs hdk hlast hpm hcl hpl hid hd hbx hb3
   go_wp2_with fail
   refine(HRC.out W3 (Below.refl _ _)).mono ?_
   rintro e w' ⟨rfl,rfl⟩
   clear f0 f1 f2 y0 y1 y2 hW1 hW2 hW3
   go_wp2_with fail
   go_roundw
   case rel=>exact⟨k+1,id,by omega,rfl,by go_num,HL2,HB3⟩
   case measure=>simp[intOf];omega
  ·obtain rfl:k=es.length:=by omega
   have q0:decide ((es.length:Int)≤1048576)=true:=decide_eq_true (by omega)
   have q0n:decide (es.length≤1048576)=true:=decide_eq_true hlen
   go_wp2_with fail
   go_ret
   exact⟨rfl,HB.out⟩
end Go.Proofs.YtajbmjpodeilpaaGreatDoor
namespace Go.Proofs.YtajbmjpodeilpaaGreatDoor
open Go.RowKit Go.Maps
def cmpI (x y:Int):Int:=if x<y then -1 else if y<x then 1 else 0
set_option maxRecDepth 100000 in
set_option maxHeartbeats 2000000 in
theorem find_cmp (x y:Int) (u:Value) (w:World):
  Calls Tryz.prog 159 #[.agg #[.int .i64 x,u],.int .i64 y] w fun e w'=>e= .returned (.int .i64 (cmpI x y))∧Below w.heap.size w w':=by
 obtain⟨W,hW⟩: ∃W,w.alloc (.cells #[.int .i64 x,u] 86)=W:=⟨_,rfl⟩
 have hb:Below w.heap.size w W:=by rw[←hW];exact mx_al _ _
 have hn:W.heap[w.heap.size]? =some (.cells #[.int .i64 x,u] 86 (0,0)):=by rw[←hW];exact World.alloc_heap_new _ _
 have b0:W.cell? ⟨w.heap.size,0,none⟩=some (.int .i64 x):=mx_cell (j:=0) hn
 obtain⟨R,hR⟩: ∃R,cmpI x y=R:=⟨_,rfl⟩
 rw[hR]
 have HR:=Lib.hid hR
 have HB:=Lib.hid hb
 clear hb hn hR
 by_cases h1:x<y
 ·have q1:decide (x<y)=true:=decide_eq_true h1
  have HF:=Lib.hid (show R= -1 from by rw[←HR.out];exact if_pos h1)
  clear h1
  go_enter Tryz.func159,Tryz.ntmps159
  go_wp2_with fail
  go_ret
  rw[HF.out]
  exact⟨rfl,HB.out⟩
 ·have q1:decide (x<y)=false:=decide_eq_false h1
  by_cases h2:y<x
  ·have q2:decide (y<x)=true:=decide_eq_true h2
   have HF:=Lib.hid (show R=1 from by rw[←HR.out];exact(if_neg h1).trans (if_pos h2))
   clear h1 h2
   go_enter Tryz.func159,Tryz.ntmps159
   go_wp2_with fail
   go_ret
   rw[HF.out]
   exact⟨rfl,HB.out⟩
  ·have q2:decide (y<x)=false:=decide_eq_false h2
   have HF:=Lib.hid (show R=0 from by rw[←HR.out];exact(if_neg h1).trans (if_neg h2))
   clear h1 h2
   go_enter Tryz.func159,Tryz.ntmps159
   go_wp2_with fail
   go_ret
   rw[HF.out]
   exact⟨rfl,HB.out⟩
theorem rise_lt {es:Ents} (h:Rising es) {i j:Nat} {x y:Int×List Int} (hi:es[i]? =some x) (hj:es[j]? =some y) (hij:i<j):x.1<y.1:=by
 have hi':=List.getElem?_eq_some_iff.1 hi
 have hj':=List.getElem?_eq_some_iff.1 hj
 have:=List.pairwise_iff_getElem.1 h i j hi'.1 hj'.1 hij
 rw[hi'.2,hj'.2]at this
 exact this
structure FindO (es:Ents) (y:Int) (p:Int) (ok:Bool):Prop where
 ok:ok=(getA es y).isSome
 at_: ∀c,getA es y=some c→∃i:Nat,p=i∧es[i]? =some (y,c)
set_option maxRecDepth 100000 in
set_option maxHeartbeats 4000000 in
theorem find_bsf {O:Nat→Prop} (v:Value) (es:Ents) (y:Int) (w:World) (h:EntIn O w v es) (hr:Rising es) (hl:es.length≤4194304):
  Calls Tryz.prog 158 #[v,.int .i64 y,.func (.func 159) #[] #[]] w fun r w'=> ∃(p:Int) (ok:Bool),r= .returned (.tuple #[.int .i64 p,.bool ok])∧FindO es y p ok∧Below w.heap.size w w':=by
 have HX:=Lib.hid h
 have HS:=Lib.hid hr
 obtain⟨A,c,rfl,hc,_,_⟩:=h
 clear hr
 go_enter Tryz.func158,Tryz.ntmps158
 go_wp2_with fail
 go_loopw [9,10] (fun a b wr=> ∃i j:Nat,i≤j∧j≤es.length∧a= .int .i64 i∧b= .int .i64 j∧Hid (Below w.heap.size w wr)∧Hid (∀k (e:Int×List Int),k<i→es[k]? =some e→e.1<y)∧Hid (∀k (e:Int×List Int),j≤k→es[k]? =some e→y≤e.1)) (fun a b _=>(intOf b).toNat-(intOf a).toNat)
 case atStart=>exact⟨0,es.length,Nat.zero_le _,Nat.le_refl _,rfl,rfl,Lib.hid (Below.refl _ _),Lib.hid (fun k e hk=>by omega),Lib.hid (fun k e hk he=>by have:=(List.getElem?_eq_some_iff.1 he).1;omega)⟩
 case round=>
  obtain⟨i,j,hij,hjl,rfl,rfl,HW,H1,H2⟩:=hrel
  by_cases hlt:i<j
  ·have hw1:IntKind.i64.wrap ((i:Int)+(j:Int))=(i:Int)+(j:Int):=IntWalk.i64_in _ (by omega)
   obtain⟨m,hm⟩: ∃m,(i+j)/2=m:=⟨_,rfl⟩
   have hm2:((i:Int)+(j:Int))/2=(m:Int):=by omega
   have him:i≤m:=by omega
   have hmj:m<j:=by omega
   clear hm
   obtain⟨x,hx⟩: ∃x,es[m]? =some x:=⟨_,List.getElem?_eq_getElem (by omega)⟩
   obtain⟨A',c',hAc,_,_,hxs⟩:=HX.out.below HW.out
   simp only[Value.slice.injEq,true_and]at hAc
   obtain⟨rfl,rfl⟩:=hAc
   obtain⟨g,o,u,rfl,hgl,_,d0,d1,_⟩:=hxs m x hx
   have HCM:=Lib.hid (find_cmp x.1 y u wr)
   have HXM:=Lib.hid hx
   clear hx hxs
   by_cases hcx:x.1<y
   ·have hd:decide (cmpI x.1 y<0)=true:=decide_eq_true (by unfold cmpI;rw[if_pos hcx];decide)
    have HC:=Lib.hid hcx
    clear hcx
    go_wp2_with fail
    refine HCM.out.mono ?_
    rintro e w1 ⟨rfl,hb1⟩
    have HB1:=Lib.hid (HW.out.trans (hb1.mono HW.out.size))
    clear d0 d1 hb1
    go_wp2_with fail
    go_roundw
    case rel=>exact⟨m+1,j,by omega,hjl,by go_num,rfl,HB1,Lib.hid (fun k z hk hz=>by
     rcases Nat.lt_or_ge k m with h|h
     ·have:=rise_lt HS.out hz HXM.out h
      have:=HC.out
      omega
     ·obtain rfl:k=m:=by omega
      rw[HXM.out]at hz
      obtain rfl:=Option.some.inj hz
      exact HC.out),H2⟩
    case measure=>simp[intOf];omega
   ·have hd:decide (cmpI x.1 y<0)=false:=decide_eq_false (by unfold cmpI;rw[if_neg hcx];split <;> decide)
    have HC:=Lib.hid hcx
    clear hcx
    go_wp2_with fail
    refine HCM.out.mono ?_
    rintro e w1 ⟨rfl,hb1⟩
    have HB1:=Lib.hid (HW.out.trans (hb1.mono HW.out.size))
    clear d0 d1 hb1
    go_wp2_with fail
    go_roundw
    case rel=>exact⟨i,m,him,by omega,rfl,by go_num,HB1,H1,Lib.hid (fun k z hk hz=>by
     have hcc:=HC.out
     rcases Nat.lt_or_ge m k with h|h
     ·have:=rise_lt HS.out HXM.out hz h
      omega
     ·obtain rfl:k=m:=by omega
      rw[HXM.out]at hz
      obtain rfl:=Option.some.inj hz
      omega)⟩
    case measure=>simp[intOf];omega
  ·obtain rfl:i=j:=by omega
   by_cases hil:i<es.length
   ·obtain⟨x,hx⟩: ∃x,es[i]? =some x:=⟨_,List.getElem?_eq_getElem hil⟩
    obtain⟨A',c',hAc,_,_,hxs⟩:=HX.out.below HW.out
    simp only[Value.slice.injEq,true_and]at hAc
    obtain⟨rfl,rfl⟩:=hAc
    obtain⟨g,o,u,rfl,hgl,_,d0,d1,_⟩:=hxs i x hx
    have HCM:=Lib.hid (find_cmp x.1 y u wr)
    have hres:FindO es y i (cmpI x.1 y==0):=by
     by_cases hxy:x.1=y
     ·have hg:getA es y=some x.2:=getA_of HS.out (by rw[←hxy];exact List.mem_of_getElem? hx)
      refine⟨?_,fun c hc=>⟨i,rfl,?_⟩⟩
      ·rw[hg,hxy]
       unfold cmpI
       rw[if_neg (by omega),if_neg (by omega)]
       rfl
      ·rw[hg]at hc
       rw[hx,←Option.some.inj hc,←hxy]
     ·have hg:getA es y=none:=getA_none.2 fun v hv=>by
       obtain⟨k,hk⟩:=List.getElem?_of_mem hv
       rcases Nat.lt_trichotomy k i with h|h|h
       ·have:=H1.out k _ h hk
        simp only at this
        omega
       ·subst h
        rw[hx]at hk
        rw[Option.some.inj hk]at hxy
        exact hxy rfl
       ·have h3:=rise_lt HS.out hx hk h
        have h4:=H2.out i x (Nat.le_refl _) hx
        simp only at h3
        omega
      refine⟨?_,fun c hc=>by rw[hg]at hc;cases hc⟩
      rw[hg]
      unfold cmpI
      split
      ·rfl
      ·split
       ·rfl
       ·omega
    have HRES:=Lib.hid hres
    clear hxs hx hres
    go_wp2_with fail
    refine HCM.out.mono ?_
    rintro e w1 ⟨rfl,hb1⟩
    have HB1:=Lib.hid (HW.out.trans (hb1.mono HW.out.size))
    clear d0 d1 hb1
    go_wp2_with fail
    go_ret2
    exact⟨_,_,rfl,HRES.out,HB1.out⟩
   ·have hd:decide ((i:Int)<(es.length:Int))=false:=decide_eq_false (by omega)
    have HRES:=Lib.hid (show FindO es y i false from by
     have hg:getA es y=none:=getA_none.2 fun v hv=>by
      obtain⟨k,hk⟩:=List.getElem?_of_mem hv
      have h5:=(List.getElem?_eq_some_iff.1 hk).1
      have:=H1.out k _ (by omega) hk
      simp only at this
      omega
     exact⟨by rw[hg];rfl,fun c hc=>by rw[hg]at hc;cases hc⟩)
    go_wp2_with fail
    go_ret2
    exact⟨_,_,rfl,HRES.out,HW.out⟩
set_option maxHeartbeats 2000000 in
theorem rat_find {O:Nat→Prop} (v:Value) (es:Ents) (y:Int) (w:World) (h:EntIn O w v es) (hr:Rising es) (hl:es.length≤4194304):
  Calls Tryz.prog 120 #[v,.int .i64 y] w fun r w'=> ∃(p:Int) (ok:Bool),r= .returned (.tuple #[.int .i64 p,.bool ok])∧FindO es y p ok∧Below w.heap.size w w':=by
 have HC:=Lib.hid (find_bsf v es y w h hr hl)
 obtain⟨A,c,rfl,hc,_,_⟩:=h
 clear hr
 go_enter Tryz.func120,Tryz.ntmps120
 go_wp2_with fail
 refine HC.out.mono ?_
 rintro e w1 ⟨p,ok,rfl,hf,hb⟩
 have HF:=Lib.hid hf
 have HB:=Lib.hid hb
 clear hf hb
 go_wp2_with fail
 go_ret2
 exact⟨_,_,rfl,HF.out,HB.out⟩
end Go.Proofs.YtajbmjpodeilpaaGreatDoor
namespace Go.Proofs.YtajbmjpodeilpaaGreatDoor
open Go.RowKit Go.Maps Go.Shelf
theorem IntsIn.take {O:Nat→Prop} {w:World} {A:Option Addr} {n c:Nat} {xs:List Int} (h:IntsIn O w (.slice A n c) xs) {k:Nat} (hk:k≤xs.length):IntsIn O w (.slice A k c) (xs.take k):=by
 obtain⟨A',c',e,hc,hn,hx⟩:=h
 cases e
 have hl:(xs.take k).length=k:=by rw[List.length_take];omega
 refine⟨A,c,by rw[hl],by omega,hn,fun i x hi=>?_⟩
 have hik:=(List.getElem?_eq_some_iff.1 hi).1
 rw[List.getElem?_take,if_pos (by omega)]at hi
 exact hx i x hi
set_option maxRecDepth 100000 in
set_option maxHeartbeats 2000000 in
theorem rup_Look {O Oc:Nat→Prop} (cv u:Value) (c xs:List Int) (w:World) (hc:IntsIn Oc w cv c) (hu:IntsIn O w u xs) (hcb:clauseB c=true) (f:Int→Int) (hf:asgF xs=some f) (hcl:c.length≤4096) (hlen:xs.length≤100000000000):
  Calls Tryz.prog 152 #[cv,u] w fun e w'=>e= .returned (.tuple #[.int .u8 ((lookF f c).1:Nat),.int .i64 (lookF f c).2,.int .i64 0])∧Below w.heap.size w w':=by
 have HA:=Lib.hid (rup_assigned u xs w hu hlen)
 have HC:=Lib.hid hc
 have HF:=Lib.hid hf
 obtain⟨A,k,rfl,_⟩:=hu
 obtain⟨Ac,kc,rfl,_⟩:=hc
 clear hf
 go_enter Tryz.func152,Tryz.ntmps152
 go_wp2_with fail
 refine HA.out.mono ?_
 rintro e w1 ⟨ho,hb1⟩
 rw[HF.out]at ho
 obtain⟨b,n,rfl,_,_,hm,hok⟩:=ho
 have hr:=right_clause _ c w1 (HC.out.below hb1) (by omega)
 rw[hcb]at hr
 have HR:=Lib.hid hr
 have HL:=Lib.hid (rup_look b n f _ c w1 hm hok (HC.out.below hb1) (by omega))
 have HB:=Lib.hid hb1
 clear hr hm hok hb1 HA
 go_wp2_with fail
 refine HR.out.mono ?_
 rintro e w' ⟨rfl,rfl⟩
 go_wp2_with fail
 refine HL.out.mono ?_
 rintro e w' ⟨rfl,rfl⟩
 go_wp2_with fail
 go_ret3
 exact⟨rfl,HB.out⟩
end Go.Proofs.YtajbmjpodeilpaaGreatDoor
namespace Go.Proofs.YtajbmjpodeilpaaGreatDoor
open Go.RowKit Go.Maps
theorem asgGo_snoc (x:Int): ∀(xs:List Int) (f:Int→Int),asgGo f (xs++ [x])=(asgGo f xs).bind fun g=>if litB x=true∧0≤ofF g x then some (putF g x)else none
 | [],f=>rfl
 | y::r,f=>by
  show(if litB y=true∧0≤ofF f y then asgGo (putF f y) (r++ [x])else none)=(if litB y=true∧0≤ofF f y then asgGo (putF f y) r else none).bind _
  split
  ·exact asgGo_snoc x r _
  ·rfl
theorem asgF_snoc {xs:List Int} {f:Int→Int} {x:Int} (h:asgF xs=some f) (hx:litB x=true) (h0:ofF f x=0):asgF (xs++ [x])=some (putF f x):=by
 unfold asgF at h⊢
 rw[asgGo_snoc,h]
 exact if_pos ⟨hx,by omega⟩
theorem clip_any (A:Option Addr) (n c:Nat) (w:World) (hn:n≤c) (hA:A=none→c=0):
  Calls Tryz.prog 153 #[.slice A n c] w fun e w'=>e= .returned (.slice A n n)∧w=w':=by
 have hni:(n:Int)≤(c:Int):=by omega
 have hn0:(0:Int)≤(n:Int):=by omega
 cases A with
 | none=>
  obtain rfl:=hA rfl
  obtain rfl:n=0:=by omega
  go_enter Tryz.func153,Tryz.ntmps153
  go_wp2_with fail
  go_ret
  exact⟨rfl,rfl⟩
 | some a=>
  obtain⟨g,o,s⟩:=a
  go_enter Tryz.func153,Tryz.ntmps153
  go_wp2_with fail
  go_ret
  exact⟨rfl,rfl⟩
theorem ratFol_step {es:Ents} {asg hs:List Int} {f:Int→Int} {j:Nat} {id:Int} (h:hs[j]? =some id) (hf:asgF asg=some f):ratFol es asg (hs.drop j)=match getA es id with
  | none=>([],false,id,91)
  | some c=>if(lookF f c).1=2 then(asg,true,0,0)else if(lookF f c).1=3 then ratFol es (asg++ [(lookF f c).2]) (hs.drop (j+1))else([],false,id,81):=by
 have hlt:=(List.getElem?_eq_some_iff.1 h).1
 rw[List.drop_eq_getElem_cons hlt]
 rw[List.getElem?_eq_getElem hlt]at h
 rw[Option.some.inj h]
 conv=>lhs;unfold ratFol
 cases getA es id with
 | none=>rfl
 | some c=>
  simp only
  rw[hf]
set_option maxRecDepth 100000 in
set_option maxHeartbeats 4000000 in
theorem rat_follow {O Oa Oh:Nat→Prop} (v:Value) (es:Ents) (av hv:Value) (asg hs:List Int) (f:Int→Int) (w:World) (h:EntIn O w v es) (ho:EntOk es) (ha:IntsIn Oa w av asg) (hf:asgF asg=some f) (hh:IntsIn Oh w hv hs) (hal:asg.length≤100000000) (hhl:hs.length≤1000000):
  Calls Tryz.prog 118 #[v,av,hv] w fun e w'=> ∃u,e= .returned (.tuple #[u,.bool (ratFol es asg hs).2.1,.int .i64 (ratFol es asg hs).2.2.1,.int .i64 ((ratFol es asg hs).2.2.2:Nat)])∧IntsIn (fun _=>True) w' u (ratFol es asg hs).1∧Below w.heap.size w w':=by
 obtain⟨i0,hi,hz0,hz1,hz2⟩:=info_parts cinfo_lit
 have HE:=Lib.hid h
 have HO:=Lib.hid ho
 have HH:=Lib.hid hh
 obtain⟨R,hR⟩: ∃R,ratFol es asg hs=R:=⟨_,rfl⟩
 rw[hR]
 have HR:=Lib.hid (show R=ratFol es asg (hs.drop 0)from by rw[List.drop_zero];exact hR.symm)
 have HA:=Lib.hid (show IntsIn (fun _=>True) w av asg from ha.mono fun _ _=>trivial)
 have HF:=Lib.hid hf
 have hel:=ho.len
 obtain⟨Ae,ce,rfl,_⟩:=h
 obtain⟨Ah,ch,rfl,_⟩:=hh
 clear hR ho ha hf
 go_enter Tryz.func118,Tryz.ntmps118
 go_wp2_with fail
 go_loopw [1,19] (fun v i wr=> ∃(j:Nat) (ax:List Int) (f':Int→Int),j≤hs.length∧i= .int .i64 j∧Hid (IntsIn (fun _=>True) wr v ax)∧Hid (asgF ax=some f')∧ax.length≤asg.length+j∧Hid (R=ratFol es ax (hs.drop j))∧Hid (Below w.heap.size w wr)) (fun _ i _=>hs.length-(intOf i).toNat)
 case atStart=>exact⟨0,asg,f,Nat.zero_le _,rfl,HA,HF,Nat.le_refl _,HR,Lib.hid (Below.refl _ _)⟩
 case round=>
  obtain⟨j,ax,f',hj,rfl,HAs,HFs,hasl,HRs,HB⟩:=hrel
  obtain⟨Aa,ca,rfl,hac,hanone,_⟩:=HAs.out
  by_cases hlt:j<hs.length
  ·obtain⟨id,hid⟩:=getElem_of hlt
   obtain⟨A',c',hAc,_,_,hxs⟩:=HH.out.below HB.out
   simp only[Value.slice.injEq,true_and]at hAc
   obtain⟨rfl,rfl⟩:=hAc
   obtain⟨g,o,rfl,hg,_,d1⟩:=hxs j id hid
   have hst:=HRs.out.trans (ratFol_step (es:=es) hid HFs.out)
   have HFI:=Lib.hid (rat_find _ es id wr (HE.out.below HB.out) HO.out.rise (by omega))
   cases hg2:getA es id with
   | none=>
    rw[hg2]at hst
    have HST:=Lib.hid hst
    have HGN:=Lib.hid hg2
    clear hst hid hxs hg2
    go_wp2_with fail
    refine HFI.out.mono ?_
    rintro e w1 ⟨p,ok,rfl,hfo,hb1⟩
    obtain rfl:ok=false:=by rw[hfo.ok,HGN.out];rfl
    have HB1:=Lib.hid (HB.out.trans (hb1.mono HB.out.size))
    clear hfo hb1 d1
    go_wp2_with fail
    refine bodyPost_ret (v:=.tuple #[.slice none 0 0,.bool false,.int .i64 id,.int .i64 91]) (by simp[results,Tryz.results118,go_sem]) rfl ?_
    rw[HST.out]
    exact⟨_,rfl,IntsIn.nil _ _,HB1.out⟩
   | some c=>
    rw[hg2]at hst
    simp only at hst
    have HGS:=Lib.hid hg2
    have hcb:=HO.out.cls _ (getA_some hg2)
    have hcl4:=clause_len hcb
    have HCB:=Lib.hid hcb
    obtain⟨KU,hKU⟩: ∃KU,lookF f' c=KU:=⟨_,rfl⟩
    rw[hKU]at hst
    obtain⟨kd,u⟩:=KU
    simp only at hst
    have HST:=Lib.hid hst
    have HKU:=Lib.hid hKU
    clear hst hid hxs hg2 hcb hKU
    go_wp2_with fail
    refine HFI.out.mono ?_
    rintro e w1 ⟨p,ok,rfl,hfo,hb1⟩
    obtain rfl:ok=true:=by rw[hfo.ok,HGS.out];rfl
    obtain⟨i,rfl,hei⟩:=hfo.at_ c HGS.out
    have HB1:=Lib.hid (HB.out.trans (hb1.mono HB.out.size))
    have HA1:=Lib.hid (HAs.out.below hb1)
    have hil:=(List.getElem?_eq_some_iff.1 hei).1
    have hili:(i:Int)<(es.length:Int):=by omega
    obtain⟨A',c',hAc,_,_,hxs⟩:=HE.out.below HB1.out
    simp only[Value.slice.injEq,true_and]at hAc
    obtain⟨rfl,rfl⟩:=hAc
    obtain⟨ge,oe,ue,rfl,hge,_,_,de1,hue⟩:=hxs i _ hei
    have HLK:=Lib.hid (rup_Look ue (.slice Aa ax.length ca) c ax w1 hue HA1.out HCB.out f' HFs.out hcl4 (by omega))
    rw[HKU.out]at HLK
    obtain⟨Au,cu,rfl,_⟩:=hue
    clear hfo hb1 d1 hei hxs
    go_wp2_with fail
    refine HLK.out.mono ?_
    rintro e w2 ⟨rfl,hb2⟩
    have HB2:=Lib.hid (HB1.out.trans (hb2.mono HB1.out.size))
    have HA2:=Lib.hid (HA1.out.below hb2)
    clear hb2 de1
    by_cases h2:kd=2
    ·subst h2
     have HST2:=Lib.hid (HST.out.trans (if_pos rfl))
     clear HST
     go_wp2_with fail
     refine bodyPost_ret (v:=.tuple #[.slice Aa ax.length ca,.bool true,.int .i64 0,.int .i64 0]) (by simp[results,Tryz.results118,go_sem]) rfl ?_
     rw[HST2.out]
     exact⟨_,rfl,HA2.out,HB2.out⟩
    ·have hst:=HST.out.trans (if_neg h2)
     have q2:((kd:Int)==2)=false:=beq_eq_false_iff_ne.2 (by omega)
     by_cases h3:kd=3
     ·subst h3
      have HST3:=Lib.hid (hst.trans (if_pos rfl))
      obtain⟨hum,hu0⟩:=lookF_unit HKU.out
      have HFN:=Lib.hid (asgF_snoc HFs.out (clauseB_lit HCB.out hum) hu0)
      have HCP:=Lib.hid (clip_any Aa ax.length ca w2 hac hanone)
      have HNN:=Lib.hid (show Aa=none→ax.length=0∧ax.length=0 from fun e=>by
       have:=hanone e
       omega)
      have HOL:=Lib.hid (fun(Wa:World) (hb:Below w2.heap.size w2 Wa) (b:Addr) (e:Aa=some b) (jj:Nat) (z:Value) (hz:(ax.map (Value.int .i64))[jj]? =some z)=>(show Wa.cell? (b.add jj)=some z from by
       obtain⟨A',c',hAc,_,_,hxs⟩:=HA2.out
       simp only[Value.slice.injEq,true_and]at hAc
       obtain⟨rfl,rfl⟩:=hAc
       rw[List.getElem?_map]at hz
       cases hq:ax[jj]? with
       | none=>rw[hq]at hz;cases hz
       | some y=>
        rw[hq]at hz
        obtain⟨g',o',e',hg',_,d'⟩:=hxs jj y hq
        rw[e]at e'
        obtain rfl:=Option.some.inj e'
        rw[←Option.some.inj hz]
        have hq2:=(hb.cell (p:=⟨g',o'+jj,none⟩) hg').trans d'
        unfold Addr.add
        split
        ·rename_i h0
         rw[show jj=0 by simpa using h0]at hq2
         exact hq2
        ·exact hq2))
      clear HST hst h2 hum hu0 hac hanone HLK
      go_wp2_with fail
      refine HCP.out.mono ?_
      rintro e w' ⟨rfl,rfl⟩
      go_wp2_with (at_builtin;refine wpList_append_grows _ rfl _ _ 29 rfl 28 i0 (.int .i64 0) 1 8 Tryz.underlying29 hi hz0 hz1 hz2 rfl (by decide) Aa ax.length ax.length (ax.map (Value.int .i64)) rfl HNN.out (by simp) (HOL.out _ (mx_al w2 _)) ⟨w2.heap.size,0,none⟩ 1 1 [.int .i64 u] rfl rfl (cell_one_new' _ _ _) (by simp[Value.oneCell']) (by omega) (by unfold maxLen;omega) (by omega) ?_;intro v' w3 hown hgrow)
      obtain⟨Av,kv,rfl,_⟩:=mx_slice hown
      have HB3:=Lib.hid (HB2.out.trans (((mx_al w2 (.cells #[.int .i64 u] 28)).grown hgrow (by simp) (fun g e=>by cases e)).mono HB2.out.size))
      have HA3:=Lib.hid (show IntsIn (fun _=>True) w3 (.slice Av (ax++ [u]).length kv) (ax++ [u])from(IntsIn.of_own (xs:=ax++ [u]) (by
       rw[List.length_append,List.map_append]
       exact hown)).mono fun _ _=>trivial)
      have hlen3:(ax++ [u]).length=ax.length+1:=by simp
      rw[hlen3]at HA3
      clear hown hgrow HOL HNN
      go_wp2_with fail
      go_roundw
      case rel=>exact⟨j+1,ax++ [u],_,by omega,by go_num,HA3,HFN,by rw[hlen3];omega,HST3,HB3⟩
      case measure=>simp[intOf];omega
     ·have HST3:=Lib.hid (hst.trans (if_neg h3))
      have q3:((kd:Int)==3)=false:=beq_eq_false_iff_ne.2 (by omega)
      clear HST hst h2 h3 HLK
      go_wp2_with fail
      refine bodyPost_ret (v:=.tuple #[.slice none 0 0,.bool false,.int .i64 id,.int .i64 81]) (by simp[results,Tryz.results118,go_sem]) rfl ?_
      rw[HST3.out]
      exact⟨_,rfl,IntsIn.nil _ _,HB2.out⟩
  ·obtain rfl:j=hs.length:=by omega
   have HST:=Lib.hid (show R=(ax,false,0,0)from by rw[HRs.out,List.drop_length];rfl)
   go_wp2_with fail
   refine bodyPost_ret (v:=.tuple #[.slice Aa ax.length ca,.bool false,.int .i64 0,.int .i64 0]) (by simp[results,Tryz.results118,go_sem]) rfl ?_
   rw[HST.out]
   exact⟨_,rfl,HAs.out,HB.out⟩
end Go.Proofs.YtajbmjpodeilpaaGreatDoor
namespace Go.Proofs.YtajbmjpodeilpaaGreatDoor
open Go.RowKit
theorem dropAt {α:Type} {l:List α} {k:Nat} {x:α} (h:l[k]? =some x):l.drop k=x::l.drop (k+1):=by
 have hk:=(List.getElem?_eq_some_iff.1 h).1
 have:=List.drop_eq_getElem_cons hk
 rwa [show l[k]=x from Option.some.inj ((List.getElem?_eq_getElem hk).symm.trans h)]at this
theorem atOf {α:Type} {l:List α} {k:Nat} (h:k<l.length): ∃x,l[k]? =some x:=⟨_,List.getElem?_eq_getElem h⟩
set_option maxRecDepth 100000 in
set_option maxHeartbeats 1000000 in
theorem ref_has08 {O:Nat→Prop} (x:Int) (u:Value) (l:List Int) (w:World) (h:IntsIn O w u l) (hl:l.length≤100000000000):
  Calls Tryz.prog 143 #[u,.int .i64 x] w fun e w'=>e= .returned (.bool (l.contains x))∧w=w':=by
 obtain⟨A,c,rfl,hc,_,hx⟩:=h
 have HX:=Lib.hid hx
 clear hx
 obtain⟨bb,hbb⟩: ∃b,l.contains x=b:=⟨_,rfl⟩
 rw[hbb]
 have HBB:=Lib.hid hbb
 clear hbb
 go_enter Tryz.func143,Tryz.ntmps143
 go_wp2_with fail
 go_loop [5] (fun i=> ∃k:Nat,k≤l.length∧i= .int .i64 k∧Hid (bb=(l.drop k).contains x)) (fun i=>l.length-(intOf i).toNat)
 case atStart=>exact⟨0,Nat.zero_le _,rfl,Lib.hid HBB.out.symm⟩
 case round=>
  obtain⟨k,hk,rfl,HE⟩:=hrel
  by_cases hlt:k<l.length
  ·obtain⟨y,hy⟩:=atOf hlt
   obtain⟨g,o,rfl,hg,_,d0⟩:=HX.out k y hy
   have hdr:=dropAt hy
   clear hy
   by_cases hq:y=x
   ·have q1:(y==x)=true:=beq_iff_eq.2 hq
    have HN:=Lib.hid (show bb=true from by rw[HE.out,hdr,List.contains_cons,Bool.or_eq_true];exact .inl (beq_iff_eq.2 hq.symm))
    clear hq hdr
    go_wp2_with fail
    go_ret
    exact⟨by rw[HN.out];rfl,rfl⟩
   ·have q1:(y==x)=false:=beq_eq_false_iff_ne.2 hq
    have HN:=Lib.hid (show bb=(l.drop (k+1)).contains x from by rw[HE.out,hdr,List.contains_cons,show(x==y)=false from beq_eq_false_iff_ne.2 fun e=>hq e.symm,Bool.false_or])
    clear hq hdr
    go_wp2_with fail
    go_round
    case rel=>exact⟨k+1,by omega,by go_num,HN⟩
    case measure=>simp[intOf];omega
  ·obtain rfl:k=l.length:=by omega
   have hE:=HE.out
   rw[List.drop_length]at hE
   have HN:=Lib.hid (show bb=false from hE)
   clear hE
   go_wp2_with fail
   go_ret
   exact⟨by rw[HN.out];rfl,rfl⟩
set_option maxRecDepth 100000 in
set_option maxHeartbeats 1000000 in
theorem ref_has09 {O:Nat→Prop} (x:Int) (u:Value) (l:List Int) (w:World) (h:IntsIn O w u l) (hl:l.length≤100000000000):
  Calls Tryz.prog 105 #[u,.int .i64 x] w fun e w'=>e= .returned (.bool (l.contains x))∧w=w':=by
 obtain⟨A,c,rfl,hc,_,hx⟩:=h
 have HX:=Lib.hid hx
 clear hx
 obtain⟨bb,hbb⟩: ∃b,l.contains x=b:=⟨_,rfl⟩
 rw[hbb]
 have HBB:=Lib.hid hbb
 clear hbb
 go_enter Tryz.func105,Tryz.ntmps105
 go_wp2_with fail
 go_loop [5] (fun i=> ∃k:Nat,k≤l.length∧i= .int .i64 k∧Hid (bb=(l.drop k).contains x)) (fun i=>l.length-(intOf i).toNat)
 case atStart=>exact⟨0,Nat.zero_le _,rfl,Lib.hid HBB.out.symm⟩
 case round=>
  obtain⟨k,hk,rfl,HE⟩:=hrel
  by_cases hlt:k<l.length
  ·obtain⟨y,hy⟩:=atOf hlt
   obtain⟨g,o,rfl,hg,_,d0⟩:=HX.out k y hy
   have hdr:=dropAt hy
   clear hy
   by_cases hq:y=x
   ·have q1:(y==x)=true:=beq_iff_eq.2 hq
    have HN:=Lib.hid (show bb=true from by rw[HE.out,hdr,List.contains_cons,Bool.or_eq_true];exact .inl (beq_iff_eq.2 hq.symm))
    clear hq hdr
    go_wp2_with fail
    go_ret
    exact⟨by rw[HN.out];rfl,rfl⟩
   ·have q1:(y==x)=false:=beq_eq_false_iff_ne.2 hq
    have HN:=Lib.hid (show bb=(l.drop (k+1)).contains x from by rw[HE.out,hdr,List.contains_cons,show(x==y)=false from beq_eq_false_iff_ne.2 fun e=>hq e.symm,Bool.false_or])
    clear hq hdr
    go_wp2_with fail
    go_round
    case rel=>exact⟨k+1,by omega,by go_num,HN⟩
    case measure=>simp[intOf];omega
  ·obtain rfl:k=l.length:=by omega
   have hE:=HE.out
   rw[List.drop_length]at hE
   have HN:=Lib.hid (show bb=false from hE)
   clear hE
   go_wp2_with fail
   go_ret
   exact⟨by rw[HN.out];rfl,rfl⟩
def eIxGo (id:Int):Nat→Ents→Int
 | _,[]=> -1
 | k,p::r=>if p.1=id then k else eIxGo id (k+1) r
def eIx (es:Ents) (id:Int):Int:=eIxGo id 0 es
theorem eIxGo_get (id:Int): ∀(es:Ents) (k:Nat),(eIxGo id k es= -1∧getA es id=none)∨∃(i:Nat) (p:Int×List Int),eIxGo id k es=((k+i:Nat):Int)∧es[i]? =some p∧getA es id=some p.2
 | [],k=>.inl ⟨rfl,rfl⟩
 | p::r,k=>by
  by_cases h:p.1=id
  ·refine .inr ⟨0,p,?_,rfl,?_⟩
   ·unfold eIxGo;rw[if_pos h];rfl
   ·unfold getA;rw[List.find?_cons_of_pos (by simpa using h)];rfl
  ·have hg:getA (p::r) id=getA r id:=by unfold getA;rw[List.find?_cons_of_neg (by simpa using h)]
   rw[hg]
   rcases eIxGo_get id r (k+1)with⟨h1,h2⟩|⟨i,q,h1,h2,h3⟩
   ·exact .inl ⟨by unfold eIxGo;rw[if_neg h];exact h1,h2⟩
   ·refine .inr ⟨i+1,q,?_,by rw[List.getElem?_cons_succ];exact h2,h3⟩
    unfold eIxGo
    rw[if_neg h,h1]
    congr 1
    omega
theorem eIx_get (es:Ents) (id:Int):(eIx es id= -1∧getA es id=none)∨∃(i:Nat) (p:Int×List Int),eIx es id=(i:Int)∧es[i]? =some p∧getA es id=some p.2:=by
 rcases eIxGo_get id es 0 with h|⟨i,p,h1,h2⟩
 ·exact .inl h
 ·exact .inr ⟨i,p,by unfold eIx;rw[h1,Nat.zero_add],h2⟩
set_option maxRecDepth 100000 in
set_option maxHeartbeats 1000000 in
theorem ref_find09 {O:Nat→Prop} (id:Int) (u:Value) (es:Ents) (w:World) (h:EntIn O w u es) (hl:es.length≤100000000000):
  Calls Tryz.prog 107 #[u,.int .i64 id] w fun e w'=>e= .returned (.int .i64 (eIx es id))∧w=w':=by
 obtain⟨A,c,rfl,hc,_,hx⟩:=h
 have HX:=Lib.hid hx
 clear hx
 obtain⟨r,hr⟩: ∃r,eIx es id=r:=⟨_,rfl⟩
 rw[hr]
 have HR:=Lib.hid hr
 clear hr
 go_enter Tryz.func107,Tryz.ntmps107
 go_wp2_with fail
 go_loop [5] (fun i=> ∃k:Nat,k≤es.length∧i= .int .i64 k∧Hid (eIxGo id k (es.drop k)=r)) (fun i=>es.length-(intOf i).toNat)
 case atStart=>exact⟨0,Nat.zero_le _,rfl,Lib.hid HR.out⟩
 case round=>
  obtain⟨k,hk,rfl,HE⟩:=hrel
  by_cases hlt:k<es.length
  ·obtain⟨y,hy⟩:=atOf hlt
   obtain⟨g,o,uu,rfl,hg,_,d0,_,_⟩:=HX.out k y hy
   have hdr:=dropAt hy
   clear hy
   by_cases hq:y.1=id
   ·have q1:(y.1==id)=true:=beq_iff_eq.2 hq
    have HN:=Lib.hid (show(k:Int)=r from by
     have:=HE.out
     rw[hdr,eIxGo,if_pos hq]at this
     exact this)
    clear hq hdr
    go_wp2_with fail
    go_ret
    exact⟨by rw[←HN.out];rfl,rfl⟩
   ·have q1:(y.1==id)=false:=beq_eq_false_iff_ne.2 hq
    have HN:=Lib.hid (show eIxGo id (k+1) (es.drop (k+1))=r from by
     have:=HE.out
     rw[hdr,eIxGo,if_neg hq]at this
     exact this)
    clear hq hdr
    go_wp2_with fail
    go_round
    case rel=>exact⟨k+1,by omega,by go_num,HN⟩
    case measure=>simp[intOf];omega
  ·obtain rfl:k=es.length:=by omega
   have hE:=HE.out
   rw[List.drop_length]at hE
   have HN:=Lib.hid (show(-1:Int)=r from hE)
   clear hE
   go_wp2_with fail
   go_ret
   exact⟨by rw[←HN.out];rfl,rfl⟩
end Go.Proofs.YtajbmjpodeilpaaGreatDoor
namespace Go.Proofs.YtajbmjpodeilpaaGreatDoor
open Go.RowKit
theorem oinfo_int:(Tryz.prog.info? 3).map (fun i=>(i.zero,i.size,i.bytes))=some (some (.int .i64 0),1,8):=by kernel_rfl
theorem grow_low {W w1:World} {o:Obj} {base size n:Nat} {e:TypeId} {v:Value} {xs:List Value} (h:W.ownsRow base e size v n xs) (hg:(W.alloc o).grownBy w1 v.ownBlock) (hb:base≤W.heap.size):Below base W w1:=
 ((mx_al W o).mono hb).grown hg (by have:=(mx_al W o).size;omega) (fun g e=>(own_lt h g e).1)
def alwR (c:List Int):Bool:=c.any fun x=>c.contains (-x)
set_option maxRecDepth 100000 in
set_option maxHeartbeats 1000000 in
theorem ref_always09 {O:Nat→Prop} (u:Value) (c:List Int) (w:World) (h:IntsIn O w u c) (hl:c.length≤100000000000) (hb: ∀x∈c,litB x=true):
  Calls Tryz.prog 147 #[u] w fun e w'=>e= .returned (.bool (alwR c))∧w=w':=by
 have HH:=Lib.hid (fun x=>ref_has09 x u c w h hl)
 have HLB:=Lib.hid hb
 obtain⟨A,k0,rfl,hc,_,hx⟩:=h
 have HX:=Lib.hid hx
 clear hx hb
 obtain⟨r,hr⟩: ∃r,alwR c=r:=⟨_,rfl⟩
 rw[hr]
 have HR:=Lib.hid (show((c.drop 0).any fun x=>c.contains (-x))=r from hr)
 clear hr
 go_enter Tryz.func147,Tryz.ntmps147
 go_wp2_with fail
 go_loop [3] (fun i=> ∃k:Nat,k≤c.length∧i= .int .i64 k∧Hid (((c.drop k).any fun x=>c.contains (-x))=r)) (fun i=>c.length-(intOf i).toNat)
 case atStart=>exact⟨0,Nat.zero_le _,rfl,HR⟩
 case round=>
  obtain⟨k,hk,rfl,HE⟩:=hrel
  by_cases hlt:k<c.length
  ·obtain⟨y,hy⟩:=atOf hlt
   obtain⟨g,o,rfl,hg,_,d0⟩:=HX.out k y hy
   have hy1:=(litB_iff y).1 (HLB.out y (List.mem_of_getElem? hy))
   have hE:=HE.out
   rw[dropAt hy,List.any_cons]at hE
   have hw1:IntKind.i64.wrap (-y)= -y:=IntWalk.i64_in _ (by omega)
   have HC:=Lib.hid (HH.out (-y))
   obtain⟨b,hb⟩: ∃b,c.contains (-y)=b:=⟨_,rfl⟩
   rw[hb]at HC hE
   have HE2:=Lib.hid hE
   clear hy hy1 hb hE HE
   cases b with
   | true=>
    have HN:=Lib.hid (show true=r from HE2.out)
    go_wp2_with fail
    refine HC.out.mono ?_
    rintro e w' ⟨rfl,rfl⟩
    go_wp2_with fail
    go_ret
    exact⟨by rw[←HN.out];rfl,rfl⟩
   | false=>
    have HN:=Lib.hid (show((c.drop (k+1)).any fun x=>c.contains (-x))=r from by rw[←HE2.out,Bool.false_or])
    go_wp2_with fail
    refine HC.out.mono ?_
    rintro e w' ⟨rfl,rfl⟩
    go_wp2_with fail
    go_round
    case rel=>exact⟨k+1,by omega,by go_num,HN⟩
    case measure=>simp[intOf];omega
  ·obtain rfl:k=c.length:=by omega
   have hE:=HE.out
   rw[List.drop_length]at hE
   have HN:=Lib.hid (show false=r from hE)
   clear hE
   go_wp2_with fail
   go_ret
   exact⟨by rw[←HN.out];rfl,rfl⟩
def rLook (asg:List Int):List Int→List Int→Nat×Int
 | [],fr=>if fr.length=0 then(2,0)else if fr.length=1 then(3,fr.getD 0 0)else(4,0)
 | x::r,fr=>if asg.contains x=true then(1,0)else if asg.contains (-x)=false∧fr.contains x=false then rLook asg r (fr++ [x])else rLook asg r fr
set_option maxRecDepth 100000 in
set_option maxHeartbeats 2000000 in
theorem ref_look08 {O O':Nat→Prop} (u av:Value) (c asg:List Int) (w:World) (h:IntsIn O w u c) (ha:IntsIn O' w av asg) (hl:c.length≤1000000) (hal:asg.length≤100000000000) (hb: ∀x∈c,litB x=true):
  Calls Tryz.prog 146 #[u,av] w fun e w'=>e= .returned (.tuple #[.int .i64 ((rLook asg c []).1:Nat),.int .i64 (rLook asg c []).2])∧Below w.heap.size w w':=by
 obtain⟨i0,hi0,iz1,iz2,iz3⟩:=info_parts oinfo_int
 have HH:=Lib.hid (fun(W:World) (hW:Below w.heap.size w W) (x:Int)=>ref_has08 x av asg W (ha.below hW) hal)
 have HF:=Lib.hid (fun(W:World) (v:Value) (fr:List Int) (hf:W.ownsRow w.heap.size 3 1 v fr.length (fr.map (Value.int .i64))) (hn:fr.length≤1000000) (x:Int)=>ref_has08 x v fr W (IntsIn.of_own hf) (by omega))
 have HLB:=Lib.hid hb
 have HU:=Lib.hid h
 obtain⟨A,k0,rfl,hc,_,_⟩:=h
 obtain⟨A',k0',rfl,_⟩:=ha
 obtain⟨R,hR⟩: ∃R,rLook asg c []=R:=⟨_,rfl⟩
 rw[hR]
 have HR:=Lib.hid hR
 clear hR hb
 go_enter Tryz.func146,Tryz.ntmps146
 go_wp2_with fail
 go_loopw [6,7] (fun v i wr=> ∃(k:Nat) (fr:List Int),k≤c.length∧i= .int .i64 k∧Hid (rLook asg (c.drop k) fr=R)∧Hid (fr.length≤k)∧Hid (wr.ownsRow w.heap.size 3 1 v fr.length (fr.map (Value.int .i64)))∧Hid (Below w.heap.size w wr)) (fun _ i _=>c.length-(intOf i).toNat)
 case atStart=>exact⟨0,[],Nat.zero_le _,rfl,HR,Lib.hid (Nat.le_refl _),Lib.hid (World.ownsRow_nil _ _ _ _),Lib.hid (Below.refl _ _)⟩
 case round=>
  obtain⟨k,fr,hk,rfl,HE,HFL,HFR,HB⟩:=hrel
  obtain⟨Af,cf,rfl,hcf⟩:=mx_slice HFR.out
  have hfl:fr.length≤1000000:=by have:=HFL.out;omega
  by_cases hlt:k<c.length
  ·obtain⟨y,hy⟩:=atOf hlt
   obtain⟨A2,k2,hA2,_,_,hx⟩:=HU.out.below HB.out
   simp only[Value.slice.injEq,true_and]at hA2
   obtain⟨rfl,rfl⟩:=hA2
   obtain⟨g,o,rfl,hg,_,d0⟩:=hx k y hy
   have hy1:=(litB_iff y).1 (HLB.out y (List.mem_of_getElem? hy))
   have hw1:IntKind.i64.wrap (-y)= -y:=IntWalk.i64_in _ (by omega)
   have hE:=HE.out
   rw[dropAt hy,rLook]at hE
   have H1:=Lib.hid (HH.out wr HB.out y)
   have H2:=Lib.hid (HH.out wr HB.out (-y))
   have H3:=Lib.hid (HF.out wr _ fr HFR.out hfl y)
   obtain⟨b1,hb1⟩: ∃b,asg.contains y=b:=⟨_,rfl⟩
   obtain⟨b2,hb2⟩: ∃b,asg.contains (-y)=b:=⟨_,rfl⟩
   obtain⟨b3,hb3⟩: ∃b,fr.contains y=b:=⟨_,rfl⟩
   rw[hb1]at H1 hE
   rw[hb2]at H2 hE
   rw[hb3]at H3 hE
   have HE2:=Lib.hid hE
   clear hx hy hy1 hE HE hb1 hb2 hb3
   cases b1 with
   | true=>
    have HN:=Lib.hid (show((1,0):Nat×Int)=R from by have:=HE2.out;rwa [if_pos rfl]at this)
    go_wp2_with fail
    refine H1.out.mono ?_
    rintro e w' ⟨rfl,rfl⟩
    go_wp2_with fail
    go_ret2
    exact⟨by rw[←HN.out];rfl,HB.out⟩
   | false=>
    have HE3:=Lib.hid (show(if b2=false∧b3=false then rLook asg (c.drop (k+1)) (fr++ [y])else rLook asg (c.drop (k+1)) fr)=R from by have:=HE2.out;rwa [if_neg (by decide)]at this)
    clear HE2
    cases b2 with
    | true=>
     have HN:=Lib.hid (show rLook asg (c.drop (k+1)) fr=R from by have:=HE3.out;rwa [if_neg (fun h=>by cases h.1)]at this)
     go_wp2_with fail
     refine H1.out.mono ?_
     rintro e w' ⟨rfl,rfl⟩
     go_wp2_with fail
     refine H2.out.mono ?_
     rintro e w' ⟨rfl,rfl⟩
     go_wp2_with fail
     go_roundw
     case rel=>exact⟨k+1,fr,by omega,by go_num,HN,Lib.hid (by have:=HFL.out;omega),HFR,HB⟩
     case measure=>simp[intOf];omega
    | false=>
     cases b3 with
     | true=>
      have HN:=Lib.hid (show rLook asg (c.drop (k+1)) fr=R from by have:=HE3.out;rwa [if_neg (fun h=>by cases h.2)]at this)
      go_wp2_with fail
      refine H1.out.mono ?_
      rintro e w' ⟨rfl,rfl⟩
      go_wp2_with fail
      refine H2.out.mono ?_
      rintro e w' ⟨rfl,rfl⟩
      go_wp2_with fail
      refine H3.out.mono ?_
      rintro e w' ⟨rfl,rfl⟩
      go_wp2_with fail
      go_roundw
      case rel=>exact⟨k+1,fr,by omega,by go_num,HN,Lib.hid (by have:=HFL.out;omega),HFR,HB⟩
      case measure=>simp[intOf];omega
     | false=>
      have HN:=Lib.hid (show rLook asg (c.drop (k+1)) (fr++ [y])=R from by have:=HE3.out;rwa [if_pos ⟨rfl,rfl⟩]at this)
      have hzw:=HB.out.size
      go_wp2_with fail
      refine H1.out.mono ?_
      rintro e w' ⟨rfl,rfl⟩
      go_wp2_with fail
      refine H2.out.mono ?_
      rintro e w' ⟨rfl,rfl⟩
      go_wp2_with fail
      refine H3.out.mono ?_
      rintro e w' ⟨rfl,rfl⟩
      go_wp2_with (at_builtin;refine wpList_append_own_at _ rfl _ _ 31 rfl w.heap.size 3 i0 (.int .i64 0) 1 8 Tryz.underlying31 hi0 iz1 iz2 iz3 rfl (by decide) _ fr.length _ rfl (own_below HFR.out (mx_al wr _)) ⟨wr.heap.size,0,none⟩ 1 1 [.int .i64 y] rfl rfl (cell_one_new' _ _ _) (by simp[Value.oneCell']) (by unfold maxLen;omega) (by omega) (by simp;omega) ?_;intro v' w9 hown hgrow hnl hat;obtain⟨Aw,kw,hv2,_⟩:=mx_slice hown;subst hv2;have HOWN:=Lib.hid hown;have HG:=Lib.hid hgrow;clear hown hgrow hnl hat)
      have hb9:=HB.out.trans (grow_low HFR.out HG.out hzw)
      go_roundw
      case rel=>exact⟨k+1,fr++ [y],by omega,by go_num,HN,Lib.hid (by rw[List.length_append,List.length_singleton];have:=HFL.out;omega),Lib.hid (by rw[List.length_append,List.length_singleton,List.map_append];exact HOWN.out),Lib.hid hb9⟩
      case measure=>simp[intOf];omega
  ·obtain rfl:k=c.length:=by omega
   have hE:=HE.out
   rw[List.drop_length,rLook]at hE
   have HE2:=Lib.hid hE
   clear hE HE
   by_cases e0:fr.length=0
   ·have q0:((fr.length:Int)==0)=true:=beq_iff_eq.2 (by omega)
    have HN:=Lib.hid (show((2,0):Nat×Int)=R from by have:=HE2.out;rwa [if_pos e0]at this)
    clear e0
    go_wp2_with fail
    go_ret2
    exact⟨by rw[←HN.out];rfl,HB.out⟩
   ·have q0:((fr.length:Int)==0)=false:=beq_eq_false_iff_ne.2 (by omega)
    by_cases e1:fr.length=1
    ·have q1:((fr.length:Int)==1)=true:=beq_iff_eq.2 (by omega)
     have hlt1:(0:Int)<(fr.length:Int):=by omega
     obtain⟨z,hz⟩:=atOf (show 0<fr.length by omega)
     have HN:=Lib.hid (show((3,z):Nat×Int)=R from by
      have:=HE2.out
      rw[if_neg e0,if_pos e1,List.getD_eq_getElem?_getD,hz]at this
      exact this)
     obtain⟨A4,k4,hA4,_,_,hx4⟩:=IntsIn.of_own HFR.out
     simp only[Value.slice.injEq]at hA4
     obtain⟨rfl,-,rfl⟩:=hA4
     obtain⟨g4,o4,rfl,hg4,_,d4⟩:=hx4 0 z hz
     rw[Nat.add_zero]at d4
     clear e0 e1 hx4 hz
     go_upto_region 12 with fail
     go_quiet (fail)
     go_wp2_with fail
     go_ret2
     exact⟨by rw[←HN.out];rfl,HB.out.trans ((mx_drewN _ _).mono HB.out.size)⟩
    ·have q1:((fr.length:Int)==1)=false:=beq_eq_false_iff_ne.2 (by omega)
     have HN:=Lib.hid (show((4,0):Nat×Int)=R from by have:=HE2.out;rwa [if_neg e0,if_neg e1]at this)
     clear e0 e1
     go_wp2_with fail
     go_ret2
     exact⟨by rw[←HN.out];rfl,HB.out⟩
end Go.Proofs.YtajbmjpodeilpaaGreatDoor
