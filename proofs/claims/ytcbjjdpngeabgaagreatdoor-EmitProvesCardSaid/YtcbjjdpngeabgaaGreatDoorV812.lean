/- Clauses in memory. salvorlaw08.All: clauses that Made makes. append of a row, whatever its length, nil too. Clauses in blocks of which something is known. slices.Clone at clauses. package salvorlaw08: True, AllTrue. Literals: Var, Neg. -/
import Derived.Test.YtcbjjdpngeabgaaGreatDoorV805
import Derived.Test.YtcbjjdpngeabgaaGreatDoorV811
import Derived.Test.YtcbjjdpngeabgaaGreatDoorV801
import Derived.Laws.AppendOwnNone
import Derived.Test.YtcbjjdpngeabgaaGreatDoorV800
namespace Go.Proofs.YtcbjjdpngeabgaaGreatDoor
open Go.RowKit
def ClsAt (w:World) (v:Value) (cs:List (List Int)):Prop:=
 ∃A c,v= .slice A cs.length c∧∀i xs,cs[i]? =some xs→∃g o u,A=some ⟨g,o,none⟩∧g<w.heap.size∧w.cell? ⟨g,o+i,none⟩=some u∧IntsIn (fun g=>g<w.heap.size) w u xs
theorem ClsAt.below {w w':World} {v:Value} {cs:List (List Int)} (h:ClsAt w v cs) (hb:Below w.heap.size w w'):ClsAt w' v cs:=by
 obtain⟨A,c,hv,hx⟩:=h
 refine⟨A,c,hv,fun i xs hi=>?_⟩
 obtain⟨g,o,u,h1,h2,h3,h4⟩:=hx i xs hi
 exact⟨g,o,u,h1,Nat.lt_of_lt_of_le h2 hb.size,(hb.cell (p:=⟨g,o+i,none⟩) h2).trans h3,(h4.below hb).mono (fun g hg=>Nat.lt_of_lt_of_le hg hb.size)⟩
theorem ClsAt.nil (w:World):ClsAt w (.slice none 0 0) []:=⟨none,0,rfl,fun i xs h=>by simp at h⟩
end Go.Proofs.YtcbjjdpngeabgaaGreatDoor
namespace Go.Proofs.YtcbjjdpngeabgaaGreatDoor
open Go.RowKit
def ClsOwn (n:Nat) (w:World) (v:Value) (cs:List (List Int)):Prop:=
 ∃us:List Value,w.ownsRow n 38 1 v cs.length us∧∀(i:Nat) (xs:List Int),cs[i]? =some xs→∃u,us[i]? =some u∧w.ownsRow n 57 1 u xs.length (xs.map (Value.int .i64))
theorem ClsOwn.below {n:Nat} {w w':World} {v:Value} {cs:List (List Int)} (h:ClsOwn n w v cs) (hb:Below w.heap.size w w'):ClsOwn n w' v cs:=by
 obtain⟨us,h1,h2⟩:=h
 refine⟨us,own_below h1 hb,fun i xs hi=>?_⟩
 obtain⟨u,hu,ho⟩:=h2 i xs hi
 exact⟨u,hu,own_below ho hb⟩
theorem ClsOwn.mono {n m:Nat} {w:World} {v:Value} {cs:List (List Int)} (h:ClsOwn n w v cs) (hm:m≤n):ClsOwn m w v cs:=by
 obtain⟨us,h1,h2⟩:=h
 refine⟨us,own_mono h1 hm,fun i xs hi=>?_⟩
 obtain⟨u,hu,ho⟩:=h2 i xs hi
 exact⟨u,hu,own_mono ho hm⟩
theorem ClsOwn.cls {n:Nat} {w:World} {v:Value} {cs:List (List Int)} (h:ClsOwn n w v cs):ClsAt w v cs:=by
 obtain⟨us,h1,h2⟩:=h
 obtain⟨A,c,rfl,_⟩:=mx_slice h1
 refine⟨A,c,rfl,fun i xs hi=>?_⟩
 obtain⟨u,hu,ho⟩:=h2 i xs hi
 have hil:=(List.getElem?_eq_some_iff.1 hi).1
 obtain⟨g,c',cs',hv,_,_,hg,_⟩:=mx_some h1 (by omega)
 simp only[Value.slice.injEq]at hv
 obtain⟨rfl,_,rfl⟩:=hv
 exact⟨g,0,u,rfl,hg,by rw[Nat.zero_add];exact mx_at h1 hu,(IntsIn.of_own ho).mono (fun g hg=>(own_lt ho g hg.2).2)⟩
theorem info_cls:(Tryz.prog.info? 38).map (fun i=>(i.zero,i.size,i.bytes))=some (some (.slice none 0 0),1,24):=by kernel_rfl
theorem ClsOwn.push {n:Nat} {w w1 w2:World} {v v' u:Value} {cs:List (List Int)} {xs:List Int} {us:List Value} (h1:w.ownsRow n 38 1 v cs.length us) (h2: ∀(i:Nat) (xs:List Int),cs[i]? =some xs→∃u,us[i]? =some u∧w.ownsRow n 57 1 u xs.length (xs.map (Value.int .i64)))
  (hb:Below w.heap.size w w1) (hu:w1.ownsRow n 57 1 u xs.length (xs.map (Value.int .i64))) (hg:w1.grownBy w2 v.ownBlock) (ho:w2.ownsRow n 38 1 v' (cs.length+1) (us++ [u])):ClsOwn n w2 v' (cs++ [xs]):=by
 have hlu:us.length=cs.length:=by
  have:=h1.1
  omega
 have hk: ∀{u:Value} {ys:List Int},w1.ownsRow n 57 1 u ys.length (ys.map (Value.int .i64))→w2.ownsRow n 57 1 u ys.length (ys.map (Value.int .i64)):=fun hu=>own_kept hu (Kept.grown hg) (fun g hg e=>mx_apart hu (own_below h1 hb) (by decide) hg e.symm)
 refine⟨us++ [u],by rw[List.length_append];exact ho,fun i ys hi=>?_⟩
 by_cases hil:i<cs.length
 ·rw[List.getElem?_append_left hil]at hi
  obtain⟨z,hz,hzo⟩:=h2 i ys hi
  exact⟨z,by rw[List.getElem?_append_left (by omega)];exact hz,hk (own_below hzo hb)⟩
 ·have hi2:=(List.getElem?_eq_some_iff.1 hi).1
  rw[List.length_append,List.length_singleton]at hi2
  obtain rfl:i=cs.length:=by omega
  rw[List.getElem?_append_right (Nat.le_refl _),Nat.sub_self,List.getElem?_cons_zero]at hi
  obtain rfl:=Option.some.inj hi
  refine⟨u,?_,hk hu⟩
  rw[List.getElem?_append_right (by omega),hlu,Nat.sub_self,List.getElem?_cons_zero]
set_option maxRecDepth 100000 in
set_option maxHeartbeats 4000000 in
theorem all_min_a (u:Value) (xss:List (List Int)) (m:Nat) (w:World) (h:RowsAt .i8 w u xss) (hlt0:m<xss.length) (hm:m≤1000):
  Calls Tryz.prog 23 #[u,.int .i64 (m:Int)] w fun e w'=> ∃v,e= .returned v∧ClsOwn w.heap.size w' v ((xss.take m).map madeL)∧Below w.heap.size w w':=by
 have hN:min (xss.length:Int) (m:Int)=(m:Int):=by omega
 have hNl:m≤xss.length:=by omega
 have hNm:m≤m:=Nat.le_refl _
 have hltd:decide ((m:Int)<(xss.length:Int))=true:=by simpa using hlt0
 obtain⟨i0,hi,hz0,hz1,hz2⟩:=info_parts info_cls
 have HR0:=Lib.hid h
 obtain⟨A,c,rfl,hc,hmx,hn,hx⟩:=h
 unfold maxLen at hmx
 have hNc:m≤c:=by omega
 have hNc2:(m:Int)≤(c:Int):=by omega
 clear hx hn
 go_enter Tryz.func23,Tryz.ntmps23
 go_wp2_with fail
 go_loopw [5,15] (fun v i wr=> ∃k:Nat,k≤m∧i= .int .i64 k∧Hid (Below w.heap.size w wr)∧Hid (ClsOwn w.heap.size wr v ((xss.take k).map madeL))) (fun _ i _=>m-(intOf i).toNat)
 case atStart=>exact⟨0,Nat.zero_le _,rfl,Lib.hid (Below.refl _ _),Lib.hid ⟨[],World.ownsRow_nil _ _ _ _,fun i xs h=>by simp at h⟩⟩
 case round=>
  obtain⟨k,hk,rfl,HB,HR⟩:=hrel
  by_cases hlt:k<m
  ·have hq:decide ((k:Int)<(m:Int))=true:=by simpa using hlt
   have hq2:decide (k<m)=true:=by simpa using hlt
   obtain⟨x,hxk⟩:=getElem_of (show k<xss.length by omega)
   have hrow: ∃g o u,A=some ⟨g,o,none⟩∧g<w.heap.size∧w.cell? ⟨g,o+k,none⟩=some u∧RowAt .i8 w u x:=by
    obtain⟨A',c',hv,_,_,_,hx⟩:=HR0.out
    simp only[Value.slice.injEq]at hv
    obtain⟨rfl,_,rfl⟩:=hv
    exact hx k x hxk
   obtain⟨g,o,u,rfl,hg,d0,hu⟩:=hrow
   have d1:=(HB.out.cell (p:=⟨g,o+k,none⟩) hg).trans d0
   have HM:=Lib.hid (made_any u x wr (hu.below (HB.out)))
   obtain⟨us,h1,h2⟩:=HR.out
   have hlk:((xss.take k).map madeL).length=k:=by rw[List.length_map,List.length_take];omega
   have HUS:=Lib.hid h1
   have HU2:=Lib.hid h2
   have HLK:=Lib.hid hlk
   rw[hlk]at h1
   obtain⟨Ao,co,rfl,_⟩:=mx_slice h1
   have HO1:=Lib.hid h1
   have HTK:=Lib.hid (show(xss.take (k+1)).map madeL=(xss.take k).map madeL++ [madeL x]from by
    rw[List.take_add_one,hxk]
    simp)
   clear h1 h2 hlk hxk d0 hu
   go_wp2_with fail
   refine HM.out.mono ?_
   rintro e w1 ⟨vx,rfl,hox,hb1⟩
   obtain⟨Ax,cx,rfl,_⟩:=mx_slice hox
   have HOX:=Lib.hid hox
   have HB1:=Lib.hid hb1
   have hwz:=HB.out.size
   have hwz1:=hb1.size
   clear hox hb1 d1
   go_wp2_with (at_builtin;refine wpList_append_own_at _ rfl _ _ 25 rfl w.heap.size 38 i0 (.slice none 0 0) 1 24 Tryz.underlying25 hi hz0 hz1 hz2 rfl (by decide) _ k _ rfl (own_below (own_below HO1.out HB1.out) (below_alloc1 w1 _)) ⟨w1.heap.size,0,none⟩ 1 1 [.slice Ax (madeL x).length cx] rfl rfl (cell_one_new' _ _ _) (by simp[Value.oneCell']) (by unfold maxLen;omega) (by omega) (by simp;omega) ?_;intro v' w2 hown hgrow hnl hat)
   have hb2:Below wr.heap.size wr (w1.alloc (.cells #[.slice Ax (madeL x).length cx] 38)):=HB1.out.trans ((below_alloc1 w1 _).mono hwz1)
   have hpush:=ClsOwn.push HUS.out HU2.out hb2 (own_below (own_mono HOX.out hwz) (below_alloc1 w1 _)) hgrow (by rw[HLK.out];exact hown)
   rw[←HTK.out]at hpush
   have HP:=Lib.hid hpush
   have HB2:=Lib.hid ((HB.out.trans (hb2.mono hwz)).grown hgrow (by simp;omega) (fun g hg=>(own_lt HO1.out g hg).1))
   clear hown hgrow hnl hat hb2 hpush
   go_wp2
   go_roundw
   case rel=>exact⟨k+1,by omega,by go_num,HB2,HP⟩
   case measure=>simp[intOf];omega
  ·have hq:decide ((k:Int)<(m:Int))=false:=by simpa using hlt
   have hq2:decide (k<m)=false:=by simpa using hlt
   obtain rfl:k=m:=by omega
   go_wp2_with fail
   go_ret
   exact⟨_,rfl,HR.out,HB.out⟩
set_option maxRecDepth 100000 in
set_option maxHeartbeats 4000000 in
theorem all_min_b (u:Value) (xss:List (List Int)) (m:Nat) (w:World) (h:RowsAt .i8 w u xss) (hlt0: ¬m<xss.length) (hm:m≤1000):
  Calls Tryz.prog 23 #[u,.int .i64 (m:Int)] w fun e w'=> ∃v,e= .returned v∧ClsOwn w.heap.size w' v ((xss.take xss.length).map madeL)∧Below w.heap.size w w':=by
 have hN:min (xss.length:Int) (m:Int)=(xss.length:Int):=by omega
 have hNl:xss.length≤xss.length:=Nat.le_refl _
 have hNm:xss.length≤m:=by omega
 have hltd:decide ((m:Int)<(xss.length:Int))=false:=by simpa using hlt0
 obtain⟨i0,hi,hz0,hz1,hz2⟩:=info_parts info_cls
 have HR0:=Lib.hid h
 obtain⟨A,c,rfl,hc,hmx,hn,hx⟩:=h
 unfold maxLen at hmx
 have hNc:xss.length≤c:=by omega
 have hNc2:(xss.length:Int)≤(c:Int):=by omega
 clear hx hn
 go_enter Tryz.func23,Tryz.ntmps23
 go_wp2_with fail
 go_loopw [5,15] (fun v i wr=> ∃k:Nat,k≤xss.length∧i= .int .i64 k∧Hid (Below w.heap.size w wr)∧Hid (ClsOwn w.heap.size wr v ((xss.take k).map madeL))) (fun _ i _=>xss.length-(intOf i).toNat)
 case atStart=>exact⟨0,Nat.zero_le _,rfl,Lib.hid (Below.refl _ _),Lib.hid ⟨[],World.ownsRow_nil _ _ _ _,fun i xs h=>by simp at h⟩⟩
 case round=>
  obtain⟨k,hk,rfl,HB,HR⟩:=hrel
  by_cases hlt:k<xss.length
  ·have hq:decide ((k:Int)<(xss.length:Int))=true:=by simpa using hlt
   have hq2:decide (k<xss.length)=true:=by simpa using hlt
   obtain⟨x,hxk⟩:=getElem_of (show k<xss.length by omega)
   have hrow: ∃g o u,A=some ⟨g,o,none⟩∧g<w.heap.size∧w.cell? ⟨g,o+k,none⟩=some u∧RowAt .i8 w u x:=by
    obtain⟨A',c',hv,_,_,_,hx⟩:=HR0.out
    simp only[Value.slice.injEq]at hv
    obtain⟨rfl,_,rfl⟩:=hv
    exact hx k x hxk
   obtain⟨g,o,u,rfl,hg,d0,hu⟩:=hrow
   have d1:=(HB.out.cell (p:=⟨g,o+k,none⟩) hg).trans d0
   have HM:=Lib.hid (made_any u x wr (hu.below (HB.out)))
   obtain⟨us,h1,h2⟩:=HR.out
   have hlk:((xss.take k).map madeL).length=k:=by rw[List.length_map,List.length_take];omega
   have HUS:=Lib.hid h1
   have HU2:=Lib.hid h2
   have HLK:=Lib.hid hlk
   rw[hlk]at h1
   obtain⟨Ao,co,rfl,_⟩:=mx_slice h1
   have HO1:=Lib.hid h1
   have HTK:=Lib.hid (show(xss.take (k+1)).map madeL=(xss.take k).map madeL++ [madeL x]from by
    rw[List.take_add_one,hxk]
    simp)
   clear h1 h2 hlk hxk d0 hu
   go_wp2_with fail
   refine HM.out.mono ?_
   rintro e w1 ⟨vx,rfl,hox,hb1⟩
   obtain⟨Ax,cx,rfl,_⟩:=mx_slice hox
   have HOX:=Lib.hid hox
   have HB1:=Lib.hid hb1
   have hwz:=HB.out.size
   have hwz1:=hb1.size
   clear hox hb1 d1
   go_wp2_with (at_builtin;refine wpList_append_own_at _ rfl _ _ 25 rfl w.heap.size 38 i0 (.slice none 0 0) 1 24 Tryz.underlying25 hi hz0 hz1 hz2 rfl (by decide) _ k _ rfl (own_below (own_below HO1.out HB1.out) (below_alloc1 w1 _)) ⟨w1.heap.size,0,none⟩ 1 1 [.slice Ax (madeL x).length cx] rfl rfl (cell_one_new' _ _ _) (by simp[Value.oneCell']) (by unfold maxLen;omega) (by omega) (by simp;omega) ?_;intro v' w2 hown hgrow hnl hat)
   have hb2:Below wr.heap.size wr (w1.alloc (.cells #[.slice Ax (madeL x).length cx] 38)):=HB1.out.trans ((below_alloc1 w1 _).mono hwz1)
   have hpush:=ClsOwn.push HUS.out HU2.out hb2 (own_below (own_mono HOX.out hwz) (below_alloc1 w1 _)) hgrow (by rw[HLK.out];exact hown)
   rw[←HTK.out]at hpush
   have HP:=Lib.hid hpush
   have HB2:=Lib.hid ((HB.out.trans (hb2.mono hwz)).grown hgrow (by simp;omega) (fun g hg=>(own_lt HO1.out g hg).1))
   clear hown hgrow hnl hat hb2 hpush
   go_wp2
   go_roundw
   case rel=>exact⟨k+1,by omega,by go_num,HB2,HP⟩
   case measure=>simp[intOf];omega
  ·have hq:decide ((k:Int)<(xss.length:Int))=false:=by simpa using hlt
   have hq2:decide (k<xss.length)=false:=by simpa using hlt
   obtain rfl:k=xss.length:=by omega
   go_wp2_with fail
   go_ret
   exact⟨_,rfl,HR.out,HB.out⟩
theorem all_any (u:Value) (xss:List (List Int)) (m:Nat) (w:World) (h:RowsAt .i8 w u xss) (hm:m≤1000):
  Calls Tryz.prog 23 #[u,.int .i64 (m:Int)] w fun e w'=> ∃v,e= .returned v∧ClsOwn w.heap.size w' v ((xss.take m).map madeL)∧Below w.heap.size w w':=by
 by_cases hlt:m<xss.length
 ·exact all_min_a u xss m w h hlt hm
 ·have:=all_min_b u xss m w h hlt hm
  rwa [List.take_length,show xss.map madeL=(xss.take m).map madeL from by rw[List.take_of_length_le (by omega)]]at this
end Go.Proofs.YtcbjjdpngeabgaaGreatDoor
namespace Go.Proofs.YtcbjjdpngeabgaaGreatDoor
open Go.RowKit
def SrcAt (w:World) (x:Value) (m:Nat) (news:List Value):Prop:=
 (x= .slice none 0 0∧m=0∧news= [])∨∃ad c,x= .slice (some ad) m c∧∀j u,news[j]? =some u→w.cell? (ad.add j)=some u
theorem SrcAt.below {w w':World} {x:Value} {m:Nat} {news:List Value} (h:SrcAt w x m news) (hb:Below w.heap.size w w'):SrcAt w' x m news:=by
 rcases h with h|⟨ad,c,hx,hn⟩
 ·exact .inl h
 ·refine .inr ⟨ad,c,hx,fun j u hj=>?_⟩
  have h0:=hn j u hj
  have hlt:=World.block_lt_of_cell? w _ h0
  exact(hb.cell hlt).trans h0
theorem IntsIn.src {O:Nat→Prop} {w:World} {v:Value} {xs:List Int} (h:IntsIn O w v xs):SrcAt w v xs.length (xs.map (Value.int .i64)):=by
 obtain⟨A,c,hv,hc,hn,hx⟩:=h
 cases A with
 | none=>
  have h0:=hn rfl
  have hx0:xs= []:=List.eq_nil_of_length_eq_zero (by omega)
  subst hx0
  subst h0
  exact .inl ⟨hv,rfl,rfl⟩
 | some ad=>
  by_cases h0:xs= []
  ·subst h0
   exact .inr ⟨ad,c,hv,fun j u hj=>by simp at hj⟩
  ·obtain⟨x0,hx0⟩: ∃x,xs[0]? =some x:=⟨_,List.getElem?_eq_getElem (by cases xs with
    | nil=>exact absurd rfl h0
    | cons _ _=>simp)⟩
   obtain⟨g,o,hA,_⟩:=hx 0 x0 hx0
   obtain rfl:=Option.some.inj hA
   refine .inr ⟨_,c,hv,fun j u hj=>?_⟩
   rw[List.getElem?_map]at hj
   cases hxj:xs[j]? with
   | none=>rw[hxj]at hj;cases hj
   | some x=>
    rw[hxj]at hj
    obtain rfl:=Option.some.inj hj
    obtain⟨g',o',hA',_,_,hc'⟩:=hx j x hxj
    cases hA'
    rw[addr_add2]
    exact hc'
section
variable {P:Program}
theorem run_append_any (w:World) (base:Nat) (t ty e:TypeId) (i:TypeInfo) (z:Value) (size bytes:Nat) (ht:P.underlying t=some (.slice e)) (hi:P.info? e=some i) (hz:i.zero=some z) (hsize:i.size=size) (hby:i.bytes=bytes) (hzs:z.cells.size=size) (hsz:0<size)
  (v:Value) (n:Nat) (xs:List Value) (hown:w.ownsRow base e size v n xs) (x:Value) (m:Nat) (news:List Value) (hx:SrcAt w x m news) (hl:news.length=m*size) (h1: ∀u∈news,u.oneCell'=true)
  (h63:n+m≤maxLen) (hbytes:(n+m)*bytes≤140737488355328) (hbase:base≤w.heap.size):
  ∃v' w',(Builtin.append_ #[t,t] ty #[v,x]).run P w= .ok v' w'∧w'.ownsRow base e size v' (n+m) (xs++news)∧w.grownBy w' v.ownBlock∧(v'.ownBlock=v.ownBlock∨v'.ownBlock=some w.heap.size):=by
 rcases hx with⟨rfl,rfl,rfl⟩|⟨ad,c,rfl,hn⟩
 ·exact⟨v,w,run_append_owned_none (P:=P) (w:=w) base t ty e i size ht hi v n xs hown,by simpa using hown,World.grownBy.refl w _,.inl rfl⟩
 ·obtain⟨v',w',hr,h2,h3,_,h5⟩:=run_append_own_at (P:=P) w base t ty e i z size bytes ht hi hz hsize hby hzs hsz v n xs hown ad m c news hl hn h1 h63 hbytes hbase
  exact⟨v',w',hr,h2,h3,h5⟩
theorem wpList_append_any {w:World} {ops:Array Oper} {rest:List Oper} {o:Oper} {a:Act} {Q:Exit→Act→World→Prop} (hg:o.guard=none) (s x:Operand) (t:TypeId) (ho:o.op= .call { callee:=.builtin .append,args:= #[s,x],argTypes:= #[t,t] })
  (base:Nat) (e:TypeId) (i:TypeInfo) (z:Value) (size bytes:Nat) (ht:P.underlying t=some (.slice e)) (hi:P.info? e=some i) (hz:i.zero=some z) (hsize:i.size=size) (hby:i.bytes=bytes) (hzs:z.cells.size=size) (hsz:0<size)
  (v:Value) (n:Nat) (xs:List Value) (hs:a.eval s=v) (hown:w.ownsRow base e size v n xs)
  (y:Value) (m:Nat) (news:List Value) (hx:a.eval x=y) (hy:SrcAt w y m news) (hl:news.length=m*size) (h1: ∀u∈news,u.oneCell'=true)
  (h63:n+m≤maxLen) (hbytes:(n+m)*bytes≤140737488355328) (hbase:base≤w.heap.size)
  (h: ∀v' w',w'.ownsRow base e size v' (n+m) (xs++news)→w.grownBy w' v.ownBlock→(v'.ownBlock=v.ownBlock∨v'.ownBlock=some w.heap.size)→wpList P ops Q rest (a.put o.dst v') w'):wpList P ops Q (o::rest) a w:=by
 refine wpList_plain hg fun K hK=>?_
 obtain⟨v',w',hr,h2,h3,h5⟩:=run_append_any (P:=P) w base t o.type e i z size bytes ht hi hz hsize hby hzs hsz v n xs hown y m news hy hl h1 h63 hbytes hbase
 unfold Oper.wp execOp
 simp only[ho,resolve,invoke,builtin,Sem.run_bind,Sem.run_pure,Result.andThen_ok,List.map_toArray,List.map_cons,List.map_nil,hs,hx,hr]
 exact hK _ _ (h v' w' h2 h3 h5)
end
end Go.Proofs.YtcbjjdpngeabgaaGreatDoor
namespace Go.Proofs.YtcbjjdpngeabgaaGreatDoor
open Go.RowKit
def ClsIn (O:Nat→Prop) (w:World) (v:Value) (cs:List (List Int)):Prop:=
 ∃A c,v= .slice A cs.length c∧cs.length≤c∧(A=none→c=0)∧∀i xs,cs[i]? =some xs→∃g o u,A=some ⟨g,o,none⟩∧g<w.heap.size∧O g∧w.cell? ⟨g,o+i,none⟩=some u∧IntsIn O w u xs
theorem ClsIn.kept {O O':Nat→Prop} {w w':World} {v:Value} {cs:List (List Int)} (h:ClsIn O w v cs) (k:Kept O' w w') (hO: ∀g,O g→¬O' g):ClsIn O w' v cs:=by
 obtain⟨A,c,hv,hc,hn,hx⟩:=h
 refine⟨A,c,hv,hc,hn,fun i xs hi=>?_⟩
 obtain⟨g,o,u,h1,h2,h3,h4,h5⟩:=hx i xs hi
 exact⟨g,o,u,h1,Nat.lt_of_lt_of_le h2 k.size,h3,(k.cell (p:=⟨g,o+i,none⟩) h2 (hO g h3)).trans h4,h5.kept k hO⟩
theorem ClsIn.below {O:Nat→Prop} {w w':World} {v:Value} {cs:List (List Int)} (h:ClsIn O w v cs) (k:Below w.heap.size w w'):ClsIn O w' v cs:=
 h.kept (O':=fun _=>False) (Kept.of_below k) (fun _ _ h=>h)
theorem ClsIn.mono {O O':Nat→Prop} {w:World} {v:Value} {cs:List (List Int)} (h:ClsIn O w v cs) (hO: ∀g,O g→O' g):ClsIn O' w v cs:=by
 obtain⟨A,c,hv,hc,hn,hx⟩:=h
 refine⟨A,c,hv,hc,hn,fun i xs hi=>?_⟩
 obtain⟨g,o,u,h1,h2,h3,h4,h5⟩:=hx i xs hi
 exact⟨g,o,u,h1,h2,hO g h3,h4,h5.mono hO⟩
theorem ClsIn.lt {O:Nat→Prop} {w:World} {v:Value} {cs:List (List Int)} (h:ClsIn O w v cs):ClsIn (fun g=>O g∧g<w.heap.size) w v cs:=by
 obtain⟨A,c,hv,hc,hn,hx⟩:=h
 refine⟨A,c,hv,hc,hn,fun i xs hi=>?_⟩
 obtain⟨g,o,u,h1,h2,h3,h4,h5⟩:=hx i xs hi
 exact⟨g,o,u,h1,h2,⟨h3,h2⟩,h4,h5.lt⟩
theorem ClsOwn.clsIn {n:Nat} {w:World} {v:Value} {cs:List (List Int)} (h:ClsOwn n w v cs):ClsIn (fun g=>n≤g) w v cs:=by
 obtain⟨us,h1,h2⟩:=h
 rcases h1.2 with⟨rfl,h0⟩|⟨g,cap,cur,rfl,hb,hg,hle,_⟩
 ·exact⟨none,0,by rw[h0],by omega,fun _=>rfl,fun i xs hi=>by
   have:=(List.getElem?_eq_some_iff.1 hi).1
   omega⟩
 ·refine⟨_,cap,rfl,hle,(fun h=>by cases h),fun i xs hi=>?_⟩
  obtain⟨u,hu,ho⟩:=h2 i xs hi
  exact⟨g,0,u,rfl,heap_lt hg,hb,by rw[Nat.zero_add];exact mx_at h1 hu,(IntsIn.of_own ho).mono (fun g hg=>(own_lt ho g hg.2).1)⟩
theorem ClsIn.src {O:Nat→Prop} {w:World} {v:Value} {cs:List (List Int)} (h:ClsIn O w v cs): ∃us:List Value,us.length=cs.length∧SrcAt w v cs.length us∧(∀z∈us,z.oneCell'=true)∧∀(i:Nat) (xs:List Int),cs[i]? =some xs→∃u,us[i]? =some u∧IntsIn O w u xs:=by
 obtain⟨A,c,rfl,hc,hn,hx⟩:=h
 cases A with
 | none=>
  have h0:=hn rfl
  have h1:cs= []:=List.eq_nil_of_length_eq_zero (by omega)
  subst h1
  subst h0
  exact⟨[],rfl,.inl ⟨rfl,rfl,rfl⟩,(fun z hz=>by cases hz),fun i xs hi=>by simp at hi⟩
 | some a=>
  obtain⟨ga,oa,fa⟩:=a
  have key: ∀i,i<cs.length→∃u xs,cs[i]? =some xs∧fa=none∧w.cell? ⟨ga,oa+i,none⟩=some u∧IntsIn O w u xs:=fun i hi=>by
   obtain⟨xs,hxs⟩:=getElem_of hi
   obtain⟨g,o,u,h1,_,_,h4,h5⟩:=hx i xs hxs
   cases h1
   exact⟨u,xs,hxs,rfl,h4,h5⟩
  refine⟨(List.range cs.length).map (fun i=>(w.cell? ⟨ga,oa+i,none⟩).getD undef),by simp,.inr ⟨_,c,rfl,fun j u hj=>?_⟩,fun z hz=>?_,fun i xs hi=>?_⟩
  ·have hjl:j<cs.length:=by
    have:=(List.getElem?_eq_some_iff.1 hj).1
    simpa using this
   rw[List.getElem?_map,List.getElem?_range hjl]at hj
   obtain⟨u',xs,_,rfl,h4,_⟩:=key j hjl
   rw[addr_add2]
   simp only[Option.map_some,h4,Option.getD_some,Option.some.injEq]at hj
   rw[h4,hj]
  ·obtain⟨i,hi,rfl⟩:=List.mem_map.1 hz
   obtain⟨u',xs,_,rfl,h4,h5⟩:=key i (List.mem_range.1 hi)
   rw[h4]
   obtain⟨A',c',h,_⟩:=h5
   rw[h]
   rfl
  ·have hil:=(List.getElem?_eq_some_iff.1 hi).1
   obtain⟨u',xs',h1,rfl,h4,h5⟩:=key i hil
   rw[hi]at h1
   obtain rfl:=Option.some.inj h1
   refine⟨u',?_,h5⟩
   rw[List.getElem?_map,List.getElem?_range hil]
   simp[h4]
end Go.Proofs.YtcbjjdpngeabgaaGreatDoor
namespace Go.Proofs.YtcbjjdpngeabgaaGreatDoor
open Go.RowKit
set_option maxRecDepth 100000 in
set_option maxHeartbeats 2000000 in
theorem clone_row (A:Option Addr) (k c:Nat) (us:List Value) (w:World) (h:SrcAt w (.slice A k c) k us) (hn:A=none→k=0∧c=0) (hl:us.length=k) (h1: ∀z∈us,z.oneCell'=true) (hk:k≤1000000000):
  Calls Tryz.prog 43 #[.slice A k c] w fun e w'=> ∃v,e= .returned v∧w'.ownsRow w.heap.size 38 1 v k us∧Below w.heap.size w w':=by
 obtain⟨i0,hi,hz0,hz1,hz2⟩:=info_parts info_cls
 cases A with
 | none=>
  obtain⟨rfl,rfl⟩:=hn rfl
  obtain rfl:us= []:=List.eq_nil_of_length_eq_zero hl
  have hq:=fun w=>Lib.run_eql_slice_nil (P:=Tryz.prog) w 25 38 none 0 0 0 0 Tryz.underlying25
  clear h h1
  go_enter Tryz.func43,Tryz.ntmps43
  go_wp2
  go_ret
  exact⟨_,rfl,World.ownsRow_nil _ _ _ _,Below.refl _ _⟩
 | some a=>
  have hq:=fun w=>Lib.run_eql_slice_nil (P:=Tryz.prog) w 25 38 (some a) k c 0 0 Tryz.underlying25
  have hnews: ∀j u,us[j]? =some u→(w.alloc (.cells #[] 38)).cell? (a.add j)=some u:=fun j u hj=>by
   rcases h with⟨h,_⟩|⟨ad,c',hv,hx⟩
   ·cases h
   ·cases hv
    have h0:=hx j u hj
    exact((mx_al w _).cell (World.block_lt_of_cell? w _ h0)).trans h0
  have HN:=Lib.hid hnews
  have H1:=Lib.hid h1
  have h0:(w.alloc (.cells #[] 38)).ownsRow w.heap.size 38 1 (.slice (some ⟨w.heap.size,0,none⟩) 0 0) 0 []:=⟨rfl,.inr ⟨w.heap.size,0,#[],rfl,Nat.le_refl _,World.alloc_heap_new _ _,Nat.le_refl _,Nat.zero_le _,rfl,rfl⟩⟩
  have H0:=Lib.hid h0
  have HLU:=Lib.hid hl
  clear hnews h0 h h1 hn hl
  go_enter Tryz.func43,Tryz.ntmps43
  go_wp2_with (at_builtin;refine wpList_append_own_at _ rfl _ _ 25 rfl w.heap.size 38 i0 (.slice none 0 0) 1 24 Tryz.underlying25 hi hz0 hz1 hz2 rfl (by decide) _ _ _ rfl H0.out a k c us rfl (by rw[HLU.out,Nat.mul_one]) HN.out H1.out (by unfold maxLen;omega) (by omega) (by simp) ?_;intro v' w1 hown hgrow hnl hat)
  go_ret
  have hB:Below w.heap.size w w1:=((Below.refl w.heap.size w).alloc (Nat.le_refl _) (.cells #[] 38)).grown hgrow (by simp) (fun g hg=>by cases hg;exact Nat.le_refl _)
  exact⟨_,rfl,by simpa using hown,hB⟩
end Go.Proofs.YtcbjjdpngeabgaaGreatDoor
namespace Go.Proofs.YtcbjjdpngeabgaaGreatDoor
open Go.RowKit
def bitT (n:Nat) (l:Int):Bool:=if 0<l then n.testBit l.toNat else !n.testBit (-l).toNat
def allT (n:Nat) (cs:List (List Int)):Bool:=cs.all fun c=>c.any (bitT n)
def Lits6 (cs:List (List Int)):Prop:= ∀c∈cs,c.length≤1000000∧∀y∈c,y≠0∧ -7<y∧y<7
end Go.Proofs.YtcbjjdpngeabgaaGreatDoor
namespace Go.Proofs.YtcbjjdpngeabgaaGreatDoor
open Go.RowKit
def litV (l:Int):Nat:=if litB l=true then l.natAbs else 0
set_option maxHeartbeats 1000000 in
theorem lit_var (l:Int) (w:World):Calls Tryz.prog 79 #[.int .i64 l] w fun e w'=>e= .returned (.int .i64 (litV l:Nat))∧w=w':=by
 have HR:=Lib.hid (right_lit l w)
 rcases hb:litB l with _|_
 ·rw[hb]at HR
  have hv:litV l=0:=by unfold litV;rw[if_neg (by rw[hb];decide)]
  rw[hv]
  clear hb hv
  go_enter Tryz.func79,Tryz.ntmps79
  go_wp2_with fail
  refine HR.out.mono ?_
  rintro e w' ⟨rfl,rfl⟩
  go_wp2_with fail
  go_ret
  exact⟨rfl,rfl⟩
 ·rw[hb]at HR
  have hr:=(litB_iff l).1 hb
  have hv:(litV l:Int)=max l (-l):=by unfold litV;rw[if_pos hb];omega
  have HV:=Lib.hid hv
  obtain⟨h0,h1,h2⟩:=hr
  clear hb hv
  have hw:IntKind.i64.wrap (-l)= -l:=IntWalk.i64_in _ (by omega)
  go_enter Tryz.func79,Tryz.ntmps79
  go_wp2_with fail
  refine HR.out.mono ?_
  rintro e w' ⟨rfl,rfl⟩
  go_wp2_with fail
  all_goals (go_ret;first|exact⟨ret_int (a:=max l (-l)) HV.out.symm,rfl⟩|exact⟨ret_int (a:= -l) (by have:=HV.out;omega),rfl⟩|exact⟨ret_int (a:=l) (by have:=HV.out;omega),rfl⟩)
def litN (l:Int):Int:=if litB l=true then -l else 0
theorem lit_neg (l:Int) (w:World):Calls Tryz.prog 107 #[.int .i64 l] w fun e w'=>e= .returned (.int .i64 (litN l))∧w=w':=by
 have HR:=right_lit l w
 cases hb:litB l
 ·
  rw[hb]at HR
  have HR:=Lib.hid HR
  have hv:litN l=0:=by unfold litN;rw[if_neg (by rw[hb];decide)]
  rw[hv]
  clear hb hv
  go_enter Tryz.func107,Tryz.ntmps107
  go_wp2_with fail
  refine HR.out.mono ?_
  rintro e w' ⟨rfl,rfl⟩
  go_wp2_with fail
  go_ret
  exact⟨rfl,rfl⟩
 ·
  rw[hb]at HR
  have HR:=Lib.hid HR
  have hr:=(litB_iff l).1 hb
  have hv:litN l= -l:=by unfold litN;rw[if_pos hb]
  rw[hv]
  obtain⟨h0,h1,h2⟩:=hr
  clear hb hv
  have hw:IntKind.i64.wrap (-l)= -l:=IntWalk.i64_in _ (by omega)
  go_enter Tryz.func107,Tryz.ntmps107
  go_wp2_with fail
  refine HR.out.mono ?_
  rintro e w' ⟨rfl,rfl⟩
  go_wp2_with fail
  go_ret
  exact⟨rfl,rfl⟩
end Go.Proofs.YtcbjjdpngeabgaaGreatDoor
