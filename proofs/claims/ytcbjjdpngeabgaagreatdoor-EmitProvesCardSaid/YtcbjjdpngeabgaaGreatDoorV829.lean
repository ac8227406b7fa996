/- package proof: Check, at a right formula. The example of chapter 10: plain. Rows that a program writes out; the example of chapter 10: four. package salvorlaw10: holds, clash, joined. Steps that a program builds: a row of its own, with rows of literals and of hints. -/
import Derived.Test.YtcbjjdpngeabgaaGreatDoorV828
import Derived.Test.YtcbjjdpngeabgaaGreatDoorV825
import Derived.Test.YtcbjjdpngeabgaaGreatDoorV816
import Derived.Test.YtcbjjdpngeabgaaGreatDoorV812
import Derived.Test.YtcbjjdpngeabgaaGreatDoorV821
import Derived.Test.YtcbjjdpngeabgaaGreatDoorV822
import Derived.Test.YtcbjjdpngeabgaaGreatDoorV817
import Derived.Test.YtcbjjdpngeabgaaGreatDoorShelg
import Derived.Shelf.SlIterI.Nil
import Derived.Shelf.SortM.Plain
import Derived.Shelf.SortM.SortNone
namespace Go.Proofs.YtcbjjdpngeabgaaGreatDoor
open Go.RowKit Go.Maps
def repZ:Value:=.agg #[.bool false,.int .i64 0,.int .i64 0,.int .i64 0,.int .i64 0]
def runRep (r:Ckr×Nat×Nat):Value:=if runE r=0 then r.1.rep else repZ
end Go.Proofs.YtcbjjdpngeabgaaGreatDoor
namespace Go.Proofs.YtcbjjdpngeabgaaGreatDoor
open Go.RowKit
def fourC:List (List Int):= [[1,2],[-1,2],[1,-2],[-1,-2]]
def exA:EStep:=⟨false,5,[2],[1,2]⟩
def exB:EStep:=⟨false,6,[],[5,3,4]⟩
def exM:List EStep:= [⟨false,5,[1,2],[1]⟩,⟨false,6,[2],[1,2]⟩,⟨false,7,[],[6,3,4]⟩]
def exK:Ckr:=⟨[(1,[1,2]),(2,[-1,2]),(3,[1,-2]),(4,[-1,-2]),(5,[1,2])],5,false,1,0,0,5⟩
end Go.Proofs.YtcbjjdpngeabgaaGreatDoor
namespace Go.Proofs.YtcbjjdpngeabgaaGreatDoor
open Go.RowKit
theorem al_new (W:World) (cs:Array Value) (t:TypeId): ∃W',W.alloc (.cells cs t)=W'∧Below W.heap.size W W'∧W'.heap[W.heap.size]? =some (.cells cs t (0,0))∧W'.heap.size=W.heap.size+1:=
 ⟨_,rfl,mx_al _ _,World.alloc_heap_new _ _,by simp⟩
theorem blk_cell {w:World} {g j:Nat} {us:List Value} {t:TypeId} {z:Nat×Nat} {u:Value} (h:w.heap[g]? =some (.cells us.toArray t z)) (hu:us[j]? =some u):w.cell? ⟨g,j,none⟩=some u:=by
 simp[World.cell?,h,hu]
theorem ints_blk {O:Nat→Prop} {w:World} {g:Nat} {xs:List Int} {t:TypeId} {z:Nat×Nat} (h:w.heap[g]? =some (.cells (xs.map (Value.int .i64)).toArray t z)) (hO:O g):IntsIn O w (.slice (some ⟨g,0,none⟩) xs.length xs.length) xs:=
 ⟨_,_,rfl,Nat.le_refl _,(fun h=>by cases h),fun i x hi=>⟨g,0,rfl,heap_lt h,hO,by
  rw[Nat.zero_add]
  exact blk_cell h (by rw[List.getElem?_map,hi];rfl)⟩⟩
def rcell (x:EStep×Value×Value):List Value:= [.bool x.1.del,.int .i64 x.1.id,x.2.1,x.2.2]
end Go.Proofs.YtcbjjdpngeabgaaGreatDoor
namespace Go.Proofs.YtcbjjdpngeabgaaGreatDoor
open Go.RowKit Go.Maps Go.Sort Go.Shelf
theorem own_sortC {base:Nat} (v:Value) (xs:List Int) (w:World) (h:w.ownsRow base 57 1 v xs.length (xs.map (Value.int .i64))) (hl:xs.length<4611686018427387904):
  Calls Tryz.prog 75 #[v] w fun e w'=>e= .returned (.tuple #[])∧w'.ownsRow base 57 1 v (sortI xs).length ((sortI xs).map (Value.int .i64))∧Kept (fun g=>v.ownBlock=some g) w w':=by
 rcases h.2 with⟨rfl,h0⟩|⟨g,cap,cur,rfl,hb,hg,h1,h2,h3,h4⟩
 ·obtain rfl:xs= []:=List.eq_nil_of_length_eq_zero h0
  refine(AnyM.slices_Sort_int_none Tryz.sortL none 0 w).mono ?_
  rintro e w' ⟨rfl,rfl⟩
  have hs:sortI []= []:=by simp[sortI]
  rw[hs]
  exact⟨rfl,h,Kept.refl _ _⟩
 ·refine(AnyM.slices_Sort_int Tryz.sortL g 0 cap xs w (st_holds hg (by simpa using h4)) (heap_lt hg) hl).mono ?_
  rintro e w' ⟨rfl,n,os,rfl⟩
  refine⟨rfl,?_,st_kept _⟩
  rw[sortI_length]
  refine⟨by simp[sortI],.inr ⟨g,cap,_,rfl,hb,st_heap _ hg,h1,h2,by simp[putCells,h3],?_⟩⟩
  have e:xs.length*1=(sortI xs).length:=by rw[sortI_length,Nat.mul_one]
  rw[e]
  exact st_take cur (sortI xs) (by rw[sortI_length];omega)
def holdsL (cs:List (List Int)):Bool:=(List.range 64).any fun j=>allT (2*j) cs
theorem neg_wrap {x:Int} (h:litB x=true):IntKind.i64.wrap (-x)= -x:=by
 obtain⟨h1,h2,h3⟩:=(litB_iff x).1 h
 exact IntWalk.i64_in _ (by omega)
set_option maxRecDepth 100000 in
set_option maxHeartbeats 1000000 in
theorem clash_one {O:Nat→Prop} (q:Nat) (u:Value) (xs:List Int) (x:Int) (w:World) (h:IntsIn O w u xs) (hq:w.cell? ⟨q,0,none⟩=some u) (hl:xs.length≤1000000) (hx:litB x=true):
  Calls Tryz.prog 73 #[.int .i64 x,.pointer (some ⟨q,0,none⟩)] w fun e w'=>e= .returned (.bool (xs.contains (-x)))∧Below w.heap.size w w':=by
 have HC:=Lib.hid (contains_c u xs (-x) w h (by omega))
 have hnw:=neg_wrap hx
 obtain⟨z,hz⟩: ∃z,xs.contains (-x)=z:=⟨_,rfl⟩
 rw[hz]at HC⊢
 obtain⟨A,c,rfl,_⟩:=h
 clear hz hx
 go_enter Tryz.func73,Tryz.ntmps73
 go_wp2_with fail
 refine HC.out.mono ?_
 rintro e w' ⟨rfl,rfl⟩
 go_wp2_with fail
 go_ret
 exact⟨rfl,Below.refl _ _⟩
set_option maxRecDepth 100000 in
set_option maxHeartbeats 1000000 in
theorem law_clash {O:Nat→Prop} (u:Value) (xs:List Int) (w:World) (h:IntsIn O w u xs) (hl:xs.length≤1000000) (hx: ∀x∈xs,litB x=true):
  Calls Tryz.prog 45 #[u] w fun e w'=>e= .returned (.bool (clashL xs))∧Below w.heap.size w w':=by
 obtain⟨W1,hW1,hb1,hc1,hz1⟩:=al_new w #[u] 38
 have HC:=Lib.hid (contains_cf 73 (.pointer (some ⟨w.heap.size,0,none⟩)) u xs (fun l=>xs.contains (-l)) W1 (enters_of Tryz.func73 (by kernel_rfl) rfl) (h.below hb1) (by omega) (fun W hW x hxm=>clash_one w.heap.size u xs x W ((h.below hb1).below hW) ((hW.cell (p:=⟨w.heap.size,0,none⟩) (heap_lt hc1)).trans (mx_cell (j:=0) hc1)) hl (hx x hxm)))
 obtain⟨z,hz⟩: ∃z,clashL xs=z:=⟨_,rfl⟩
 have hz':(xs.any fun l=>xs.contains (-l))=z:=hz
 rw[hz']at HC
 rw[hz]
 have HW1:=Lib.hid hW1
 have HB1:=Lib.hid hb1
 obtain⟨A,c,rfl,_⟩:=h
 clear hz hz' hx hW1 hb1 hc1 hz1
 go_enter Tryz.func45,Tryz.ntmps45
 go_wp2_with fail
 rw[HW1.out]
 refine HC.out.mono ?_
 rintro e w' ⟨rfl,hb⟩
 have HB:=Lib.hid (HB1.out.trans (hb.mono HB1.out.size))
 clear hb
 go_wp2_with fail
 go_ret
 exact⟨rfl,HB.out⟩
theorem clsat_blk {w:World} {g:Nat} {us:List Value} {cs:List (List Int)} {t:TypeId} {z:Nat×Nat} (h:w.heap[g]? =some (.cells us.toArray t z)) (hx: ∀(i:Nat) (c:List Int),cs[i]? =some c→∃u,us[i]? =some u∧IntsIn (fun g=>g<w.heap.size) w u c):ClsAt w (.slice (some ⟨g,0,none⟩) cs.length cs.length) cs:=
 ⟨_,_,rfl,fun i c hi=>by
  obtain⟨u,h1,h2⟩:=hx i c hi
  exact⟨g,0,u,rfl,heap_lt h,by rw[Nat.zero_add];exact blk_cell h h1,h2⟩⟩
theorem joinGo_snoc (l:Int): ∀(xs out:List Int) (x:Int),joinGo l out (xs++ [x])=if x≠l∧x≠ -l∧(joinGo l out xs).contains x=false then joinGo l out xs++ [x]else joinGo l out xs
 | [],_,_=>rfl
 | _::r,_,x=>joinGo_snoc l r _ x
set_option maxRecDepth 100000 in
set_option maxHeartbeats 4000000 in
theorem law_joined {O O':Nat→Prop} (u v:Value) (xs ys:List Int) (l:Int) (w:World) (h1:IntsIn O w u xs) (h2:IntsIn O' w v ys) (hx:xs.length≤100000) (hy:ys.length≤100000) (hl:litB l=true):
  Calls Tryz.prog 46 #[u,v,.int .i64 l] w fun e w'=> ∃r,e= .returned r∧w'.ownsRow w.heap.size 57 1 r (joinL xs ys l).length ((joinL xs ys l).map (Value.int .i64))∧Below w.heap.size w w':=by
 obtain⟨i0,hi,hz0,hz1,hz2⟩:=info_parts info_lit
 obtain⟨W1,hW1,hb1,hc1,-⟩:=al_new w #[u,v] 38
 have hcn:ClsAt W1 (.slice (some ⟨w.heap.size,0,none⟩) 2 2) [xs,ys]:=clsat_blk (us:= [u,v]) (cs:= [xs,ys]) hc1 (fun i c hi=>by
  match i,hi with
  | 0,hi=>cases hi;exact⟨_,rfl,(h1.below hb1).lt.mono fun g h=>h.2⟩
  | 1,hi=>cases hi;exact⟨_,rfl,(h2.below hb1).lt.mono fun g h=>h.2⟩
  | n+2,hi=>exact absurd hi (by simp))
 obtain⟨zs,hzs⟩: ∃zs,xs++ys=zs:=⟨_,rfl⟩
 have hfl: [xs,ys].flatten=zs:=by simpa using hzs
 have hzl:zs.length≤200000:=by rw[←hzs,List.length_append];omega
 have HC:=Lib.hid (concat_c _ [xs,ys] W1 hcn (by rw[hfl];omega) (by simp))
 rw[hfl]at HC
 have HJL:=Lib.hid (show joinL xs ys l=sortI (joinGo l [] zs)from by unfold joinL;rw[hzs])
 have HW1:=Lib.hid hW1
 have HB1:=Lib.hid hb1
 have hnw:=neg_wrap hl
 obtain⟨A,c,rfl,_⟩:=h1
 obtain⟨A',c',rfl,_⟩:=h2
 clear hcn hfl hzs hW1 hb1 hc1 hl
 go_enter Tryz.func46,Tryz.ntmps46
 go_wp2_with fail
 rw[HW1.out]
 refine HC.out.mono ?_
 rintro e w1 ⟨zv,rfl,hz,hb⟩
 have HB:=Lib.hid (HB1.out.trans (hb.mono HB1.out.size))
 have hw1:w.heap.size≤w1.heap.size:=HB.out.size
 have HZ:=Lib.hid (IntsIn.of_own hz)
 obtain⟨Az,cz,rfl,_⟩:=mx_slice hz
 clear hz hb HC
 go_wp2_with fail
 go_loopw [7,15] (fun dv iv wr=> ∃(k:Nat) (S:List Int),k≤zs.length∧S.length≤k∧iv= .int .i64 k∧Hid (S=joinGo l [] (zs.take k))∧Hid (wr.ownsRow w1.heap.size 57 1 dv S.length (S.map (Value.int .i64)))∧Hid (Below w1.heap.size w1 wr)) (fun _ i _=>zs.length-(intOf i).toNat)
 case atStart=>exact⟨0,[],Nat.zero_le _,Nat.le_refl _,rfl,Lib.hid rfl,Lib.hid (World.ownsRow_nil _ _ _ _),Lib.hid (Below.refl _ _)⟩
 case round=>
  obtain⟨k,S,hk,hSk,rfl,HS,HR,HBk⟩:=hrel
  obtain⟨Ad,cd,rfl,_⟩:=mx_slice HR.out
  by_cases hlt:k<zs.length
  ·obtain⟨x,hxk⟩:=getElem_of hlt
   obtain⟨A7,c7,hA7,_,_,hxs⟩:=HZ.out.below HBk.out
   simp only[Value.slice.injEq,true_and]at hA7
   obtain⟨rfl,rfl⟩:=hA7
   obtain⟨g,o,rfl,hg,_,d1⟩:=hxs k x hxk
   have HSN:=Lib.hid (show joinGo l [] (zs.take (k+1))=if x≠l∧x≠ -l∧S.contains x=false then S++ [x]else S from by
    rw[List.take_add_one,hxk]
    show joinGo l [] (zs.take k++ [x])=_
    rw[joinGo_snoc,←HS.out])
   have HCT:=Lib.hid (contains_c _ S x wr (IntsIn.of_own HR.out) (by omega))
   obtain⟨b,hb⟩: ∃b,S.contains x=b:=⟨_,rfl⟩
   rw[hb]at HCT HSN
   clear hxs hb hxk
   by_cases q1:x=l
   ·have HSN2:=Lib.hid (show joinGo l [] (zs.take (k+1))=S from HSN.out.trans (if_neg fun h=>h.1 q1))
    have p1:(x != l)=false:=by rw[q1];simp
    clear HSN q1
    go_wp2_with fail
    go_roundw
    case rel=>exact⟨k+1,S,by omega,by omega,by go_num,Lib.hid HSN2.out.symm,HR,HBk⟩
    case measure=>simp[intOf];omega
   ·have p1:(x != l)=true:=by simpa using q1
    by_cases q2:x= -l
    ·have HSN2:=Lib.hid (show joinGo l [] (zs.take (k+1))=S from HSN.out.trans (if_neg fun h=>h.2.1 q2))
     have p2:(x != -l)=false:=by rw[q2];simp
     clear HSN q1 q2
     go_wp2_with fail
     go_roundw
     case rel=>exact⟨k+1,S,by omega,by omega,by go_num,Lib.hid HSN2.out.symm,HR,HBk⟩
     case measure=>simp[intOf];omega
    ·have p2:(x != -l)=true:=by simpa using q2
     have HSN2:=Lib.hid (show joinGo l [] (zs.take (k+1))=if b=false then S++ [x]else S from by
      rw[HSN.out]
      cases b with
      | true=>rw[if_neg (fun h=>by cases h.2.2),if_neg (by decide)]
      | false=>rw[if_pos ⟨q1,q2,rfl⟩,if_pos rfl])
     clear HSN q1 q2
     go_wp2_with fail
     refine HCT.out.mono ?_
     rintro e w5 ⟨rfl,rfl⟩
     clear HCT
     cases b with
     | true=>
      have HSN3:=Lib.hid (HSN2.out.trans (if_neg (by decide)))
      go_wp2_with fail
      go_roundw
      case rel=>exact⟨k+1,S,by omega,by omega,by go_num,Lib.hid HSN3.out.symm,HR,HBk⟩
      case measure=>simp[intOf];omega
     | false=>
      have HSN3:=Lib.hid (HSN2.out.trans (if_pos rfl))
      go_wp2_with (at_builtin;refine wpList_append_own_at _ rfl _ _ 38 rfl w1.heap.size 57 i0 (.int .i64 0) 1 8 Tryz.underlying38 hi hz0 hz1 hz2 rfl (by decide) _ S.length _ rfl (own_below HR.out (mx_al _ _)) ⟨_,0,none⟩ 1 1 [.int .i64 x] rfl rfl (cell_one_new' _ _ _) (by simp[Value.oneCell']) (by unfold maxLen;omega) (by omega) (by have:=HBk.out.size;simp;omega) ?_;intro v' w6 hown hgrow hnl hat)
      obtain⟨Av,kv,rfl,_⟩:=mx_slice hown
      have hb6:=(HBk.out.trans ((mx_al _ (.cells #[.int .i64 x] 57)).mono HBk.out.size)).grown hgrow (by have:=HBk.out.size;simp;omega) (fun g hg=>(own_lt HR.out g hg).1)
      have HO:=Lib.hid (show w6.ownsRow w1.heap.size 57 1 (.slice Av (S.length+1) kv) (S++ [x]).length ((S++ [x]).map (Value.int .i64))from by simpa using hown)
      have HB6:=Lib.hid hb6
      clear hown hgrow hnl hat hb6
      go_wp2_with fail
      go_roundw
      case rel=>exact⟨k+1,S++ [x],by omega,by rw[List.length_append,List.length_singleton];omega,by go_num,Lib.hid HSN3.out.symm,HO,HB6⟩
      case measure=>simp[intOf];omega
  ·obtain rfl:k=zs.length:=by omega
   have HSF:=Lib.hid (show joinL xs ys l=sortI S from by rw[HJL.out,HS.out,List.take_length])
   have HSO:=Lib.hid (own_sortC _ S _ HR.out (by omega))
   go_wp2_with fail
   refine HSO.out.mono ?_
   rintro e w7 ⟨rfl,ho,hk7⟩
   have HO7:=Lib.hid ho
   have HB7:=Lib.hid (below_kept HBk.out hk7 (fun i e=>(own_lt HR.out i e).1) HBk.out.size)
   clear ho hk7
   go_wp2_with fail
   go_ret
   refine⟨_,rfl,?_,HB.out.trans (HB7.out.mono hw1)⟩
   rw[HSF.out]
   have:=own_mono HO7.out hw1
   rw[sortI_length]at this⊢
   exact this
end Go.Proofs.YtcbjjdpngeabgaaGreatDoor
namespace Go.Proofs.YtcbjjdpngeabgaaGreatDoor
open Go.RowKit
abbrev StV:=EStep×(Option Addr×Nat)×(Option Addr×Nat)
def stcell (x:StV):List Value:= [.bool x.1.del,.int .i64 x.1.id,(Value.slice x.2.1.1 x.1.lits.length x.2.1.2),(Value.slice x.2.2.1 x.1.hints.length x.2.2.2)]
theorem stcell_at: ∀(K:List StV) (i:Nat) (x:StV),K[i]? =some x→(K.flatMap stcell)[i*4]? =some (.bool x.1.del)∧(K.flatMap stcell)[i*4+1]? =some (.int .i64 x.1.id)∧(K.flatMap stcell)[i*4+2]? =some (Value.slice x.2.1.1 x.1.lits.length x.2.1.2)∧(K.flatMap stcell)[i*4+3]? =some (Value.slice x.2.2.1 x.1.hints.length x.2.2.2)
 | [],i,x,h=>by simp at h
 | y::K,0,x,h=>by
  obtain rfl:y=x:=by simpa using h
  exact⟨rfl,rfl,rfl,rfl⟩
 | y::K,i+1,x,h=>by
  have:=stcell_at K i x (by simpa using h)
  rw[show(i+1)*4=i*4+4 by omega]
  exact this
theorem stinfo:(Tryz.prog.info? 41).map (fun i=>(i.zero,i.size,i.bytes))=some (some (.agg #[.bool false,.int .i64 0,.slice none 0 0,.slice none 0 0]),4,64):=by kernel_rfl
structure StMem (n0:Nat) (w:World) (v:Value) (K:List StV):Prop where
 row:w.ownsRow n0 41 4 v K.length (K.flatMap stcell)
 lit: ∀x∈K,w.ownsRow n0 57 1 (Value.slice x.2.1.1 x.1.lits.length x.2.1.2) x.1.lits.length (x.1.lits.map (Value.int .i64))
 hnt: ∀x∈K,w.ownsRow n0 3 1 (Value.slice x.2.2.1 x.1.hints.length x.2.2.2) x.1.hints.length (x.1.hints.map (Value.int .i64))
section
variable {n0:Nat} {w w1:World} {v v':Value} {K:List StV}
theorem StMem.nil (n0:Nat) (w:World):StMem n0 w (.slice none 0 0) []:=⟨World.ownsRow_nil _ _ _ _,(fun x hx=>by cases hx),(fun x hx=>by cases hx)⟩
theorem StMem.kept {O:Nat→Prop} (h:StMem n0 w v K) (k:Kept O w w1) (h1: ∀g,v.ownBlock=some g→¬O g) (h2: ∀x∈K,∀g,(Value.slice x.2.1.1 x.1.lits.length x.2.1.2).ownBlock=some g→¬O g) (h3: ∀x∈K,∀g,(Value.slice x.2.2.1 x.1.hints.length x.2.2.2).ownBlock=some g→¬O g):StMem n0 w1 v K:=
 ⟨own_kept h.row k h1,fun x hx=>own_kept (h.lit x hx) k (h2 x hx),fun x hx=>own_kept (h.hnt x hx) k (h3 x hx)⟩
theorem StMem.below (h:StMem n0 w v K) (k:Below w.heap.size w w1):StMem n0 w1 v K:=⟨own_below h.row k,fun x hx=>own_below (h.lit x hx) k,fun x hx=>own_below (h.hnt x hx) k⟩
theorem StMem.push (h:StMem n0 w v K) (hg:w.grownBy w1 v.ownBlock) (x:StV) (hr:w1.ownsRow n0 41 4 v' (K.length+1) (K.flatMap stcell++stcell x)) (hl:w.ownsRow n0 57 1 (Value.slice x.2.1.1 x.1.lits.length x.2.1.2) x.1.lits.length (x.1.lits.map (Value.int .i64))) (hh:w.ownsRow n0 3 1 (Value.slice x.2.2.1 x.1.hints.length x.2.2.2) x.1.hints.length (x.1.hints.map (Value.int .i64))):StMem n0 w1 v' (K++ [x]) where
 row:=by
  rw[List.length_append,List.flatMap_append]
  simpa using hr
 lit:=fun y hy=>by
  have hy2:w.ownsRow n0 57 1 (Value.slice y.2.1.1 y.1.lits.length y.2.1.2) y.1.lits.length (y.1.lits.map (Value.int .i64)):=by
   rcases List.mem_append.1 hy with hy|hy
   ·exact h.lit y hy
   ·rw[List.mem_singleton.1 hy];exact hl
  exact own_kept hy2 (Kept.grown hg) (fun g h1 h2=>mx_apart hy2 h.row (by decide) h1 h2.symm)
 hnt:=fun y hy=>by
  have hy2:w.ownsRow n0 3 1 (Value.slice y.2.2.1 y.1.hints.length y.2.2.2) y.1.hints.length (y.1.hints.map (Value.int .i64)):=by
   rcases List.mem_append.1 hy with hy|hy
   ·exact h.hnt y hy
   ·rw[List.mem_singleton.1 hy];exact hh
  exact own_kept hy2 (Kept.grown hg) (fun g h1 h2=>mx_apart hy2 h.row (by decide) h1 h2.symm)
theorem StMem.mono {n1:Nat} (h:StMem n0 w v K) (hn:n1≤n0):StMem n1 w v K:=⟨own_mono h.row hn,fun x hx=>own_mono (h.lit x hx) hn,fun x hx=>own_mono (h.hnt x hx) hn⟩
theorem StMem.stepIn (h:StMem n0 w v K):StepIn (fun g=>n0≤g) w v (K.map Prod.fst):=by
 have hrow:=h.row
 rcases hrow.2 with⟨rfl,h0⟩|⟨g,cap,cur,rfl,hb,hg,hle,_⟩
 ·exact⟨none,0,by rw[List.length_map,h0],by rw[List.length_map,h0];exact Nat.le_refl _,fun _=>rfl,fun i p hi=>by
   have:=(List.getElem?_eq_some_iff.1 hi).1
   rw[List.length_map]at this
   omega⟩
 ·refine⟨_,cap,by rw[List.length_map],by rw[List.length_map];exact hle,(fun h=>by cases h),fun i p hi=>?_⟩
  rw[List.getElem?_map]at hi
  cases hx:K[i]? with
  | none=>rw[hx]at hi;cases hi
  | some x=>
   rw[hx]at hi
   obtain rfl:=Option.some.inj hi
   obtain⟨e0,e1,e2,e3⟩:=stcell_at K i x hx
   have hxm:=List.mem_of_getElem? hx
   exact⟨g,0,(Value.slice x.2.1.1 x.1.lits.length x.2.1.2),(Value.slice x.2.2.1 x.1.hints.length x.2.2.2),rfl,heap_lt hg,hb,by rw[Nat.zero_add];exact mx_at hrow e0,by rw[Nat.zero_add];exact mx_at hrow e1,by rw[Nat.zero_add];exact mx_at hrow e2,by rw[Nat.zero_add];exact mx_at hrow e3,(IntsIn.of_own (h.lit x hxm)).mono fun _ h=>h.1,(IntsIn.of_own (h.hnt x hxm)).mono fun _ h=>h.1⟩
end
def bkStep (st:(Int→Int)×List StV) (x:StV):(Int→Int)×List StV:=if 0<x.1.lits.length∧st.1 x.1.id=0 then st else(needI st.1 x.1.hints,st.2++ [x])
end Go.Proofs.YtcbjjdpngeabgaaGreatDoor
