/- Rows that a program writes out; the example of chapter 10: four. package salvorlaw10: holds, clash, joined. Steps that a program builds: a row of its own, with rows of literals and of hints. package salvorlaw10: Resolved. -/
import Derived.Test.YtkfgplfllddhnaaGreatV427
import Derived.Test.YtkfgplfllddhnaaGreatV426
import Derived.Test.YtkfgplfllddhnaaGreatV404
import Derived.Test.YtkfgplfllddhnaaGreatV416
import Derived.Test.YtkfgplfllddhnaaGreatV417
import Derived.Test.YtkfgplfllddhnaaGreatV412
import Derived.Test.YtkfgplfllddhnaaGreatShelg
import Derived.Shelf.SlIterI.Nil
import Derived.Shelf.SortM.Plain
import Derived.Shelf.SortM.SortNone
import Derived.Test.YtkfgplfllddhnaaGreatV403
namespace Go.Proofs.YtkfgplfllddhnaaGreat
open Go.RowKit
theorem al_new (W:World) (cs:Array Value) (t:TypeId): ∃W',W.alloc (.cells cs t)=W'∧Below W.heap.size W W'∧W'.heap[W.heap.size]? =some (.cells cs t (0,0))∧W'.heap.size=W.heap.size+1:=
 ⟨_,rfl,mx_al _ _,World.alloc_heap_new _ _,by simp⟩
theorem blk_cell {w:World} {g j:Nat} {us:List Value} {t:TypeId} {z:Nat×Nat} {u:Value} (h:w.heap[g]? =some (.cells us.toArray t z)) (hu:us[j]? =some u):w.cell? ⟨g,j,none⟩=some u:=by
 simp[World.cell?,h,hu]
theorem ints_blk {O:Nat→Prop} {w:World} {g:Nat} {xs:List Int} {t:TypeId} {z:Nat×Nat} (h:w.heap[g]? =some (.cells (xs.map (Value.int .i64)).toArray t z)) (hO:O g):IntsIn O w (.slice (some ⟨g,0,none⟩) xs.length xs.length) xs:=
 ⟨_,_,rfl,Nat.le_refl _,(fun h=>by cases h),fun i x hi=>⟨g,0,rfl,heap_lt h,hO,by
  rw[Nat.zero_add]
  exact blk_cell h (by rw[List.getElem?_map,hi];rfl)⟩⟩
theorem cls_blk {O:Nat→Prop} {w:World} {g:Nat} {us:List Value} {cs:List (List Int)} {t:TypeId} {z:Nat×Nat} (h:w.heap[g]? =some (.cells us.toArray t z)) (hO:O g) (hx: ∀(i:Nat) (c:List Int),cs[i]? =some c→∃u,us[i]? =some u∧IntsIn O w u c):ClsIn O w (.slice (some ⟨g,0,none⟩) cs.length cs.length) cs:=
 ⟨_,_,rfl,Nat.le_refl _,(fun h=>by cases h),fun i c hi=>by
  obtain⟨u,h1,h2⟩:=hx i c hi
  exact⟨g,0,u,rfl,heap_lt h,hO,by rw[Nat.zero_add];exact blk_cell h h1,h2⟩⟩
def rcell (x:EStep×Value×Value):List Value:= [.bool x.1.del,.int .i64 x.1.id,x.2.1,x.2.2]
theorem rcell_at: ∀(K:List (EStep×Value×Value)) (i:Nat) (x:EStep×Value×Value),K[i]? =some x→(K.flatMap rcell)[i*4]? =some (.bool x.1.del)∧(K.flatMap rcell)[i*4+1]? =some (.int .i64 x.1.id)∧(K.flatMap rcell)[i*4+2]? =some x.2.1∧(K.flatMap rcell)[i*4+3]? =some x.2.2
 | [],i,x,h=>by simp at h
 | y::K,0,x,h=>by
  obtain rfl:y=x:=by simpa using h
  exact⟨rfl,rfl,rfl,rfl⟩
 | y::K,i+1,x,h=>by
  have:=rcell_at K i x (by simpa using h)
  rw[show(i+1)*4=i*4+4 by omega]
  exact this
theorem step_blk {O:Nat→Prop} {w:World} {g:Nat} {K:List (EStep×Value×Value)} {t:TypeId} {z:Nat×Nat} (h:w.heap[g]? =some (.cells (K.flatMap rcell).toArray t z)) (hO:O g) (hx: ∀x∈K,IntsIn O w x.2.1 x.1.lits∧IntsIn O w x.2.2 x.1.hints):StepIn O w (.slice (some ⟨g,0,none⟩) K.length K.length) (K.map Prod.fst):=
 ⟨_,_,by rw[List.length_map],by rw[List.length_map];exact Nat.le_refl _,(fun h=>by cases h),fun i s hi=>by
  rw[List.getElem?_map]at hi
  cases hk:K[i]? with
  | none=>rw[hk]at hi;cases hi
  | some x=>
   rw[hk]at hi
   obtain rfl:=Option.some.inj hi
   obtain⟨e0,e1,e2,e3⟩:=rcell_at K i x hk
   obtain⟨h1,h2⟩:=hx x (List.mem_of_getElem? hk)
   exact⟨g,0,x.2.1,x.2.2,rfl,heap_lt h,hO,by rw[Nat.zero_add];exact blk_cell h e0,by rw[Nat.zero_add];exact blk_cell h e1,by rw[Nat.zero_add];exact blk_cell h e2,by rw[Nat.zero_add];exact blk_cell h e3,h1,h2⟩⟩
theorem res_cell01 {fn:Func} (h:fn.results= #[.cell 0 26,.tmp 1]) {w:World} {r:Nat} {c0 c1:Value} {t:TypeId} (hb:w.heap[r]? =some (.cells #[c0,c1] t (0,0))) (tmps:Array Value) (t0:tmps[0]?.getD undef= .pointer (some ⟨r,0,none⟩)):
  (results fn tmps).run Tryz.prog w= .ok (.tuple #[.agg #[c0,c1],tmps[1]?.getD undef]) w:=by
 have p0:w.cell? ⟨r,0,none⟩=some c0:=mx_cell (j:=0) hb
 have p1:w.cell? ⟨r,1,none⟩=some c1:=mx_cell (j:=1) hb
 simp[results,h,go_sem,t0,p0,p1]
set_option maxRecDepth 100000 in
set_option maxHeartbeats 4000000 in
theorem four_any (w:World):Calls Tryz.prog 36 #[] w fun e w'=> ∃gl gs,e= .returned (.tuple #[.agg #[.int .i64 2,.slice (some ⟨gl,0,none⟩) 4 4],.slice (some ⟨gs,0,none⟩) 2 2])∧ClsIn (fun _=>True) w' (.slice (some ⟨gl,0,none⟩) 4 4) fourC∧StepIn (fun _=>True) w' (.slice (some ⟨gs,0,none⟩) 2 2) [exA,exB]∧Below w.heap.size w w':=by
 obtain⟨W1,hW1,hb1,hc1,hz1⟩:=al_new w #[.int .i64 2,.slice (some ⟨w.heap.size+1+1+1+1+1,0,none⟩) 4 4] 26
 have B1:Below w.heap.size w W1:=hb1
 obtain⟨W2,hW2,hb2,hc2,hz2⟩:=al_new W1 #[.int .i64 1,.int .i64 2] 58
 rw[hz1]at hc2 hz2
 have B2:Below (w.heap.size+1) W1 W2:=by rw[←hz1];exact hb2
 obtain⟨W3,hW3,hb3,hc3,hz3⟩:=al_new W2 #[.int .i64 (-1),.int .i64 2] 58
 rw[hz2]at hc3 hz3
 have B3:Below (w.heap.size+1+1) W2 W3:=by rw[←hz2];exact hb3
 obtain⟨W4,hW4,hb4,hc4,hz4⟩:=al_new W3 #[.int .i64 1,.int .i64 (-2)] 58
 rw[hz3]at hc4 hz4
 have B4:Below (w.heap.size+1+1+1) W3 W4:=by rw[←hz3];exact hb4
 obtain⟨W5,hW5,hb5,hc5,hz5⟩:=al_new W4 #[.int .i64 (-1),.int .i64 (-2)] 58
 rw[hz4]at hc5 hz5
 have B5:Below (w.heap.size+1+1+1+1) W4 W5:=by rw[←hz4];exact hb5
 obtain⟨W6,hW6,hb6,hc6,hz6⟩:=al_new W5 #[.slice (some ⟨w.heap.size+1,0,none⟩) 2 2,.slice (some ⟨w.heap.size+1+1,0,none⟩) 2 2,.slice (some ⟨w.heap.size+1+1+1,0,none⟩) 2 2,.slice (some ⟨w.heap.size+1+1+1+1,0,none⟩) 2 2] 35
 rw[hz5]at hc6 hz6
 have B6:Below (w.heap.size+1+1+1+1+1) W5 W6:=by rw[←hz5];exact hb6
 obtain⟨W7,hW7,hb7,hc7,hz7⟩:=al_new W6 #[.int .i64 2] 58
 rw[hz6]at hc7 hz7
 have B7:Below (w.heap.size+1+1+1+1+1+1) W6 W7:=by rw[←hz6];exact hb7
 obtain⟨W8,hW8,hb8,hc8,hz8⟩:=al_new W7 #[.int .i64 1,.int .i64 2] 3
 rw[hz7]at hc8 hz8
 have B8:Below (w.heap.size+1+1+1+1+1+1+1) W7 W8:=by rw[←hz7];exact hb8
 obtain⟨W9,hW9,hb9,hc9,hz9⟩:=al_new W8 #[.int .i64 5,.int .i64 3,.int .i64 4] 3
 rw[hz8]at hc9 hz9
 have B9:Below (w.heap.size+1+1+1+1+1+1+1+1) W8 W9:=by rw[←hz8];exact hb9
 obtain⟨W10,hW10,hb10,hc10,hz10⟩:=al_new W9 #[.bool false,.int .i64 5,.slice (some ⟨w.heap.size+1+1+1+1+1+1,0,none⟩) 1 1,.slice (some ⟨w.heap.size+1+1+1+1+1+1+1,0,none⟩) 2 2,.bool false,.int .i64 6,.slice none 0 0,.slice (some ⟨w.heap.size+1+1+1+1+1+1+1+1,0,none⟩) 3 3] 39
 rw[hz9]at hc10 hz10
 have B10:Below (w.heap.size+1+1+1+1+1+1+1+1+1) W9 W10:=by rw[←hz9];exact hb10
 clear hb1 hb2 hb3 hb4 hb5 hb6 hb7 hb8 hb9 hb10
 have T9:=B10
 have T8:=B9.trans (T9.mono (by omega))
 have T7:=B8.trans (T8.mono (by omega))
 have T6:=B7.trans (T7.mono (by omega))
 have T5:=B6.trans (T6.mono (by omega))
 have T4:=B5.trans (T5.mono (by omega))
 have T3:=B4.trans (T4.mono (by omega))
 have T2:=B3.trans (T3.mono (by omega))
 have T1:=B2.trans (T2.mono (by omega))
 have T0:=B1.trans (T1.mono (by omega))
 have D1:=((T1.block _ (by omega)).trans hc1)
 have D2:=((T2.block _ (by omega)).trans hc2)
 have D3:=((T3.block _ (by omega)).trans hc3)
 have D4:=((T4.block _ (by omega)).trans hc4)
 have D5:=((T5.block _ (by omega)).trans hc5)
 have D6:=((T6.block _ (by omega)).trans hc6)
 have D7:=((T7.block _ (by omega)).trans hc7)
 have D8:=((T8.block _ (by omega)).trans hc8)
 have D9:=((T9.block _ (by omega)).trans hc9)
 have D10:=hc10
 have HCL:=Lib.hid (show ClsIn (fun _=>True) W10 (.slice (some ⟨w.heap.size+1+1+1+1+1,0,none⟩) 4 4) fourC from cls_blk (us:= [.slice (some ⟨w.heap.size+1,0,none⟩) 2 2,.slice (some ⟨w.heap.size+1+1,0,none⟩) 2 2,.slice (some ⟨w.heap.size+1+1+1,0,none⟩) 2 2,.slice (some ⟨w.heap.size+1+1+1+1,0,none⟩) 2 2]) (cs:=fourC) D6 trivial (fun i c hi=>by
  match i,hi with
  | 0,hi=>cases hi;exact⟨_,rfl,ints_blk (xs:= [1,2]) D2 trivial⟩
  | 1,hi=>cases hi;exact⟨_,rfl,ints_blk (xs:= [-1,2]) D3 trivial⟩
  | 2,hi=>cases hi;exact⟨_,rfl,ints_blk (xs:= [1,-2]) D4 trivial⟩
  | 3,hi=>cases hi;exact⟨_,rfl,ints_blk (xs:= [-1,-2]) D5 trivial⟩
  | n+4,hi=>exact absurd hi (by simp[fourC])))
 have HST:=Lib.hid (show StepIn (fun _=>True) W10 (.slice (some ⟨w.heap.size+1+1+1+1+1+1+1+1+1,0,none⟩) 2 2) [exA,exB]from step_blk (K:= [(exA,.slice (some ⟨w.heap.size+1+1+1+1+1+1,0,none⟩) 1 1,.slice (some ⟨w.heap.size+1+1+1+1+1+1+1,0,none⟩) 2 2),(exB,.slice none 0 0,.slice (some ⟨w.heap.size+1+1+1+1+1+1+1+1,0,none⟩) 3 3)]) D10 trivial (fun x hx=>by
  rcases List.mem_cons.1 hx with rfl|hx
  ·exact⟨ints_blk (xs:= [2]) D7 trivial,ints_blk (xs:= [1,2]) D8 trivial⟩
  ·obtain rfl:=List.mem_singleton.1 hx
   exact⟨IntsIn.nil _ _,ints_blk (xs:= [5,3,4]) D9 trivial⟩))
 have HD1:=Lib.hid D1
 have HB:=Lib.hid T0
 have HW1:=Lib.hid hW1
 have HW2:=Lib.hid hW2
 have HW3:=Lib.hid hW3
 have HW4:=Lib.hid hW4
 have HW5:=Lib.hid hW5
 have HW6:=Lib.hid hW6
 have HW7:=Lib.hid hW7
 have HW8:=Lib.hid hW8
 have HW9:=Lib.hid hW9
 have HW10:=Lib.hid hW10
 clear hW1 hc1 hz1 B1 hW2 hc2 hz2 B2 hW3 hc3 hz3 B3 hW4 hc4 hz4 B4 hW5 hc5 hz5 B5 hW6 hc6 hz6 B6 hW7 hc7 hz7 B7 hW8 hc8 hz8 B8 hW9 hc9 hz9 B9 hW10 hc10 hz10 B10 T0 T1 T2 T3 T4 T5 T6 T7 T8 T9 D1 D2 D3 D4 D5 D6 D7 D8 D9 D10
 go_enter Tryz.func36,Tryz.ntmps36
 go_wp2_with fail
 rw[HW1.out,HW2.out,HW3.out,HW4.out,HW5.out,HW6.out,HW7.out,HW8.out,HW9.out,HW10.out]
 have e0:=mx_cell (j:=0) HD1.out
 have e1:=mx_cell (j:=1) HD1.out
 refine bodyPost_ret (res_cell01 rfl HD1.out _ rfl) rfl ?_
 exact⟨_,_,rfl,HCL.out,HST.out,HB.out⟩
end Go.Proofs.YtkfgplfllddhnaaGreat
namespace Go.Proofs.YtkfgplfllddhnaaGreat
open Go.RowKit Go.Maps Go.Sort Go.Shelf
def holdsL (cs:List (List Int)):Bool:=(List.range 64).any fun j=>allT (2*j) cs
set_option maxRecDepth 100000 in
set_option maxHeartbeats 2000000 in
theorem law_holds {O:Nat→Prop} (u:Value) (cs:List (List Int)) (w:World) (h1:ClsIn O w u cs) (h6:Lits6 cs) (hcl:cs.length≤1000000):
  Calls Tryz.prog 11 #[u] w fun e w'=>e= .returned (.bool (holdsL cs))∧Below w.heap.size w w':=by
 have HA:=Lib.hid (fun(n:Nat) (hn:n<128) (W:World) (hb:Below w.heap.size w W)=>law_alltrue u cs n W (h1.below hb) hn h6 hcl)
 obtain⟨z,hz⟩: ∃z,holdsL cs=z:=⟨_,rfl⟩
 have HZ:=Lib.hid hz
 rw[hz]
 obtain⟨A,k,rfl,_⟩:=h1
 clear h6 hz
 go_enter Tryz.func11,Tryz.ntmps11
 go_wp2_with fail
 go_loopw [3] (fun iv wr=> ∃m j:Nat,Hid (m=2*j)∧m≤128∧j≤64∧iv= .int .i64 m∧Hid (∀i,i<j→allT (2*i) cs=false)∧Hid (Below w.heap.size w wr)) (fun iv _=>200-(intOf iv).toNat)
 case atStart=>exact⟨0,0,Lib.hid rfl,by decide,by decide,rfl,Lib.hid (fun i hi=>by omega),Lib.hid (Below.refl _ _)⟩
 case round=>
  obtain⟨m,j,HMJ,hm,hj,rfl,HN,HB⟩:=hrel
  by_cases hm2:m<128
  ·have q1:decide ((m:Int)<128)=true:=by simp;omega
   have hm0:(m:Int)<128:=by omega
   have hwm:IntKind.i64.wrap ((m:Int)+2)=((m+2:Nat):Int):=by rw[IntWalk.i64_in _ (by omega)];omega
   have hall:=HA.out m hm2 wr HB.out
   obtain⟨b,hb⟩: ∃b,allT m cs=b:=⟨_,rfl⟩
   rw[hb]at hall
   have HALL:=Lib.hid hall
   have HBB:=Lib.hid hb
   clear hall hb
   go_wp2_with fail
   refine HALL.out.mono ?_
   rintro e w9 ⟨rfl,hb9⟩
   have HB9:=Lib.hid (HB.out.trans (hb9.mono HB.out.size))
   clear hb9 HALL
   cases b with
   | true=>
    go_wp2_with fail
    go_ret
    refine⟨?_,HB9.out⟩
    rw[←HZ.out,show holdsL cs=true from List.any_eq_true.2 ⟨j,List.mem_range.2 (by have:=HMJ.out;omega),by rw[←HMJ.out];exact HBB.out⟩]
    rfl
   | false=>
    go_wp2_with fail
    go_roundw
    case rel=>exact⟨m+2,j+1,Lib.hid (by have:=HMJ.out;omega),by have:=HMJ.out;omega,by have:=HMJ.out;omega,by go_num,Lib.hid (fun i hi=>by
     rcases Nat.lt_or_ge i j with h|h
     ·exact HN.out i h
     ·obtain rfl:i=j:=by omega
      rw[←HMJ.out]
      exact HBB.out),HB9⟩
    case measure=>simp[intOf];omega
  ·have q1:decide ((m:Int)<128)=false:=by simp;omega
   go_wp2_with fail
   go_ret
   refine⟨?_,HB.out⟩
   rw[←HZ.out,show holdsL cs=false from List.any_eq_false.2 fun i hi=>by
    rw[HN.out i (by have:=List.mem_range.1 hi;have:=HMJ.out;omega)]
    decide]
   rfl
end Go.Proofs.YtkfgplfllddhnaaGreat
namespace Go.Proofs.YtkfgplfllddhnaaGreat
open Go.RowKit
abbrev StV:=EStep×(Option Addr×Nat)×(Option Addr×Nat)
def stcell (x:StV):List Value:= [.bool x.1.del,.int .i64 x.1.id,(Value.slice x.2.1.1 x.1.lits.length x.2.1.2),(Value.slice x.2.2.1 x.1.hints.length x.2.2.2)]
theorem stcell_at: ∀(K:List StV) (i:Nat) (x:StV),K[i]? =some x→(K.flatMap stcell)[i*4]? =some (.bool x.1.del)∧(K.flatMap stcell)[i*4+1]? =some (.int .i64 x.1.id)∧(K.flatMap stcell)[i*4+2]? =some (Value.slice x.2.1.1 x.1.lits.length x.2.1.2)∧(K.flatMap stcell)[i*4+3]? =some (Value.slice x.2.2.1 x.1.hints.length x.2.2.2)
 | [],i,x,h=>by simp at h
 | y::K,0,x,h=>by
  obtain rfl:y=x:=by simpa using h
  exact⟨rfl,rfl,rfl,rfl⟩
 | y::K,i+1,x,h=>by
  have:=stcell_at K i x (by simpa using h)
  rw[show(i+1)*4=i*4+4 by omega]
  exact this
theorem stinfo:(Tryz.prog.info? 39).map (fun i=>(i.zero,i.size,i.bytes))=some (some (.agg #[.bool false,.int .i64 0,.slice none 0 0,.slice none 0 0]),4,64):=by kernel_rfl
structure StMem (n0:Nat) (w:World) (v:Value) (K:List StV):Prop where
 row:w.ownsRow n0 39 4 v K.length (K.flatMap stcell)
 lit: ∀x∈K,w.ownsRow n0 58 1 (Value.slice x.2.1.1 x.1.lits.length x.2.1.2) x.1.lits.length (x.1.lits.map (Value.int .i64))
 hnt: ∀x∈K,w.ownsRow n0 3 1 (Value.slice x.2.2.1 x.1.hints.length x.2.2.2) x.1.hints.length (x.1.hints.map (Value.int .i64))
section
variable {n0:Nat} {w w1:World} {v v':Value} {K:List StV}
theorem StMem.nil (n0:Nat) (w:World):StMem n0 w (.slice none 0 0) []:=⟨World.ownsRow_nil _ _ _ _,(fun x hx=>by cases hx),(fun x hx=>by cases hx)⟩
theorem StMem.kept {O:Nat→Prop} (h:StMem n0 w v K) (k:Kept O w w1) (h1: ∀g,v.ownBlock=some g→¬O g) (h2: ∀x∈K,∀g,(Value.slice x.2.1.1 x.1.lits.length x.2.1.2).ownBlock=some g→¬O g) (h3: ∀x∈K,∀g,(Value.slice x.2.2.1 x.1.hints.length x.2.2.2).ownBlock=some g→¬O g):StMem n0 w1 v K:=
 ⟨own_kept h.row k h1,fun x hx=>own_kept (h.lit x hx) k (h2 x hx),fun x hx=>own_kept (h.hnt x hx) k (h3 x hx)⟩
theorem StMem.below (h:StMem n0 w v K) (k:Below w.heap.size w w1):StMem n0 w1 v K:=⟨own_below h.row k,fun x hx=>own_below (h.lit x hx) k,fun x hx=>own_below (h.hnt x hx) k⟩
theorem StMem.ckf {b:Nat} {cs:Array Value} {z:Nat×Nat} (h:StMem n0 w v K) (k:CkF b w w1) (hb:w.heap[b]? =some (.cells cs 84 z)):StMem n0 w1 v K:=by
 have key: ∀{e:TypeId} {size n:Nat} {u:Value} {xs:List Value},w.ownsRow n0 e size u n xs→84≠e→∀g,u.ownBlock=some g→¬(g=b∨∃o:Obj,w.heap[g]? =some o∧o.isCells=false):=by
  rintro e size n u xs hu he g hg (h1|⟨o,h1,h2⟩)
  ·subst h1
   obtain⟨cur,hc⟩:=own_type hu g hg
   rw[hb]at hc
   cases hc
   exact he rfl
  ·obtain⟨cur,hc⟩:=own_type hu g hg
   rw[hc]at h1
   cases h1
   cases h2
 exact h.kept k (key h.row (by decide)) (fun x hx=>key (h.lit x hx) (by decide)) (fun x hx=>key (h.hnt x hx) (by decide))
theorem StMem.push (h:StMem n0 w v K) (hg:w.grownBy w1 v.ownBlock) (x:StV) (hr:w1.ownsRow n0 39 4 v' (K.length+1) (K.flatMap stcell++stcell x)) (hl:w.ownsRow n0 58 1 (Value.slice x.2.1.1 x.1.lits.length x.2.1.2) x.1.lits.length (x.1.lits.map (Value.int .i64))) (hh:w.ownsRow n0 3 1 (Value.slice x.2.2.1 x.1.hints.length x.2.2.2) x.1.hints.length (x.1.hints.map (Value.int .i64))):StMem n0 w1 v' (K++ [x]) where
 row:=by
  rw[List.length_append,List.flatMap_append]
  simpa using hr
 lit:=fun y hy=>by
  have hy2:w.ownsRow n0 58 1 (Value.slice y.2.1.1 y.1.lits.length y.2.1.2) y.1.lits.length (y.1.lits.map (Value.int .i64)):=by
   rcases List.mem_append.1 hy with hy|hy
   ·exact h.lit y hy
   ·rw[List.mem_singleton.1 hy];exact hl
  exact own_kept hy2 (Kept.grown hg) (fun g h1 h2=>mx_apart hy2 h.row (by decide) h1 h2.symm)
 hnt:=fun y hy=>by
  have hy2:w.ownsRow n0 3 1 (Value.slice y.2.2.1 y.1.hints.length y.2.2.2) y.1.hints.length (y.1.hints.map (Value.int .i64)):=by
   rcases List.mem_append.1 hy with hy|hy
   ·exact h.hnt y hy
   ·rw[List.mem_singleton.1 hy];exact hh
  exact own_kept hy2 (Kept.grown hg) (fun g h1 h2=>mx_apart hy2 h.row (by decide) h1 h2.symm)
theorem StMem.mono {n1:Nat} (h:StMem n0 w v K) (hn:n1≤n0):StMem n1 w v K:=⟨own_mono h.row hn,fun x hx=>own_mono (h.lit x hx) hn,fun x hx=>own_mono (h.hnt x hx) hn⟩
end
def bkStep (st:(Int→Int)×List StV) (x:StV):(Int→Int)×List StV:=if 0<x.1.lits.length∧st.1 x.1.id=0 then st else(needI st.1 x.1.hints,st.2++ [x])
theorem bk_fold: ∀(r:List StV) (f:Int→Int) (out:List StV),bkGo f (r.map Prod.fst) (out.map Prod.fst)=(r.foldl bkStep (f,out)).2.map Prod.fst
 | [],_,_=>rfl
 | x::r,f,out=>by
  rw[List.map_cons,List.foldl_cons]
  unfold bkGo bkStep
  simp only
  split
  ·exact bk_fold r f out
  ·have:=bk_fold r (needI f x.1.hints) (out++ [x])
   rw[List.map_append]at this
   exact this
theorem bk_sub: ∀(r:List StV) (st:(Int→Int)×List StV),∀y∈(r.foldl bkStep st).2,y∈st.2∨y∈r
 | [],_,y,h=>.inl h
 | x::r,st,y,h=>by
  rw[List.foldl_cons]at h
  rcases bk_sub r _ y h with h1|h1
  ·unfold bkStep at h1
   split at h1
   ·exact .inl h1
   ·rcases List.mem_append.1 h1 with h2|h2
    ·exact .inl h2
    ·exact .inr (by rw[List.mem_singleton.1 h2];exact List.mem_cons_self)
  ·exact .inr (List.mem_cons_of_mem _ h1)
theorem bk_len: ∀(r:List StV) (st:(Int→Int)×List StV),(r.foldl bkStep st).2.length≤st.2.length+r.length
 | [],_=>Nat.le_refl _
 | x::r,st=>by
  rw[List.foldl_cons,List.length_cons]
  have h1:=bk_len r (bkStep st x)
  have h2:(bkStep st x).2.length≤st.2.length+1:=by
   unfold bkStep
   split
   ·omega
   ·rw[List.length_append,List.length_singleton]
    exact Nat.le_refl _
  omega
end Go.Proofs.YtkfgplfllddhnaaGreat
namespace Go.Proofs.YtkfgplfllddhnaaGreat
open Go.RowKit
attribute [local go_sem] Oper.semAt_some
def litsV (x:StV):Value:=.slice x.2.1.1 x.1.lits.length x.2.1.2
def allOf (cs:List (List Int)) (K:List StV):List (List Int):=cs++K.map fun x=>x.1.lits
theorem allOf_len (cs:List (List Int)) (K:List StV):(allOf cs K).length=cs.length+K.length:=by
 unfold allOf
 rw[List.length_append,List.length_map]
structure ResAt (wc:World) (us:List Value) (cs:List (List Int)) (w:World) (av ov:Value) (K:List StV):Prop where
 row:w.ownsRow wc.heap.size 35 1 av (cs.length+K.length) (us++K.map litsV)
 st:StMem wc.heap.size w ov K
 low:Below wc.heap.size wc w
section
variable {wc w w':World} {us:List Value} {cs:List (List Int)} {av ov:Value} {K:List StV}
theorem ResAt.below (h:ResAt wc us cs w av ov K) (k:Below w.heap.size w w'):ResAt wc us cs w' av ov K:=⟨own_below h.row k,h.st.below k,h.low.trans (k.mono h.low.size)⟩
theorem ResAt.val (h:ResAt wc us cs w av ov K) (hus:us.length=cs.length) (hin: ∀(i:Nat) (c:List Int),cs[i]? =some c→∃u,us[i]? =some u∧IntsIn (fun _=>True) wc u c) {i:Nat} {c:List Int} (hi:(allOf cs K)[i]? =some c): ∃u,(us++K.map litsV)[i]? =some u∧IntsIn (fun _=>True) w u c:=by
 unfold allOf at hi
 rcases Nat.lt_or_ge i cs.length with hl|hl
 ·rw[List.getElem?_append_left hl]at hi
  obtain⟨u,h1,h2⟩:=hin i c hi
  exact⟨u,by rw[List.getElem?_append_left (by omega)];exact h1,h2.below h.low⟩
 ·rw[List.getElem?_append_right hl,List.getElem?_map]at hi
  cases hx:K[i-cs.length]? with
  | none=>rw[hx]at hi;cases hi
  | some x=>
   rw[hx]at hi
   obtain rfl:=Option.some.inj hi
   refine⟨litsV x,?_,(IntsIn.of_own (h.st.lit x (List.mem_of_getElem? hx))).mono fun _ _=>trivial⟩
   rw[List.getElem?_append_right (by omega),hus,List.getElem?_map,hx]
   rfl
theorem ResAt.cls (h:ResAt wc us cs w av ov K) (hus:us.length=cs.length) (hin: ∀(i:Nat) (c:List Int),cs[i]? =some c→∃u,us[i]? =some u∧IntsIn (fun _=>True) wc u c):ClsIn (fun _=>True) w av (allOf cs K):=by
 have hr:=h.row
 have hlen:=allOf_len cs K
 rcases hr.2 with⟨rfl,h0⟩|⟨g,cap,cur,rfl,hb,hg,hle,_⟩
 ·exact⟨none,0,by rw[hlen,h0],by rw[hlen,h0];exact Nat.le_refl _,fun _=>rfl,fun i c hi=>by
   have:=(List.getElem?_eq_some_iff.1 hi).1
   omega⟩
 ·refine⟨_,cap,by rw[hlen],by rw[hlen];exact hle,(fun h=>by cases h),fun i c hi=>?_⟩
  obtain⟨u,h1,h2⟩:=h.val hus hin hi
  exact⟨g,0,u,rfl,heap_lt hg,trivial,by rw[Nat.zero_add];exact mx_at hr h1,h2⟩
end
theorem ClsOwn.kept {n:Nat} {O:Nat→Prop} {w w':World} {v:Value} {cs:List (List Int)} (h:ClsOwn n w v cs) (k:Kept O w w') (hO: ∀g,n≤g→¬O g):ClsOwn n w' v cs:=by
 obtain⟨us,h1,h2⟩:=h
 refine⟨us,own_kept h1 k (fun g hg=>hO g (own_lt h1 g hg).1),fun i xs hi=>?_⟩
 obtain⟨u,hu,ho⟩:=h2 i xs hi
 exact⟨u,hu,own_kept ho k (fun g hg=>hO g (own_lt ho g hg).1)⟩
theorem res_made10 {fn:Func} (h:fn.results= #[.cell 2 26]) {w:World} {b:Nat} {c0 c1:Value} (hb:w.heap[b]? =some (.cells #[c0,c1] 26 (0,0))) (tmps:Array Value) (t1:tmps[2]?.getD undef= .pointer (some ⟨b,0,none⟩)):(results fn tmps).run Tryz.prog w= .ok (.agg #[c0,c1]) w:=by
 have p0:=mx_cell (j:=0) hb
 have p1:=mx_cell (j:=1) hb
 simp[results,h,go_sem,t1,p0,p1]
set_option maxRecDepth 100000 in
set_option maxHeartbeats 1000000 in
theorem made10_any (u:Value) (xss:List (List Int)) (w:World) (h:RowsAt .i8 w u xss) {cs:List (List Int)} (hcs:(xss.take 14).map madeL=cs) {n:Nat} (hn:cs.length=n):
  Calls Tryz.prog 9 #[u] w fun e w'=> ∃A k,e= .returned (.agg #[.int .i64 6,.slice A n k])∧ClsOwn w.heap.size w' (.slice A n k) cs∧Below w.heap.size w w':=by
 have HA:=Lib.hid (fun(W:World) (hb:Below w.heap.size w W)=>all_any u xss 14 W (h.below hb) (by decide))
 rw[hcs]at HA
 clear h
 go_enter Tryz.func9,Tryz.ntmps9
 go_wp2_with fail
 refine(HA.out _ (mx_al _ _)).mono ?_
 rintro e w1 ⟨v,rfl,hv,hb⟩
 rw[World.size_alloc]at hv hb
 have HV:=Lib.hid hv
 have b0:w1.heap[w.heap.size]? =some (.cells #[.int .i64 0,.slice none 0 0] 26 (0,0)):=(hb.block _ (by omega)).trans (World.alloc_heap_new _ _)
 have HB:=Lib.hid ((mx_al w (.cells #[.int .i64 0,.slice none 0 0] 26)).trans (hb.mono (Nat.le_succ _)))
 have hlt:=heap_lt b0
 obtain⟨us,ho,_⟩:=hv
 obtain⟨Al,cl,rfl,_⟩:=mx_slice ho
 rw[hn]at HV⊢
 clear ho hn
 have f0:=free_at (j:=0) b0
 have f1:=free_at (j:=1) b0
 have e0:=mx_cell (j:=0) b0
 have e1:=mx_cell (j:=1) b0
 have HB0:=Lib.hid b0
 clear hb b0
 go_wp2_with fail
 have hs:=mx_set (mx_set HB0.out (.int .i64 6) (j:=0)) (.slice Al n cl) (j:=1)
 have hk2:Kept (fun g=>g=w.heap.size) w1 ((w1.setCell ⟨w.heap.size,0,none⟩ (.int .i64 6)).setCell ⟨w.heap.size,1,none⟩ (.slice Al n cl)):=Kept.setCell (O:=fun g=>g=w.heap.size) (Kept.setCell (O:=fun g=>g=w.heap.size) (Kept.refl _ w1) _ _ rfl) _ _ rfl
 refine bodyPost_ret (res_made10 (b:=w.heap.size) rfl hs _ (by simp)) rfl ?_
 exact⟨_,_,rfl,(HV.out.kept hk2 (fun g hg e=>by omega)).mono (Nat.le_succ _),HB.out.trans (hk2.below (fun g e=>by omega) HB.out.size)⟩
def pickB (a b:List Int) (l:Int):Bool:=b.contains (-l)&& !clashL a&& !clashL b
theorem cells_of_blk {w:World} {g:Nat} {us:List Value} {t:TypeId} {z:Nat×Nat} (h:w.heap[g]? =some (.cells us.toArray t z)): ∀j u,us[j]? =some u→w.cell? ((⟨g,0,none⟩:Addr).add j)=some u:=fun j u hj=>by
 rw[show(⟨g,0,none⟩:Addr).add j=⟨g,j,none⟩from by
  unfold Addr.add
  split
  ·rename_i e;rw[e]
  ·simp]
 exact blk_cell h hj
end Go.Proofs.YtkfgplfllddhnaaGreat
