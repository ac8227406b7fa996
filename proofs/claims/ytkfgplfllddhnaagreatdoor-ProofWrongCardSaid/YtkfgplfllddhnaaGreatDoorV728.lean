/- The example of chapter 10: plain. Rows that a program writes out; the example of chapter 10: four. package proof: formulas that are not right are refused. package salvorlaw10: holds, clash, joined. package salvorlaw10: Resolved. -/
import Derived.Test.YtkfgplfllddhnaaGreatDoorV724
import Derived.Test.YtkfgplfllddhnaaGreatDoorV719
import Derived.Test.YtkfgplfllddhnaaGreatDoorV708
import Derived.Test.YtkfgplfllddhnaaGreatDoorV723
import Derived.Test.YtkfgplfllddhnaaGreatDoorV727
import Derived.Test.YtkfgplfllddhnaaGreatDoorV709
import Derived.Test.YtkfgplfllddhnaaGreatDoorV720
import Derived.Test.YtkfgplfllddhnaaGreatDoorV711
import Derived.Test.YtkfgplfllddhnaaGreatDoorShelg
import Derived.Shelf.SlIterI.Nil
import Derived.Shelf.SortM.Plain
import Derived.Shelf.SortM.SortNone
import Derived.Test.YtkfgplfllddhnaaGreatDoorV725
import Derived.Test.YtkfgplfllddhnaaGreatDoorV712
namespace Go.Proofs.YtkfgplfllddhnaaGreatDoor
open Go.RowKit
def fourC:List (List Int):= [[1,2],[-1,2],[1,-2],[-1,-2]]
def exA:EStep:=⟨false,5,[2],[1,2]⟩
def exB:EStep:=⟨false,6,[],[5,3,4]⟩
theorem four_ok:(∀c∈fourC,clauseB c=true)∧fchk 2 fourC=(-1,0):=by decide
theorem ex_full:(runRep (runGo (ckrNew fourC) [exA,exB] 0),(runGo (ckrNew fourC) [exA,exB] 0).2.1,runE (runGo (ckrNew fourC) [exA,exB] 0))=(.agg #[.bool true,.int .i64 2,.int .i64 0,.int .i64 0,.int .i64 6],2,0):=by kernel_rfl
theorem ex_want:ratWant (ckrNew fourC).ents 2= [3,4]:=by
 have h1:(ckrNew fourC).ents= [(1,[1,2]),(2,[-1,2]),(3,[1,-2]),(4,[-1,-2])]:=by kernel_rfl
 have h2:alwL [1,-2]=false:=alwL_no (by decide)
 have h3:alwL [-1,-2]=false:=alwL_no (by decide)
 rw[h1]
 have e1:candB 2 [1,2]=false:=by kernel_rfl
 have e2:candB 2 [-1,2]=false:=by kernel_rfl
 have e3:candB 2 [1,-2]=true:=by
  unfold candB
  rw[h2]
  kernel_rfl
 have e4:candB 2 [-1,-2]=true:=by
  unfold candB
  rw[h3]
  kernel_rfl
 simp[ratWant,e1,e2,e3,e4]
theorem ex_less:runGo (ckrNew fourC) [⟨false,5,[2],[1]⟩,exB] 0=(ckrNew fourC,0,92):=by
 have h1:ratGrp (ckrNew fourC).ents 2 []=(3,92):=by
  unfold ratGrp
  rw[ex_want]
  rfl
 have h2:ratP (ckrNew fourC).ents [2] [1] []=(0,3,92):=by
  have g1:alwL [2]=false:=by kernel_rfl
  have g2:(ratFol (ckrNew fourC).ents (asmL [2]) [1]).2=(false,0,0):=by kernel_rfl
  unfold ratP
  rw[if_neg (by rw[g1];decide),if_neg (by rw[g2];decide),if_neg (by rw[g2];decide)]
  show(if(ratGrp (ckrNew fourC).ents 2 []).2≠0 then _ else _)=_
  rw[h1]
  rfl
 have h3:ckAdd (ckrNew fourC).ents [2] [1]=(0,3,92):=by
  have g1:ckFol (ckrNew fourC).ents [2] [1]=(false,0,0):=by kernel_rfl
  unfold ckAdd
  rw[show splitL [1]=([1],[])from by kernel_rfl,g1,if_neg (by decide),if_neg (by decide)]
  exact h2
 have h4:(ckrNew fourC).do_ ⟨false,5,[2],[1]⟩=(ckrNew fourC,0,3,92):=by
  unfold Ckr.do_
  rw[if_neg (by decide),if_neg (by decide),if_neg (by decide),if_neg (by decide)]
  simp only[h3]
  rfl
 unfold runGo
 rw[if_neg (by decide),h4]
 rfl
theorem ex_early:runGo (ckrNew fourC) [⟨false,4,[2],[1,2]⟩,exB] 0=(ckrNew fourC,0,100):=by kernel_rfl
theorem ex_gone:(runRep (runGo (ckrNew fourC) [exA,⟨true,5,[],[3]⟩,exB] 0),(runGo (ckrNew fourC) [exA,⟨true,5,[],[3]⟩,exB] 0).2.1,runE (runGo (ckrNew fourC) [exA,⟨true,5,[],[3]⟩,exB] 0))=(.agg #[.bool false,.int .i64 0,.int .i64 0,.int .i64 0,.int .i64 0],2,91):=by kernel_rfl
theorem ex_zero:(runRep (runGo (ckrNew [[]]) [] 0),(runGo (ckrNew [[]]) [] 0).2.1,runE (runGo (ckrNew [[]]) [] 0))=(.agg #[.bool true,.int .i64 0,.int .i64 0,.int .i64 0,.int .i64 1],0,0):=by kernel_rfl
def exM:List EStep:= [⟨false,5,[1,2],[1]⟩,⟨false,6,[2],[1,2]⟩,⟨false,7,[],[6,3,4]⟩]
theorem ex_chk:chkP [1,2] [[1,2]]=([],1,0):=by
 have x1:sortL [1,2]= [1,2]:=List.mergeSort_of_pairwise (by decide)
 have x2:sortL [-1,-2]= [-1,-2]:=List.mergeSort_of_pairwise (by decide)
 have x3:asmL [1,2]= [-1,-2]:=by
  unfold asmL normL
  rw[x1]
  exact x2
 have x4:alwL [1,2]=false:=alwL_no (by decide)
 have x5:asgF [-1,-2]=some (putF (putF (fun _=>0) (-1)) (-2)):=by rfl
 unfold chkP
 rw[x4,x3,x5]
 rfl
def exK:Ckr:=⟨[(1,[1,2]),(2,[-1,2]),(3,[1,-2]),(4,[-1,-2]),(5,[1,2])],5,false,1,0,0,5⟩
theorem ex_do:(ckrNew fourC).do_ ⟨false,5,[1,2],[1]⟩=(exK,1,0,0):=by
 have g0:ckNamed (ckrNew fourC).ents [1]= [[1,2]]:=by kernel_rfl
 have g1:ckFol (ckrNew fourC).ents [1,2] [1]=(true,0,0):=by
  unfold ckFol
  rw[g0,ex_chk]
  rfl
 have g2:ckAdd (ckrNew fourC).ents [1,2] [1]=(1,0,0):=by
  unfold ckAdd
  rw[show splitL [1]=([1],[])from by kernel_rfl,g1]
  rfl
 unfold Ckr.do_
 rw[if_neg (by decide),if_neg (by decide),if_neg (by decide),if_neg (by decide)]
 simp only[g2]
 rfl
theorem ex_trm2:trmGo exK [⟨false,6,[2],[1,2]⟩,⟨false,7,[],[6,3,4]⟩] 1 [⟨false,5,[1,2],[1]⟩]=([⟨false,5,[1,2],[1]⟩,⟨false,6,[2],[1,2]⟩,⟨false,7,[],[6,3,4]⟩],3,true):=by kernel_rfl
theorem ex_run2:runE (runGo exK [⟨false,6,[2],[1,2]⟩,⟨false,7,[],[6,3,4]⟩] 1)=0:=by kernel_rfl
theorem ex_trm:trmGo (ckrNew fourC) exM 0 []=(exM,3,true):=by
 have g0:ckNamed (ckrNew fourC).ents [1]= [[1,2]]:=by kernel_rfl
 have g1:trimS (ckrNew fourC) ⟨false,5,[1,2],[1]⟩=⟨false,5,[1,2],[1]⟩:=by
  unfold trimS trimP
  simp only[show splitL [1]=([1],[])from by kernel_rfl,g0,ex_chk]
  rfl
 unfold exM trmGo
 rw[if_neg (by decide),ex_do,if_neg (by decide)]
 simp only[if_true,g1]
 show trmGo exK [⟨false,6,[2],[1,2]⟩,⟨false,7,[],[6,3,4]⟩] 1 [⟨false,5,[1,2],[1]⟩]=_
 exact ex_trm2
theorem ex_run:runE (runGo (ckrNew fourC) exM 0)=0:=by
 unfold exM runGo
 rw[if_neg (by decide),ex_do]
 exact ex_run2
theorem ex_bk:bkL exM= [⟨false,6,[2],[1,2]⟩,⟨false,7,[],[6,3,4]⟩]:=by kernel_rfl
end Go.Proofs.YtkfgplfllddhnaaGreatDoor
namespace Go.Proofs.YtkfgplfllddhnaaGreatDoor
open Go.RowKit
theorem al_new (W:World) (cs:Array Value) (t:TypeId): ∃W',W.alloc (.cells cs t)=W'∧Below W.heap.size W W'∧W'.heap[W.heap.size]? =some (.cells cs t (0,0))∧W'.heap.size=W.heap.size+1:=
 ⟨_,rfl,mx_al _ _,World.alloc_heap_new _ _,by simp⟩
theorem blk_cell {w:World} {g j:Nat} {us:List Value} {t:TypeId} {z:Nat×Nat} {u:Value} (h:w.heap[g]? =some (.cells us.toArray t z)) (hu:us[j]? =some u):w.cell? ⟨g,j,none⟩=some u:=by
 simp[World.cell?,h,hu]
theorem ints_blk {O:Nat→Prop} {w:World} {g:Nat} {xs:List Int} {t:TypeId} {z:Nat×Nat} (h:w.heap[g]? =some (.cells (xs.map (Value.int .i64)).toArray t z)) (hO:O g):IntsIn O w (.slice (some ⟨g,0,none⟩) xs.length xs.length) xs:=
 ⟨_,_,rfl,Nat.le_refl _,(fun h=>by cases h),fun i x hi=>⟨g,0,rfl,heap_lt h,hO,by
  rw[Nat.zero_add]
  exact blk_cell h (by rw[List.getElem?_map,hi];rfl)⟩⟩
theorem cls_blk {O:Nat→Prop} {w:World} {g:Nat} {us:List Value} {cs:List (List Int)} {t:TypeId} {z:Nat×Nat} (h:w.heap[g]? =some (.cells us.toArray t z)) (hO:O g) (hx: ∀(i:Nat) (c:List Int),cs[i]? =some c→∃u,us[i]? =some u∧IntsIn O w u c):ClsIn O w (.slice (some ⟨g,0,none⟩) cs.length cs.length) cs:=
 ⟨_,_,rfl,Nat.le_refl _,(fun h=>by cases h),fun i c hi=>by
  obtain⟨u,h1,h2⟩:=hx i c hi
  exact⟨g,0,u,rfl,heap_lt h,hO,by rw[Nat.zero_add];exact blk_cell h h1,h2⟩⟩
def rcell (x:EStep×Value×Value):List Value:= [.bool x.1.del,.int .i64 x.1.id,x.2.1,x.2.2]
theorem rcell_at: ∀(K:List (EStep×Value×Value)) (i:Nat) (x:EStep×Value×Value),K[i]? =some x→(K.flatMap rcell)[i*4]? =some (.bool x.1.del)∧(K.flatMap rcell)[i*4+1]? =some (.int .i64 x.1.id)∧(K.flatMap rcell)[i*4+2]? =some x.2.1∧(K.flatMap rcell)[i*4+3]? =some x.2.2
 | [],i,x,h=>by simp at h
 | y::K,0,x,h=>by
  obtain rfl:y=x:=by simpa using h
  exact⟨rfl,rfl,rfl,rfl⟩
 | y::K,i+1,x,h=>by
  have:=rcell_at K i x (by simpa using h)
  rw[show(i+1)*4=i*4+4 by omega]
  exact this
theorem step_blk {O:Nat→Prop} {w:World} {g:Nat} {K:List (EStep×Value×Value)} {t:TypeId} {z:Nat×Nat} (h:w.heap[g]? =some (.cells (K.flatMap rcell).toArray t z)) (hO:O g) (hx: ∀x∈K,IntsIn O w x.2.1 x.1.lits∧IntsIn O w x.2.2 x.1.hints):StepIn O w (.slice (some ⟨g,0,none⟩) K.length K.length) (K.map Prod.fst):=
 ⟨_,_,by rw[List.length_map],by rw[List.length_map];exact Nat.le_refl _,(fun h=>by cases h),fun i s hi=>by
  rw[List.getElem?_map]at hi
  cases hk:K[i]? with
  | none=>rw[hk]at hi;cases hi
  | some x=>
   rw[hk]at hi
   obtain rfl:=Option.some.inj hi
   obtain⟨e0,e1,e2,e3⟩:=rcell_at K i x hk
   obtain⟨h1,h2⟩:=hx x (List.mem_of_getElem? hk)
   exact⟨g,0,x.2.1,x.2.2,rfl,heap_lt h,hO,by rw[Nat.zero_add];exact blk_cell h e0,by rw[Nat.zero_add];exact blk_cell h e1,by rw[Nat.zero_add];exact blk_cell h e2,by rw[Nat.zero_add];exact blk_cell h e3,h1,h2⟩⟩
theorem res_cell01 {fn:Func} (h:fn.results= #[.cell 0 26,.tmp 1]) {w:World} {r:Nat} {c0 c1:Value} {t:TypeId} (hb:w.heap[r]? =some (.cells #[c0,c1] t (0,0))) (tmps:Array Value) (t0:tmps[0]?.getD undef= .pointer (some ⟨r,0,none⟩)):
  (results fn tmps).run Tryz.prog w= .ok (.tuple #[.agg #[c0,c1],tmps[1]?.getD undef]) w:=by
 have p0:w.cell? ⟨r,0,none⟩=some c0:=mx_cell (j:=0) hb
 have p1:w.cell? ⟨r,1,none⟩=some c1:=mx_cell (j:=1) hb
 simp[results,h,go_sem,t0,p0,p1]
set_option maxRecDepth 100000 in
set_option maxHeartbeats 4000000 in
theorem four_any (w:World):Calls Tryz.prog 15 #[] w fun e w'=> ∃gl gs,e= .returned (.tuple #[.agg #[.int .i64 2,.slice (some ⟨gl,0,none⟩) 4 4],.slice (some ⟨gs,0,none⟩) 2 2])∧ClsIn (fun _=>True) w' (.slice (some ⟨gl,0,none⟩) 4 4) fourC∧StepIn (fun _=>True) w' (.slice (some ⟨gs,0,none⟩) 2 2) [exA,exB]∧Below w.heap.size w w':=by
 obtain⟨W1,hW1,hb1,hc1,hz1⟩:=al_new w #[.int .i64 2,.slice (some ⟨w.heap.size+1+1+1+1+1,0,none⟩) 4 4] 26
 have B1:Below w.heap.size w W1:=hb1
 obtain⟨W2,hW2,hb2,hc2,hz2⟩:=al_new W1 #[.int .i64 1,.int .i64 2] 31
 rw[hz1]at hc2 hz2
 have B2:Below (w.heap.size+1) W1 W2:=by rw[←hz1];exact hb2
 obtain⟨W3,hW3,hb3,hc3,hz3⟩:=al_new W2 #[.int .i64 (-1),.int .i64 2] 31
 rw[hz2]at hc3 hz3
 have B3:Below (w.heap.size+1+1) W2 W3:=by rw[←hz2];exact hb3
 obtain⟨W4,hW4,hb4,hc4,hz4⟩:=al_new W3 #[.int .i64 1,.int .i64 (-2)] 31
 rw[hz3]at hc4 hz4
 have B4:Below (w.heap.size+1+1+1) W3 W4:=by rw[←hz3];exact hb4
 obtain⟨W5,hW5,hb5,hc5,hz5⟩:=al_new W4 #[.int .i64 (-1),.int .i64 (-2)] 31
 rw[hz4]at hc5 hz5
 have B5:Below (w.heap.size+1+1+1+1) W4 W5:=by rw[←hz4];exact hb5
 obtain⟨W6,hW6,hb6,hc6,hz6⟩:=al_new W5 #[.slice (some ⟨w.heap.size+1,0,none⟩) 2 2,.slice (some ⟨w.heap.size+1+1,0,none⟩) 2 2,.slice (some ⟨w.heap.size+1+1+1,0,none⟩) 2 2,.slice (some ⟨w.heap.size+1+1+1+1,0,none⟩) 2 2] 30
 rw[hz5]at hc6 hz6
 have B6:Below (w.heap.size+1+1+1+1+1) W5 W6:=by rw[←hz5];exact hb6
 obtain⟨W7,hW7,hb7,hc7,hz7⟩:=al_new W6 #[.int .i64 2] 31
 rw[hz6]at hc7 hz7
 have B7:Below (w.heap.size+1+1+1+1+1+1) W6 W7:=by rw[←hz6];exact hb7
 obtain⟨W8,hW8,hb8,hc8,hz8⟩:=al_new W7 #[.int .i64 1,.int .i64 2] 3
 rw[hz7]at hc8 hz8
 have B8:Below (w.heap.size+1+1+1+1+1+1+1) W7 W8:=by rw[←hz7];exact hb8
 obtain⟨W9,hW9,hb9,hc9,hz9⟩:=al_new W8 #[.int .i64 5,.int .i64 3,.int .i64 4] 3
 rw[hz8]at hc9 hz9
 have B9:Below (w.heap.size+1+1+1+1+1+1+1+1) W8 W9:=by rw[←hz8];exact hb9
 obtain⟨W10,hW10,hb10,hc10,hz10⟩:=al_new W9 #[.bool false,.int .i64 5,.slice (some ⟨w.heap.size+1+1+1+1+1+1,0,none⟩) 1 1,.slice (some ⟨w.heap.size+1+1+1+1+1+1+1,0,none⟩) 2 2,.bool false,.int .i64 6,.slice none 0 0,.slice (some ⟨w.heap.size+1+1+1+1+1+1+1+1,0,none⟩) 3 3] 50
 rw[hz9]at hc10 hz10
 have B10:Below (w.heap.size+1+1+1+1+1+1+1+1+1) W9 W10:=by rw[←hz9];exact hb10
 clear hb1 hb2 hb3 hb4 hb5 hb6 hb7 hb8 hb9 hb10
 have T9:=B10
 have T8:=B9.trans (T9.mono (by omega))
 have T7:=B8.trans (T8.mono (by omega))
 have T6:=B7.trans (T7.mono (by omega))
 have T5:=B6.trans (T6.mono (by omega))
 have T4:=B5.trans (T5.mono (by omega))
 have T3:=B4.trans (T4.mono (by omega))
 have T2:=B3.trans (T3.mono (by omega))
 have T1:=B2.trans (T2.mono (by omega))
 have T0:=B1.trans (T1.mono (by omega))
 have D1:=((T1.block _ (by omega)).trans hc1)
 have D2:=((T2.block _ (by omega)).trans hc2)
 have D3:=((T3.block _ (by omega)).trans hc3)
 have D4:=((T4.block _ (by omega)).trans hc4)
 have D5:=((T5.block _ (by omega)).trans hc5)
 have D6:=((T6.block _ (by omega)).trans hc6)
 have D7:=((T7.block _ (by omega)).trans hc7)
 have D8:=((T8.block _ (by omega)).trans hc8)
 have D9:=((T9.block _ (by omega)).trans hc9)
 have D10:=hc10
 have HCL:=Lib.hid (show ClsIn (fun _=>True) W10 (.slice (some ⟨w.heap.size+1+1+1+1+1,0,none⟩) 4 4) fourC from cls_blk (us:= [.slice (some ⟨w.heap.size+1,0,none⟩) 2 2,.slice (some ⟨w.heap.size+1+1,0,none⟩) 2 2,.slice (some ⟨w.heap.size+1+1+1,0,none⟩) 2 2,.slice (some ⟨w.heap.size+1+1+1+1,0,none⟩) 2 2]) (cs:=fourC) D6 trivial (fun i c hi=>by
  match i,hi with
  | 0,hi=>cases hi;exact⟨_,rfl,ints_blk (xs:= [1,2]) D2 trivial⟩
  | 1,hi=>cases hi;exact⟨_,rfl,ints_blk (xs:= [-1,2]) D3 trivial⟩
  | 2,hi=>cases hi;exact⟨_,rfl,ints_blk (xs:= [1,-2]) D4 trivial⟩
  | 3,hi=>cases hi;exact⟨_,rfl,ints_blk (xs:= [-1,-2]) D5 trivial⟩
  | n+4,hi=>exact absurd hi (by simp[fourC])))
 have HST:=Lib.hid (show StepIn (fun _=>True) W10 (.slice (some ⟨w.heap.size+1+1+1+1+1+1+1+1+1,0,none⟩) 2 2) [exA,exB]from step_blk (K:= [(exA,.slice (some ⟨w.heap.size+1+1+1+1+1+1,0,none⟩) 1 1,.slice (some ⟨w.heap.size+1+1+1+1+1+1+1,0,none⟩) 2 2),(exB,.slice none 0 0,.slice (some ⟨w.heap.size+1+1+1+1+1+1+1+1,0,none⟩) 3 3)]) D10 trivial (fun x hx=>by
  rcases List.mem_cons.1 hx with rfl|hx
  ·exact⟨ints_blk (xs:= [2]) D7 trivial,ints_blk (xs:= [1,2]) D8 trivial⟩
  ·obtain rfl:=List.mem_singleton.1 hx
   exact⟨IntsIn.nil _ _,ints_blk (xs:= [5,3,4]) D9 trivial⟩))
 have HD1:=Lib.hid D1
 have HB:=Lib.hid T0
 have HW1:=Lib.hid hW1
 have HW2:=Lib.hid hW2
 have HW3:=Lib.hid hW3
 have HW4:=Lib.hid hW4
 have HW5:=Lib.hid hW5
 have HW6:=Lib.hid hW6
 have HW7:=Lib.hid hW7
 have HW8:=Lib.hid hW8
 have HW9:=Lib.hid hW9
 have HW10:=Lib.hid hW10
 clear hW1 hc1 hz1 B1 hW2 hc2 hz2 B2 hW3 hc3 hz3 B3 hW4 hc4 hz4 B4 hW5 hc5 hz5 B5 hW6 hc6 hz6 B6 hW7 hc7 hz7 B7 hW8 hc8 hz8 B8 hW9 hc9 hz9 B9 hW10 hc10 hz10 B10 T0 T1 T2 T3 T4 T5 T6 T7 T8 T9 D1 D2 D3 D4 D5 D6 D7 D8 D9 D10
 go_enter Tryz.func15,Tryz.ntmps15
 go_wp2_with fail
 rw[HW1.out,HW2.out,HW3.out,HW4.out,HW5.out,HW6.out,HW7.out,HW8.out,HW9.out,HW10.out]
 have e0:=mx_cell (j:=0) HD1.out
 have e1:=mx_cell (j:=1) HD1.out
 refine bodyPost_ret (res_cell01 rfl HD1.out _ rfl) rfl ?_
 exact⟨_,_,rfl,HCL.out,HST.out,HB.out⟩
end Go.Proofs.YtkfgplfllddhnaaGreatDoor
namespace Go.Proofs.YtkfgplfllddhnaaGreatDoor
open Go.RowKit
section
variable {O:Nat→Prop} {n:Int} {lv:Value} {cs:List (List Int)} {E:Nat}
set_option maxHeartbeats 1000000 in
theorem new_bad (w:World) (h:ClsIn O w lv cs) (hc: ∀c∈cs,c.length≤100000000000) (hf:(fchk n cs).2=E) (hE:E≠0):
  Calls Tryz.prog 7 #[.agg #[.int .i64 n,lv]] w fun e w'=>e= .returned (.tuple #[.pointer none,.int .i64 (E:Nat)])∧Below w.heap.size w w':=by
 obtain⟨W,hW,hb,hbn,-⟩:=al_new w #[.int .i64 n,lv] 26
 have b0:W.cell? ⟨w.heap.size,0,none⟩=some (.int .i64 n):=mx_cell (j:=0) hbn
 have b1:W.cell? ⟨w.heap.size,1,none⟩=some lv:=mx_cell (j:=1) hbn
 have HCH:=form_check n lv cs W (h.below hb) hc
 obtain⟨fi,hfi⟩: ∃fi,(fchk n cs).1=fi:=⟨_,rfl⟩
 rw[hf,hfi]at HCH
 have HCH:=Lib.hid HCH
 have HW:=Lib.hid hW
 have HB:=Lib.hid hb
 have q0:((E:Int)==0)=false:=beq_eq_false_iff_ne.2 (by omega)
 have q1:((E:Int) != 0)=true:=by rw[bne,q0];rfl
 obtain⟨A,c,rfl,hcc,_⟩:=h
 clear hb hf hbn hc hfi hW
 go_enter Tryz.func7,Tryz.ntmps7
 go_upto_region 1 with fail
 rw[HW.out]
 go_wp2_with fail
 refine HCH.out.mono ?_
 rintro e w1 ⟨rfl,hb1⟩
 have HB1:=Lib.hid (HB.out.trans (hb1.mono HB.out.size))
 clear hb1 HCH
 go_wp2_with fail
 refine bodyPost_ret (v:=.tuple #[.pointer none,.int .i64 (E:Nat)]) (by simp[results,Tryz.results7,go_sem]) rfl ?_
 exact⟨rfl,HB1.out⟩
set_option maxHeartbeats 1000000 in
theorem check_bad (sv:Value) (w:World) (h:ClsIn O w lv cs) (hc: ∀c∈cs,c.length≤100000000000) (hf:(fchk n cs).2=E) (hE:E≠0):
  Calls Tryz.prog 8 #[.agg #[.int .i64 n,lv],sv] w fun e w'=>e= .returned (.tuple #[repZ,.int .i64 0,.int .i64 (E:Nat)])∧Below w.heap.size w w':=by
 obtain⟨W0,hW0,hb0,hbf,hz0⟩:=al_new w #[.int .i64 n,lv] 26
 obtain⟨W1,hW1,hb1,hbr,hz1⟩:=al_new W0 #[.bool false,.int .i64 0,.int .i64 0,.int .i64 0,.int .i64 0] 39
 rw[hz0]at hbr
 have hbf1:=(hb1.block _ (heap_lt hbf)).trans hbf
 have b0:W1.cell? ⟨w.heap.size,0,none⟩=some (.int .i64 n):=mx_cell (j:=0) hbf1
 have b1:W1.cell? ⟨w.heap.size,1,none⟩=some lv:=mx_cell (j:=1) hbf1
 have hbw:Below w.heap.size w W1:=hb0.trans (hb1.mono (by omega))
 have HNEW:=Lib.hid (new_bad (n:=n) W1 (h.below hbw) hc hf hE)
 have HBR:=Lib.hid hbr
 have HBW:=Lib.hid hbw
 obtain⟨A,c,rfl,hcc,_⟩:=h
 have HW0:=Lib.hid hW0
 have HW1:=Lib.hid hW1
 have q0:((E:Int)==0)=false:=beq_eq_false_iff_ne.2 (by omega)
 have q1:((E:Int) != 0)=true:=by rw[bne,q0];rfl
 clear hb0 hb1 hbf hbf1 hbr hbw hf hW0 hW1 hc hz1
 go_enter Tryz.func8,Tryz.ntmps8
 go_upto_region 1 with fail
 try rw[HW0.out]
 try rw[HW1.out]
 go_wp2_with fail
 refine wp_scope_straight ?_
 go_wp2_with fail
 refine HNEW.out.mono ?_
 rintro e w2 ⟨rfl,hb2⟩
 have hbx:=(hb2.block _ (heap_lt HBR.out)).trans HBR.out
 have hlow:=HBW.out.trans (hb2.mono HBW.out.size)
 have r0:=mx_cell (j:=0) hbx
 have r1:=mx_cell (j:=1) hbx
 have r2:=mx_cell (j:=2) hbx
 have r3:=mx_cell (j:=3) hbx
 have r4:=mx_cell (j:=4) hbx
 have f0:=free_at (j:=0) hbx
 have f1:=free_at (j:=1) hbx
 have f2:=free_at (j:=2) hbx
 have f3:=free_at (j:=3) hbx
 have f4:=free_at (j:=4) hbx
 obtain⟨wy,hwy,hby,hky⟩:=five_setR hbx (.bool false) (.int .i64 0) (.int .i64 0) (.int .i64 0) (.int .i64 0)
 have HBY:=Lib.hid hby
 have HFIN:=Lib.hid (hlow.trans (hky.below (fun i e=>by rw[e];exact Nat.le_succ _) hlow.size))
 clear hbx hlow hky hby hb2 HNEW b0 b1
 go_wp2_with fail
 try rw[hwy]
 try rw[Exit.noGoto_ret]
 refine bodyPost_ret (res_chk456 rfl HBY.out _ rfl) rfl ?_
 exact⟨rfl,HFIN.out⟩
set_option maxHeartbeats 2000000 in
theorem trim_bad (sv:Value) (w:World) (h:ClsIn O w lv cs) (hc: ∀c∈cs,c.length≤100000000000) (hf:(fchk n cs).2=E) (hE:E≠0):
  Calls Tryz.prog 10 #[.agg #[.int .i64 n,lv],sv] w fun e w'=>e= .returned (.tuple #[.slice none 0 0,.int .i64 0,.int .i64 (E:Nat)])∧Below w.heap.size w w':=by
 obtain⟨W0,hW0,hb0,hbf,hz0⟩:=al_new w #[.int .i64 n,lv] 26
 have b0:W0.cell? ⟨w.heap.size,0,none⟩=some (.int .i64 n):=mx_cell (j:=0) hbf
 have b1:W0.cell? ⟨w.heap.size,1,none⟩=some lv:=mx_cell (j:=1) hbf
 have HCH:=Lib.hid (check_bad (n:=n) sv W0 (h.below hb0) hc hf hE)
 obtain⟨A,c,rfl,hcc,_⟩:=h
 have HW0:=Lib.hid hW0
 have HB0:=Lib.hid hb0
 have q0:((E:Int)==0)=false:=beq_eq_false_iff_ne.2 (by omega)
 have q1:((E:Int) != 0)=true:=by rw[bne,q0];rfl
 clear hb0 hbf hf hW0 hc hz0
 refine(callsIn_wide (n:=10)).1 ?_
 refine callsIn_of_wp_marks Tryz.func10 rfl trivial ?_ rfl
 simp only[Tryz.ntmps10,List.size_toArray,List.length_cons,List.length_nil,Nat.reduceAdd,Nat.reduceSub,Array.replicate_succ,Array.replicate_zero,List.push_toArray,List.append_toArray,List.nil_append,List.cons_append]
 gi_wp2_with fail
 try rw[HW0.out]
 refine⟨trivial,?_⟩
 refine(callsIn_wide.2 HCH.out).mono ?_
 rintro e w1 ⟨rfl,hb1⟩
 obtain⟨W1,hW1,hb1',hbx1,-⟩:=al_new w1 #[.bool false,.int .i64 0,.int .i64 0,.int .i64 0,.int .i64 0] 39
 have HFIN:=Lib.hid (HB0.out.trans ((hb1.trans (hb1'.mono hb1.size)).mono HB0.out.size))
 have HW1:=Lib.hid hW1
 clear hb1 hb1' hbx1 hW1 HCH b0 b1
 unfold repZ
 gi_wp2_with fail
 try rw[HW1.out]
 exact⟨_,res_456 rfl _ _,rfl,HFIN.out⟩
end
end Go.Proofs.YtkfgplfllddhnaaGreatDoor
namespace Go.Proofs.YtkfgplfllddhnaaGreatDoor
open Go.RowKit Go.Maps Go.Sort Go.Shelf
def holdsL (cs:List (List Int)):Bool:=(List.range 64).any fun j=>allT (2*j) cs
end Go.Proofs.YtkfgplfllddhnaaGreatDoor
namespace Go.Proofs.YtkfgplfllddhnaaGreatDoor
open Go.RowKit
attribute [local go_sem] Oper.semAt_some
def litsV (x:StV):Value:=.slice x.2.1.1 x.1.lits.length x.2.1.2
def allOf (cs:List (List Int)) (K:List StV):List (List Int):=cs++K.map fun x=>x.1.lits
theorem allOf_len (cs:List (List Int)) (K:List StV):(allOf cs K).length=cs.length+K.length:=by
 unfold allOf
 rw[List.length_append,List.length_map]
structure ResAt (wc:World) (us:List Value) (cs:List (List Int)) (w:World) (av ov:Value) (K:List StV):Prop where
 row:w.ownsRow wc.heap.size 30 1 av (cs.length+K.length) (us++K.map litsV)
 st:StMem wc.heap.size w ov K
 low:Below wc.heap.size wc w
section
variable {wc w w':World} {us:List Value} {cs:List (List Int)} {av ov:Value} {K:List StV}
theorem ResAt.below (h:ResAt wc us cs w av ov K) (k:Below w.heap.size w w'):ResAt wc us cs w' av ov K:=⟨own_below h.row k,h.st.below k,h.low.trans (k.mono h.low.size)⟩
theorem ResAt.val (h:ResAt wc us cs w av ov K) (hus:us.length=cs.length) (hin: ∀(i:Nat) (c:List Int),cs[i]? =some c→∃u,us[i]? =some u∧IntsIn (fun _=>True) wc u c) {i:Nat} {c:List Int} (hi:(allOf cs K)[i]? =some c): ∃u,(us++K.map litsV)[i]? =some u∧IntsIn (fun _=>True) w u c:=by
 unfold allOf at hi
 rcases Nat.lt_or_ge i cs.length with hl|hl
 ·rw[List.getElem?_append_left hl]at hi
  obtain⟨u,h1,h2⟩:=hin i c hi
  exact⟨u,by rw[List.getElem?_append_left (by omega)];exact h1,h2.below h.low⟩
 ·rw[List.getElem?_append_right hl,List.getElem?_map]at hi
  cases hx:K[i-cs.length]? with
  | none=>rw[hx]at hi;cases hi
  | some x=>
   rw[hx]at hi
   obtain rfl:=Option.some.inj hi
   refine⟨litsV x,?_,(IntsIn.of_own (h.st.lit x (List.mem_of_getElem? hx))).mono fun _ _=>trivial⟩
   rw[List.getElem?_append_right (by omega),hus,List.getElem?_map,hx]
   rfl
theorem ResAt.cls (h:ResAt wc us cs w av ov K) (hus:us.length=cs.length) (hin: ∀(i:Nat) (c:List Int),cs[i]? =some c→∃u,us[i]? =some u∧IntsIn (fun _=>True) wc u c):ClsIn (fun _=>True) w av (allOf cs K):=by
 have hr:=h.row
 have hlen:=allOf_len cs K
 rcases hr.2 with⟨rfl,h0⟩|⟨g,cap,cur,rfl,hb,hg,hle,_⟩
 ·exact⟨none,0,by rw[hlen,h0],by rw[hlen,h0];exact Nat.le_refl _,fun _=>rfl,fun i c hi=>by
   have:=(List.getElem?_eq_some_iff.1 hi).1
   omega⟩
 ·refine⟨_,cap,by rw[hlen],by rw[hlen];exact hle,(fun h=>by cases h),fun i c hi=>?_⟩
  obtain⟨u,h1,h2⟩:=h.val hus hin hi
  exact⟨g,0,u,rfl,heap_lt hg,trivial,by rw[Nat.zero_add];exact mx_at hr h1,h2⟩
end
theorem ClsOwn.kept {n:Nat} {O:Nat→Prop} {w w':World} {v:Value} {cs:List (List Int)} (h:ClsOwn n w v cs) (k:Kept O w w') (hO: ∀g,n≤g→¬O g):ClsOwn n w' v cs:=by
 obtain⟨us,h1,h2⟩:=h
 refine⟨us,own_kept h1 k (fun g hg=>hO g (own_lt h1 g hg).1),fun i xs hi=>?_⟩
 obtain⟨u,hu,ho⟩:=h2 i xs hi
 exact⟨u,hu,own_kept ho k (fun g hg=>hO g (own_lt ho g hg).1)⟩
theorem res_made10 {fn:Func} (h:fn.results= #[.cell 2 26]) {w:World} {b:Nat} {c0 c1:Value} (hb:w.heap[b]? =some (.cells #[c0,c1] 26 (0,0))) (tmps:Array Value) (t1:tmps[2]?.getD undef= .pointer (some ⟨b,0,none⟩)):(results fn tmps).run Tryz.prog w= .ok (.agg #[c0,c1]) w:=by
 have p0:=mx_cell (j:=0) hb
 have p1:=mx_cell (j:=1) hb
 simp[results,h,go_sem,t1,p0,p1]
set_option maxRecDepth 100000 in
set_option maxHeartbeats 1000000 in
theorem made10_any (u:Value) (xss:List (List Int)) (w:World) (h:RowsAt .i8 w u xss) {cs:List (List Int)} (hcs:(xss.take 14).map madeL=cs) {n:Nat} (hn:cs.length=n):
  Calls Tryz.prog 5 #[u] w fun e w'=> ∃A k,e= .returned (.agg #[.int .i64 6,.slice A n k])∧ClsOwn w.heap.size w' (.slice A n k) cs∧Below w.heap.size w w':=by
 have HA:=Lib.hid (fun(W:World) (hb:Below w.heap.size w W)=>all_any u xss 14 W (h.below hb) (by decide))
 rw[hcs]at HA
 clear h
 go_enter Tryz.func5,Tryz.ntmps5
 go_wp2_with fail
 refine(HA.out _ (mx_al _ _)).mono ?_
 rintro e w1 ⟨v,rfl,hv,hb⟩
 rw[World.size_alloc]at hv hb
 have HV:=Lib.hid hv
 have b0:w1.heap[w.heap.size]? =some (.cells #[.int .i64 0,.slice none 0 0] 26 (0,0)):=(hb.block _ (by omega)).trans (World.alloc_heap_new _ _)
 have HB:=Lib.hid ((mx_al w (.cells #[.int .i64 0,.slice none 0 0] 26)).trans (hb.mono (Nat.le_succ _)))
 have hlt:=heap_lt b0
 obtain⟨us,ho,_⟩:=hv
 obtain⟨Al,cl,rfl,_⟩:=mx_slice ho
 rw[hn]at HV⊢
 clear ho hn
 have f0:=free_at (j:=0) b0
 have f1:=free_at (j:=1) b0
 have e0:=mx_cell (j:=0) b0
 have e1:=mx_cell (j:=1) b0
 have HB0:=Lib.hid b0
 clear hb b0
 go_wp2_with fail
 have hs:=mx_set (mx_set HB0.out (.int .i64 6) (j:=0)) (.slice Al n cl) (j:=1)
 have hk2:Kept (fun g=>g=w.heap.size) w1 ((w1.setCell ⟨w.heap.size,0,none⟩ (.int .i64 6)).setCell ⟨w.heap.size,1,none⟩ (.slice Al n cl)):=Kept.setCell (O:=fun g=>g=w.heap.size) (Kept.setCell (O:=fun g=>g=w.heap.size) (Kept.refl _ w1) _ _ rfl) _ _ rfl
 refine bodyPost_ret (res_made10 (b:=w.heap.size) rfl hs _ (by simp)) rfl ?_
 exact⟨_,_,rfl,(HV.out.kept hk2 (fun g hg e=>by omega)).mono (Nat.le_succ _),HB.out.trans (hk2.below (fun g e=>by omega) HB.out.size)⟩
theorem u8_rng10 {x:Int} (h:(Lit.int .u8 x).wf=true):0≤x∧x≤255:=by
 simp only[Lit.wf,Bool.and_eq_true,decide_eq_true_eq]at h
 exact⟨h.1,h.2⟩
def pickB (a b:List Int) (l:Int):Bool:=b.contains (-l)&& !clashL a&& !clashL b
theorem cells_of_blk {w:World} {g:Nat} {us:List Value} {t:TypeId} {z:Nat×Nat} (h:w.heap[g]? =some (.cells us.toArray t z)): ∀j u,us[j]? =some u→w.cell? ((⟨g,0,none⟩:Addr).add j)=some u:=fun j u hj=>by
 rw[show(⟨g,0,none⟩:Addr).add j=⟨g,j,none⟩from by
  unfold Addr.add
  split
  ·rename_i e;rw[e]
  ·simp]
 exact blk_cell h hj
end Go.Proofs.YtkfgplfllddhnaaGreatDoor
