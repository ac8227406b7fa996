/- The example of chapter 10: plain. Rows that a program writes out; the example of chapter 10: four. package proof: formulas that are not right are refused. proof.Check, proof.Trim at any formula and any proof; what both they and the reference answer. salvorlaw05.Equal at any equal formulas. -/
import Derived.Test.YtajbmjpodeilpaaGreatV125
import Derived.Test.YtajbmjpodeilpaaGreatV117
import Derived.Test.YtajbmjpodeilpaaGreatV105
import Derived.Test.YtajbmjpodeilpaaGreatV120
import Derived.Test.YtajbmjpodeilpaaGreatV127
import Derived.Test.YtajbmjpodeilpaaGreatV129
import Derived.Test.YtajbmjpodeilpaaGreatV123
namespace Go.Proofs.YtajbmjpodeilpaaGreat
open Go.RowKit
def fourC:List (List Int):= [[1,2],[-1,2],[1,-2],[-1,-2]]
def exA:EStep:=⟨false,5,[2],[1,2]⟩
def exB:EStep:=⟨false,6,[],[5,3,4]⟩
theorem four_ok:(∀c∈fourC,clauseB c=true)∧fchk 2 fourC=(-1,0):=by decide
theorem ex_full:(runRep (runGo (ckrNew fourC) [exA,exB] 0),(runGo (ckrNew fourC) [exA,exB] 0).2.1,runE (runGo (ckrNew fourC) [exA,exB] 0))=(.agg #[.bool true,.int .i64 2,.int .i64 0,.int .i64 0,.int .i64 6],2,0):=by kernel_rfl
theorem ex_want:ratWant (ckrNew fourC).ents 2= [3,4]:=by
 have h1:(ckrNew fourC).ents= [(1,[1,2]),(2,[-1,2]),(3,[1,-2]),(4,[-1,-2])]:=by kernel_rfl
 have h2:alwL [1,-2]=false:=alwL_no (by decide)
 have h3:alwL [-1,-2]=false:=alwL_no (by decide)
 rw[h1]
 have e1:candB 2 [1,2]=false:=by kernel_rfl
 have e2:candB 2 [-1,2]=false:=by kernel_rfl
 have e3:candB 2 [1,-2]=true:=by
  unfold candB
  rw[h2]
  kernel_rfl
 have e4:candB 2 [-1,-2]=true:=by
  unfold candB
  rw[h3]
  kernel_rfl
 simp[ratWant,e1,e2,e3,e4]
theorem ex_less:runGo (ckrNew fourC) [⟨false,5,[2],[1]⟩,exB] 0=(ckrNew fourC,0,92):=by
 have h1:ratGrp (ckrNew fourC).ents 2 []=(3,92):=by
  unfold ratGrp
  rw[ex_want]
  rfl
 have h2:ratP (ckrNew fourC).ents [2] [1] []=(0,3,92):=by
  have g1:alwL [2]=false:=by kernel_rfl
  have g2:(ratFol (ckrNew fourC).ents (asmL [2]) [1]).2=(false,0,0):=by kernel_rfl
  unfold ratP
  rw[if_neg (by rw[g1];decide),if_neg (by rw[g2];decide),if_neg (by rw[g2];decide)]
  show(if(ratGrp (ckrNew fourC).ents 2 []).2≠0 then _ else _)=_
  rw[h1]
  rfl
 have h3:ckAdd (ckrNew fourC).ents [2] [1]=(0,3,92):=by
  have g1:ckFol (ckrNew fourC).ents [2] [1]=(false,0,0):=by kernel_rfl
  unfold ckAdd
  rw[show splitL [1]=([1],[])from by kernel_rfl,g1,if_neg (by decide),if_neg (by decide)]
  exact h2
 have h4:(ckrNew fourC).do_ ⟨false,5,[2],[1]⟩=(ckrNew fourC,0,3,92):=by
  unfold Ckr.do_
  rw[if_neg (by decide),if_neg (by decide),if_neg (by decide),if_neg (by decide)]
  simp only[h3]
  rfl
 unfold runGo
 rw[if_neg (by decide),h4]
 rfl
theorem ex_early:runGo (ckrNew fourC) [⟨false,4,[2],[1,2]⟩,exB] 0=(ckrNew fourC,0,100):=by kernel_rfl
theorem ex_gone:(runRep (runGo (ckrNew fourC) [exA,⟨true,5,[],[3]⟩,exB] 0),(runGo (ckrNew fourC) [exA,⟨true,5,[],[3]⟩,exB] 0).2.1,runE (runGo (ckrNew fourC) [exA,⟨true,5,[],[3]⟩,exB] 0))=(.agg #[.bool false,.int .i64 0,.int .i64 0,.int .i64 0,.int .i64 0],2,91):=by kernel_rfl
theorem ex_zero:(runRep (runGo (ckrNew [[]]) [] 0),(runGo (ckrNew [[]]) [] 0).2.1,runE (runGo (ckrNew [[]]) [] 0))=(.agg #[.bool true,.int .i64 0,.int .i64 0,.int .i64 0,.int .i64 1],0,0):=by kernel_rfl
def exM:List EStep:= [⟨false,5,[1,2],[1]⟩,⟨false,6,[2],[1,2]⟩,⟨false,7,[],[6,3,4]⟩]
theorem ex_chk:chkP [1,2] [[1,2]]=([],1,0):=by
 have x1:sortL [1,2]= [1,2]:=List.mergeSort_of_pairwise (by decide)
 have x2:sortL [-1,-2]= [-1,-2]:=List.mergeSort_of_pairwise (by decide)
 have x3:asmL [1,2]= [-1,-2]:=by
  unfold asmL normL
  rw[x1]
  exact x2
 have x4:alwL [1,2]=false:=alwL_no (by decide)
 have x5:asgF [-1,-2]=some (putF (putF (fun _=>0) (-1)) (-2)):=by rfl
 unfold chkP
 rw[x4,x3,x5]
 rfl
def exK:Ckr:=⟨[(1,[1,2]),(2,[-1,2]),(3,[1,-2]),(4,[-1,-2]),(5,[1,2])],5,false,1,0,0,5⟩
theorem ex_do:(ckrNew fourC).do_ ⟨false,5,[1,2],[1]⟩=(exK,1,0,0):=by
 have g0:ckNamed (ckrNew fourC).ents [1]= [[1,2]]:=by kernel_rfl
 have g1:ckFol (ckrNew fourC).ents [1,2] [1]=(true,0,0):=by
  unfold ckFol
  rw[g0,ex_chk]
  rfl
 have g2:ckAdd (ckrNew fourC).ents [1,2] [1]=(1,0,0):=by
  unfold ckAdd
  rw[show splitL [1]=([1],[])from by kernel_rfl,g1]
  rfl
 unfold Ckr.do_
 rw[if_neg (by decide),if_neg (by decide),if_neg (by decide),if_neg (by decide)]
 simp only[g2]
 rfl
theorem ex_trm2:trmGo exK [⟨false,6,[2],[1,2]⟩,⟨false,7,[],[6,3,4]⟩] 1 [⟨false,5,[1,2],[1]⟩]=([⟨false,5,[1,2],[1]⟩,⟨false,6,[2],[1,2]⟩,⟨false,7,[],[6,3,4]⟩],3,true):=by kernel_rfl
theorem ex_run2:runE (runGo exK [⟨false,6,[2],[1,2]⟩,⟨false,7,[],[6,3,4]⟩] 1)=0:=by kernel_rfl
theorem ex_trm:trmGo (ckrNew fourC) exM 0 []=(exM,3,true):=by
 have g0:ckNamed (ckrNew fourC).ents [1]= [[1,2]]:=by kernel_rfl
 have g1:trimS (ckrNew fourC) ⟨false,5,[1,2],[1]⟩=⟨false,5,[1,2],[1]⟩:=by
  unfold trimS trimP
  simp only[show splitL [1]=([1],[])from by kernel_rfl,g0,ex_chk]
  rfl
 unfold exM trmGo
 rw[if_neg (by decide),ex_do,if_neg (by decide)]
 simp only[if_true,g1]
 show trmGo exK [⟨false,6,[2],[1,2]⟩,⟨false,7,[],[6,3,4]⟩] 1 [⟨false,5,[1,2],[1]⟩]=_
 exact ex_trm2
theorem ex_run:runE (runGo (ckrNew fourC) exM 0)=0:=by
 unfold exM runGo
 rw[if_neg (by decide),ex_do]
 exact ex_run2
theorem ex_bk:bkL exM= [⟨false,6,[2],[1,2]⟩,⟨false,7,[],[6,3,4]⟩]:=by kernel_rfl
end Go.Proofs.YtajbmjpodeilpaaGreat
namespace Go.Proofs.YtajbmjpodeilpaaGreat
open Go.RowKit
theorem blk_cell {w:World} {g j:Nat} {us:List Value} {t:TypeId} {z:Nat×Nat} {u:Value} (h:w.heap[g]? =some (.cells us.toArray t z)) (hu:us[j]? =some u):w.cell? ⟨g,j,none⟩=some u:=by
 simp[World.cell?,h,hu]
theorem ints_blk {O:Nat→Prop} {w:World} {g:Nat} {xs:List Int} {t:TypeId} {z:Nat×Nat} (h:w.heap[g]? =some (.cells (xs.map (Value.int .i64)).toArray t z)) (hO:O g):IntsIn O w (.slice (some ⟨g,0,none⟩) xs.length xs.length) xs:=
 ⟨_,_,rfl,Nat.le_refl _,(fun h=>by cases h),fun i x hi=>⟨g,0,rfl,heap_lt h,hO,by
  rw[Nat.zero_add]
  exact blk_cell h (by rw[List.getElem?_map,hi];rfl)⟩⟩
theorem cls_blk {O:Nat→Prop} {w:World} {g:Nat} {us:List Value} {cs:List (List Int)} {t:TypeId} {z:Nat×Nat} (h:w.heap[g]? =some (.cells us.toArray t z)) (hO:O g) (hx: ∀(i:Nat) (c:List Int),cs[i]? =some c→∃u,us[i]? =some u∧IntsIn O w u c):ClsIn O w (.slice (some ⟨g,0,none⟩) cs.length cs.length) cs:=
 ⟨_,_,rfl,Nat.le_refl _,(fun h=>by cases h),fun i c hi=>by
  obtain⟨u,h1,h2⟩:=hx i c hi
  exact⟨g,0,u,rfl,heap_lt h,hO,by rw[Nat.zero_add];exact blk_cell h h1,h2⟩⟩
def rcell (x:EStep×Value×Value):List Value:= [.bool x.1.del,.int .i64 x.1.id,x.2.1,x.2.2]
theorem rcell_at: ∀(K:List (EStep×Value×Value)) (i:Nat) (x:EStep×Value×Value),K[i]? =some x→(K.flatMap rcell)[i*4]? =some (.bool x.1.del)∧(K.flatMap rcell)[i*4+1]? =some (.int .i64 x.1.id)∧(K.flatMap rcell)[i*4+2]? =some x.2.1∧(K.flatMap rcell)[i*4+3]? =some x.2.2
 | [],i,x,h=>by simp at h
 | y::K,0,x,h=>by
  obtain rfl:y=x:=by simpa using h
  exact⟨rfl,rfl,rfl,rfl⟩
 | y::K,i+1,x,h=>by
  have:=rcell_at K i x (by simpa using h)
  rw[show(i+1)*4=i*4+4 by omega]
  exact this
theorem step_blk {O:Nat→Prop} {w:World} {g:Nat} {K:List (EStep×Value×Value)} {t:TypeId} {z:Nat×Nat} (h:w.heap[g]? =some (.cells (K.flatMap rcell).toArray t z)) (hO:O g) (hx: ∀x∈K,IntsIn O w x.2.1 x.1.lits∧IntsIn O w x.2.2 x.1.hints):StepIn O w (.slice (some ⟨g,0,none⟩) K.length K.length) (K.map Prod.fst):=
 ⟨_,_,by rw[List.length_map],by rw[List.length_map];exact Nat.le_refl _,(fun h=>by cases h),fun i s hi=>by
  rw[List.getElem?_map]at hi
  cases hk:K[i]? with
  | none=>rw[hk]at hi;cases hi
  | some x=>
   rw[hk]at hi
   obtain rfl:=Option.some.inj hi
   obtain⟨e0,e1,e2,e3⟩:=rcell_at K i x hk
   obtain⟨h1,h2⟩:=hx x (List.mem_of_getElem? hk)
   exact⟨g,0,x.2.1,x.2.2,rfl,heap_lt h,hO,by rw[Nat.zero_add];exact blk_cell h e0,by rw[Nat.zero_add];exact blk_cell h e1,by rw[Nat.zero_add];exact blk_cell h e2,by rw[Nat.zero_add];exact blk_cell h e3,h1,h2⟩⟩
theorem res_cell01 {fn:Func} (h:fn.results= #[.cell 0 24,.tmp 1]) {w:World} {r:Nat} {c0 c1:Value} {t:TypeId} (hb:w.heap[r]? =some (.cells #[c0,c1] t (0,0))) (tmps:Array Value) (t0:tmps[0]?.getD undef= .pointer (some ⟨r,0,none⟩)):
  (results fn tmps).run Tryz.prog w= .ok (.tuple #[.agg #[c0,c1],tmps[1]?.getD undef]) w:=by
 have p0:w.cell? ⟨r,0,none⟩=some c0:=mx_cell (j:=0) hb
 have p1:w.cell? ⟨r,1,none⟩=some c1:=mx_cell (j:=1) hb
 simp[results,h,go_sem,t0,p0,p1]
set_option maxRecDepth 100000 in
set_option maxHeartbeats 4000000 in
theorem four_any (w:World):Calls Tryz.prog 20 #[] w fun e w'=> ∃gl gs,e= .returned (.tuple #[.agg #[.int .i64 2,.slice (some ⟨gl,0,none⟩) 4 4],.slice (some ⟨gs,0,none⟩) 2 2])∧ClsIn (fun _=>True) w' (.slice (some ⟨gl,0,none⟩) 4 4) fourC∧StepIn (fun _=>True) w' (.slice (some ⟨gs,0,none⟩) 2 2) [exA,exB]∧Below w.heap.size w w':=by
 obtain⟨W1,hW1,hb1,hc1,hz1⟩:=al_new w #[.int .i64 2,.slice (some ⟨w.heap.size+1+1+1+1+1,0,none⟩) 4 4] 24
 have B1:Below w.heap.size w W1:=hb1
 obtain⟨W2,hW2,hb2,hc2,hz2⟩:=al_new W1 #[.int .i64 1,.int .i64 2] 55
 rw[hz1]at hc2 hz2
 have B2:Below (w.heap.size+1) W1 W2:=by rw[←hz1];exact hb2
 obtain⟨W3,hW3,hb3,hc3,hz3⟩:=al_new W2 #[.int .i64 (-1),.int .i64 2] 55
 rw[hz2]at hc3 hz3
 have B3:Below (w.heap.size+1+1) W2 W3:=by rw[←hz2];exact hb3
 obtain⟨W4,hW4,hb4,hc4,hz4⟩:=al_new W3 #[.int .i64 1,.int .i64 (-2)] 55
 rw[hz3]at hc4 hz4
 have B4:Below (w.heap.size+1+1+1) W3 W4:=by rw[←hz3];exact hb4
 obtain⟨W5,hW5,hb5,hc5,hz5⟩:=al_new W4 #[.int .i64 (-1),.int .i64 (-2)] 55
 rw[hz4]at hc5 hz5
 have B5:Below (w.heap.size+1+1+1+1) W4 W5:=by rw[←hz4];exact hb5
 obtain⟨W6,hW6,hb6,hc6,hz6⟩:=al_new W5 #[.slice (some ⟨w.heap.size+1,0,none⟩) 2 2,.slice (some ⟨w.heap.size+1+1,0,none⟩) 2 2,.slice (some ⟨w.heap.size+1+1+1,0,none⟩) 2 2,.slice (some ⟨w.heap.size+1+1+1+1,0,none⟩) 2 2] 31
 rw[hz5]at hc6 hz6
 have B6:Below (w.heap.size+1+1+1+1+1) W5 W6:=by rw[←hz5];exact hb6
 obtain⟨W7,hW7,hb7,hc7,hz7⟩:=al_new W6 #[.int .i64 2] 55
 rw[hz6]at hc7 hz7
 have B7:Below (w.heap.size+1+1+1+1+1+1) W6 W7:=by rw[←hz6];exact hb7
 obtain⟨W8,hW8,hb8,hc8,hz8⟩:=al_new W7 #[.int .i64 1,.int .i64 2] 3
 rw[hz7]at hc8 hz8
 have B8:Below (w.heap.size+1+1+1+1+1+1+1) W7 W8:=by rw[←hz7];exact hb8
 obtain⟨W9,hW9,hb9,hc9,hz9⟩:=al_new W8 #[.int .i64 5,.int .i64 3,.int .i64 4] 3
 rw[hz8]at hc9 hz9
 have B9:Below (w.heap.size+1+1+1+1+1+1+1+1) W8 W9:=by rw[←hz8];exact hb9
 obtain⟨W10,hW10,hb10,hc10,hz10⟩:=al_new W9 #[.bool false,.int .i64 5,.slice (some ⟨w.heap.size+1+1+1+1+1+1,0,none⟩) 1 1,.slice (some ⟨w.heap.size+1+1+1+1+1+1+1,0,none⟩) 2 2,.bool false,.int .i64 6,.slice none 0 0,.slice (some ⟨w.heap.size+1+1+1+1+1+1+1+1,0,none⟩) 3 3] 34
 rw[hz9]at hc10 hz10
 have B10:Below (w.heap.size+1+1+1+1+1+1+1+1+1) W9 W10:=by rw[←hz9];exact hb10
 clear hb1 hb2 hb3 hb4 hb5 hb6 hb7 hb8 hb9 hb10
 have T9:=B10
 have T8:=B9.trans (T9.mono (by omega))
 have T7:=B8.trans (T8.mono (by omega))
 have T6:=B7.trans (T7.mono (by omega))
 have T5:=B6.trans (T6.mono (by omega))
 have T4:=B5.trans (T5.mono (by omega))
 have T3:=B4.trans (T4.mono (by omega))
 have T2:=B3.trans (T3.mono (by omega))
 have T1:=B2.trans (T2.mono (by omega))
 have T0:=B1.trans (T1.mono (by omega))
 have D1:=((T1.block _ (by omega)).trans hc1)
 have D2:=((T2.block _ (by omega)).trans hc2)
 have D3:=((T3.block _ (by omega)).trans hc3)
 have D4:=((T4.block _ (by omega)).trans hc4)
 have D5:=((T5.block _ (by omega)).trans hc5)
 have D6:=((T6.block _ (by omega)).trans hc6)
 have D7:=((T7.block _ (by omega)).trans hc7)
 have D8:=((T8.block _ (by omega)).trans hc8)
 have D9:=((T9.block _ (by omega)).trans hc9)
 have D10:=hc10
 have HCL:=Lib.hid (show ClsIn (fun _=>True) W10 (.slice (some ⟨w.heap.size+1+1+1+1+1,0,none⟩) 4 4) fourC from cls_blk (us:= [.slice (some ⟨w.heap.size+1,0,none⟩) 2 2,.slice (some ⟨w.heap.size+1+1,0,none⟩) 2 2,.slice (some ⟨w.heap.size+1+1+1,0,none⟩) 2 2,.slice (some ⟨w.heap.size+1+1+1+1,0,none⟩) 2 2]) (cs:=fourC) D6 trivial (fun i c hi=>by
  match i,hi with
  | 0,hi=>cases hi;exact⟨_,rfl,ints_blk (xs:= [1,2]) D2 trivial⟩
  | 1,hi=>cases hi;exact⟨_,rfl,ints_blk (xs:= [-1,2]) D3 trivial⟩
  | 2,hi=>cases hi;exact⟨_,rfl,ints_blk (xs:= [1,-2]) D4 trivial⟩
  | 3,hi=>cases hi;exact⟨_,rfl,ints_blk (xs:= [-1,-2]) D5 trivial⟩
  | n+4,hi=>exact absurd hi (by simp[fourC])))
 have HST:=Lib.hid (show StepIn (fun _=>True) W10 (.slice (some ⟨w.heap.size+1+1+1+1+1+1+1+1+1,0,none⟩) 2 2) [exA,exB]from step_blk (K:= [(exA,.slice (some ⟨w.heap.size+1+1+1+1+1+1,0,none⟩) 1 1,.slice (some ⟨w.heap.size+1+1+1+1+1+1+1,0,none⟩) 2 2),(exB,.slice none 0 0,.slice (some ⟨w.heap.size+1+1+1+1+1+1+1+1,0,none⟩) 3 3)]) D10 trivial (fun x hx=>by
  rcases List.mem_cons.1 hx with rfl|hx
  ·exact⟨ints_blk (xs:= [2]) D7 trivial,ints_blk (xs:= [1,2]) D8 trivial⟩
  ·obtain rfl:=List.mem_singleton.1 hx
   exact⟨IntsIn.nil _ _,ints_blk (xs:= [5,3,4]) D9 trivial⟩))
 have HD1:=Lib.hid D1
 have HB:=Lib.hid T0
 have HW1:=Lib.hid hW1
 have HW2:=Lib.hid hW2
 have HW3:=Lib.hid hW3
 have HW4:=Lib.hid hW4
 have HW5:=Lib.hid hW5
 have HW6:=Lib.hid hW6
 have HW7:=Lib.hid hW7
 have HW8:=Lib.hid hW8
 have HW9:=Lib.hid hW9
 have HW10:=Lib.hid hW10
 clear hW1 hc1 hz1 B1 hW2 hc2 hz2 B2 hW3 hc3 hz3 B3 hW4 hc4 hz4 B4 hW5 hc5 hz5 B5 hW6 hc6 hz6 B6 hW7 hc7 hz7 B7 hW8 hc8 hz8 B8 hW9 hc9 hz9 B9 hW10 hc10 hz10 B10 T0 T1 T2 T3 T4 T5 T6 T7 T8 T9 D1 D2 D3 D4 D5 D6 D7 D8 D9 D10
 go_enter Tryz.func20,Tryz.ntmps20
 go_wp2_with fail
 rw[HW1.out,HW2.out,HW3.out,HW4.out,HW5.out,HW6.out,HW7.out,HW8.out,HW9.out,HW10.out]
 have e0:=mx_cell (j:=0) HD1.out
 have e1:=mx_cell (j:=1) HD1.out
 refine bodyPost_ret (res_cell01 rfl HD1.out _ rfl) rfl ?_
 exact⟨_,_,rfl,HCL.out,HST.out,HB.out⟩
end Go.Proofs.YtajbmjpodeilpaaGreat
namespace Go.Proofs.YtajbmjpodeilpaaGreat
open Go.RowKit
section
variable {O:Nat→Prop} {n:Int} {lv:Value} {cs:List (List Int)} {E:Nat}
set_option maxHeartbeats 1000000 in
theorem new_bad (w:World) (h:ClsIn O w lv cs) (hc: ∀c∈cs,c.length≤100000000000) (hf:(fchk n cs).2=E) (hE:E≠0):
  Calls Tryz.prog 22 #[.agg #[.int .i64 n,lv]] w fun e w'=>e= .returned (.tuple #[.pointer none,.int .i64 (E:Nat)])∧Below w.heap.size w w':=by
 obtain⟨W,hW,hb,hbn,-⟩:=al_new w #[.int .i64 n,lv] 24
 have b0:W.cell? ⟨w.heap.size,0,none⟩=some (.int .i64 n):=mx_cell (j:=0) hbn
 have b1:W.cell? ⟨w.heap.size,1,none⟩=some lv:=mx_cell (j:=1) hbn
 have HCH:=form_check n lv cs W (h.below hb) hc
 obtain⟨fi,hfi⟩: ∃fi,(fchk n cs).1=fi:=⟨_,rfl⟩
 rw[hf,hfi]at HCH
 have HCH:=Lib.hid HCH
 have HW:=Lib.hid hW
 have HB:=Lib.hid hb
 have q0:((E:Int)==0)=false:=beq_eq_false_iff_ne.2 (by omega)
 have q1:((E:Int) != 0)=true:=by rw[bne,q0];rfl
 obtain⟨A,c,rfl,hcc,_⟩:=h
 clear hb hf hbn hc hfi hW
 go_enter Tryz.func22,Tryz.ntmps22
 go_upto_region 1 with fail
 rw[HW.out]
 go_wp2_with fail
 refine HCH.out.mono ?_
 rintro e w1 ⟨rfl,hb1⟩
 have HB1:=Lib.hid (HB.out.trans (hb1.mono HB.out.size))
 clear hb1 HCH
 go_wp2_with fail
 refine bodyPost_ret (v:=.tuple #[.pointer none,.int .i64 (E:Nat)]) (by simp[results,Tryz.results22,go_sem]) rfl ?_
 exact⟨rfl,HB1.out⟩
set_option maxHeartbeats 1000000 in
theorem check_bad (sv:Value) (w:World) (h:ClsIn O w lv cs) (hc: ∀c∈cs,c.length≤100000000000) (hf:(fchk n cs).2=E) (hE:E≠0):
  Calls Tryz.prog 14 #[.agg #[.int .i64 n,lv],sv] w fun e w'=>e= .returned (.tuple #[repZ,.int .i64 0,.int .i64 (E:Nat)])∧Below w.heap.size w w':=by
 obtain⟨W0,hW0,hb0,hbf,hz0⟩:=al_new w #[.int .i64 n,lv] 24
 obtain⟨W1,hW1,hb1,hbr,hz1⟩:=al_new W0 #[.bool false,.int .i64 0,.int .i64 0,.int .i64 0,.int .i64 0] 43
 rw[hz0]at hbr
 have hbf1:=(hb1.block _ (heap_lt hbf)).trans hbf
 have b0:W1.cell? ⟨w.heap.size,0,none⟩=some (.int .i64 n):=mx_cell (j:=0) hbf1
 have b1:W1.cell? ⟨w.heap.size,1,none⟩=some lv:=mx_cell (j:=1) hbf1
 have hbw:Below w.heap.size w W1:=hb0.trans (hb1.mono (by omega))
 have HNEW:=Lib.hid (new_bad (n:=n) W1 (h.below hbw) hc hf hE)
 have HBR:=Lib.hid hbr
 have HBW:=Lib.hid hbw
 obtain⟨A,c,rfl,hcc,_⟩:=h
 have HW0:=Lib.hid hW0
 have HW1:=Lib.hid hW1
 have q0:((E:Int)==0)=false:=beq_eq_false_iff_ne.2 (by omega)
 have q1:((E:Int) != 0)=true:=by rw[bne,q0];rfl
 clear hb0 hb1 hbf hbf1 hbr hbw hf hW0 hW1 hc hz1
 go_enter Tryz.func14,Tryz.ntmps14
 go_upto_region 1 with fail
 try rw[HW0.out]
 try rw[HW1.out]
 go_wp2_with fail
 refine wp_scope_straight ?_
 go_wp2_with fail
 refine HNEW.out.mono ?_
 rintro e w2 ⟨rfl,hb2⟩
 have hbx:=(hb2.block _ (heap_lt HBR.out)).trans HBR.out
 have hlow:=HBW.out.trans (hb2.mono HBW.out.size)
 have r0:=mx_cell (j:=0) hbx
 have r1:=mx_cell (j:=1) hbx
 have r2:=mx_cell (j:=2) hbx
 have r3:=mx_cell (j:=3) hbx
 have r4:=mx_cell (j:=4) hbx
 have f0:=free_at (j:=0) hbx
 have f1:=free_at (j:=1) hbx
 have f2:=free_at (j:=2) hbx
 have f3:=free_at (j:=3) hbx
 have f4:=free_at (j:=4) hbx
 obtain⟨wy,hwy,hby,hky⟩:=five_setR hbx (.bool false) (.int .i64 0) (.int .i64 0) (.int .i64 0) (.int .i64 0)
 have HBY:=Lib.hid hby
 have HFIN:=Lib.hid (hlow.trans (hky.below (fun i e=>by rw[e];exact Nat.le_succ _) hlow.size))
 clear hbx hlow hky hby hb2 HNEW b0 b1
 go_wp2_with fail
 try rw[hwy]
 try rw[Exit.noGoto_ret]
 refine bodyPost_ret (res_chk456 rfl HBY.out _ rfl) rfl ?_
 exact⟨rfl,HFIN.out⟩
set_option maxHeartbeats 2000000 in
theorem trim_bad (sv:Value) (w:World) (h:ClsIn O w lv cs) (hc: ∀c∈cs,c.length≤100000000000) (hf:(fchk n cs).2=E) (hE:E≠0):
  Calls Tryz.prog 16 #[.agg #[.int .i64 n,lv],sv] w fun e w'=>e= .returned (.tuple #[.slice none 0 0,.int .i64 0,.int .i64 (E:Nat)])∧Below w.heap.size w w':=by
 obtain⟨W0,hW0,hb0,hbf,hz0⟩:=al_new w #[.int .i64 n,lv] 24
 have b0:W0.cell? ⟨w.heap.size,0,none⟩=some (.int .i64 n):=mx_cell (j:=0) hbf
 have b1:W0.cell? ⟨w.heap.size,1,none⟩=some lv:=mx_cell (j:=1) hbf
 have HCH:=Lib.hid (check_bad (n:=n) sv W0 (h.below hb0) hc hf hE)
 obtain⟨A,c,rfl,hcc,_⟩:=h
 have HW0:=Lib.hid hW0
 have HB0:=Lib.hid hb0
 have q0:((E:Int)==0)=false:=beq_eq_false_iff_ne.2 (by omega)
 have q1:((E:Int) != 0)=true:=by rw[bne,q0];rfl
 clear hb0 hbf hf hW0 hc hz0
 refine(callsIn_wide (n:=10)).1 ?_
 refine callsIn_of_wp_marks Tryz.func16 rfl trivial ?_ rfl
 simp only[Tryz.ntmps16,List.size_toArray,List.length_cons,List.length_nil,Nat.reduceAdd,Nat.reduceSub,Array.replicate_succ,Array.replicate_zero,List.push_toArray,List.append_toArray,List.nil_append,List.cons_append]
 gi_wp2_with fail
 try rw[HW0.out]
 refine⟨trivial,?_⟩
 refine(callsIn_wide.2 HCH.out).mono ?_
 rintro e w1 ⟨rfl,hb1⟩
 obtain⟨W1,hW1,hb1',hbx1,-⟩:=al_new w1 #[.bool false,.int .i64 0,.int .i64 0,.int .i64 0,.int .i64 0] 43
 have HFIN:=Lib.hid (HB0.out.trans ((hb1.trans (hb1'.mono hb1.size)).mono HB0.out.size))
 have HW1:=Lib.hid hW1
 clear hb1 hb1' hbx1 hW1 HCH b0 b1
 unfold repZ
 gi_wp2_with fail
 try rw[HW1.out]
 exact⟨_,res_456 rfl _ _,rfl,HFIN.out⟩
end
end Go.Proofs.YtajbmjpodeilpaaGreat
namespace Go.Proofs.YtajbmjpodeilpaaGreat
open Go.RowKit
def TR (vn:Int) (cs:List (List Int)) (ss:List EStep):List EStep×Int×Nat:=
 if(fchk vn cs).2≠0 then([],0,(fchk vn cs).2)else
 if runE (runGo (ckrNew cs) ss 0)≠0 then([],((runGo (ckrNew cs) ss 0).2.1:Nat),runE (runGo (ckrNew cs) ss 0))else
 if(trmGo (ckrNew cs) ss 0 []).2.2=false then([],((trmGo (ckrNew cs) ss 0 []).2.1:Nat),102)else
 (bkL (trmGo (ckrNew cs) ss 0 []).1,-1,0)
theorem stepIn_none (O:Nat→Prop) (w:World):StepIn O w (.slice none 0 0) []:=⟨none,0,rfl,Nat.le_refl _,fun _=>rfl,fun i p hi=>by simp at hi⟩
theorem RTOut.tr {O:Nat→Prop} {vn:Int} {cs:List (List Int)} {ss:List EStep} {w':World} {e:Ending} (h:RTOut vn cs ss O w' e): ∃v,e= .returned (.tuple #[v,.int .i64 (TR vn cs ss).2.1,.int .i64 ((TR vn cs ss).2.2:Nat)])∧StepIn O w' v (TR vn cs ss).1:=by
 unfold RTOut at h
 unfold TR
 by_cases h1:(fchk vn cs).2≠0
 ·rw[if_pos h1]at h⊢
  exact⟨_,h,stepIn_none _ _⟩
 rw[if_neg h1]at h⊢
 by_cases h2:runE (runGo (ckrNew cs) ss 0)≠0
 ·rw[if_pos h2]at h⊢
  exact⟨_,h,stepIn_none _ _⟩
 rw[if_neg h2]at h⊢
 by_cases h3:(trmGo (ckrNew cs) ss 0 []).2.2=false
 ·rw[if_pos h3]at h⊢
  exact⟨_,h,stepIn_none _ _⟩
 rw[if_neg h3]at h⊢
 exact h
theorem TrimOut.tr {vn:Int} {cs:List (List Int)} {ss:List EStep} {n0:Nat} {w':World} {e:Ending} (h1: ¬(fchk vn cs).2≠0) (h:TrimOut (runGo (ckrNew cs) ss 0) (trmGo (ckrNew cs) ss 0 []) n0 w' e): ∃v K,e= .returned (.tuple #[v,.int .i64 (TR vn cs ss).2.1,.int .i64 ((TR vn cs ss).2.2:Nat)])∧K.map Prod.fst=(TR vn cs ss).1∧StMem n0 w' v K:=by
 unfold TrimOut at h
 unfold TR
 rw[if_neg h1]
 by_cases h2:runE (runGo (ckrNew cs) ss 0)≠0
 ·rw[if_pos h2]at h⊢
  exact⟨_,[],h,rfl,StMem.nil _ _⟩
 rw[if_neg h2]at h⊢
 by_cases h3:(trmGo (ckrNew cs) ss 0 []).2.2=false
 ·rw[if_pos h3]at h⊢
  exact⟨_,[],h,rfl,StMem.nil _ _⟩
 rw[if_neg h3]at h⊢
 exact h
theorem check_all {O O':Nat→Prop} (vn:Int) (u v:Value) (cs:List (List Int)) (ss:List EStep) (w:World) (h:ClsIn O w u cs) (h':StepIn O' w v ss) (hl:cs.length≤1000) (hcl: ∀c∈cs,c.length≤1000) (hsl:ss.length≤1000) (hss: ∀s∈ss,s.lits.length≤1000∧s.hints.length≤1000):
  Calls Tryz.prog 14 #[.agg #[.int .i64 vn,u],v] w fun e w'=>e= .returned (rcOut vn cs ss)∧Below w.heap.size w w':=by
 unfold rcOut
 by_cases hE:(fchk vn cs).2≠0
 ·rw[if_pos hE]
  exact check_bad v w h (fun c hc=>by have:=hcl c hc;omega) rfl hE
 ·rw[if_neg hE]
  obtain⟨h1,h2⟩:=fchk_zero (n:=vn) (cs:=cs) (by omega)
  exact proof_check vn u v cs ss w h h2 hl h1 h' hsl (fun s hs=>by have:=hss s hs;omega)
theorem trim_all {O O':Nat→Prop} (vn:Int) (u v:Value) (cs:List (List Int)) (ss:List EStep) (w:World) (h:ClsIn O w u cs) (h':StepIn O' w v ss) (hl:cs.length≤1000) (hcl: ∀c∈cs,c.length≤1000) (hsl:ss.length≤1000) (hss: ∀s∈ss,s.lits.length≤1000∧s.hints.length≤1000):
  Calls Tryz.prog 16 #[.agg #[.int .i64 vn,u],v] w fun e w'=>(∃v K,e= .returned (.tuple #[v,.int .i64 (TR vn cs ss).2.1,.int .i64 ((TR vn cs ss).2.2:Nat)])∧K.map Prod.fst=(TR vn cs ss).1∧StMem w.heap.size w' v K)∧Below w.heap.size w w':=by
 by_cases hE:(fchk vn cs).2≠0
 ·refine(trim_bad v w h (fun c hc=>by have:=hcl c hc;omega) rfl hE).mono ?_
  rintro e w' ⟨rfl,hb⟩
  unfold TR
  rw[if_pos hE]
  exact⟨⟨_,[],rfl,rfl,StMem.nil _ _⟩,hb⟩
 ·obtain⟨h1,h2⟩:=fchk_zero (n:=vn) (cs:=cs) (by omega)
  refine(proof_trim vn u v cs ss w h h2 hl h1 h' hsl (fun s hs=>by have:=hss s hs;omega)).mono ?_
  rintro e w' ⟨ht,hb⟩
  exact⟨ht.tr hE,hb⟩
theorem trmS_len (k:Ckr) (s:EStep) (h:s.lits.length≤1000∧s.hints.length≤1000):(trimS k s).lits.length≤1000∧(trimS k s).hints.length≤1000:=by
 refine⟨h.1,?_⟩
 unfold trimS
 rw[List.length_map]
 have h1:=trim_len s.lits (ckNamed k.ents (splitL s.hints).1)
 have h2:=named_len k.ents (splitL s.hints).1
 have h3:=splitL_len s.hints
 omega
theorem trm_lens: ∀(ss:List EStep) (k:Ckr) (i:Nat) (out:List EStep),(∀s∈ss,s.lits.length≤1000∧s.hints.length≤1000)→(∀s∈out,s.lits.length≤1000∧s.hints.length≤1000)→(trmGo k ss i out).1.length≤out.length+ss.length∧∀s∈(trmGo k ss i out).1,s.lits.length≤1000∧s.hints.length≤1000
 | [],k,i,out,_,h=>⟨Nat.le_refl _,h⟩
 | s::r,k,i,out,hs,h=>by
  rw[trmGo]
  split
  ·exact⟨Nat.le_add_right _ _,h⟩
  split
  ·exact⟨Nat.le_add_right _ _,h⟩
  have hr: ∀s∈r,s.lits.length≤1000∧s.hints.length≤1000:=fun x hx=>hs x (List.mem_cons_of_mem _ hx)
  split
  ·have:=trm_lens r (k.do_ s).1 (i+1) (out++ [trimS k s]) hr fun x hx=>by
    rcases List.mem_append.1 hx with hx|hx
    ·exact h x hx
    ·rw[List.mem_singleton.1 hx]
     exact trmS_len k s (hs s (List.mem_cons_self ..))
   refine⟨?_,this.2⟩
   have h1:=this.1
   rw[List.length_append,List.length_singleton]at h1
   rw[List.length_cons]
   omega
  ·have:=trm_lens r (k.do_ s).1 (i+1) out hr h
   refine⟨?_,this.2⟩
   have h1:=this.1
   rw[List.length_cons]
   omega
theorem bkGo_mem: ∀(l:List EStep) (f:Int→Int) (out:List EStep),(bkGo f l out).length≤out.length+l.length∧∀s∈bkGo f l out,s∈out∨s∈l
 | [],f,out=>⟨Nat.le_refl _,fun s h=>.inl h⟩
 | s::r,f,out=>by
  rw[bkGo]
  split
  ·obtain⟨h1,h2⟩:=bkGo_mem r f out
   refine⟨by rw[List.length_cons];omega,fun x hx=>?_⟩
   rcases h2 x hx with h|h
   ·exact .inl h
   ·exact .inr (List.mem_cons_of_mem _ h)
  ·obtain⟨h1,h2⟩:=bkGo_mem r (needI f s.hints) (out++ [s])
   rw[List.length_append,List.length_singleton]at h1
   refine⟨by rw[List.length_cons];omega,fun x hx=>?_⟩
   rcases h2 x hx with h|h
   ·rcases List.mem_append.1 h with h|h
    ·exact .inl h
    ·exact .inr (by rw[List.mem_singleton.1 h];exact List.mem_cons_self ..)
   ·exact .inr (List.mem_cons_of_mem _ h)
theorem TR_lens (vn:Int) (cs:List (List Int)) {ss:List EStep} (hs: ∀s∈ss,s.lits.length≤1000∧s.hints.length≤1000):(TR vn cs ss).1.length≤ss.length∧∀s∈(TR vn cs ss).1,s.lits.length≤1000∧s.hints.length≤1000:=by
 unfold TR
 split
 ·exact⟨Nat.zero_le _,fun s h=>by cases h⟩
 split
 ·exact⟨Nat.zero_le _,fun s h=>by cases h⟩
 split
 ·exact⟨Nat.zero_le _,fun s h=>by cases h⟩
 obtain⟨h1,h2⟩:=trm_lens ss (ckrNew cs) 0 [] hs (fun s h=>by cases h)
 obtain⟨h3,h4⟩:=bkGo_mem (trmGo (ckrNew cs) ss 0 []).1.reverse (fun _=>0) []
 rw[List.length_reverse]at h3
 simp only[List.length_nil,Nat.zero_add]at h1 h3
 refine⟨by unfold bkL;rw[List.length_reverse];omega,fun s h=>?_⟩
 unfold bkL at h
 rcases h4 s (List.mem_reverse.1 h)with h|h
 ·cases h
 ·exact h2 s (List.mem_reverse.1 h)
def WriA (w:World) (g n:Nat):Prop:= ∃cs T,w.heap[g]? =some (.cells cs T (0,0))∧n≤cs.size
theorem WriA.cell {w:World} {g n:Nat} (h:WriA w g n) {i:Nat} (hi:i<n):(∃v,w.cell? ⟨g,i,none⟩=some v)∧w.frozen? ⟨g,i,none⟩=false:=by
 obtain⟨cs,T,h1,h2⟩:=h
 refine⟨⟨cs[i]'(by omega),?_⟩,free_of5 h1⟩
 rw[mx_cell h1]
 exact Array.getElem?_eq_getElem (by omega)
theorem WriA.set {w:World} {g n:Nat} (h:WriA w g n) (b j:Nat) (v:Value):WriA (w.setCell ⟨b,j,none⟩ v) g n:=by
 obtain⟨cs,T,h1,h2⟩:=h
 by_cases hb:g=b
 ·subst hb
  exact⟨_,T,mx_set h1 v,by simpa using h2⟩
 ·exact⟨cs,T,(Below.heap_setCell _ _ _ _ hb).trans h1,h2⟩
theorem WriA.below {w w':World} {g n:Nat} (h:WriA w g n) (k:Below w.heap.size w w'):WriA w' g n:=by
 obtain⟨cs,T,h1,h2⟩:=h
 exact⟨cs,T,(k.block g (heap_lt h1)).trans h1,h2⟩
theorem wriA_own {w:World} {base n:Nat} {T:TypeId} {v:Value} {xs:List Value} (h:w.ownsRow base T 1 v n xs) {g:Nat} (hg:v.ownBlock=some g):WriA w g n:=by
 rcases h.2 with⟨rfl,_⟩|⟨g',cap,cur,rfl,_,hb,hle,_,hs,_⟩
 ·cases hg
 ·obtain rfl:g'=g:=Option.some.inj hg
  exact⟨cur,_,hb,by omega⟩
def RowsOf (K:List StV) (g:Nat):Prop:= ∃x∈K,(Value.slice x.2.1.1 x.1.lits.length x.2.1.2).ownBlock=some g∨(Value.slice x.2.2.1 x.1.hints.length x.2.2.2).ownBlock=some g
structure WriS (w:World) (K:List StV):Prop where
 lit: ∀x∈K,∀g,(Value.slice x.2.1.1 x.1.lits.length x.2.1.2).ownBlock=some g→WriA w g x.1.lits.length
 hnt: ∀x∈K,∀g,(Value.slice x.2.2.1 x.1.hints.length x.2.2.2).ownBlock=some g→WriA w g x.1.hints.length
theorem WriS.set {w:World} {K:List StV} (h:WriS w K) (b j:Nat) (v:Value):WriS (w.setCell ⟨b,j,none⟩ v) K:=⟨fun x hx g hg=>(h.lit x hx g hg).set b j v,fun x hx g hg=>(h.hnt x hx g hg).set b j v⟩
theorem WriS.below {w w':World} {K:List StV} (h:WriS w K) (k:Below w.heap.size w w'):WriS w' K:=⟨fun x hx g hg=>(h.lit x hx g hg).below k,fun x hx g hg=>(h.hnt x hx g hg).below k⟩
theorem StMem.wri {n0:Nat} {w:World} {v:Value} {K:List StV} (h:StMem n0 w v K):WriS w K:=⟨fun x hx _ hg=>wriA_own (h.lit x hx) hg,fun x hx _ hg=>wriA_own (h.hnt x hx) hg⟩
theorem StMem.apart {n0:Nat} {w:World} {v:Value} {K:List StV} (h:StMem n0 w v K): ∀g,v.ownBlock=some g→¬RowsOf K g:=by
 rintro g hg ⟨x,hx,hy|hy⟩
 ·obtain⟨c1,h1⟩:=own_type h.row g hg
  obtain⟨c2,h2⟩:=own_type (h.lit x hx) g hy
  rw[h1]at h2
  cases h2
 ·obtain⟨c1,h1⟩:=own_type h.row g hg
  obtain⟨c2,h2⟩:=own_type (h.hnt x hx) g hy
  rw[h1]at h2
  cases h2
theorem StMem.rowsLow {n0:Nat} {w:World} {v:Value} {K:List StV} (h:StMem n0 w v K): ∀g,RowsOf K g→n0≤g∧g<w.heap.size:=by
 rintro g ⟨x,hx,hy|hy⟩
 ·exact own_lt (h.lit x hx) g hy
 ·exact own_lt (h.hnt x hx) g hy
end Go.Proofs.YtajbmjpodeilpaaGreat
namespace Go.Proofs.YtajbmjpodeilpaaGreat
open Go.RowKit
set_option maxRecDepth 100000 in
set_option maxHeartbeats 1000000 in
theorem eq5_one {O O':Nat→Prop} (u v:Value) (xs:List Int) (w:World) (h1:IntsIn O w u xs) (h2:IntsIn O' w v xs) (hn:xs.length≤1000000):
  Calls Tryz.prog 50 #[u,v] w fun e w'=>e= .returned (.bool true)∧Below w.heap.size w w':=by
 have H1:=Lib.hid (ints02 u xs w h1 hn)
 have H2:=Lib.hid h2
 obtain⟨A,c,rfl,_⟩:=h1
 obtain⟨A',c',rfl,_⟩:=h2
 go_enter Tryz.func50,Tryz.ntmps50
 go_wp2_with fail
 refine H1.out.mono ?_
 rintro e w1 ⟨v1,rfl,ho1,hb1⟩
 obtain⟨Ai,ki,hv1,_⟩:=mx_slice ho1
 subst hv1
 have he:=eq_i _ _ xs xs w1 (IntsIn.of_own ho1) (H2.out.below hb1) (by omega)
 rw[beq_self_eq_true]at he
 have HE:=Lib.hid he
 have HB1:=Lib.hid hb1
 clear he ho1 hb1
 go_wp2_with fail
 refine HE.out.mono ?_
 rintro e w2 ⟨rfl,n2,hn2⟩
 have hb2:Below w1.heap.size w1 w2:=by rw[hn2];exact mx_drewN w1 n2
 have HB2:=Lib.hid (HB1.out.trans (hb2.mono HB1.out.size))
 clear hn2 hb2
 go_wp2_with fail
 go_ret
 exact⟨rfl,HB2.out⟩
set_option maxRecDepth 100000 in
set_option maxHeartbeats 1000000 in
theorem equal_05 {O O':Nat→Prop} (vn:Int) (u v:Value) (cs:List (List Int)) (w:World) (h1:ClsIn O w u cs) (h2:ClsIn O' w v cs) (hn:cs.length≤1000000) (hcl: ∀c∈cs,c.length≤1000000):
  Calls Tryz.prog 19 #[.agg #[.int .i64 vn,u],.agg #[.int .i64 vn,v]] w fun e w'=>e= .returned (.bool true)∧Below w.heap.size w w':=by
 obtain⟨W1,hW1,hb1,hx1,hz1⟩:=al_new w #[.int .i64 vn,u] 24
 obtain⟨W2,hW2,hb2,hx2,hz2⟩:=al_new W1 #[.int .i64 vn,v] 38
 rw[hz1]at hx2
 have hb12:=hb1.trans (hb2.mono hb1.size)
 have hx12:=(hb2.block _ (heap_lt hx1)).trans hx1
 have h1:=h1.below hb12
 have h2:=h2.below hb12
 have H1:=Lib.hid h1
 have H2:=Lib.hid h2
 have HS:=Lib.hid hcl
 obtain⟨A1,c1,rfl,hc1,_,_⟩:=h1
 obtain⟨A2,c2,rfl,hc2,_,_⟩:=h2
 obtain⟨L,hL⟩: ∃L,cs.length=L:=⟨_,rfl⟩
 have HL:=Lib.hid hL
 rw[hL]at H1 H2 hc1 hc2 hn hW1 hW2 hx12 hx2⊢
 have hEF:Calls Tryz.prog 49 #[.slice A1 L c1,.slice A2 L c2,.func (.func 50) #[] #[]] W2 fun e w'=>e= .returned (.bool true)∧Below W2.heap.size W2 w':=by
  clear hL hcl hW1 hW2 hb1 hb2 hb12 hx1 hx12 hx2 hz1 hz2
  have hEN: ∀args w,(callFunc 50 args).run Tryz.prog w= .ok (.enter 50 args) w:=enters_of Tryz.func50 (by kernel_rfl) rfl
  go_enter Tryz.func49,Tryz.ntmps49
  go_wp2_with fail
  go_loopw [17] (fun iv wr=> ∃i:Nat,i≤L∧iv= .int .i64 i∧Hid (Below W2.heap.size W2 wr)) (fun iv _=>L-(intOf iv).toNat)
  case atStart=>exact⟨0,Nat.zero_le _,rfl,Lib.hid (Below.refl _ _)⟩
  case round=>
   obtain⟨i,hi,rfl,HB⟩:=hrel
   by_cases hlt:i<L
   ·obtain⟨s,hs⟩: ∃s,cs[i]? =some s:=⟨_,List.getElem?_eq_getElem (by rw[HL.out];exact hlt)⟩
    obtain⟨A',c',hAc,_,_,hxs⟩:=H1.out.below HB.out
    obtain⟨A'',c'',hAc',_,_,hys⟩:=H2.out.below HB.out
    simp only[Value.slice.injEq]at hAc hAc'
    obtain⟨rfl,-,rfl⟩:=hAc
    obtain⟨rfl,-,rfl⟩:=hAc'
    obtain⟨g,o,ul,rfl,hg,_,d0,hul⟩:=hxs i s hs
    obtain⟨g',o',vl,rfl,hg',_,e0,hvl⟩:=hys i s hs
    have HSM:=Lib.hid (eq5_one ul vl s wr hul hvl (HS.out s (List.mem_of_getElem? hs)))
    obtain⟨Al,cl,rfl,_⟩:=hul
    obtain⟨Bl,dl,rfl,_⟩:=hvl
    clear hxs hys hs
    go_wp2_with fail
    refine HSM.out.mono ?_
    rintro e w3 ⟨rfl,hb3⟩
    have HB3:=Lib.hid (HB.out.trans (hb3.mono HB.out.size))
    clear hb3 d0 e0
    go_wp2_with fail
    go_roundw
    case rel=>exact⟨i+1,by omega,by go_num,HB3⟩
    case measure=>simp[intOf];omega
   ·obtain rfl:i=L:=by omega
    go_wp2_with fail
    go_ret
    exact⟨rfl,HB.out⟩
 have HEF:=Lib.hid hEF
 have HB2:=Lib.hid hb12
 have c0:=mx_cell (j:=0) hx12
 have c1':=mx_cell (j:=1) hx12
 have d0:=mx_cell (j:=0) hx2
 have d1:=mx_cell (j:=1) hx2
 have HW1:=Lib.hid hW1
 have HW2:=Lib.hid hW2
 have hz12:W1.heap.size=w.heap.size+1:=hz1
 clear hEF hcl hW1 hW2 hb1 hb2 hb12 hx1 hx12 hx2 hz2 hL
 go_enter Tryz.func19,Tryz.ntmps19
 go_upto_region 1 with fail
 rw[HW1.out,HW2.out]
 go_wp2_with fail
 refine HEF.out.mono ?_
 rintro e w1 ⟨rfl,hb1⟩
 have HB3:=Lib.hid (HB2.out.trans (hb1.mono HB2.out.size))
 clear hb1
 go_wp2_with fail
 go_ret
 exact⟨rfl,HB3.out⟩
end Go.Proofs.YtajbmjpodeilpaaGreat
