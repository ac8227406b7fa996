/- Reference of layer 10: what Trim's loop keeps. The example of chapter 10: plain. Rows that a program writes out; the example of chapter 10: four. package proof: formulas that are not right are refused. proof.Check, proof.Trim at any formula and any proof; what both they and the reference answer. proof.Text at any formula and any text; what is read is short. Reference of layer 10: Trim. proof.Text at any formula and any text. -/
import Derived.Test.YtajbmjpodeilpaaGreatDoorV226
import Derived.Test.YtajbmjpodeilpaaGreatDoorV229
import Derived.Test.YtajbmjpodeilpaaGreatDoorV228
import Derived.Test.YtajbmjpodeilpaaGreatDoorV221
import Derived.Test.YtajbmjpodeilpaaGreatDoorV210
import Derived.Test.YtajbmjpodeilpaaGreatDoorV223
import Derived.Test.YtajbmjpodeilpaaGreatDoorV207
namespace Go.Proofs.YtajbmjpodeilpaaGreatDoor
open Go.RowKit
structure TSt (O:Nat→Prop) (B0 B1:Nat) (w:World) (v:Value) (K:List StV):Prop where
 row:w.ownsRow B1 83 4 v K.length (K.flatMap stcell)
 lit: ∀x∈K,IntsIn (fun g=>O g∧g<B0) w (Value.slice x.2.1.1 x.1.lits.length x.2.1.2) x.1.lits
 hnt: ∀x∈K,w.ownsRow B1 3 1 (Value.slice x.2.2.1 x.1.hints.length x.2.2.2) x.1.hints.length (x.1.hints.map (Value.int .i64))
section
variable {O:Nat→Prop} {B0 B1:Nat} {w w1:World} {v v':Value} {K:List StV}
theorem TSt.nil (O:Nat→Prop) (B0 B1:Nat) (w:World):TSt O B0 B1 w (.slice none 0 0) []:=⟨World.ownsRow_nil _ _ _ _,(fun x hx=>by cases hx),(fun x hx=>by cases hx)⟩
theorem TSt.below (h:TSt O B0 B1 w v K) (k:Below w.heap.size w w1):TSt O B0 B1 w1 v K:=⟨own_below h.row k,fun x hx=>(h.lit x hx).below k,fun x hx=>own_below (h.hnt x hx) k⟩
theorem TSt.kept (h:TSt O B0 B1 w v K) {p:Nat} (k:Kept (fun g=>g=p) w w1) (h0:B0≤p) (h1:p<B1):TSt O B0 B1 w1 v K:=
 ⟨own_kept h.row k (fun g hg e=>by have:=(own_lt h.row g hg).1;omega),fun x hx=>(h.lit x hx).kept k (fun g hg e=>by have:=hg.2;omega),fun x hx=>own_kept (h.hnt x hx) k (fun g hg e=>by have:=(own_lt (h.hnt x hx) g hg).1;omega)⟩
theorem TSt.push (h:TSt O B0 B1 w v K) (hB:B0≤B1) (hg:w.grownBy w1 v.ownBlock) (x:StV) (hr:w1.ownsRow B1 83 4 v' (K.length+1) (K.flatMap stcell++stcell x)) (hl:IntsIn (fun g=>O g∧g<B0) w (Value.slice x.2.1.1 x.1.lits.length x.2.1.2) x.1.lits) (hh:w.ownsRow B1 3 1 (Value.slice x.2.2.1 x.1.hints.length x.2.2.2) x.1.hints.length (x.1.hints.map (Value.int .i64))):TSt O B0 B1 w1 v' (K++ [x]) where
 row:=by
  rw[List.length_append,List.flatMap_append]
  simpa using hr
 lit:=fun y hy=>by
  have hy2:IntsIn (fun g=>O g∧g<B0) w (Value.slice y.2.1.1 y.1.lits.length y.2.1.2) y.1.lits:=by
   rcases List.mem_append.1 hy with hy|hy
   ·exact h.lit y hy
   ·rw[List.mem_singleton.1 hy];exact hl
  exact hy2.kept (Kept.grown hg) (fun g h1 h2=>by have:=(own_lt h.row g h2.symm).1;have:=h1.2;omega)
 hnt:=fun y hy=>by
  have hy2:w.ownsRow B1 3 1 (Value.slice y.2.2.1 y.1.hints.length y.2.2.2) y.1.hints.length (y.1.hints.map (Value.int .i64)):=by
   rcases List.mem_append.1 hy with hy|hy
   ·exact h.hnt y hy
   ·rw[List.mem_singleton.1 hy];exact hh
  exact own_kept hy2 (Kept.grown hg) (fun g h1 h2=>mx_apart hy2 h.row (by decide) h1 h2.symm)
end
structure PkS (O:Nat→Prop) (B:Nat) (w:World) (v:Value) (K:List StV):Prop where
 row:w.ownsRow B 83 4 v K.length (K.flatMap stcell)
 lit: ∀x∈K,IntsIn (fun g=>O g∧g<B) w (Value.slice x.2.1.1 x.1.lits.length x.2.1.2) x.1.lits
 hnt: ∀x∈K,IntsIn (fun g=>O g∧g<B) w (Value.slice x.2.2.1 x.1.hints.length x.2.2.2) x.1.hints
section
variable {O:Nat→Prop} {B:Nat} {w w1:World} {v v':Value} {K:List StV}
theorem PkS.nil (O:Nat→Prop) (B:Nat) (w:World):PkS O B w (.slice none 0 0) []:=⟨World.ownsRow_nil _ _ _ _,(fun x hx=>by cases hx),(fun x hx=>by cases hx)⟩
theorem PkS.grown {x:StV} (h:PkS O B w v K) (k:Below B w w1) (ho:w1.ownsRow B 83 4 v' (K.length+1) (K.flatMap stcell++stcell x)) (hl:IntsIn (fun g=>O g∧g<B) w1 (Value.slice x.2.1.1 x.1.lits.length x.2.1.2) x.1.lits) (hh:IntsIn (fun g=>O g∧g<B) w1 (Value.slice x.2.2.1 x.1.hints.length x.2.2.2) x.1.hints):PkS O B w1 v' (K++ [x]) where
 row:=by
  rw[List.length_append,List.flatMap_append]
  simpa using ho
 lit:=fun y hy=>by
  rcases List.mem_append.1 hy with hy|hy
  ·exact ints_low (h.lit y hy) k
  ·rw[List.mem_singleton.1 hy];exact hl
 hnt:=fun y hy=>by
  rcases List.mem_append.1 hy with hy|hy
  ·exact ints_low (h.hnt y hy) k
  ·rw[List.mem_singleton.1 hy];exact hh
theorem PkS.stepIn (h:PkS O B w v K):StepIn (fun g=>O g∨B≤g) w v (K.map Prod.fst):=by
 have hrow:=h.row
 rcases hrow.2 with⟨rfl,h0⟩|⟨g,cap,cur,rfl,hb,hg,hle,_⟩
 ·exact⟨none,0,by rw[List.length_map,h0],by rw[List.length_map,h0];exact Nat.le_refl _,fun _=>rfl,fun i p hi=>by
   have:=(List.getElem?_eq_some_iff.1 hi).1
   rw[List.length_map]at this
   omega⟩
 ·refine⟨_,cap,by rw[List.length_map],by rw[List.length_map];exact hle,(fun h=>by cases h),fun i p hi=>?_⟩
  rw[List.getElem?_map]at hi
  cases hx:K[i]? with
  | none=>rw[hx]at hi;cases hi
  | some x=>
   rw[hx]at hi
   obtain rfl:=Option.some.inj hi
   obtain⟨e0,e1,e2,e3⟩:=stcell_at K i x hx
   have hxm:=List.mem_of_getElem? hx
   exact⟨g,0,(Value.slice x.2.1.1 x.1.lits.length x.2.1.2),(Value.slice x.2.2.1 x.1.hints.length x.2.2.2),rfl,heap_lt hg,.inr hb,by rw[Nat.zero_add];exact mx_at hrow e0,by rw[Nat.zero_add];exact mx_at hrow e1,by rw[Nat.zero_add];exact mx_at hrow e2,by rw[Nat.zero_add];exact mx_at hrow e3,(h.lit x hxm).mono fun _ hg=>.inl hg.1,(h.hnt x hxm).mono fun _ hg=>.inl hg.1⟩
end
def kPick:List StV→List Bool→List StV
 | x::r,b::t=>if b=true then x::kPick r t else kPick r t
 | _,_=> []
def RTOut (vn:Int) (cs:List (List Int)) (ss:List EStep) (O:Nat→Prop) (w':World) (e:Ending):Prop:=
 if(fchk vn cs).2≠0 then e= .returned (.tuple #[.slice none 0 0,.int .i64 0,.int .i64 ((fchk vn cs).2:Nat)])else
 if runE (runGo (ckrNew cs) ss 0)≠0 then e= .returned (.tuple #[.slice none 0 0,.int .i64 ((runGo (ckrNew cs) ss 0).2.1:Nat),.int .i64 (runE (runGo (ckrNew cs) ss 0):Nat)])else
 if(trmGo (ckrNew cs) ss 0 []).2.2=false then e= .returned (.tuple #[.slice none 0 0,.int .i64 ((trmGo (ckrNew cs) ss 0 []).2.1:Nat),.int .i64 102])else
 ∃v,e= .returned (.tuple #[v,.int .i64 (-1),.int .i64 0])∧StepIn O w' v (bkL (trmGo (ckrNew cs) ss 0 []).1)
end Go.Proofs.YtajbmjpodeilpaaGreatDoor
namespace Go.Proofs.YtajbmjpodeilpaaGreatDoor
open Go.RowKit
def fourC:List (List Int):= [[1,2],[-1,2],[1,-2],[-1,-2]]
def exA:EStep:=⟨false,5,[2],[1,2]⟩
def exB:EStep:=⟨false,6,[],[5,3,4]⟩
theorem four_ok:(∀c∈fourC,clauseB c=true)∧fchk 2 fourC=(-1,0):=by decide
theorem ex_full:(runRep (runGo (ckrNew fourC) [exA,exB] 0),(runGo (ckrNew fourC) [exA,exB] 0).2.1,runE (runGo (ckrNew fourC) [exA,exB] 0))=(.agg #[.bool true,.int .i64 2,.int .i64 0,.int .i64 0,.int .i64 6],2,0):=by kernel_rfl
theorem ex_want:ratWant (ckrNew fourC).ents 2= [3,4]:=by
 have h1:(ckrNew fourC).ents= [(1,[1,2]),(2,[-1,2]),(3,[1,-2]),(4,[-1,-2])]:=by kernel_rfl
 have h2:alwL [1,-2]=false:=alwL_no (by decide)
 have h3:alwL [-1,-2]=false:=alwL_no (by decide)
 rw[h1]
 have e1:candB 2 [1,2]=false:=by kernel_rfl
 have e2:candB 2 [-1,2]=false:=by kernel_rfl
 have e3:candB 2 [1,-2]=true:=by
  unfold candB
  rw[h2]
  kernel_rfl
 have e4:candB 2 [-1,-2]=true:=by
  unfold candB
  rw[h3]
  kernel_rfl
 simp[ratWant,e1,e2,e3,e4]
theorem ex_less:runGo (ckrNew fourC) [⟨false,5,[2],[1]⟩,exB] 0=(ckrNew fourC,0,92):=by
 have h1:ratGrp (ckrNew fourC).ents 2 []=(3,92):=by
  unfold ratGrp
  rw[ex_want]
  rfl
 have h2:ratP (ckrNew fourC).ents [2] [1] []=(0,3,92):=by
  have g1:alwL [2]=false:=by kernel_rfl
  have g2:(ratFol (ckrNew fourC).ents (asmL [2]) [1]).2=(false,0,0):=by kernel_rfl
  unfold ratP
  rw[if_neg (by rw[g1];decide),if_neg (by rw[g2];decide),if_neg (by rw[g2];decide)]
  show(if(ratGrp (ckrNew fourC).ents 2 []).2≠0 then _ else _)=_
  rw[h1]
  rfl
 have h3:ckAdd (ckrNew fourC).ents [2] [1]=(0,3,92):=by
  have g1:ckFol (ckrNew fourC).ents [2] [1]=(false,0,0):=by kernel_rfl
  unfold ckAdd
  rw[show splitL [1]=([1],[])from by kernel_rfl,g1,if_neg (by decide),if_neg (by decide)]
  exact h2
 have h4:(ckrNew fourC).do_ ⟨false,5,[2],[1]⟩=(ckrNew fourC,0,3,92):=by
  unfold Ckr.do_
  rw[if_neg (by decide),if_neg (by decide),if_neg (by decide),if_neg (by decide)]
  simp only[h3]
  rfl
 unfold runGo
 rw[if_neg (by decide),h4]
 rfl
theorem ex_early:runGo (ckrNew fourC) [⟨false,4,[2],[1,2]⟩,exB] 0=(ckrNew fourC,0,100):=by kernel_rfl
theorem ex_gone:(runRep (runGo (ckrNew fourC) [exA,⟨true,5,[],[3]⟩,exB] 0),(runGo (ckrNew fourC) [exA,⟨true,5,[],[3]⟩,exB] 0).2.1,runE (runGo (ckrNew fourC) [exA,⟨true,5,[],[3]⟩,exB] 0))=(.agg #[.bool false,.int .i64 0,.int .i64 0,.int .i64 0,.int .i64 0],2,91):=by kernel_rfl
theorem ex_zero:(runRep (runGo (ckrNew [[]]) [] 0),(runGo (ckrNew [[]]) [] 0).2.1,runE (runGo (ckrNew [[]]) [] 0))=(.agg #[.bool true,.int .i64 0,.int .i64 0,.int .i64 0,.int .i64 1],0,0):=by kernel_rfl
def exM:List EStep:= [⟨false,5,[1,2],[1]⟩,⟨false,6,[2],[1,2]⟩,⟨false,7,[],[6,3,4]⟩]
theorem ex_chk:chkP [1,2] [[1,2]]=([],1,0):=by
 have x1:sortL [1,2]= [1,2]:=List.mergeSort_of_pairwise (by decide)
 have x2:sortL [-1,-2]= [-1,-2]:=List.mergeSort_of_pairwise (by decide)
 have x3:asmL [1,2]= [-1,-2]:=by
  unfold asmL normL
  rw[x1]
  exact x2
 have x4:alwL [1,2]=false:=alwL_no (by decide)
 have x5:asgF [-1,-2]=some (putF (putF (fun _=>0) (-1)) (-2)):=by rfl
 unfold chkP
 rw[x4,x3,x5]
 rfl
def exK:Ckr:=⟨[(1,[1,2]),(2,[-1,2]),(3,[1,-2]),(4,[-1,-2]),(5,[1,2])],5,false,1,0,0,5⟩
theorem ex_do:(ckrNew fourC).do_ ⟨false,5,[1,2],[1]⟩=(exK,1,0,0):=by
 have g0:ckNamed (ckrNew fourC).ents [1]= [[1,2]]:=by kernel_rfl
 have g1:ckFol (ckrNew fourC).ents [1,2] [1]=(true,0,0):=by
  unfold ckFol
  rw[g0,ex_chk]
  rfl
 have g2:ckAdd (ckrNew fourC).ents [1,2] [1]=(1,0,0):=by
  unfold ckAdd
  rw[show splitL [1]=([1],[])from by kernel_rfl,g1]
  rfl
 unfold Ckr.do_
 rw[if_neg (by decide),if_neg (by decide),if_neg (by decide),if_neg (by decide)]
 simp only[g2]
 rfl
theorem ex_trm2:trmGo exK [⟨false,6,[2],[1,2]⟩,⟨false,7,[],[6,3,4]⟩] 1 [⟨false,5,[1,2],[1]⟩]=([⟨false,5,[1,2],[1]⟩,⟨false,6,[2],[1,2]⟩,⟨false,7,[],[6,3,4]⟩],3,true):=by kernel_rfl
theorem ex_run2:runE (runGo exK [⟨false,6,[2],[1,2]⟩,⟨false,7,[],[6,3,4]⟩] 1)=0:=by kernel_rfl
theorem ex_trm:trmGo (ckrNew fourC) exM 0 []=(exM,3,true):=by
 have g0:ckNamed (ckrNew fourC).ents [1]= [[1,2]]:=by kernel_rfl
 have g1:trimS (ckrNew fourC) ⟨false,5,[1,2],[1]⟩=⟨false,5,[1,2],[1]⟩:=by
  unfold trimS trimP
  simp only[show splitL [1]=([1],[])from by kernel_rfl,g0,ex_chk]
  rfl
 unfold exM trmGo
 rw[if_neg (by decide),ex_do,if_neg (by decide)]
 simp only[if_true,g1]
 show trmGo exK [⟨false,6,[2],[1,2]⟩,⟨false,7,[],[6,3,4]⟩] 1 [⟨false,5,[1,2],[1]⟩]=_
 exact ex_trm2
theorem ex_run:runE (runGo (ckrNew fourC) exM 0)=0:=by
 unfold exM runGo
 rw[if_neg (by decide),ex_do]
 exact ex_run2
theorem ex_bk:bkL exM= [⟨false,6,[2],[1,2]⟩,⟨false,7,[],[6,3,4]⟩]:=by kernel_rfl
end Go.Proofs.YtajbmjpodeilpaaGreatDoor
namespace Go.Proofs.YtajbmjpodeilpaaGreatDoor
open Go.RowKit
theorem blk_cell {w:World} {g j:Nat} {us:List Value} {t:TypeId} {z:Nat×Nat} {u:Value} (h:w.heap[g]? =some (.cells us.toArray t z)) (hu:us[j]? =some u):w.cell? ⟨g,j,none⟩=some u:=by
 simp[World.cell?,h,hu]
theorem ints_blk {O:Nat→Prop} {w:World} {g:Nat} {xs:List Int} {t:TypeId} {z:Nat×Nat} (h:w.heap[g]? =some (.cells (xs.map (Value.int .i64)).toArray t z)) (hO:O g):IntsIn O w (.slice (some ⟨g,0,none⟩) xs.length xs.length) xs:=
 ⟨_,_,rfl,Nat.le_refl _,(fun h=>by cases h),fun i x hi=>⟨g,0,rfl,heap_lt h,hO,by
  rw[Nat.zero_add]
  exact blk_cell h (by rw[List.getElem?_map,hi];rfl)⟩⟩
theorem cls_blk {O:Nat→Prop} {w:World} {g:Nat} {us:List Value} {cs:List (List Int)} {t:TypeId} {z:Nat×Nat} (h:w.heap[g]? =some (.cells us.toArray t z)) (hO:O g) (hx: ∀(i:Nat) (c:List Int),cs[i]? =some c→∃u,us[i]? =some u∧IntsIn O w u c):ClsIn O w (.slice (some ⟨g,0,none⟩) cs.length cs.length) cs:=
 ⟨_,_,rfl,Nat.le_refl _,(fun h=>by cases h),fun i c hi=>by
  obtain⟨u,h1,h2⟩:=hx i c hi
  exact⟨g,0,u,rfl,heap_lt h,hO,by rw[Nat.zero_add];exact blk_cell h h1,h2⟩⟩
def rcell (x:EStep×Value×Value):List Value:= [.bool x.1.del,.int .i64 x.1.id,x.2.1,x.2.2]
theorem rcell_at: ∀(K:List (EStep×Value×Value)) (i:Nat) (x:EStep×Value×Value),K[i]? =some x→(K.flatMap rcell)[i*4]? =some (.bool x.1.del)∧(K.flatMap rcell)[i*4+1]? =some (.int .i64 x.1.id)∧(K.flatMap rcell)[i*4+2]? =some x.2.1∧(K.flatMap rcell)[i*4+3]? =some x.2.2
 | [],i,x,h=>by simp at h
 | y::K,0,x,h=>by
  obtain rfl:y=x:=by simpa using h
  exact⟨rfl,rfl,rfl,rfl⟩
 | y::K,i+1,x,h=>by
  have:=rcell_at K i x (by simpa using h)
  rw[show(i+1)*4=i*4+4 by omega]
  exact this
theorem step_blk {O:Nat→Prop} {w:World} {g:Nat} {K:List (EStep×Value×Value)} {t:TypeId} {z:Nat×Nat} (h:w.heap[g]? =some (.cells (K.flatMap rcell).toArray t z)) (hO:O g) (hx: ∀x∈K,IntsIn O w x.2.1 x.1.lits∧IntsIn O w x.2.2 x.1.hints):StepIn O w (.slice (some ⟨g,0,none⟩) K.length K.length) (K.map Prod.fst):=
 ⟨_,_,by rw[List.length_map],by rw[List.length_map];exact Nat.le_refl _,(fun h=>by cases h),fun i s hi=>by
  rw[List.getElem?_map]at hi
  cases hk:K[i]? with
  | none=>rw[hk]at hi;cases hi
  | some x=>
   rw[hk]at hi
   obtain rfl:=Option.some.inj hi
   obtain⟨e0,e1,e2,e3⟩:=rcell_at K i x hk
   obtain⟨h1,h2⟩:=hx x (List.mem_of_getElem? hk)
   exact⟨g,0,x.2.1,x.2.2,rfl,heap_lt h,hO,by rw[Nat.zero_add];exact blk_cell h e0,by rw[Nat.zero_add];exact blk_cell h e1,by rw[Nat.zero_add];exact blk_cell h e2,by rw[Nat.zero_add];exact blk_cell h e3,h1,h2⟩⟩
theorem res_cell01 {fn:Func} (h:fn.results= #[.cell 0 24,.tmp 1]) {w:World} {r:Nat} {c0 c1:Value} {t:TypeId} (hb:w.heap[r]? =some (.cells #[c0,c1] t (0,0))) (tmps:Array Value) (t0:tmps[0]?.getD undef= .pointer (some ⟨r,0,none⟩)):
  (results fn tmps).run Tryz.prog w= .ok (.tuple #[.agg #[c0,c1],tmps[1]?.getD undef]) w:=by
 have p0:w.cell? ⟨r,0,none⟩=some c0:=mx_cell (j:=0) hb
 have p1:w.cell? ⟨r,1,none⟩=some c1:=mx_cell (j:=1) hb
 simp[results,h,go_sem,t0,p0,p1]
set_option maxRecDepth 100000 in
set_option maxHeartbeats 4000000 in
theorem four_any (w:World):Calls Tryz.prog 10 #[] w fun e w'=> ∃gl gs,e= .returned (.tuple #[.agg #[.int .i64 2,.slice (some ⟨gl,0,none⟩) 4 4],.slice (some ⟨gs,0,none⟩) 2 2])∧ClsIn (fun _=>True) w' (.slice (some ⟨gl,0,none⟩) 4 4) fourC∧StepIn (fun _=>True) w' (.slice (some ⟨gs,0,none⟩) 2 2) [exA,exB]∧Below w.heap.size w w':=by
 obtain⟨W1,hW1,hb1,hc1,hz1⟩:=al_new w #[.int .i64 2,.slice (some ⟨w.heap.size+1+1+1+1+1,0,none⟩) 4 4] 24
 have B1:Below w.heap.size w W1:=hb1
 obtain⟨W2,hW2,hb2,hc2,hz2⟩:=al_new W1 #[.int .i64 1,.int .i64 2] 28
 rw[hz1]at hc2 hz2
 have B2:Below (w.heap.size+1) W1 W2:=by rw[←hz1];exact hb2
 obtain⟨W3,hW3,hb3,hc3,hz3⟩:=al_new W2 #[.int .i64 (-1),.int .i64 2] 28
 rw[hz2]at hc3 hz3
 have B3:Below (w.heap.size+1+1) W2 W3:=by rw[←hz2];exact hb3
 obtain⟨W4,hW4,hb4,hc4,hz4⟩:=al_new W3 #[.int .i64 1,.int .i64 (-2)] 28
 rw[hz3]at hc4 hz4
 have B4:Below (w.heap.size+1+1+1) W3 W4:=by rw[←hz3];exact hb4
 obtain⟨W5,hW5,hb5,hc5,hz5⟩:=al_new W4 #[.int .i64 (-1),.int .i64 (-2)] 28
 rw[hz4]at hc5 hz5
 have B5:Below (w.heap.size+1+1+1+1) W4 W5:=by rw[←hz4];exact hb5
 obtain⟨W6,hW6,hb6,hc6,hz6⟩:=al_new W5 #[.slice (some ⟨w.heap.size+1,0,none⟩) 2 2,.slice (some ⟨w.heap.size+1+1,0,none⟩) 2 2,.slice (some ⟨w.heap.size+1+1+1,0,none⟩) 2 2,.slice (some ⟨w.heap.size+1+1+1+1,0,none⟩) 2 2] 30
 rw[hz5]at hc6 hz6
 have B6:Below (w.heap.size+1+1+1+1+1) W5 W6:=by rw[←hz5];exact hb6
 obtain⟨W7,hW7,hb7,hc7,hz7⟩:=al_new W6 #[.int .i64 2] 28
 rw[hz6]at hc7 hz7
 have B7:Below (w.heap.size+1+1+1+1+1+1) W6 W7:=by rw[←hz6];exact hb7
 obtain⟨W8,hW8,hb8,hc8,hz8⟩:=al_new W7 #[.int .i64 1,.int .i64 2] 3
 rw[hz7]at hc8 hz8
 have B8:Below (w.heap.size+1+1+1+1+1+1+1) W7 W8:=by rw[←hz7];exact hb8
 obtain⟨W9,hW9,hb9,hc9,hz9⟩:=al_new W8 #[.int .i64 5,.int .i64 3,.int .i64 4] 3
 rw[hz8]at hc9 hz9
 have B9:Below (w.heap.size+1+1+1+1+1+1+1+1) W8 W9:=by rw[←hz8];exact hb9
 obtain⟨W10,hW10,hb10,hc10,hz10⟩:=al_new W9 #[.bool false,.int .i64 5,.slice (some ⟨w.heap.size+1+1+1+1+1+1,0,none⟩) 1 1,.slice (some ⟨w.heap.size+1+1+1+1+1+1+1,0,none⟩) 2 2,.bool false,.int .i64 6,.slice none 0 0,.slice (some ⟨w.heap.size+1+1+1+1+1+1+1+1,0,none⟩) 3 3] 34
 rw[hz9]at hc10 hz10
 have B10:Below (w.heap.size+1+1+1+1+1+1+1+1+1) W9 W10:=by rw[←hz9];exact hb10
 clear hb1 hb2 hb3 hb4 hb5 hb6 hb7 hb8 hb9 hb10
 have T9:=B10
 have T8:=B9.trans (T9.mono (by omega))
 have T7:=B8.trans (T8.mono (by omega))
 have T6:=B7.trans (T7.mono (by omega))
 have T5:=B6.trans (T6.mono (by omega))
 have T4:=B5.trans (T5.mono (by omega))
 have T3:=B4.trans (T4.mono (by omega))
 have T2:=B3.trans (T3.mono (by omega))
 have T1:=B2.trans (T2.mono (by omega))
 have T0:=B1.trans (T1.mono (by omega))
 have D1:=((T1.block _ (by omega)).trans hc1)
 have D2:=((T2.block _ (by omega)).trans hc2)
 have D3:=((T3.block _ (by omega)).trans hc3)
 have D4:=((T4.block _ (by omega)).trans hc4)
 have D5:=((T5.block _ (by omega)).trans hc5)
 have D6:=((T6.block _ (by omega)).trans hc6)
 have D7:=((T7.block _ (by omega)).trans hc7)
 have D8:=((T8.block _ (by omega)).trans hc8)
 have D9:=((T9.block _ (by omega)).trans hc9)
 have D10:=hc10
 have HCL:=Lib.hid (show ClsIn (fun _=>True) W10 (.slice (some ⟨w.heap.size+1+1+1+1+1,0,none⟩) 4 4) fourC from cls_blk (us:= [.slice (some ⟨w.heap.size+1,0,none⟩) 2 2,.slice (some ⟨w.heap.size+1+1,0,none⟩) 2 2,.slice (some ⟨w.heap.size+1+1+1,0,none⟩) 2 2,.slice (some ⟨w.heap.size+1+1+1+1,0,none⟩) 2 2]) (cs:=fourC) D6 trivial (fun i c hi=>by
  match i,hi with
  | 0,hi=>cases hi;exact⟨_,rfl,ints_blk (xs:= [1,2]) D2 trivial⟩
  | 1,hi=>cases hi;exact⟨_,rfl,ints_blk (xs:= [-1,2]) D3 trivial⟩
  | 2,hi=>cases hi;exact⟨_,rfl,ints_blk (xs:= [1,-2]) D4 trivial⟩
  | 3,hi=>cases hi;exact⟨_,rfl,ints_blk (xs:= [-1,-2]) D5 trivial⟩
  | n+4,hi=>exact absurd hi (by simp[fourC])))
 have HST:=Lib.hid (show StepIn (fun _=>True) W10 (.slice (some ⟨w.heap.size+1+1+1+1+1+1+1+1+1,0,none⟩) 2 2) [exA,exB]from step_blk (K:= [(exA,.slice (some ⟨w.heap.size+1+1+1+1+1+1,0,none⟩) 1 1,.slice (some ⟨w.heap.size+1+1+1+1+1+1+1,0,none⟩) 2 2),(exB,.slice none 0 0,.slice (some ⟨w.heap.size+1+1+1+1+1+1+1+1,0,none⟩) 3 3)]) D10 trivial (fun x hx=>by
  rcases List.mem_cons.1 hx with rfl|hx
  ·exact⟨ints_blk (xs:= [2]) D7 trivial,ints_blk (xs:= [1,2]) D8 trivial⟩
  ·obtain rfl:=List.mem_singleton.1 hx
   exact⟨IntsIn.nil _ _,ints_blk (xs:= [5,3,4]) D9 trivial⟩))
 have HD1:=Lib.hid D1
 have HB:=Lib.hid T0
 have HW1:=Lib.hid hW1
 have HW2:=Lib.hid hW2
 have HW3:=Lib.hid hW3
 have HW4:=Lib.hid hW4
 have HW5:=Lib.hid hW5
 have HW6:=Lib.hid hW6
 have HW7:=Lib.hid hW7
 have HW8:=Lib.hid hW8
 have HW9:=Lib.hid hW9
 have HW10:=Lib.hid hW10
 clear hW1 hc1 hz1 B1 hW2 hc2 hz2 B2 hW3 hc3 hz3 B3 hW4 hc4 hz4 B4 hW5 hc5 hz5 B5 hW6 hc6 hz6 B6 hW7 hc7 hz7 B7 hW8 hc8 hz8 B8 hW9 hc9 hz9 B9 hW10 hc10 hz10 B10 T0 T1 T2 T3 T4 T5 T6 T7 T8 T9 D1 D2 D3 D4 D5 D6 D7 D8 D9 D10
 go_enter Tryz.func10,Tryz.ntmps10
 go_wp2_with fail
 rw[HW1.out,HW2.out,HW3.out,HW4.out,HW5.out,HW6.out,HW7.out,HW8.out,HW9.out,HW10.out]
 have e0:=mx_cell (j:=0) HD1.out
 have e1:=mx_cell (j:=1) HD1.out
 refine bodyPost_ret (res_cell01 rfl HD1.out _ rfl) rfl ?_
 exact⟨_,_,rfl,HCL.out,HST.out,HB.out⟩
end Go.Proofs.YtajbmjpodeilpaaGreatDoor
namespace Go.Proofs.YtajbmjpodeilpaaGreatDoor
open Go.RowKit
section
variable {O:Nat→Prop} {n:Int} {lv:Value} {cs:List (List Int)} {E:Nat}
set_option maxHeartbeats 1000000 in
theorem new_bad (w:World) (h:ClsIn O w lv cs) (hc: ∀c∈cs,c.length≤100000000000) (hf:(fchk n cs).2=E) (hE:E≠0):
  Calls Tryz.prog 28 #[.agg #[.int .i64 n,lv]] w fun e w'=>e= .returned (.tuple #[.pointer none,.int .i64 (E:Nat)])∧Below w.heap.size w w':=by
 obtain⟨W,hW,hb,hbn,-⟩:=al_new w #[.int .i64 n,lv] 24
 have b0:W.cell? ⟨w.heap.size,0,none⟩=some (.int .i64 n):=mx_cell (j:=0) hbn
 have b1:W.cell? ⟨w.heap.size,1,none⟩=some lv:=mx_cell (j:=1) hbn
 have HCH:=form_check n lv cs W (h.below hb) hc
 obtain⟨fi,hfi⟩: ∃fi,(fchk n cs).1=fi:=⟨_,rfl⟩
 rw[hf,hfi]at HCH
 have HCH:=Lib.hid HCH
 have HW:=Lib.hid hW
 have HB:=Lib.hid hb
 have q0:((E:Int)==0)=false:=beq_eq_false_iff_ne.2 (by omega)
 have q1:((E:Int) != 0)=true:=by rw[bne,q0];rfl
 obtain⟨A,c,rfl,hcc,_⟩:=h
 clear hb hf hbn hc hfi hW
 go_enter Tryz.func28,Tryz.ntmps28
 go_upto_region 1 with fail
 rw[HW.out]
 go_wp2_with fail
 refine HCH.out.mono ?_
 rintro e w1 ⟨rfl,hb1⟩
 have HB1:=Lib.hid (HB.out.trans (hb1.mono HB.out.size))
 clear hb1 HCH
 go_wp2_with fail
 refine bodyPost_ret (v:=.tuple #[.pointer none,.int .i64 (E:Nat)]) (by simp[results,Tryz.results28,go_sem]) rfl ?_
 exact⟨rfl,HB1.out⟩
set_option maxHeartbeats 1000000 in
theorem check_bad (sv:Value) (w:World) (h:ClsIn O w lv cs) (hc: ∀c∈cs,c.length≤100000000000) (hf:(fchk n cs).2=E) (hE:E≠0):
  Calls Tryz.prog 25 #[.agg #[.int .i64 n,lv],sv] w fun e w'=>e= .returned (.tuple #[repZ,.int .i64 0,.int .i64 (E:Nat)])∧Below w.heap.size w w':=by
 obtain⟨W0,hW0,hb0,hbf,hz0⟩:=al_new w #[.int .i64 n,lv] 24
 obtain⟨W1,hW1,hb1,hbr,hz1⟩:=al_new W0 #[.bool false,.int .i64 0,.int .i64 0,.int .i64 0,.int .i64 0] 45
 rw[hz0]at hbr
 have hbf1:=(hb1.block _ (heap_lt hbf)).trans hbf
 have b0:W1.cell? ⟨w.heap.size,0,none⟩=some (.int .i64 n):=mx_cell (j:=0) hbf1
 have b1:W1.cell? ⟨w.heap.size,1,none⟩=some lv:=mx_cell (j:=1) hbf1
 have hbw:Below w.heap.size w W1:=hb0.trans (hb1.mono (by omega))
 have HNEW:=Lib.hid (new_bad (n:=n) W1 (h.below hbw) hc hf hE)
 have HBR:=Lib.hid hbr
 have HBW:=Lib.hid hbw
 obtain⟨A,c,rfl,hcc,_⟩:=h
 have HW0:=Lib.hid hW0
 have HW1:=Lib.hid hW1
 have q0:((E:Int)==0)=false:=beq_eq_false_iff_ne.2 (by omega)
 have q1:((E:Int) != 0)=true:=by rw[bne,q0];rfl
 clear hb0 hb1 hbf hbf1 hbr hbw hf hW0 hW1 hc hz1
 go_enter Tryz.func25,Tryz.ntmps25
 go_upto_region 1 with fail
 try rw[HW0.out]
 try rw[HW1.out]
 go_wp2_with fail
 refine wp_scope_straight ?_
 go_wp2_with fail
 refine HNEW.out.mono ?_
 rintro e w2 ⟨rfl,hb2⟩
 have hbx:=(hb2.block _ (heap_lt HBR.out)).trans HBR.out
 have hlow:=HBW.out.trans (hb2.mono HBW.out.size)
 have r0:=mx_cell (j:=0) hbx
 have r1:=mx_cell (j:=1) hbx
 have r2:=mx_cell (j:=2) hbx
 have r3:=mx_cell (j:=3) hbx
 have r4:=mx_cell (j:=4) hbx
 have f0:=free_at (j:=0) hbx
 have f1:=free_at (j:=1) hbx
 have f2:=free_at (j:=2) hbx
 have f3:=free_at (j:=3) hbx
 have f4:=free_at (j:=4) hbx
 obtain⟨wy,hwy,hby,hky⟩:=five_setR hbx (.bool false) (.int .i64 0) (.int .i64 0) (.int .i64 0) (.int .i64 0)
 have HBY:=Lib.hid hby
 have HFIN:=Lib.hid (hlow.trans (hky.below (fun i e=>by rw[e];exact Nat.le_succ _) hlow.size))
 clear hbx hlow hky hby hb2 HNEW b0 b1
 go_wp2_with fail
 try rw[hwy]
 try rw[Exit.noGoto_ret]
 refine bodyPost_ret (res_chk456 rfl HBY.out _ rfl) rfl ?_
 exact⟨rfl,HFIN.out⟩
end
end Go.Proofs.YtajbmjpodeilpaaGreatDoor
namespace Go.Proofs.YtajbmjpodeilpaaGreatDoor
open Go.RowKit
def TR (vn:Int) (cs:List (List Int)) (ss:List EStep):List EStep×Int×Nat:=
 if(fchk vn cs).2≠0 then([],0,(fchk vn cs).2)else
 if runE (runGo (ckrNew cs) ss 0)≠0 then([],((runGo (ckrNew cs) ss 0).2.1:Nat),runE (runGo (ckrNew cs) ss 0))else
 if(trmGo (ckrNew cs) ss 0 []).2.2=false then([],((trmGo (ckrNew cs) ss 0 []).2.1:Nat),102)else
 (bkL (trmGo (ckrNew cs) ss 0 []).1,-1,0)
theorem stepIn_none (O:Nat→Prop) (w:World):StepIn O w (.slice none 0 0) []:=⟨none,0,rfl,Nat.le_refl _,fun _=>rfl,fun i p hi=>by simp at hi⟩
theorem check_all {O O':Nat→Prop} (vn:Int) (u v:Value) (cs:List (List Int)) (ss:List EStep) (w:World) (h:ClsIn O w u cs) (h':StepIn O' w v ss) (hl:cs.length≤1000) (hcl: ∀c∈cs,c.length≤1000) (hsl:ss.length≤1000) (hss: ∀s∈ss,s.lits.length≤1000∧s.hints.length≤1000):
  Calls Tryz.prog 25 #[.agg #[.int .i64 vn,u],v] w fun e w'=>e= .returned (rcOut vn cs ss)∧Below w.heap.size w w':=by
 unfold rcOut
 by_cases hE:(fchk vn cs).2≠0
 ·rw[if_pos hE]
  exact check_bad v w h (fun c hc=>by have:=hcl c hc;omega) rfl hE
 ·rw[if_neg hE]
  obtain⟨h1,h2⟩:=fchk_zero (n:=vn) (cs:=cs) (by omega)
  exact proof_check vn u v cs ss w h h2 hl h1 h' hsl (fun s hs=>by have:=hss s hs;omega)
def WriA (w:World) (g n:Nat):Prop:= ∃cs T,w.heap[g]? =some (.cells cs T (0,0))∧n≤cs.size
theorem WriA.cell {w:World} {g n:Nat} (h:WriA w g n) {i:Nat} (hi:i<n):(∃v,w.cell? ⟨g,i,none⟩=some v)∧w.frozen? ⟨g,i,none⟩=false:=by
 obtain⟨cs,T,h1,h2⟩:=h
 refine⟨⟨cs[i]'(by omega),?_⟩,free_of5 h1⟩
 rw[mx_cell h1]
 exact Array.getElem?_eq_getElem (by omega)
theorem WriA.set {w:World} {g n:Nat} (h:WriA w g n) (b j:Nat) (v:Value):WriA (w.setCell ⟨b,j,none⟩ v) g n:=by
 obtain⟨cs,T,h1,h2⟩:=h
 by_cases hb:g=b
 ·subst hb
  exact⟨_,T,mx_set h1 v,by simpa using h2⟩
 ·exact⟨cs,T,(Below.heap_setCell _ _ _ _ hb).trans h1,h2⟩
theorem WriA.below {w w':World} {g n:Nat} (h:WriA w g n) (k:Below w.heap.size w w'):WriA w' g n:=by
 obtain⟨cs,T,h1,h2⟩:=h
 exact⟨cs,T,(k.block g (heap_lt h1)).trans h1,h2⟩
def RowsOf (K:List StV) (g:Nat):Prop:= ∃x∈K,(Value.slice x.2.1.1 x.1.lits.length x.2.1.2).ownBlock=some g∨(Value.slice x.2.2.1 x.1.hints.length x.2.2.2).ownBlock=some g
structure WriS (w:World) (K:List StV):Prop where
 lit: ∀x∈K,∀g,(Value.slice x.2.1.1 x.1.lits.length x.2.1.2).ownBlock=some g→WriA w g x.1.lits.length
 hnt: ∀x∈K,∀g,(Value.slice x.2.2.1 x.1.hints.length x.2.2.2).ownBlock=some g→WriA w g x.1.hints.length
theorem WriS.set {w:World} {K:List StV} (h:WriS w K) (b j:Nat) (v:Value):WriS (w.setCell ⟨b,j,none⟩ v) K:=⟨fun x hx g hg=>(h.lit x hx g hg).set b j v,fun x hx g hg=>(h.hnt x hx g hg).set b j v⟩
theorem WriS.below {w w':World} {K:List StV} (h:WriS w K) (k:Below w.heap.size w w'):WriS w' K:=⟨fun x hx g hg=>(h.lit x hx g hg).below k,fun x hx g hg=>(h.hnt x hx g hg).below k⟩
theorem StMem.apart {n0:Nat} {w:World} {v:Value} {K:List StV} (h:StMem n0 w v K): ∀g,v.ownBlock=some g→¬RowsOf K g:=by
 rintro g hg ⟨x,hx,hy|hy⟩
 ·obtain⟨c1,h1⟩:=own_type h.row g hg
  obtain⟨c2,h2⟩:=own_type (h.lit x hx) g hy
  rw[h1]at h2
  cases h2
 ·obtain⟨c1,h1⟩:=own_type h.row g hg
  obtain⟨c2,h2⟩:=own_type (h.hnt x hx) g hy
  rw[h1]at h2
  cases h2
end Go.Proofs.YtajbmjpodeilpaaGreatDoor
namespace Go.Proofs.YtajbmjpodeilpaaGreatDoor
open Go.RowKit
theorem itoa_pos (n:Int):1≤(Lib.itoa n).length:=by
 rcases head_itoa n with⟨_,h⟩|⟨_,b,h,_⟩
 ·cases hl:Lib.itoa n with
  | nil=>rw[hl]at h;cases h
  | cons a r=>exact Nat.succ_le_succ (Nat.zero_le _)
 ·cases hl:Lib.itoa n with
  | nil=>rw[hl]at h;cases h
  | cons a r=>exact Nat.succ_le_succ (Nat.zero_le _)
theorem numsT_ge: ∀l:List Int,l.length≤(numsT l).length
 | []=>Nat.zero_le _
 | n::l=>by
  rw[show numsT (n::l)=numT n++numsT l from List.flatMap_cons,List.length_append,List.length_cons]
  have h1:=numsT_ge l
  have h2:=itoa_pos n
  have h3:(numT n).length=(Lib.itoa n).length+1:=rfl
  omega
theorem stepT_ge {s:EStep} (h:s.del=true→s.lits= []):s.lits.length≤(stepT s).length∧s.hints.length≤(stepT s).length:=by
 have h1:=numsT_ge s.lits
 have h2:=numsT_ge s.hints
 unfold stepT
 cases hd:s.del with
 | true=>
  rw[if_pos rfl,List.length_append,List.length_append,h hd]
  exact⟨Nat.zero_le _,by omega⟩
 | false=>
  rw[if_neg (by decide),List.length_append,List.length_append,List.length_append,List.length_append]
  exact⟨by omega,by omega⟩
def ShortS (m:Nat) (s:EStep):Prop:=s.lits.length≤m∧s.hints.length≤m∧∀x∈s.hints,-9223372036854775808≤x∧x≤9223372036854775807
theorem parse_short {t:List UInt8} {s:EStep} (h:parseF t=some s):ShortS t.length s:=by
 rw[←rParse_eq]at h
 obtain⟨h1,h2⟩:=rParse_some h
 obtain⟨_,hd,_,hp⟩:=stepB_prts h1
 obtain⟨h3,h4⟩:=stepT_ge hd
 rw[h2]at h3 h4
 refine⟨h3,h4,fun x hx=>?_⟩
 have:=hp.2 x hx
 omega
theorem readGo_short (m:Nat): ∀(L:List (List UInt8)) (i:Nat) (out:List EStep) (z:Int),(∀x∈L,x.length≤m)→(∀s∈out,ShortS m s)→(readGo i L out z).1.length≤out.length+L.length∧∀s∈(readGo i L out z).1,ShortS m s
 | [],i,out,z,_,h=>⟨Nat.le_refl _,h⟩
 | x::L,i,out,z,hL,h=>by
  have hLr: ∀y∈L,y.length≤m:=fun y hy=>hL y (List.mem_cons_of_mem _ hy)
  rw[readGo]
  split
  ·have:=readGo_short m L (i+1) out z hLr h
   exact⟨by rw[List.length_cons];omega,this.2⟩
  ·split
   ·exact⟨Nat.zero_le _,fun s hs=>by cases hs⟩
   ·rename_i s hs
    split
    ·exact⟨Nat.zero_le _,fun s hs=>by cases hs⟩
    split
    ·exact⟨Nat.zero_le _,fun s hs=>by cases hs⟩
    ·have:=readGo_short m L (i+1) (out++ [s]) s.id hLr fun y hy=>by
      rcases List.mem_append.1 hy with hy|hy
      ·exact h y hy
      ·rw[List.mem_singleton.1 hy]
       obtain⟨h1,h2,h3⟩:=parse_short hs
       have hx:=hL x (List.mem_cons_self ..)
       exact⟨by omega,by omega,h3⟩
     rw[List.length_append,List.length_singleton]at this
     exact⟨by rw[List.length_cons];omega,this.2⟩
theorem readF_short {t:List UInt8} (ht:t.length≤900):(readF t).1.length≤1000∧∀s∈(readF t).1,s.lits.length≤1000∧s.hints.length≤1000∧∀x∈s.hints,-9223372036854775808≤x∧x≤9223372036854775807:=by
 unfold readF
 rw[if_neg (by omega)]
 have h1:=spl_len 10 t
 obtain⟨h2,h3⟩:=readGo_short t.length (spl 10 t) 0 [] 0 (spl_word 10 t) (fun s hs=>by cases hs)
 refine⟨by simp only[List.length_nil]at h2;omega,fun s hs=>?_⟩
 obtain⟨h4,h5,h6⟩:=h3 s hs
 exact⟨by omega,by omega,h6⟩
def txOut (vn:Int) (cs:List (List Int)) (t:List UInt8):Value:=
 if(fchk vn cs).2≠0 then .tuple #[repZ,.int .i64 0,.int .i64 ((fchk vn cs).2:Nat)]
 else if(readF t).2.2≠0 then .tuple #[repZ,.int .i64 ((readF t).2.1:Nat),.int .i64 ((readF t).2.2:Nat)]
 else rcOut vn cs (readF t).1
end Go.Proofs.YtajbmjpodeilpaaGreatDoor
namespace Go.Proofs.YtajbmjpodeilpaaGreatDoor
open Go.RowKit
theorem TSt.at {O:Nat→Prop} {B0 B1:Nat} {w:World} {A:Option Addr} {n c:Nat} {K:List StV} (h:TSt O B0 B1 w (.slice A n c) K) {i:Nat} {x:StV} (hx:K[i]? =some x): ∃g,A=some ⟨g,0,none⟩∧g<w.heap.size∧B1≤g∧w.cell? ⟨g,i*4,none⟩=some (.bool x.1.del)∧w.cell? ⟨g,i*4+1,none⟩=some (.int .i64 x.1.id)∧w.cell? ⟨g,i*4+2,none⟩=some (Value.slice x.2.1.1 x.1.lits.length x.2.1.2)∧w.cell? ⟨g,i*4+3,none⟩=some (Value.slice x.2.2.1 x.1.hints.length x.2.2.2):=by
 have hrow:=h.row
 obtain⟨e0,e1,e2,e3⟩:=stcell_at K i x hx
 have hil:=(List.getElem?_eq_some_iff.1 hx).1
 rcases hrow.2 with⟨h0,h1⟩|⟨g,cap,cur,hv,hb,hg,hle,_⟩
 ·omega
 ·simp only[Value.slice.injEq]at hv
  obtain⟨rfl,rfl,rfl⟩:=hv
  exact⟨g,rfl,heap_lt hg,hb,mx_at hrow e0,mx_at hrow e1,mx_at hrow e2,mx_at hrow e3⟩
theorem rc_agg (vn:Int) (cs:List (List Int)) (ss:List EStep): ∃(a:Bool) (b c d e:Int) (n E:Nat),rcOut vn cs ss= .tuple #[.agg #[.bool a,.int .i64 b,.int .i64 c,.int .i64 d,.int .i64 e],.int .i64 (n:Nat),.int .i64 (E:Nat)]∧
  (((fchk vn cs).2≠0∧n=0∧E=(fchk vn cs).2)∨((fchk vn cs).2=0∧n=(runGo (ckrNew cs) ss 0).2.1∧E=runE (runGo (ckrNew cs) ss 0))):=by
 unfold rcOut
 by_cases h:(fchk vn cs).2≠0
 ·rw[if_pos h]
  exact⟨_,_,_,_,_,0,_,rfl,.inl ⟨h,rfl,rfl⟩⟩
 ·rw[if_neg h]
  obtain⟨a,b,c,d,e,h1⟩:=rep_agg (runGo (ckrNew cs) ss 0)
  exact⟨a,b,c,d,e,_,_,by rw[h1],.inr ⟨by omega,rfl,rfl⟩⟩
end Go.Proofs.YtajbmjpodeilpaaGreatDoor
namespace Go.Proofs.YtajbmjpodeilpaaGreatDoor
open Go.RowKit
set_option maxRecDepth 100000 in
set_option maxHeartbeats 8000000 in
theorem text_all {O:Nat→Prop} (vn:Int) (u:Value) (cs:List (List Int)) (t:List UInt8) (w:World) (h:ClsIn O w u cs) (hl:cs.length≤1000) (hcl: ∀c∈cs,c.length≤1000) (ht:t.length≤900) (hT:TabW w) (hM:MaxC w) (hE:ErrC w):
  Calls Tryz.prog 21 #[.agg #[.int .i64 vn,u],.string ⟨t.toArray⟩] w fun e w'=>e= .returned (txOut vn cs t)∧Below w.heap.size w w':=by
 obtain⟨W0,hW0,hb0,hbf,hz0⟩:=al_new w #[.int .i64 vn,u] 24
 obtain⟨W1,hW1,hb1,hbr,hz1⟩:=al_new W0 #[.bool false,.int .i64 0,.int .i64 0,.int .i64 0,.int .i64 0] 45
 rw[hz0]at hbr
 have hbf1:=(hb1.block _ (heap_lt hbf)).trans hbf
 have b0:W1.cell? ⟨w.heap.size,0,none⟩=some (.int .i64 vn):=mx_cell (j:=0) hbf1
 have b1:W1.cell? ⟨w.heap.size,1,none⟩=some u:=mx_cell (j:=1) hbf1
 have hbw:Below w.heap.size w W1:=hb0.trans (hb1.mono (by omega))
 have HCH:=form_check vn u cs W1 (h.below hbw) (fun c hc=>by have:=hcl c hc;omega)
 obtain⟨fi,hfi⟩: ∃fi,(fchk vn cs).1=fi:=⟨_,rfl⟩
 obtain⟨E,hEE⟩: ∃E,(fchk vn cs).2=E:=⟨_,rfl⟩
 rw[hEE,hfi]at HCH
 have HCH:=Lib.hid HCH
 have HBR:=Lib.hid hbr
 have HBF:=Lib.hid hbf1
 have HBW:=Lib.hid hbw
 have HEE:=Lib.hid hEE
 have HTE:=Lib.hid (show∀W,Below w.heap.size w W→TabW W∧MaxC W∧ErrC W from fun W hW=>⟨hT.next hW,hM.below hW,hE.below hW⟩)
 obtain⟨hsl,hss⟩:=readF_short ht
 have HCA:=Lib.hid (fun(Os:Nat→Prop) (v:Value) (X:World) (hX:Below W1.heap.size W1 X) (hv:StepIn Os X v (readF t).1)=>check_all vn u v cs (readF t).1 X ((h.below hbw).below hX) hv hl hcl hsl (fun s hs=>⟨(hss s hs).1,(hss s hs).2.1⟩))
 obtain⟨ra,rb,rc,rd,re,rn,rE,hrc,_⟩:=rc_agg vn cs (readF t).1
 rw[hrc]at HCA
 have HRD:=Lib.hid (fun(X:World) (hX:Below w.heap.size w X)=>read_any t X (HTE.out X hX).1 (HTE.out X hX).2.1 (HTE.out X hX).2.2 (by omega))
 obtain⟨OUT,hOUT⟩: ∃OUT,txOut vn cs t=OUT:=⟨_,rfl⟩
 rw[hOUT]
 unfold txOut at hOUT
 rw[hEE,hrc]at hOUT
 obtain⟨F,hF⟩: ∃F,readF t=F:=⟨_,rfl⟩
 rw[hF]at hOUT HRD HCA
 have HOU:=Lib.hid hOUT
 obtain⟨A,c,rfl,hcc,_⟩:=h
 have HW0:=Lib.hid hW0
 have HW1:=Lib.hid hW1
 have hz1':W1.heap.size=w.heap.size+2:=by omega
 clear hb0 hb1 hbf hbf1 hbr hbw hEE hW0 hW1 hcl hz1 hz0 hfi hOUT hF hrc hsl hss hT hM hE
 go_enter Tryz.func21,Tryz.ntmps21
 go_upto_region 1 with fail
 try rw[HW0.out]
 try rw[HW1.out]
 go_wp2_with fail
 refine HCH.out.mono ?_
 rintro e w2 ⟨rfl,hb2⟩
 have HB2:=Lib.hid hb2
 have HX2:=Lib.hid ((hb2.block _ (heap_lt HBR.out)).trans HBR.out)
 have HF2:=Lib.hid ((hb2.block _ (heap_lt HBF.out)).trans HBF.out)
 have HL2:=Lib.hid (HBW.out.trans (hb2.mono HBW.out.size))
 have hz2:=hb2.size
 clear hb2 HCH b0 b1
 by_cases hE0:E≠0
 ·have q0:((E:Int)==0)=false:=beq_eq_false_iff_ne.2 (by omega)
  have q1:((E:Int) != 0)=true:=by rw[bne,q0];rfl
  have HRN:=Lib.hid (show Value.tuple #[repZ,.int .i64 0,.int .i64 (E:Nat)]=OUT from by have:=HOU.out;rwa [if_pos hE0]at this)
  have r0:=mx_cell (j:=0) HX2.out
  have r1:=mx_cell (j:=1) HX2.out
  have r2:=mx_cell (j:=2) HX2.out
  have r3:=mx_cell (j:=3) HX2.out
  have r4:=mx_cell (j:=4) HX2.out
  have f0:=free_at (j:=0) HX2.out
  have f1:=free_at (j:=1) HX2.out
  have f2:=free_at (j:=2) HX2.out
  have f3:=free_at (j:=3) HX2.out
  have f4:=free_at (j:=4) HX2.out
  obtain⟨wy,hwy,hby,hky⟩:=five_setR HX2.out (.bool false) (.int .i64 0) (.int .i64 0) (.int .i64 0) (.int .i64 0)
  have HBY:=Lib.hid hby
  have HFIN:=Lib.hid (HL2.out.trans (hky.below (fun i e=>by rw[e];exact Nat.le_succ _) HL2.out.size))
  clear hky hby
  go_wp2_with fail
  try rw[hwy]
  try rw[Exit.noGoto_ret]
  refine bodyPost_ret (res_chk456 rfl HBY.out _ rfl) rfl ?_
  refine⟨?_,HFIN.out⟩
  rw[←HRN.out]
  rfl
 have hE00:E=0:=by omega
 subst hE00
 have HO2:=Lib.hid (show(if F.2.2≠0 then Value.tuple #[repZ,.int .i64 (F.2.1:Nat),.int .i64 (F.2.2:Nat)]else Value.tuple #[.agg #[.bool ra,.int .i64 rb,.int .i64 rc,.int .i64 rd,.int .i64 re],.int .i64 (rn:Nat),.int .i64 (rE:Nat)])=OUT from by have:=HOU.out;rwa [if_neg (fun h=>h rfl)]at this)
 have HR2:=Lib.hid (HRD.out w2 HL2.out)
 obtain⟨l,ln,le⟩:=F
 simp only at HO2 HR2 HCA
 clear HRD hE0
 go_wp2_with fail
 refine HR2.out.mono ?_
 rintro e w3 ⟨v,K,rfl,hst,hkm,hb3⟩
 obtain⟨Av,cv,rfl,_⟩:=mx_slice hst.row
 have HB3:=Lib.hid (HB2.out.trans (hb3.mono hz2))
 have HX3:=Lib.hid ((hb3.block _ (heap_lt HX2.out)).trans HX2.out)
 have HF3:=Lib.hid ((hb3.block _ (heap_lt HF2.out)).trans HF2.out)
 have HL3:=Lib.hid (HL2.out.trans (hb3.mono HL2.out.size))
 have HC3:=Lib.hid (HCA.out _ _ w3 HB3.out (by have:=hst.stepIn;rwa [hkm]at this))
 have hz3:=hb3.size
 clear hb3 HR2 HCA hst hkm
 by_cases hle:le≠0
 ·have q0:((le:Int)==0)=false:=beq_eq_false_iff_ne.2 (by omega)
  have q1:((le:Int) != 0)=true:=by rw[bne,q0];rfl
  have HRN:=Lib.hid (show Value.tuple #[repZ,.int .i64 (ln:Nat),.int .i64 (le:Nat)]=OUT from by have:=HO2.out;rwa [if_pos hle]at this)
  have r0:=mx_cell (j:=0) HX3.out
  have r1:=mx_cell (j:=1) HX3.out
  have r2:=mx_cell (j:=2) HX3.out
  have r3:=mx_cell (j:=3) HX3.out
  have r4:=mx_cell (j:=4) HX3.out
  have f0:=free_at (j:=0) HX3.out
  have f1:=free_at (j:=1) HX3.out
  have f2:=free_at (j:=2) HX3.out
  have f3:=free_at (j:=3) HX3.out
  have f4:=free_at (j:=4) HX3.out
  obtain⟨wy,hwy,hby,hky⟩:=five_setR HX3.out (.bool false) (.int .i64 0) (.int .i64 0) (.int .i64 0) (.int .i64 0)
  have HBY:=Lib.hid hby
  have HFIN:=Lib.hid (HL3.out.trans (hky.below (fun i e=>by rw[e];exact Nat.le_succ _) HL3.out.size))
  clear hky hby
  go_wp2_with fail
  try rw[hwy]
  try rw[Exit.noGoto_ret]
  refine bodyPost_ret (res_chk456 rfl HBY.out _ rfl) rfl ?_
  refine⟨?_,HFIN.out⟩
  rw[←HRN.out]
  rfl
 have hle0:le=0:=by omega
 subst hle0
 have HRN:=Lib.hid (show Value.tuple #[.agg #[.bool ra,.int .i64 rb,.int .i64 rc,.int .i64 rd,.int .i64 re],.int .i64 (rn:Nat),.int .i64 (rE:Nat)]=OUT from by have:=HO2.out;rwa [if_neg (fun h=>h rfl)]at this)
 have b0:=mx_cell (j:=0) HF3.out
 have b1:=mx_cell (j:=1) HF3.out
 clear hle
 go_wp2_with fail
 refine HC3.out.mono ?_
 rintro e w4 ⟨rfl,hb4⟩
 have HX4:=Lib.hid ((hb4.block _ (heap_lt HX3.out)).trans HX3.out)
 have HL4:=Lib.hid (HL3.out.trans (hb4.mono HL3.out.size))
 clear hb4 b0 b1 HC3
 have r0:=mx_cell (j:=0) HX4.out
 have r1:=mx_cell (j:=1) HX4.out
 have r2:=mx_cell (j:=2) HX4.out
 have r3:=mx_cell (j:=3) HX4.out
 have r4:=mx_cell (j:=4) HX4.out
 have f0:=free_at (j:=0) HX4.out
 have f1:=free_at (j:=1) HX4.out
 have f2:=free_at (j:=2) HX4.out
 have f3:=free_at (j:=3) HX4.out
 have f4:=free_at (j:=4) HX4.out
 obtain⟨wy,hwy,hby,hky⟩:=five_setR HX4.out (.bool ra) (.int .i64 rb) (.int .i64 rc) (.int .i64 rd) (.int .i64 re)
 have HBY:=Lib.hid hby
 have HFIN:=Lib.hid (HL4.out.trans (hky.below (fun i e=>by rw[e];exact Nat.le_succ _) HL4.out.size))
 clear hky hby
 go_wp2_with fail
 try rw[hwy]
 try rw[Exit.noGoto_ret]
 refine bodyPost_ret (res_chk456 rfl HBY.out _ rfl) rfl ?_
 refine⟨?_,HFIN.out⟩
 rw[←HRN.out]
 rfl
end Go.Proofs.YtajbmjpodeilpaaGreatDoor
