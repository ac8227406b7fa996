/- What ProofDoes needs beside its walk: the reference's steps are the program's; blocks that may be written. The example of chapter 10: plain. Rows that a program writes out; the example of chapter 10: four. package proof: formulas that are not right are refused. -/
import Derived.Test.YtajbmjpodeilpaaGreatV124
import Derived.Test.YtajbmjpodeilpaaGreatV126
import Derived.Test.YtajbmjpodeilpaaGreatV129
import Derived.Test.YtajbmjpodeilpaaGreatV130
import Derived.Test.YtajbmjpodeilpaaGreatV127
import Derived.Test.YtajbmjpodeilpaaGreatV119
import Derived.Test.YtajbmjpodeilpaaGreatV106
import Derived.Test.YtajbmjpodeilpaaGreatV122
namespace Go.Proofs.YtajbmjpodeilpaaGreat
open Go.RowKit
theorem ref_do {O:Nat→Prop} {N:Nat} (ev:Value) (k:Ckr) (ul uh:Value) (s:EStep) (w:World) (he:EntIn O w ev k.ents) (hl:IntsIn O w ul s.lits) (hh:IntsIn O w uh s.hints) (hk:k.Ok N) (hN:N≤100000)
  (hll:s.lits.length≤1000000) (hhl:s.hints.length≤100000) (hr: ∀h∈s.hints,-9223372036854775808≤h∧h≤9223372036854775807):
  Calls Tryz.prog 30 #[ckK ev k,.agg #[.bool s.del,.int .i64 s.id,ul,uh]] w fun e w'=> ∃v',e= .returned (.tuple #[ckK v' (k.do_ s).1,.int .i64 ((k.do_ s).2.1:Nat),.int .i64 (k.do_ s).2.2.1,.int .i64 ((k.do_ s).2.2.2:Nat)])∧EntIn (fun g=>O g∨w.heap.size≤g) w' v' (k.do_ s).1.ents∧Below w.heap.size w w':=by
 have h1:=hk.len
 have h2:=hk.adds
 have h3:=hk.dels
 have h4:=hk.rats
 refine(ref_do10 ev k ul uh s w he hl hh (by omega) hk.cls hll hhl hr (by omega)).mono fun e w' h=>?_
 obtain⟨⟨out,v',ho,he',hE⟩,hb⟩:=h
 rw[rDo_eq hk ho]at he' hE
 exact⟨v',he',hE,hb⟩
theorem ref_new {O:Nat→Prop} (vn:Int) (v:Value) (cs:List (List Int)) (w:World) (h:ClsIn O w v cs) (hl:cs.length≤100000) (hcl: ∀c∈cs,c.length≤100000000000):
  Calls Tryz.prog 25 #[.agg #[.int .i64 vn,v]] w fun e w'=> ∃v',e= .returned (ckK v' (ckrNew cs))∧EntIn (fun g=>O g∨w.heap.size≤g) w' v' (ckrNew cs).ents∧Below w.heap.size w w':=by
 refine(ref_new10 vn v cs w h hl hcl).mono fun e w' h=>?_
 rw[rNew_eq]at h
 obtain⟨⟨v',h1,h2⟩,h3⟩:=h
 exact⟨v',h1,h2,h3⟩
theorem ratP_kind (es:Ents) (c hs:List Int) (gs:List (Int×List Int)):(ratP es c hs gs).1≤2:=by
 unfold ratP
 repeat' (split <;> try (first|exact Nat.zero_le _|decide))
theorem do_kind (k:Ckr) (s:EStep):(k.do_ s).2.1≤2:=by
 have ha:(ckAdd k.ents s.lits s.hints).1≤2:=by
  unfold ckAdd
  repeat' (split <;> try (first|exact Nat.zero_le _|(show(1:Nat)≤2;decide)|exact ratP_kind _ _ _ _))
 unfold Ckr.do_
 repeat' (split <;> try (first|exact Nat.zero_le _|exact ha))
theorem slc_ref (gs os n ct j:Nat) (hj:j+1≤ct) (X:World):(Instr.slice 40 (.slice (some ⟨gs,os,none⟩) n ct) (some (.int .i64 (j:Int))) (some (.int .i64 ((j:Int)+1))) none).run Tryz.prog X= .ok (.slice (some ⟨gs,os+j*4,none⟩) 1 (ct-j)) X:=by
 refine(run_slice_lh (P:=Tryz.prog) X 40 (some ⟨gs,os,none⟩) n ct (by kernel_rfl) .i64 .i64 (j:Int) ((j:Int)+1) (by omega) (by omega) (by omega)).trans ?_
 have hs:((sizeOf (Tryz.prog.elem 40)).run Tryz.prog X)= .ok 4 X:=by kernel_rfl
 rw[hs]
 show Result.ok (sliced (some ⟨gs,os,none⟩) (j:Int).toNat ((j:Int)+1).toNat ct 4) X=_
 unfold sliced
 rw[if_neg (by omega),Option.map_some,addr_add2,show(j:Int).toNat=j from rfl,show((j:Int)+1).toNat=j+1 from rfl,Nat.add_sub_cancel_left]
theorem ckrNew_ok {cs:List (List Int)} (hc: ∀c∈cs,clauseB c=true) (hl:cs.length≤1000):(ckrNew cs).Ok 1000:=by
 rw[ckrNew_of]
 exact ckrOf_ok hc hl (Nat.zero_le _)
theorem fchkGo_zero {n:Int}: ∀{cs:List (List Int)} {i:Nat},(fchkGo n i cs).2=0→fchkGo n i cs=(-1,0)∧∀c∈cs,clauseB c=true
 | [],i,_=>⟨rfl,fun c hc=>by cases hc⟩
 | c::r,i,h=>by
  rw[fchkGo]at h⊢
  by_cases h1:clauseB c=false
  ·rw[if_pos h1]at h
   cases h
  ·rw[if_neg h1]at h⊢
   by_cases h2:c.any (beyB n)=true
   ·rw[if_pos h2]at h
    cases h
   ·rw[if_neg h2]at h⊢
    obtain⟨a,b⟩:=fchkGo_zero h
    refine⟨a,fun x hx=>?_⟩
    rcases List.mem_cons.1 hx with rfl|hx
    ·simpa using h1
    ·exact b x hx
theorem fchk_zero {n:Int} {cs:List (List Int)} (h:(fchk n cs).2=0):fchk n cs=(-1,0)∧∀c∈cs,clauseB c=true:=by
 unfold fchk at h⊢
 split at h
 ·cases h
 ·rename_i h1
  rw[if_neg h1]
  split at h
  ·cases h
  ·rename_i h2
   rw[if_neg h2]
   exact fchkGo_zero h
theorem IntsIn.ckf2 {b:Nat} {O:Nat→Prop} {w w':World} {v:Value} {xs:List Int} (h:IntsIn O w v xs) (k:CkF b w w') (hO: ∀g,O g→g≠b):IntsIn O w' v xs:=by
 obtain⟨A,c,hv,hc,hn,hx⟩:=h
 refine⟨A,c,hv,hc,hn,fun i x hi=>?_⟩
 obtain⟨g,o,h1,h2,h3,h4⟩:=hx i x hi
 exact⟨g,o,h1,Nat.lt_of_lt_of_le h2 k.size,h3,k.cell h4 (hO g h3)⟩
theorem EntIn.ckf {b:Nat} {O:Nat→Prop} {w w':World} {v:Value} {es:Ents} (h:EntIn O w v es) (k:CkF b w w') (hO: ∀g,O g→g≠b):EntIn O w' v es:=by
 obtain⟨A,c,hv,hc,hn,hx⟩:=h
 refine⟨A,c,hv,hc,hn,fun i p hi=>?_⟩
 obtain⟨g,o,u,h1,h2,h3,h4,h5,h6⟩:=hx i p hi
 exact⟨g,o,u,h1,Nat.lt_of_lt_of_le h2 k.size,h3,k.cell h4 (hO g h3),k.cell h5 (hO g h3),h6.ckf2 k hO⟩
theorem StepIn.ckf {b:Nat} {O:Nat→Prop} {w w':World} {v:Value} {ss:List EStep} (h:StepIn O w v ss) (k:CkF b w w') (hO: ∀g,O g→g≠b):StepIn O w' v ss:=by
 obtain⟨A,c,hv,hc,hn,hx⟩:=h
 refine⟨A,c,hv,hc,hn,fun i s hi=>?_⟩
 obtain⟨g,o,ul,uh,h1,h2,h3,c0,c1,c2,c3,hl,hh⟩:=hx i s hi
 exact⟨g,o,ul,uh,h1,Nat.lt_of_lt_of_le h2 k.size,h3,k.cell c0 (hO g h3),k.cell c1 (hO g h3),k.cell c2 (hO g h3),k.cell c3 (hO g h3),hl.ckf2 k hO,hh.ckf2 k hO⟩
theorem StepIn.one {O:Nat→Prop} {w:World} {gs os ct j:Nat} {ss:List EStep} {s:EStep} (h:StepIn O w (.slice (some ⟨gs,os,none⟩) ss.length ct) ss) (hj:ss[j]? =some s):StepIn O w (.slice (some ⟨gs,os+j*4,none⟩) 1 (ct-j)) [s]:=by
 obtain⟨A,c,hv,hc,_,hx⟩:=h
 simp only[Value.slice.injEq,true_and]at hv
 obtain⟨rfl,rfl⟩:=hv
 have hjl:=(List.getElem?_eq_some_iff.1 hj).1
 refine⟨_,_,rfl,by show 1≤_;omega,(fun h=>by cases h),fun i p hi=>?_⟩
 have hil:=(List.getElem?_eq_some_iff.1 hi).1
 rw[List.length_singleton]at hil
 obtain rfl:i=0:=by omega
 obtain rfl:s=p:=by simpa using hi
 obtain⟨g,o,ul,uh,h1,h2,h3,c0,c1,c2,c3,hl,hh⟩:=hx j s hj
 simp only[Option.some.injEq,Addr.mk.injEq,and_true]at h1
 obtain⟨rfl,rfl⟩:=h1
 exact⟨gs,os+j*4,ul,uh,rfl,h2,h3,by rw[Nat.zero_mul,Nat.add_zero];exact c0,by rw[Nat.zero_mul,Nat.add_zero];exact c1,by rw[Nat.zero_mul,Nat.add_zero];exact c2,by rw[Nat.zero_mul,Nat.add_zero];exact c3,hl,hh⟩
theorem step_new {O:Nat→Prop} {w:World} {b:Nat} {d:Bool} {id:Int} {ls hs:List Int} {lv hv:Value} {T:TypeId} (hb:w.heap[b]? =some (.cells #[.bool d,.int .i64 id,lv,hv] T (0,0))) (hl:IntsIn O w lv ls) (hh:IntsIn O w hv hs):StepIn (fun _=>True) w (.slice (some ⟨b,0,none⟩) 1 1) [⟨d,id,ls,hs⟩]:=by
 refine⟨_,_,rfl,Nat.le_refl _,(fun h=>by cases h),fun i p hi=>?_⟩
 have hil:=(List.getElem?_eq_some_iff.1 hi).1
 rw[List.length_singleton]at hil
 obtain rfl:i=0:=by omega
 obtain rfl:(⟨d,id,ls,hs⟩:EStep)=p:=by simpa using hi
 exact⟨b,0,lv,hv,rfl,heap_lt hb,trivial,mx_cell (j:=0) hb,mx_cell (j:=1) hb,mx_cell (j:=2) hb,mx_cell (j:=3) hb,hl.mono fun _ _=>trivial,hh.mono fun _ _=>trivial⟩
def WriL (w:World) (g n:Nat):Prop:= ∃cs,w.heap[g]? =some (.cells cs 55 (0,0))∧n≤cs.size
theorem WriL.cell {w:World} {g n:Nat} (h:WriL w g n) {i:Nat} (hi:i<n):(∃v,w.cell? ⟨g,i,none⟩=some v)∧w.frozen? ⟨g,i,none⟩=false:=by
 obtain⟨cs,h1,h2⟩:=h
 refine⟨⟨cs[i]'(by omega),?_⟩,free_of5 h1⟩
 rw[mx_cell h1]
 exact Array.getElem?_eq_getElem (by omega)
theorem WriL.set {w:World} {g n:Nat} (h:WriL w g n) (b j:Nat) (v:Value):WriL (w.setCell ⟨b,j,none⟩ v) g n:=by
 obtain⟨cs,h1,h2⟩:=h
 by_cases hb:g=b
 ·subst hb
  exact⟨_,mx_set h1 v,by simpa using h2⟩
 ·exact⟨cs,(Below.heap_setCell _ _ _ _ hb).trans h1,h2⟩
theorem WriL.kept {O:Nat→Prop} {w w':World} {g n:Nat} (h:WriL w g n) (k:Kept O w w') (hO: ¬O g):WriL w' g n:=by
 obtain⟨cs,h1,h2⟩:=h
 exact⟨cs,(k.block g (heap_lt h1) hO).trans h1,h2⟩
theorem WriL.below {w w':World} {g n:Nat} (h:WriL w g n) (k:Below w.heap.size w w'):WriL w' g n:=h.kept (O:=fun _=>False) (Kept.of_below k) (fun h=>h)
theorem wriL_own {w:World} {base n:Nat} {v:Value} {xs:List Value} (h:w.ownsRow base 55 1 v n xs) {g:Nat} (hg:v.ownBlock=some g):WriL w g n:=by
 rcases h.2 with⟨rfl,_⟩|⟨g',cap,cur,rfl,_,hb,hle,_,hs,_⟩
 ·cases hg
 ·obtain rfl:g'=g:=Option.some.inj hg
  exact⟨cur,hb,by omega⟩
theorem WriL.ckf {b:Nat} {w w':World} {g n:Nat} (h:WriL w g n) (k:CkF b w w') (hb:g≠b):WriL w' g n:=by
 obtain⟨cs,h1,h2⟩:=h
 exact⟨cs,k.block h1 hb,h2⟩
def KeepT (T:TypeId) (w w':World):Prop:= ∀(g:Nat) (cs:Array Value),w.heap[g]? =some (.cells cs T (0,0))→w'.heap[g]? =some (.cells cs T (0,0))
theorem KeepT.refl (T:TypeId) (w:World):KeepT T w w:=fun _ _ h=>h
theorem KeepT.below {T:TypeId} {w w' w2:World} (h:KeepT T w w') (k:Below w'.heap.size w' w2):KeepT T w w2:=fun g cs hg=>(k.block g (heap_lt (h g cs hg))).trans (h g cs hg)
theorem KeepT.set {T:TypeId} {w w':World} (h:KeepT T w w') {b n:Nat} (hb:WriL w' b n) (hT:T≠55) (j:Nat) (v:Value):KeepT T w (w'.setCell ⟨b,j,none⟩ v):=fun g cs hg=>by
 have h1:=h g cs hg
 refine(Below.heap_setCell _ _ _ _ fun e=>?_).trans h1
 obtain⟨cs2,h2,_⟩:=hb
 rw[e,h2]at h1
 simp only[Option.some.injEq,Obj.cells.injEq]at h1
 exact hT h1.2.1.symm
theorem KeepT.trans {T:TypeId} {a b c:World} (h:KeepT T a b) (k:KeepT T b c):KeepT T a c:=fun g cs hg=>k g cs (h g cs hg)
theorem KeepT.of_below {T:TypeId} {w w':World} (k:Below w.heap.size w w'):KeepT T w w':=(KeepT.refl T w).below k
def WriE (B:Nat) (w:World) (pre:List EX) (es:Ents):Prop:= ∀(i:Nat) (x:EX) (c:List Int),pre[i]? =some x→es[i]? =some (x.1,c)→∀g,x.2.1.ownBlock=some g→B≤g∧WriL w g c.length
theorem WriE.set {B:Nat} {w:World} {pre:List EX} {es:Ents} (h:WriE B w pre es) (b j:Nat) (v:Value):WriE B (w.setCell ⟨b,j,none⟩ v) pre es:=fun i x c h1 h2 g hg=>⟨(h i x c h1 h2 g hg).1,(h i x c h1 h2 g hg).2.set b j v⟩
theorem WriE.below {B:Nat} {w w':World} {pre:List EX} {es:Ents} (h:WriE B w pre es) (k:Below w.heap.size w w'):WriE B w' pre es:=fun i x c h1 h2 g hg=>⟨(h i x c h1 h2 g hg).1,(h i x c h1 h2 g hg).2.below k⟩
theorem ClsOwn.other {n:Nat} {w w':World} {v:Value} {cs:List (List Int)} (h:ClsOwn n w v cs) {p:Nat} {c:Array Value} {T:TypeId} (hp:w.heap[p]? =some (.cells c T (0,0))) (h1:T≠55) (h2:T≠31) (k:Kept (fun g=>g=p) w w'):ClsOwn n w' v cs:=by
 obtain⟨us,q1,q2⟩:=h
 refine⟨us,own_kept q1 k (fun g hg e=>mx_not q1 hp h2 (by rw[←e];exact hg)),fun i xs hi=>?_⟩
 obtain⟨u,hu,ho⟩:=q2 i xs hi
 exact⟨u,hu,own_kept ho k (fun g hg e=>mx_not ho hp h1 (by rw[←e];exact hg))⟩
theorem ClsIn.ltO {O:Nat→Prop} {w:World} {v:Value} {cs:List (List Int)} (h:ClsIn O w v cs):ClsIn (fun g=>O g∧g<w.heap.size) w v cs:=by
 obtain⟨A,c,hv,hc,hn,hx⟩:=h
 refine⟨A,c,hv,hc,hn,fun i xs hi=>?_⟩
 obtain⟨g,o,u,h1,h2,h3,h4,h5⟩:=hx i xs hi
 exact⟨g,o,u,h1,h2,⟨h3,h2⟩,h4,h5.lt⟩
theorem EntIn.ltO {O:Nat→Prop} {w:World} {v:Value} {es:Ents} (h:EntIn O w v es):EntIn (fun g=>O g∧g<w.heap.size) w v es:=by
 obtain⟨A,c,hv,hc,hn,hx⟩:=h
 refine⟨A,c,hv,hc,hn,fun i p hi=>?_⟩
 obtain⟨g,o,u,h1,h2,h3,h4,h5,h6⟩:=hx i p hi
 exact⟨g,o,u,h1,h2,⟨h3,h2⟩,h4,h5,h6.lt⟩
end Go.Proofs.YtajbmjpodeilpaaGreat
namespace Go.Proofs.YtajbmjpodeilpaaGreat
open Go.RowKit
def fourC:List (List Int):= [[1,2],[-1,2],[1,-2],[-1,-2]]
def exA:EStep:=⟨false,5,[2],[1,2]⟩
def exB:EStep:=⟨false,6,[],[5,3,4]⟩
theorem four_ok:(∀c∈fourC,clauseB c=true)∧fchk 2 fourC=(-1,0):=by decide
theorem ex_full:(runRep (runGo (ckrNew fourC) [exA,exB] 0),(runGo (ckrNew fourC) [exA,exB] 0).2.1,runE (runGo (ckrNew fourC) [exA,exB] 0))=(.agg #[.bool true,.int .i64 2,.int .i64 0,.int .i64 0,.int .i64 6],2,0):=by kernel_rfl
theorem ex_want:ratWant (ckrNew fourC).ents 2= [3,4]:=by
 have h1:(ckrNew fourC).ents= [(1,[1,2]),(2,[-1,2]),(3,[1,-2]),(4,[-1,-2])]:=by kernel_rfl
 have h2:alwL [1,-2]=false:=alwL_no (by decide)
 have h3:alwL [-1,-2]=false:=alwL_no (by decide)
 rw[h1]
 have e1:candB 2 [1,2]=false:=by kernel_rfl
 have e2:candB 2 [-1,2]=false:=by kernel_rfl
 have e3:candB 2 [1,-2]=true:=by
  unfold candB
  rw[h2]
  kernel_rfl
 have e4:candB 2 [-1,-2]=true:=by
  unfold candB
  rw[h3]
  kernel_rfl
 simp[ratWant,e1,e2,e3,e4]
theorem ex_less:runGo (ckrNew fourC) [⟨false,5,[2],[1]⟩,exB] 0=(ckrNew fourC,0,92):=by
 have h1:ratGrp (ckrNew fourC).ents 2 []=(3,92):=by
  unfold ratGrp
  rw[ex_want]
  rfl
 have h2:ratP (ckrNew fourC).ents [2] [1] []=(0,3,92):=by
  have g1:alwL [2]=false:=by kernel_rfl
  have g2:(ratFol (ckrNew fourC).ents (asmL [2]) [1]).2=(false,0,0):=by kernel_rfl
  unfold ratP
  rw[if_neg (by rw[g1];decide),if_neg (by rw[g2];decide),if_neg (by rw[g2];decide)]
  show(if(ratGrp (ckrNew fourC).ents 2 []).2≠0 then _ else _)=_
  rw[h1]
  rfl
 have h3:ckAdd (ckrNew fourC).ents [2] [1]=(0,3,92):=by
  have g1:ckFol (ckrNew fourC).ents [2] [1]=(false,0,0):=by kernel_rfl
  unfold ckAdd
  rw[show splitL [1]=([1],[])from by kernel_rfl,g1,if_neg (by decide),if_neg (by decide)]
  exact h2
 have h4:(ckrNew fourC).do_ ⟨false,5,[2],[1]⟩=(ckrNew fourC,0,3,92):=by
  unfold Ckr.do_
  rw[if_neg (by decide),if_neg (by decide),if_neg (by decide),if_neg (by decide)]
  simp only[h3]
  rfl
 unfold runGo
 rw[if_neg (by decide),h4]
 rfl
theorem ex_early:runGo (ckrNew fourC) [⟨false,4,[2],[1,2]⟩,exB] 0=(ckrNew fourC,0,100):=by kernel_rfl
theorem ex_gone:(runRep (runGo (ckrNew fourC) [exA,⟨true,5,[],[3]⟩,exB] 0),(runGo (ckrNew fourC) [exA,⟨true,5,[],[3]⟩,exB] 0).2.1,runE (runGo (ckrNew fourC) [exA,⟨true,5,[],[3]⟩,exB] 0))=(.agg #[.bool false,.int .i64 0,.int .i64 0,.int .i64 0,.int .i64 0],2,91):=by kernel_rfl
theorem ex_zero:(runRep (runGo (ckrNew [[]]) [] 0),(runGo (ckrNew [[]]) [] 0).2.1,runE (runGo (ckrNew [[]]) [] 0))=(.agg #[.bool true,.int .i64 0,.int .i64 0,.int .i64 0,.int .i64 1],0,0):=by kernel_rfl
def exM:List EStep:= [⟨false,5,[1,2],[1]⟩,⟨false,6,[2],[1,2]⟩,⟨false,7,[],[6,3,4]⟩]
theorem ex_chk:chkP [1,2] [[1,2]]=([],1,0):=by
 have x1:sortL [1,2]= [1,2]:=List.mergeSort_of_pairwise (by decide)
 have x2:sortL [-1,-2]= [-1,-2]:=List.mergeSort_of_pairwise (by decide)
 have x3:asmL [1,2]= [-1,-2]:=by
  unfold asmL normL
  rw[x1]
  exact x2
 have x4:alwL [1,2]=false:=alwL_no (by decide)
 have x5:asgF [-1,-2]=some (putF (putF (fun _=>0) (-1)) (-2)):=by rfl
 unfold chkP
 rw[x4,x3,x5]
 rfl
def exK:Ckr:=⟨[(1,[1,2]),(2,[-1,2]),(3,[1,-2]),(4,[-1,-2]),(5,[1,2])],5,false,1,0,0,5⟩
theorem ex_do:(ckrNew fourC).do_ ⟨false,5,[1,2],[1]⟩=(exK,1,0,0):=by
 have g0:ckNamed (ckrNew fourC).ents [1]= [[1,2]]:=by kernel_rfl
 have g1:ckFol (ckrNew fourC).ents [1,2] [1]=(true,0,0):=by
  unfold ckFol
  rw[g0,ex_chk]
  rfl
 have g2:ckAdd (ckrNew fourC).ents [1,2] [1]=(1,0,0):=by
  unfold ckAdd
  rw[show splitL [1]=([1],[])from by kernel_rfl,g1]
  rfl
 unfold Ckr.do_
 rw[if_neg (by decide),if_neg (by decide),if_neg (by decide),if_neg (by decide)]
 simp only[g2]
 rfl
theorem ex_trm2:trmGo exK [⟨false,6,[2],[1,2]⟩,⟨false,7,[],[6,3,4]⟩] 1 [⟨false,5,[1,2],[1]⟩]=([⟨false,5,[1,2],[1]⟩,⟨false,6,[2],[1,2]⟩,⟨false,7,[],[6,3,4]⟩],3,true):=by kernel_rfl
theorem ex_run2:runE (runGo exK [⟨false,6,[2],[1,2]⟩,⟨false,7,[],[6,3,4]⟩] 1)=0:=by kernel_rfl
theorem ex_trm:trmGo (ckrNew fourC) exM 0 []=(exM,3,true):=by
 have g0:ckNamed (ckrNew fourC).ents [1]= [[1,2]]:=by kernel_rfl
 have g1:trimS (ckrNew fourC) ⟨false,5,[1,2],[1]⟩=⟨false,5,[1,2],[1]⟩:=by
  unfold trimS trimP
  simp only[show splitL [1]=([1],[])from by kernel_rfl,g0,ex_chk]
  rfl
 unfold exM trmGo
 rw[if_neg (by decide),ex_do,if_neg (by decide)]
 simp only[if_true,g1]
 show trmGo exK [⟨false,6,[2],[1,2]⟩,⟨false,7,[],[6,3,4]⟩] 1 [⟨false,5,[1,2],[1]⟩]=_
 exact ex_trm2
theorem ex_run:runE (runGo (ckrNew fourC) exM 0)=0:=by
 unfold exM runGo
 rw[if_neg (by decide),ex_do]
 exact ex_run2
theorem ex_bk:bkL exM= [⟨false,6,[2],[1,2]⟩,⟨false,7,[],[6,3,4]⟩]:=by kernel_rfl
end Go.Proofs.YtajbmjpodeilpaaGreat
namespace Go.Proofs.YtajbmjpodeilpaaGreat
open Go.RowKit
theorem blk_cell {w:World} {g j:Nat} {us:List Value} {t:TypeId} {z:Nat×Nat} {u:Value} (h:w.heap[g]? =some (.cells us.toArray t z)) (hu:us[j]? =some u):w.cell? ⟨g,j,none⟩=some u:=by
 simp[World.cell?,h,hu]
theorem ints_blk {O:Nat→Prop} {w:World} {g:Nat} {xs:List Int} {t:TypeId} {z:Nat×Nat} (h:w.heap[g]? =some (.cells (xs.map (Value.int .i64)).toArray t z)) (hO:O g):IntsIn O w (.slice (some ⟨g,0,none⟩) xs.length xs.length) xs:=
 ⟨_,_,rfl,Nat.le_refl _,(fun h=>by cases h),fun i x hi=>⟨g,0,rfl,heap_lt h,hO,by
  rw[Nat.zero_add]
  exact blk_cell h (by rw[List.getElem?_map,hi];rfl)⟩⟩
theorem cls_blk {O:Nat→Prop} {w:World} {g:Nat} {us:List Value} {cs:List (List Int)} {t:TypeId} {z:Nat×Nat} (h:w.heap[g]? =some (.cells us.toArray t z)) (hO:O g) (hx: ∀(i:Nat) (c:List Int),cs[i]? =some c→∃u,us[i]? =some u∧IntsIn O w u c):ClsIn O w (.slice (some ⟨g,0,none⟩) cs.length cs.length) cs:=
 ⟨_,_,rfl,Nat.le_refl _,(fun h=>by cases h),fun i c hi=>by
  obtain⟨u,h1,h2⟩:=hx i c hi
  exact⟨g,0,u,rfl,heap_lt h,hO,by rw[Nat.zero_add];exact blk_cell h h1,h2⟩⟩
def rcell (x:EStep×Value×Value):List Value:= [.bool x.1.del,.int .i64 x.1.id,x.2.1,x.2.2]
theorem rcell_at: ∀(K:List (EStep×Value×Value)) (i:Nat) (x:EStep×Value×Value),K[i]? =some x→(K.flatMap rcell)[i*4]? =some (.bool x.1.del)∧(K.flatMap rcell)[i*4+1]? =some (.int .i64 x.1.id)∧(K.flatMap rcell)[i*4+2]? =some x.2.1∧(K.flatMap rcell)[i*4+3]? =some x.2.2
 | [],i,x,h=>by simp at h
 | y::K,0,x,h=>by
  obtain rfl:y=x:=by simpa using h
  exact⟨rfl,rfl,rfl,rfl⟩
 | y::K,i+1,x,h=>by
  have:=rcell_at K i x (by simpa using h)
  rw[show(i+1)*4=i*4+4 by omega]
  exact this
theorem step_blk {O:Nat→Prop} {w:World} {g:Nat} {K:List (EStep×Value×Value)} {t:TypeId} {z:Nat×Nat} (h:w.heap[g]? =some (.cells (K.flatMap rcell).toArray t z)) (hO:O g) (hx: ∀x∈K,IntsIn O w x.2.1 x.1.lits∧IntsIn O w x.2.2 x.1.hints):StepIn O w (.slice (some ⟨g,0,none⟩) K.length K.length) (K.map Prod.fst):=
 ⟨_,_,by rw[List.length_map],by rw[List.length_map];exact Nat.le_refl _,(fun h=>by cases h),fun i s hi=>by
  rw[List.getElem?_map]at hi
  cases hk:K[i]? with
  | none=>rw[hk]at hi;cases hi
  | some x=>
   rw[hk]at hi
   obtain rfl:=Option.some.inj hi
   obtain⟨e0,e1,e2,e3⟩:=rcell_at K i x hk
   obtain⟨h1,h2⟩:=hx x (List.mem_of_getElem? hk)
   exact⟨g,0,x.2.1,x.2.2,rfl,heap_lt h,hO,by rw[Nat.zero_add];exact blk_cell h e0,by rw[Nat.zero_add];exact blk_cell h e1,by rw[Nat.zero_add];exact blk_cell h e2,by rw[Nat.zero_add];exact blk_cell h e3,h1,h2⟩⟩
theorem res_cell01 {fn:Func} (h:fn.results= #[.cell 0 24,.tmp 1]) {w:World} {r:Nat} {c0 c1:Value} {t:TypeId} (hb:w.heap[r]? =some (.cells #[c0,c1] t (0,0))) (tmps:Array Value) (t0:tmps[0]?.getD undef= .pointer (some ⟨r,0,none⟩)):
  (results fn tmps).run Tryz.prog w= .ok (.tuple #[.agg #[c0,c1],tmps[1]?.getD undef]) w:=by
 have p0:w.cell? ⟨r,0,none⟩=some c0:=mx_cell (j:=0) hb
 have p1:w.cell? ⟨r,1,none⟩=some c1:=mx_cell (j:=1) hb
 simp[results,h,go_sem,t0,p0,p1]
set_option maxRecDepth 100000 in
set_option maxHeartbeats 4000000 in
theorem four_any (w:World):Calls Tryz.prog 20 #[] w fun e w'=> ∃gl gs,e= .returned (.tuple #[.agg #[.int .i64 2,.slice (some ⟨gl,0,none⟩) 4 4],.slice (some ⟨gs,0,none⟩) 2 2])∧ClsIn (fun _=>True) w' (.slice (some ⟨gl,0,none⟩) 4 4) fourC∧StepIn (fun _=>True) w' (.slice (some ⟨gs,0,none⟩) 2 2) [exA,exB]∧Below w.heap.size w w':=by
 obtain⟨W1,hW1,hb1,hc1,hz1⟩:=al_new w #[.int .i64 2,.slice (some ⟨w.heap.size+1+1+1+1+1,0,none⟩) 4 4] 24
 have B1:Below w.heap.size w W1:=hb1
 obtain⟨W2,hW2,hb2,hc2,hz2⟩:=al_new W1 #[.int .i64 1,.int .i64 2] 55
 rw[hz1]at hc2 hz2
 have B2:Below (w.heap.size+1) W1 W2:=by rw[←hz1];exact hb2
 obtain⟨W3,hW3,hb3,hc3,hz3⟩:=al_new W2 #[.int .i64 (-1),.int .i64 2] 55
 rw[hz2]at hc3 hz3
 have B3:Below (w.heap.size+1+1) W2 W3:=by rw[←hz2];exact hb3
 obtain⟨W4,hW4,hb4,hc4,hz4⟩:=al_new W3 #[.int .i64 1,.int .i64 (-2)] 55
 rw[hz3]at hc4 hz4
 have B4:Below (w.heap.size+1+1+1) W3 W4:=by rw[←hz3];exact hb4
 obtain⟨W5,hW5,hb5,hc5,hz5⟩:=al_new W4 #[.int .i64 (-1),.int .i64 (-2)] 55
 rw[hz4]at hc5 hz5
 have B5:Below (w.heap.size+1+1+1+1) W4 W5:=by rw[←hz4];exact hb5
 obtain⟨W6,hW6,hb6,hc6,hz6⟩:=al_new W5 #[.slice (some ⟨w.heap.size+1,0,none⟩) 2 2,.slice (some ⟨w.heap.size+1+1,0,none⟩) 2 2,.slice (some ⟨w.heap.size+1+1+1,0,none⟩) 2 2,.slice (some ⟨w.heap.size+1+1+1+1,0,none⟩) 2 2] 31
 rw[hz5]at hc6 hz6
 have B6:Below (w.heap.size+1+1+1+1+1) W5 W6:=by rw[←hz5];exact hb6
 obtain⟨W7,hW7,hb7,hc7,hz7⟩:=al_new W6 #[.int .i64 2] 55
 rw[hz6]at hc7 hz7
 have B7:Below (w.heap.size+1+1+1+1+1+1) W6 W7:=by rw[←hz6];exact hb7
 obtain⟨W8,hW8,hb8,hc8,hz8⟩:=al_new W7 #[.int .i64 1,.int .i64 2] 3
 rw[hz7]at hc8 hz8
 have B8:Below (w.heap.size+1+1+1+1+1+1+1) W7 W8:=by rw[←hz7];exact hb8
 obtain⟨W9,hW9,hb9,hc9,hz9⟩:=al_new W8 #[.int .i64 5,.int .i64 3,.int .i64 4] 3
 rw[hz8]at hc9 hz9
 have B9:Below (w.heap.size+1+1+1+1+1+1+1+1) W8 W9:=by rw[←hz8];exact hb9
 obtain⟨W10,hW10,hb10,hc10,hz10⟩:=al_new W9 #[.bool false,.int .i64 5,.slice (some ⟨w.heap.size+1+1+1+1+1+1,0,none⟩) 1 1,.slice (some ⟨w.heap.size+1+1+1+1+1+1+1,0,none⟩) 2 2,.bool false,.int .i64 6,.slice none 0 0,.slice (some ⟨w.heap.size+1+1+1+1+1+1+1+1,0,none⟩) 3 3] 34
 rw[hz9]at hc10 hz10
 have B10:Below (w.heap.size+1+1+1+1+1+1+1+1+1) W9 W10:=by rw[←hz9];exact hb10
 clear hb1 hb2 hb3 hb4 hb5 hb6 hb7 hb8 hb9 hb10
 have T9:=B10
 have T8:=B9.trans (T9.mono (by omega))
 have T7:=B8.trans (T8.mono (by omega))
 have T6:=B7.trans (T7.mono (by omega))
 have T5:=B6.trans (T6.mono (by omega))
 have T4:=B5.trans (T5.mono (by omega))
 have T3:=B4.trans (T4.mono (by omega))
 have T2:=B3.trans (T3.mono (by omega))
 have T1:=B2.trans (T2.mono (by omega))
 have T0:=B1.trans (T1.mono (by omega))
 have D1:=((T1.block _ (by omega)).trans hc1)
 have D2:=((T2.block _ (by omega)).trans hc2)
 have D3:=((T3.block _ (by omega)).trans hc3)
 have D4:=((T4.block _ (by omega)).trans hc4)
 have D5:=((T5.block _ (by omega)).trans hc5)
 have D6:=((T6.block _ (by omega)).trans hc6)
 have D7:=((T7.block _ (by omega)).trans hc7)
 have D8:=((T8.block _ (by omega)).trans hc8)
 have D9:=((T9.block _ (by omega)).trans hc9)
 have D10:=hc10
 have HCL:=Lib.hid (show ClsIn (fun _=>True) W10 (.slice (some ⟨w.heap.size+1+1+1+1+1,0,none⟩) 4 4) fourC from cls_blk (us:= [.slice (some ⟨w.heap.size+1,0,none⟩) 2 2,.slice (some ⟨w.heap.size+1+1,0,none⟩) 2 2,.slice (some ⟨w.heap.size+1+1+1,0,none⟩) 2 2,.slice (some ⟨w.heap.size+1+1+1+1,0,none⟩) 2 2]) (cs:=fourC) D6 trivial (fun i c hi=>by
  match i,hi with
  | 0,hi=>cases hi;exact⟨_,rfl,ints_blk (xs:= [1,2]) D2 trivial⟩
  | 1,hi=>cases hi;exact⟨_,rfl,ints_blk (xs:= [-1,2]) D3 trivial⟩
  | 2,hi=>cases hi;exact⟨_,rfl,ints_blk (xs:= [1,-2]) D4 trivial⟩
  | 3,hi=>cases hi;exact⟨_,rfl,ints_blk (xs:= [-1,-2]) D5 trivial⟩
  | n+4,hi=>exact absurd hi (by simp[fourC])))
 have HST:=Lib.hid (show StepIn (fun _=>True) W10 (.slice (some ⟨w.heap.size+1+1+1+1+1+1+1+1+1,0,none⟩) 2 2) [exA,exB]from step_blk (K:= [(exA,.slice (some ⟨w.heap.size+1+1+1+1+1+1,0,none⟩) 1 1,.slice (some ⟨w.heap.size+1+1+1+1+1+1+1,0,none⟩) 2 2),(exB,.slice none 0 0,.slice (some ⟨w.heap.size+1+1+1+1+1+1+1+1,0,none⟩) 3 3)]) D10 trivial (fun x hx=>by
  rcases List.mem_cons.1 hx with rfl|hx
  ·exact⟨ints_blk (xs:= [2]) D7 trivial,ints_blk (xs:= [1,2]) D8 trivial⟩
  ·obtain rfl:=List.mem_singleton.1 hx
   exact⟨IntsIn.nil _ _,ints_blk (xs:= [5,3,4]) D9 trivial⟩))
 have HD1:=Lib.hid D1
 have HB:=Lib.hid T0
 have HW1:=Lib.hid hW1
 have HW2:=Lib.hid hW2
 have HW3:=Lib.hid hW3
 have HW4:=Lib.hid hW4
 have HW5:=Lib.hid hW5
 have HW6:=Lib.hid hW6
 have HW7:=Lib.hid hW7
 have HW8:=Lib.hid hW8
 have HW9:=Lib.hid hW9
 have HW10:=Lib.hid hW10
 clear hW1 hc1 hz1 B1 hW2 hc2 hz2 B2 hW3 hc3 hz3 B3 hW4 hc4 hz4 B4 hW5 hc5 hz5 B5 hW6 hc6 hz6 B6 hW7 hc7 hz7 B7 hW8 hc8 hz8 B8 hW9 hc9 hz9 B9 hW10 hc10 hz10 B10 T0 T1 T2 T3 T4 T5 T6 T7 T8 T9 D1 D2 D3 D4 D5 D6 D7 D8 D9 D10
 go_enter Tryz.func20,Tryz.ntmps20
 go_wp2_with fail
 rw[HW1.out,HW2.out,HW3.out,HW4.out,HW5.out,HW6.out,HW7.out,HW8.out,HW9.out,HW10.out]
 have e0:=mx_cell (j:=0) HD1.out
 have e1:=mx_cell (j:=1) HD1.out
 refine bodyPost_ret (res_cell01 rfl HD1.out _ rfl) rfl ?_
 exact⟨_,_,rfl,HCL.out,HST.out,HB.out⟩
end Go.Proofs.YtajbmjpodeilpaaGreat
namespace Go.Proofs.YtajbmjpodeilpaaGreat
open Go.RowKit
section
variable {O:Nat→Prop} {n:Int} {lv:Value} {cs:List (List Int)} {E:Nat}
set_option maxHeartbeats 1000000 in
theorem new_bad (w:World) (h:ClsIn O w lv cs) (hc: ∀c∈cs,c.length≤100000000000) (hf:(fchk n cs).2=E) (hE:E≠0):
  Calls Tryz.prog 22 #[.agg #[.int .i64 n,lv]] w fun e w'=>e= .returned (.tuple #[.pointer none,.int .i64 (E:Nat)])∧Below w.heap.size w w':=by
 obtain⟨W,hW,hb,hbn,-⟩:=al_new w #[.int .i64 n,lv] 24
 have b0:W.cell? ⟨w.heap.size,0,none⟩=some (.int .i64 n):=mx_cell (j:=0) hbn
 have b1:W.cell? ⟨w.heap.size,1,none⟩=some lv:=mx_cell (j:=1) hbn
 have HCH:=form_check n lv cs W (h.below hb) hc
 obtain⟨fi,hfi⟩: ∃fi,(fchk n cs).1=fi:=⟨_,rfl⟩
 rw[hf,hfi]at HCH
 have HCH:=Lib.hid HCH
 have HW:=Lib.hid hW
 have HB:=Lib.hid hb
 have q0:((E:Int)==0)=false:=beq_eq_false_iff_ne.2 (by omega)
 have q1:((E:Int) != 0)=true:=by rw[bne,q0];rfl
 obtain⟨A,c,rfl,hcc,_⟩:=h
 clear hb hf hbn hc hfi hW
 go_enter Tryz.func22,Tryz.ntmps22
 go_upto_region 1 with fail
 rw[HW.out]
 go_wp2_with fail
 refine HCH.out.mono ?_
 rintro e w1 ⟨rfl,hb1⟩
 have HB1:=Lib.hid (HB.out.trans (hb1.mono HB.out.size))
 clear hb1 HCH
 go_wp2_with fail
 refine bodyPost_ret (v:=.tuple #[.pointer none,.int .i64 (E:Nat)]) (by simp[results,Tryz.results22,go_sem]) rfl ?_
 exact⟨rfl,HB1.out⟩
end
end Go.Proofs.YtajbmjpodeilpaaGreat
