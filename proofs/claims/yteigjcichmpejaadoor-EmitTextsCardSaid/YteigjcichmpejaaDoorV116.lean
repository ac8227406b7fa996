/- Plain: where Parse's loop breaks at a right step's line. Plain: what Parse's loop has gathered at the end of a right step's line. Steps in memory; lratext.Same at equal steps. Steps that a program builds: a row of its own, with rows of literals and of hints. Plain: what salvorref07.Number reads. Plain: a line, as the reference parses it: as Parse does. -/
import Derived.Test.YteigjcichmpejaaDoorV113
import Derived.Test.YteigjcichmpejaaDoorV102
import Derived.Test.YteigjcichmpejaaDoorV100
import Derived.Test.YteigjcichmpejaaDoorV101
import Derived.Test.YteigjcichmpejaaDoorV103
import Derived.Deep.DeepCutAuto
import Derived.Deep.CutBlock
import Derived.Shelf.Abstract
import Derived.Test.YteigjcichmpejaaDoorV111
import Derived.Test.YteigjcichmpejaaDoorV110
namespace Go.Proofs.YteigjcichmpejaaDoor
open Go.RowKit
def PSt.sf (p:PSt) (l:List Int):PSt:=l.foldl (fun p n=>(p.step n).1) p
theorem step_count (p:PSt) (n:Int):(p.step n).1.count=p.count+1:=by
 unfold PSt.step
 split
 ·rfl
 ·split
  ·rfl
  ·split <;> rfl
theorem sf_count: ∀(l:List Int) (p:PSt),(p.sf l).count=p.count+l.length
 | [],p=>rfl
 | n::l,p=>by
  show(PSt.sf (p.step n).1 l).count=_
  rw[sf_count l,step_count,List.length_cons]
  omega
def lineNums (s:EStep):List Int:=s.id::((if s.del then []else s.lits++ [0])++(s.hints++ [0]))
end Go.Proofs.YteigjcichmpejaaDoor
namespace Go.Proofs.YteigjcichmpejaaDoor
open Go.RowKit
end Go.Proofs.YteigjcichmpejaaDoor
namespace Go.Proofs.YteigjcichmpejaaDoor
open Go.RowKit
def StepIn (O:Nat→Prop) (w:World) (v:Value) (ss:List EStep):Prop:=
 ∃A c,v= .slice A ss.length c∧ss.length≤c∧(A=none→c=0)∧∀(i:Nat) (s:EStep),ss[i]? =some s→∃g o ul uh,A=some ⟨g,o,none⟩∧g<w.heap.size∧O g∧w.cell? ⟨g,o+i*4,none⟩=some (.bool s.del)∧w.cell? ⟨g,o+i*4+1,none⟩=some (.int .i64 s.id)∧w.cell? ⟨g,o+i*4+2,none⟩=some ul∧w.cell? ⟨g,o+i*4+3,none⟩=some uh∧IntsIn O w ul s.lits∧IntsIn O w uh s.hints
theorem StepIn.kept {O O':Nat→Prop} {w w':World} {v:Value} {ss:List EStep} (h:StepIn O w v ss) (k:Kept O' w w') (hO: ∀g,O g→¬O' g):StepIn O w' v ss:=by
 obtain⟨A,c,hv,hc,hn,hx⟩:=h
 refine⟨A,c,hv,hc,hn,fun i s hi=>?_⟩
 obtain⟨g,o,ul,uh,h1,h2,h3,c0,c1,c2,c3,hl,hh⟩:=hx i s hi
 exact⟨g,o,ul,uh,h1,Nat.lt_of_lt_of_le h2 k.size,h3,(k.cell (p:=⟨g,o+i*4,none⟩) h2 (hO g h3)).trans c0,(k.cell (p:=⟨g,o+i*4+1,none⟩) h2 (hO g h3)).trans c1,(k.cell (p:=⟨g,o+i*4+2,none⟩) h2 (hO g h3)).trans c2,(k.cell (p:=⟨g,o+i*4+3,none⟩) h2 (hO g h3)).trans c3,hl.kept k hO,hh.kept k hO⟩
theorem StepIn.below {O:Nat→Prop} {w w':World} {v:Value} {ss:List EStep} (h:StepIn O w v ss) (k:Below w.heap.size w w'):StepIn O w' v ss:=
 h.kept (O':=fun _=>False) (Kept.of_below k) (fun _ _ h=>h)
theorem StepIn.mono {O O':Nat→Prop} {w:World} {v:Value} {ss:List EStep} (h:StepIn O w v ss) (hO: ∀g,O g→O' g):StepIn O' w v ss:=by
 obtain⟨A,c,hv,hc,hn,hx⟩:=h
 refine⟨A,c,hv,hc,hn,fun i s hi=>?_⟩
 obtain⟨g,o,ul,uh,h1,h2,h3,c0,c1,c2,c3,hl,hh⟩:=hx i s hi
 exact⟨g,o,ul,uh,h1,h2,hO g h3,c0,c1,c2,c3,hl.mono hO,hh.mono hO⟩
theorem StepIn.lt {O:Nat→Prop} {w:World} {v:Value} {ss:List EStep} (h:StepIn O w v ss):StepIn (fun g=>O g∧g<w.heap.size) w v ss:=by
 obtain⟨A,c,hv,hc,hn,hx⟩:=h
 refine⟨A,c,hv,hc,hn,fun i s hi=>?_⟩
 obtain⟨g,o,ul,uh,h1,h2,h3,c0,c1,c2,c3,hl,hh⟩:=hx i s hi
 exact⟨g,o,ul,uh,h1,h2,⟨h3,h2⟩,c0,c1,c2,c3,hl.lt,hh.lt⟩
theorem al_new (W:World) (cs:Array Value) (t:TypeId): ∃W',W.alloc (.cells cs t)=W'∧Below W.heap.size W W'∧W'.heap[W.heap.size]? =some (.cells cs t (0,0))∧W'.heap.size=W.heap.size+1:=
 ⟨_,rfl,mx_al _ _,World.alloc_heap_new _ _,by simp⟩
theorem same_step {O O':Nat→Prop} (ul uh vl vh:Value) (s:EStep) (w:World) (h1:IntsIn O w ul s.lits) (h2:IntsIn O w uh s.hints) (h3:IntsIn O' w vl s.lits) (h4:IntsIn O' w vh s.hints) (hl:s.lits.length≤1000000) (hh:s.hints.length≤1000000):
  Calls Tryd.prog 33 #[.agg #[.bool s.del,.int .i64 s.id,ul,uh],.agg #[.bool s.del,.int .i64 s.id,vl,vh]] w fun e w'=>e= .returned (.bool true)∧Below w.heap.size w w':=by
 obtain⟨d,id,c,hs⟩:=s
 simp only at h1 h2 h3 h4 hl hh⊢
 obtain⟨W1,hW1,hb1,hc1,hz1⟩:=al_new w #[.bool d,.int .i64 id,ul,uh] 49
 obtain⟨W2,hW2,hb2,hc2,hz2⟩:=al_new W1 #[.bool d,.int .i64 id,vl,vh] 49
 have hc12:=(hb2.block _ (heap_lt hc1)).trans hc1
 have hb12:=hb1.trans (hb2.mono hb1.size)
 have HE1:=Lib.hid (fun(X:World) (hX:Below W2.heap.size W2 X)=>eq_c ul vl c c X ((h1.below hb12).below hX) ((h3.below hb12).below hX) (by omega))
 have HE2:=Lib.hid (fun(X:World) (hX:Below W2.heap.size W2 X)=>eq_i uh vh hs hs X ((h2.below hb12).below hX) ((h4.below hb12).below hX) (by omega))
 rw[beq_self_eq_true]at HE1 HE2
 obtain⟨A1,k1,rfl,_⟩:=h1
 obtain⟨A2,k2,rfl,_⟩:=h2
 obtain⟨A3,k3,rfl,_⟩:=h3
 obtain⟨A4,k4,rfl,_⟩:=h4
 have a0:=mx_cell (j:=0) hc12
 have a1:=mx_cell (j:=1) hc12
 have a2:=mx_cell (j:=2) hc12
 have a3:=mx_cell (j:=3) hc12
 have b0:=mx_cell (j:=0) hc2
 have b1:=mx_cell (j:=1) hc2
 have b2:=mx_cell (j:=2) hc2
 have b3:=mx_cell (j:=3) hc2
 rw[hz1]at b0 b1 b2 b3
 have hl1:w.heap.size<W2.heap.size:=heap_lt hc12
 have hl2:w.heap.size+1<W2.heap.size:=by have:=heap_lt hc2;omega
 have HW1:=Lib.hid hW1
 have HW2:=Lib.hid hW2
 have HB:=Lib.hid hb12
 clear hW1 hW2 hb1 hb2 hb12 hc1 hc2 hc12 hz1 hz2
 go_enter Tryd.func33,Tryd.ntmps33
 go_upto_region 1 with fail
 rw[HW1.out,HW2.out]
 go_wp2_with fail
 refine(HE1.out _ (Below.refl _ _)).mono ?_
 rintro e w3 ⟨rfl,q3,hw3⟩
 have hb3:Below W2.heap.size W2 w3:=by rw[hw3];exact mx_drewN _ _
 have HB3:=Lib.hid hb3
 have a3:=(hb3.cell (p:=⟨w.heap.size,3,none⟩) hl1).trans a3
 have b3:=(hb3.cell (p:=⟨w.heap.size+1,3,none⟩) hl2).trans b3
 clear hw3 hb3 HE1
 go_wp2_with fail
 refine(HE2.out _ HB3.out).mono ?_
 rintro e w4 ⟨rfl,q4,hw4⟩
 have HB4:=Lib.hid (HB.out.trans ((show Below W2.heap.size W2 w4 from by rw[hw4];exact HB3.out.trans ((mx_drewN _ _).mono HB3.out.size)).mono HB.out.size))
 clear hw4
 go_wp2_with fail
 go_ret
 exact⟨rfl,HB4.out⟩
set_option maxRecDepth 100000 in
set_option maxHeartbeats 1000000 in
theorem same_any {O O':Nat→Prop} (u v:Value) (xs:List EStep) (w:World) (h1:StepIn O w u xs) (h2:StepIn O' w v xs) (hn:xs.length≤1000000) (hs: ∀s∈xs,s.lits.length≤1000000∧s.hints.length≤1000000):
  Calls Tryd.prog 15 #[u,v] w fun e w'=>e= .returned (.bool true)∧Below w.heap.size w w':=by
 have H1:=Lib.hid h1
 have H2:=Lib.hid h2
 have HS:=Lib.hid hs
 obtain⟨A1,c1,rfl,hc1,_,_⟩:=h1
 obtain⟨A2,c2,rfl,hc2,_,_⟩:=h2
 obtain⟨L,hL⟩: ∃L,xs.length=L:=⟨_,rfl⟩
 have HL:=Lib.hid hL
 rw[hL]at H1 H2 hc1 hc2 hn⊢
 have hEF:Calls Tryd.prog 32 #[.slice A1 L c1,.slice A2 L c2,.func (.func 33) #[] #[]] w fun e w'=>e= .returned (.bool true)∧Below w.heap.size w w':=by
  clear hL hs
  have hEN: ∀args w,(callFunc 33 args).run Tryd.prog w= .ok (.enter 33 args) w:=enters_of Tryd.func33 (by kernel_rfl) rfl
  go_enter Tryd.func32,Tryd.ntmps32
  go_wp2_with fail
  go_loopw [17] (fun iv wr=> ∃i:Nat,i≤L∧iv= .int .i64 i∧Hid (Below w.heap.size w wr)) (fun iv _=>L-(intOf iv).toNat)
  case atStart=>exact⟨0,Nat.zero_le _,rfl,Lib.hid (Below.refl _ _)⟩
  case round=>
   obtain⟨i,hi,rfl,HB⟩:=hrel
   by_cases hlt:i<L
   ·obtain⟨s,hs⟩: ∃s,xs[i]? =some s:=⟨_,List.getElem?_eq_getElem (by rw[HL.out];exact hlt)⟩
    obtain⟨A',c',hAc,_,_,hxs⟩:=H1.out.below HB.out
    obtain⟨A'',c'',hAc',_,_,hys⟩:=H2.out.below HB.out
    simp only[Value.slice.injEq]at hAc hAc'
    obtain⟨rfl,-,rfl⟩:=hAc
    obtain⟨rfl,-,rfl⟩:=hAc'
    obtain⟨g,o,ul,uh,rfl,hg,_,d0,d1,d2,d3,hul,huh⟩:=hxs i s hs
    obtain⟨g',o',vl,vh,rfl,hg',_,e0,e1,e2,e3,hvl,hvh⟩:=hys i s hs
    obtain⟨hsl,hsh⟩:=HS.out s (List.mem_of_getElem? hs)
    obtain⟨W1,hW1,hb1,hx1,hz1⟩:=al_new wr #[.bool s.del,.int .i64 s.id,ul,uh] 49
    obtain⟨W2,hW2,hb2,hx2,hz2⟩:=al_new W1 #[.bool s.del,.int .i64 s.id,vl,vh] 49
    have hb12:=hb1.trans (hb2.mono hb1.size)
    have hx12:=(hb2.block _ (heap_lt hx1)).trans hx1
    have HSM:=Lib.hid (same_step ul uh vl vh s W2 (hul.below hb12) (huh.below hb12) (hvl.below hb12) (hvh.below hb12) hsl hsh)
    have HB2:=Lib.hid (HB.out.trans (hb12.mono HB.out.size))
    obtain⟨Al,cl,rfl,_⟩:=hul
    obtain⟨Ah,ch,rfl,_⟩:=huh
    obtain⟨Bl,dl,rfl,_⟩:=hvl
    obtain⟨Bh,dh,rfl,_⟩:=hvh
    have e0:=(hb1.cell (p:=⟨g',o'+i*4,none⟩) hg').trans e0
    have e1:=(hb1.cell (p:=⟨g',o'+i*4+1,none⟩) hg').trans e1
    have e2:=(hb1.cell (p:=⟨g',o'+i*4+2,none⟩) hg').trans e2
    have e3:=(hb1.cell (p:=⟨g',o'+i*4+3,none⟩) hg').trans e3
    have x0:=mx_cell (j:=0) hx12
    have x1:=mx_cell (j:=1) hx12
    have x2:=mx_cell (j:=2) hx12
    have x3:=mx_cell (j:=3) hx12
    have y0:=mx_cell (j:=0) hx2
    have y1:=mx_cell (j:=1) hx2
    have y2:=mx_cell (j:=2) hx2
    have y3:=mx_cell (j:=3) hx2
    have HW1:=Lib.hid hW1
    have HW2:=Lib.hid hW2
    clear hW1 hW2 hb1 hb2 hb12 hx1 hx2 hx12 hz1 hz2 hxs hys hs hsl hsh
    go_upto_region 6 with fail
    rw[HW1.out]
    go_upto_region 7 with fail
    rw[HW2.out]
    go_wp2_with fail
    refine HSM.out.mono ?_
    rintro e w3 ⟨rfl,hb3⟩
    have HB3:=Lib.hid (HB2.out.trans (hb3.mono HB2.out.size))
    clear hb3 x0 x1 x2 x3 y0 y1 y2 y3 d0 d1 d2 d3 e0 e1 e2 e3
    go_wp2_with fail
    go_roundw
    case rel=>exact⟨i+1,by omega,by go_num,HB3⟩
    case measure=>simp[intOf];omega
   ·obtain rfl:i=L:=by omega
    go_wp2_with fail
    go_ret
    exact⟨rfl,HB.out⟩
 have HEF:=Lib.hid hEF
 clear hEF hs
 go_enter Tryd.func15,Tryd.ntmps15
 go_wp2_with fail
 refine HEF.out.mono ?_
 rintro e w1 ⟨rfl,hb1⟩
 have HB1:=Lib.hid hb1
 clear hb1
 go_wp2_with fail
 go_ret
 exact⟨rfl,HB1.out⟩
end Go.Proofs.YteigjcichmpejaaDoor
namespace Go.Proofs.YteigjcichmpejaaDoor
open Go.RowKit
abbrev StV:=EStep×(Option Addr×Nat)×(Option Addr×Nat)
def stcell (x:StV):List Value:= [.bool x.1.del,.int .i64 x.1.id,(Value.slice x.2.1.1 x.1.lits.length x.2.1.2),(Value.slice x.2.2.1 x.1.hints.length x.2.2.2)]
theorem stcell_at: ∀(K:List StV) (i:Nat) (x:StV),K[i]? =some x→(K.flatMap stcell)[i*4]? =some (.bool x.1.del)∧(K.flatMap stcell)[i*4+1]? =some (.int .i64 x.1.id)∧(K.flatMap stcell)[i*4+2]? =some (Value.slice x.2.1.1 x.1.lits.length x.2.1.2)∧(K.flatMap stcell)[i*4+3]? =some (Value.slice x.2.2.1 x.1.hints.length x.2.2.2)
 | [],i,x,h=>by simp at h
 | y::K,0,x,h=>by
  obtain rfl:y=x:=by simpa using h
  exact⟨rfl,rfl,rfl,rfl⟩
 | y::K,i+1,x,h=>by
  have:=stcell_at K i x (by simpa using h)
  rw[show(i+1)*4=i*4+4 by omega]
  exact this
theorem stinfo:(Tryd.prog.info? 49).map (fun i=>(i.zero,i.size,i.bytes))=some (some (.agg #[.bool false,.int .i64 0,.slice none 0 0,.slice none 0 0]),4,64):=by kernel_rfl
structure StMem (n0:Nat) (w:World) (v:Value) (K:List StV):Prop where
 row:w.ownsRow n0 49 4 v K.length (K.flatMap stcell)
 lit: ∀x∈K,w.ownsRow n0 51 1 (Value.slice x.2.1.1 x.1.lits.length x.2.1.2) x.1.lits.length (x.1.lits.map (Value.int .i64))
 hnt: ∀x∈K,w.ownsRow n0 3 1 (Value.slice x.2.2.1 x.1.hints.length x.2.2.2) x.1.hints.length (x.1.hints.map (Value.int .i64))
section
variable {n0:Nat} {w w1:World} {v v':Value} {K:List StV}
theorem StMem.nil (n0:Nat) (w:World):StMem n0 w (.slice none 0 0) []:=⟨World.ownsRow_nil _ _ _ _,(fun x hx=>by cases hx),(fun x hx=>by cases hx)⟩
theorem StMem.kept {O:Nat→Prop} (h:StMem n0 w v K) (k:Kept O w w1) (h1: ∀g,v.ownBlock=some g→¬O g) (h2: ∀x∈K,∀g,(Value.slice x.2.1.1 x.1.lits.length x.2.1.2).ownBlock=some g→¬O g) (h3: ∀x∈K,∀g,(Value.slice x.2.2.1 x.1.hints.length x.2.2.2).ownBlock=some g→¬O g):StMem n0 w1 v K:=
 ⟨own_kept h.row k h1,fun x hx=>own_kept (h.lit x hx) k (h2 x hx),fun x hx=>own_kept (h.hnt x hx) k (h3 x hx)⟩
theorem StMem.below (h:StMem n0 w v K) (k:Below w.heap.size w w1):StMem n0 w1 v K:=⟨own_below h.row k,fun x hx=>own_below (h.lit x hx) k,fun x hx=>own_below (h.hnt x hx) k⟩
theorem StMem.push (h:StMem n0 w v K) (hg:w.grownBy w1 v.ownBlock) (x:StV) (hr:w1.ownsRow n0 49 4 v' (K.length+1) (K.flatMap stcell++stcell x)) (hl:w.ownsRow n0 51 1 (Value.slice x.2.1.1 x.1.lits.length x.2.1.2) x.1.lits.length (x.1.lits.map (Value.int .i64))) (hh:w.ownsRow n0 3 1 (Value.slice x.2.2.1 x.1.hints.length x.2.2.2) x.1.hints.length (x.1.hints.map (Value.int .i64))):StMem n0 w1 v' (K++ [x]) where
 row:=by
  rw[List.length_append,List.flatMap_append]
  simpa using hr
 lit:=fun y hy=>by
  have hy2:w.ownsRow n0 51 1 (Value.slice y.2.1.1 y.1.lits.length y.2.1.2) y.1.lits.length (y.1.lits.map (Value.int .i64)):=by
   rcases List.mem_append.1 hy with hy|hy
   ·exact h.lit y hy
   ·rw[List.mem_singleton.1 hy];exact hl
  exact own_kept hy2 (Kept.grown hg) (fun g h1 h2=>mx_apart hy2 h.row (by decide) h1 h2.symm)
 hnt:=fun y hy=>by
  have hy2:w.ownsRow n0 3 1 (Value.slice y.2.2.1 y.1.hints.length y.2.2.2) y.1.hints.length (y.1.hints.map (Value.int .i64)):=by
   rcases List.mem_append.1 hy with hy|hy
   ·exact h.hnt y hy
   ·rw[List.mem_singleton.1 hy];exact hh
  exact own_kept hy2 (Kept.grown hg) (fun g h1 h2=>mx_apart hy2 h.row (by decide) h1 h2.symm)
theorem StMem.mono {n1:Nat} (h:StMem n0 w v K) (hn:n1≤n0):StMem n1 w v K:=⟨own_mono h.row hn,fun x hx=>own_mono (h.lit x hx) hn,fun x hx=>own_mono (h.hnt x hx) hn⟩
theorem StMem.stepIn (h:StMem n0 w v K):StepIn (fun g=>n0≤g) w v (K.map Prod.fst):=by
 have hrow:=h.row
 rcases hrow.2 with⟨rfl,h0⟩|⟨g,cap,cur,rfl,hb,hg,hle,_⟩
 ·exact⟨none,0,by rw[List.length_map,h0],by rw[List.length_map,h0];exact Nat.le_refl _,fun _=>rfl,fun i p hi=>by
   have:=(List.getElem?_eq_some_iff.1 hi).1
   rw[List.length_map]at this
   omega⟩
 ·refine⟨_,cap,by rw[List.length_map],by rw[List.length_map];exact hle,(fun h=>by cases h),fun i p hi=>?_⟩
  rw[List.getElem?_map]at hi
  cases hx:K[i]? with
  | none=>rw[hx]at hi;cases hi
  | some x=>
   rw[hx]at hi
   obtain rfl:=Option.some.inj hi
   obtain⟨e0,e1,e2,e3⟩:=stcell_at K i x hx
   have hxm:=List.mem_of_getElem? hx
   exact⟨g,0,(Value.slice x.2.1.1 x.1.lits.length x.2.1.2),(Value.slice x.2.2.1 x.1.hints.length x.2.2.2),rfl,heap_lt hg,hb,by rw[Nat.zero_add];exact mx_at hrow e0,by rw[Nat.zero_add];exact mx_at hrow e1,by rw[Nat.zero_add];exact mx_at hrow e2,by rw[Nat.zero_add];exact mx_at hrow e3,(IntsIn.of_own (h.lit x hxm)).mono fun _ h=>h.1,(IntsIn.of_own (h.hnt x hxm)).mono fun _ h=>h.1⟩
end
end Go.Proofs.YteigjcichmpejaaDoor
namespace Go.Proofs.YteigjcichmpejaaDoor
open Go.RowKit
def rDig:Nat→List UInt8→Int→Int×Nat
 | 0,_,n=>(n,0)
 | _+1,[],n=>(n,0)
 | f+1,b::r,n=>if 48≤b.toNat∧b.toNat≤57 then((rDig f r (n*10+b.toNat-48)).1,(rDig f r (n*10+b.toNat-48)).2+1)else(n,0)
def rSign (s:List UInt8):Bool:=decide (s.head? =some 45)
def rBody (s:List UInt8):List UInt8:=if rSign s=true then s.drop 1 else s
def rNumber (s:List UInt8):Int×Nat:=
 let d:=rDig 11 (rBody s) 0
 if d.2=0∨((rBody s).head? =some 48∧(1<d.2∨rSign s=true))∨(∃b,((rBody s).drop d.2).head? =some b∧b≠32)then(0,0)
 else(if rSign s=true then -d.1 else d.1,d.2+if rSign s=true then 1 else 0)
def dVal:List UInt8→Nat→Nat
 | [],n=>n
 | b::r,n=>dVal r (n*10+(b.toNat-48))
end Go.Proofs.YteigjcichmpejaaDoor
namespace Go.Proofs.YteigjcichmpejaaDoor
open Go.RowKit
def Sml (n:Int):Prop:=(Lib.decDigits n.natAbs).length≤11
def listT (l:List Int):List UInt8:=(l.flatMap fun x=>Lib.itoa x++ [32])++ [48]
def rList:Nat→List UInt8→Option (List Int×Nat)
 | 0,_=>none
 | f+1,s=>if s= []then none else if(rNumber s).2=0 then none else if(rNumber s).1=0 then some ([],(rNumber s).2)else
  match rList f (s.drop ((rNumber s).2+1))with
  | none=>none
  | some (l,m)=>some ((rNumber s).1::l,(rNumber s).2+1+m)
def rFin (del:Bool) (n:Int) (l:List Int) (r:List UInt8):Option EStep:=match rList (r.length+1) r with
 | none=>none
 | some (h,m)=>if m<r.length then none else if stepB ⟨del,n,l,h⟩=true then some ⟨del,n,l,h⟩else none
def rRest (n:Int) (r:List UInt8):Option EStep:=
 if 1<r.length∧r[0]? =some 100∧r[1]? =some 32 then rFin true n [] (r.drop 2)
 else match rList (r.length+1) r with
  | none=>none
  | some (l,m)=>if m=r.length then none else rFin false n l (r.drop (m+1))
def rParse (s:List UInt8):Option EStep:=if(rNumber s).2=0∨(rNumber s).2=s.length then none else rRest (rNumber s).1 (s.drop ((rNumber s).2+1))
theorem stepB_parts {s:EStep} (h:stepB s=true):(0≤s.id∧s.id≤1073741824)∧(s.del=true→s.lits= [])∧(∀x∈s.lits,x≠0∧ -1048576≤x∧x≤1048576)∧s.hints.length≤65536∧∀x∈s.hints,x≠0∧ -1073741824≤x∧x≤1073741824:=by
 unfold stepB at h
 simp only[Bool.and_eq_true,Bool.not_eq_true',Bool.or_eq_false_iff,decide_eq_false_iff_not,decide_eq_true_eq,Bool.and_eq_false_iff]at h
 obtain⟨⟨⟨⟨h1,h2⟩,_⟩,h3⟩,⟨hc,h4⟩,h5⟩:=h
 refine⟨by omega,fun hd=>?_,fun x hx=>?_,h4,fun x hx=>?_⟩
 ·rcases h3 with h3|h3
  ·rw[hd]at h3;cases h3
  ·exact List.length_eq_zero_iff.1 (by omega)
 ·unfold clauseB at hc
  rw[Bool.and_eq_true]at hc
  have:=(litB_iff x).1 (List.all_eq_true.1 hc.2 x hx)
  omega
 ·have:=List.any_eq_false.1 h5 x hx
  simp only[Bool.or_eq_true,decide_eq_true_eq,Bool.and_eq_true,not_or]at this
  omega
end Go.Proofs.YteigjcichmpejaaDoor
