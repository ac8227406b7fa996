/- The examples of chapter 10: awake. IndexFunc at steps; what is resolved: plain. slices.Clone at steps that a program built; plain: what comes behind a proof. Steps compared (lratext.Same); slices.ContainsFunc at steps; the closures of ProofTrims. The closures of ProofTrims (package salvorlaw10). slices.Delete at steps (one of them). -/
import Derived.Test.YtkfgplfllddhnaaGreatV528
import Derived.Test.YtkfgplfllddhnaaGreatV530
import Derived.Test.YtkfgplfllddhnaaGreatV525
import Derived.Test.YtkfgplfllddhnaaGreatV527
import Derived.Lib.SliceRun
namespace Go.Proofs.YtkfgplfllddhnaaGreat
open Go.RowKit
theorem trim_ex:TrimEx:=by
 intro O Os lv sv w h hs
 refine(proof_trim 2 _ _ fourC exM w h four_ok.1 (by decide) four_ok.2 hs (by decide) (by decide)).mono ?_
 rintro e w' ⟨ht,hb⟩
 unfold TrimOut at ht
 rw[ex_run,if_neg (fun h=>h rfl),ex_trm,if_neg (fun h=>by cases h)]at ht
 obtain⟨v,K,rfl,hK,hm⟩:=ht
 rw[ex_bk]at hK
 have hl:K.length=2:=by simpa using congrArg List.length hK
 obtain⟨x,y,rfl⟩: ∃x y,K= [x,y]:=by
  rcases K with _|⟨x,_|⟨y,_|⟨z,r⟩⟩⟩
  ·cases hl
  ·cases hl
  ·exact⟨x,y,rfl⟩
  ·simp at hl
 have hx:x.1=⟨false,6,[2],[1,2]⟩:=(List.cons.inj hK).1
 obtain⟨g,c,rfl⟩:=ownsRow_succ hm.row
 obtain⟨-,e1,-,-⟩:=stcell_at [x,y] 0 x rfl
 have:=mx_at hm.row e1
 rw[hx]at this
 exact⟨g,c,rfl,this,hb⟩
theorem awake10_any (w:World):Calls Tryz.prog 8 #[] w fun e w'=>e= .returned (.bool true)∧Below w.heap.size w w':=awake10_core trim_ex w
end Go.Proofs.YtkfgplfllddhnaaGreat
namespace Go.Proofs.YtkfgplfllddhnaaGreat
open Go.RowKit
def TellsS (O:Nat→Prop) (w:World) (F:Nat) (caps:Array Value) (ss:List EStep) (P:EStep→Bool):Prop:= ∀W,Below w.heap.size w W→∀ul uh s,s∈ss→IntsIn O W ul s.lits→IntsIn O W uh s.hints→Calls Tryz.prog F (#[.agg #[.bool s.del,.int .i64 s.id,ul,uh]]++caps) W fun e w'=>e= .returned (.bool (P s))∧Below W.heap.size W w'
set_option maxRecDepth 100000 in
set_option maxHeartbeats 1000000 in
theorem index_sf {Oc:Nat→Prop} (F:Nat) (caps:Array Value) (u:Value) (xs:List EStep) (P:EStep→Bool) (w:World) (heg: ∀args w,(callFunc F args).run Tryz.prog w= .ok (.enter F args) w) (h1:StepIn Oc w u xs) (hs:xs.length≤140737488355328) (hF:TellsS Oc w F caps xs P):
  Calls Tryz.prog 20 #[u,.func (.func F) #[] caps] w fun e w'=>(∃i:Int,e= .returned (.int .i64 i)∧FstI xs P i)∧Below w.heap.size w w':=by
 have HONE:=Lib.hid hF
 have HX:=Lib.hid h1
 obtain⟨A,c,rfl,hc,_,_⟩:=h1
 clear hF
 go_enter Tryz.func20,Tryz.ntmps20
 go_wp2
 go_loopw [8] (fun i wr=> ∃k:Nat,k≤xs.length∧i= .int .i64 k∧Hid (∀j x,j<k→xs[j]? =some x→P x=false)∧Hid (Below w.heap.size w wr)) (fun i _=>xs.length-(intOf i).toNat)
 case atStart=>exact⟨0,Nat.zero_le _,rfl,Lib.hid (fun j x hj=>by omega),Lib.hid (Below.refl _ _)⟩
 case round=>
  obtain⟨k,hk,rfl,HE,HW⟩:=hrel
  by_cases hlt:k<xs.length
  ·obtain⟨x,hxk⟩:=getElem_of hlt
   obtain⟨A',c',hAc,_,_,hxs⟩:=HX.out.below HW.out
   simp only[Value.slice.injEq,true_and]at hAc
   obtain⟨rfl,rfl⟩:=hAc
   obtain⟨g,o,ul,uh,rfl,hg,_,d0,d1,d2,d3,hul,huh⟩:=hxs k x hxk
   have HXK:=Lib.hid hxk
   have hC:=HONE.out wr HW.out ul uh x (List.mem_of_getElem? hxk) hul huh
   obtain⟨b,hb⟩: ∃b,P x=b:=⟨_,rfl⟩
   rw[hb]at hC
   have HB:=Lib.hid hb
   have HC:=Lib.hid hC
   obtain⟨Au,cu,rfl,_⟩:=hul
   obtain⟨Av,cv,rfl,_⟩:=huh
   clear hxk hxs hb hC
   go_wp2_with fail
   refine HC.out.mono ?_
   rintro e w' ⟨rfl,hbw⟩
   have HB2:=Lib.hid (HW.out.trans (hbw.mono HW.out.size))
   clear hbw d0 d1 d2 d3
   cases b with
   | true=>
    go_wp2_with fail
    go_ret
    exact⟨⟨_,rfl,.inr ⟨k,rfl,hlt,HE.out,x,HXK.out,HB.out⟩⟩,HB2.out⟩
   | false=>
    go_wp2_with fail
    go_roundw
    case rel=>exact⟨k+1,by omega,by go_num,Lib.hid (FstI.step HE.out HXK.out HB.out),HB2⟩
    case measure=>simp[intOf];omega
  ·obtain rfl:k=xs.length:=by omega
   go_wp2
   go_ret
   exact⟨⟨_,rfl,FstI.none HE.out⟩,HW.out⟩
theorem made_six (xss:List (List Int)): ∀c∈(xss.take 14).map madeL,Lit6 c:=fun c hc=>by
 obtain⟨xs,_,rfl⟩:=List.mem_map.1 hc
 unfold madeL
 refine⟨?_,fun y hy=>?_⟩
 ·rw[List.length_map,List.length_take]
  omega
 ·obtain⟨x,_,rfl⟩:=List.mem_map.1 hy
  obtain⟨h1,h2⟩:=madeLit_rng x
  have hb:litB (madeLit x)=true:=(litB_iff _).2 (by omega)
  exact⟨hb,by have:=(litV_pos hb).2;omega⟩
theorem lit6_fgo: ∀(cs:List (List Int)) (i:Nat),(∀c∈cs,Lit6 c)→fchkGo 6 i cs=(-1,0)
 | [],_,_=>rfl
 | c::r,i,h=>by
  have hc:=h c List.mem_cons_self
  unfold fchkGo
  rw[if_neg (by rw[hc.clause];decide),if_neg (by
   rw[show c.any (beyB 6)=false from List.any_eq_false.2 fun y hy=>by
    obtain⟨h1,h2⟩:=hc.2 y hy
    unfold beyB
    rw[h1,decide_eq_false (by omega)]
    decide]
   decide)]
  exact lit6_fgo r (i+1) fun d hd=>h d (List.mem_cons_of_mem _ hd)
theorem lit6_fchk {cs:List (List Int)} (h: ∀c∈cs,Lit6 c) (hn:cs.length≤1000):fchk 6 cs=(-1,0):=by
 unfold fchk
 rw[if_neg (by decide),if_neg (by omega)]
 exact lit6_fgo cs 0 h
end Go.Proofs.YtkfgplfllddhnaaGreat
namespace Go.Proofs.YtkfgplfllddhnaaGreat
open Go.RowKit
theorem stcell_one (K:List StV): ∀u∈K.flatMap stcell,u.oneCell'=true:=fun u hu=>by
 obtain⟨x,_,h⟩:=List.mem_flatMap.1 hu
 simp only[stcell,List.mem_cons,List.not_mem_nil,or_false]at h
 rcases h with h|h|h|h <;> rw[h] <;> rfl
set_option maxRecDepth 100000 in
set_option maxHeartbeats 2000000 in
theorem clone_st {n0:Nat} (v:Value) (K:List StV) (w:World) (h:StMem n0 w v K) (hk:K.length≤100000):
  Calls Tryz.prog 22 #[v] w fun e w'=> ∃v',e= .returned v'∧w'.ownsRow w.heap.size 39 4 v' K.length (K.flatMap stcell)∧Below w.heap.size w w':=by
 obtain⟨si,hsi,sz0,sz1,sz2⟩:=info_parts stinfo
 have hrow:=h.row
 rcases hrow.2 with⟨rfl,h0⟩|⟨g,cap,cur,rfl,hb,hg,hle,_⟩
 ·have hK:K= []:=List.eq_nil_of_length_eq_zero h0
  subst hK
  have hq:=fun w=>Lib.run_eql_slice_nil (P:=Tryz.prog) w 47 39 none 0 0 0 0 Tryz.underlying47
  clear h hrow
  go_enter Tryz.func22,Tryz.ntmps22
  go_wp2
  go_ret
  exact⟨_,rfl,World.ownsRow_nil _ _ _ _,Below.refl _ _⟩
 ·have hq:=fun w=>Lib.run_eql_slice_nil (P:=Tryz.prog) w 47 39 (some ⟨g,0,none⟩) K.length cap 0 0 Tryz.underlying47
  have hnews: ∀j u,(K.flatMap stcell)[j]? =some u→(w.alloc (.cells #[] 39)).cell? ((⟨g,0,none⟩:Addr).add j)=some u:=fun j u hj=>by
   have h0:=mx_at hrow hj
   have e:(⟨g,0,none⟩:Addr).add j=⟨g,j,none⟩:=by
    unfold Addr.add
    split
    ·rename_i e;rw[e]
    ·simp
   rw[e]
   exact((mx_al w _).cell (World.block_lt_of_cell? w _ h0)).trans h0
  have HN:=Lib.hid hnews
  have h0:(w.alloc (.cells #[] 39)).ownsRow w.heap.size 39 4 (.slice (some ⟨w.heap.size,0,none⟩) 0 0) 0 []:=⟨rfl,.inr ⟨w.heap.size,0,#[],rfl,Nat.le_refl _,World.alloc_heap_new _ _,Nat.le_refl _,Nat.zero_le _,rfl,rfl⟩⟩
  have H0:=Lib.hid h0
  clear hnews h0 h hrow hb hg
  go_enter Tryz.func22,Tryz.ntmps22
  go_wp2_with (at_builtin;go_must (refine wpList_append_own_at _ rfl _ _ 47 rfl w.heap.size 39 si (.agg #[.bool false,.int .i64 0,.slice none 0 0,.slice none 0 0]) 4 64 Tryz.underlying47 hsi sz0 sz1 sz2 rfl (by decide) _ _ _ rfl H0.out ⟨g,0,none⟩ K.length cap (K.flatMap stcell) rfl (stcell_len K) HN.out (stcell_one K) (by unfold maxLen;omega) (by omega) (by simp) ?_);intro v' w1 hown hgrow hnl hat)
  go_ret
  have hB:Below w.heap.size w w1:=((Below.refl w.heap.size w).alloc (Nat.le_refl _) (.cells #[] 39)).grown hgrow (by simp) (fun g hg=>by cases hg;exact Nat.le_refl _)
  exact⟨_,rfl,by simpa using hown,hB⟩
theorem own_steps {n0:Nat} {w:World} {v:Value} {KR:List (EStep×Value×Value)} (h:w.ownsRow n0 39 4 v KR.length (KR.flatMap rcell)) (hx: ∀x∈KR,IntsIn (fun _=>True) w x.2.1 x.1.lits∧IntsIn (fun _=>True) w x.2.2 x.1.hints):StepIn (fun _=>True) w v (KR.map Prod.fst):=by
 rcases h.2 with⟨rfl,h0⟩|⟨g,cap,cur,rfl,hb,hg,hle,_⟩
 ·exact⟨none,0,by rw[List.length_map,h0],by rw[List.length_map,h0];exact Nat.le_refl _,fun _=>rfl,fun i p hi=>by
   have:=(List.getElem?_eq_some_iff.1 hi).1
   rw[List.length_map]at this
   omega⟩
 ·refine⟨_,cap,by rw[List.length_map],by rw[List.length_map];exact hle,(fun h=>by cases h),fun i p hi=>?_⟩
  rw[List.getElem?_map]at hi
  cases hk:KR[i]? with
  | none=>rw[hk]at hi;cases hi
  | some x=>
   rw[hk]at hi
   obtain rfl:=Option.some.inj hi
   obtain⟨e0,e1,e2,e3⟩:=rcell_at KR i x hk
   obtain⟨h1,h2⟩:=hx x (List.mem_of_getElem? hk)
   exact⟨g,0,x.2.1,x.2.2,rfl,heap_lt hg,trivial,by rw[Nat.zero_add];exact mx_at h e0,by rw[Nat.zero_add];exact mx_at h e1,by rw[Nat.zero_add];exact mx_at h e2,by rw[Nat.zero_add];exact mx_at h e3,h1,h2⟩
def toR (x:StV):EStep×Value×Value:=(x.1,.slice x.2.1.1 x.1.lits.length x.2.1.2,.slice x.2.2.1 x.1.hints.length x.2.2.2)
theorem toR_cells: ∀K:List StV,(K.map toR).flatMap rcell=K.flatMap stcell
 | []=>rfl
 | x::K=>by
  rw[List.map_cons,List.flatMap_cons,List.flatMap_cons,toR_cells K]
  rfl
theorem toR_fst (K:List StV):(K.map toR).map Prod.fst=K.map Prod.fst:=by
 rw[List.map_map]
 rfl
end Go.Proofs.YtkfgplfllddhnaaGreat
namespace Go.Proofs.YtkfgplfllddhnaaGreat
open Go.RowKit
set_option maxHeartbeats 400000 in
theorem contains_sf {Oc:Nat→Prop} (F:Nat) (caps:Array Value) (u:Value) (xs:List EStep) (P:EStep→Bool) (w:World) (heg: ∀args w,(callFunc F args).run Tryz.prog w= .ok (.enter F args) w) (h1:StepIn Oc w u xs) (hs:xs.length≤140737488355328) (hF:TellsS Oc w F caps xs P):
  Calls Tryz.prog 31 #[u,.func (.func F) #[] caps] w fun e w'=>e= .returned (.bool (xs.any P))∧Below w.heap.size w w':=by
 have H0:=index_sf F caps u xs P w heg h1 hs hF
 obtain⟨z,hz⟩: ∃z,xs.any P=z:=⟨_,rfl⟩
 rw[hz]
 have HZ:=Lib.hid hz
 have H:=Lib.hid H0
 clear H0 hz hF
 go_enter Tryz.func31,Tryz.ntmps31
 go_wp2_with fail
 refine H.out.mono ?_
 rintro e w' ⟨⟨i,rfl,hi⟩,hb⟩
 have HI:=Lib.hid (show decide (0≤i)=z from by rw[hi.any];exact HZ.out)
 have HB:=Lib.hid hb
 clear hi hb
 go_wp2_with fail
 go_ret
 exact⟨ret_bool HI.out,HB.out⟩
theorem same_step {O O':Nat→Prop} (ul uh vl vh:Value) (s:EStep) (w:World) (h1:IntsIn O w ul s.lits) (h2:IntsIn O w uh s.hints) (h3:IntsIn O' w vl s.lits) (h4:IntsIn O' w vh s.hints) (hl:s.lits.length≤1000000) (hh:s.hints.length≤1000000):
  Calls Tryz.prog 59 #[.agg #[.bool s.del,.int .i64 s.id,ul,uh],.agg #[.bool s.del,.int .i64 s.id,vl,vh]] w fun e w'=>e= .returned (.bool true)∧Below w.heap.size w w':=by
 obtain⟨d,id,c,hs⟩:=s
 simp only at h1 h2 h3 h4 hl hh⊢
 obtain⟨W1,hW1,hb1,hc1,hz1⟩:=al_new w #[.bool d,.int .i64 id,ul,uh] 39
 obtain⟨W2,hW2,hb2,hc2,hz2⟩:=al_new W1 #[.bool d,.int .i64 id,vl,vh] 39
 have hc12:=(hb2.block _ (heap_lt hc1)).trans hc1
 have hb12:=hb1.trans (hb2.mono hb1.size)
 have HE1:=Lib.hid (fun(X:World) (hX:Below W2.heap.size W2 X)=>eq_c ul vl c c X ((h1.below hb12).below hX) ((h3.below hb12).below hX) (by omega))
 have HE2:=Lib.hid (fun(X:World) (hX:Below W2.heap.size W2 X)=>eq_i uh vh hs hs X ((h2.below hb12).below hX) ((h4.below hb12).below hX) (by omega))
 rw[beq_self_eq_true]at HE1 HE2
 obtain⟨A1,k1,rfl,_⟩:=h1
 obtain⟨A2,k2,rfl,_⟩:=h2
 obtain⟨A3,k3,rfl,_⟩:=h3
 obtain⟨A4,k4,rfl,_⟩:=h4
 have a0:=mx_cell (j:=0) hc12
 have a1:=mx_cell (j:=1) hc12
 have a2:=mx_cell (j:=2) hc12
 have a3:=mx_cell (j:=3) hc12
 have b0:=mx_cell (j:=0) hc2
 have b1:=mx_cell (j:=1) hc2
 have b2:=mx_cell (j:=2) hc2
 have b3:=mx_cell (j:=3) hc2
 rw[hz1]at b0 b1 b2 b3
 have hl1:w.heap.size<W2.heap.size:=heap_lt hc12
 have hl2:w.heap.size+1<W2.heap.size:=by have:=heap_lt hc2;omega
 have HW1:=Lib.hid hW1
 have HW2:=Lib.hid hW2
 have HB:=Lib.hid hb12
 clear hW1 hW2 hb1 hb2 hb12 hc1 hc2 hc12 hz1 hz2
 go_enter Tryz.func59,Tryz.ntmps59
 go_upto_region 1 with fail
 rw[HW1.out,HW2.out]
 go_wp2_with fail
 refine(HE1.out _ (Below.refl _ _)).mono ?_
 rintro e w3 ⟨rfl,q3,hw3⟩
 have hb3:Below W2.heap.size W2 w3:=by rw[hw3];exact mx_drewN _ _
 have HB3:=Lib.hid hb3
 have a3:=(hb3.cell (p:=⟨w.heap.size,3,none⟩) hl1).trans a3
 have b3:=(hb3.cell (p:=⟨w.heap.size+1,3,none⟩) hl2).trans b3
 clear hw3 hb3 HE1
 go_wp2_with fail
 refine(HE2.out _ HB3.out).mono ?_
 rintro e w4 ⟨rfl,q4,hw4⟩
 have HB4:=Lib.hid (HB.out.trans ((show Below W2.heap.size W2 w4 from by rw[hw4];exact HB3.out.trans ((mx_drewN _ _).mono HB3.out.size)).mono HB.out.size))
 clear hw4
 go_wp2_with fail
 go_ret
 exact⟨rfl,HB4.out⟩
set_option maxRecDepth 100000 in
set_option maxHeartbeats 1000000 in
theorem same_any {O O':Nat→Prop} (u v:Value) (xs:List EStep) (w:World) (h1:StepIn O w u xs) (h2:StepIn O' w v xs) (hn:xs.length≤1000000) (hs: ∀s∈xs,s.lits.length≤1000000∧s.hints.length≤1000000):
  Calls Tryz.prog 30 #[u,v] w fun e w'=>e= .returned (.bool true)∧Below w.heap.size w w':=by
 have H1:=Lib.hid h1
 have H2:=Lib.hid h2
 have HS:=Lib.hid hs
 obtain⟨A1,c1,rfl,hc1,_,_⟩:=h1
 obtain⟨A2,c2,rfl,hc2,_,_⟩:=h2
 obtain⟨L,hL⟩: ∃L,xs.length=L:=⟨_,rfl⟩
 have HL:=Lib.hid hL
 rw[hL]at H1 H2 hc1 hc2 hn⊢
 have hEF:Calls Tryz.prog 58 #[.slice A1 L c1,.slice A2 L c2,.func (.func 59) #[] #[]] w fun e w'=>e= .returned (.bool true)∧Below w.heap.size w w':=by
  clear hL hs
  have hEN: ∀args w,(callFunc 59 args).run Tryz.prog w= .ok (.enter 59 args) w:=enters_of Tryz.func59 (by kernel_rfl) rfl
  go_enter Tryz.func58,Tryz.ntmps58
  go_wp2_with fail
  go_loopw [17] (fun iv wr=> ∃i:Nat,i≤L∧iv= .int .i64 i∧Hid (Below w.heap.size w wr)) (fun iv _=>L-(intOf iv).toNat)
  case atStart=>exact⟨0,Nat.zero_le _,rfl,Lib.hid (Below.refl _ _)⟩
  case round=>
   obtain⟨i,hi,rfl,HB⟩:=hrel
   by_cases hlt:i<L
   ·obtain⟨s,hs⟩: ∃s,xs[i]? =some s:=⟨_,List.getElem?_eq_getElem (by rw[HL.out];exact hlt)⟩
    obtain⟨A',c',hAc,_,_,hxs⟩:=H1.out.below HB.out
    obtain⟨A'',c'',hAc',_,_,hys⟩:=H2.out.below HB.out
    simp only[Value.slice.injEq]at hAc hAc'
    obtain⟨rfl,-,rfl⟩:=hAc
    obtain⟨rfl,-,rfl⟩:=hAc'
    obtain⟨g,o,ul,uh,rfl,hg,_,d0,d1,d2,d3,hul,huh⟩:=hxs i s hs
    obtain⟨g',o',vl,vh,rfl,hg',_,e0,e1,e2,e3,hvl,hvh⟩:=hys i s hs
    obtain⟨hsl,hsh⟩:=HS.out s (List.mem_of_getElem? hs)
    obtain⟨W1,hW1,hb1,hx1,hz1⟩:=al_new wr #[.bool s.del,.int .i64 s.id,ul,uh] 39
    obtain⟨W2,hW2,hb2,hx2,hz2⟩:=al_new W1 #[.bool s.del,.int .i64 s.id,vl,vh] 39
    have hb12:=hb1.trans (hb2.mono hb1.size)
    have hx12:=(hb2.block _ (heap_lt hx1)).trans hx1
    have HSM:=Lib.hid (same_step ul uh vl vh s W2 (hul.below hb12) (huh.below hb12) (hvl.below hb12) (hvh.below hb12) hsl hsh)
    have HB2:=Lib.hid (HB.out.trans (hb12.mono HB.out.size))
    obtain⟨Al,cl,rfl,_⟩:=hul
    obtain⟨Ah,ch,rfl,_⟩:=huh
    obtain⟨Bl,dl,rfl,_⟩:=hvl
    obtain⟨Bh,dh,rfl,_⟩:=hvh
    have e0:=(hb1.cell (p:=⟨g',o'+i*4,none⟩) hg').trans e0
    have e1:=(hb1.cell (p:=⟨g',o'+i*4+1,none⟩) hg').trans e1
    have e2:=(hb1.cell (p:=⟨g',o'+i*4+2,none⟩) hg').trans e2
    have e3:=(hb1.cell (p:=⟨g',o'+i*4+3,none⟩) hg').trans e3
    have x0:=mx_cell (j:=0) hx12
    have x1:=mx_cell (j:=1) hx12
    have x2:=mx_cell (j:=2) hx12
    have x3:=mx_cell (j:=3) hx12
    have y0:=mx_cell (j:=0) hx2
    have y1:=mx_cell (j:=1) hx2
    have y2:=mx_cell (j:=2) hx2
    have y3:=mx_cell (j:=3) hx2
    have HW1:=Lib.hid hW1
    have HW2:=Lib.hid hW2
    clear hW1 hW2 hb1 hb2 hb12 hx1 hx2 hx12 hz1 hz2 hxs hys hs hsl hsh
    go_upto_region 6 with fail
    rw[HW1.out]
    go_upto_region 7 with fail
    rw[HW2.out]
    go_wp2_with fail
    refine HSM.out.mono ?_
    rintro e w3 ⟨rfl,hb3⟩
    have HB3:=Lib.hid (HB2.out.trans (hb3.mono HB2.out.size))
    clear hb3 x0 x1 x2 x3 y0 y1 y2 y3 d0 d1 d2 d3 e0 e1 e2 e3
    go_wp2_with fail
    go_roundw
    case rel=>exact⟨i+1,by omega,by go_num,HB3⟩
    case measure=>simp[intOf];omega
   ·obtain rfl:i=L:=by omega
    go_wp2_with fail
    go_ret
    exact⟨rfl,HB.out⟩
 have HEF:=Lib.hid hEF
 clear hEF hs
 go_enter Tryz.func30,Tryz.ntmps30
 go_wp2_with fail
 refine HEF.out.mono ?_
 rintro e w1 ⟨rfl,hb1⟩
 have HB1:=Lib.hid hb1
 clear hb1
 go_wp2_with fail
 go_ret
 exact⟨rfl,HB1.out⟩
end Go.Proofs.YtkfgplfllddhnaaGreat
namespace Go.Proofs.YtkfgplfllddhnaaGreat
open Go.RowKit
theorem trims_two {O:Nat→Prop} (bx:Nat) (uh:Value) (hs:List Int) (h:Int) (w:World) (hc:w.cell? ⟨bx,3,none⟩=some uh) (hi:IntsIn O w uh hs) (hn:hs.length≤1000000):
  Calls Tryz.prog 34 #[.int .i64 h,.pointer (some ⟨bx,0,none⟩)] w fun e w'=>e= .returned (.bool (!hs.contains h))∧Below w.heap.size w w':=by
 have HC:=Lib.hid (contains_i uh hs h w hi (by omega))
 obtain⟨z,hz⟩: ∃z,hs.contains h=z:=⟨_,rfl⟩
 rw[hz]at HC⊢
 obtain⟨A,c,rfl,_⟩:=hi
 clear hz
 go_enter Tryz.func34,Tryz.ntmps34
 go_wp2_with fail
 refine HC.out.mono ?_
 rintro e w1 ⟨rfl,rfl⟩
 go_wp2_with fail
 go_ret
 exact⟨rfl,Below.refl _ _⟩
def trimB (s x:EStep):Bool:=decide (x.id=s.id)&&(x.lits==s.lits)&& !(s.hints.any fun h=> !x.hints.contains h)
set_option maxRecDepth 100000 in
set_option maxHeartbeats 1000000 in
theorem trims_one {O O':Nat→Prop} (q:Nat) (z0 ul uh vl vh:Value) (x s:EStep) (w:World) (hq:w.heap[q]? =some (.cells #[z0,.int .i64 s.id,vl,vh] 39 (0,0))) (h1:IntsIn O w ul x.lits) (h2:IntsIn O w uh x.hints) (h3:IntsIn O' w vl s.lits) (h4:IntsIn O' w vh s.hints) (hxl:x.lits.length≤1000000) (hxh:x.hints.length≤1000000) (hsh:s.hints.length≤1000000):
  Calls Tryz.prog 32 #[.agg #[.bool x.del,.int .i64 x.id,ul,uh],.pointer (some ⟨q,0,none⟩)] w fun e w'=>e= .returned (.bool (trimB s x))∧Below w.heap.size w w':=by
 obtain⟨d,id,c,hs⟩:=x
 obtain⟨d',id',c',hs'⟩:=s
 unfold trimB
 simp only at hq h1 h2 h3 h4 hxl hxh hsh⊢
 obtain⟨W1,hW1,hb1,hc1,hz1⟩:=al_new w #[.bool d,.int .i64 id,ul,uh] 39
 have hq1:=(hb1.block _ (heap_lt hq)).trans hq
 have HE:=Lib.hid (eq_c ul vl c c' W1 (h1.below hb1) (h3.below hb1) (by omega))
 have HQ:=Lib.hid (fun(X:World) (hX:Below W1.heap.size W1 X)=>contains_nf 34 (.pointer (some ⟨w.heap.size,0,none⟩)) vh hs' (fun h=> !hs.contains h) X (enters_of Tryz.func34 (by kernel_rfl) rfl) ((h4.below hb1).below hX) (by omega) (fun Y hY h _=>trims_two w.heap.size uh hs h Y (((hX.trans (hY.mono hX.size)).cell (p:=⟨w.heap.size,3,none⟩) (heap_lt hc1)).trans (mx_cell (j:=3) hc1)) ((h2.below hb1).below (hX.trans (hY.mono hX.size))) hxh))
 obtain⟨A1,k1,rfl,_⟩:=h1
 obtain⟨A2,k2,rfl,_⟩:=h2
 obtain⟨A3,k3,rfl,_⟩:=h3
 obtain⟨A4,k4,rfl,_⟩:=h4
 have a1:=mx_cell (j:=1) hc1
 have a2:=mx_cell (j:=2) hc1
 have a3:=mx_cell (j:=3) hc1
 have b1:=mx_cell (j:=1) hq1
 have b2:=mx_cell (j:=2) hq1
 have b3:=mx_cell (j:=3) hq1
 have hl1:=heap_lt hc1
 have hl2:=heap_lt hq1
 have HW1:=Lib.hid hW1
 have HB:=Lib.hid hb1
 clear hW1 hb1 hc1 hz1 hq hq1
 by_cases hid:id=id'
 ·subst hid
  have q0:(id==id)=true:=beq_self_eq_true id
  rw[show decide (id=id)=true from decide_eq_true rfl,Bool.true_and]
  obtain⟨z,hz⟩: ∃z,(c==c')=z:=⟨_,rfl⟩
  obtain⟨y,hy⟩: ∃y,(hs'.any fun h=> !hs.contains h)=y:=⟨_,rfl⟩
  rw[hz]at HE
  rw[hy]at HQ
  rw[hz,hy]
  clear hz hy
  go_enter Tryz.func32,Tryz.ntmps32
  go_upto_region 1 with fail
  rw[HW1.out]
  go_wp2_with fail
  refine HE.out.mono ?_
  rintro e w3 ⟨rfl,q3,hw3⟩
  have hb3:Below W1.heap.size W1 w3:=by rw[hw3];exact mx_drewN _ _
  have HB3:=Lib.hid hb3
  have b3:=(hb3.cell (p:=⟨q,3,none⟩) hl2).trans b3
  clear hw3 hb3 HE
  cases z with
  | false=>
   go_wp2_with fail
   go_ret
   exact⟨rfl,HB.out.trans (HB3.out.mono HB.out.size)⟩
  | true=>
   go_wp2_with fail
   refine(HQ.out _ HB3.out).mono ?_
   rintro e w4 ⟨rfl,hb4⟩
   have HB4:=Lib.hid (HB.out.trans ((HB3.out.trans (hb4.mono HB3.out.size)).mono HB.out.size))
   clear hb4
   go_wp2_with fail
   go_ret
   exact⟨rfl,HB4.out⟩
 ·have q0:(id==id')=false:=beq_eq_false_iff_ne.2 hid
  rw[show decide (id=id')=false from decide_eq_false hid,Bool.false_and,Bool.false_and]
  go_enter Tryz.func32,Tryz.ntmps32
  go_upto_region 1 with fail
  rw[HW1.out]
  go_wp2_with fail
  go_ret
  exact⟨rfl,HB.out⟩
end Go.Proofs.YtkfgplfllddhnaaGreat
namespace Go.Proofs.YtkfgplfllddhnaaGreat
open Go.RowKit
theorem run_clear4 (w:World) (ty:TypeId) (b o c:Nat) (hc: ∀j,j<4→(w.cell? ⟨b,o+j,none⟩).isSome=true) (hf: ∀j,j<4→w.frozen? ⟨b,o+j,none⟩=false):
  (Builtin.clear_ #[47] ty #[.slice (some ⟨b,o,none⟩) 1 c]).run Tryz.prog w= .ok (.tuple #[]) (w.setCells b o [.bool false,.int .i64 0,.slice none 0 0,.slice none 0 0]):=by
 have hzc:(Builtin.zeroCells (Value.agg #[.bool false,.int .i64 0,.slice none 0 0,.slice none 0 0]).cells 1).toList= [.bool false,.int .i64 0,.slice none 0 0,.slice none 0 0]:=by kernel_rfl
 have hst:=run_storeCells_cells (P:=Tryz.prog) b o [.bool false,.int .i64 0,.slice none 0 0,.slice none 0 0] 0 w (by simpa using hc) (by simpa using hf) (by simp[Value.oneCell'])
 simp only[Nat.add_zero]at hst
 simp[Builtin.clear_,run_underlying Tryz.underlying47,hzc,hst]
theorem wp_append_runS (d:Nat) {P:Program} {w w':World} {o:Oper} {a:Act} {K:Act→World→Prop} {Q:Exit→Act→World→Prop} {v':Value} (hd:o.dst=some d) (s x:Operand) (t:TypeId) (ho:o.op= .call { callee:=.builtin .append,args:= #[s,x],argTypes:= #[t,t] }) (v y:Value) (hs:a.eval s=v) (hx:a.eval x=y)
  (hr:(Builtin.append_ #[t,t] o.type #[v,y]).run P w= .ok v' w') (h:K (a.put (some d) v') w'):Oper.wp P o a w K Q:=by
 unfold Oper.wp execOp
 simp only[ho,resolve,invoke,builtin,Sem.run_bind,Sem.run_pure,Result.andThen_ok,List.map_toArray,List.map_cons,List.map_nil,hs,hx,hr]
 show K (a.put o.dst v') w'
 rw[hd]
 exact h
theorem addr_add4 (g o j:Nat):(⟨g,o,none⟩:Addr).add j=⟨g,o+j,none⟩:=by
 unfold Addr.add
 split <;> simp_all
set_option maxRecDepth 100000 in
set_option maxHeartbeats 2000000 in
theorem del_steps (g cap i m base:Nat) (K:List StV) (w:World) (h:w.ownsRow base 39 4 (.slice (some ⟨g,0,none⟩) K.length cap) K.length (K.flatMap stcell)) (hl:K.length=i+m+1) (hb:K.length≤1000):
  Calls Tryz.prog 35 #[.slice (some ⟨g,0,none⟩) K.length cap,.int .i64 (i:Int),.int .i64 ((i:Int)+1)] w fun e w'=>e= .returned (.slice (some ⟨g,0,none⟩) (i+m) cap)∧w'.ownsRow base 39 4 (.slice (some ⟨g,0,none⟩) (i+m) cap) (i+m) ((K.eraseIdx i).flatMap stcell)∧Kept (fun k=>k=g) w w':=by
 obtain⟨i0,hi0,hz0,hz1,hz2⟩:=info_parts stinfo
 have hle:K.length≤cap:=by
  obtain⟨A,c,hv,hc⟩:=mx_slice h
  simp only[Value.slice.injEq,true_and]at hv
  rw[←hv.2]at hc
  exact hc
 obtain⟨cs,hg,hcs,hcx,hm,hbg⟩: ∃cs:Array Value,w.heap[g]? =some (.cells cs 39 (0,0))∧cs.size=cap*4∧cs.toList.take (K.length*4)=K.flatMap stcell∧cap≤maxLen∧base≤g:=by
  rcases h.2 with⟨h1,_⟩|⟨g',cap',cur,hv,hbg,hg,_,hm,hs,hx⟩
  ·cases h1
  ·cases hv
   exact⟨cur,hg,hs,hx,hm,hbg⟩
 have hfl:(K.flatMap stcell).length=K.length*4:=stcell_len K
 have hgD:w.drew.heap[g]? =some (.cells cs 39 (0,0)):=hg
 obtain⟨Ad,hAd,hAd2⟩: ∃Ad:Addr,(if cap=i+1 then(some ⟨g,0,none⟩:Option Addr)else some ⟨g,(i+1)*4,none⟩)=some Ad∧(0<m→Ad=⟨g,(i+1)*4,none⟩):=by
  by_cases he:cap=i+1
  ·rw[if_pos he]
   exact⟨_,rfl,fun hm=>by omega⟩
  ·rw[if_neg he]
   exact⟨_,rfl,fun _=>rfl⟩
 obtain⟨news,hnw⟩: ∃x,(K.drop (i+1)).flatMap stcell=x:=⟨_,rfl⟩
 have hnl0:news.length=m*4:=by rw[←hnw,stcell_len,List.length_drop];omega
 have hnl:news.length=m*i0.size:=by rw[hz1,hnl0]
 have hnews: ∀j u,news[j]? =some u→w.drew.cell? (Ad.add j)=some u:=fun j u hj=>by
  have hj3:=(List.getElem?_eq_some_iff.1 hj).1
  rw[hAd2 (by omega),addr_add4,mx_cell hgD]
  have e1:(K.flatMap stcell).drop ((i+1)*4)=news:=by
   rw[←hnw]
   conv=>lhs;rw[←List.take_append_drop (i+1) K,List.flatMap_append]
   rw[List.drop_append_of_le_length (by rw[stcell_len,List.length_take];omega),List.drop_eq_nil_of_le (by rw[stcell_len,List.length_take];omega),List.nil_append]
  rw[←e1,List.getElem?_drop,←hcx,List.getElem?_take_of_lt (by omega),Array.getElem?_toList]at hj
  exact hj
 have h1: ∀u∈news,u.oneCell'=true:=fun u hu=>stcell_one (K.drop (i+1)) u (by rw[hnw];exact hu)
 have hrun:=fun ty=>run_append_room (P:=Tryz.prog) w.drew 47 ty 39 i0 Tryz.underlying47 hi0 g i cap cs hgD Ad m (cap-(i+1)) news hnl hnews h1 (by omega) (by rw[hnl,hz1,hcs];omega)
 rw[hz1]at hrun
 obtain⟨c2,hc2⟩: ∃x,(cs.toList.take (i*4)++news++cs.toList.drop (i*4+news.length)).toArray=x:=⟨_,rfl⟩
 rw[hc2]at hrun
 obtain⟨W2,hW2⟩: ∃x,w.drew.setRow g c2=x:=⟨_,rfl⟩
 rw[hW2]at hrun
 have hb2:W2.heap[g]? =some (.cells c2 39 (0,0)):=by
  rw[←hW2]
  exact setRow_heap w.drew g cs _ _ _ hgD
 have hk2:Kept (fun k=>k=g) w W2:=by
  rw[←hW2]
  exact⟨rfl,rfl,rfl,by simp,fun k _ hk=>setRow_other w.drew g k _ hk⟩
 have hs2:c2.size=cap*4:=by
  rw[←hc2]
  simp only[List.size_toArray,List.length_append,List.length_take,List.length_drop,Array.length_toList,hcs,hnl0]
  omega
 have hel:(K.eraseIdx i).length=i+m:=by rw[List.length_eraseIdx_of_lt (by omega)];omega
 have ht2:c2.toList.take ((i+m)*4)=(K.eraseIdx i).flatMap stcell:=by
  rw[←hc2,List.toList_toArray,List.eraseIdx_eq_take_drop_succ,List.flatMap_append,hnw]
  have e1:cs.toList.take (i*4)=(K.take i).flatMap stcell:=by
   have e2:(K.flatMap stcell).take (i*4)=(K.take i).flatMap stcell:=by
    conv=>lhs;rw[←List.take_append_drop i K,List.flatMap_append]
    rw[List.take_append_of_le_length (by rw[stcell_len,List.length_take];omega),List.take_of_length_le (by rw[stcell_len,List.length_take];omega)]
   rw[←e2,←hcx,List.take_take,Nat.min_eq_left (by omega)]
  rw[e1]
  have e3:((K.take i).flatMap stcell++news).length=(i+m)*4:=by
   rw[List.length_append,stcell_len,List.length_take,hnl0]
   omega
  rw[List.take_append_of_le_length (Nat.le_of_eq e3.symm),List.take_of_length_le (Nat.le_of_eq e3)]
 have hcl:=fun ty c=>run_clear4 W2 ty g ((i+m)*4) c (fun j hj=>by rw[mx_cell hb2,Array.getElem?_eq_getElem (by omega)];rfl) (fun j _=>free_at hb2)
 obtain⟨W3,hW3⟩: ∃x,W2.setCells g ((i+m)*4) [.bool false,.int .i64 0,.slice none 0 0,.slice none 0 0]=x:=⟨_,rfl⟩
 rw[hW3]at hcl
 have hb3:W3.heap[g]? =some (.cells ((((c2.setIfInBounds ((i+m)*4) (.bool false)).setIfInBounds ((i+m)*4+1) (.int .i64 0)).setIfInBounds ((i+m)*4+2) (.slice none 0 0)).setIfInBounds ((i+m)*4+3) (.slice none 0 0)) 39 (0,0)):=by
  rw[←hW3]
  exact mx_set (j:=(i+m)*4+3) (mx_set (j:=(i+m)*4+2) (mx_set (j:=(i+m)*4+1) (mx_set (j:=(i+m)*4) hb2 _) _) _) _
 have hk3:Kept (fun k=>k=g) w W3:=by
  rw[←hW3]
  exact(((hk2.setCell ⟨g,(i+m)*4,none⟩ _ rfl).setCell ⟨g,(i+m)*4+1,none⟩ _ rfl).setCell ⟨g,(i+m)*4+2,none⟩ _ rfl).setCell ⟨g,(i+m)*4+3,none⟩ _ rfl
 have hA:W3.ownsRow base 39 4 (.slice (some ⟨g,0,none⟩) (i+m) cap) (i+m) ((K.eraseIdx i).flatMap stcell):=by
  refine⟨by rw[stcell_len,hel],.inr ⟨g,cap,_,rfl,hbg,hb3,by omega,hm,by simp[hs2],?_⟩⟩
  rw[←ht2]
  simp only[Array.toList_setIfInBounds]
  rw[List.take_set_of_le (by omega),List.take_set_of_le (by omega),List.take_set_of_le (by omega),List.take_set_of_le (by omega)]
 have HRUN:=Lib.hid hrun
 have HCL:=Lib.hid hcl
 have HA:=Lib.hid hA
 have HK3:=Lib.hid hk3
 clear hg hcs hgD hnl hnews h1 hrun hW2 hb2 hk2 hs2 ht2 hcl hW3 hb3 hk3 hA hi0 hz0 hz1 hz2 h hcx hfl hnw hnl0 hc2 hAd2 hel hbg
 have HAD:=Lib.hid hAd
 clear hAd
 obtain⟨L,hL⟩: ∃x,K.length=x:=⟨_,rfl⟩
 rw[hL]at hle hl hb⊢
 clear hL
 unfold maxLen at hm
 have hic:i≤cap:=by omega
 have hi1:i+1≤L:=by omega
 have hm2:L-(i+1)=m:=by omega
 have cn1:(0:Int)≤(i:Int)+1:=by omega
 have cn2:(i:Int)≤(i:Int)+(m:Int):=by omega
 have hAd:=HAD.out
 go_enter Tryz.func35,Tryz.ntmps35
 go_upto_region 5 with fail
 refine wp_region_held_drew (S:=fun _=>True) (by kernel_rfl) trivial (fun hS=>?_)
 refine takeE 0 20 ?_
 refine takeE 1 21 ?_
 refine takeE 2 22 ?_
 refine takeE 3 23 ?_
 refine takeE 4 24 ?_
 refine takeE 5 25 ?_
 refine ready1 6 (fun K hK=>?_)
 rw[if_pos (by rfl)]
 refine wp_append_runS 26 (by rfl) _ _ 47 rfl _ _ (by rfl) (by rfl) (by first|exact HRUN.out _|(simp only[HAD.out];exact HRUN.out _)) ?_
 refine hK.out _ _ trivial (fun _=>?_)
 clear hK
 simp only[Act.put,List.setIfInBounds_toArray,List.set_cons_zero,List.set_cons_succ]
 refine takeE 7 0 ?_
 refine wpAnyH_done (by kernel_rfl) ?_ _
 have hcl:=HCL.out
 go_wp2_with fail
 go_ret
 exact⟨rfl,HA.out,HK3.out⟩
end Go.Proofs.YtkfgplfllddhnaaGreat
