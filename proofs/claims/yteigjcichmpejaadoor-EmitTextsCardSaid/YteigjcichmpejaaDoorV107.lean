/- lratext.Right at steps that are right. lratext.fits and lratext.Check at proofs that are right. (*strings.Builder).WriteString of the library, laid by hand at this program's numbers. -/
import Derived.Test.YteigjcichmpejaaDoorV106
import Derived.Test.YteigjcichmpejaaDoorShelf
namespace Go.Proofs.YteigjcichmpejaaDoor
open Go.RowKit
structure StepOk (s:EStep):Prop where
 id0:1≤s.id
 id1:s.id≤1073741824
 del:s.del=true→s.lits= []
 lits:clauseB s.lits=true
 len:s.hints.length≤65536
 hints: ∀x∈s.hints,HintOk x
theorem wrong_any (r:Bool) (w:World):Calls Tryd.prog 41 #[.bool r] w fun e w'=> ∃bx,e= .returned (.func (.func 52) #[] #[.pointer (some ⟨bx,0,none⟩)])∧w'.cell? ⟨bx,0,none⟩=some (.bool r)∧Below w.heap.size w w':=by
 go_enter Tryd.func41,Tryd.ntmps41
 go_wp2
 go_ret
 exact⟨_,rfl,cell_new _ _ _ _,(Below.refl _ _).alloc (Nat.le_refl _) _⟩
set_option maxRecDepth 100000 in
set_option maxHeartbeats 1000000 in
theorem right_step {O O':Nat→Prop} (s:EStep) (lv hv:Value) (w:World) (h:StepOk s) (hl:IntsIn O w lv s.lits) (hh:IntsIn O' w hv s.hints):
  Calls Tryd.prog 26 #[.agg #[.bool s.del,.int .i64 s.id,lv,hv]] w fun e w'=>e= .returned (.bool true)∧Below w.heap.size w w':=by
 obtain⟨i0,i1,hd,hc,hlen,hok⟩:=h
 have hcl:s.lits.length≤4096:=by
  unfold clauseB at hc
  rw[Bool.and_eq_true,decide_eq_true_eq]at hc
  exact hc.1
 have HR:=fun w' k=>right_clause (O:=O) lv s.lits w' (hl.below k) (by omega)
 rw[hc]at HR
 have HR:=Lib.hid HR
 have HH:=Lib.hid hh
 have HOK:=Lib.hid hok
 have q1:decide (s.id<0)=false:=by simp;omega
 have q2:decide ((1073741824:Int)<s.id)=false:=by simp;omega
 have q3:(s.id==0)=false:=by simp;omega
 have q4:decide ((s.hints.length:Int)≤65536)=true:=by simp;omega
 have q5:s.del=true→decide ((0:Int)<(s.lits.length:Int))=false:=fun h=>by rw[hd h];simp
 have q6:s.del=true→s.lits.length=0:=fun h=>by rw[hd h];rfl
 obtain⟨A,c,rfl,hcc,_⟩:=hl
 obtain⟨A',c',rfl,hcc',_⟩:=hh
 clear hc hok hd
 cases hdel:s.del with
 | false=>
  clear q5 q6
  have HD:=Lib.hid hdel
  clear hdel
  have hB1:Below w.heap.size w (w.alloc (.cells #[.bool false,.int .i64 s.id,.slice A s.lits.length c,.slice A' s.hints.length c'] 49)):=(Below.refl _ _).alloc (Nat.le_refl _) _
  have HB1:=Lib.hid hB1
  clear hB1
  go_enter Tryd.func26,Tryd.ntmps26
  go_wp2_with fail
  refine wp_region_held_drew (S:=fun w'=>w'.cell? ⟨w.heap.size,0,none⟩=some (.bool false)∧w'.cell? ⟨w.heap.size,2,none⟩=some (.slice A s.lits.length c)∧w'.cell? ⟨w.heap.size,3,none⟩=some (.slice A' s.hints.length c')) (by kernel_rfl) ⟨cell_new _ _ _ _,cell_new _ _ _ _,cell_new _ _ _ _⟩ (fun hHeld=>?_)
  refine takeS 0 31 ?_
  refine takeS 1 32 ?_
  refine ready1 2 (fun K hK=>?_)
  go_simp
  refine(HR.out _ HB1.out.drew).mono ?_
  rintro e w' ⟨rfl,rfl⟩
  refine hK.out _ _ hHeld (fun hHeld1=>?_)
  clear hK hHeld
  refine takeS 3 34 ?_
  refine takeS 4 35 ?_
  refine takeS 5 36 ?_
  refine takeS 6 37 ?_
  refine takeS 7 38 ?_
  refine takeS 8 39 ?_
  refine takeS 9 40 ?_
  refine takeS 10 41 ?_
  refine takeS 11 42 ?_
  refine takeS 12 43 ?_
  refine takeS 13 44 ?_
  refine ready1 14 (fun K hK=>?_)
  go_simp
  refine(wrong_any false _).mono ?_
  rintro e w2 ⟨bx,rfl,hcb,hB3⟩
  have hB2:Below w.heap.size w w2:=HB1.out.drew.trans (hB3.mono (by simp))
  refine hK.out _ _ ⟨(hB3.cell (p:=⟨w.heap.size,0,none⟩) (by simp)).trans hHeld1.1,(hB3.cell (p:=⟨w.heap.size,2,none⟩) (by simp)).trans hHeld1.2.1,(hB3.cell (p:=⟨w.heap.size,3,none⟩) (by simp)).trans hHeld1.2.2⟩ (fun hHeld2=>?_)
  clear hK hHeld1
  have HC:=contains_hints _ s.hints _ false _ (HH.out.below hB2) (by omega) HOK.out hcb
  have HC:=Lib.hid HC
  have HB2:=Lib.hid hB2
  clear hB2 hB3 hcb
  refine ready1 15 (fun K hK=>?_)
  go_simp
  refine HC.out.mono ?_
  rintro e w' ⟨rfl,rfl⟩
  refine hK.out _ _ hHeld2 (fun hHeld3=>?_)
  clear hK hHeld2
  refine takeS 16 47 ?_
  refine takeS 17 48 ?_
  refine takeS 18 2 ?_
  refine wpAnyH_done (by kernel_rfl) ?_ _
  go_wp2
  go_ret
  exact⟨rfl,HB2.out⟩
 | true=>
  have q8:=q5 hdel
  have q9:decide (0<s.lits.length)=false:=by rw[q6 hdel];rfl
  have Q7:=Lib.hid (q6 hdel)
  clear q5 q6
  have HD:=Lib.hid hdel
  clear hdel
  have hB1:Below w.heap.size w (w.alloc (.cells #[.bool true,.int .i64 s.id,.slice A s.lits.length c,.slice A' s.hints.length c'] 49)):=(Below.refl _ _).alloc (Nat.le_refl _) _
  have HB1:=Lib.hid hB1
  clear hB1
  go_enter Tryd.func26,Tryd.ntmps26
  go_wp2_with fail
  refine wp_region_held_drew (S:=fun w'=>w'.cell? ⟨w.heap.size,0,none⟩=some (.bool true)∧w'.cell? ⟨w.heap.size,2,none⟩=some (.slice A s.lits.length c)∧w'.cell? ⟨w.heap.size,3,none⟩=some (.slice A' s.hints.length c')) (by kernel_rfl) ⟨cell_new _ _ _ _,cell_new _ _ _ _,cell_new _ _ _ _⟩ (fun hHeld=>?_)
  refine takeS 0 31 ?_
  refine takeS 1 32 ?_
  refine ready1 2 (fun K hK=>?_)
  go_simp
  refine(HR.out _ HB1.out.drew).mono ?_
  rintro e w' ⟨rfl,rfl⟩
  refine hK.out _ _ hHeld (fun hHeld1=>?_)
  clear hK hHeld
  refine takeS 3 34 ?_
  refine takeS 4 35 ?_
  refine takeS 5 36 ?_
  refine takeS 6 37 ?_
  refine takeS 7 38 ?_
  refine takeS 8 39 ?_
  refine takeS 9 40 ?_
  refine takeS 10 41 ?_
  refine takeS 11 42 ?_
  refine takeS 12 43 ?_
  refine takeS 13 44 ?_
  refine ready1 14 (fun K hK=>?_)
  go_simp
  refine(wrong_any true _).mono ?_
  rintro e w2 ⟨bx,rfl,hcb,hB3⟩
  have hB2:Below w.heap.size w w2:=HB1.out.drew.trans (hB3.mono (by simp))
  refine hK.out _ _ ⟨(hB3.cell (p:=⟨w.heap.size,0,none⟩) (by simp)).trans hHeld1.1,(hB3.cell (p:=⟨w.heap.size,2,none⟩) (by simp)).trans hHeld1.2.1,(hB3.cell (p:=⟨w.heap.size,3,none⟩) (by simp)).trans hHeld1.2.2⟩ (fun hHeld2=>?_)
  clear hK hHeld1
  have HC:=contains_hints _ s.hints _ true _ (HH.out.below hB2) (by omega) HOK.out hcb
  have HC:=Lib.hid HC
  have HB2:=Lib.hid hB2
  clear hB2 hB3 hcb
  refine ready1 15 (fun K hK=>?_)
  go_simp
  refine HC.out.mono ?_
  rintro e w' ⟨rfl,rfl⟩
  refine hK.out _ _ hHeld2 (fun hHeld3=>?_)
  clear hK hHeld2
  refine takeS 16 47 ?_
  refine takeS 17 48 ?_
  refine takeS 18 2 ?_
  refine wpAnyH_done (by kernel_rfl) ?_ _
  go_wp2
  go_ret
  exact⟨rfl,HB2.out⟩
end Go.Proofs.YteigjcichmpejaaDoor
namespace Go.Proofs.YteigjcichmpejaaDoor
open Go.RowKit
def prevId (l:List EStep):Nat→Int
 | 0=>0
 | k+1=>((l[k]?).map EStep.id).getD 0
structure ProofOk (l:List EStep):Prop where
 each: ∀s∈l,StepOk s
 fits: ∀k s,l[k]? =some s→prevId l k<s.id∨s.del=true∧s.id=prevId l k
 len:l.length≤262144
set_option maxHeartbeats 400000 in
theorem fits_ok (d:Bool) (i last:Int) (lv hv:Value) (w:World) (h:last<i∨d=true∧i=last):
  Calls Tryd.prog 27 #[.agg #[.bool d,.int .i64 i,lv,hv],.int .i64 last] w fun e w'=>e= .returned (.bool true)∧Below w.heap.size w w':=by
 rcases h with h|⟨rfl,rfl⟩
 ·go_enter Tryd.func27,Tryd.ntmps27
  go_wp2
  go_ret
  exact⟨rfl,(Below.refl _ _).alloc (Nat.le_refl _) _⟩
 ·go_enter Tryd.func27,Tryd.ntmps27
  go_wp2
  go_ret
  exact⟨rfl,(Below.refl _ _).alloc (Nat.le_refl _) _⟩
theorem step_cells {O:Nat→Prop} {w:World} {v:Value} {l:List EStep} {ms:List MStep} (h:StepsAt O w v l ms) {k:Nat} (hk:k<ms.length):
  ∃m g,ms[k]? =some m∧l[k]? =some m.s∧m.At O w∧(∃c,v= .slice (some ⟨g,0,none⟩) ms.length c)∧g<w.heap.size∧
   w.cell? ⟨g,k*4,none⟩=some (.bool m.s.del)∧w.cell? ⟨g,k*4+1,none⟩=some (.int .i64 m.s.id)∧w.cell? ⟨g,k*4+2,none⟩=some m.lv∧w.cell? ⟨g,k*4+3,none⟩=some m.hv:=by
 obtain⟨m,hm⟩: ∃m,ms[k]? =some m:=⟨_,List.getElem?_eq_getElem hk⟩
 have hl:l[k]? =some m.s:=by rw[←h.steps,List.getElem?_map,hm];rfl
 have hat:=h.each m (List.mem_of_getElem? hm)
 rcases h.row.2 with⟨_,h0⟩|⟨g,cap,cur,rfl,_,hg,_⟩
 ·omega
 ·have hc:=h.row.cells (g:=g) rfl
  have hcell: ∀j,j<4→(ms.flatMap MStep.cells)[k*4+j]? =m.cells[j]? :=fun j hj=>cells_at ms k m hm j hj
  refine⟨m,g,hm,hl,hat,⟨cap,rfl⟩,heap_lt hg,?_,?_,?_,?_⟩
  ·have:=hc (k*4+0) _ (hcell 0 (by omega));rw[addr_add]at this;exact this
  ·have:=hc _ _ (hcell 1 (by omega));rw[addr_add]at this;exact this
  ·have:=hc _ _ (hcell 2 (by omega));rw[addr_add]at this;exact this
  ·have:=hc _ _ (hcell 3 (by omega));rw[addr_add]at this;exact this
theorem prevId_succ {l:List EStep} {k:Nat} {s:EStep} (h:l[k]? =some s):prevId l (k+1)=s.id:=by
 simp only[prevId,h,Option.map_some,Option.getD_some]
set_option maxRecDepth 100000 in
set_option maxHeartbeats 1000000 in
theorem check_ok {O:Nat→Prop} (v:Value) (l:List EStep) (ms:List MStep) (w:World) (h:StepsAt O w v l ms) (hp:ProofOk l):
  Calls Tryd.prog 12 #[v] w fun e w'=>e= .returned (.tuple #[.int .i64 (-1),.int .i64 0])∧Below w.heap.size w w':=by
 have hms:ms.length=l.length:=by rw[←h.steps,List.length_map]
 have hml:ms.length≤262144:=by have:=hp.len;omega
 obtain⟨As,cs,rfl,hcs⟩:=own_slice h.row
 have q1:decide ((262144:Int)<(ms.length:Int))=false:=by simp;omega
 have q2:decide (262144<ms.length)=false:=by simp;omega
 have H:=Lib.hid h
 have HP:=Lib.hid hp
 have HM:=Lib.hid hms
 clear h hp hms
 go_enter Tryd.func12,Tryd.ntmps12
 go_wp2
 go_loopw [4,12] (fun t i wr=> ∃k:Nat,k≤ms.length∧i= .int .i64 k∧t= .int .i64 (prevId l k)∧Below w.heap.size w wr) (fun _ i _=>ms.length-(intOf i).toNat)
 case atStart=>exact⟨0,Nat.zero_le _,rfl,rfl,Below.refl _ _⟩
 case round=>
  obtain⟨k,hk,rfl,rfl,hb⟩:=hrel
  by_cases hlt:k<ms.length
  ·obtain⟨m,g,hm,hl,hat,⟨c,hv⟩,hg,c0,c1,c2,c3⟩:=step_cells H.out hlt
   simp only[Value.slice.injEq]at hv
   obtain⟨rfl,_,rfl⟩:=hv
   have hz:=hb.size
   have d0:wr.cell? ⟨g,k*4,none⟩=some (.bool m.s.del):=(hb.cell (p:=⟨g,k*4,none⟩) hg).trans c0
   have d1:wr.cell? ⟨g,k*4+1,none⟩=some (.int .i64 m.s.id):=(hb.cell (p:=⟨g,k*4+1,none⟩) hg).trans c1
   have d2:wr.cell? ⟨g,k*4+2,none⟩=some m.lv:=(hb.cell (p:=⟨g,k*4+2,none⟩) hg).trans c2
   have d3:wr.cell? ⟨g,k*4+3,none⟩=some m.hv:=(hb.cell (p:=⟨g,k*4+3,none⟩) hg).trans c3
   have hso:=HP.out.each _ (List.mem_of_getElem? hl)
   have hft:=HP.out.fits k _ hl
   have hnx:=prevId_succ hl
   have HB:=Lib.hid hb
   have HA:=Lib.hid hat
   have HSO:=Lib.hid hso
   have HF:=Lib.hid hft
   have HN:=Lib.hid hnx
   obtain⟨A1,k1,hlv,_⟩:=own_slice hat.lits
   obtain⟨A2,k2,hhv,_⟩:=own_slice hat.hints
   rw[hlv]at d2
   rw[hhv]at d3
   have hIL: ∀w',Below w.heap.size w w'→IntsIn (fun _=>True) w' (.slice A1 m.s.lits.length k1) m.s.lits:=fun w' hb=>by rw[←hlv];exact((IntsIn.of_own hat.lits).below hb).mono (fun _ _=>trivial)
   have hIH: ∀w',Below w.heap.size w w'→IntsIn (fun _=>True) w' (.slice A2 m.s.hints.length k2) m.s.hints:=fun w' hb=>by rw[←hhv];exact((IntsIn.of_own hat.hints).below hb).mono (fun _ _=>trivial)
   have HIL:=Lib.hid hIL
   have HIH:=Lib.hid hIH
   clear c0 c1 c2 c3 hb hat hso hft hnx hm hl hlv hhv hIL hIH
   go_wp2_with fail
   obtain⟨wa,hwa⟩: ∃wa,wr.alloc (.cells #[.bool m.s.del,.int .i64 m.s.id,.slice A1 m.s.lits.length k1,.slice A2 m.s.hints.length k2] 49)=wa:=⟨_,rfl⟩
   have hwb:Below wr.heap.size wr wa:=by rw[←hwa];exact(Below.refl _ _).alloc (Nat.le_refl _) _
   have hws:wa.heap.size=wr.heap.size+1:=by rw[←hwa];simp
   have e0:wa.cell? ⟨wr.heap.size,0,none⟩=some (.bool m.s.del):=by rw[←hwa];exact cell_new _ _ _ _
   have e1:wa.cell? ⟨wr.heap.size,1,none⟩=some (.int .i64 m.s.id):=by rw[←hwa];exact cell_new _ _ _ _
   have e2:wa.cell? ⟨wr.heap.size,2,none⟩=some (.slice A1 m.s.lits.length k1):=by rw[←hwa];exact cell_new _ _ _ _
   have e3:wa.cell? ⟨wr.heap.size,3,none⟩=some (.slice A2 m.s.hints.length k2):=by rw[←hwa];exact cell_new _ _ _ _
   rw[hwa]
   have hwB:Below w.heap.size w wa:=HB.out.trans (hwb.mono hz)
   have HWS:=Lib.hid hws
   have HWB:=Lib.hid hwB
   clear hwa hwb hws hwB
   refine(right_step m.s _ _ _ HSO.out (HIL.out _ HWB.out) (HIH.out _ HWB.out)).mono ?_
   rintro e w1 ⟨rfl,hb1⟩
   have hlt1:wr.heap.size<wa.heap.size:=by have:=HWS.out;omega
   have f0:=(hb1.cell (p:=⟨wr.heap.size,0,none⟩) hlt1).trans e0
   have f1:=(hb1.cell (p:=⟨wr.heap.size,1,none⟩) hlt1).trans e1
   have f2:=(hb1.cell (p:=⟨wr.heap.size,2,none⟩) hlt1).trans e2
   have f3:=(hb1.cell (p:=⟨wr.heap.size,3,none⟩) hlt1).trans e3
   have HB1:=Lib.hid hb1
   clear hb1 e0 e1 e2 e3 d0 d1 d2 d3
   go_wp2_with fail
   refine(fits_ok _ _ _ _ _ _ HF.out).mono ?_
   rintro e w2 ⟨rfl,hb2⟩
   have hlt2:wr.heap.size<w1.heap.size:=Nat.lt_of_lt_of_le hlt1 HB1.out.size
   have g1:=(hb2.cell (p:=⟨wr.heap.size,1,none⟩) hlt2).trans f1
   have HB2:=Lib.hid hb2
   clear hb2 f0 f1 f2 f3
   go_wp2_with fail
   go_roundw
   case rel=>
    have h1:=HWB.out.trans (HB1.out.mono HWB.out.size)
    exact⟨k+1,by omega,by go_num,by rw[HN.out],h1.trans (HB2.out.mono h1.size)⟩
   case measure=>simp[intOf];omega
  ·obtain rfl:k=ms.length:=by omega
   go_wp2
   go_ret2
   exact⟨rfl,hb⟩
end Go.Proofs.YteigjcichmpejaaDoor
namespace Go.Proofs.YteigjcichmpejaaDoor
open Go.RowKit Go.Shelf
def bw_ren:Go.Shelf.Ren:=⟨fun|166=>42|240=>53|276=>62|n=>n,fun|0=>0|3=>3|4=>4|5=>5|9=>9|20=>20|37=>31|70=>83|72=>85|75=>87|80=>91|164=>102|n=>n,fun n=>n⟩
theorem bw_lays:Go.Proofs.Lays.n166 Tryd.prog bw_ren:={
 mixed:=by kernel_rfl
 f166:=Tryd.func42.trans (congrArg some (by kernel_rfl))
 f240:=Tryd.func53.trans (congrArg some (by kernel_rfl))
 f276:=Tryd.func62.trans (congrArg some (by kernel_rfl))
 t0:=Tryd.underlying0
 a0:=Tryd.isAgg0
 z0:=Tryd.sizeOf0
 v0:=Tryd.zeroValue0
 t3:=Tryd.underlying3
 a3:=Tryd.isAgg3
 z3:=Tryd.sizeOf3
 v3:=Tryd.zeroValue3
 t4:=Tryd.underlying4
 a4:=Tryd.isAgg4
 z4:=Tryd.sizeOf4
 v4:=Tryd.zeroValue4
 t9:=Tryd.underlying9
 a9:=Tryd.isAgg9
 z9:=Tryd.sizeOf9
 v9:=Tryd.zeroValue9
 t20:=Tryd.underlying20
 a20:=Tryd.isAgg20
 z20:=Tryd.sizeOf20
 v20:=Tryd.zeroValue20
 t37:=Tryd.underlying31
 a37:=Tryd.isAgg31
 z37:=Tryd.sizeOf31
 v37:=Tryd.zeroValue31
 t70:=Tryd.underlying83
 a70:=Tryd.isAgg83
 z70:=Tryd.sizeOf83
 v70:=Tryd.zeroValue83
 t72:=Tryd.underlying85
 a72:=Tryd.isAgg85
 z72:=Tryd.sizeOf85
 v72:=Tryd.zeroValue85
 t75:=Tryd.underlying87
 a75:=Tryd.isAgg87
 z75:=Tryd.sizeOf87
 v75:=Tryd.zeroValue87
 t164:=Tryd.underlying102
 a164:=Tryd.isAgg102
 z164:=Tryd.sizeOf102
 v164:=Tryd.zeroValue102 }
theorem bw_extra:Builder.Extra Tryd.prog bw_ren:={
 sizeBuilder:=by kernel_rfl
 liesBuilder:=by kernel_rfl
 t5:=Tryd.underlying5
 a5:=Tryd.isAgg5
 z5:=Tryd.sizeOf5
 v5:=Tryd.zeroValue5
 infoByte:=by kernel_rfl
 cellsByte:=by kernel_rfl
 sizeByte:=by kernel_rfl
 neB5:=by decide }
abbrev IsB (B b:Nat) (l:List UInt8) (w:World):Prop:=Lib.IsBuilderF 85 5 B b (Lib.byteCells l) w
theorem bw_write (B b:Nat) (l:List UInt8) (s:ByteArray) (w:World) (h:IsB B b l w) (hlen:l.length+s.size≤140737488355328) (hBw:B≤w.heap.size):
  Calls Tryd.prog 42 #[.pointer (some ⟨b,0,none⟩),.string s] w fun e w'=>e= .returned (.tuple #[.int .i64 s.size,.nilIface])∧IsB B b (l++s.data.toList) w'∧Below B w w':=
 (Any.Builder_WriteString_f bw_lays bw_extra B b (Lib.byteCells l) s w h (by simpa [Lib.byteCells] using hlen) hBw).mono fun _ _ ⟨h1,h2,h3⟩=>⟨h1,by
  have e:Lib.byteCells l++Lib.strCells s=Lib.byteCells (l++s.data.toList):=by simp[Lib.byteCells,Lib.strCells]
  rw[e]at h2
  exact .inr h2,h3⟩
theorem bw_len (B b:Nat) (l:List UInt8) (w:World) (h:IsB B b l w):
  Calls Tryd.prog 44 #[.pointer (some ⟨b,0,none⟩)] w fun e w'=>e= .returned (.int .i64 l.length)∧w=w':=
 (Tryd.Builder_Len_f B b (Lib.byteCells l) w h).mono fun _ _ ⟨h1,h2⟩=>⟨by simpa [Lib.byteCells] using h1,h2.symm⟩
theorem bw_string (B b:Nat) (l:List UInt8) (w:World) (h:IsB B b l w) (hBw:B≤w.heap.size):
  Calls Tryd.prog 45 #[.pointer (some ⟨b,0,none⟩)] w fun e w'=>e= .returned (.string ⟨l.toArray⟩)∧Below B w w':=
 (Tryd.Builder_String_any_f B b l w h hBw).mono fun _ _ ⟨h1,_,h3⟩=>⟨h1,h3⟩
theorem IsB.new (B:Nat) (w:World) (hB:B≤w.heap.size):IsB B w.heap.size [] (w.alloc (.cells #[.pointer none,.slice none 0 0] 85)):=
 .inl ⟨hB,.slice none 0 0,World.alloc_heap_new _ _,World.ownsRowF_of (World.ownsRow_nil _ _ _ _),by simp[Value.ownBlock]⟩
end Go.Proofs.YteigjcichmpejaaDoor
