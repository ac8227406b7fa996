/- Learn (package emit): what is learned. Steps (package emit), Copy (package lratext). -/
import Derived.Test.YteigjcichmpejaaDoorV104
namespace Go.Proofs.YteigjcichmpejaaDoor
open Go.RowKit
theorem info_step:(Tryd.prog.info? 49).map (fun i=>(i.zero,i.size,i.bytes))=some (some (.agg #[.bool false,.int .i64 0,.slice none 0 0,.slice none 0 0]),4,64):=by kernel_rfl
set_option maxRecDepth 100000 in
set_option maxHeartbeats 1000000 in
theorem learn_ok {O Oc Oh:Nat→Prop} (b:Nat) (L:ELog) (cv hv:Value) (c h:List Int) (w:World) (hL:LogAt O w b L) (hc:IntsIn Oc w cv c) (hh:IntsIn Oh w hv h) (hcO: ∀g,Oc g→¬O g) (hhO: ∀g,Oh g→¬O g) (hhl:h.length≤17592186044416) (hw: ∀x∈h,(Lit.int .i64 x).wf=true)
  (hl:L.last≤1073741824) (hcn:L.count≤1073741824) (he:learnErr L c h=0):
  Calls Tryd.prog 9 #[.pointer (some ⟨b,0,none⟩),cv,hv] w fun e w'=>e= .returned (.tuple #[.int .i64 ((L.last:Int)+1),.int .i64 0])∧LogAt (fun g=>O g∨w.heap.size≤g∧g<w'.heap.size) w' b (L.learn c h)∧Kept O w w':=by
 obtain⟨i0,hi,iz0,iz1,iz2⟩:=info_parts info_step
 have h1:L.done=false:=by
  cases hd:L.done
  ·rfl
  ·unfold learnErr at he;rw[hd]at he;simp at he
 have h2:clauseB c=true:=by
  cases hd:clauseB c
  ·unfold learnErr at he;rw[h1,hd]at he;simp at he
  ·rfl
 have h3:h.length≤65536:=by
  apply Classical.byContradiction
  intro hn
  unfold learnErr at he;rw[h1,h2,if_neg (by decide),if_neg (by decide),if_pos (by omega)]at he;cases he
 have h4:(h.any fun x=> !L.has x)=false:=by
  cases hd:(h.any fun x=> !L.has x)
  ·rfl
  ·unfold learnErr at he;rw[h1,h2,if_neg (by decide),if_neg (by decide),if_neg (by omega),if_pos hd]at he;cases he
 have h5:L.full=false:=by
  cases hd:L.full
  ·rfl
  ·unfold learnErr at he;rw[h1,h2,if_neg (by decide),if_neg (by decide),if_neg (by omega),if_neg (by rw[h4];decide),if_pos hd]at he;cases he
 have hcl:c.length≤4096:=by
  unfold clauseB at h2
  rw[Bool.and_eq_true,decide_eq_true_eq]at h2
  exact h2.1
 unfold ELog.full at h5
 rw[Bool.or_eq_false_iff,decide_eq_false_iff_not,decide_eq_false_iff_not]at h5
 have hB:Below w.heap.size w (w.alloc (.cells #[.pointer (some ⟨b,0,none⟩)] 25)):=(Below.refl _ _).alloc (Nat.le_refl _) _
 have hbx:(w.alloc (.cells #[.pointer (some ⟨b,0,none⟩)] 25)).cell? ⟨w.heap.size,0,none⟩=some (.pointer (some ⟨b,0,none⟩)):=cell_new _ _ _ _
 have HR:=fun w' k=>right_clause (O:=Oc) cv c w' (hc.below k) (by omega)
 have HH:=contains_has hv h w.heap.size b L _ (hh.below hB) (by omega) hw hbx (hL.below hB)
 rw[h2]at HR
 rw[h4]at HH
 have HR:=Lib.hid HR
 have HH:=Lib.hid HH
 have HC:=Lib.hid hc
 have HHI:=Lib.hid hh
 obtain⟨A,cc,rfl,hcc,_⟩:=hc
 obtain⟨A',ch,rfl,hch,_⟩:=hh
 obtain⟨mb,sv,ms,hL⟩:=hL
 have hbl:=hL.own b hL.inb
 obtain⟨c0,c1,c2,c3,c4⟩:=hL.cells
 obtain⟨As,cs,rfl,hcs⟩:=own_slice hL.row
 have hms:ms.length=L.steps.length:=by rw[←hL.steps,List.length_map]
 have h3':decide ((65536:Int)<(h.length:Int))=false:=by simp;omega
 have h6':decide ((1073741824:Int)≤(L.last:Int))=false:=by simp;omega
 have h7':decide ((262144:Int)≤(ms.length:Int))=false:=by simp;omega
 have hms2:ms.length<262144:=by omega
 have HL:=Lib.hid hL
 have HB:=Lib.hid hB
 rw[h1]at c4
 have hem:((c.length:Int)==0)=c.isEmpty:=by
  cases c with
  | nil=>rfl
  | cons x c=>simp;omega
 have f0:=free_of_block (j:=0) hL.block
 have f1:=free_of_block (j:=1) hL.block
 have f3:=free_of_block (j:=3) hL.block
 have f4:=free_of_block (j:=4) hL.block
 obtain⟨em,hemE⟩: ∃em,c.isEmpty=em:=⟨_,rfl⟩
 rw[hemE]at hem
 have HEM:=Lib.hid hemE
 clear hL hB hbx h1 h2 h4 h5 he hms hemE
 go_enter Tryd.func9,Tryd.ntmps9
 go_wp2_with fail
 refine(HR.out _ HB.out).mono ?_
 rintro e w' ⟨rfl,rfl⟩
 go_wp2_with fail
 refine HH.out.mono ?_
 rintro e w' ⟨rfl,rfl⟩
 go_wp2_with fail
 have hne:w.heap.size≠b:=by omega
 obtain⟨W,hW⟩: ∃W,((((w.setCell ⟨b,0,none⟩ (.int .i64 ((L.last:Int)+1))).setCell ⟨b,1,none⟩ (.int .i64 ((L.count:Int)+1))).setCell ⟨b,4,none⟩ (.bool em)).alloc (.cells #[.pointer (some ⟨b,0,none⟩)] 25))=W:=⟨_,rfl⟩
 have hWs:W.heap.size=w.heap.size+1:=by rw[←hW];simp[World.setCell]
 have hWk:Kept (fun g=>g=b) w W:=by
  rw[←hW]
  exact((((Kept.refl (fun g=>g=b) w).setCell ⟨b,0,none⟩ _ rfl).setCell ⟨b,1,none⟩ _ rfl).setCell ⟨b,4,none⟩ _ rfl).alloc _
 have hWb:W.heap[b]? =some (.cells #[.int .i64 ((L.last:Int)+1),.int .i64 ((L.count:Int)+1),.map (some mb),.slice As ms.length cs,.bool em] 55 (0,0)):=by
  rw[←hW,Below.heap_alloc _ _ _ (by simp[World.setCell];omega)]
  exact(block_set (block_set (block_set HL.out.block _) _) _)
 have hWx:W.cell? ⟨w.heap.size,0,none⟩=some (.pointer (some ⟨b,0,none⟩)):=by
  rw[←hW]
  have:=cell_new (((w.setCell ⟨b,0,none⟩ (.int .i64 ((L.last:Int)+1))).setCell ⟨b,1,none⟩ (.int .i64 ((L.count:Int)+1))).setCell ⟨b,4,none⟩ (.bool em)) #[.pointer (some ⟨b,0,none⟩)] 25 0
  simpa [World.setCell] using this
 rw[hW]
 have HWs:=Lib.hid hWs
 have HWk:=Lib.hid hWk
 have HWb:=Lib.hid hWb
 clear hW hWs hWk hWb c0 c1 c2 c3 c4 f0 f1 f3 f4
 have k0:=(cell_of_block (j:=0) HWb.out).trans rfl
 have k3:=(cell_of_block (j:=3) HWb.out).trans rfl
 refine wp_region_sink_at (fun w'=>w'.cell? ⟨w.heap.size,0,none⟩=some (.pointer (some ⟨b,0,none⟩))∧w'.cell? ⟨b,0,none⟩=some (.int .i64 ((L.last:Int)+1))∧w'.cell? ⟨b,3,none⟩=some (.slice As ms.length cs)) (by kernel_rfl) rfl (by kernel_rfl) ⟨hWx,k0,k3⟩ (fun hHeld=>?_)
 simp only[List.dropLast]
 refine takeS 0 62 ?_
 refine takeS 1 63 ?_
 refine takeS 2 64 ?_
 refine takeS 3 65 ?_
 refine takeS 4 66 ?_
 refine takeS 5 67 ?_
 refine takeS 6 68 ?_
 refine takeS 7 69 ?_
 refine takeS 8 70 ?_
 refine takeS 9 71 ?_
 refine takeS 11 73 ?_
 have hcW:IntsIn Oc W (.slice A c.length cc) c:=HC.out.kept HWk.out (fun g hg he=>hcO g hg (he▸HL.out.inb))
 have hhW:IntsIn Oh W (.slice A' h.length ch) h:=HHI.out.kept HWk.out (fun g hg he=>hhO g hg (he▸HL.out.inb))
 have hbD:Below W.heap.size W W.drew:=(Below.refl _ _).drew
 have hcD:=Lib.hid (hcW.below hbD)
 have hhD:=Lib.hid (hhW.below hbD)
 have hbW:b<W.heap.size:=by have:=HWs.out;omega
 have hxW:w.heap.size<W.heap.size:=by have:=HWs.out;omega
 refine ready1 10 (fun K hK=>?_)
 go_simp
 refine(clone_c _ c _ hcD.out (by omega)).mono ?_
 rintro e w1 ⟨v1,rfl,hown1,hb1⟩
 refine hK.out _ _ ⟨(hb1.cell (p:=⟨w.heap.size,0,none⟩) hxW).trans hHeld.1,(hb1.cell (p:=⟨b,0,none⟩) hbW).trans hHeld.2.1,(hb1.cell (p:=⟨b,3,none⟩) hbW).trans hHeld.2.2⟩ (fun hHeld1=>?_)
 clear hK hHeld
 have hz1:W.heap.size≤w1.heap.size:=hb1.size
 have hb1w:b<w1.heap.size:=by omega
 have hx1w:w.heap.size<w1.heap.size:=by omega
 have hhD1:=Lib.hid (hhD.out.below hb1)
 have HB1:=Lib.hid (hbD.trans hb1)
 refine ready1 12 (fun K hK=>?_)
 go_simp
 refine(clone_i _ h _ hhD1.out hhl).mono ?_
 rintro e w2 ⟨v2,rfl,hown2,hb2⟩
 refine hK.out _ _ ⟨(hb2.cell (p:=⟨w.heap.size,0,none⟩) hx1w).trans hHeld1.1,(hb2.cell (p:=⟨b,0,none⟩) hb1w).trans hHeld1.2.1,(hb2.cell (p:=⟨b,3,none⟩) hb1w).trans hHeld1.2.2⟩ (fun hHeld2=>?_)
 clear hK hHeld1
 obtain⟨A1,k1,rfl,_⟩:=own_slice hown1
 obtain⟨A2,k2,rfl,_⟩:=own_slice hown2
 have hz2:w1.heap.size≤w2.heap.size:=hb2.size
 have HO1:=Lib.hid (own_below hown1 hb2)
 have HO2:=Lib.hid hown2
 have HB2:=Lib.hid (HB1.out.trans (hb2.mono HB1.out.size))
 clear hown1 hown2 hb1 hb2
 refine takeS 13 75 ?_
 refine ready1 14 (fun K hK=>?_)
 go_simp
 have hb2w:b<w2.heap.size:=by omega
 have hx2w:w.heap.size<w2.heap.size:=by omega
 have hbA:Below w2.heap.size w2 (w2.alloc (.cells #[.bool false,.int .i64 ((L.last:Int)+1),.slice A1 c.length k1,.slice A2 h.length k2] 49)):=(Below.refl _ _).alloc (Nat.le_refl _) _
 refine hK.out _ _ ⟨(hbA.cell (p:=⟨w.heap.size,0,none⟩) hx2w).trans hHeld2.1,(hbA.cell (p:=⟨b,0,none⟩) hb2w).trans hHeld2.2.1,(hbA.cell (p:=⟨b,3,none⟩) hb2w).trans hHeld2.2.2⟩ (fun hHeld3=>?_)
 clear hK hHeld2
 have hrow3:=own_below (own_kept HL.out.row HWk.out (fun g hg he=>by
  obtain⟨cc',hc'⟩:=own_type HL.out.row g hg
  rw[he,HL.out.block]at hc'
  simp only[Option.some.injEq,Obj.cells.injEq]at hc'
  exact absurd hc'.2.1 (by decide))) ((HB2.out).trans (hbA.mono HB2.out.size))
 have hnews:=cells_list_new w2 [.bool false,.int .i64 ((L.last:Int)+1),.slice A1 c.length k1,.slice A2 h.length k2] 49
 have HR3:=Lib.hid hrow3
 have HN3:=Lib.hid hnews
 have HBA:=Lib.hid hbA
 clear hrow3 hnews hbA
 refine ready1 15 (fun K hK=>?_)
 rw[if_pos (by rfl)]
 refine wp_append_at 77 (by rfl) _ _ 40 rfl 0 49 i0 (.agg #[.bool false,.int .i64 0,.slice none 0 0,.slice none 0 0]) 4 64 Tryd.underlying40 hi iz0 iz1 iz2 rfl (by decide) _ ms.length _ (by rfl) HR3.out ⟨w2.heap.size,0,none⟩ 1 1 [.bool false,.int .i64 ((L.last:Int)+1),.slice A1 c.length k1,.slice A2 h.length k2] (by rfl) rfl HN3.out (by simp[Value.oneCell']) (by unfold maxLen;omega) (by omega) (Nat.zero_le _) ?_
 intro v' w4 hown' hgrow hat
 obtain⟨Av,kv,rfl,_⟩:=own_slice hown'
 have hnb:(Value.slice As ms.length cs).ownBlock≠some b:=fun hg=>by
  obtain⟨cc',hc'⟩:=own_type HL.out.row b hg
  rw[HL.out.block]at hc'
  simp only[Option.some.injEq,Obj.cells.injEq]at hc'
  exact absurd hc'.2.1 (by decide)
 have hnx:(Value.slice As ms.length cs).ownBlock≠some w.heap.size:=fun hg=>by
  have:=(own_lt HL.out.row _ hg).2
  omega
 have hz3:=HBA.out.size
 have hz4:=hgrow.size
 have hg4:Kept (fun g=>(Value.slice As ms.length cs).ownBlock=some g) _ w4:=(Kept.grown hgrow).mono (fun g _ hg=>hg.symm)
 have HG4:=Lib.hid hg4
 have HOWN:=Lib.hid hown'
 have HAT:=Lib.hid hat
 refine hK.out _ _ ⟨(hg4.cell (p:=⟨w.heap.size,0,none⟩) (Nat.lt_of_lt_of_le hx2w hz3) hnx).trans hHeld3.1,(hg4.cell (p:=⟨b,0,none⟩) (Nat.lt_of_lt_of_le hb2w hz3) hnb).trans hHeld3.2.1,(hg4.cell (p:=⟨b,3,none⟩) (Nat.lt_of_lt_of_le hb2w hz3) hnb).trans hHeld3.2.2⟩ (fun hHeld4=>?_)
 clear hK hHeld3 hgrow hg4 hown' hat
 simp only[Act.put,List.setIfInBounds_toArray,List.set_cons_zero,List.set_cons_succ]
 refine takeS 16 78 ?_
 refine takeS 17 79 ?_
 refine wpAnyH_done (by kernel_rfl) ?_ _
 refine lastPost_normal ?_
 have hblk:w4.heap[b]? =some (.cells #[.int .i64 ((L.last:Int)+1),.int .i64 ((L.count:Int)+1),.map (some mb),.slice As ms.length cs,.bool em] 55 (0,0)):=by
  rw[HG4.out.block b (Nat.lt_of_lt_of_le hb2w hz3) hnb,HBA.out.block b hb2w,HB2.out.block b hbW]
  exact HWb.out
 have fr3:=free_of_block (j:=3) hblk
 obtain⟨x4,z4,s4⟩:=hHeld4
 have HBLK:=Lib.hid hblk
 clear hblk
 refine wpOp_step rfl (fun K hK=>?_)
 go_simp
 refine hK _ _ ?_
 have hne2:w.heap.size≠b:=by omega
 clear hK
 go_wp2_with fail
 go_ret2
 have hS5:Kept (fun g=>g=b) w4 (w4.setCell ⟨b,3,none⟩ (.slice Av (ms.length+1) kv)):=(Kept.refl (fun g=>g=b) w4).setCell ⟨b,3,none⟩ _ rfl
 have hK3:Kept (fun g=>g=b) w (w2.alloc (.cells #[.bool false,.int .i64 ((L.last:Int)+1),.slice A1 c.length k1,.slice A2 h.length k2] 49)):=
  HWk.out.trans (O':=fun _=>False) (Kept.of_below (HB2.out.trans (HBA.out.mono HB2.out.size))) (fun _ _ h=>h.elim)
 have hK5:Kept (fun g=>g=b∨g=mb∨(Value.slice As ms.length cs).ownBlock=some g) w (w4.setCell ⟨b,3,none⟩ (.slice Av (ms.length+1) kv)):=
  ((hK3.mono (fun g _ hg=>.inl hg)).trans HG4.out (fun g _ hg=>.inr (.inr hg))).trans hS5 (fun g _ hg=>.inl hg)
 have hmb:mb≠b:=fun e=>by
  obtain⟨D,⟨es,cl,hb',_⟩,_⟩:=HL.out.map
  rw[e,HL.out.block]at hb'
  cases hb'
 have hmr:(Value.slice As ms.length cs).ownBlock≠some mb:=fun hg=>by
  obtain⟨D,⟨es,cl,hb',_⟩,_⟩:=HL.out.map
  obtain⟨c',hc'⟩:=own_type HL.out.row mb hg
  rw[hb']at hc'
  cases hc'
 have hsz5:(w4.setCell ⟨b,3,none⟩ (.slice Av (ms.length+1) kv)).heap.size=w4.heap.size:=by simp[World.setCell]
 have hkeep: ∀{e:TypeId} {v:Value} {n:Nat} {xs:List Value},w2.ownsRow W.heap.size e 1 v n xs→(w4.setCell ⟨b,3,none⟩ (.slice Av (ms.length+1) kv)).ownsRow 0 e 1 v n xs:=fun {e v n xs} ho=>by
  have h1:=own_below ho HBA.out
  have h2:=own_kept h1 HG4.out (fun g hg hg'=>by
   have:=(own_lt HL.out.row g hg').2
   have:=(own_lt ho g hg).1
   omega)
  exact own_mono (own_kept h2 hS5 (fun g hg hg'=>by have:=(own_lt ho g hg).1;omega)) (Nat.zero_le _)
 have hpush:=HL.out.push (L':=L.learn c h) (w5:=w4.setCell ⟨b,3,none⟩ (.slice Av (ms.length+1) kv)) (sv':=.slice Av (ms.length+1) kv) (m':=⟨.slice A1 c.length k1,.slice A2 h.length k2,⟨false,(L.last:Int)+1,c,h⟩⟩) hK5
  (by have:=block_set (j:=3) HBLK.out (.slice Av (ms.length+1) kv);rw[←HEM.out]at this;simpa [ELog.learn] using this)
  (HL.out.map.kept (O:=fun g=>g=b∨(Value.slice As ms.length cs).ownBlock=some g) (((hK3.mono (fun g _ hg=>.inl hg)).trans HG4.out (fun g _ hg=>.inr hg)).trans hS5 (fun g _ hg=>.inl hg)) (fun ho=>ho.elim hmb hmr))
  (own_kept HOWN.out hS5 (fun g hg hg'=>by
   obtain⟨c',hc'⟩:=own_type HOWN.out g hg
   rw[hg',HBLK.out]at hc'
   simp only[Option.some.injEq,Obj.cells.injEq]at hc'
   exact absurd hc'.2.1 (by decide)))
  (by
   rcases HAT.out with e|e
   ·exact .inl e
   ·exact .inr ⟨_,e,by simp;omega⟩)
  rfl
  ⟨hkeep HO1.out,fun g hg=>by have:=(own_lt HO1.out g hg).1;have:W.heap.size≤g:=this;omega,hkeep (own_mono HO2.out hz1),fun g hg=>by have:=(own_lt HO2.out g hg).1;omega⟩
 refine⟨rfl,⟨mb,_,_,hpush⟩,hK5.mono (fun g _ hg=>?_)⟩
 rcases hg with rfl|rfl|hg
 ·exact HL.out.inb
 ·exact HL.out.inm
 ·exact HL.out.rowb g hg
end Go.Proofs.YteigjcichmpejaaDoor
namespace Go.Proofs.YteigjcichmpejaaDoor
open Go.RowKit
set_option maxRecDepth 100000 in
set_option maxHeartbeats 1000000 in
theorem clone_steps (v:Value) (n:Nat) (xs:List Value) (w:World) (h:w.ownsRow 0 49 4 v n xs) (hn:n≤1000000) (h1: ∀u∈xs,u.oneCell'=true):
  Calls Tryd.prog 40 #[v] w fun e w'=> ∃v',e= .returned v'∧w'.ownsRow w.heap.size 49 4 v' n xs∧Below w.heap.size w w':=by
 obtain⟨i0,hi,iz0,iz1,iz2⟩:=info_parts info_step
 have hl:=h.1
 rcases h.2 with⟨rfl,rfl⟩|⟨g,cap,cur,rfl,_,hg,hle,_⟩
 ·obtain rfl:xs= []:=List.eq_nil_of_length_eq_zero (by omega)
  have hq:=fun w=>Lib.run_eql_slice_nil (P:=Tryd.prog) w 40 49 none 0 0 0 0 Tryd.underlying40
  go_enter Tryd.func40,Tryd.ntmps40
  go_wp2
  go_ret
  exact⟨_,rfl,World.ownsRow_nil _ _ _ _,Below.refl _ _⟩
 ·have hq:=fun w=>Lib.run_eql_slice_nil (P:=Tryd.prog) w 40 49 (some ⟨g,0,none⟩) n cap 0 0 Tryd.underlying40
  have hgl:=heap_lt hg
  have hnews: ∀j u,xs[j]? =some u→(w.alloc (.cells #[] 49)).cell? ((⟨g,0,none⟩:Addr).add j)=some u:=fun j u hj=>by
   rw[addr_add,((Below.refl _ _).alloc (Nat.le_refl _) _).cell (p:=⟨g,j,none⟩) hgl,←addr_add]
   exact h.cells (g:=g) rfl j u hj
  have h0:(w.alloc (.cells #[] 49)).ownsRow w.heap.size 49 4 (.slice (some ⟨w.heap.size,0,none⟩) 0 0) 0 []:=⟨rfl,.inr ⟨w.heap.size,0,#[],rfl,Nat.le_refl _,World.alloc_heap_new _ _,Nat.le_refl _,Nat.zero_le _,rfl,rfl⟩⟩
  have HN:=Lib.hid hnews
  have H0:=Lib.hid h0
  have H1:=Lib.hid h1
  have HL:=Lib.hid hl
  clear h hg hnews h0 h1 hl
  go_enter Tryd.func40,Tryd.ntmps40
  go_wp2_with (at_builtin;refine wpList_append_own_at _ rfl _ _ 40 rfl w.heap.size 49 i0 (.agg #[.bool false,.int .i64 0,.slice none 0 0,.slice none 0 0]) 4 64 Tryd.underlying40 hi iz0 iz1 iz2 rfl (by decide) _ _ _ rfl H0.out ⟨g,0,none⟩ n cap xs rfl HL.out HN.out H1.out (by unfold maxLen;omega) (by omega) (by simp) ?_;intro v' w1 hown hgrow hnl hat)
  go_ret
  have hB:Below w.heap.size w w1:=((Below.refl w.heap.size w).alloc (Nat.le_refl _) (.cells #[] 49)).grown hgrow (by simp) (fun g hg=>by cases hg;exact Nat.le_refl _)
  exact⟨_,rfl,by simpa using hown,hB⟩
theorem own_set {w:World} {base size n c g:Nat} {e:TypeId} {xs:List Value} (h:w.ownsRow base e size (.slice (some ⟨g,0,none⟩) n c) n xs) (j:Nat) (u:Value):(w.setCell ⟨g,j,none⟩ u).ownsRow base e size (.slice (some ⟨g,0,none⟩) n c) n (xs.set j u):=by
 refine⟨by rw[List.length_set];exact h.1,?_⟩
 rcases h.2 with⟨hv,_⟩|⟨g',cap,cur,hv,hb,hg,hle,hm,hs,ht⟩
 ·cases hv
 ·simp only[Value.slice.injEq,Option.some.injEq,Addr.mk.injEq,and_true,true_and]at hv
  obtain⟨rfl,rfl⟩:=hv
  refine .inr ⟨g,c,cur.setIfInBounds j u,rfl,hb,block_set hg u,hle,hm,by simpa using hs,?_⟩
  rw[Array.toList_setIfInBounds,List.take_set,ht]
theorem own_one {w:World} {base n:Nat} {e:TypeId} {v:Value} {xs:List Value} (h:w.ownsRow base e 1 v n xs):v.oneCell'=true:=by
 obtain⟨A,c,rfl,_⟩:=own_slice h
 simp[Value.oneCell']
theorem cells_len (ms:List MStep):(ms.flatMap MStep.cells).length=ms.length*4:=by
 induction ms with
 | nil=>rfl
 | cons m ms ih=>simp only[List.flatMap_cons,List.length_append,ih,List.length_cons,MStep.cells,List.length_nil];omega
theorem cells_at (ms:List MStep) (k:Nat) (m:MStep) (h:ms[k]? =some m) (j:Nat) (hj:j<4):(ms.flatMap MStep.cells)[k*4+j]? =m.cells[j]? :=by
 induction ms generalizing k with
 | nil=>simp at h
 | cons x ms ih=>
  rw[List.flatMap_cons]
  cases k with
  | zero=>
   simp only[List.getElem?_cons_zero,Option.some.injEq]at h
   subst h
   rw[Nat.zero_mul,Nat.zero_add,List.getElem?_append_left (by simp[MStep.cells];omega)]
  | succ k=>
   rw[List.getElem?_append_right (by simp[MStep.cells];omega),show(k+1)*4+j-x.cells.length=k*4+j by simp[MStep.cells];omega]
   exact ih k (by simpa using h)
end Go.Proofs.YteigjcichmpejaaDoor
