/- package salvorlaw14: Learn. AnalyzeFollows: the walk. package salvorlaw14: Possible, Free. Plain: a search ends: what is learned is told apart by codes, levels are never empty; with all variables assigned the clauses hold. Plain: what a search keeps from turn to turn. -/
import Derived.Test.YtoojmhjagipmdaaGreatV028
import Derived.Test.YtoojmhjagipmdaaGreatV025
import Derived.Test.YtoojmhjagipmdaaGreatV026
import Derived.Test.YtoojmhjagipmdaaGreatV027
namespace Go.Proofs.YtoojmhjagipmdaaGreat
open Go.RowKit
theorem Lw.kept {O:Nat→Prop} {w0 w w':World} {lab:Nat→Nat} {b ab tb:Nat} {A:Arn} {T:Trl} {S:Wst} (h:Lw w0 w lab b ab tb A T S) (k:Kept O w w') (hO: ∀g,O g→lab g=0∧w0.heap.size≤g):Lw w0 w' lab b ab tb A T S:=
 ⟨h.sys.kept k (fun g hg ho=>hg (hO g ho).1),h.ge,h.hb.trans (k.below (fun i h=>(hO i h).2) h.hb.size)⟩
theorem SrAt.next2 {w0 w w':World} {lab:Nat→Nat} {sb b ab tb:Nat} {A A':Arn} {T T':Trl} {S S':Wst} {cs:List (List Int)} {av:Value} {us:List Value} (h:SrAt w0 w lab sb b ab tb A T S cs av us) (k:LwNext w0 w w' lab b ab tb A' T' S'): ∃lab',SrAt w0 w' lab' sb b ab tb A' T' S' cs av us∧Labs lab lab' w w':=by
 obtain⟨lab',h1,h2⟩:=k
 refine⟨lab',⟨h1,(h2.same _ h.sblt).trans h.lab0,h.sbw,(h2.kept.block _ h.sblt (by simp[h.lab0])).trans h.box,own_kept h.row h2.kept (fun g hg hn=>hn (h.rlab g hg).1),fun g hg=>⟨(h2.same g (own_lt h.row g hg).2).trans (h.rlab g hg).1,(h.rlab g hg).2⟩,fun i xs hi=>?_⟩,h2⟩
 obtain⟨u,a1,a2⟩:=h.inn i xs hi
 refine⟨u,a1,(a2.lt.kept h2.kept (fun g hg hn=>hn hg.1.1)).mono (fun g hg=>⟨(h2.same g hg.2).trans hg.1.1,hg.1.2⟩)⟩
theorem lw_addA {w0 w:World} {lab:Nat→Nat} {b ab tb:Nat} {A:Arn} {T:Trl} {S:Wst} {Oc:Nat→Prop} {k:Nat} (cv:Value) (c:List Int) (h:Lw w0 w lab b ab tb A T S) (hl:A.Low k) (hk:k<1000) (hc:IntsIn Oc w cv c) (hcb:clauseB c=true) (hcl:c.length≤1000):
  Calls Tryz.prog 92 #[.pointer (some ⟨ab,0,none⟩),.int .i64 ((k:Int)+1),cv] w fun e w'=>e= .returned (.int .i64 0)∧LwNext w0 w w' lab b ab tb (A.put ((k:Int)+1) c) T S:=by
 obtain⟨l1,l2,l3,l4,l5⟩:=hl
 have e:A.put ((k:Int)+1) c=A.add ((k:Int)+1) c:=by unfold Arn.put;rw[if_pos hcb]
 rw[e]
 refine(ar_add ab A ((k:Int)+1) cv c w h.sys.ar hc hcb (by omega) (by omega) (by omega) (by omega) (by omega) (by omega) (by omega)).mono ?_
 rintro e w' ⟨rfl,hn⟩
 exact⟨rfl,h.next (h.sys.ar_next hn)⟩
theorem one_at2 {w:World} {p:Nat} {u:Value} (h:w.cell? ⟨p,0,none⟩=some u): ∀j v,[u][j]? =some v→w.cell? ((⟨p,0,none⟩:Addr).add j)=some v:=by
 intro j v hj
 cases j with
 | zero=>
  simp only[List.getElem?_cons_zero,Option.some.injEq]at hj
  subst hj
  rw[addr_add]
  exact h
 | succ j=>simp at hj
set_option maxRecDepth 100000 in
set_option maxHeartbeats 8000000 in
theorem law_learn {w0 w:World} {lab:Nat→Nat} {sb b ab tb:Nat} {T:Trl} {its:List RIt} {S:Wst} {cs:List (List Int)} {av:Value} {us:List Value} {x:Lrn} {n:Nat} (xv:Value) (h:SrAt w0 w lab sb b ab tb (addAll arn0 0 cs) T S cs av us) (hst:St (clsC cs) T its S) (h6:Six (cs++ [x.lits])) (hlen:cs.length<900) (hx:LrnAt n w xv x)
  (hn1: ∀g,lab g≠0→g<n) (hn2:sb<n) (hn3: ∀g,av.ownBlock=some g→g<n) (hbe:T.backErr x.back=0) (W:WRes) (hW:addW (addAll arn0 0 (cs++ [x.lits])) (T.backed x.back) (backS T S x.back) ((cs.length:Int)+1)=W) (hWe:W.err=0) (hWr:W.res=2∨x.lits= []) (hL:(backS T S x.back).Link) (hT1:(T.backed x.back).order.length≤6):
  Calls Tryz.prog 34 #[.pointer (some ⟨sb,0,none⟩),xv] w fun e w'=>e= .returned (.bool true)∧(∃lab' av' us',SrAt w0 w' lab' sb b ab tb (addAll arn0 0 (cs++ [x.lits])) W.T W.S (cs++ [x.lits]) av' us')∧Kept (fun g=>lab g≠0∨g=sb∨av.ownBlock=some g) w w':=by
 obtain⟨i0,hi,hz0,hz1,hz2⟩:=info_parts info_cls
 obtain⟨Ax,cx,Ay,cy,Az,cz,rfl,hxa,hya,hza⟩:=hx.parts
 obtain⟨xs,hxs⟩: ∃l,x.lits=l:=⟨_,rfl⟩
 obtain⟨BK,hbk⟩: ∃l,x.back=l:=⟨_,rfl⟩
 rw[hxs]at h6 hxa hWr hW⊢
 rw[hbk]at hbe hW hL hT1⊢
 clear hya hza hx
 have hxsb:clauseB xs=true:=(h6.right (List.mem_append_right _ (List.mem_singleton.2 rfl))).1
 have hxl6:xs.length≤6:=(h6.right (List.mem_append_right _ (List.mem_singleton.2 rfl))).2
 obtain⟨xb,hxb⟩: ∃z,w.heap.size=z:=⟨_,rfl⟩
 obtain⟨NX,hNX⟩: ∃NX,xs.length=NX:=⟨_,rfl⟩
 rw[hNX]at hxl6 hxa⊢
 obtain⟨wa,hwa⟩: ∃z,w.alloc (.cells #[.slice Ax NX cx,.int .i64 BK,.int .i64 x.levels,.slice Ay x.hints.length cy,.slice Az x.met.length cz] 65)=z:=⟨_,rfl⟩
 have hba:Below w.heap.size w wa:=by rw[←hwa];exact mx_al _ _
 have hbn:wa.heap[xb]? =some (.cells #[.slice Ax NX cx,.int .i64 BK,.int .i64 x.levels,.slice Ay x.hints.length cy,.slice Az x.met.length cz] 65 (0,0)):=by rw[←hwa,←hxb];exact World.alloc_heap_new _ _
 have hga:=h.below hba
 obtain⟨e0,e1,e2,e3⟩:=hga.cells
 obtain⟨b0,b1,-,-,-⟩:=(cells5 hbn).1
 have hsbl:=hga.sblt
 have hxbl:=heap_lt hbn
 have hxsz:w.heap.size<wa.heap.size:=by rw[hxb];exact hxbl
 have hxlab:lab xb=0:=Classical.byContradiction fun hh=>by have:=h.lw.sys.lt _ hh;omega
 have hxrow:av.ownBlock≠some xb:=fun e=>by have:=(own_lt h.row _ e).2;omega
 have hsbrow:av.ownBlock≠some sb:=fun e=>(h.rlab _ e).2 rfl
 have hsbxb:sb≠xb:=by have:=h.sblt;omega
 have HLOW:=Lib.hid (addAll_low2 cs arn0 0 ⟨by decide,by decide,by decide,by decide,by decide⟩ (fun c hc=>by have:=(h6.2 c (List.mem_append_left _ hc)).1;omega))
 have HSN:=Lib.hid (addAll_snoc xs cs arn0 0)
 have HPT:=Lib.hid (show PT T from⟨its,hst.sim,hst.sta⟩)
 have HA:=Lib.hid hga
 have HBA:=Lib.hid hba
 have HXA:=Lib.hid (hxa wa hba)
 have HBN:=Lib.hid hbn
 have HWA:=Lib.hid hwa
 have HW:=Lib.hid hW
 have H6:=Lib.hid h6
 have HX6:=Lib.hid (show xs.length=NX from hNX)
 obtain⟨Aa,ca,rfl,_⟩:=mx_slice h.row
 clear h hst h6 hxa hbn hwa hW hba hga hNX hxs hbk
 go_enter Tryz.func34,Tryz.ntmps34
 go_upto_region 1 with fail
 rw[HWA.out]
 refine wp_region_sink_at (S:=fun w'=>w'.cell? ⟨sb,3,none⟩=some (.slice Aa cs.length ca)∧w'.cell? ⟨xb,0,none⟩=some (.slice Ax NX cx)) (by kernel_rfl) rfl (by kernel_rfl) ⟨e3,b0⟩ (fun hHeld=>?_)
 obtain⟨wD,hwD⟩: ∃x,wa.drew=x:=⟨_,rfl⟩
 have hbD:Below wa.heap.size wa wD:=by rw[←hwD];exact mx_drew wa
 rw[hwD]at hHeld⊢
 have hzD:=hbD.size
 have HBD:=Lib.hid hbD
 clear hwD hbD
 refine takeS 0 7 ?_
 refine takeS 1 8 ?_
 refine takeS 2 9 ?_
 refine takeS 3 10 ?_
 refine takeS 4 11 ?_
 refine takeS 5 12 ?_
 refine takeS 6 13 ?_
 refine ready1 7 (fun K hK=>?_)
 go_simp
 obtain⟨wN,hwN⟩: ∃x,wD.alloc (.cells #[.slice Ax NX cx] 34)=x:=⟨_,rfl⟩
 have hbN:Below wD.heap.size wD wN:=by rw[←hwN];exact mx_al _ _
 have hcN:wN.cell? ⟨wD.heap.size,0,none⟩=some (.slice Ax NX cx):=by rw[←hwN];exact mx_cell (j:=0) (World.alloc_heap_new _ _)
 rw[hwN]
 have HBN2:=Lib.hid (HBD.out.trans (hbN.mono HBD.out.size))
 refine hK.out _ _ ⟨(hbN.cell (p:=⟨sb,3,none⟩) (by show sb<_;omega)).trans hHeld.1,(hbN.cell (p:=⟨xb,0,none⟩) (by show xb<_;omega)).trans hHeld.2⟩ (fun hHeld1=>?_)
 have hzN1:=hbN.size
 clear hK hHeld hbN hwN
 have hHeld:=hHeld1
 clear hHeld1
 refine ready1 8 (fun K hK=>?_)
 refine wp_append_at 15 (by rfl) _ _ 28 rfl w0.heap.size 34 i0 (.slice none 0 0) 1 24 Tryz.underlying28 hi hz0 hz1 hz2 rfl (by decide) _ cs.length _ (by rfl) (own_below HA.out.row HBN2.out) ⟨wD.heap.size,0,none⟩ 1 1 [.slice Ax NX cx] (by rfl) rfl (one_at2 hcN) (by simp[Value.oneCell']) (by unfold maxLen;omega) (by omega) (by have:=HA.out.lw.hb.size;omega) ?_
 intro v' w2 hown hgrow hat
 obtain⟨Av,cv,rfl,_⟩:=mx_slice hown
 have hkg:Kept (fun g=>(Value.slice Aa cs.length ca).ownBlock=some g) wa w2:=(Kept.of_below HBN2.out).trans (Kept.grown hgrow) (fun i hi e=>e.symm)
 have hz2':=hgrow.size
 refine hK.out _ _ ⟨(hkg.cell (p:=⟨sb,3,none⟩) hsbl hsbrow).trans e3,(hkg.cell (p:=⟨xb,0,none⟩) hxbl hxrow).trans b0⟩ (fun hHeld1=>?_)
 clear hK hHeld
 refine takeE 9 16 ?_
 refine takeE 10 17 ?_
 refine wpAnyH_done (by kernel_rfl) ?_ _
 refine lastPost_normal ?_
 have hblk:=(hkg.block sb hsbl hsbrow).trans HA.out.box
 have d3:w2.cell? ⟨sb,3,none⟩=some (.slice Aa cs.length ca):=mx_cell (j:=3) hblk
 have fr3:=mx_free (j:=3) hblk
 refine wpOp_step rfl (fun K hK=>?_)
 go_simp
 refine hK _ _ ?_
 clear hK d3 fr3 hHeld1
 obtain⟨wS,hwS⟩: ∃z,w2.setCell ⟨sb,3,none⟩ (.slice Av (cs.length+1) cv)=z:=⟨_,rfl⟩
 have hkS:Kept (fun g=>(Value.slice Aa cs.length ca).ownBlock=some g∨g=sb) wa wS:=by
  rw[←hwS]
  exact(hkg.mono (fun i _ h=>.inl h)).setCell ⟨sb,3,none⟩ _ (.inr rfl)
 have hkS2:Kept (fun g=>g=sb) w2 wS:=by rw[←hwS];exact(Kept.refl _ _).setCell ⟨sb,3,none⟩ _ rfl
 have hat2: ∀g,(Value.slice Av (cs.length+1) cv).ownBlock=some g→(Value.slice Aa cs.length ca).ownBlock=some g∨g=wN.heap.size:=fun g hg=>by
  rcases hat with h1|h1
  ·exact .inl (h1▸hg)
  ·right
   rw[h1]at hg
   exact(Option.some.inj hg).symm
 have hlablt:=HA.out.lw.sys.lt
 have hlabN: ∀g,wa.heap.size≤g→lab g=0:=fun g hg=>Classical.byContradiction fun hh=>by have:=hlablt g hh;omega
 have hrl:=HA.out.rlab
 have hsr:SrAt w0 wS lab sb b ab tb (addAll arn0 0 cs) T S (cs++ [xs]) (.slice Av (cs.length+1) cv) (us++ [.slice Ax NX cx]):={
  lw:=HA.out.lw.kept hkS (fun g hg=>by
   rcases hg with hg|hg
   ·exact⟨(hrl g hg).1,(own_lt HA.out.row g hg).1⟩
   ·rw[hg]
    exact⟨HA.out.lab0,HA.out.sbw⟩)
  lab0:=HA.out.lab0
  sbw:=HA.out.sbw
  box:=by rw[←hwS,mx_set hblk];rfl
  row:=by
   rw[List.length_append,List.length_singleton]
   refine own_kept hown hkS2 (fun g hg e=>?_)
   rcases hat2 g hg with h1|h1
   ·exact(hrl g h1).2 e
   ·omega
  rlab:=fun g hg=>by
   rcases hat2 g hg with h1|h1
   ·exact hrl g h1
   ·exact⟨hlabN g (by omega),by omega⟩
  inn:=fun i d hd=>by
   by_cases hil:i<cs.length
   ·rw[List.getElem?_append_left hil]at hd
    obtain⟨u,a1,a2⟩:=HA.out.inn i d hd
    have hul:us.length=cs.length:=by have:=HA.out.row.1;omega
    refine⟨u,by rw[List.getElem?_append_left (by omega)];exact a1,(a2.lt.kept hkS (fun g hg hh=>?_)).mono (fun g hg=>⟨hg.1.1,hg.1.2.1,fun e=>?_⟩)⟩
    ·rcases hh with hh|hh
     ·exact hg.1.2.2 hh
     ·exact hg.1.2.1 hh
    ·rcases hat2 g e with h1|h1
     ·exact hg.1.2.2 h1
     ·have:=hg.2
      omega
   ·have h1:=(List.getElem?_eq_some_iff.1 hd).1
    rw[List.length_append,List.length_singleton]at h1
    obtain rfl:i=cs.length:=by omega
    rw[List.getElem?_append_right (Nat.le_refl _),Nat.sub_self]at hd
    obtain rfl:=Option.some.inj hd
    have hul:us.length=cs.length:=by have:=HA.out.row.1;omega
    refine⟨_,by rw[List.getElem?_append_right (by omega),hul,Nat.sub_self];rfl,((HXA.out.lt).kept hkS (fun g hg hh=>?_)).mono (fun g hg=>⟨Classical.byContradiction fun hh=>by have:=hn1 g hh;have:=hg.1;omega,by have:=hg.1;omega,fun e=>?_⟩)⟩
    ·rcases hh with hh|hh
     ·have:=hn3 g hh
      have:=hg.1
      omega
     ·have:=hg.1
      omega
    ·rcases hat2 g e with h1|h1
     ·have:=hn3 g h1
      have:=hg.1
      omega
     ·have:=hg.2
      omega }
 have hbxS:wS.heap[xb]? =some (.cells #[.slice Ax NX cx,.int .i64 BK,.int .i64 x.levels,.slice Ay x.hints.length cy,.slice Az x.met.length cz] 65 (0,0)):=(hkS.block xb hxbl (fun hh=>hh.elim hxrow (fun h=>hsbxb h.symm))).trans HBN.out
 have HKS:=Lib.hid hkS
 have HS:=Lib.hid hsr
 have HXS:=Lib.hid hbxS
 have HXV:=Lib.hid ((HXA.out.kept hkS (fun g hg hh=>by
  rcases hh with hh|hh
  ·have:=hn3 g hh
   omega
  ·omega)).lt)
 have hxbS:=heap_lt hbxS
 have hsbS:=hsr.sblt
 have HWS:=Lib.hid hwS
 clear hown hgrow hat hkg hblk hkS hkS2 hat2 hlablt hlabN hrl hsr hbxS hz2' hzN1 hzD hcN HBN2 HBD e0 e1 e2 e3 b0 b1 hwS
 rw[HWS.out]
 clear HWS
 obtain⟨e0,e1,e2,e3⟩:=HS.out.cells
 obtain⟨b0,b1,-,-,-⟩:=(cells5 HXS.out).1
 go_wp2_with fail
 have HBX:=Lib.hid (fun(W:World) (l:Nat→Nat) (hb:Labs lab l wS W)=>(hb.kept.block xb hxbS (fun h=>h hxlab)).trans HXS.out)
 refine wp_region_held_drew (S:=fun w'=>w'.cell? ⟨sb,0,none⟩=some (.pointer (some ⟨ab,0,none⟩))∧w'.cell? ⟨sb,2,none⟩=some (.pointer (some ⟨b,0,none⟩))∧w'.cell? ⟨sb,3,none⟩=some (.slice Av (cs.length+1) cv)∧w'.cell? ⟨xb,0,none⟩=some (.slice Ax NX cx)∧w'.cell? ⟨xb,1,none⟩=some (.int .i64 BK)) (by kernel_rfl) ⟨e0,e2,e3,b0,b1⟩ (fun hS=>?_)
 have HD:=Lib.hid (HS.out.below (mx_drew wS))
 obtain⟨wD2,hwD2⟩: ∃z,wS.drew=z:=⟨_,rfl⟩
 have HDL:=Lib.hid (show Labs lab lab wS wD2 from by rw[←hwD2];exact Labs.of_below (mx_drew wS))
 rw[hwD2]at HD hS⊢
 clear hwD2 e0 e1 e2 e3 b0 b1
 refine takeS 0 18 ?_
 refine takeS 1 19 ?_
 refine takeS 2 20 ?_
 refine takeS 3 21 ?_
 refine takeS 4 22 ?_
 refine takeS 5 23 ?_
 have hbk:=lw_back HD.out.lw BK HPT.out.sta HPT.out.fit
 rw[hbe]at hbk
 have HBK:=Lib.hid hbk
 clear hbk
 refine ready1 6 (fun K hK=>?_)
 go_simp
 refine HBK.out.mono ?_
 rintro e wB ⟨rfl,hn⟩
 obtain⟨labB,hB,hLab⟩:=HD.out.next2 hn
 have hLB:=HDL.out.trans hLab
 obtain⟨e0,-,e2,e3⟩:=hB.cells
 have hbx:=HBX.out wB labB hLB
 obtain⟨b0,b1,-,-,-⟩:=(cells5 hbx).1
 refine hK.out _ _ ⟨e0,e2,e3,b0,b1⟩ (fun hS2=>?_)
 clear hS
 have hS:=hS2
 have HB:=Lib.hid hB
 have HLB:=Lib.hid hLB
 have HXB:=Lib.hid hbx
 have HXV2:=Lib.hid ((HXV.out.kept hLB.kept (fun g hg hh=>hh (Classical.byContradiction fun hz=>by
  have h1:=hn1 g hz
  have h2:=hg.1
  omega))))
 clear hK hn hB hLab hLB hS2 e0 e2 e3 b0 b1 hbx HBK HD HDL
 refine takeS 7 25 ?_
 refine takeS 8 26 ?_
 refine takeS 9 27 ?_
 refine takeS 10 28 ?_
 refine takeS 11 29 ?_
 refine takeS 12 30 ?_
 refine takeS 13 31 ?_
 refine takeS 14 32 ?_
 refine takeS 15 33 ?_
 refine takeS 16 34 ?_
 refine takeS 17 35 ?_
 refine takeS 18 36 ?_
 refine takeS 19 37 ?_
 have hadA:=lw_addA (k:=cs.length) _ xs HB.out.lw (by have:=HLOW.out;rwa [Nat.zero_add]at this) (by omega) HXV2.out hxsb (by have:=HX6.out;omega)
 rw[show(addAll arn0 0 cs).put ((cs.length:Int)+1) xs=addAll arn0 0 (cs++ [xs])from by have:=HSN.out;rw[Nat.zero_add]at this;exact this.symm]at hadA
 have HADA:=Lib.hid hadA
 clear hadA
 refine ready1 20 (fun K hK=>?_)
 go_simp
 refine HADA.out.mono ?_
 rintro e wA ⟨rfl,hn⟩
 obtain⟨labA,hA2,hLab⟩:=HB.out.next2 hn
 have hLB:=HLB.out.trans hLab
 obtain⟨e0,-,e2,e3⟩:=hA2.cells
 have hbx:=HBX.out wA labA hLB
 obtain⟨b0,b1,-,-,-⟩:=(cells5 hbx).1
 refine hK.out _ _ ⟨e0,e2,e3,b0,b1⟩ (fun hS2=>?_)
 clear hS
 have hS:=hS2
 have HA2:=Lib.hid hA2
 have HLA:=Lib.hid hLB
 clear hK hn hA2 hLab hLB hS2 HADA HB HLB HXB
 refine takeS 21 39 ?_
 refine takeS 22 40 ?_
 refine wpAnyH_done (by kernel_rfl) ?_ _
 obtain⟨k0,k2,k3,k4,k5⟩:=hS
 go_upto_region 4 with fail
 refine wp_region_held_drew (S:=fun w'=>w'.cell? ⟨sb,0,none⟩=some (.pointer (some ⟨ab,0,none⟩))∧w'.cell? ⟨sb,2,none⟩=some (.pointer (some ⟨b,0,none⟩))∧w'.cell? ⟨sb,3,none⟩=some (.slice Av (cs.length+1) cv)∧w'.cell? ⟨xb,0,none⟩=some (.slice Ax NX cx)∧w'.cell? ⟨xb,1,none⟩=some (.int .i64 BK)) (by kernel_rfl) ⟨k0,k2,k3,k4,k5⟩ (fun hS=>?_)
 have HD:=Lib.hid (HA2.out.below (mx_drew wA))
 obtain⟨wD2,hwD2⟩: ∃z,wA.drew=z:=⟨_,rfl⟩
 have HDL:=Lib.hid (show Labs lab labA wS wD2 from by rw[←hwD2];exact HLA.out.trans (Labs.of_below (mx_drew wA)))
 rw[hwD2]at HD hS⊢
 clear hwD2 k0 k2 k3 k4 k5 e0 e2 e3 b0 b1 hbx
 refine takeS 0 42 ?_
 refine takeS 1 43 ?_
 refine takeS 2 44 ?_
 refine takeS 3 45 ?_
 refine takeS 4 46 ?_
 refine takeS 5 47 ?_
 refine takeS 6 48 ?_
 refine takeS 7 49 ?_
 refine takeS 8 50 ?_
 have hadd:=lw_add HD.out.lw ((cs.length:Int)+1) (wf64 (by omega) (by omega)) (fun d hd=>by
  rw[get_cls H6.out,clsC_last]at hd
  rw[←Option.some.inj hd]
  exact⟨by have:=HX6.out;omega,hxsb,by omega,by omega⟩) (by omega) hL
 rw[show addW (addAll arn0 0 (cs++ [xs])) (T.backed BK) ⟨S.known,S.of,min S.looked (T.backed BK).order.length⟩ ((cs.length:Int)+1)=W from HW.out]at hadd
 obtain⟨WR,hWR⟩: ∃r,W.res=r:=⟨_,rfl⟩
 rw[hWe,hWR]at hadd
 rw[hWR]at hWr
 have HADD:=Lib.hid hadd
 clear hadd hWR
 refine ready1 9 (fun K hK=>?_)
 go_simp
 refine HADD.out.mono ?_
 rintro e wF ⟨rfl,hn⟩
 obtain⟨labF,hF,hLab⟩:=HD.out.next2 hn
 have hLB:=HDL.out.trans hLab
 obtain⟨e0,-,e2,e3⟩:=hF.cells
 have hbx:=HBX.out wF labF hLB
 obtain⟨b0,b1,-,-,-⟩:=(cells5 hbx).1
 refine hK.out _ _ ⟨e0,e2,e3,b0,b1⟩ (fun hS2=>?_)
 clear hS
 have hS:=hS2
 have HF:=Lib.hid hF
 have HKK:=Lib.hid (show Kept (fun g=>lab g≠0∨g=sb∨(Value.slice Aa cs.length ca).ownBlock=some g) w wF from((Kept.of_below HBA.out).trans HKS.out (fun g _ h=>h.elim (fun h=>.inr (.inr h)) (fun h=>.inr (.inl h)))).trans hLB.kept (fun g _ h=>.inl h))
 clear hK hn hF hLab hLB hS2 HADD HD HDL
 refine takeS 10 41 ?_
 refine takeS 11 52 ?_
 refine takeS 12 53 ?_
 refine takeS 13 5 ?_
 refine takeS 14 6 ?_
 refine wpAnyH_done (by kernel_rfl) ?_ _
 rcases hWr with hw|hw
 ·subst hw
  go_wp2_with fail
  go_ret
  exact⟨rfl,⟨labF,_,_,HF.out⟩,HKK.out⟩
 ·have hnx:NX=0:=by rw[←HX6.out,hw];rfl
  have q0:((NX:Int)==0)=true:=by simp;omega
  by_cases hw2:WR=2
  ·subst hw2
   go_wp2_with fail
   go_ret
   exact⟨rfl,⟨labF,_,_,HF.out⟩,HKK.out⟩
  ·have q2:((WR:Int)==2)=false:=by simp;omega
   clear hw hnx
   go_wp2_with fail
   go_ret
   exact⟨rfl,⟨labF,_,_,HF.out⟩,HKK.out⟩
end Go.Proofs.YtoojmhjagipmdaaGreat
namespace Go.Proofs.YtoojmhjagipmdaaGreat
open Go.RowKit
theorem cfRun_met {A:Arn} {T:Trl} {lv:Int}: ∀(ls:List Int) (s s':CSt),cfRun A T lv s ls=some s'→s'.met.length≤s.met.length+ls.length:=by
 intro ls
 induction ls with
 | nil=>
  intro s s' h
  obtain rfl:=Option.some.inj h
  exact Nat.le_refl _
 | cons l r ih=>
  intro s s' h
  unfold cfRun at h
  cases hs:cfStep A T lv s l with
  | none=>rw[hs]at h;cases h
  | some s1=>
   rw[hs]at h
   have h1:=ih s1 s' h
   have h2:s1.met.length≤s.met.length+1:=by
    unfold cfStep at hs
    split at hs
    ·obtain rfl:=Option.some.inj hs
     omega
    ·split at hs
     ·obtain rfl:=Option.some.inj hs
      simp only
      split
      ·simp
      ·omega
     ·split at hs
      ·cases hs
      ·obtain rfl:=Option.some.inj hs
       simp only
       split
       ·simp
       ·omega
   simp only[List.length_cons]
   omega
theorem conf_met {A:Arn} {T:Trl} {id:Int} {x:Lrn} (h:confP A T id=(x,0)):x.met.length≤T.order.length:=by
 unfold confP at h
 split at h
 ·cases h
 ·split at h
  ·cases h
  ·split at h
   ·cases h
   ·rename_i s hs
    have e:x=⟨s.lits,T.backOf s.lits,T.levelsOf s.lits,s.hints.reverse++ [id],sortI s.met⟩:=(congrArg Prod.fst h).symm
    rw[e]
    show(sortI s.met).length≤_
    rw[sortI_length]
    unfold cfEnd at hs
    have:=cfRun_met _ _ _ hs
    simp only[List.length_nil,List.length_reverse]at this
    omega
theorem LrnAt.mono {n m:Nat} {w:World} {v:Value} {x:Lrn} (h:LrnAt n w v x) (hm:m≤n):LrnAt m w v x:=by
 obtain⟨a,b,c,rfl,h1,h2,h3⟩:=h
 exact⟨a,b,c,rfl,own_mono h1 hm,own_mono h2 hm,own_mono h3 hm⟩
theorem LrnAt.below {n:Nat} {w w':World} {v:Value} {x:Lrn} (h:LrnAt n w v x) (k:Below w.heap.size w w'):LrnAt n w' v x:=by
 obtain⟨a,b,c,rfl,h1,h2,h3⟩:=h
 exact⟨a,b,c,rfl,own_below h1 k,own_below h2 k,own_below h3 k⟩
theorem LrnAt.kept {O:Nat→Prop} {n:Nat} {w w':World} {v:Value} {x:Lrn} (h:LrnAt n w v x) (k:Kept O w w') (hO: ∀g,n≤g→¬O g):LrnAt n w' v x:=by
 obtain⟨a,b,c,rfl,h1,h2,h3⟩:=h
 exact⟨a,b,c,rfl,own_kept h1 k (fun g hg=>hO g (own_lt h1 g hg).1),own_kept h2 k (fun g hg=>hO g (own_lt h2 g hg).1),own_kept h3 k (fun g hg=>hO g (own_lt h3 g hg).1)⟩
structure YAt (wc wx:World) (yb:Nat) (y:Lrn) (a b c:Value):Prop where
 box:wx.heap[yb]? =some (.cells #[a,.int .i64 y.back,.int .i64 y.levels,b,c] 65 (0,0))
 lrn:LrnAt wc.heap.size wx (.agg #[a,.int .i64 y.back,.int .i64 y.levels,b,c]) y
 hb:Below wc.heap.size wc wx
 le:wc.heap.size≤yb
theorem YAt.kept {O:Nat→Prop} {wc w w':World} {yb:Nat} {y:Lrn} {a b c:Value} (h:YAt wc w yb y a b c) (k:Kept O w w') (hO: ∀g,wc.heap.size≤g→¬O g):w'.heap[yb]? =some (.cells #[a,.int .i64 y.back,.int .i64 y.levels,b,c] 65 (0,0))∧LrnAt wc.heap.size w' (.agg #[a,.int .i64 y.back,.int .i64 y.levels,b,c]) y:=
 ⟨(k.block _ (heap_lt h.box) (hO _ h.le)).trans h.box,h.lrn.kept k hO⟩
theorem YAt.below {wc w w':World} {yb:Nat} {y:Lrn} {a b c:Value} (h:YAt wc w yb y a b c) (k:Below w.heap.size w w'):YAt wc w' yb y a b c:=
 ⟨(k.block _ (heap_lt h.box)).trans h.box,h.lrn.below k,h.hb.trans (k.mono h.hb.size),h.le⟩
theorem backed_few (T:Trl) (j:Int):(T.backed j).order.length≤T.order.length:=by
 unfold Trl.backed
 split
 ·show(T.order.take _).length≤_
  rw[List.length_take]
  omega
 ·exact Nat.le_refl _
theorem learn_zero {cs:List (List Int)} {T:Trl} {its:List RIt} {S:Wst} {id lv:Int} {c:List Int} {x:Lrn} {R K:List Nat} (hst:St (clsC cs) T its S) (h6:Six cs) (hlen:cs.length<900) (h:ConfO (clsC cs) T its id c lv x R K) (hlv:lv=0):
  x.lits= []∧Six (cs++ [x.lits])∧T.backErr x.back=0∧(addW (addAll arn0 0 (cs++ [x.lits])) (T.backed x.back) (backS T S x.back) ((cs.length:Int)+1)).err=0:=by
 have hl:x.lits= []:=by rw[h.lits,h.none hlv];rfl
 have hb:x.back=0:=by rw[h.back,hl];rfl
 have h6':Six (cs++ [x.lits]):=by
  refine⟨by rw[List.length_append,List.length_singleton];omega,fun d hd=>?_⟩
  rcases List.mem_append.1 hd with hd|hd
  ·exact h6.2 d hd
  ·rw[List.mem_singleton.1 hd,hl]
   exact⟨Nat.zero_le _,fun y hy=>by cases hy⟩
 refine⟨hl,h6',?_,?_⟩
 ·have:=hst.sim.now
  have:=now_eq (T:=T)
  rw[hb]
  unfold Trl.backErr
  rw[if_neg (by omega)]
 ·have hk0:(backS T S x.back).kn ((cs.length:Int)+1)=none:=by
   show S.kn ((cs.length:Int)+1)=none
   cases hk:S.kn ((cs.length:Int)+1)with
   | none=>rfl
   | some k=>
    obtain⟨d,hd,_⟩:=hst.inv.kn _ k hk
    rw[clsC_past]at hd
    cases hd
  have hget:(addAll arn0 0 (cs++ [x.lits])).get ((cs.length:Int)+1)=some x.lits:=(get_cls h6' _).trans (clsC_last cs x.lits)
  unfold addW
  rw[hk0]
  simp only[]
  rw[hget]
  simp only[]
  rw[if_neg (by rw[hl];simp)]
  exact addOk_err _ _ _ _
theorem five_set {w5:World} {yb:Nat} {z0 z1 z2 z3 z4:Value} {t:TypeId} (hb:w5.heap[yb]? =some (.cells #[z0,z1,z2,z3,z4] t (0,0))) (a0 a1 a2 a3 a4:Value): ∃wy,(((((w5.setCell ⟨yb,0,none⟩ a0).setCell ⟨yb,1,none⟩ a1).setCell ⟨yb,2,none⟩ a2).setCell ⟨yb,3,none⟩ a3).setCell ⟨yb,4,none⟩ a4)=wy∧wy.heap[yb]? =some (.cells #[a0,a1,a2,a3,a4] t (0,0))∧Kept (fun g=>g=yb) w5 wy:=by
 refine⟨_,rfl,?_,?_⟩
 ·have h1:=mx_set hb (j:=0) a0
  have h2:=mx_set h1 (j:=1) a1
  have h3:=mx_set h2 (j:=2) a2
  have h4:=mx_set h3 (j:=3) a3
  have h5:=mx_set h4 (j:=4) a4
  exact h5
 ·exact(((((Kept.refl (fun g=>g=yb) w5).setCell ⟨yb,0,none⟩ a0 rfl).setCell ⟨yb,1,none⟩ a1 rfl).setCell ⟨yb,2,none⟩ a2 rfl).setCell ⟨yb,3,none⟩ a3 rfl).setCell ⟨yb,4,none⟩ a4 rfl
end Go.Proofs.YtoojmhjagipmdaaGreat
namespace Go.Proofs.YtoojmhjagipmdaaGreat
open Go.RowKit
set_option maxRecDepth 100000 in
set_option maxHeartbeats 2000000 in
theorem law_possible {O:Nat→Prop} (u:Value) (cs:List (List Int)) (w:World) (h1:ClsIn O w u cs) (h6:Lits6 cs) (hcl:cs.length≤1000000) (hno: ∀n,n<128→allT n cs=false):
  Calls Tryz.prog 37 #[u] w fun e w'=>e= .returned (.bool false)∧Below w.heap.size w w':=by
 have HA:=Lib.hid (fun(n:Nat) (hn:n<128) (W:World) (hb:Below w.heap.size w W)=>law_alltrue u cs n W (h1.below hb) hn h6 hcl)
 have HNO:=Lib.hid hno
 obtain⟨A,k,rfl,_⟩:=h1
 clear h6 hno
 go_enter Tryz.func37,Tryz.ntmps37
 go_wp2_with fail
 go_loopw [3] (fun iv wr=> ∃m:Nat,m≤130∧iv= .int .i64 m∧Hid (Below w.heap.size w wr)) (fun iv _=>200-(intOf iv).toNat)
 case atStart=>exact⟨0,by decide,rfl,Lib.hid (Below.refl _ _)⟩
 case round=>
  obtain⟨m,hm,rfl,HB⟩:=hrel
  by_cases hm2:m<128
  ·have q1:decide ((m:Int)<128)=true:=by simp;omega
   have hm0:(m:Int)<128:=by omega
   have hwm:IntKind.i64.wrap ((m:Int)+2)=((m+2:Nat):Int):=by rw[IntWalk.i64_in _ (by omega)];omega
   have hall:=HA.out m hm2 wr HB.out
   rw[HNO.out m hm2]at hall
   have HALL:=Lib.hid hall
   clear hall
   go_wp2_with fail
   refine HALL.out.mono ?_
   rintro e w9 ⟨rfl,hb9⟩
   have HB9:=Lib.hid (HB.out.trans (hb9.mono HB.out.size))
   clear hb9 HALL
   go_wp2_with fail
   go_roundw
   case rel=>exact⟨m+2,by omega,by go_num,HB9⟩
   case measure=>simp[intOf];omega
  ·have q1:decide ((m:Int)<128)=false:=by simp;omega
   go_wp2_with fail
   go_ret
   exact⟨rfl,HB.out⟩
def FreeO (T:Trl) (l:Int):Prop:=(l=0∧∀v:Int,1≤v→v<7→T.val v≠0)∨(litB l=true∧litV l<7∧T.val l=0)
set_option maxRecDepth 100000 in
set_option maxHeartbeats 4000000 in
theorem law_free {w0 w:World} {lab:Nat→Nat} {sb b ab tb:Nat} {A:Arn} {T:Trl} {S:Wst} {cs:List (List Int)} {av:Value} {us:List Value} (u:Value) (l:List Int) (h:SrAt w0 w lab sb b ab tb A T S cs av us) (hl:RowAt .i8 w u l):
  Calls Tryz.prog 39 #[.pointer (some ⟨sb,0,none⟩),u] w fun e w'=>(∃v,e= .returned (.int .i64 v)∧FreeO T v)∧Below w.heap.size w w':=by
 have HM:=Lib.hid (made_any u l w hl)
 have HH:=Lib.hid h
 obtain⟨A1,c1,rfl,_⟩:=hl
 have hmr: ∀x∈madeL l,litB x=true∧litV x<7:=fun x hx=>by
  obtain⟨n,_,rfl⟩:=List.mem_map.1 hx
  exact madeLit_six n
 have HMR:=Lib.hid hmr
 clear h hmr
 go_enter Tryz.func39,Tryz.ntmps39
 go_wp2_with fail
 refine HM.out.mono ?_
 rintro e w1 ⟨v,rfl,hr,hb⟩
 obtain⟨ys,hys⟩: ∃ys,madeL l=ys:=⟨_,rfl⟩
 have hyl:ys.length≤6:=by rw[←hys];simp[madeL];omega
 rw[hys]at hr HMR
 obtain⟨Av,cv,rfl,_⟩:=mx_slice hr
 have HR:=Lib.hid hr
 have H1:=Lib.hid (HH.out.below hb)
 have HB1:=Lib.hid hb
 clear hr hb HM hys
 go_wp2_with fail
 go_loopw [11] (fun iv wr=> ∃k:Nat,k≤ys.length∧iv= .int .i64 k∧Hid (Below w1.heap.size w1 wr)) (fun iv _=>ys.length-(intOf iv).toNat)
 case atStart=>exact⟨0,Nat.zero_le _,rfl,Lib.hid (Below.refl _ _)⟩
 case round=>
  obtain⟨k,hk,rfl,HB⟩:=hrel
  have H2:=Lib.hid (H1.out.below HB.out)
  obtain⟨-,e1,-,-⟩:=H2.out.cells
  by_cases hlt:k<ys.length
  ·obtain⟨y,hyk⟩:=getElem_of hlt
   obtain⟨g,cc,hv,hg0,hg,e0⟩:=own_cell HR.out hyk
   simp only[Value.slice.injEq,true_and]at hv
   obtain⟨rfl,rfl⟩:=hv
   have d0:wr.cell? ⟨g,k,none⟩=some (.int .i64 y):=(HB.out.cell (p:=⟨g,k,none⟩) hg).trans e0
   have HY:=Lib.hid (HMR.out y (List.mem_of_getElem? hyk))
   have hwk:IntKind.i64.wrap ((k:Int)+1)=((k+1:Nat):Int):=by rw[IntWalk.i64_in _ (by omega)];omega
   have HLT:=Lib.hid hlt
   have hva:=tr_value tb T y wr H2.out.lw.sys.tr
   obtain⟨z,hz⟩: ∃z,T.val y=z:=⟨_,rfl⟩
   rw[hz]at hva
   have HVA:=Lib.hid hva
   have HZ:=Lib.hid hz
   clear hva hz e0 hyk
   by_cases hz0:z=0
   ·have q0:(z==0)=true:=by simpa using hz0
    have HF:=Lib.hid (show FreeO T y from .inr ⟨HY.out.1,HY.out.2,HZ.out.trans hz0⟩)
    clear hz0
    go_wp2_with fail
    refine HVA.out.mono ?_
    rintro e w2 ⟨rfl,hb2⟩
    have HBF:=Lib.hid (HB1.out.trans ((HB.out.trans (hb2.mono HB.out.size)).mono HB1.out.size))
    clear hb2
    go_wp2_with fail
    go_ret
    exact⟨⟨y,rfl,HF.out⟩,HBF.out⟩
   ·have q0:(z==0)=false:=by simpa using hz0
    clear hz0
    go_wp2_with fail
    refine HVA.out.mono ?_
    rintro e w2 ⟨rfl,hb2⟩
    have HB2:=Lib.hid (HB.out.trans (hb2.mono HB.out.size))
    clear hb2
    go_wp2_with fail
    go_roundw
    case rel=>exact⟨k+1,HLT.out,by go_num,HB2⟩
    case measure=>have:=HLT.out;simp[intOf];omega
  ·have hlt2:decide ((k:Int)<(ys.length:Int))=false:=by simp;omega
   clear e1
   go_wp2_with fail
   go_loopw [7] (fun iv wr=> ∃n:Nat,n≤7∧iv= .int .i64 n∧1≤n∧Hid (∀v:Int,1≤v→v<(n:Int)→T.val v≠0)∧Hid (Below w1.heap.size w1 wr)) (fun iv _=>10-(intOf iv).toNat)
   case atStart=>exact⟨1,by decide,rfl,by decide,Lib.hid (fun v h1 h2=>by omega),HB⟩
   case round=>
    obtain⟨n,hn,rfl,hn1,HN,HBB⟩:=hrel
    have H3:=Lib.hid (H1.out.below HBB.out)
    obtain⟨-,e1,-,-⟩:=H3.out.cells
    by_cases hn7:n<7
    ·have q7:decide ((n:Int)<7)=true:=by simp;omega
     have hn70:(n:Int)<7:=by omega
     have hwk:IntKind.i64.wrap ((n:Int)+1)=((n+1:Nat):Int):=by rw[IntWalk.i64_in _ (by omega)];omega
     have hva:=tr_value tb T (n:Int) wr H3.out.lw.sys.tr
     obtain⟨z,hz⟩: ∃z,T.val (n:Int)=z:=⟨_,rfl⟩
     rw[hz]at hva
     have HVA:=Lib.hid hva
     have HZ:=Lib.hid hz
     clear hva hz
     by_cases hz0:z=0
     ·have q0:(z==0)=true:=by simpa using hz0
      have hnb:litB (n:Int)=true:=(litB_iff _).2 (by omega)
      have HF:=Lib.hid (show FreeO T (n:Int)from .inr ⟨hnb,by have:=(litV_pos hnb).2;omega,HZ.out.trans hz0⟩)
      clear hz0 hnb
      go_wp2_with fail
      refine HVA.out.mono ?_
      rintro e w2 ⟨rfl,hb2⟩
      have HBF:=Lib.hid (HB1.out.trans ((HBB.out.trans (hb2.mono HBB.out.size)).mono HB1.out.size))
      clear hb2
      go_wp2_with fail
      go_ret
      exact⟨⟨_,rfl,HF.out⟩,HBF.out⟩
     ·have q0:(z==0)=false:=by simpa using hz0
      have HN2:=Lib.hid (show∀v:Int,1≤v→v<((n+1:Nat):Int)→T.val v≠0 from fun v h1 h2=>by
       by_cases e:v=(n:Int)
       ·rw[e,HZ.out]
        exact hz0
       ·exact HN.out v h1 (by omega))
      clear hz0
      go_wp2_with fail
      refine HVA.out.mono ?_
      rintro e w2 ⟨rfl,hb2⟩
      have HB2:=Lib.hid (HBB.out.trans (hb2.mono HBB.out.size))
      clear hb2
      go_wp2_with fail
      go_roundw
      case rel=>exact⟨n+1,by omega,by go_num,by omega,HN2,HB2⟩
      case measure=>simp[intOf];omega
    ·have q7:decide ((n:Int)<7)=false:=by simp;omega
     have HF:=Lib.hid (show FreeO T 0 from .inl ⟨rfl,fun v h1 h2=>HN.out v h1 (by omega)⟩)
     have HBF:=Lib.hid (HB1.out.trans (HBB.out.mono HB1.out.size))
     go_wp2_with fail
     go_ret
     exact⟨⟨0,rfl,HF.out⟩,HBF.out⟩
end Go.Proofs.YtoojmhjagipmdaaGreat
namespace Go.Proofs.YtoojmhjagipmdaaGreat
open Go.RowKit
def digL (L:List Int) (v:Int):Nat:=if v∈L then 1 else if -v∈L then 2 else 0
def codeL (L:List Int):Nat:=digL L 1+3*(digL L 2+3*(digL L 3+3*(digL L 4+3*(digL L 5+3*digL L 6))))
theorem digL_le (L:List Int) (v:Int):digL L v≤2:=by
 unfold digL
 split
 ·omega
 ·split <;> omega
theorem codeL_lt (L:List Int):codeL L<729:=by
 have:=digL_le L 1
 have:=digL_le L 2
 have:=digL_le L 3
 have:=digL_le L 4
 have:=digL_le L 5
 have:=digL_le L 6
 unfold codeL
 omega
theorem codeL_dig {L M:List Int} (h:codeL L=codeL M) (v:Int) (h1:1≤v) (h2:v≤6):digL L v=digL M v:=by
 have a1:=digL_le L 1
 have a2:=digL_le L 2
 have a3:=digL_le L 3
 have a4:=digL_le L 4
 have a5:=digL_le L 5
 have a6:=digL_le L 6
 have b1:=digL_le M 1
 have b2:=digL_le M 2
 have b3:=digL_le M 3
 have b4:=digL_le M 4
 have b5:=digL_le M 5
 have b6:=digL_le M 6
 unfold codeL at h
 have e1:digL L 1=digL M 1:=by omega
 have e2:digL L 2=digL M 2:=by omega
 have e3:digL L 3=digL M 3:=by omega
 have e4:digL L 4=digL M 4:=by omega
 have e5:digL L 5=digL M 5:=by omega
 have e6:digL L 6=digL M 6:=by omega
 have hv:v=1∨v=2∨v=3∨v=4∨v=5∨v=6:=by omega
 rcases hv with rfl|rfl|rfl|rfl|rfl|rfl <;> assumption
theorem codeL_sub {L M:List Int} (hr: ∀y∈L,litB y=true∧litV y<7) (hn: ∀y∈L,-y∉L) (h:codeL L=codeL M): ∀y∈L,y∈M:=fun y hy=>by
 obtain⟨a1,a2⟩:=hr y hy
 have h3:=litV_pos a1
 by_cases hp:0<y
 ·have hd:=codeL_dig h y (by omega) (by omega)
  have e:digL L y=1:=by unfold digL;rw[if_pos hy]
  rw[e]at hd
  unfold digL at hd
  split at hd
  ·assumption
  ·split at hd <;> omega
 ·have hd:=codeL_dig h (-y) (by omega) (by omega)
  have e:digL L (-y)=2:=by
   unfold digL
   rw[if_neg (hn y hy),if_pos (by rw[Int.neg_neg];exact hy)]
  rw[e]at hd
  unfold digL at hd
  split at hd
  ·omega
  ·split at hd
   ·rename_i h5
    rwa [Int.neg_neg]at h5
   ·omega
def Lvs (T:Trl) (its:List RIt):Prop:= ∀i:Int,1≤i→i≤T.now→∃x∈its,x.level=i
theorem Lvs.now_le {T:Trl} {its:List RIt} (h:Lvs T its) (h0:0≤T.now):T.now≤(its.length:Int):=by
 obtain⟨n,hn⟩: ∃n:Nat,T.now=n:=⟨T.now.toNat,by omega⟩
 have hs:(List.range n).map (fun i:Nat=>(i:Int)+1) ⊆ its.map RIt.level:=fun i hi=>by
  obtain⟨k,hk,rfl⟩:=List.mem_map.1 hi
  have:=List.mem_range.1 hk
  obtain⟨x,hx,e⟩:=h ((k:Int)+1) (by omega) (by omega)
  exact List.mem_map.2 ⟨x,hx,e⟩
 have hnd:((List.range n).map (fun i:Nat=>(i:Int)+1)).Nodup:=by
  unfold List.Nodup
  rw[List.pairwise_map]
  exact List.pairwise_lt_range.imp (fun h=>by omega)
 have:=List.Nodup.length_le_of_subset hnd hs
 rw[List.length_map,List.length_map,List.length_range]at this
 omega
theorem Lvs.pre {T T':Trl} {its its':List RIt} (h:Lvs T its) (hp:its <+: its') (hn:T'.now=T.now):Lvs T' its':=fun i h1 h2=>by
 obtain⟨x,hx,e⟩:=h i h1 (by omega)
 exact⟨x,hp.subset hx,e⟩
section
variable {cs:List (List Int)} {T:Trl} {its:List RIt} {S:Wst} {id lv:Int} {c:List Int} {x:Lrn} {R K:List Nat}
theorem dec_lvs (hr:Sr cs T its S 0) (h6:Six cs) {l:Int} (hl:litB l=true∧litV l<7) (hz:T.val l=0) (hlv:Lvs T its) {its':List RIt} (hs':Sim (propW (addAll arn0 0 cs) (decT T l) S).1 its') (hn:(propW (addAll arn0 0 cs) (decT T l) S).1.now=T.now+1):Lvs (propW (addAll arn0 0 cs) (decT T l) S).1 its':=by
 have hrun:=hr.ok rfl
 have hp:=hr.st.push hrun.lk
 have hz':T.push.val l=0:=hz
 have herr:=free_err (T:=T.push) hr.st.vars hl.1 hl.2 hz' (r:=0) ⟨by omega,by omega⟩
 have hd:decT T l=T.push.assigned l 0:=by unfold decT decA;rw[if_pos hz']
 have hst1:=hp.assign herr (fun h=>absurd rfl h)
 obtain⟨its2,h1,h2,_⟩:=hst1.prop (A:=addAll arn0 0 cs) h6.fit (hr.st.find h6)
 rw[hd]at hs' hn⊢
 have e:=hs'.uniq h1.sim
 subst e
 intro i hi1 hi2
 rw[hn]at hi2
 by_cases hi:i≤T.now
 ·obtain⟨y,hy,e⟩:=hlv i hi1 hi
  exact⟨y,h2.subset (List.mem_append_left _ hy),e⟩
 ·refine⟨⟨l,0,T.push.now⟩,h2.subset (List.mem_append_right _ (List.mem_singleton.2 rfl)),?_⟩
  show T.push.now=i
  rw[push_now]
  omega
theorem learn_lvs {l0:Int} {its1:List RIt} {W:WRes} (h:LearnO cs x T its S l0 its1 W) (hlv:Lvs T its) (hb:x.back≤T.now):Lvs W.T (its1++ [⟨l0,(cs.length:Int)+1,x.back⟩]):=fun i h1 h2=>by
 rw[h.now]at h2
 obtain⟨y,hy,e⟩:=hlv i h1 (by omega)
 obtain⟨p,hp⟩:=List.getElem?_of_mem hy
 exact⟨y,List.mem_append_left _ (List.mem_of_getElem? (h.lvl p y hp (by omega))),e⟩
theorem run_holds (h:Run cs T its S) (h6:Six cs) (hall: ∀v:Int,1≤v→v<7→T.val v≠0): ∀c∈cs,∃y∈c,Has its y:=fun c hc=>by
 refine Classical.byContradiction fun hno=>?_
 have hno: ∀y∈c,¬Has its y:=fun y hy hh=>hno ⟨y,hy,hh⟩
 obtain⟨n,hn⟩:=List.getElem?_of_mem hc
 have hcd:clsC cs ((n:Int)+1)=some c:=by
  unfold clsC
  rw[if_pos (by omega),show((n:Int)+1-1).toNat=n by omega]
  exact hn
 have hfal: ∀y∈c,Has its (-y):=fun y hy=>by
  obtain⟨a1,a2⟩:=(h6.2 c hc).2 y hy
  have h3:=litV_pos a1
  by_cases hf:T.fal y=true
  ·exact(h.st.sim.fal_iff a1).1 hf
  ·by_cases ht:T.tru y=true
   ·exact absurd ((h.st.sim.tru_iff a1).1 ht) (hno y hy)
   ·exfalso
    have hz:=sim_val (Bool.not_eq_true _▸hf) (Bool.not_eq_true _▸ht)
    have hv:=hall ((litV y:Nat):Int) (by omega) (by omega)
    by_cases hp:0<y
    ·rw[show((litV y:Nat):Int)=y by omega]at hv
     exact hv hz
    ·rw[show((litV y:Nat):Int)= -y by omega]at hv
     refine hv (sim_val ?_ ?_)
     ·cases hq:T.fal (-y)with
      | false=>rfl
      | true=>
       have:=(h.st.sim.fal_iff (by rw[litB_minus];exact a1)).1 hq
       rw[Int.neg_neg]at this
       exact absurd this (hno y hy)
     ·cases hq:T.tru (-y)with
      | false=>rfl
      | true=>
       have:=(h.st.sim.tru_iff (by rw[litB_minus];exact a1)).1 hq
       exact absurd ((h.st.sim.fal_iff a1).2 this) hf
 cases hcc:c with
 | nil=>
  subst hcc
  obtain⟨k,hk,hkl⟩:=h.known hcd
  obtain⟨_,hby,_,_⟩:=h.st.inv.bnd.kn hk
  rcases hby with h0|⟨p,q,_,_,hp,_⟩
  ·rcases h.st.inv.two _ k [] hk hcd h0 with h2|h2
   ·obtain⟨y,hy,_⟩:=alwL_two h2
    cases hy
   ·rw[hkl]at h2
    obtain⟨y,hy,_⟩:=h.one _ [] trivial hcd (alwL_no (c:= []) (fun y hy=>by cases hy)) h2
    cases hy
  ·rw[hkl]at hp
   cases hp
 | cons a r=>
  have ha:a∈c:=by rw[hcc];exact List.mem_cons_self
  exact hno a ha (h.closed h6 hcd ha fun y hy _=>hfal y hy)
end
end Go.Proofs.YtoojmhjagipmdaaGreat
namespace Go.Proofs.YtoojmhjagipmdaaGreat
open Go.RowKit
structure SrI (cs0 ls:List (List Int)) (T:Trl) (its:List RIt) (S:Wst) (id:Int) (n:Nat):Prop where
 sr:Sr (cs0++ls) T its S id
 six:Six (cs0++ls)
 lvs:Lvs T its
 codes:(ls.map codeL).Nodup
 good: ∀L∈ls,(∀y∈L,litB y=true∧litV y<7)∧∀y∈L,-y∉L
 sat: ∀m,m<128→allT m cs0=true→allT m (cs0++ls)=true
 cnt:(n:Int)≤7*ls.length+T.now
section
variable {cs0 ls:List (List Int)} {T:Trl} {its:List RIt} {S:Wst} {id lv:Int} {n:Nat} {c:List Int} {x:Lrn} {R K:List Nat}
theorem SrI.few (h:SrI cs0 ls T its S id n):ls.length≤729:=by
 have:=List.Nodup.length_le_of_subset h.codes (l₂:=List.range 729) (fun k hk=>by
  obtain⟨L,_,rfl⟩:=List.mem_map.1 hk
  exact List.mem_range.2 (codeL_lt L))
 rwa [List.length_map,List.length_range]at this
theorem SrI.now6 (h:SrI cs0 ls T its S id n):0≤T.now∧T.now≤6:=by
 have h1:=h.lvs.now_le h.sr.st.sim.now
 have h2:=h.sr.st.sim.few h.sr.st.vars
 rw[h.sr.st.sim.order,List.length_map]at h2
 exact⟨h.sr.st.sim.now,by omega⟩
theorem SrI.n6000 (h:SrI cs0 ls T its S id n):n≤6000:=by
 have:=h.few
 have:=h.now6
 have:=h.cnt
 omega
theorem sri_begin {cs:List (List Int)} (h:Sr cs T its S id) (h6:Six cs) (h0:T.now=0):SrI cs [] T its S id 0 where
 sr:=by rw[List.append_nil];exact h
 six:=by rw[List.append_nil];exact h6
 lvs:=fun i h1 h2=>by omega
 codes:=List.nodup_nil
 good:=fun L hL=>by cases hL
 sat:=fun m _ h=>by rw[List.append_nil];exact h
 cnt:=by
  rw[h0]
  simp
theorem sri_dec (h:SrI cs0 ls T its S 0 n) {l:Int} (hl:litB l=true∧litV l<7) (hz:T.val l=0) {T':Trl} {its':List RIt} {S':Wst} {id':Int} (hs:Sr (cs0++ls) T' its' S' id') (hT:T'=(propW (addAll arn0 0 (cs0++ls)) (decT T l) S).1) (hn:T'.now=T.now+1):SrI cs0 ls T' its' S' id' (n+1) where
 sr:=hs
 six:=h.six
 lvs:=by
  subst hT
  exact dec_lvs h.sr h.six hl hz h.lvs hs.st.sim hn
 codes:=h.codes
 good:=h.good
 sat:=h.sat
 cnt:=by
  have:=h.cnt
  omega
theorem sri_learn (h:SrI cs0 ls T its S id n) (hid:id≠0) (hlv:lv≠0) (hcc:clsC (cs0++ls) id=some c) (hco:ConfO (clsC (cs0++ls)) T its id c lv x R K) {l0:Int} {its1:List RIt} {W:WRes} (ho:LearnO (cs0++ls) x T its S l0 its1 W):
  ∃its2,SrI cs0 (ls++ [x.lits]) (propW (addAll arn0 0 (cs0++(ls++ [x.lits]))) W.T W.S).1 its2 (propW (addAll arn0 0 (cs0++(ls++ [x.lits]))) W.T W.S).2.1 ((propW (addAll arn0 0 (cs0++(ls++ [x.lits]))) W.T W.S).2.2.getD 0) (n+1)∧∀id,(propW (addAll arn0 0 (cs0++(ls++ [x.lits]))) W.T W.S).2.2=some id→1≤id:=by
 have e:cs0++(ls++ [x.lits])=(cs0++ls)++ [x.lits]:=(List.append_assoc _ _ _).symm
 have hs:=h.sr.st.sim
 obtain⟨f,g⟩:=good_facts hs h.sr.st.vars h.six hcc hco
 have hno:=hco.chain.no hs
 have h6':Six (cs0++(ls++ [x.lits])):=by rw[e];exact ho.six
 have hst:St (clsC (cs0++(ls++ [x.lits]))) W.T (its1++ [⟨l0,((cs0++ls).length:Int)+1,x.back⟩]) W.S:=by rw[e];exact ho.st
 obtain⟨its2,p1,p2,p3,p4,p5⟩:=hst.prop (A:=addAll arn0 0 (cs0++(ls++ [x.lits]))) h6'.fit (hst.find h6')
 have hz2:=DZ.propGo (A:=addAll arn0 0 (cs0++(ls++ [x.lits]))) (W.T.vars.length+1) (S:=W.S) hst.inv.bnd hst.inv.link ⟨_,hst.sim⟩ ⟨_,hst.sim,ho.dcs⟩
 have hkn: ∀j,((propW (addAll arn0 0 (cs0++(ls++ [x.lits]))) W.T W.S).2.1.kn j).isSome=(clsC (cs0++(ls++ [x.lits])) j).isSome:=fun j=>by
  rw[p4,ho.kn,e]
 have hone:One (clsC (cs0++(ls++ [x.lits]))) (fun _=>True) its2:=by
  have:=ho.one
  rw[←e]at this
  exact this.pre p2
 obtain⟨_,_,_,_,_,_,_,_,hbk0,hbkl,_⟩:=hco.parts hs hlv
 have hnow:=h.now6
 refine⟨its2,⟨⟨p1,hz2.dcs p1.sim,fun h0=>?_,fun h0=>?_,fun _=>.inr ⟨hkn,hone⟩⟩,h6',?_,?_,?_,fun m hm hall=>?_,?_⟩,fun id' hid'=>?_⟩
 ·rcases p5 with⟨a1,a2⟩|⟨id',d,a1,a2,_⟩
  ·exact⟨p1,hkn,hone,a2⟩
  ·rw[a1]at h0
   have:=(h6'.fit id' d a2).1.1
   have h0:id'=0:=h0
   omega
 ·rcases p5 with⟨a1,_⟩|⟨id',d,a1,a2,a3⟩
  ·rw[a1]at h0
   exact absurd rfl h0
  ·rw[a1]
   exact⟨d,a2,a3⟩
 ·have hb:x.back≤T.now:=by
   obtain⟨k0,K',z0,hK,hz0,hzl,_⟩:=hco.parts hs hlv
   have:=(hs.pos z0 (List.mem_of_getElem? hz0)).2
   omega
  exact(learn_lvs ho h.lvs hb).pre p2 p3
 ·rw[List.map_append,List.map_cons,List.map_nil,List.nodup_append]
  refine⟨h.codes,by simp,fun a ha b hb e2=>?_⟩
  rw[List.mem_singleton]at hb
  obtain⟨L,hL,hLa⟩:=List.mem_map.1 ha
  have hsub:=codeL_sub (h.good L hL).1 (h.good L hL).2 (show codeL L=codeL x.lits by rw[hLa,e2,hb])
  exact conf_new h.sr hid h.six hco hlv L (List.mem_append_right _ hL) hsub
 ·intro L hL
  rcases List.mem_append.1 hL with hL|hL
  ·exact h.good L hL
  ·rw[List.mem_singleton.1 hL]
   exact⟨g.litr,hno⟩
 ·have h1:=h.sat m hm hall
  have h2:=g.sat m hm h1
  rw[e]
  unfold allT at h1⊢
  rw[List.all_append,h1]
  simpa using h2
 ·rw[p3,ho.now,List.length_append,List.length_singleton]
  have:=h.cnt
  omega
 ·rcases p5 with⟨a1,_⟩|⟨id2,d,a1,a2,_⟩
  ·rw[a1]at hid'
   cases hid'
  ·rw[a1]at hid'
   rw[←Option.some.inj hid']
   exact(h6'.fit id2 d a2).1.1
theorem sri_none (h:SrI cs0 ls T its S id n) (hcc:clsC (cs0++ls) id=some c) (hco:ConfO (clsC (cs0++ls)) T its id c lv x R K) (hx:x.lits= []): ∀m,m<128→allT m cs0=false:=fun m hm=>by
 cases ha:allT m cs0 with
 | false=>rfl
 | true=>
  obtain⟨f,g⟩:=good_facts h.sr.st.sim h.sr.st.vars h.six hcc hco
  have:=g.sat m hm (h.sat m hm ha)
  rw[hx]at this
  cases this
def bitsL (ys:List Int):Nat:=ys.foldl (fun b y=>if 0<y then b ||| 2^y.toNat else b) 0
theorem bitsL_snoc (ys:List Int) (y:Int):bitsL (ys++ [y])=if 0<y then bitsL ys ||| 2^y.toNat else bitsL ys:=by
 unfold bitsL
 rw[List.foldl_append]
 rfl
theorem or_lt: ∀a,a<128→∀k,k<7→a ||| 2^k<128:=by decide +kernel
theorem bitsL_lt {ys:List Int} (h: ∀y∈ys,-7<y∧y<7):bitsL ys<128:=by
 have key: ∀(ys:List Int) (b:Nat),b<128→(∀y∈ys,-7<y∧y<7)→ys.foldl (fun b y=>if 0<y then b ||| 2^y.toNat else b) b<128:=by
  intro ys
  induction ys with
  | nil=>exact fun b hb _=>hb
  | cons y r ih=>
   intro b hb hy
   rw[List.foldl_cons]
   refine ih _ ?_ (fun z hz=>hy z (List.mem_cons_of_mem _ hz))
   have:=hy y List.mem_cons_self
   split
   ·exact or_lt b hb y.toNat (by omega)
   ·exact hb
 exact key ys 0 (by decide) h
theorem bitsL_test {ys:List Int} {k:Nat} (hk:0<k):(bitsL ys).testBit k=true↔(k:Int)∈ys:=by
 have key: ∀(ys:List Int) (b:Nat),(ys.foldl (fun b y=>if 0<y then b ||| 2^y.toNat else b) b).testBit k=true↔b.testBit k=true∨(k:Int)∈ys:=by
  intro ys
  induction ys with
  | nil=>exact fun b=>by simp
  | cons y r ih=>
   intro b
   rw[List.foldl_cons,ih,List.mem_cons]
   split
   ·rename_i hy
    rw[Nat.testBit_or,Bool.or_eq_true,Nat.testBit_two_pow]
    constructor
    ·rintro ((h|h)|h)
     ·exact .inl h
     ·have:=of_decide_eq_true h
      exact .inr (.inl (by omega))
     ·exact .inr (.inr h)
    ·rintro (h|h|h)
     ·exact .inl (.inl h)
     ·exact .inl (.inr (decide_eq_true (by omega)))
     ·exact .inr h
   ·rename_i hy
    constructor
    ·rintro (h|h)
     ·exact .inl h
     ·exact .inr (.inr h)
    ·rintro (h|h|h)
     ·exact .inl h
     ·omega
     ·exact .inr h
 have:=key ys 0
 simpa [bitsL] using this
theorem sri_model (h:SrI cs0 ls T its S 0 n) (hall: ∀v:Int,1≤v→v<7→T.val v≠0):allT (bitsL T.order) cs0=true:=by
 have hrun:=h.sr.ok rfl
 have hs:=hrun.st.sim
 unfold allT
 rw[List.all_eq_true]
 intro c hc
 obtain⟨y,hy,hh⟩:=run_holds hrun h.six hall c (List.mem_append_left _ hc)
 refine List.any_eq_true.2 ⟨y,hy,?_⟩
 obtain⟨a1,a2⟩:=(h.six.2 c (List.mem_append_left _ hc)).2 y hy
 have h3:=litV_pos a1
 have hmem: ∀z:Int,z∈T.order↔Has its z:=fun z=>by
  rw[hs.order]
  constructor
  ·intro hz
   obtain⟨r,hr,rfl⟩:=List.mem_map.1 hz
   obtain⟨p,hp⟩:=List.getElem?_of_mem hr
   exact⟨p,r,hp,rfl⟩
  ·rintro ⟨p,r,hp,rfl⟩
   exact List.mem_map.2 ⟨r,List.mem_of_getElem? hp,rfl⟩
 unfold bitT
 by_cases hp:0<y
 ·rw[if_pos hp]
  exact(bitsL_test (by omega)).2 (by rw[show((y.toNat:Nat):Int)=y by omega];exact(hmem y).2 hh)
 ·rw[if_neg hp,Bool.not_eq_true']
  cases ht:(bitsL T.order).testBit (-y).toNat with
  | false=>rfl
  | true=>
   have:=(bitsL_test (by omega)).1 ht
   rw[show(((-y).toNat:Nat):Int)= -y by omega]at this
   exact(has_two hs a1 hh ((hmem _).1 this)).elim
end
end Go.Proofs.YtoojmhjagipmdaaGreat
