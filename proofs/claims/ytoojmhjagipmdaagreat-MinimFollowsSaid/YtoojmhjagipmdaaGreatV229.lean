/- package salvorlaw14: Learn. AnalyzeFollows: the walk. -/
import Derived.Test.YtoojmhjagipmdaaGreatV228
import Derived.Test.YtoojmhjagipmdaaGreatV225
import Derived.Test.YtoojmhjagipmdaaGreatV226
import Derived.Test.YtoojmhjagipmdaaGreatV227
namespace Go.Proofs.YtoojmhjagipmdaaGreat
open Go.RowKit
theorem Lw.kept {O:Nat→Prop} {w0 w w':World} {lab:Nat→Nat} {b ab tb:Nat} {A:Arn} {T:Trl} {S:Wst} (h:Lw w0 w lab b ab tb A T S) (k:Kept O w w') (hO: ∀g,O g→lab g=0∧w0.heap.size≤g):Lw w0 w' lab b ab tb A T S:=
 ⟨h.sys.kept k (fun g hg ho=>hg (hO g ho).1),h.ge,h.hb.trans (k.below (fun i h=>(hO i h).2) h.hb.size)⟩
theorem SrAt.next2 {w0 w w':World} {lab:Nat→Nat} {sb b ab tb:Nat} {A A':Arn} {T T':Trl} {S S':Wst} {cs:List (List Int)} {av:Value} {us:List Value} (h:SrAt w0 w lab sb b ab tb A T S cs av us) (k:LwNext w0 w w' lab b ab tb A' T' S'): ∃lab',SrAt w0 w' lab' sb b ab tb A' T' S' cs av us∧Labs lab lab' w w':=by
 obtain⟨lab',h1,h2⟩:=k
 refine⟨lab',⟨h1,(h2.same _ h.sblt).trans h.lab0,h.sbw,(h2.kept.block _ h.sblt (by simp[h.lab0])).trans h.box,own_kept h.row h2.kept (fun g hg hn=>hn (h.rlab g hg).1),fun g hg=>⟨(h2.same g (own_lt h.row g hg).2).trans (h.rlab g hg).1,(h.rlab g hg).2⟩,fun i xs hi=>?_⟩,h2⟩
 obtain⟨u,a1,a2⟩:=h.inn i xs hi
 refine⟨u,a1,(a2.lt.kept h2.kept (fun g hg hn=>hn hg.1.1)).mono (fun g hg=>⟨(h2.same g hg.2).trans hg.1.1,hg.1.2⟩)⟩
theorem lw_addA {w0 w:World} {lab:Nat→Nat} {b ab tb:Nat} {A:Arn} {T:Trl} {S:Wst} {Oc:Nat→Prop} {k:Nat} (cv:Value) (c:List Int) (h:Lw w0 w lab b ab tb A T S) (hl:A.Low k) (hk:k<1000) (hc:IntsIn Oc w cv c) (hcb:clauseB c=true) (hcl:c.length≤1000):
  Calls Tryz.prog 92 #[.pointer (some ⟨ab,0,none⟩),.int .i64 ((k:Int)+1),cv] w fun e w'=>e= .returned (.int .i64 0)∧LwNext w0 w w' lab b ab tb (A.put ((k:Int)+1) c) T S:=by
 obtain⟨l1,l2,l3,l4,l5⟩:=hl
 have e:A.put ((k:Int)+1) c=A.add ((k:Int)+1) c:=by unfold Arn.put;rw[if_pos hcb]
 rw[e]
 refine(ar_add ab A ((k:Int)+1) cv c w h.sys.ar hc hcb (by omega) (by omega) (by omega) (by omega) (by omega) (by omega) (by omega)).mono ?_
 rintro e w' ⟨rfl,hn⟩
 exact⟨rfl,h.next (h.sys.ar_next hn)⟩
theorem one_at2 {w:World} {p:Nat} {u:Value} (h:w.cell? ⟨p,0,none⟩=some u): ∀j v,[u][j]? =some v→w.cell? ((⟨p,0,none⟩:Addr).add j)=some v:=by
 intro j v hj
 cases j with
 | zero=>
  simp only[List.getElem?_cons_zero,Option.some.injEq]at hj
  subst hj
  rw[addr_add]
  exact h
 | succ j=>simp at hj
set_option maxRecDepth 100000 in
set_option maxHeartbeats 8000000 in
theorem law_learn {w0 w:World} {lab:Nat→Nat} {sb b ab tb:Nat} {T:Trl} {its:List RIt} {S:Wst} {cs:List (List Int)} {av:Value} {us:List Value} {x:Lrn} {n:Nat} (xv:Value) (h:SrAt w0 w lab sb b ab tb (addAll arn0 0 cs) T S cs av us) (hst:St (clsC cs) T its S) (h6:Six (cs++ [x.lits])) (hlen:cs.length<900) (hx:LrnAt n w xv x)
  (hn1: ∀g,lab g≠0→g<n) (hn2:sb<n) (hn3: ∀g,av.ownBlock=some g→g<n) (hbe:T.backErr x.back=0) (W:WRes) (hW:addW (addAll arn0 0 (cs++ [x.lits])) (T.backed x.back) (backS T S x.back) ((cs.length:Int)+1)=W) (hWe:W.err=0) (hWr:W.res=2∨x.lits= []) (hL:(backS T S x.back).Link) (hT1:(T.backed x.back).order.length≤6):
  Calls Tryz.prog 34 #[.pointer (some ⟨sb,0,none⟩),xv] w fun e w'=>e= .returned (.bool true)∧(∃lab' av' us',SrAt w0 w' lab' sb b ab tb (addAll arn0 0 (cs++ [x.lits])) W.T W.S (cs++ [x.lits]) av' us')∧Kept (fun g=>lab g≠0∨g=sb∨av.ownBlock=some g) w w':=by
 obtain⟨i0,hi,hz0,hz1,hz2⟩:=info_parts info_cls
 obtain⟨Ax,cx,Ay,cy,Az,cz,rfl,hxa,hya,hza⟩:=hx.parts
 obtain⟨xs,hxs⟩: ∃l,x.lits=l:=⟨_,rfl⟩
 obtain⟨BK,hbk⟩: ∃l,x.back=l:=⟨_,rfl⟩
 rw[hxs]at h6 hxa hWr hW⊢
 rw[hbk]at hbe hW hL hT1⊢
 clear hya hza hx
 have hxsb:clauseB xs=true:=(h6.right (List.mem_append_right _ (List.mem_singleton.2 rfl))).1
 have hxl6:xs.length≤6:=(h6.right (List.mem_append_right _ (List.mem_singleton.2 rfl))).2
 obtain⟨xb,hxb⟩: ∃z,w.heap.size=z:=⟨_,rfl⟩
 obtain⟨NX,hNX⟩: ∃NX,xs.length=NX:=⟨_,rfl⟩
 rw[hNX]at hxl6 hxa⊢
 obtain⟨wa,hwa⟩: ∃z,w.alloc (.cells #[.slice Ax NX cx,.int .i64 BK,.int .i64 x.levels,.slice Ay x.hints.length cy,.slice Az x.met.length cz] 65)=z:=⟨_,rfl⟩
 have hba:Below w.heap.size w wa:=by rw[←hwa];exact mx_al _ _
 have hbn:wa.heap[xb]? =some (.cells #[.slice Ax NX cx,.int .i64 BK,.int .i64 x.levels,.slice Ay x.hints.length cy,.slice Az x.met.length cz] 65 (0,0)):=by rw[←hwa,←hxb];exact World.alloc_heap_new _ _
 have hga:=h.below hba
 obtain⟨e0,e1,e2,e3⟩:=hga.cells
 obtain⟨b0,b1,-,-,-⟩:=(cells5 hbn).1
 have hsbl:=hga.sblt
 have hxbl:=heap_lt hbn
 have hxsz:w.heap.size<wa.heap.size:=by rw[hxb];exact hxbl
 have hxlab:lab xb=0:=Classical.byContradiction fun hh=>by have:=h.lw.sys.lt _ hh;omega
 have hxrow:av.ownBlock≠some xb:=fun e=>by have:=(own_lt h.row _ e).2;omega
 have hsbrow:av.ownBlock≠some sb:=fun e=>(h.rlab _ e).2 rfl
 have hsbxb:sb≠xb:=by have:=h.sblt;omega
 have HLOW:=Lib.hid (addAll_low2 cs arn0 0 ⟨by decide,by decide,by decide,by decide,by decide⟩ (fun c hc=>by have:=(h6.2 c (List.mem_append_left _ hc)).1;omega))
 have HSN:=Lib.hid (addAll_snoc xs cs arn0 0)
 have HPT:=Lib.hid (show PT T from⟨its,hst.sim,hst.sta⟩)
 have HA:=Lib.hid hga
 have HBA:=Lib.hid hba
 have HXA:=Lib.hid (hxa wa hba)
 have HBN:=Lib.hid hbn
 have HWA:=Lib.hid hwa
 have HW:=Lib.hid hW
 have H6:=Lib.hid h6
 have HX6:=Lib.hid (show xs.length=NX from hNX)
 obtain⟨Aa,ca,rfl,_⟩:=mx_slice h.row
 clear h hst h6 hxa hbn hwa hW hba hga hNX hxs hbk
 go_enter Tryz.func34,Tryz.ntmps34
 go_upto_region 1 with fail
 rw[HWA.out]
 refine wp_region_sink_at (S:=fun w'=>w'.cell? ⟨sb,3,none⟩=some (.slice Aa cs.length ca)∧w'.cell? ⟨xb,0,none⟩=some (.slice Ax NX cx)) (by kernel_rfl) rfl (by kernel_rfl) ⟨e3,b0⟩ (fun hHeld=>?_)
 obtain⟨wD,hwD⟩: ∃x,wa.drew=x:=⟨_,rfl⟩
 have hbD:Below wa.heap.size wa wD:=by rw[←hwD];exact mx_drew wa
 rw[hwD]at hHeld⊢
 have hzD:=hbD.size
 have HBD:=Lib.hid hbD
 clear hwD hbD
 refine takeS 0 7 ?_
 refine takeS 1 8 ?_
 refine takeS 2 9 ?_
 refine takeS 3 10 ?_
 refine takeS 4 11 ?_
 refine takeS 5 12 ?_
 refine takeS 6 13 ?_
 refine ready1 7 (fun K hK=>?_)
 go_simp
 obtain⟨wN,hwN⟩: ∃x,wD.alloc (.cells #[.slice Ax NX cx] 34)=x:=⟨_,rfl⟩
 have hbN:Below wD.heap.size wD wN:=by rw[←hwN];exact mx_al _ _
 have hcN:wN.cell? ⟨wD.heap.size,0,none⟩=some (.slice Ax NX cx):=by rw[←hwN];exact mx_cell (j:=0) (World.alloc_heap_new _ _)
 rw[hwN]
 have HBN2:=Lib.hid (HBD.out.trans (hbN.mono HBD.out.size))
 refine hK.out _ _ ⟨(hbN.cell (p:=⟨sb,3,none⟩) (by show sb<_;omega)).trans hHeld.1,(hbN.cell (p:=⟨xb,0,none⟩) (by show xb<_;omega)).trans hHeld.2⟩ (fun hHeld1=>?_)
 have hzN1:=hbN.size
 clear hK hHeld hbN hwN
 have hHeld:=hHeld1
 clear hHeld1
 refine ready1 8 (fun K hK=>?_)
 refine wp_append_at 15 (by rfl) _ _ 28 rfl w0.heap.size 34 i0 (.slice none 0 0) 1 24 Tryz.underlying28 hi hz0 hz1 hz2 rfl (by decide) _ cs.length _ (by rfl) (own_below HA.out.row HBN2.out) ⟨wD.heap.size,0,none⟩ 1 1 [.slice Ax NX cx] (by rfl) rfl (one_at2 hcN) (by simp[Value.oneCell']) (by unfold maxLen;omega) (by omega) (by have:=HA.out.lw.hb.size;omega) ?_
 intro v' w2 hown hgrow hat
 obtain⟨Av,cv,rfl,_⟩:=mx_slice hown
 have hkg:Kept (fun g=>(Value.slice Aa cs.length ca).ownBlock=some g) wa w2:=(Kept.of_below HBN2.out).trans (Kept.grown hgrow) (fun i hi e=>e.symm)
 have hz2':=hgrow.size
 refine hK.out _ _ ⟨(hkg.cell (p:=⟨sb,3,none⟩) hsbl hsbrow).trans e3,(hkg.cell (p:=⟨xb,0,none⟩) hxbl hxrow).trans b0⟩ (fun hHeld1=>?_)
 clear hK hHeld
 refine takeE 9 16 ?_
 refine takeE 10 17 ?_
 refine wpAnyH_done (by kernel_rfl) ?_ _
 refine lastPost_normal ?_
 have hblk:=(hkg.block sb hsbl hsbrow).trans HA.out.box
 have d3:w2.cell? ⟨sb,3,none⟩=some (.slice Aa cs.length ca):=mx_cell (j:=3) hblk
 have fr3:=mx_free (j:=3) hblk
 refine wpOp_step rfl (fun K hK=>?_)
 go_simp
 refine hK _ _ ?_
 clear hK d3 fr3 hHeld1
 obtain⟨wS,hwS⟩: ∃z,w2.setCell ⟨sb,3,none⟩ (.slice Av (cs.length+1) cv)=z:=⟨_,rfl⟩
 have hkS:Kept (fun g=>(Value.slice Aa cs.length ca).ownBlock=some g∨g=sb) wa wS:=by
  rw[←hwS]
  exact(hkg.mono (fun i _ h=>.inl h)).setCell ⟨sb,3,none⟩ _ (.inr rfl)
 have hkS2:Kept (fun g=>g=sb) w2 wS:=by rw[←hwS];exact(Kept.refl _ _).setCell ⟨sb,3,none⟩ _ rfl
 have hat2: ∀g,(Value.slice Av (cs.length+1) cv).ownBlock=some g→(Value.slice Aa cs.length ca).ownBlock=some g∨g=wN.heap.size:=fun g hg=>by
  rcases hat with h1|h1
  ·exact .inl (h1▸hg)
  ·right
   rw[h1]at hg
   exact(Option.some.inj hg).symm
 have hlablt:=HA.out.lw.sys.lt
 have hlabN: ∀g,wa.heap.size≤g→lab g=0:=fun g hg=>Classical.byContradiction fun hh=>by have:=hlablt g hh;omega
 have hrl:=HA.out.rlab
 have hsr:SrAt w0 wS lab sb b ab tb (addAll arn0 0 cs) T S (cs++ [xs]) (.slice Av (cs.length+1) cv) (us++ [.slice Ax NX cx]):={
  lw:=HA.out.lw.kept hkS (fun g hg=>by
   rcases hg with hg|hg
   ·exact⟨(hrl g hg).1,(own_lt HA.out.row g hg).1⟩
   ·rw[hg]
    exact⟨HA.out.lab0,HA.out.sbw⟩)
  lab0:=HA.out.lab0
  sbw:=HA.out.sbw
  box:=by rw[←hwS,mx_set hblk];rfl
  row:=by
   rw[List.length_append,List.length_singleton]
   refine own_kept hown hkS2 (fun g hg e=>?_)
   rcases hat2 g hg with h1|h1
   ·exact(hrl g h1).2 e
   ·omega
  rlab:=fun g hg=>by
   rcases hat2 g hg with h1|h1
   ·exact hrl g h1
   ·exact⟨hlabN g (by omega),by omega⟩
  inn:=fun i d hd=>by
   by_cases hil:i<cs.length
   ·rw[List.getElem?_append_left hil]at hd
    obtain⟨u,a1,a2⟩:=HA.out.inn i d hd
    have hul:us.length=cs.length:=by have:=HA.out.row.1;omega
    refine⟨u,by rw[List.getElem?_append_left (by omega)];exact a1,(a2.lt.kept hkS (fun g hg hh=>?_)).mono (fun g hg=>⟨hg.1.1,hg.1.2.1,fun e=>?_⟩)⟩
    ·rcases hh with hh|hh
     ·exact hg.1.2.2 hh
     ·exact hg.1.2.1 hh
    ·rcases hat2 g e with h1|h1
     ·exact hg.1.2.2 h1
     ·have:=hg.2
      omega
   ·have h1:=(List.getElem?_eq_some_iff.1 hd).1
    rw[List.length_append,List.length_singleton]at h1
    obtain rfl:i=cs.length:=by omega
    rw[List.getElem?_append_right (Nat.le_refl _),Nat.sub_self]at hd
    obtain rfl:=Option.some.inj hd
    have hul:us.length=cs.length:=by have:=HA.out.row.1;omega
    refine⟨_,by rw[List.getElem?_append_right (by omega),hul,Nat.sub_self];rfl,((HXA.out.lt).kept hkS (fun g hg hh=>?_)).mono (fun g hg=>⟨Classical.byContradiction fun hh=>by have:=hn1 g hh;have:=hg.1;omega,by have:=hg.1;omega,fun e=>?_⟩)⟩
    ·rcases hh with hh|hh
     ·have:=hn3 g hh
      have:=hg.1
      omega
     ·have:=hg.1
      omega
    ·rcases hat2 g e with h1|h1
     ·have:=hn3 g h1
      have:=hg.1
      omega
     ·have:=hg.2
      omega }
 have hbxS:wS.heap[xb]? =some (.cells #[.slice Ax NX cx,.int .i64 BK,.int .i64 x.levels,.slice Ay x.hints.length cy,.slice Az x.met.length cz] 65 (0,0)):=(hkS.block xb hxbl (fun hh=>hh.elim hxrow (fun h=>hsbxb h.symm))).trans HBN.out
 have HKS:=Lib.hid hkS
 have HS:=Lib.hid hsr
 have HXS:=Lib.hid hbxS
 have HXV:=Lib.hid ((HXA.out.kept hkS (fun g hg hh=>by
  rcases hh with hh|hh
  ·have:=hn3 g hh
   omega
  ·omega)).lt)
 have hxbS:=heap_lt hbxS
 have hsbS:=hsr.sblt
 have HWS:=Lib.hid hwS
 clear hown hgrow hat hkg hblk hkS hkS2 hat2 hlablt hlabN hrl hsr hbxS hz2' hzN1 hzD hcN HBN2 HBD e0 e1 e2 e3 b0 b1 hwS
 rw[HWS.out]
 clear HWS
 obtain⟨e0,e1,e2,e3⟩:=HS.out.cells
 obtain⟨b0,b1,-,-,-⟩:=(cells5 HXS.out).1
 go_wp2_with fail
 have HBX:=Lib.hid (fun(W:World) (l:Nat→Nat) (hb:Labs lab l wS W)=>(hb.kept.block xb hxbS (fun h=>h hxlab)).trans HXS.out)
 refine wp_region_held_drew (S:=fun w'=>w'.cell? ⟨sb,0,none⟩=some (.pointer (some ⟨ab,0,none⟩))∧w'.cell? ⟨sb,2,none⟩=some (.pointer (some ⟨b,0,none⟩))∧w'.cell? ⟨sb,3,none⟩=some (.slice Av (cs.length+1) cv)∧w'.cell? ⟨xb,0,none⟩=some (.slice Ax NX cx)∧w'.cell? ⟨xb,1,none⟩=some (.int .i64 BK)) (by kernel_rfl) ⟨e0,e2,e3,b0,b1⟩ (fun hS=>?_)
 have HD:=Lib.hid (HS.out.below (mx_drew wS))
 obtain⟨wD2,hwD2⟩: ∃z,wS.drew=z:=⟨_,rfl⟩
 have HDL:=Lib.hid (show Labs lab lab wS wD2 from by rw[←hwD2];exact Labs.of_below (mx_drew wS))
 rw[hwD2]at HD hS⊢
 clear hwD2 e0 e1 e2 e3 b0 b1
 refine takeS 0 18 ?_
 refine takeS 1 19 ?_
 refine takeS 2 20 ?_
 refine takeS 3 21 ?_
 refine takeS 4 22 ?_
 refine takeS 5 23 ?_
 have hbk:=lw_back HD.out.lw BK HPT.out.sta HPT.out.fit
 rw[hbe]at hbk
 have HBK:=Lib.hid hbk
 clear hbk
 refine ready1 6 (fun K hK=>?_)
 go_simp
 refine HBK.out.mono ?_
 rintro e wB ⟨rfl,hn⟩
 obtain⟨labB,hB,hLab⟩:=HD.out.next2 hn
 have hLB:=HDL.out.trans hLab
 obtain⟨e0,-,e2,e3⟩:=hB.cells
 have hbx:=HBX.out wB labB hLB
 obtain⟨b0,b1,-,-,-⟩:=(cells5 hbx).1
 refine hK.out _ _ ⟨e0,e2,e3,b0,b1⟩ (fun hS2=>?_)
 clear hS
 have hS:=hS2
 have HB:=Lib.hid hB
 have HLB:=Lib.hid hLB
 have HXB:=Lib.hid hbx
 have HXV2:=Lib.hid ((HXV.out.kept hLB.kept (fun g hg hh=>hh (Classical.byContradiction fun hz=>by
  have h1:=hn1 g hz
  have h2:=hg.1
  omega))))
 clear hK hn hB hLab hLB hS2 e0 e2 e3 b0 b1 hbx HBK HD HDL
 refine takeS 7 25 ?_
 refine takeS 8 26 ?_
 refine takeS 9 27 ?_
 refine takeS 10 28 ?_
 refine takeS 11 29 ?_
 refine takeS 12 30 ?_
 refine takeS 13 31 ?_
 refine takeS 14 32 ?_
 refine takeS 15 33 ?_
 refine takeS 16 34 ?_
 refine takeS 17 35 ?_
 refine takeS 18 36 ?_
 refine takeS 19 37 ?_
 have hadA:=lw_addA (k:=cs.length) _ xs HB.out.lw (by have:=HLOW.out;rwa [Nat.zero_add]at this) (by omega) HXV2.out hxsb (by have:=HX6.out;omega)
 rw[show(addAll arn0 0 cs).put ((cs.length:Int)+1) xs=addAll arn0 0 (cs++ [xs])from by have:=HSN.out;rw[Nat.zero_add]at this;exact this.symm]at hadA
 have HADA:=Lib.hid hadA
 clear hadA
 refine ready1 20 (fun K hK=>?_)
 go_simp
 refine HADA.out.mono ?_
 rintro e wA ⟨rfl,hn⟩
 obtain⟨labA,hA2,hLab⟩:=HB.out.next2 hn
 have hLB:=HLB.out.trans hLab
 obtain⟨e0,-,e2,e3⟩:=hA2.cells
 have hbx:=HBX.out wA labA hLB
 obtain⟨b0,b1,-,-,-⟩:=(cells5 hbx).1
 refine hK.out _ _ ⟨e0,e2,e3,b0,b1⟩ (fun hS2=>?_)
 clear hS
 have hS:=hS2
 have HA2:=Lib.hid hA2
 have HLA:=Lib.hid hLB
 clear hK hn hA2 hLab hLB hS2 HADA HB HLB HXB
 refine takeS 21 39 ?_
 refine takeS 22 40 ?_
 refine wpAnyH_done (by kernel_rfl) ?_ _
 obtain⟨k0,k2,k3,k4,k5⟩:=hS
 go_upto_region 4 with fail
 refine wp_region_held_drew (S:=fun w'=>w'.cell? ⟨sb,0,none⟩=some (.pointer (some ⟨ab,0,none⟩))∧w'.cell? ⟨sb,2,none⟩=some (.pointer (some ⟨b,0,none⟩))∧w'.cell? ⟨sb,3,none⟩=some (.slice Av (cs.length+1) cv)∧w'.cell? ⟨xb,0,none⟩=some (.slice Ax NX cx)∧w'.cell? ⟨xb,1,none⟩=some (.int .i64 BK)) (by kernel_rfl) ⟨k0,k2,k3,k4,k5⟩ (fun hS=>?_)
 have HD:=Lib.hid (HA2.out.below (mx_drew wA))
 obtain⟨wD2,hwD2⟩: ∃z,wA.drew=z:=⟨_,rfl⟩
 have HDL:=Lib.hid (show Labs lab labA wS wD2 from by rw[←hwD2];exact HLA.out.trans (Labs.of_below (mx_drew wA)))
 rw[hwD2]at HD hS⊢
 clear hwD2 k0 k2 k3 k4 k5 e0 e2 e3 b0 b1 hbx
 refine takeS 0 42 ?_
 refine takeS 1 43 ?_
 refine takeS 2 44 ?_
 refine takeS 3 45 ?_
 refine takeS 4 46 ?_
 refine takeS 5 47 ?_
 refine takeS 6 48 ?_
 refine takeS 7 49 ?_
 refine takeS 8 50 ?_
 have hadd:=lw_add HD.out.lw ((cs.length:Int)+1) (wf64 (by omega) (by omega)) (fun d hd=>by
  rw[get_cls H6.out,clsC_last]at hd
  rw[←Option.some.inj hd]
  exact⟨by have:=HX6.out;omega,hxsb,by omega,by omega⟩) (by omega) hL
 rw[show addW (addAll arn0 0 (cs++ [xs])) (T.backed BK) ⟨S.known,S.of,min S.looked (T.backed BK).order.length⟩ ((cs.length:Int)+1)=W from HW.out]at hadd
 obtain⟨WR,hWR⟩: ∃r,W.res=r:=⟨_,rfl⟩
 rw[hWe,hWR]at hadd
 rw[hWR]at hWr
 have HADD:=Lib.hid hadd
 clear hadd hWR
 refine ready1 9 (fun K hK=>?_)
 go_simp
 refine HADD.out.mono ?_
 rintro e wF ⟨rfl,hn⟩
 obtain⟨labF,hF,hLab⟩:=HD.out.next2 hn
 have hLB:=HDL.out.trans hLab
 obtain⟨e0,-,e2,e3⟩:=hF.cells
 have hbx:=HBX.out wF labF hLB
 obtain⟨b0,b1,-,-,-⟩:=(cells5 hbx).1
 refine hK.out _ _ ⟨e0,e2,e3,b0,b1⟩ (fun hS2=>?_)
 clear hS
 have hS:=hS2
 have HF:=Lib.hid hF
 have HKK:=Lib.hid (show Kept (fun g=>lab g≠0∨g=sb∨(Value.slice Aa cs.length ca).ownBlock=some g) w wF from((Kept.of_below HBA.out).trans HKS.out (fun g _ h=>h.elim (fun h=>.inr (.inr h)) (fun h=>.inr (.inl h)))).trans hLB.kept (fun g _ h=>.inl h))
 clear hK hn hF hLab hLB hS2 HADD HD HDL
 refine takeS 10 41 ?_
 refine takeS 11 52 ?_
 refine takeS 12 53 ?_
 refine takeS 13 5 ?_
 refine takeS 14 6 ?_
 refine wpAnyH_done (by kernel_rfl) ?_ _
 rcases hWr with hw|hw
 ·subst hw
  go_wp2_with fail
  go_ret
  exact⟨rfl,⟨labF,_,_,HF.out⟩,HKK.out⟩
 ·have hnx:NX=0:=by rw[←HX6.out,hw];rfl
  have q0:((NX:Int)==0)=true:=by simp;omega
  by_cases hw2:WR=2
  ·subst hw2
   go_wp2_with fail
   go_ret
   exact⟨rfl,⟨labF,_,_,HF.out⟩,HKK.out⟩
  ·have q2:((WR:Int)==2)=false:=by simp;omega
   clear hw hnx
   go_wp2_with fail
   go_ret
   exact⟨rfl,⟨labF,_,_,HF.out⟩,HKK.out⟩
end Go.Proofs.YtoojmhjagipmdaaGreat
namespace Go.Proofs.YtoojmhjagipmdaaGreat
open Go.RowKit
theorem cfRun_met {A:Arn} {T:Trl} {lv:Int}: ∀(ls:List Int) (s s':CSt),cfRun A T lv s ls=some s'→s'.met.length≤s.met.length+ls.length:=by
 intro ls
 induction ls with
 | nil=>
  intro s s' h
  obtain rfl:=Option.some.inj h
  exact Nat.le_refl _
 | cons l r ih=>
  intro s s' h
  unfold cfRun at h
  cases hs:cfStep A T lv s l with
  | none=>rw[hs]at h;cases h
  | some s1=>
   rw[hs]at h
   have h1:=ih s1 s' h
   have h2:s1.met.length≤s.met.length+1:=by
    unfold cfStep at hs
    split at hs
    ·obtain rfl:=Option.some.inj hs
     omega
    ·split at hs
     ·obtain rfl:=Option.some.inj hs
      simp only
      split
      ·simp
      ·omega
     ·split at hs
      ·cases hs
      ·obtain rfl:=Option.some.inj hs
       simp only
       split
       ·simp
       ·omega
   simp only[List.length_cons]
   omega
theorem conf_met {A:Arn} {T:Trl} {id:Int} {x:Lrn} (h:confP A T id=(x,0)):x.met.length≤T.order.length:=by
 unfold confP at h
 split at h
 ·cases h
 ·split at h
  ·cases h
  ·split at h
   ·cases h
   ·rename_i s hs
    have e:x=⟨s.lits,T.backOf s.lits,T.levelsOf s.lits,s.hints.reverse++ [id],sortI s.met⟩:=(congrArg Prod.fst h).symm
    rw[e]
    show(sortI s.met).length≤_
    rw[sortI_length]
    unfold cfEnd at hs
    have:=cfRun_met _ _ _ hs
    simp only[List.length_nil,List.length_reverse]at this
    omega
theorem LrnAt.mono {n m:Nat} {w:World} {v:Value} {x:Lrn} (h:LrnAt n w v x) (hm:m≤n):LrnAt m w v x:=by
 obtain⟨a,b,c,rfl,h1,h2,h3⟩:=h
 exact⟨a,b,c,rfl,own_mono h1 hm,own_mono h2 hm,own_mono h3 hm⟩
theorem LrnAt.below {n:Nat} {w w':World} {v:Value} {x:Lrn} (h:LrnAt n w v x) (k:Below w.heap.size w w'):LrnAt n w' v x:=by
 obtain⟨a,b,c,rfl,h1,h2,h3⟩:=h
 exact⟨a,b,c,rfl,own_below h1 k,own_below h2 k,own_below h3 k⟩
theorem LrnAt.kept {O:Nat→Prop} {n:Nat} {w w':World} {v:Value} {x:Lrn} (h:LrnAt n w v x) (k:Kept O w w') (hO: ∀g,n≤g→¬O g):LrnAt n w' v x:=by
 obtain⟨a,b,c,rfl,h1,h2,h3⟩:=h
 exact⟨a,b,c,rfl,own_kept h1 k (fun g hg=>hO g (own_lt h1 g hg).1),own_kept h2 k (fun g hg=>hO g (own_lt h2 g hg).1),own_kept h3 k (fun g hg=>hO g (own_lt h3 g hg).1)⟩
theorem LrnAt.ints {n m c:Nat} {w w':World} {A:Option Addr} {B L:Int} {b' c':Value} {x:Lrn} (h:LrnAt n w (.agg #[.slice A m c,.int .i64 B,.int .i64 L,b',c']) x) (k:Below w.heap.size w w'):IntsIn (fun g=>n≤g) w' (.slice A m c) x.lits:=by
 obtain⟨a,b,c2,hv,h1,_,_⟩:=h
 simp only[Value.agg.injEq,Array.mk.injEq,List.cons.injEq,and_true]at hv
 obtain⟨rfl,_⟩:=hv
 exact((IntsIn.of_own h1).below k).mono (fun g hg=>hg.1)
structure YAt (wc wx:World) (yb:Nat) (y:Lrn) (a b c:Value):Prop where
 box:wx.heap[yb]? =some (.cells #[a,.int .i64 y.back,.int .i64 y.levels,b,c] 65 (0,0))
 lrn:LrnAt wc.heap.size wx (.agg #[a,.int .i64 y.back,.int .i64 y.levels,b,c]) y
 hb:Below wc.heap.size wc wx
 le:wc.heap.size≤yb
theorem YAt.kept {O:Nat→Prop} {wc w w':World} {yb:Nat} {y:Lrn} {a b c:Value} (h:YAt wc w yb y a b c) (k:Kept O w w') (hO: ∀g,wc.heap.size≤g→¬O g):w'.heap[yb]? =some (.cells #[a,.int .i64 y.back,.int .i64 y.levels,b,c] 65 (0,0))∧LrnAt wc.heap.size w' (.agg #[a,.int .i64 y.back,.int .i64 y.levels,b,c]) y:=
 ⟨(k.block _ (heap_lt h.box) (hO _ h.le)).trans h.box,h.lrn.kept k hO⟩
theorem YAt.below {wc w w':World} {yb:Nat} {y:Lrn} {a b c:Value} (h:YAt wc w yb y a b c) (k:Below w.heap.size w w'):YAt wc w' yb y a b c:=
 ⟨(k.block _ (heap_lt h.box)).trans h.box,h.lrn.below k,h.hb.trans (k.mono h.hb.size),h.le⟩
theorem backed_few (T:Trl) (j:Int):(T.backed j).order.length≤T.order.length:=by
 unfold Trl.backed
 split
 ·show(T.order.take _).length≤_
  rw[List.length_take]
  omega
 ·exact Nat.le_refl _
theorem learn_zero {cs:List (List Int)} {T:Trl} {its:List RIt} {S:Wst} {id lv:Int} {c:List Int} {x:Lrn} {R K:List Nat} (hst:St (clsC cs) T its S) (h6:Six cs) (hlen:cs.length<900) (h:ConfO (clsC cs) T its id c lv x R K) (hlv:lv=0):
  x.lits= []∧Six (cs++ [x.lits])∧T.backErr x.back=0∧(addW (addAll arn0 0 (cs++ [x.lits])) (T.backed x.back) (backS T S x.back) ((cs.length:Int)+1)).err=0:=by
 have hl:x.lits= []:=by rw[h.lits,h.none hlv];rfl
 have hb:x.back=0:=by rw[h.back,hl];rfl
 have h6':Six (cs++ [x.lits]):=by
  refine⟨by rw[List.length_append,List.length_singleton];omega,fun d hd=>?_⟩
  rcases List.mem_append.1 hd with hd|hd
  ·exact h6.2 d hd
  ·rw[List.mem_singleton.1 hd,hl]
   exact⟨Nat.zero_le _,fun y hy=>by cases hy⟩
 refine⟨hl,h6',?_,?_⟩
 ·have:=hst.sim.now
  have:=now_eq (T:=T)
  rw[hb]
  unfold Trl.backErr
  rw[if_neg (by omega)]
 ·have hk0:(backS T S x.back).kn ((cs.length:Int)+1)=none:=by
   show S.kn ((cs.length:Int)+1)=none
   cases hk:S.kn ((cs.length:Int)+1)with
   | none=>rfl
   | some k=>
    obtain⟨d,hd,_⟩:=hst.inv.kn _ k hk
    rw[clsC_past]at hd
    cases hd
  have hget:(addAll arn0 0 (cs++ [x.lits])).get ((cs.length:Int)+1)=some x.lits:=(get_cls h6' _).trans (clsC_last cs x.lits)
  unfold addW
  rw[hk0]
  simp only[]
  rw[hget]
  simp only[]
  rw[if_neg (by rw[hl];simp)]
  exact addOk_err _ _ _ _
theorem five_set {w5:World} {yb:Nat} {z0 z1 z2 z3 z4:Value} {t:TypeId} (hb:w5.heap[yb]? =some (.cells #[z0,z1,z2,z3,z4] t (0,0))) (a0 a1 a2 a3 a4:Value): ∃wy,(((((w5.setCell ⟨yb,0,none⟩ a0).setCell ⟨yb,1,none⟩ a1).setCell ⟨yb,2,none⟩ a2).setCell ⟨yb,3,none⟩ a3).setCell ⟨yb,4,none⟩ a4)=wy∧wy.heap[yb]? =some (.cells #[a0,a1,a2,a3,a4] t (0,0))∧Kept (fun g=>g=yb) w5 wy:=by
 refine⟨_,rfl,?_,?_⟩
 ·have h1:=mx_set hb (j:=0) a0
  have h2:=mx_set h1 (j:=1) a1
  have h3:=mx_set h2 (j:=2) a2
  have h4:=mx_set h3 (j:=3) a3
  have h5:=mx_set h4 (j:=4) a4
  exact h5
 ·exact(((((Kept.refl (fun g=>g=yb) w5).setCell ⟨yb,0,none⟩ a0 rfl).setCell ⟨yb,1,none⟩ a1 rfl).setCell ⟨yb,2,none⟩ a2 rfl).setCell ⟨yb,3,none⟩ a3 rfl).setCell ⟨yb,4,none⟩ a4 rfl
end Go.Proofs.YtoojmhjagipmdaaGreat
