/- package salvorlaw10: does: the checker against the reference, step by step. -/
import Derived.Test.YtajbmjpodeilpaaGreatV131
import Derived.Test.YtajbmjpodeilpaaGreatV122
namespace Go.Proofs.YtajbmjpodeilpaaGreat
open Go.RowKit
def WriC (w:World) (us:List Value) (cs:List (List Int)):Prop:= ∀(i:Nat) (xs:List Int) (u:Value),cs[i]? =some xs→us[i]? =some u→∀g,u.ownBlock=some g→WriL w g xs.length
theorem WriC.set {w:World} {us:List Value} {cs:List (List Int)} (h:WriC w us cs) (b j:Nat) (v:Value):WriC (w.setCell ⟨b,j,none⟩ v) us cs:=fun i xs u h1 h2 g hg=>(h i xs u h1 h2 g hg).set b j v
theorem WriC.below {w w':World} {us:List Value} {cs:List (List Int)} (h:WriC w us cs) (k:Below w.heap.size w w'):WriC w' us cs:=fun i xs u h1 h2 g hg=>(h i xs u h1 h2 g hg).below k
set_option maxRecDepth 100000 in
set_option maxHeartbeats 16000000 in
theorem does_any {O O':Nat→Prop} (vn:Int) (u v:Value) (cs:List (List Int)) (ss:List EStep) (w:World) (h:ClsIn O w u cs) (h':StepIn O' w v ss) (hl:cs.length≤1000) (hcl: ∀c∈cs,c.length≤1000) (hsl:ss.length≤1000) (hss: ∀s∈ss,s.lits.length≤1000∧s.hints.length≤1000∧∀x∈s.hints,-9223372036854775808≤x∧x≤9223372036854775807):
  Calls Tryz.prog 8 #[.agg #[.int .i64 vn,u],v] w fun e w'=>e= .returned (.bool true)∧Below w.heap.size w w':=by
 obtain⟨W1,hW1,hb1,hx1,hz1⟩:=al_new w #[.int .i64 vn,u] 24
 have hlt1:=heap_lt hx1
 have HX1:=Lib.hid hx1
 have HB1:=Lib.hid hb1
 have HC1:=Lib.hid (h.below hb1)
 have HST:=Lib.hid h'
 have HCL:=Lib.hid hcl
 have HSS:=Lib.hid hss
 have HCP:=Lib.hid (fun(X:World) (hX:Below W1.heap.size W1 X)=>copies_08 u cs X ((h.below hb1).below hX) (by omega) (fun c hc=>by have:=hcl c hc;omega))
 have HTH:=Lib.hid (fun(X:World) (hX:Below W1.heap.size W1 X)=>theirs_05 vn u cs X ((h.below hb1).below hX) (by omega) (fun c hc=>by have:=hcl c hc;omega))
 have HW1:=Lib.hid hW1
 obtain⟨Af,cf,rfl,hcf,_⟩:=h
 obtain⟨As,cS,rfl,hcS,_⟩:=h'
 obtain⟨n,hn⟩: ∃n,cs.length=n:=⟨_,rfl⟩
 have HN:=Lib.hid hn
 rw[hn]at hl hcf⊢
 have c0:=mx_cell (j:=0) hx1
 have c1:=mx_cell (j:=1) hx1
 rw[hn]at c1 HTH HCP HX1 HC1 HW1
 clear hcl hss hb1 hx1 hW1 hn
 go_enter Tryz.func8,Tryz.ntmps8
 go_upto_region 1 with fail
 rw[HW1.out]
 go_cut [5] (fun p wx=> ∃(p5:Nat) (Ao:Option Addr) (co:Nat),p= .pointer (some ⟨p5,0,none⟩)∧W1.heap.size≤p5∧Hid (wx.heap[p5]? =some (.cells #[.int .i64 vn,.slice Ao n co] 24 (0,0)))∧Hid (ClsOwn W1.heap.size wx (.slice Ao n co) cs)∧Hid (Below W1.heap.size W1 wx))
 case first=>
  refine wp_region_sink_at (S:=fun X=>Below W1.heap.size W1 X) (by kernel_rfl) rfl (by kernel_rfl) (mx_drew W1) (fun hS=>?_)
  obtain⟨xD,hxD⟩: ∃z,W1.drew=z:=⟨_,rfl⟩
  rw[hxD]at hS⊢
  clear hxD
  refine takeE 0 30 ?_
  refine takeF 1 31 (fun wq hSw=>(hSw.cell (p:=⟨w.heap.size,0,none⟩) hlt1).trans c0) ?_
  refine takeE 2 32 ?_
  refine takeF 3 33 (fun wq hSw=>(hSw.cell (p:=⟨w.heap.size,1,none⟩) hlt1).trans c1) ?_
  refine wpAnyH_ready (rs:= [4,6]) (by kernel_rfl) (by simp) (AllReadyH.cons rfl (fun KK hKK=>?_) (AllReadyH.cons rfl (fun KK hKK=>?_) AllReadyH.nil))
  ·go_simp
   refine(HCP.out _ hS).mono ?_
   rintro e w1 ⟨ov,rfl,hov,hbc⟩
   obtain⟨us,hov1,hov2⟩:=id hov
   obtain⟨Ao,co,rfl,_⟩:=mx_slice hov1
   have hn1:=HN.out
   rw[hn1]at hov
   have hS1:=hS.trans (hbc.mono hS.size)
   refine hKK.out _ _ hS1 (fun _=>?_)
   clear hKK
   refine takeE 5 35 ?_
   refine ready1 6 (fun KK hKK=>?_)
   go_simp
   obtain⟨wa,hwa,hba,hxa,hza⟩:=al_new w1 #[.int .i64 0,.slice none 0 0] 24
   rw[hwa]
   have hS2:=hS1.trans (hba.mono hS1.size)
   refine hKK.out _ _ hS2 (fun _=>?_)
   clear hKK
   have hxf:=hxa
   have hovf:=hov.below hba
   have hSf:=hS2
   have hpf:W1.heap.size≤w1.heap.size:=hS1.size
   have hof:W1.heap.size≤xD.heap.size:=hS.size
   clear hxa hov hba hbc hov1 hov2 hS hS1 hS2 hwa hza
   refine wpAnyH_done (by kernel_rfl) ?_ _
   refine lastPost_normal ?_
   have y0:=mx_cell (j:=0) hxf
   have y1:=mx_cell (j:=1) hxf
   have f0:=free_of5 (j:=0) hxf
   have f1:=free_of5 (j:=1) hxf
   have f1':=free_of5 (j:=1) (mx_set hxf (j:=0) (.int .i64 vn))
   refine wpOp_step rfl (fun K hK=>?_)
   go_simp
   refine hK _ _ ?_
   clear hK
   obtain⟨WF,hWF,hrF,hkF⟩:=two_set5 hxf (.int .i64 vn) (.slice Ao n co)
   have hcoF:=hovf.other hxf (by decide) (by decide) hkF
   have hbF:=hSf.trans (hkF.below (fun g e=>by rw[e];exact hpf) hSf.size)
   have hownF:=ClsOwn.mono hcoF hof
   rw[hWF]
   clear y0 y1 f0 f1 f1' hWF
   go_wp2_with fail
   go_meet
   exact⟨_,Ao,co,rfl,hpf,Lib.hid hrF,Lib.hid hownF,Lib.hid hbF⟩
  ·go_simp
   obtain⟨wa,hwa,hba,hxa,hza⟩:=al_new xD #[.int .i64 0,.slice none 0 0] 24
   rw[hwa]
   have hS1:=hS.trans (hba.mono hS.size)
   refine hKK.out _ _ hS1 (fun _=>?_)
   clear hKK
   refine ready1 4 (fun KK hKK=>?_)
   go_simp
   refine(HCP.out _ hS1).mono ?_
   rintro e w1 ⟨ov,rfl,hov,hbc⟩
   obtain⟨us,hov1,hov2⟩:=id hov
   obtain⟨Ao,co,rfl,_⟩:=mx_slice hov1
   have hn1:=HN.out
   rw[hn1]at hov
   have hS2:=hS1.trans (hbc.mono hS1.size)
   refine hKK.out _ _ hS2 (fun _=>?_)
   clear hKK
   refine takeE 5 35 ?_
   have hxf:=(hbc.block _ (heap_lt hxa)).trans hxa
   have hovf:=hov
   have hSf:=hS2
   have hpf:W1.heap.size≤xD.heap.size:=hS.size
   have hof:W1.heap.size≤wa.heap.size:=hS1.size
   clear hxa hov hba hbc hov1 hov2 hS hS1 hS2 hwa hza
   refine wpAnyH_done (by kernel_rfl) ?_ _
   refine lastPost_normal ?_
   have y0:=mx_cell (j:=0) hxf
   have y1:=mx_cell (j:=1) hxf
   have f0:=free_of5 (j:=0) hxf
   have f1:=free_of5 (j:=1) hxf
   have f1':=free_of5 (j:=1) (mx_set hxf (j:=0) (.int .i64 vn))
   refine wpOp_step rfl (fun K hK=>?_)
   go_simp
   refine hK _ _ ?_
   clear hK
   obtain⟨WF,hWF,hrF,hkF⟩:=two_set5 hxf (.int .i64 vn) (.slice Ao n co)
   have hcoF:=hovf.other hxf (by decide) (by decide) hkF
   have hbF:=hSf.trans (hkF.below (fun g e=>by rw[e];exact hpf) hSf.size)
   have hownF:=ClsOwn.mono hcoF hof
   rw[hWF]
   clear y0 y1 f0 f1 f1' hWF
   go_wp2_with fail
   go_meet
   exact⟨_,Ao,co,rfl,hpf,Lib.hid hrF,Lib.hid hownF,Lib.hid hbF⟩
 case rest=>
  obtain⟨p5,Ao,co,rfl,hp5,HX5,HCO,HB5⟩:=hcut
  have HT:=Lib.hid (HTH.out wc HB5.out)
  have c0:=(HB5.out.cell (p:=⟨w.heap.size,0,none⟩) hlt1).trans c0
  have c1:=(HB5.out.cell (p:=⟨w.heap.size,1,none⟩) hlt1).trans c1
  go_wp2_with fail
  refine HT.out.mono ?_
  rintro e w2 ⟨xv,rfl,hxo,hb2⟩
  obtain⟨Ax,cx,rfl,_⟩: ∃A c,xv= .slice A n c∧n≤c:=by
   obtain⟨us,q,_⟩:=hxo
   rw[HN.out]at q
   exact mx_slice q
  obtain⟨W3,hW3,hb3,hx3,hz3⟩:=al_new w2 #[.int .i64 vn,.slice Ax n cx] 38
  have HXO:=Lib.hid (hxo.below hb3)
  have HB2:=Lib.hid (hb2.trans (hb3.mono hb2.size))
  have HX3:=Lib.hid hx3
  have hz2:=hb2.size
  have hlt5:=heap_lt HX5.out
  have HX53:=Lib.hid ((HB2.out.block p5 hlt5).trans HX5.out)
  have HCO3:=Lib.hid (HCO.out.below HB2.out)
  have d0:=mx_cell (j:=0) HX53.out
  have d1:=mx_cell (j:=1) HX53.out
  have HW3:=Lib.hid hW3
  clear c0 c1 hW3 hxo hb2 hb3 hx3 HCP HTH HT
  go_upto_region 3 with fail
  rw[HW3.out]
  have HCIN:=Lib.hid (show ClsIn (fun g=>W1.heap.size≤g) W3 (.slice Ao n co) cs from HCO3.out.clsIn)
  have HXIN:=Lib.hid (show ClsIn (fun g=>wc.heap.size≤g) W3 (.slice Ax n cx) cs from HXO.out.clsIn)
  have HRC:=Lib.hid (fun(X:World) (hX:Below W3.heap.size W3 X)=>ref_check05 vn (.slice Ax n cx) cs X (HXIN.out.below hX) (by have:=HN.out;omega) (fun c hc=>by have:=HCL.out c hc;omega))
  obtain⟨fi,hfi⟩: ∃fi,(fchk vn cs).1=fi:=⟨_,rfl⟩
  obtain⟨E,hE⟩: ∃E,(fchk vn cs).2=E:=⟨_,rfl⟩
  have HE:=Lib.hid hE
  rw[hfi,hE]at HRC
  clear hfi hE
  by_cases hE0:E≠0
  ·have HNB:=Lib.hid (new_bad (n:=vn) W3 HCIN.out (fun c hc=>by have:=HCL.out c hc;omega) HE.out hE0)
   have q0:((E:Int) != 0)=true:=bne_iff_ne.2 (by omega)
   have q1:((E:Int)==(E:Int))=true:=beq_self_eq_true _
   go_wp2_with fail
   refine HNB.out.mono ?_
   rintro e w4 ⟨rfl,hb4⟩
   have HB4:=Lib.hid hb4
   have e0:=(hb4.cell (p:=⟨w2.heap.size,0,none⟩) (heap_lt HX3.out)).trans (mx_cell (j:=0) HX3.out)
   have e1:=(hb4.cell (p:=⟨w2.heap.size,1,none⟩) (heap_lt HX3.out)).trans (mx_cell (j:=1) HX3.out)
   clear hb4 d0 d1
   go_wp2_with fail
   refine(HRC.out w4 HB4.out).mono ?_
   rintro e w5 ⟨rfl,hb5⟩
   have HBF:=Lib.hid (HB1.out.trans ((HB5.out.trans ((HB2.out.trans ((HB4.out.trans (hb5.mono HB4.out.size)).mono HB2.out.size)).mono HB5.out.size)).mono HB1.out.size))
   clear hb5 e0 e1
   go_wp2_with fail
   go_ret
   exact⟨rfl,HBF.out⟩
  have hE0:E=0:=by omega
  subst hE0
  obtain⟨hf0,hcb⟩:=fchk_zero HE.out
  obtain⟨k0,hk0⟩: ∃k0,ckrNew cs=k0:=⟨_,rfl⟩
  have HK0:=Lib.hid hk0
  have HOK0:=Lib.hid (show k0.Ok 1000 from by rw[←hk0];exact ckrNew_ok hcb (by have:=HN.out;omega))
  have HCB:=Lib.hid hcb
  have HNEW:=Lib.hid (ck_new vn (.slice Ao n co) cs W3 HCIN.out hcb (by have:=HN.out;omega) hf0)
  rw[hk0]at HNEW
  clear hf0 hcb hk0
  go_wp2_with fail
  refine HNEW.out.mono ?_
  rintro e w4 ⟨b,rfl,hck,hb4⟩
  have HCK4:=Lib.hid hck
  have HB4:=Lib.hid hb4
  have e0:=(hb4.cell (p:=⟨w2.heap.size,0,none⟩) (heap_lt HX3.out)).trans (mx_cell (j:=0) HX3.out)
  have e1:=(hb4.cell (p:=⟨w2.heap.size,1,none⟩) (heap_lt HX3.out)).trans (mx_cell (j:=1) HX3.out)
  clear hck hb4 d0 d1 HNEW
  go_wp2_with fail
  refine(HRC.out w4 HB4.out).mono ?_
  rintro e w5 ⟨rfl,hb5⟩
  have HB45:=Lib.hid (HB4.out.trans (hb5.mono HB4.out.size))
  have HCK5:=Lib.hid (HCK4.out.below hb5)
  have hb15:=HB5.out.trans (HB2.out.mono HB5.out.size)
  have HSL:=Lib.hid (same_lists (.slice Ao n co) (.slice Af n cf) cs w5 (HCIN.out.below HB45.out) (HC1.out.below (hb15.trans (HB45.out.mono hb15.size))) (by have:=HN.out;omega) (fun c hc=>by have:=HCL.out c hc;omega))
  have g1:=(HB45.out.cell (p:=⟨p5,1,none⟩) (heap_lt HX53.out)).trans (mx_cell (j:=1) HX53.out)
  have g2:=((hb15.trans (HB45.out.mono hb15.size)).cell (p:=⟨w.heap.size,1,none⟩) hlt1).trans (mx_cell (j:=1) HX1.out)
  clear hb5 e0 e1 hb15
  have hbc5:=HB2.out.trans (HB45.out.mono (by have:=HB2.out.size;exact this))
  go_wp2_with fail
  refine HSL.out.mono ?_
  rintro e w6 ⟨rfl,hb6⟩
  have HB36:=Lib.hid (HB45.out.trans (hb6.mono HB45.out.size))
  have HBC6:=Lib.hid (hbc5.trans (hb6.mono hbc5.size))
  have HCK6:=Lib.hid (HCK5.out.below hb6)
  have g1:=(hb6.cell (p:=⟨p5,1,none⟩) (Nat.lt_of_lt_of_le hlt5 hbc5.size)).trans g1
  clear g2 hb6 hbc5 HSL HRC HCK4 HCK5
  obtain⟨us,q1,q2⟩:=HCO.out
  have HQ1:=Lib.hid (own_below q1 HBC6.out)
  have HQ2:=Lib.hid q2
  have HWR:=Lib.hid (show WriC w6 us cs from fun i xs u hi hu g hg=>by
   obtain⟨u',h1,h2⟩:=q2 i xs hi
   rw[hu]at h1
   obtain rfl:=Option.some.inj h1
   exact wriL_own (own_below h2 HBC6.out) hg)
  clear q1 q2
  rw[HN.out]at HQ1
  go_wp2_with fail
  clear g1
  go_loopw [74] (fun iv wr=> ∃i:Nat,i≤n∧iv= .int .i64 i∧Hid (Kept (fun g=>W1.heap.size≤g∧g<wc.heap.size∧∃c,w6.heap[g]? =some (.cells c 55 (0,0))) w6 wr)∧Hid (WriC wr us cs)) (fun iv _=>n-(intOf iv).toNat)
  case atStart=>exact⟨0,Nat.zero_le _,rfl,Lib.hid (Kept.refl _ _),HWR⟩
  case round=>
   obtain⟨i,hi,rfl,HKM,HWC⟩:=hrel
   by_cases hin:i<n
   ·obtain⟨x,hx⟩:=getElem_of (show i<cs.length by rw[HN.out];exact hin)
    obtain⟨ui,hui,hoi⟩:=HQ2.out i x hx
    have hq:decide ((i:Int)<(n:Int))=true:=decide_eq_true (by omega)
    obtain⟨g0,cc0,cs0,hv0,_,_,hg0,hbl0,_⟩:=mx_some HQ1.out (by omega)
    simp only[Value.slice.injEq]at hv0
    obtain⟨rfl,-,rfl⟩:=hv0
    have d2:=(HKM.out.cell (p:=⟨g0,i,none⟩) hg0 (by
     rintro ⟨_,_,c,hc⟩
     obtain⟨c9,h9⟩:=own_type HQ1.out g0 rfl
     rw[h9]at hc
     simp only[Option.some.injEq,Obj.cells.injEq]at hc
     exact absurd hc.2.1 (by decide))).trans (mx_at HQ1.out hui)
    obtain⟨Ai,ci,rfl,hci⟩:=mx_slice hoi
    have HOI:=Lib.hid hoi
    have HXI:=Lib.hid hx
    have HUI:=Lib.hid hui
    have hxl:=HCL.out x (List.mem_of_getElem? hx)
    clear hx hui hoi hbl0
    obtain⟨wo,rfl⟩: ∃wo:World,wo=wr:=⟨_,rfl⟩
    go_wp2_with fail
    clear d2
    go_loopw [80] (fun kv wr=> ∃k:Nat,k≤x.length∧kv= .int .i64 k∧Hid (Kept (fun g=>W1.heap.size≤g∧g<wc.heap.size∧∃c,w6.heap[g]? =some (.cells c 55 (0,0))) w6 wr)∧Hid (WriC wr us cs)) (fun kv _=>x.length-(intOf kv).toNat)
    case atStart=>exact⟨0,Nat.zero_le _,rfl,HKM,HWC⟩
    case round=>
     obtain⟨k,hk,rfl,HKM2,HWC2⟩:=hrel
     by_cases hkl:k<x.length
     ·have hkd:decide ((k:Int)<(x.length:Int))=true:=decide_eq_true (by omega)
      have hkd':(k:Int)<(x.length:Int):=by omega
      obtain⟨gi,cci,csi,hvi,_,hgi0,hgi1,_⟩:=mx_some HOI.out (by omega)
      simp only[Value.slice.injEq]at hvi
      obtain⟨rfl,-,rfl⟩:=hvi
      obtain⟨⟨vv,z0⟩,f0⟩:=(HWC2.out i x _ HXI.out HUI.out gi rfl).cell hkl
      obtain⟨cty,hty⟩:=own_type (own_below HOI.out HBC6.out) gi rfl
      have HKN:=Lib.hid (HKM2.out.setCell ⟨gi,k,none⟩ (.int .i64 99) ⟨hgi0,hgi1,cty,hty⟩)
      have HWN:=Lib.hid (HWC2.out.set gi k (.int .i64 99))
      clear hty
      go_wp2_with fail
      go_roundw
      case rel=>exact⟨k+1,by omega,by go_num,HKN,HWN⟩
      case measure=>simp[intOf];omega
     ·obtain rfl:k=x.length:=by omega
      have hkd:decide ((x.length:Int)<(x.length:Int))=false:=decide_eq_false (by omega)
      go_wp2_with fail
      go_roundw
      case rel=>exact⟨i+1,by omega,by go_num,HKM2,HWC2⟩
      case measure=>simp[intOf];omega
   ·obtain rfl:i=n:=by omega
    obtain⟨w7,rfl⟩: ∃w7:World,w7=wr:=⟨_,rfl⟩
    have hz36:=HB36.out.size
    have hz67:=HKM.out.size
    have hwW3:w.heap.size≤W3.heap.size:=by have:=HB5.out.size;omega
    have hzc3:wc.heap.size≤w2.heap.size:=hz2
    have hX6:=(HB36.out.block _ (heap_lt HX3.out)).trans HX3.out
    have HX7:=Lib.hid ((HKM.out.block w2.heap.size (heap_lt hX6) (fun h=>by have:=h.2.1;omega)).trans hX6)
    have HXI7:=Lib.hid (show ClsIn (fun g=>wc.heap.size≤g∧g<W3.heap.size) w7 (.slice Ax i cx) cs from((ClsIn.ltO HXIN.out).below HB36.out).kept HKM.out (fun g hg h=>by have:=h.2.1;have:=hg.1;omega))
    have HCK7:=Lib.hid (show CkAt W3.heap.size w7 b k0 from by
     obtain⟨mb,K,hm⟩:=HCK6.out
     exact⟨mb,K,hm.kept HKM.out (fun g hg h=>by have:=h.2.1;omega)⟩)
    have HB7:=Lib.hid (show Below w.heap.size w w7 from HB1.out.trans (((HB5.out.trans (HBC6.out.mono HB5.out.size)).trans (HKM.out.below (fun g hg=>hg.1) (by have:=HB5.out.size;have:=HBC6.out.size;omega))).mono HB1.out.size))
    have hbb:W3.heap.size≤b∧b<w7.heap.size:=by
     obtain⟨mb,K,hm⟩:=HCK7.out
     exact⟨hm.bb,heap_lt hm.box⟩
    have HNW:=Lib.hid (ref_new vn (.slice Ax i cx) cs w7 HXI7.out (by have:=HN.out;omega) (fun c hc=>by have:=HCL.out c hc;omega))
    rw[HK0.out]at HNW
    unfold ckK ckV at HNW
    have e0:=mx_cell (j:=0) HX7.out
    have e1:=mx_cell (j:=1) HX7.out
    clear hX6 HKM HWC HCK6 HB36 HBC6 HQ1 HQ2 HWR HX3 HX5 HCO HCO3 HCIN HXIN HXO HX53
    go_wp2_with fail
    refine HNW.out.mono ?_
    rintro e w8 ⟨v8,rfl,hE8,hb8⟩
    obtain⟨A8,c8,rfl,_⟩:=id hE8
    obtain⟨W9,hW9,hb9,hx9,hz9⟩:=al_new w8 #[.slice A8 k0.ents.length c8,.int .i64 k0.last,.bool k0.proved,.int .i64 k0.adds,.int .i64 k0.dels,.int .i64 k0.rats,.int .i64 k0.largest] 68
    have hb79:=hb8.trans (hb9.mono hb8.size)
    have HE9:=Lib.hid (show EntIn (fun g=>g≠b∧g≠w8.heap.size) W9 (.slice A8 k0.ents.length c8) k0.ents from by
     refine((hE8.ltO).below hb9).mono fun g hg=>?_
     obtain⟨hg1,hg2⟩:=hg
     rcases hg1 with hg1|hg1
     ·have:=hg1.2
      have:=hb8.size
      omega
     ·omega)
    have HCK9:=Lib.hid (HCK7.out.below hb79)
    have HX9:=Lib.hid hx9
    have HB9:=Lib.hid (HB7.out.trans (hb79.mono HB7.out.size))
    have HT7:=Lib.hid (theirs_07 (.slice As ss.length cS) ss W9 (HST.out.below HB9.out) (by omega) (fun s hs=>by have:=HSS.out s hs;omega))
    have HW9:=Lib.hid hW9
    have hp14:b<w8.heap.size:=by have:=hb8.size;omega
    have hzw9:=HB9.out.size
    clear hE8 hb8 hb9 hx9 hW9 hb79 e0 e1 HNW HX7 HXI7 HCK7
    obtain⟨p14,hp14e⟩: ∃p,w8.heap.size=p:=⟨_,rfl⟩
    go_upto_region 19 with fail
    rw[HW9.out]
    rw[hp14e]at HE9 HX9 hp14 hz9
    go_wp2_with fail
    refine HT7.out.mono ?_
    rintro e w10 ⟨stv,KS,rfl,hst,hkst,hb10⟩
    have hsi:=hst.stepIn
    rw[hkst]at hsi
    have HS10:=Lib.hid (show StepIn (fun g=>g≠b∧g≠p14) w10 stv ss from hsi.mono fun g hg=>by omega)
    obtain⟨At,ct,rfl,hct,_⟩:=hsi
    have HCK10:=Lib.hid (HCK9.out.below hb10)
    have HE10:=Lib.hid (HE9.out.below hb10)
    have HX10:=Lib.hid ((hb10.block _ (heap_lt HX9.out)).trans HX9.out)
    have HB10:=Lib.hid (HB9.out.trans (hb10.mono HB9.out.size))
    clear hst hkst hb10 HT7 HCK9 HE9 HX9 HW9 HB9 HB7
    have HIS:=Lib.hid (is_10 b k0 (.slice A8 k0.ents.length c8) w10 HCK10.out HOK0.out (by decide) HE10.out)
    unfold ckK ckV at HIS
    have y0:=mx_cell (j:=0) HX10.out
    have y1:=mx_cell (j:=1) HX10.out
    have y2:=mx_cell (j:=2) HX10.out
    have y3:=mx_cell (j:=3) HX10.out
    have y4:=mx_cell (j:=4) HX10.out
    have y5:=mx_cell (j:=5) HX10.out
    have y6:=mx_cell (j:=6) HX10.out
    go_wp2_with fail
    refine HIS.out.mono ?_
    rintro e w11 ⟨rfl,hb11⟩
    have HCK11:=Lib.hid (HCK10.out.below hb11)
    have HE11:=Lib.hid (HE10.out.below hb11)
    have HS11:=Lib.hid (HS10.out.below hb11)
    have HX11:=Lib.hid ((hb11.block _ (heap_lt HX10.out)).trans HX10.out)
    have HB11:=Lib.hid (HB10.out.trans (hb11.mono HB10.out.size))
    clear hb11 HIS HCK10 HE10 HS10 HX10 HB10 y0 y1 y2 y3 y4 y5 y6
    go_wp2_with fail
    go_loopw [98] (fun iv wr=> ∃(j:Nat) (k:Ckr) (A:Option Addr) (c:Nat),j≤ss.length∧iv= .int .i64 j∧Hid (k.Ok (1000+j))∧Hid (CkAt W3.heap.size wr b k)∧Hid (wr.heap[p14]? =some (.cells #[.slice A k.ents.length c,.int .i64 k.last,.bool k.proved,.int .i64 k.adds,.int .i64 k.dels,.int .i64 k.rats,.int .i64 k.largest] 68 (0,0)))∧Hid (EntIn (fun g=>g≠b∧g≠p14) wr (.slice A k.ents.length c) k.ents)∧Hid (StepIn (fun g=>g≠b∧g≠p14) wr (.slice At ss.length ct) ss)∧Hid (Below w.heap.size w wr)) (fun iv _=>ss.length-(intOf iv).toNat)
    case atStart=>exact⟨0,k0,A8,c8,Nat.zero_le _,rfl,HOK0,HCK11,HX11,HE11,HS11,HB11⟩
    case round=>
     obtain⟨j,k,A,c,hj,rfl,HOK,HCK,HXR,HER,HSR,HBR⟩:=hrel
     clear HCK11 HX11 HE11 HS11 HB11
     by_cases hjs:j<ss.length
     ·have hjd:decide ((j:Int)<(ss.length:Int))=true:=decide_eq_true (by omega)
      have hjd':(j:Int)<(ss.length:Int):=by omega
      obtain⟨s,hs⟩:=getElem_of hjs
      obtain⟨hsl1,hsl2,hsr⟩:=HSS.out s (List.mem_of_getElem? hs)
      obtain⟨sd,si,sl,sh⟩:=s
      simp only at hsl1 hsl2 hsr
      have HSG:=Lib.hid hsr
      have HSJ:=Lib.hid hs
      obtain⟨A',c',hA',_,_,hx⟩:=HST.out
      simp only[Value.slice.injEq,true_and]at hA'
      obtain⟨rfl,rfl⟩:=hA'
      obtain⟨g,o,ul,uh,rfl,hg,_,d0,d1,d2,d3,hul,huh⟩:=hx j _ hs
      simp only at d0 d1 d2 d3 hul huh
      have d0:=(HBR.out.cell (p:=⟨g,o+j*4,none⟩) hg).trans d0
      have d1:=(HBR.out.cell (p:=⟨g,o+j*4+1,none⟩) hg).trans d1
      have d2:=(HBR.out.cell (p:=⟨g,o+j*4+2,none⟩) hg).trans d2
      have d3:=(HBR.out.cell (p:=⟨g,o+j*4+3,none⟩) hg).trans d3
      have hul:=hul.below HBR.out
      have huh:=huh.below HBR.out
      obtain⟨Al,cl,rfl,_⟩:=id hul
      obtain⟨Ah,ch,rfl,_⟩:=id huh
      obtain⟨Wa,hWa,hba,hxa,hza⟩:=al_new wr #[.bool sd,.int .i64 si,.slice Al sl.length cl,.slice Ah sh.length ch] 34
      have HCL1:=Lib.hid (fun(X:World) (hX:Below Wa.heap.size Wa X)=>clone_c (.slice Al sl.length cl) sl X ((hul.below hba).below hX) (by omega))
      have HCL2:=Lib.hid (fun(X:World) (hX:Below Wa.heap.size Wa X)=>clone_i (.slice Ah sh.length ch) sh X ((huh.below hba).below hX) (by omega))
      have HWa:=Lib.hid hWa
      have HXa:=Lib.hid hxa
      have HBa:=Lib.hid hba
      have hlta:=heap_lt hxa
      clear hs hx hul huh hWa hba hxa hsr
      go_upto_region 25 with fail
      rw[HWa.out]
      clear d0 d1 d2 d3
      go_cut [18] (fun p wx=> ∃(p18:Nat) (Bl:Option Addr) (bl:Nat) (Bh:Option Addr) (bh:Nat),p= .pointer (some ⟨p18,0,none⟩)∧Wa.heap.size≤p18∧Hid (wx.heap[p18]? =some (.cells #[.bool sd,.int .i64 si,.slice Bl sl.length bl,.slice Bh sh.length bh] 34 (0,0)))∧Hid (wx.ownsRow Wa.heap.size 55 1 (.slice Bl sl.length bl) sl.length (sl.map (Value.int .i64)))∧Hid (wx.ownsRow Wa.heap.size 3 1 (.slice Bh sh.length bh) sh.length (sh.map (Value.int .i64)))∧Hid (Below Wa.heap.size Wa wx))
      case first=>
       refine wp_region_sink_at (S:=fun X=>Below Wa.heap.size Wa X) (by kernel_rfl) rfl (by kernel_rfl) (mx_drew Wa) (fun hS=>?_)
       obtain⟨xD,hxD⟩: ∃z,Wa.drew=z:=⟨_,rfl⟩
       rw[hxD]at hS⊢
       clear hxD
       refine takeE 0 103 ?_
       refine takeF 1 104 (fun wq hSw=>(hSw.cell (p:=⟨wr.heap.size,0,none⟩) hlta).trans (mx_cell (j:=0) HXa.out)) ?_
       refine takeE 2 105 ?_
       refine takeF 3 106 (fun wq hSw=>(hSw.cell (p:=⟨wr.heap.size,1,none⟩) hlta).trans (mx_cell (j:=1) HXa.out)) ?_
       refine takeE 4 107 ?_
       refine takeF 5 108 (fun wq hSw=>(hSw.cell (p:=⟨wr.heap.size,2,none⟩) hlta).trans (mx_cell (j:=2) HXa.out)) ?_
       refine takeE 7 110 ?_
       refine takeF 8 111 (fun wq hSw=>(hSw.cell (p:=⟨wr.heap.size,3,none⟩) hlta).trans (mx_cell (j:=3) HXa.out)) ?_
       refine wpAnyH_ready (rs:= [6,11]) (by kernel_rfl) (by simp) (AllReadyH.cons rfl (fun KK hKK=>?_) (AllReadyH.cons rfl (fun KK hKK=>?_) AllReadyH.nil))
       ·go_simp
        refine(HCL1.out _ hS).mono ?_
        rintro e zw1 ⟨vl,rfl,hol,hbn⟩
        obtain⟨Bl,bl,rfl,_⟩:=mx_slice hol
        have hS1:=hS.trans (hbn.mono hS.size)
        have hol:=own_mono hol hS.size
        refine hKK.out _ _ hS1 (fun _=>?_)
        clear hKK hbn
        refine wpAnyH_ready (rs:= [9,11]) (by kernel_rfl) (by simp) (AllReadyH.cons rfl (fun KK hKK=>?_) (AllReadyH.cons rfl (fun KK hKK=>?_) AllReadyH.nil))
        ·go_simp
         refine(HCL2.out _ hS1).mono ?_
         rintro e zw2 ⟨vh,rfl,hoh,hbn⟩
         obtain⟨Bh,bh,rfl,_⟩:=mx_slice hoh
         have hS2:=hS1.trans (hbn.mono hS1.size)
         have hoh:=own_mono hoh hS1.size
         have hol:=own_below hol hbn
         refine hKK.out _ _ hS2 (fun _=>?_)
         clear hKK hbn
         refine takeE 10 113 ?_
         refine ready1 11 (fun KK hKK=>?_)
         go_simp
         obtain⟨zw3,hwa,hbn,hxf,-⟩:=al_new zw2 #[.bool false,.int .i64 0,.slice none 0 0,.slice none 0 0] 34
         rw[hwa]
         have hS3:=hS2.trans (hbn.mono hS2.size)
         have hpf:Wa.heap.size≤zw2.heap.size:=hS2.size
         have hol:=own_below hol hbn
         have hoh:=own_below hoh hbn
         refine hKK.out _ _ hS3 (fun _=>?_)
         clear hKK hbn hwa
         have hSf:=hS3
         refine wpAnyH_done (by kernel_rfl) ?_ _
         refine lastPost_normal ?_
         have y0:=mx_cell (j:=0) hxf
         have y1:=mx_cell (j:=1) hxf
         have y2:=mx_cell (j:=2) hxf
         have y3:=mx_cell (j:=3) hxf
         have f0:=free_of5 (j:=0) hxf
         have f1:=free_of5 (j:=1) hxf
         have f2:=free_of5 (j:=2) hxf
         have f3:=free_of5 (j:=3) hxf
         refine wpOp_step rfl (fun K hK=>?_)
         go_simp
         refine hK _ _ ?_
         clear hK
         obtain⟨WF,hWF,hrF,hkF⟩:=four_setR hxf (.bool sd) (.int .i64 si) (.slice Bl sl.length bl) (.slice Bh sh.length bh)
         have holF:=own_kept hol hkF (fun g hg e=>mx_not hol hxf (by decide) (by rw[←e];exact hg))
         have hohF:=own_kept hoh hkF (fun g hg e=>mx_not hoh hxf (by decide) (by rw[←e];exact hg))
         have hbF:=hSf.trans (hkF.below (fun g e=>by rw[e];exact hpf) hSf.size)
         rw[hWF]
         clear y0 y1 y2 y3 f0 f1 f2 f3 hWF
         go_wp2_with fail
         go_meet
         exact⟨_,Bl,bl,Bh,bh,rfl,hpf,Lib.hid hrF,Lib.hid holF,Lib.hid hohF,Lib.hid hbF⟩
        ·go_simp
         obtain⟨zw2,hwa,hbn,hxf,-⟩:=al_new zw1 #[.bool false,.int .i64 0,.slice none 0 0,.slice none 0 0] 34
         rw[hwa]
         have hS2:=hS1.trans (hbn.mono hS1.size)
         have hpf:Wa.heap.size≤zw1.heap.size:=hS1.size
         have hol:=own_below hol hbn
         refine hKK.out _ _ hS2 (fun _=>?_)
         clear hKK hbn hwa
         refine ready1 9 (fun KK hKK=>?_)
         go_simp
         refine(HCL2.out _ hS2).mono ?_
         rintro e zw3 ⟨vh,rfl,hoh,hbn⟩
         obtain⟨Bh,bh,rfl,_⟩:=mx_slice hoh
         have hS3:=hS2.trans (hbn.mono hS2.size)
         have hoh:=own_mono hoh hS2.size
         have hol:=own_below hol hbn
         have hxf:=(hbn.block _ (heap_lt hxf)).trans hxf
         refine hKK.out _ _ hS3 (fun _=>?_)
         clear hKK hbn
         refine takeE 10 113 ?_
         have hSf:=hS3
         refine wpAnyH_done (by kernel_rfl) ?_ _
         refine lastPost_normal ?_
         have y0:=mx_cell (j:=0) hxf
         have y1:=mx_cell (j:=1) hxf
         have y2:=mx_cell (j:=2) hxf
         have y3:=mx_cell (j:=3) hxf
         have f0:=free_of5 (j:=0) hxf
         have f1:=free_of5 (j:=1) hxf
         have f2:=free_of5 (j:=2) hxf
         have f3:=free_of5 (j:=3) hxf
         refine wpOp_step rfl (fun K hK=>?_)
         go_simp
         refine hK _ _ ?_
         clear hK
         obtain⟨WF,hWF,hrF,hkF⟩:=four_setR hxf (.bool sd) (.int .i64 si) (.slice Bl sl.length bl) (.slice Bh sh.length bh)
         have holF:=own_kept hol hkF (fun g hg e=>mx_not hol hxf (by decide) (by rw[←e];exact hg))
         have hohF:=own_kept hoh hkF (fun g hg e=>mx_not hoh hxf (by decide) (by rw[←e];exact hg))
         have hbF:=hSf.trans (hkF.below (fun g e=>by rw[e];exact hpf) hSf.size)
         rw[hWF]
         clear y0 y1 y2 y3 f0 f1 f2 f3 hWF
         go_wp2_with fail
         go_meet
         exact⟨_,Bl,bl,Bh,bh,rfl,hpf,Lib.hid hrF,Lib.hid holF,Lib.hid hohF,Lib.hid hbF⟩
       ·go_simp
        obtain⟨zw1,hwa,hbn,hxf,-⟩:=al_new xD #[.bool false,.int .i64 0,.slice none 0 0,.slice none 0 0] 34
        rw[hwa]
        have hS1:=hS.trans (hbn.mono hS.size)
        have hpf:Wa.heap.size≤xD.heap.size:=hS.size
        refine hKK.out _ _ hS1 (fun _=>?_)
        clear hKK hbn hwa
        refine ready1 6 (fun KK hKK=>?_)
        go_simp
        refine(HCL1.out _ hS1).mono ?_
        rintro e zw2 ⟨vl,rfl,hol,hbn⟩
        obtain⟨Bl,bl,rfl,_⟩:=mx_slice hol
        have hS2:=hS1.trans (hbn.mono hS1.size)
        have hol:=own_mono hol hS1.size
        have hxf:=(hbn.block _ (heap_lt hxf)).trans hxf
        refine hKK.out _ _ hS2 (fun _=>?_)
        clear hKK hbn
        refine ready1 9 (fun KK hKK=>?_)
        go_simp
        refine(HCL2.out _ hS2).mono ?_
        rintro e zw3 ⟨vh,rfl,hoh,hbn⟩
        obtain⟨Bh,bh,rfl,_⟩:=mx_slice hoh
        have hS3:=hS2.trans (hbn.mono hS2.size)
        have hoh:=own_mono hoh hS2.size
        have hol:=own_below hol hbn
        have hxf:=(hbn.block _ (heap_lt hxf)).trans hxf
        refine hKK.out _ _ hS3 (fun _=>?_)
        clear hKK hbn
        refine takeE 10 113 ?_
        have hSf:=hS3
        refine wpAnyH_done (by kernel_rfl) ?_ _
        refine lastPost_normal ?_
        have y0:=mx_cell (j:=0) hxf
        have y1:=mx_cell (j:=1) hxf
        have y2:=mx_cell (j:=2) hxf
        have y3:=mx_cell (j:=3) hxf
        have f0:=free_of5 (j:=0) hxf
        have f1:=free_of5 (j:=1) hxf
        have f2:=free_of5 (j:=2) hxf
        have f3:=free_of5 (j:=3) hxf
        refine wpOp_step rfl (fun K hK=>?_)
        go_simp
        refine hK _ _ ?_
        clear hK
        obtain⟨WF,hWF,hrF,hkF⟩:=four_setR hxf (.bool sd) (.int .i64 si) (.slice Bl sl.length bl) (.slice Bh sh.length bh)
        have holF:=own_kept hol hkF (fun g hg e=>mx_not hol hxf (by decide) (by rw[←e];exact hg))
        have hohF:=own_kept hoh hkF (fun g hg e=>mx_not hoh hxf (by decide) (by rw[←e];exact hg))
        have hbF:=hSf.trans (hkF.below (fun g e=>by rw[e];exact hpf) hSf.size)
        rw[hWF]
        clear y0 y1 y2 y3 f0 f1 f2 f3 hWF
        go_wp2_with fail
        go_meet
        exact⟨_,Bl,bl,Bh,bh,rfl,hpf,Lib.hid hrF,Lib.hid holF,Lib.hid hohF,Lib.hid hbF⟩
      case rest=>
       obtain⟨p18,Bl,bl,Bh,bh,rfl,hp18,HX18,HOL,HOH,HBW⟩:=hcut
       obtain⟨w12,rfl⟩: ∃x:World,x=wc:=⟨_,rfl⟩
       have hbr12:=HBa.out.trans (HBW.out.mono HBa.out.size)
       have hzr12:=hbr12.size
       have hbWr:W3.heap.size≤wr.heap.size:=by
        obtain⟨mb,K,hm⟩:=HCK.out
        have:=hm.bb
        have:=heap_lt hm.box
        omega
       have hpb:b<wr.heap.size∧p14<wr.heap.size:=by
        obtain⟨mb,K,hm⟩:=HCK.out
        exact⟨heap_lt hm.box,heap_lt HXR.out⟩
       have hza:=HBa.out.size
       have hckx:CkAtX (fun g=>wr.heap.size≤g∧g<w12.heap.size) W3.heap.size w12 b k:=(CkAt.fresh HCK.out (fun g h=>h.1)).below hbr12
       have hdo:=ck_do_all (N:=1000+j) b k ⟨sd,si,sl,sh⟩ (.slice Bl sl.length bl) (.slice Bh sh.length bh) w12 hckx (by omega) HOK.out (by omega) (IntsIn.of_own HOL.out) (IntsIn.of_own HOH.out) (by simp only;omega) (by simp only;omega) (fun g h=>h.2)
       have hDO2:=do_ok (s:=⟨sd,si,sl,sh⟩) HOK.out
       have HRD:=Lib.hid (fun(O1:Nat→Prop) (X:World) (ev lv hv:Value) (h1:EntIn O1 X ev k.ents) (h2:IntsIn O1 X lv sl) (h3:IntsIn O1 X hv sh)=>ref_do ev k lv hv ⟨sd,si,sl,sh⟩ X h1 h2 h3 HOK.out (by omega) (by simp only;omega) (by simp only;omega) HSG.out)
       unfold ckK ckV at HRD
       have hkind:=do_kind k ⟨sd,si,sl,sh⟩
       obtain⟨zk,hzk⟩: ∃zk,(k.do_ ⟨sd,si,sl,sh⟩).2.1=zk:=⟨_,rfl⟩
       obtain⟨zi,hzi⟩: ∃zi,(k.do_ ⟨sd,si,sl,sh⟩).2.2.1=zi:=⟨_,rfl⟩
       obtain⟨ze,hze⟩: ∃ze,(k.do_ ⟨sd,si,sl,sh⟩).2.2.2=ze:=⟨_,rfl⟩
       obtain⟨k2,hk2⟩: ∃k2,(k.do_ ⟨sd,si,sl,sh⟩).1=k2:=⟨_,rfl⟩
       rw[hzk,hzi,hze,hk2]at hdo HRD
       rw[hk2]at hDO2
       rw[hzk]at hkind
       have HDO:=Lib.hid hdo
       have HOK2:=Lib.hid (show k2.Ok (1000+(j+1))from hDO2)
       have wzk:IntKind.i64.wrap (zk:Int)=(zk:Int):=IntWalk.i64_in _ (by omega)
       clear hdo hDO2 hzk hzi hze hk2 hckx
       have t0:=mx_cell (j:=0) HX18.out
       have t1:=mx_cell (j:=1) HX18.out
       have t2:=mx_cell (j:=2) HX18.out
       have t3:=mx_cell (j:=3) HX18.out
       go_wp2_with fail
       refine HDO.out.mono ?_
       rintro e w13 ⟨rfl,hck13,hb13,hf13⟩
       have HCK13:=Lib.hid hck13
       have HF13:=Lib.hid hf13
       have hX13:=hf13.block ((hbr12.block _ hpb.2).trans HXR.out) (by omega)
       have HX13:=Lib.hid hX13
       have HE13:=Lib.hid ((HER.out.ltO.below hbr12).ckf hf13 (fun g h=>h.1.1))
       have HS13:=Lib.hid ((HSR.out.lt.below hbr12).ckf hf13 (fun g h=>h.1.1))
       have HX183:=Lib.hid (hf13.block HX18.out (by omega))
       have HL13:=Lib.hid (((IntsIn.of_own HOL.out).mono (O':=fun g=>g≠b) (fun g h=>by have:=h.1;omega)).ckf2 hf13 (fun _ h=>h))
       have HH13:=Lib.hid (((IntsIn.of_own HOH.out).mono (O':=fun g=>g≠b) (fun g h=>by have:=h.1;omega)).ckf2 hf13 (fun _ h=>h))
       have HB13:=Lib.hid ((HBR.out.trans (hbr12.mono HBR.out.size)).trans (hb13.mono hwW3))
       have hz1213:=hf13.size
       obtain⟨A',c',hA',_,_,hx⟩:=HS13.out
       simp only[Value.slice.injEq,true_and]at hA'
       obtain⟨rfl,rfl⟩:=hA'
       obtain⟨gs,os,el,eh,rfl,hgs,_,e0,e1,e2,e3,hel,heh⟩:=hx j _ HSJ.out
       simp only at e0 e1 e2 e3 hel heh
       have HEL:=Lib.hid hel
       have HEH:=Lib.hid heh
       obtain⟨El,ek,rfl,_⟩:=hel
       obtain⟨Eh,em,rfl,_⟩:=heh
       have hlt14:p14<w13.heap.size:=by omega
       clear t0 t1 t2 t3 hck13 hb13 hf13 hx hX13 hbr12 HDO
       go_upto_region 27 with fail
       go_cut [22,23,24,25] (fun p a c d wx=> ∃(p22:Nat) (A2:Option Addr) (c2:Nat),p= .pointer (some ⟨p22,0,none⟩)∧a= .int .i64 (zk:Nat)∧c= .int .i64 zi∧d= .int .i64 (ze:Nat)∧w13.heap.size≤p22∧Hid (wx.heap[p22]? =some (.cells #[.slice A2 k2.ents.length c2,.int .i64 k2.last,.bool k2.proved,.int .i64 k2.adds,.int .i64 k2.dels,.int .i64 k2.rats,.int .i64 k2.largest] 68 (0,0)))∧Hid (EntIn (fun g=>(g≠b∧g≠p14)∧(g<wr.heap.size∨w13.heap.size≤g)) wx (.slice A2 k2.ents.length c2) k2.ents)∧Hid (Below w13.heap.size w13 wx))
       case first=>
        refine wp_region_held_drew (S:=fun X=>Below w13.heap.size w13 X) (by kernel_rfl) (mx_drew w13) (fun hS=>?_)
        obtain⟨xD,hxD⟩: ∃z,w13.drew=z:=⟨_,rfl⟩
        rw[hxD]at hS⊢
        clear hxD
        refine takeF 0 122 (fun wq hSw=>And.intro (mx_cell (j:=0) ((hSw.block _ hlt14).trans HX13.out)) (And.intro (mx_cell (j:=1) ((hSw.block _ hlt14).trans HX13.out)) (And.intro (mx_cell (j:=2) ((hSw.block _ hlt14).trans HX13.out)) (And.intro (mx_cell (j:=3) ((hSw.block _ hlt14).trans HX13.out)) (And.intro (mx_cell (j:=4) ((hSw.block _ hlt14).trans HX13.out)) (And.intro (mx_cell (j:=5) ((hSw.block _ hlt14).trans HX13.out)) (mx_cell (j:=6) ((hSw.block _ hlt14).trans HX13.out)))))))) ?_
        refine takeE 1 123 ?_
        refine takeE 2 124 ?_
        refine takeE 3 125 ?_
        refine takeF 4 126 (fun wq hSw=>And.intro ((hSw.cell (p:=⟨gs,os+j*4,none⟩) hgs).trans e0) (And.intro ((hSw.cell (p:=⟨gs,os+j*4+1,none⟩) hgs).trans e1) (And.intro ((hSw.cell (p:=⟨gs,os+j*4+2,none⟩) hgs).trans e2) ((hSw.cell (p:=⟨gs,os+j*4+3,none⟩) hgs).trans e3)))) ?_
        refine wpAnyH_ready (rs:= [5,11]) (by kernel_rfl) (by simp) (AllReadyH.cons rfl (fun KK hKK=>?_) (AllReadyH.cons rfl (fun KK hKK=>?_) AllReadyH.nil))
        ·go_simp
         refine(HRD.out (fun g=>(g≠b∧g≠p14)∧g<wr.heap.size) xD _ _ _ (HE13.out.below hS) (HEL.out.below hS) (HEH.out.below hS)).mono ?_
         rintro e zw1 ⟨v2,rfl,he2,hbn⟩
         obtain⟨A2,c2,rfl,_⟩:=id he2
         have hS1:=hS.trans (hbn.mono hS.size)
         have hsz1:=hbn.size
         have hsw0:=hS.size
         refine hKK.out _ _ hS1 (fun _=>?_)
         clear hKK hbn
         refine takeE 6 121 ?_
         refine takeE 7 128 ?_
         refine takeE 8 129 ?_
         refine takeE 9 130 ?_
         refine takeE 10 131 ?_
         refine ready1 11 (fun KK hKK=>?_)
         go_simp
         obtain⟨zw2,hwa,hbn,hxf,hzn⟩:=al_new zw1 #[.slice none 0 0,.int .i64 0,.bool false,.int .i64 0,.int .i64 0,.int .i64 0,.int .i64 0] 68
         rw[hwa]
         have hS2:=hS1.trans (hbn.mono hS1.size)
         have hpf:w13.heap.size≤zw1.heap.size:=hS1.size
         have he2:=he2.ltO.below hbn
         refine hKK.out _ _ hS2 (fun _=>?_)
         clear hKK hbn hwa
         obtain⟨p22,hp22⟩: ∃p,zw1.heap.size=p:=⟨_,rfl⟩
         rw[hp22]at hxf hpf⊢
         have hEf:EntIn (fun g=>((g≠b∧g≠p14)∧(g<wr.heap.size∨w13.heap.size≤g))∧g≠p22) zw2 (.slice A2 k2.ents.length c2) k2.ents:=he2.mono fun g hg=>by
          obtain⟨hg1,hg2⟩:=hg
          rcases hg1 with hg1|hg1 <;> omega
         have HXF:=Lib.hid hxf
         have y0:=mx_cell (j:=0) hxf
         have y1:=mx_cell (j:=1) hxf
         have y2:=mx_cell (j:=2) hxf
         have y3:=mx_cell (j:=3) hxf
         have y4:=mx_cell (j:=4) hxf
         have y5:=mx_cell (j:=5) hxf
         have y6:=mx_cell (j:=6) hxf
         have f0:=oj_free (j:=0) hxf
         have f1:=oj_free (j:=1) hxf
         have f2:=oj_free (j:=2) hxf
         have f3:=oj_free (j:=3) hxf
         have f4:=oj_free (j:=4) hxf
         have f5:=oj_free (j:=5) hxf
         have f6:=oj_free (j:=6) hxf
         refine ready1 12 (fun KK hKK=>?_)
         go_simp
         obtain⟨WF,hWF,hrF,hbF,hkF⟩:=set7_all HXF.out (.slice A2 k2.ents.length c2) (.int .i64 k2.last) (.bool k2.proved) (.int .i64 k2.adds) (.int .i64 k2.dels) (.int .i64 k2.rats) (.int .i64 k2.largest)
         rw[hWF]
         have hSF:Below w13.heap.size w13 WF:=hS2.trans (hkF.below (fun g e=>by rw[e];exact hpf) hS2.size)
         refine hKK.out _ _ hSF (fun _=>?_)
         clear hKK hWF
         clear y0 y1 y2 y3 y4 y5 y6 f0 f1 f2 f3 f4 f5 f6
         have hEF:=(hEf.kept hkF (fun g hg e=>hg.2 e)).mono (O':=fun g=>(g≠b∧g≠p14)∧(g<wr.heap.size∨w13.heap.size≤g)) (fun g hg=>hg.1)
         refine takeE 13 23 ?_
         refine takeE 14 24 ?_
         refine takeE 15 25 ?_
         refine wpAnyH_done (by kernel_rfl) ?_ _
         go_wp2_with fail
         go_meet
         exact⟨p22,A2,c2,rfl,rfl,rfl,rfl,hpf,Lib.hid hrF,Lib.hid hEF,Lib.hid hSF⟩
        ·go_simp
         obtain⟨zw1,hwa,hbn,hxf,hzn⟩:=al_new xD #[.slice none 0 0,.int .i64 0,.bool false,.int .i64 0,.int .i64 0,.int .i64 0,.int .i64 0] 68
         rw[hwa]
         have hS1:=hS.trans (hbn.mono hS.size)
         have hpf:w13.heap.size≤xD.heap.size:=hS.size
         refine hKK.out _ _ hS1 (fun _=>?_)
         clear hKK hbn hwa
         obtain⟨p22,hp22⟩: ∃p,xD.heap.size=p:=⟨_,rfl⟩
         rw[hp22]at hxf hpf⊢
         refine ready1 5 (fun KK hKK=>?_)
         go_simp
         refine(HRD.out (fun g=>(g≠b∧g≠p14)∧g<wr.heap.size) zw1 _ _ _ (HE13.out.below hS1) (HEL.out.below hS1) (HEH.out.below hS1)).mono ?_
         rintro e zw2 ⟨v2,rfl,he2,hbn⟩
         obtain⟨A2,c2,rfl,_⟩:=id he2
         have hS2:=hS1.trans (hbn.mono hS1.size)
         have hsz2:=hbn.size
         have hsw1:=hS1.size
         have hxf:=(hbn.block _ (heap_lt hxf)).trans hxf
         refine hKK.out _ _ hS2 (fun _=>?_)
         clear hKK hbn
         refine takeE 6 121 ?_
         refine takeE 7 128 ?_
         refine takeE 8 129 ?_
         refine takeE 9 130 ?_
         refine takeE 10 131 ?_
         have hEf:EntIn (fun g=>((g≠b∧g≠p14)∧(g<wr.heap.size∨w13.heap.size≤g))∧g≠p22) zw2 (.slice A2 k2.ents.length c2) k2.ents:=he2.mono fun g hg=>by
          rcases hg with hg|hg <;> omega
         have HXF:=Lib.hid hxf
         have y0:=mx_cell (j:=0) hxf
         have y1:=mx_cell (j:=1) hxf
         have y2:=mx_cell (j:=2) hxf
         have y3:=mx_cell (j:=3) hxf
         have y4:=mx_cell (j:=4) hxf
         have y5:=mx_cell (j:=5) hxf
         have y6:=mx_cell (j:=6) hxf
         have f0:=oj_free (j:=0) hxf
         have f1:=oj_free (j:=1) hxf
         have f2:=oj_free (j:=2) hxf
         have f3:=oj_free (j:=3) hxf
         have f4:=oj_free (j:=4) hxf
         have f5:=oj_free (j:=5) hxf
         have f6:=oj_free (j:=6) hxf
         refine ready1 12 (fun KK hKK=>?_)
         go_simp
         obtain⟨WF,hWF,hrF,hbF,hkF⟩:=set7_all HXF.out (.slice A2 k2.ents.length c2) (.int .i64 k2.last) (.bool k2.proved) (.int .i64 k2.adds) (.int .i64 k2.dels) (.int .i64 k2.rats) (.int .i64 k2.largest)
         rw[hWF]
         have hSF:Below w13.heap.size w13 WF:=hS2.trans (hkF.below (fun g e=>by rw[e];exact hpf) hS2.size)
         refine hKK.out _ _ hSF (fun _=>?_)
         clear hKK hWF
         clear y0 y1 y2 y3 y4 y5 y6 f0 f1 f2 f3 f4 f5 f6
         have hEF:=(hEf.kept hkF (fun g hg e=>hg.2 e)).mono (O':=fun g=>(g≠b∧g≠p14)∧(g<wr.heap.size∨w13.heap.size≤g)) (fun g hg=>hg.1)
         refine takeE 13 23 ?_
         refine takeE 14 24 ?_
         refine takeE 15 25 ?_
         refine wpAnyH_done (by kernel_rfl) ?_ _
         go_wp2_with fail
         go_meet
         exact⟨p22,A2,c2,rfl,rfl,rfl,rfl,hpf,Lib.hid hrF,Lib.hid hEF,Lib.hid hSF⟩
       case rest=>
        obtain⟨p22,A2,c2,rfl,rfl,rfl,rfl,hp22,HX22,HE22,HB22⟩:=hcut
        obtain⟨w14,rfl⟩: ∃x:World,x=wc:=⟨_,rfl⟩
        have hz14:=HB22.out.size
        have HCK14:=Lib.hid (HCK13.out.below HB22.out)
        have HX14:=Lib.hid ((HB22.out.block _ hlt14).trans HX13.out)
        have HS14:=Lib.hid (HS13.out.below HB22.out)
        have HX184:=Lib.hid ((HB22.out.block _ (heap_lt HX183.out)).trans HX183.out)
        have HL14:=Lib.hid (HL13.out.below HB22.out)
        have HH14:=Lib.hid (HH13.out.below HB22.out)
        have HB14:=Lib.hid (HB13.out.trans (HB22.out.mono HB13.out.size))
        have hlt18:=heap_lt HX184.out
        have qk:((zk:Int) != (zk:Int))=false:=by simp
        have qi:(zi != zi)=false:=by simp
        have qe:((ze:Int) != (ze:Int))=false:=by simp
        have wj1:IntKind.i64.wrap ((j:Int)+1)=(j:Int)+1:=IntWalk.i64_in _ (by omega)
        have hjc:(j:Int)+1≤(ct:Int):=by omega
        have hj0:(0:Int)≤(j:Int):=by omega
        clear e0 e1 e2 e3
        go_upto_region 28 with fail
        refine wp_region_held_drew (S:=fun X=>Below w14.heap.size w14 X) (by kernel_rfl) (mx_drew w14) (fun hS=>?_)
        obtain⟨xD,hxD⟩: ∃z,w14.drew=z:=⟨_,rfl⟩
        rw[hxD]at hS⊢
        clear hxD
        refine takeE 0 132 ?_
        refine takeE 1 133 ?_
        refine takeE 2 134 ?_
        refine takeE 3 135 (v:=.bool false) ?_
        refine takeE 4 136 ?_
        refine takeE 5 137 ?_
        refine takeE 6 138 ?_
        refine takeE 7 139 (v:=.bool false) ?_
        refine takeE 8 140 ?_
        refine takeE 9 141 ?_
        refine takeE 10 142 ?_
        refine takeE 11 143 ?_
        refine takeE 12 144 (v:=.bool false) ?_
        refine takeE 13 145 ?_
        refine takeE 14 146 ?_
        refine takeF 15 147 (fun wq hSw=>And.intro ((hSw.cell (p:=⟨p18,0,none⟩) hlt18).trans (mx_cell (j:=0) HX184.out)) (And.intro ((hSw.cell (p:=⟨p18,1,none⟩) hlt18).trans (mx_cell (j:=1) HX184.out)) (And.intro ((hSw.cell (p:=⟨p18,2,none⟩) hlt18).trans (mx_cell (j:=2) HX184.out)) ((hSw.cell (p:=⟨p18,3,none⟩) hlt18).trans (mx_cell (j:=3) HX184.out))))) ?_
        refine takeE 17 149 ?_
        refine takeE 18 150 ?_
        refine takeE 19 151 ?_
        refine takeE 20 152 ?_
        have HSLC:=fun X=>slc_ref gs os ss.length ct j (by omega) X
        refine takeE 21 153 (v:=.slice (some ⟨gs,os+j*4,none⟩) 1 (ct-j)) ?_
        clear HSLC
        have hlh14:=hlt18
        refine ready1 16 (fun KK hKK=>?_)
        go_simp
        obtain⟨wd,hwd,hbd,hxd,hzd⟩:=al_new xD #[.bool sd,.int .i64 si,.slice Bl sl.length bl,.slice Bh sh.length bh] 34
        rw[hwd]
        have hSd:=hS.trans (hbd.mono hS.size)
        refine hKK.out _ _ hSd (fun _=>?_)
        clear hKK
        refine ready1 22 (fun KK hKK=>?_)
        go_simp
        refine(eq7_any _ _ [⟨sd,si,sl,sh⟩] wd (step_new hxd (HL14.out.below hSd) (HH14.out.below hSd)) ((HS14.out.below hSd).one HSJ.out) (by simp) (fun s hs=>by
         rw[List.mem_singleton.1 hs]
         exact⟨by simp only;omega,by simp only;omega⟩)).mono ?_
        rintro e we ⟨rfl,hbe⟩
        have hSe:=hSd.trans (hbe.mono hSd.size)
        refine hKK.out _ _ hSe (fun _=>?_)
        have HBe:=Lib.hid hSe
        clear hKK hwd hbd hxd hzd hSd hbe hS hSe
        refine takeE 23 155 ?_
        refine takeE 24 156 ?_
        refine wpAnyH_done (by kernel_rfl) ?_ _
        have hze:=HBe.out.size
        have HX18e:=Lib.hid ((HBe.out.block _ hlt18).trans HX184.out)
        have HCKe:=Lib.hid (HCK14.out.below HBe.out)
        have hp14e:=HBe.out.block _ (heap_lt HX14.out)
        have HX14e:=Lib.hid (hp14e.trans HX14.out)
        have HX22e:=Lib.hid ((HBe.out.block _ (heap_lt HX22.out)).trans HX22.out)
        have HE22e:=Lib.hid (HE22.out.below HBe.out)
        have HS14e:=Lib.hid (HS14.out.below HBe.out)
        have HBwe:=Lib.hid (HB14.out.trans (HBe.out.mono HB14.out.size))
        have HOB:=Lib.hid (show∀g,(Value.slice Bl sl.length bl).ownBlock=some g→Wa.heap.size≤g∧g<w12.heap.size from fun g hg=>own_lt HOL.out g hg)
        have HWL:=Lib.hid (show∀g,(Value.slice Bl sl.length bl).ownBlock=some g→WriL we g sl.length from fun g hg=>by
         have:=HOB.out g hg
         exact(((wriL_own HOL.out hg).ckf HF13.out (by omega)).below HB22.out).below HBe.out)
        obtain⟨wq,rfl⟩: ∃x:World,x=wr:=⟨_,rfl⟩
        have t2:=mx_cell (j:=2) HX18e.out
        clear hp14e
        go_wp2_with fail
        clear t2
        go_loopw [160] (fun kv wr=> ∃q:Nat,q≤sl.length∧kv= .int .i64 q∧Hid (Kept (fun g=>(Value.slice Bl sl.length bl).ownBlock=some g) we wr)∧Hid (∀g,(Value.slice Bl sl.length bl).ownBlock=some g→WriL wr g sl.length)) (fun kv _=>sl.length-(intOf kv).toNat)
        case atStart=>exact⟨0,Nat.zero_le _,rfl,Lib.hid (Kept.refl _ _),HWL⟩
        case round=>
         obtain⟨q,hq,rfl,HKQ,HWQ⟩:=hrel
         have hx18:=(HKQ.out.block p18 (heap_lt HX18e.out) (fun e=>by have:=(HOB.out p18 e).2;exact absurd HX18.out (by
          intro h18
          have h2:=mx_not HOL.out h18 (by decide)
          exact h2 e))).trans HX18e.out
         by_cases hql:q<sl.length
         ·have hqd:decide ((q:Int)<(sl.length:Int))=true:=decide_eq_true (by omega)
          have hqd':(q:Int)<(sl.length:Int):=by omega
          obtain⟨gB,ccB,csB,hvB,_⟩:=mx_some HOL.out (by omega)
          simp only[Value.slice.injEq]at hvB
          obtain⟨rfl,-,rfl⟩:=hvB
          obtain⟨⟨vv,z0⟩,f0⟩:=(HWQ.out gB rfl).cell hql
          have t2:=mx_cell (j:=2) hx18
          have HKN:=Lib.hid (HKQ.out.setCell ⟨gB,q,none⟩ (.int .i64 99) rfl)
          have HWN:=Lib.hid (fun(g:Nat) (hg:(Value.slice (some ⟨gB,0,none⟩) sl.length bl).ownBlock=some g)=>(HWQ.out g hg).set gB q (.int .i64 99))
          clear hx18
          go_wp2_with fail
          go_roundw
          case rel=>exact⟨q+1,by omega,by go_num,HKN,HWN⟩
          case measure=>simp[intOf];omega
         ·obtain rfl:q=sl.length:=by omega
          have hqd:decide ((sl.length:Int)<(sl.length:Int))=false:=decide_eq_false (by omega)
          obtain⟨w15,rfl⟩: ∃x:World,x=wr:=⟨_,rfl⟩
          clear hx18
          have hz15:=HKQ.out.size
          have HCK15:=Lib.hid (CkAtX.at_ (HCKe.out.mut (HKQ.out.mono (O':=fun g=>wq.heap.size≤g∧g<w12.heap.size) (fun g _ hg=>by have:=HOB.out g hg;omega))))
          have HX15:=Lib.hid ((HKQ.out.block p14 (heap_lt HX14e.out) (fun e=>by have:=HOB.out p14 e;omega)).trans HX14e.out)
          have hx22:=(HKQ.out.block p22 (heap_lt HX22e.out) (fun e=>by have:=HOB.out p22 e;omega)).trans HX22e.out
          have HE15:=Lib.hid (HE22e.out.kept HKQ.out (fun g hg e=>by have:=HOB.out g e;omega))
          have HS15:=Lib.hid (HS14e.out.kept HKQ.out (fun g hg e=>by have:=HOB.out g e;omega))
          have HB15:=Lib.hid (show Below w.heap.size w w15 from HBwe.out.trans (HKQ.out.below (fun g e=>by have:=HOB.out g e;have:=HBR.out.size;omega) HBwe.out.size))
          have y0:=mx_cell (j:=0) hx22;have y1:=mx_cell (j:=1) hx22;have y2:=mx_cell (j:=2) hx22;have y3:=mx_cell (j:=3) hx22;have y4:=mx_cell (j:=4) hx22;have y5:=mx_cell (j:=5) hx22;have y6:=mx_cell (j:=6) hx22
          have z0:=mx_cell (j:=0) HX15.out;have z1:=mx_cell (j:=1) HX15.out;have z2:=mx_cell (j:=2) HX15.out;have z3:=mx_cell (j:=3) HX15.out;have z4:=mx_cell (j:=4) HX15.out;have z5:=mx_cell (j:=5) HX15.out;have z6:=mx_cell (j:=6) HX15.out
          have f0:=oj_free (j:=0) HX15.out;have f1:=oj_free (j:=1) HX15.out;have f2:=oj_free (j:=2) HX15.out;have f3:=oj_free (j:=3) HX15.out;have f4:=oj_free (j:=4) HX15.out;have f5:=oj_free (j:=5) HX15.out;have f6:=oj_free (j:=6) HX15.out
          clear HKQ HWQ
          go_upto_region 36 with fail
          obtain⟨WF,hWF,hrF,hbF,hkF⟩:=set7_all HX15.out (.slice A2 k2.ents.length c2) (.int .i64 k2.last) (.bool k2.proved) (.int .i64 k2.adds) (.int .i64 k2.dels) (.int .i64 k2.rats) (.int .i64 k2.largest)
          rw[hWF]
          clear y0 y1 y2 y3 y4 y5 y6 z0 z1 z2 z3 z4 z5 z6 f0 f1 f2 f3 f4 f5 f6
          have HX16:=Lib.hid hrF
          have HCK16:=Lib.hid (HCK15.out.other HX15.out (by decide) (by decide) hkF)
          have HE16:=Lib.hid (HE15.out.kept hkF (fun g hg e=>hg.1.2 e))
          have HS16:=Lib.hid (HS15.out.kept hkF (fun g hg e=>hg.1.2 e))
          have HB16:=Lib.hid (HB15.out.trans (hkF.below (fun g e=>by rw[e];omega) HB15.out.size))
          have HIS:=Lib.hid (is_10 b k2 (.slice A2 k2.ents.length c2) WF HCK16.out HOK2.out (by omega) HE16.out)
          unfold ckK ckV at HIS
          have y0:=mx_cell (j:=0) HX16.out;have y1:=mx_cell (j:=1) HX16.out;have y2:=mx_cell (j:=2) HX16.out;have y3:=mx_cell (j:=3) HX16.out;have y4:=mx_cell (j:=4) HX16.out;have y5:=mx_cell (j:=5) HX16.out;have y6:=mx_cell (j:=6) HX16.out
          clear hrF hbF hkF hWF hx22
          go_wp2_with fail
          refine HIS.out.mono ?_
          rintro e w17 ⟨rfl,hb17⟩
          have HX17:=Lib.hid ((hb17.block _ (heap_lt HX16.out)).trans HX16.out)
          have HCK17:=Lib.hid (HCK16.out.below hb17)
          have HE17:=Lib.hid (HE16.out.below hb17)
          have HS17:=Lib.hid (HS16.out.below hb17)
          have HB17:=Lib.hid (HB16.out.trans (hb17.mono HB16.out.size))
          have HEN:=Lib.hid (ck_entries_own b k2 w17 HCK17.out HOK2.out (by omega))
          clear hb17 HIS y0 y1 y2 y3 y4 y5 y6
          go_wp2_with fail
          refine HEN.out.mono ?_
          rintro e w18 ⟨ev,rfl,hen,hb18⟩
          obtain⟨pre,hpl,hrow,hxr⟩:=hen
          obtain⟨Ae,ce,rfl,hce⟩:=mx_slice hrow
          obtain⟨NE,hNE⟩: ∃NE,k2.ents.length=NE:=⟨_,rfl⟩
          have HNE:=Lib.hid hNE
          have hNEl:NE≤3001:=by
           rw[←hNE]
           have:=HOK2.out.len
           omega
          have HWE:=Lib.hid (show WriE w17.heap.size w18 pre k2.ents from fun i x c h1 h2 g hg=>by
           obtain⟨c',h3,h4⟩:=hxr i x h1
           rw[h2]at h3
           obtain rfl:c=c':=(Prod.mk.inj (Option.some.inj h3)).2
           exact⟨(own_lt h4 g hg).1,wriL_own h4 hg⟩)
          have HROW:=Lib.hid hrow
          have HXR2:=Lib.hid hxr
          have HB18:=Lib.hid hb18
          have HPL:=Lib.hid hpl
          rw[hNE]at hce HROW⊢
          clear hrow hxr hb18 hpl hNE HEN
          go_wp2_with fail
          go_loopw [176] (fun kv wr=> ∃m:Nat,m≤NE∧kv= .int .i64 m∧Hid (Below w17.heap.size w17 wr)∧Hid (KeepT 82 w18 wr)∧Hid (WriE w17.heap.size wr pre k2.ents)) (fun kv _=>NE-(intOf kv).toNat)
          case atStart=>exact⟨0,Nat.zero_le _,rfl,HB18,Lib.hid (KeepT.refl _ _),HWE⟩
          case round=>
           obtain⟨m,hm,rfl,HBM,HKM,HWM⟩:=hrel
           by_cases hmn:m<NE
           ·have hmd:decide ((m:Int)<(NE:Int))=true:=decide_eq_true (by omega)
            have hmd':(m:Int)<(NE:Int):=by omega
            obtain⟨x,hx⟩:=getElem_of (show m<pre.length by rw[HPL.out,HNE.out];exact hmn)
            obtain⟨c3,hec,hrx⟩:=HXR2.out m x hx
            have hc3l:c3.length≤4096:=clause_len (HOK2.out.cls _ (List.mem_of_getElem? hec))
            obtain⟨ge,cge,csge,hvge,_⟩:=mx_some HROW.out (by omega)
            simp only[Value.slice.injEq]at hvge
            obtain⟨rfl,-,rfl⟩:=hvge
            obtain⟨ct9,hct9⟩:=own_type HROW.out ge rfl
            obtain⟨e0,e1⟩:=ecell_at pre m x hx
            have r0:=(mx_cell (j:=m*2) hct9).symm.trans (mx_at HROW.out e0)
            have r1:=(mx_cell (j:=m*2+1) hct9).symm.trans (mx_at HROW.out e1)
            have d0:=(mx_cell (j:=m*2) (HKM.out ge ct9 hct9)).trans r0
            have d1:=(mx_cell (j:=m*2+1) (HKM.out ge ct9 hct9)).trans r1
            obtain⟨x1,x2,x3⟩:=x
            simp only at hec hrx d0 d1
            obtain⟨Ax3,cx3,rfl,_⟩:=mx_slice hrx
            obtain⟨Wb,hWb,hbb,hxb,hzb⟩:=al_new wr #[.int .i64 x1,.slice Ax3 c3.length cx3] 82
            have HWb:=Lib.hid hWb
            have HXb:=Lib.hid hxb
            have HBb:=Lib.hid (HBM.out.trans (hbb.mono HBM.out.size))
            have HKb:=Lib.hid (HKM.out.trans (KeepT.of_below hbb))
            have HWEb:=Lib.hid (HWM.out.below hbb)
            have HX0:=Lib.hid hx
            have HEC:=Lib.hid hec
            have HRX:=Lib.hid hrx
            obtain⟨bx,hbx⟩: ∃z,wr.heap.size=z:=⟨_,rfl⟩
            rw[hbx]at HXb
            clear hx hec hrx hct9 e0 e1 r0 r1 hWb hbb hxb hzb HBM HKM HWM
            go_upto_region 41 with fail
            rw[HWb.out]
            try rw[hbx]
            clear d0 d1 hbx HWb
            have t1:=mx_cell (j:=1) HXb.out
            go_wp2_with fail
            clear t1
            go_loopw [183] (fun kv wr=> ∃q:Nat,q≤c3.length∧kv= .int .i64 q∧Hid (Below w17.heap.size w17 wr)∧Hid (KeepT 82 Wb wr)∧Hid (WriE w17.heap.size wr pre k2.ents)) (fun kv _=>c3.length-(intOf kv).toNat)
            case atStart=>exact⟨0,Nat.zero_le _,rfl,HBb,Lib.hid (KeepT.refl _ _),HWEb⟩
            case round=>
             obtain⟨q,hq,rfl,HBQ,HKQ,HWQ⟩:=hrel
             have t1:=mx_cell (j:=1) (HKQ.out _ _ HXb.out)
             by_cases hql:q<c3.length
             ·have hqd:decide ((q:Int)<(c3.length:Int))=true:=decide_eq_true (by omega)
              have hqd':(q:Int)<(c3.length:Int):=by omega
              obtain⟨gx,cgx,csx,hvx,_⟩:=mx_some HRX.out (by omega)
              simp only[Value.slice.injEq]at hvx
              obtain⟨rfl,-,rfl⟩:=hvx
              obtain⟨hgx,hwx⟩:=HWQ.out m _ c3 HX0.out HEC.out gx rfl
              obtain⟨⟨vv,z0⟩,f0⟩:=hwx.cell hql
              have HBN:=Lib.hid (HBQ.out.setCell (p:=⟨gx,q,none⟩) hgx (.int .i64 77))
              have HKN:=Lib.hid (HKQ.out.set hwx (by decide) q (.int .i64 77))
              have HWN:=Lib.hid (HWQ.out.set gx q (.int .i64 77))
              clear hwx
              go_wp2_with fail
              go_roundw
              case rel=>exact⟨q+1,by omega,by go_num,HBN,HKN,HWN⟩
              case measure=>simp[intOf];omega
             ·obtain rfl:q=c3.length:=by omega
              have hqd:decide ((c3.length:Int)<(c3.length:Int))=false:=decide_eq_false (by omega)
              have HKT:=Lib.hid (HKb.out.trans HKQ.out)
              clear t1
              go_wp2_with fail
              go_roundw
              case rel=>exact⟨m+1,by omega,by go_num,HBQ,HKT,HWQ⟩
              case measure=>simp[intOf];omega
           ·obtain rfl:m=NE:=by omega
            have hmd:decide ((m:Int)<(m:Int))=false:=decide_eq_false (by omega)
            have HCKn:=Lib.hid (HCK17.out.below HBM.out)
            have HXn:=Lib.hid ((HBM.out.block _ (heap_lt HX17.out)).trans HX17.out)
            have HEn:=Lib.hid ((HE17.out.below HBM.out).mono (O':=fun g=>g≠b∧g≠p14) (fun g hg=>hg.1))
            have HSn:=Lib.hid ((HS17.out.below HBM.out).mono (O':=fun g=>g≠b∧g≠p14) (fun g hg=>hg.1))
            have HBn:=Lib.hid (HB17.out.trans (HBM.out.mono HB17.out.size))
            have hwj:IntKind.i64.wrap ((j:Int)+1)=(j:Int)+1:=IntWalk.i64_in _ (by omega)
            go_wp2_with fail
            go_roundw
            case rel=>exact⟨j+1,k2,A2,c2,by omega,by go_num,HOK2,HCKn,HXn,HEn,HSn,HBn⟩
            case measure=>simp[intOf];omega
     ·obtain rfl:j=ss.length:=by omega
      have hjd:decide ((ss.length:Int)<(ss.length:Int))=false:=decide_eq_false (by omega)
      have HIS:=Lib.hid (is_10 b k (.slice A k.ents.length c) wr HCK.out HOK.out (by omega) HER.out)
      unfold ckK ckV at HIS
      have y0:=mx_cell (j:=0) HXR.out
      have y1:=mx_cell (j:=1) HXR.out
      have y2:=mx_cell (j:=2) HXR.out
      have y3:=mx_cell (j:=3) HXR.out
      have y4:=mx_cell (j:=4) HXR.out
      have y5:=mx_cell (j:=5) HXR.out
      have y6:=mx_cell (j:=6) HXR.out
      go_wp2_with fail
      refine HIS.out.mono ?_
      rintro e w19 ⟨rfl,hb19⟩
      have HBF:=Lib.hid (HBR.out.trans (hb19.mono HBR.out.size))
      clear hb19 HIS y0 y1 y2 y3 y4 y5 y6
      go_wp2_with fail
      go_ret
      exact⟨rfl,HBF.out⟩
end Go.Proofs.YtajbmjpodeilpaaGreat
