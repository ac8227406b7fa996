/- package lratext: Right, at any step. package proof: Do, given what add does. slices.AppendSeq over a checker's entries: the walk. -/
import Derived.Test.YtajbmjpodeilpaaGreatV107
import Derived.Test.YtajbmjpodeilpaaGreatV106
import Derived.Test.YtajbmjpodeilpaaGreatV101
import Derived.Deep.DeepCutAuto
import Derived.Deep.CutBlock
import Derived.Shelf.Abstract
import Derived.Test.YtajbmjpodeilpaaGreatV118
import Derived.Test.YtajbmjpodeilpaaGreatV116
namespace Go.Proofs.YtajbmjpodeilpaaGreat
open Go.RowKit Go.Shelf
def hintB (d:Bool) (h:Int):Bool:=decide (h=0)||decide (1073741824<h)||decide (h< -1073741824)||(d&&decide (h<0))
def headB (s:EStep):Bool:=decide (s.id<0)||decide (1073741824<s.id)||(!s.del&&decide (s.id=0))||(s.del&&decide (0<s.lits.length))
theorem stepB_eq (s:EStep):stepB s=(!headB s&&(clauseB s.lits&&decide (s.hints.length≤65536)&& !(s.hints.any (hintB s.del)))):=rfl
set_option maxRecDepth 100000 in
set_option maxHeartbeats 1000000 in
theorem wrong_one (d:Bool) (q:Nat) (x:Int) (w:World) (hq:w.cell? ⟨q,0,none⟩=some (.bool d)):
  Calls Tryz.prog 121 #[.int .i64 x,.pointer (some ⟨q,0,none⟩)] w fun e w'=>e= .returned (.bool (hintB d x))∧Below w.heap.size w w':=by
 obtain⟨z,hz⟩: ∃z,(x==0)=z:=⟨_,rfl⟩
 obtain⟨b,hb⟩: ∃z,decide ((1073741824:Int)<x)=z:=⟨_,rfl⟩
 obtain⟨c,hc⟩: ∃z,decide (x< -1073741824)=z:=⟨_,rfl⟩
 obtain⟨n,hn⟩: ∃z,decide (x<0)=z:=⟨_,rfl⟩
 have he:hintB d x=(z||b||c||(d&&n)):=by
  unfold hintB
  rw[←hz,hb,hc,hn]
  rfl
 rw[he]
 clear he
 go_enter Tryz.func121,Tryz.ntmps121
 cases z with
 | true=>
  go_wp2_with fail
  go_ret
  exact⟨rfl,Below.refl _ _⟩
 | false=>
  cases b with
  | true=>
   go_wp2_with fail
   go_ret
   exact⟨rfl,Below.refl _ _⟩
  | false=>
   cases c with
   | true=>
    go_wp2_with fail
    go_ret
    exact⟨rfl,Below.refl _ _⟩
   | false=>
    cases d with
    | false=>
     go_wp2_with fail
     go_ret
     exact⟨rfl,Below.refl _ _⟩
    | true=>
     cases n with
     | true=>
      go_wp2_with fail
      go_ret
      exact⟨rfl,Below.refl _ _⟩
     | false=>
      go_wp2_with fail
      go_ret
      exact⟨rfl,Below.refl _ _⟩
set_option maxHeartbeats 400000 in
theorem wrong_run (d:Bool) (w:World):Calls Tryz.prog 87 #[.bool d] w fun e w'=> ∃q,e= .returned (.func (.func 121) #[] #[.pointer (some ⟨q,0,none⟩)])∧w'.cell? ⟨q,0,none⟩=some (.bool d)∧Below w.heap.size w w':=by
 go_enter Tryz.func87,Tryz.ntmps87
 go_wp2
 go_ret
 exact⟨_,rfl,cell_new _ _ _ 0,mx_al _ _⟩
set_option maxRecDepth 100000 in
set_option maxHeartbeats 4000000 in
theorem step_right {O O':Nat→Prop} (s:EStep) (lv hv:Value) (w:World) (hl:IntsIn O w lv s.lits) (hh:IntsIn O' w hv s.hints) (hll:s.lits.length≤100000000000) (hhl:s.hints.length≤100000000000):
  Calls Tryz.prog 61 #[.agg #[.bool s.del,.int .i64 s.id,lv,hv]] w fun e w'=>e= .returned (.bool (stepB s))∧Below w.heap.size w w':=by
 obtain⟨d,id,ls,hs⟩:=s
 simp only at hl hh hll hhl⊢
 obtain⟨W,hW⟩: ∃W,w.alloc (.cells #[.bool d,.int .i64 id,lv,hv] 34)=W:=⟨_,rfl⟩
 have hb:Below w.heap.size w W:=by rw[←hW];exact mx_al _ _
 have hn:W.heap[w.heap.size]? =some (.cells #[.bool d,.int .i64 id,lv,hv] 34 (0,0)):=by rw[←hW];exact World.alloc_heap_new _ _
 have b0:W.cell? ⟨w.heap.size,0,none⟩=some (.bool d):=mx_cell (j:=0) hn
 have b1:W.cell? ⟨w.heap.size,1,none⟩=some (.int .i64 id):=mx_cell (j:=1) hn
 have b2:W.cell? ⟨w.heap.size,2,none⟩=some lv:=mx_cell (j:=2) hn
 have b3:W.cell? ⟨w.heap.size,3,none⟩=some hv:=mx_cell (j:=3) hn
 have hlt:=heap_lt hn
 have HW:=Lib.hid hW
 have HB:=Lib.hid hb
 have HL:=Lib.hid (hl.below hb)
 have HH:=Lib.hid (hh.below hb)
 have HR:=fun W' (k:Below W.heap.size W W')=>right_clause lv ls W' ((hl.below hb).below k) (by omega)
 obtain⟨cb,hcb⟩: ∃cb,clauseB ls=cb:=⟨_,rfl⟩
 rw[hcb]at HR
 have HR:=Lib.hid HR
 obtain⟨A,c,rfl,hcc,_⟩:=hl
 obtain⟨A',c',rfl,hcc',_⟩:=hh
 obtain⟨hd,hhd⟩: ∃z,headB ⟨d,id,ls,hs⟩=z:=⟨_,rfl⟩
 obtain⟨any,hany⟩: ∃z,hs.any (hintB d)=z:=⟨_,rfl⟩
 have HANY:=Lib.hid hany
 have HS:=Lib.hid (show stepB ⟨d,id,ls,hs⟩=(!hd&&(cb&&decide (hs.length≤65536)&& !any))from by rw[stepB_eq,←hhd,←hcb,←hany])
 obtain⟨R,hR⟩: ∃R,stepB ⟨d,id,ls,hs⟩=R:=⟨_,rfl⟩
 rw[hR]at HS⊢
 obtain⟨z,hz⟩: ∃z,(id==0)=z:=⟨_,rfl⟩
 obtain⟨a1,ha1⟩: ∃z,decide (id<0)=z:=⟨_,rfl⟩
 obtain⟨a2,ha2⟩: ∃z,decide ((1073741824:Int)<id)=z:=⟨_,rfl⟩
 obtain⟨a3,ha3⟩: ∃z,decide (0<ls.length)=z:=⟨_,rfl⟩
 have ha3i:decide ((0:Int)<(ls.length:Int))=a3:=by rw[←ha3];exact decide_eq_decide.2 (by omega)
 have HHD:=Lib.hid (show hd=(a1||a2||(!d&&z)||(d&&a3))from by
  rw[←hhd,←hz,←ha1,←ha2,←ha3]
  rfl)
 clear hb hn hW hcb hhd hany hR
 go_enter Tryz.func61,Tryz.ntmps61
 go_upto_region 1 with fail
 rw[HW.out]
 go_cut [30] (fun q wx=>q= .bool hd∧wx=W)
 case first=>
  cases a1 with
  | true=>
   go_wp2_with fail
   go_meet
   exact⟨by rw[HHD.out];rfl,rfl⟩
  | false=>
   cases a2 with
   | true=>
    go_wp2_with fail
    go_meet
    exact⟨by rw[HHD.out];rfl,rfl⟩
   | false=>
    cases d with
    | false=>
     cases z with
     | true=>
      go_wp2_with fail
      go_meet
      exact⟨by rw[HHD.out];rfl,rfl⟩
     | false=>
      go_wp2_with fail
      go_meet
      exact⟨by rw[HHD.out];rfl,rfl⟩
    | true=>
     cases a3 with
     | true=>
      go_wp2_with fail
      go_meet
      exact⟨by rw[HHD.out];rfl,rfl⟩
     | false=>
      go_wp2_with fail
      go_meet
      exact⟨by rw[HHD.out];rfl,rfl⟩
 case rest=>
  obtain⟨rfl,rfl⟩:=hcut
  cases hd with
  | true=>
   go_wp2_with fail
   go_ret
   exact⟨by rw[HS.out];rfl,HB.out⟩
  | false=>
   cases cb with
   | false=>
    go_upto_region 3 with fail
    refine wp_region_held_drew (S:=fun w'=>Below wc.heap.size wc w') (by kernel_rfl) (mx_drew wc) (fun hS=>?_)
    refine takeE 0 31 ?_
    refine takeF 1 32 (fun wq hSw=>(hSw.cell (p:=⟨w.heap.size,2,none⟩) hlt).trans b2) ?_
    refine ready1 2 (fun K hK=>?_)
    go_simp
    refine(HR.out _ hS).mono ?_
    rintro e w' ⟨rfl,rfl⟩
    refine hK.out _ _ hS (fun _=>?_)
    clear hK
    refine takeE 3 34 ?_
    refine takeU 4 35 ?_
    refine takeU 5 36 ?_
    refine takeU 6 37 ?_
    refine takeU 7 38 ?_
    refine takeE 8 39 ?_
    refine takeE 9 40 ?_
    refine takeU 10 41 ?_
    refine takeU 11 42 ?_
    refine takeU 12 43 ?_
    refine takeU 13 44 ?_
    refine takeU 14 45 ?_
    refine takeU 15 46 ?_
    refine takeU 16 47 ?_
    refine takeE 17 48 ?_
    refine takeE 18 2 ?_
    refine wpAnyH_done (by kernel_rfl) ?_ _
    go_wp2_with fail
    go_ret
    exact⟨by rw[HS.out];rfl,HB.out.trans (hS.mono HB.out.size)⟩
   | true=>
    obtain⟨hl,hhl2⟩: ∃z,decide (hs.length≤65536)=z:=⟨_,rfl⟩
    have hhli:decide ((hs.length:Int)≤65536)=hl:=by rw[←hhl2];exact decide_eq_decide.2 (by omega)
    rw[hhl2]at HS
    cases hl with
    | false=>
     go_upto_region 3 with fail
     refine wp_region_held_drew (S:=fun w'=>Below wc.heap.size wc w') (by kernel_rfl) (mx_drew wc) (fun hS=>?_)
     refine takeE 0 31 ?_
     refine takeF 1 32 (fun wq hSw=>(hSw.cell (p:=⟨w.heap.size,2,none⟩) hlt).trans b2) ?_
     refine ready1 2 (fun K hK=>?_)
     go_simp
     refine(HR.out _ hS).mono ?_
     rintro e w' ⟨rfl,rfl⟩
     refine hK.out _ _ hS (fun _=>?_)
     clear hK
     refine takeE 3 34 ?_
     refine takeE 4 35 ?_
     refine takeF 5 36 (fun wq hSw=>(hSw.cell (p:=⟨w.heap.size,3,none⟩) hlt).trans b3) ?_
     refine takeE 6 37 ?_
     refine takeE 7 38 ?_
     refine takeE 8 39 ?_
     refine takeE 9 40 ?_
     refine takeU 10 41 ?_
     refine takeU 11 42 ?_
     refine takeU 12 43 ?_
     refine takeU 13 44 ?_
     refine takeU 14 45 ?_
     refine takeU 15 46 ?_
     refine takeU 16 47 ?_
     refine takeE 17 48 ?_
     refine takeE 18 2 ?_
     refine wpAnyH_done (by kernel_rfl) ?_ _
     go_wp2_with fail
     go_ret
     exact⟨by rw[HS.out];rfl,HB.out.trans (hS.mono HB.out.size)⟩
    | true=>
     go_upto_region 3 with fail
     refine wp_region_held_drew (S:=fun w'=>Below wc.heap.size wc w') (by kernel_rfl) (mx_drew wc) (fun hS=>?_)
     refine takeE 0 31 ?_
     refine takeF 1 32 (fun wq hSw=>(hSw.cell (p:=⟨w.heap.size,2,none⟩) hlt).trans b2) ?_
     refine ready1 2 (fun K hK=>?_)
     go_simp
     refine(HR.out _ hS).mono ?_
     rintro e w' ⟨rfl,rfl⟩
     refine hK.out _ _ hS (fun _=>?_)
     clear hK
     refine takeE 3 34 ?_
     refine takeE 4 35 ?_
     refine takeF 5 36 (fun wq hSw=>(hSw.cell (p:=⟨w.heap.size,3,none⟩) hlt).trans b3) ?_
     refine takeE 6 37 ?_
     refine takeE 7 38 ?_
     refine takeE 8 39 ?_
     refine takeE 9 40 ?_
     refine takeE 10 41 ?_
     refine takeF 11 42 (fun wq hSw=>(hSw.cell (p:=⟨w.heap.size,3,none⟩) hlt).trans b3) ?_
     refine takeE 12 43 ?_
     refine takeF 13 44 (fun wq hSw=>(hSw.cell (p:=⟨w.heap.size,0,none⟩) hlt).trans b0) ?_
     refine ready1 14 (fun K hK=>?_)
     go_simp
     refine(wrong_run d _).mono ?_
     rintro e w2 ⟨q,rfl,hq,hb2⟩
     have hS2:=hS.trans (hb2.mono hS.size)
     have hcon:=contains_nf 121 (.pointer (some ⟨q,0,none⟩)) _ hs (hintB d) w2 (enters_of Tryz.func121 (by kernel_rfl) rfl) (HH.out.below hS2) (by omega) (fun W hb x _=>wrong_one d q x W ((hb.cell (p:=⟨q,0,none⟩) (World.block_lt_of_cell? w2 _ hq)).trans hq))
     rw[HANY.out]at hcon
     have HCON:=Lib.hid hcon
     refine hK.out _ _ hS2 (fun _=>?_)
     clear hK hS hcon hb2 hq
     refine ready1 15 (fun K hK=>?_)
     go_simp
     refine HCON.out.mono ?_
     rintro e w3 ⟨rfl,hb3⟩
     have hS:=hS2.trans (hb3.mono hS2.size)
     refine hK.out _ _ hS (fun _=>?_)
     clear hK hS2 hb3 HCON
     refine takeE 16 47 ?_
     refine takeE 17 48 ?_
     refine takeE 18 2 ?_
     refine wpAnyH_done (by kernel_rfl) ?_ _
     go_wp2_with fail
     go_ret
     exact⟨by rw[HS.out];rfl,HB.out.trans (hS.mono HB.out.size)⟩
end Go.Proofs.YtajbmjpodeilpaaGreat
namespace Go.Proofs.YtajbmjpodeilpaaGreat
open Go.RowKit Go.Maps
structure StepO (s:EStep):Prop where
 id0:0≤s.id
 id1:s.id≤1073741824
 cls:clauseB s.lits=true
 len:s.hints.length≤65536
 hok: ∀x∈s.hints,x≠0∧ -1073741824≤x∧x≤1073741824
theorem stepO {s:EStep} (h:stepB s=true):StepO s:=by
 unfold stepB at h
 simp only[Bool.and_eq_true,Bool.not_eq_true',Bool.or_eq_false_iff,decide_eq_false_iff_not,decide_eq_true_eq]at h
 obtain⟨⟨⟨⟨h1,h2⟩,_⟩,_⟩,⟨h3,h4⟩,h5⟩:=h
 refine⟨by omega,by omega,h3,h4,fun x hx=>?_⟩
 have:=List.any_eq_false.1 h5 x hx
 simp only[Bool.or_eq_true,decide_eq_true_eq,Bool.and_eq_true,not_or]at this
 obtain⟨⟨⟨a,b⟩,c⟩,_⟩:=this
 exact⟨a,by omega,by omega⟩
theorem ckDel_zero: ∀(hs:List Int) (es:Ents),(ckDel es hs).2.2=0→(ckDel es hs).2.1=0
 | [],_,_=>rfl
 | id::r,es,h=>by
  unfold ckDel at h⊢
  split at h
  ·cases h
  ·rename_i h1
   rw[if_neg h1]
   exact ckDel_zero r _ h
set_option maxRecDepth 100000 in
set_option maxHeartbeats 8000000 in
theorem ck_do {XX:Nat→Prop} {base:Nat} {O Oc:Nat→Prop} (b:Nat) (k:Ckr) (s:EStep) (lv hv:Value) (N:Nat) (w:World) (h:CkAtX XX base w b k) (hbase:base≤w.heap.size) (hk:k.Ok N) (hN:N≤1000000) (hc:IntsIn Oc w lv s.lits) (hh:IntsIn O w hv s.hints) (hll:s.lits.length≤100000000000) (hhl:s.hints.length≤100000000000)
  (hadd:stepB s=true→s.del=false→∀W,Below w.heap.size w W→Calls Tryz.prog 63 #[.pointer (some ⟨b,0,none⟩),.agg #[.bool s.del,.int .i64 s.id,lv,hv]] W fun e w'=>e= .returned (.tuple #[.int .u8 ((ckAdd k.ents s.lits s.hints).1:Nat),.int .i64 (ckAdd k.ents s.lits s.hints).2.1,.int .i64 ((ckAdd k.ents s.lits s.hints).2.2:Nat)])∧Below W.heap.size W w') (hXX: ∀g,XX g→g<w.heap.size:=by exact fun _ h=>h.elim):
  Calls Tryz.prog 29 #[.pointer (some ⟨b,0,none⟩),.agg #[.bool s.del,.int .i64 s.id,lv,hv]] w fun e w'=>e= .returned (.tuple #[.int .u8 ((k.do_ s).2.1:Nat),.int .i64 (k.do_ s).2.2.1,.int .i64 ((k.do_ s).2.2.2:Nat)])∧CkAtX XX base w' b (k.do_ s).1∧Below base w w'∧CkF b w w':=by
 obtain⟨W,hW⟩: ∃W,w.alloc (.cells #[.bool s.del,.int .i64 s.id,lv,hv] 34)=W:=⟨_,rfl⟩
 have hbW:Below w.heap.size w W:=by rw[←hW];exact mx_al _ _
 have hn:W.heap[w.heap.size]? =some (.cells #[.bool s.del,.int .i64 s.id,lv,hv] 34 (0,0)):=by rw[←hW];exact World.alloc_heap_new _ _
 have hlt:=heap_lt hn
 have HS:=Lib.hid (fun(X:World) (hx:Below W.heap.size W X)=>(show X.cell? ⟨w.heap.size,0,none⟩=some (.bool s.del)∧X.cell? ⟨w.heap.size,1,none⟩=some (.int .i64 s.id)∧X.cell? ⟨w.heap.size,2,none⟩=some lv∧X.cell? ⟨w.heap.size,3,none⟩=some hv from
  have e:=(hx.block w.heap.size hlt).trans hn
  ⟨mx_cell (j:=0) e,mx_cell (j:=1) e,mx_cell (j:=2) e,mx_cell (j:=3) e⟩))
 obtain⟨R,hR⟩: ∃R,k.do_ s=R:=⟨_,rfl⟩
 rw[hR]
 have HR:=Lib.hid hR
 have HXX:=Lib.hid hXX
 clear hXX
 obtain⟨mb,K,hm⟩:=h
 have HM:=Lib.hid (hm.below hbW)
 have HB:=Lib.hid hbW
 have HOK:=Lib.hid hk
 obtain⟨-,c1,c2,-⟩:=(hm.below hbW).cells
 have hbl:=heap_lt (hm.below hbW).box
 have hbw:=heap_lt hm.box
 obtain⟨bs,s1,s2,s3⟩:=HS.out W (Below.refl _ _)
 have hzW:=hbW.size
 obtain⟨sb,hsb⟩: ∃sb,stepB s=sb:=⟨_,rfl⟩
 have HRI:=step_right s lv hv W (hc.below hbW) (hh.below hbW) hll hhl
 rw[hsb]at HRI
 have HRI:=Lib.hid HRI
 have HSB:=Lib.hid hsb
 have HC:=Lib.hid (fun(X:World) (hx:Below W.heap.size W X)=>(hc.below hbW).below hx)
 have HH:=Lib.hid (fun(X:World) (hx:Below W.heap.size W X)=>(hh.below hbW).below hx)
 have HAD:=Lib.hid (fun(h1:stepB s=true) (h2:s.del=false) (X:World) (hx:Below W.heap.size W X)=>hadd h1 h2 X (hbW.trans (hx.mono hzW)))
 obtain⟨dl,id,ls,hs⟩:=s
 simp only at hW hc hh bs s1 HAD HS HRI⊢
 obtain⟨Al,cl,rfl,_⟩:=hc
 obtain⟨Ah,ch,rfl,_⟩:=hh
 obtain⟨pr,hpr⟩: ∃pr,k.proved=pr:=⟨_,rfl⟩
 obtain⟨la,hla⟩: ∃la,k.last=la:=⟨_,rfl⟩
 rw[hpr]at c2
 rw[hla]at c1
 have HPR:=Lib.hid hpr
 have HLA:=Lib.hid hla
 clear hbW hn hm hR hadd hk hsb hpr hla
 go_enter Tryz.func29,Tryz.ntmps29
 cases pr with
 | true=>
  have HR2:=Lib.hid (HR.out.symm.trans (if_pos HPR.out))
  go_wp2_with fail
  refine bodyPost_ret (v:=.tuple #[.int .u8 0,.int .i64 0,.int .i64 0]) (by simp[results,Tryz.results29,go_sem]) rfl ?_
  rw[HR2.out]
  exact⟨rfl,⟨mb,K,HM.out⟩,HB.out.mono hbase,CkF.of_below HB.out⟩
 | false=>
  have hr1:=HR.out.symm.trans (if_neg (by rw[HPR.out];decide))
  have HR1:=Lib.hid hr1
  clear hr1 HR
  cases sb with
  | false=>
   have HR2:=Lib.hid (HR1.out.trans (if_pos HSB.out))
   go_wp2_with fail
   refine HRI.out.mono ?_
   rintro e w1 ⟨rfl,hb1⟩
   have HB1:=Lib.hid (HB.out.trans (hb1.mono hzW))
   have HM1:=Lib.hid (HM.out.below hb1)
   clear hb1
   go_wp2_with fail
   refine bodyPost_ret (v:=.tuple #[.int .u8 0,.int .i64 0,.int .i64 70]) (by simp[results,Tryz.results29,go_sem]) rfl ?_
   rw[HR2.out]
   exact⟨rfl,⟨mb,K,HM1.out⟩,HB1.out.mono hbase,CkF.of_below HB1.out⟩
  | true=>
   have HR2:=Lib.hid (HR1.out.trans (if_neg (by rw[HSB.out];decide)))
   have hso:=stepO HSB.out
   have HSO:=Lib.hid hso
   go_wp2_with fail
   refine HRI.out.mono ?_
   rintro e w1 ⟨rfl,hb1⟩
   have HB1:=Lib.hid hb1
   have HM1:=Lib.hid (HM.out.below hb1)
   clear hb1 bs s1 s2 s3 c1 c2
   go_upto_region 7 with fail
   obtain⟨t0,t1,t2,t3⟩:=HS.out w1 HB1.out
   have c1:=HM1.out.cells.2.1
   rw[HLA.out]at c1
   have hlt1:w.heap.size<w1.heap.size:=Nat.lt_of_lt_of_le hlt HB1.out.size
   have hbl1:b<w1.heap.size:=Nat.lt_of_lt_of_le hbl HB1.out.size
   obtain⟨cc,hcc⟩: ∃cc,(decide (id<la)||(decide (id=la)&& !dl))=cc:=⟨_,rfl⟩
   have HCC:=Lib.hid hcc
   clear hcc
   go_cut [25] (fun q wx=>q= .bool cc∧Hid (Below w1.heap.size w1 wx))
   case first=>
    by_cases h1:id<la
    ·have q1:decide (id<la)=true:=decide_eq_true h1
     have hq:cc=true:=by rw[←HCC.out,q1];rfl
     clear h1
     refine wp_region_held_drew (S:=fun w'=>Below w1.heap.size w1 w') (by kernel_rfl) (mx_drew w1) (fun hS=>?_)
     obtain⟨xD,hxD⟩: ∃z,w1.drew=z:=⟨_,rfl⟩
     rw[hxD]at hS⊢
     clear hxD
     refine takeE 0 26 ?_
     refine takeF 1 27 (fun wq hSw=>(hSw.cell (p:=⟨w.heap.size,1,none⟩) hlt1).trans t1) ?_
     refine takeE 2 28 ?_
     refine takeE 3 29 ?_
     refine takeE 4 30 ?_
     refine takeF 5 31 (fun wq hSw=>(hSw.cell (p:=⟨b,1,none⟩) hbl1).trans c1) ?_
     refine takeE 6 32 ?_
     refine takeE 7 33 ?_
     refine takeU 8 34 ?_
     refine takeU 9 35 ?_
     refine takeU 10 36 ?_
     refine takeU 11 37 ?_
     refine takeU 12 38 ?_
     refine takeU 13 39 ?_
     refine takeU 14 40 ?_
     refine takeU 15 41 ?_
     refine takeU 16 42 ?_
     refine takeU 17 43 ?_
     refine takeU 18 44 ?_
     refine takeU 19 45 ?_
     refine takeE 20 46 ?_
     refine takeE 21 25 ?_
     refine wpAnyH_done (by kernel_rfl) ?_ _
     go_wp2_with fail
     go_meet
     exact⟨by rw[hq],Lib.hid hS⟩
    ·have q1:decide (id<la)=false:=decide_eq_false h1
     by_cases h2:id=la
     ·have q2:(id==la)=true:=by simpa using h2
      have hq:cc= !dl:=by rw[←HCC.out,q1,decide_eq_true h2];rfl
      clear h1 h2
      refine wp_region_held_drew (S:=fun w'=>Below w1.heap.size w1 w') (by kernel_rfl) (mx_drew w1) (fun hS=>?_)
      obtain⟨xD,hxD⟩: ∃z,w1.drew=z:=⟨_,rfl⟩
      rw[hxD]at hS⊢
      clear hxD
      refine takeE 0 26 ?_
      refine takeF 1 27 (fun wq hSw=>(hSw.cell (p:=⟨w.heap.size,1,none⟩) hlt1).trans t1) ?_
      refine takeE 2 28 ?_
      refine takeE 3 29 ?_
      refine takeE 4 30 ?_
      refine takeF 5 31 (fun wq hSw=>(hSw.cell (p:=⟨b,1,none⟩) hbl1).trans c1) ?_
      refine takeE 6 32 ?_
      refine takeE 7 33 ?_
      refine takeE 8 34 ?_
      refine takeF 9 35 (fun wq hSw=>(hSw.cell (p:=⟨w.heap.size,1,none⟩) hlt1).trans t1) ?_
      refine takeE 10 36 ?_
      refine takeE 11 37 ?_
      refine takeE 12 38 ?_
      refine takeF 13 39 (fun wq hSw=>(hSw.cell (p:=⟨b,1,none⟩) hbl1).trans c1) ?_
      refine takeE 14 40 ?_
      refine takeE 15 41 ?_
      refine takeE 16 42 ?_
      refine takeF 17 43 (fun wq hSw=>(hSw.cell (p:=⟨w.heap.size,0,none⟩) hlt1).trans t0) ?_
      refine takeE 18 44 ?_
      refine takeE 19 45 ?_
      refine takeE 20 46 ?_
      refine takeE 21 25 ?_
      refine wpAnyH_done (by kernel_rfl) ?_ _
      go_wp2_with fail
      go_meet
      exact⟨by rw[hq],Lib.hid hS⟩
     ·have q2:(id==la)=false:=by simpa using h2
      have hq:cc=false:=by rw[←HCC.out,q1,decide_eq_false h2];rfl
      clear h1 h2
      refine wp_region_held_drew (S:=fun w'=>Below w1.heap.size w1 w') (by kernel_rfl) (mx_drew w1) (fun hS=>?_)
      obtain⟨xD,hxD⟩: ∃z,w1.drew=z:=⟨_,rfl⟩
      rw[hxD]at hS⊢
      clear hxD
      refine takeE 0 26 ?_
      refine takeF 1 27 (fun wq hSw=>(hSw.cell (p:=⟨w.heap.size,1,none⟩) hlt1).trans t1) ?_
      refine takeE 2 28 ?_
      refine takeE 3 29 ?_
      refine takeE 4 30 ?_
      refine takeF 5 31 (fun wq hSw=>(hSw.cell (p:=⟨b,1,none⟩) hbl1).trans c1) ?_
      refine takeE 6 32 ?_
      refine takeE 7 33 ?_
      refine takeE 8 34 ?_
      refine takeF 9 35 (fun wq hSw=>(hSw.cell (p:=⟨w.heap.size,1,none⟩) hlt1).trans t1) ?_
      refine takeE 10 36 ?_
      refine takeE 11 37 ?_
      refine takeE 12 38 ?_
      refine takeF 13 39 (fun wq hSw=>(hSw.cell (p:=⟨b,1,none⟩) hbl1).trans c1) ?_
      refine takeE 14 40 ?_
      refine takeE 15 41 ?_
      refine takeU 16 42 ?_
      refine takeU 17 43 ?_
      refine takeU 18 44 ?_
      refine takeE 19 45 ?_
      refine takeE 20 46 ?_
      refine takeE 21 25 ?_
      refine wpAnyH_done (by kernel_rfl) ?_ _
      go_wp2_with fail
      go_meet
      exact⟨by rw[hq],Lib.hid hS⟩
   case rest=>
    obtain⟨rfl,HB2⟩:=hcut
    obtain⟨wF,hwF⟩: ∃z,z=wc:=⟨_,rfl⟩
    rw[←hwF]at HB2⊢
    clear hwF t0 t1 t2 t3 c1 hlt1 hbl1
    have HBF:=Lib.hid (HB1.out.trans (HB2.out.mono HB1.out.size))
    have HMF:=Lib.hid (HM1.out.below HB2.out)
    have HBB:=Lib.hid ((HB.out.trans (HBF.out.mono hzW)).mono hbase)
    have HFF:=Lib.hid (CkF.of_below (b:=b) (HB.out.trans (HBF.out.mono hzW)))
    have hzF:W.heap.size≤wF.heap.size:=HBF.out.size
    have hbF:base≤wF.heap.size:=by omega
    obtain⟨t0,t1,t2,t3⟩:=HS.out wF HBF.out
    cases cc with
    | true=>
     have HR3:=Lib.hid (HR2.out.trans (if_pos (show id<k.last∨id=k.last∧dl=false from by
      have:=HCC.out
      rw[Bool.or_eq_true,Bool.and_eq_true,decide_eq_true_eq,decide_eq_true_eq,Bool.not_eq_true']at this
      rw[HLA.out]
      exact this)))
     have hltF:w.heap.size<wF.heap.size:=by omega
     go_upto_region 8 with fail
     refine wp_region_held_drew (S:=fun w'=>Below wF.heap.size wF w') (by kernel_rfl) (mx_drew wF) (fun hS=>?_)
     obtain⟨xD,hxD⟩: ∃z,wF.drew=z:=⟨_,rfl⟩
     rw[hxD]at hS⊢
     clear hxD
     refine takeE 0 47 ?_
     refine takeF 1 48 (fun wq hSw=>(hSw.cell (p:=⟨w.heap.size,1,none⟩) hltF).trans t1) ?_
     refine takeE 2 4 ?_
     refine takeE 3 5 ?_
     refine takeE 4 6 ?_
     refine wpAnyH_done (by kernel_rfl) ?_ _
     go_wp2_with fail
     refine bodyPost_ret (v:=.tuple #[.int .u8 0,.int .i64 id,.int .i64 100]) (by simp[results,Tryz.results29,go_sem]) rfl ?_
     rw[HR3.out]
     exact⟨rfl,⟨mb,K,HMF.out.below hS⟩,HBB.out.trans (hS.mono hbF),HFF.out.trans (CkF.of_below hS)⟩
    | false=>
     have HR3:=Lib.hid (HR2.out.trans (if_neg (show¬(id<k.last∨id=k.last∧dl=false)from fun hh2=>by
      have:=HCC.out
      rw[HLA.out]at hh2
      have h3:(decide (id<la)||(decide (id=la)&& !dl))=true:=by
       rw[Bool.or_eq_true,Bool.and_eq_true,decide_eq_true_eq,decide_eq_true_eq,Bool.not_eq_true']
       exact hh2
      rw[this]at h3
      cases h3)))
     cases dl with
     | true=>
      have HR4:=Lib.hid (HR3.out.trans (if_pos rfl))
      have hrem:=ck_remove b k (.slice Ah hs.length ch) hs wF ⟨mb,K,HMF.out⟩ hbF (HH.out wF HBF.out) (fun x hx=>by
       obtain⟨_,h1,h2⟩:=HSO.out.hok x hx
       exact wf64 (by omega) (by omega)) (Nat.le_trans HSO.out.len (by decide)) (fun g hg=>Nat.lt_of_lt_of_le (HXX.out g hg) (Nat.le_trans hzW hzF))
      obtain⟨D,hD⟩: ∃D,ckDel k.ents hs=D:=⟨_,rfl⟩
      rw[hD]at hrem
      have HD:=Lib.hid hD
      have HREM:=Lib.hid hrem
      obtain⟨De,Di,Dx⟩:=D
      clear hrem hD
      go_wp2_with fail
      refine HREM.out.mono ?_
      rintro e w3 ⟨rfl,hck3,hb3,hk3⟩
      have HB3:=Lib.hid (HBB.out.trans hb3)
      have s1:=(hk3.cell (p:=⟨w.heap.size,1,none⟩) (by simp only;omega) (by simp only;omega)).trans t1
      have HF3:=Lib.hid (HFF.out.trans (CkF.box hk3))
      clear HREM t0 t1 t2 t3 hk3
      by_cases h0:Dx=0
      ·subst h0
       have HR5:=Lib.hid (HR4.out.trans (if_pos (show(ckDel k.ents hs).2.2=0 from by rw[HD.out])))
       rw[if_pos rfl]at hck3
       obtain⟨mb3,K3,hm3⟩:=hck3
       have hx3:=hm3.box
       have y1:=hm3.cells.2.1
       have f1:=hm3.free 1
       have hM4:CkMem XX base (w3.setCell ⟨b,1,none⟩ (.int .i64 id)) b mb3 { k with ents:=De,last:=id } K3:=hm3.set (by exact mx_set hx3 (j:=1) _) rfl
       have hb4:=HB3.out.trans (hm3.setBelow 1 (.int .i64 id) (by have:=HB3.out.size;omega))
       have hf4:=HF3.out.trans (CkF.set b w3 1 (.int .i64 id))
       obtain⟨w4,hw4⟩: ∃z,w3.setCell ⟨b,1,none⟩ (.int .i64 id)=z:=⟨_,rfl⟩
       rw[hw4]at hM4 hb4 hf4
       have y4:w4.cell? ⟨b,4,none⟩=some (.int .i64 k.dels):=hM4.cells.2.2.2.2.1
       have f4:=hM4.free 4
       have hx4:=hM4.box
       have hwd:IntKind.i64.wrap (k.dels+1)=k.dels+1:=IntWalk.i64_in _ (by have:=HOK.out.dels;omega)
       have HM5:=Lib.hid (show CkMem XX base (w4.setCell ⟨b,4,none⟩ (.int .i64 (k.dels+1))) b mb3 { k with ents:=De,last:=id,dels:=k.dels+1 } K3 from hM4.set (by exact mx_set hx4 (j:=4) _) rfl)
       have HF5:=Lib.hid (hf4.trans (CkF.set b w4 4 (.int .i64 (k.dels+1))))
       have HB5:=Lib.hid (hb4.trans (hM4.setBelow 4 (.int .i64 (k.dels+1)) (by have:=hb4.size;omega)))
       clear hm3 hM4 hx3 hx4 hb3 hb4 hf4
       go_wp2_with fail
       refine bodyPost_ret (v:=.tuple #[.int .u8 0,.int .i64 Di,.int .i64 0]) (by simp[results,Tryz.results29,go_sem]) rfl ?_
       have hDi:Di=0:=by
        have:=ckDel_zero hs k.ents (by rw[HD.out])
        rw[HD.out]at this
        exact this
       rw[HR5.out,hDi]
       simp only
       rw[HD.out]
       exact⟨rfl,⟨mb3,K3,HM5.out⟩,HB5.out,HF5.out⟩
      ·have q0:((Dx:Int)==0)=false:=beq_eq_false_iff_ne.2 (by omega)
       have HR5:=Lib.hid (HR4.out.trans (if_neg (show¬(ckDel k.ents hs).2.2=0 from by rw[HD.out];exact h0)))
       rw[if_neg h0]at hck3
       have HCK:=Lib.hid hck3
       clear hck3 hb3 h0
       go_wp2_with fail
       refine bodyPost_ret (v:=.tuple #[.int .u8 0,.int .i64 Di,.int .i64 (Dx:Int)]) (by simp[results,Tryz.results29,go_sem]) rfl ?_
       rw[HR5.out]
       simp only
       rw[HD.out]
       exact⟨rfl,HCK.out,HB3.out,HF3.out⟩
     | false=>
      have HR4:=Lib.hid (HR3.out.trans (if_neg (by decide)))
      have hadd:=HAD.out HSB.out rfl wF HBF.out
      obtain⟨D,hD⟩: ∃D,ckAdd k.ents ls hs=D:=⟨_,rfl⟩
      rw[hD]at hadd
      have HD:=Lib.hid hD
      have HADD:=Lib.hid hadd
      obtain⟨De,Di,Dx⟩:=D
      clear hadd hD
      go_wp2_with fail
      refine HADD.out.mono ?_
      rintro e w3 ⟨rfl,hb3⟩
      have HB3:=Lib.hid (HBF.out.trans (hb3.mono hzF))
      have HM3:=Lib.hid (HMF.out.below hb3)
      have HBB3:=Lib.hid (HBB.out.trans (hb3.mono hbF))
      have HFF3:=Lib.hid (HFF.out.trans (CkF.of_below (b:=b) hb3))
      clear hb3 HADD t0 t1 t2 t3
      by_cases h0:Dx=0
      ·subst h0
       have HR5:=Lib.hid (HR4.out.trans (if_neg (show¬(ckAdd k.ents ls hs).2.2≠0 from by rw[HD.out];exact fun h=>h rfl)))
       obtain⟨-,t1,t2,-⟩:=HS.out w3 HB3.out
       have hb3z:base≤w3.heap.size:=by have:=HB3.out.size;omega
       have HPUT:=Lib.hid (ck_put b k id (.slice Al ls.length cl) ls w3 ⟨mb,K,HM3.out⟩ hb3z (wf64 (by have:=HSO.out.id0;simp only at this;omega) (by have:=HSO.out.id1;simp only at this;omega)) (HC.out w3 HB3.out) (clause_len HSO.out.cls) (by have:=HOK.out.len;omega) (fun g hg=>Nat.lt_of_lt_of_le (HXX.out g hg) (Nat.le_trans hzW HB3.out.size)))
       go_wp2_with fail
       refine HPUT.out.mono ?_
       rintro e w4 ⟨rfl,hck4,hb4,hf4⟩
       obtain⟨mb4,K4,hm4⟩:=hck4
       have hbb4:=HBB3.out.trans hb4
       have hff4:=HFF3.out.trans hf4
       clear hb4 hf4 HPUT t1 t2
       have hx4:=hm4.box
       have y3:w4.cell? ⟨b,3,none⟩=some (.int .i64 k.adds):=hm4.cells.2.2.2.1
       have f3:=hm4.free 3
       have hwd:IntKind.i64.wrap (k.adds+1)=k.adds+1:=IntWalk.i64_in _ (by have:=HOK.out.adds;omega)
       have hwr:IntKind.i64.wrap (k.rats+1)=k.rats+1:=IntWalk.i64_in _ (by have:=HOK.out.rats;omega)
       have hM5:CkMem XX base (w4.setCell ⟨b,3,none⟩ (.int .i64 (k.adds+1))) b mb4 { (k.put id ls)with adds:=k.adds+1 } K4:=hm4.set (by exact mx_set hx4 (j:=3) _) rfl
       have hb5:=hbb4.trans (hm4.setBelow 3 (.int .i64 (k.adds+1)) (by have:=hbb4.size;omega))
       have hf5:=hff4.trans (CkF.set b w4 3 (.int .i64 (k.adds+1)))
       obtain⟨w5,hw5⟩: ∃z,w4.setCell ⟨b,3,none⟩ (.int .i64 (k.adds+1))=z:=⟨_,rfl⟩
       rw[hw5]at hM5 hb5 hf5
       have y5:w5.cell? ⟨b,5,none⟩=some (.int .i64 k.rats):=hM5.cells.2.2.2.2.2.1
       have f5:=hM5.free 5
       have hx5:=hM5.box
       have HM5:=Lib.hid hM5
       have HB5:=Lib.hid hb5
       have HF5:=Lib.hid hf5
       clear hm4 hx4 hbb4 hM5 hb5 hff4 hf5
       by_cases h2:De=2
       ·subst h2
        have HM6:=Lib.hid (show CkMem XX base (w5.setCell ⟨b,5,none⟩ (.int .i64 (k.rats+1))) b mb4 { (k.put id ls)with adds:=k.adds+1,rats:=k.rats+1 } K4 from HM5.out.set (by exact mx_set hx5 (j:=5) _) rfl)
        have HF6:=Lib.hid (HF5.out.trans (CkF.set b w5 5 (.int .i64 (k.rats+1))))
        have HB6:=Lib.hid (HB5.out.trans (HM5.out.setBelow 5 (.int .i64 (k.rats+1)) (by have:=HB5.out.size;omega)))
        clear hx5
        go_wp2_with fail
        refine bodyPost_ret (v:=.tuple #[.int .u8 2,.int .i64 0,.int .i64 0]) (by simp[results,Tryz.results29,go_sem]) rfl ?_
        rw[HR5.out]
        simp only
        rw[HD.out]
        exact⟨rfl,⟨mb4,K4,HM6.out⟩,HB6.out,HF6.out⟩
       ·have q2:((De:Int)==2)=false:=beq_eq_false_iff_ne.2 (by omega)
        have H2:=Lib.hid h2
        clear hx5 h2
        go_wp2_with fail
        refine bodyPost_ret (v:=.tuple #[.int .u8 (De:Int),.int .i64 0,.int .i64 0]) (by simp[results,Tryz.results29,go_sem]) rfl ?_
        rw[HR5.out]
        simp only
        rw[HD.out]
        simp only
        rw[if_neg H2.out]
        exact⟨rfl,⟨mb4,K4,HM5.out⟩,HB5.out,HF5.out⟩
      ·have q0:((Dx:Int)==0)=false:=beq_eq_false_iff_ne.2 (by omega)
       have q1:((Dx:Int) != 0)=true:=by rw[bne,q0];rfl
       have HR5:=Lib.hid (HR4.out.trans (if_pos (show(ckAdd k.ents ls hs).2.2≠0 from by rw[HD.out];exact h0)))
       clear h0
       go_wp2_with fail
       refine bodyPost_ret (v:=.tuple #[.int .u8 0,.int .i64 Di,.int .i64 (Dx:Int)]) (by simp[results,Tryz.results29,go_sem]) rfl ?_
       rw[HR5.out]
       simp only
       rw[HD.out]
       exact⟨rfl,⟨mb,K,HM3.out⟩,HBB3.out,HFF3.out⟩
end Go.Proofs.YtajbmjpodeilpaaGreat
namespace Go.Proofs.YtajbmjpodeilpaaGreat
open Go.RowKit Go.Maps Go.Shelf Go.Sort
attribute [local go_sem] Oper.semAt_some
theorem einfo:(Tryz.prog.info? 82).map (fun i=>(i.zero,i.size,i.bytes))=some (some (.agg #[.int .i64 0,.slice none 0 0]),2,32):=by kernel_rfl
structure EMid (w:World) (r:Nat) (E:Ents) (n:Nat) (pre:List EX) (x:EX) (W:World) (B:Nat) (W':World):Prop where
 ej:EJ w r E pre W'
 pr:EPre E n pre x W'
 po:EPost (fun g=>g=r) x W W'
 lo:x.2.2≤B
 box:W'.heap[B]? =some (.cells #[.int .i64 x.1,x.2.1] 82 (0,0))
theorem EMid.turn {w:World} {r:Nat} {E:Ents} {n N:Nat} {pre:List EX} {x:EX} {W W':World} {B l:Nat} {q q':Loop} (hN:w.heap.size≤N) (hl:N≤l) (h2:W'.heap[l]? =some (.loop q)) (h:EMid w r E n pre x W B W'):EMid w r E n pre x W B (W'.putObj l (.loop q')) where
 ej:=(ej_own w r E hN).putObj _ h.ej hl h2 rfl
 pr:=⟨h.pr.lon,Nat.le_trans h.pr.size (grownBy_putObj' W' l (.loop q')).size,h.pr.same,by
  obtain⟨c,a,b⟩:=h.pr.row
  exact⟨c,a,own_nocells b (grownBy_putObj' W' l (.loop q')) (fun g e=>by cases e;exact⟨_,h2,rfl⟩)⟩⟩
 po:=EPost.turn h.po h2
 lo:=h.lo
 box:=(World.putObj_heap_other (by
  rintro rfl
  rw[h.box]at h2
  cases h2)).trans h.box
set_option maxRecDepth 100000 in
set_option maxHeartbeats 4000000 in
theorem append_all {X:Nat→Prop} {base:Nat} (Bb b mb:Nat) (k:Ckr) (K:List (Int×(Value×List Int))) (w:World) (hm:CkMem X base w b mb k K) (hB:w.cell? ⟨Bb,0,none⟩=some (.pointer (some ⟨b,0,none⟩))) (hl:K.length≤1000000) (hcl: ∀p∈K,p.2.2.length≤1000000) (hwf: ∀p∈K,(Lit.int .i64 p.1).wf=true):
  Calls Tryz.prog 97 #[.slice none 0 0,.func (.func 98) #[] #[.pointer (some ⟨Bb,0,none⟩)]] w fun e w'=> ∃v,e= .returned v∧EntOwn w.heap.size w' v k.ents∧Below w.heap.size w w':=by
 obtain⟨i0,hi,iz0,iz1,iz2⟩:=info_parts einfo
 obtain⟨WR,hWR⟩: ∃x,w.alloc (.cells #[.slice none 0 0] 79)=x:=⟨_,rfl⟩
 have hbR:Below w.heap.size w WR:=by rw[←hWR];exact mx_al _ _
 have hcR:Boxed WR w.heap.size 79 (.slice none 0 0):=by rw[←hWR];exact Boxed.new _ _ _
 have hzR:WR.heap.size=w.heap.size+1:=by rw[←hWR];simp
 have HSEQ:=Lib.hid (all_stops (fun g=>g=w.heap.size) Bb b mb k K w WR hm hB hbR (fun g hg=>by omega) hl hcl hwf)
 have HI0:=Lib.hid (show EJ w w.heap.size k.ents [] WR from⟨⟨_,hcR,World.ownsRow_nil _ _ _ _,fun g hg=>by cases hg⟩,fun i x hx=>by simp at hx,hbR⟩)
 have HLEN:=Lib.hid (show k.ents.length≤1000000 from by rw[←hm.len];exact hl)
 have HWR:=Lib.hid hWR
 clear hm hB hWR hbR hcR hcl hwf
 refine(callsIn_wide (n:=10)).1 ?_
 refine callsIn_of_wp_marks Tryz.func97 rfl trivial ?_ rfl
 simp only[Tryz.ntmps97,List.size_toArray,List.length_cons,List.length_nil,Nat.reduceAdd,Nat.reduceSub,Array.replicate_succ,Array.replicate_zero,List.push_toArray,List.append_toArray,List.nil_append,List.cons_append]
 gi_wp2_with fail
 rw[HWR.out]
 refine wpIn_range_M (gf:=98) (lb:= #[.pointer (some ⟨Bb,0,none⟩)]) rfl (enters_of Tryz.func98 (by kernel_rfl) rfl) HSEQ.out (Below.refl _ _) (fun _=>rfl)
  (fun pre x W W3 l r r' h1 h2 h3 h4=>EPost.turn h4 h3) (fun pre x W W3 l r r' h1 h2 h3 h4=>trivial)
  (EJ w w.heap.size k.ents) (fun _ _=>False) (ej_own _ _ _ (by omega)) (fun pre W W' row h _ _=>h) HI0.out
  (fun x Bx=>{ tmps:= #[.slice none 0 0,.func (.func 98) #[] #[.pointer (some ⟨Bb,0,none⟩)],.pointer (some ⟨w.heap.size,0,none⟩),undef,.slice none 0 0,.pointer (some ⟨Bx,0,none⟩),.func (.func 98) #[] #[.pointer (some ⟨Bb,0,none⟩)],.agg #[.int .i64 x.1,x.2.1],undef,undef,undef,undef,undef],defers:= [] }) (EMid w w.heap.size k.ents (WR.heap.size+2))
  (fun pre x W Bx W' l r r' h1 h2 h3 h4=>h4.turn (by omega) h1 h3)
  ?assign ?body ?done ?stop
 case assign=>
  rintro l pre x W K hi hp hK
  dsimp only[exv]
  obtain⟨x1,x2,x3⟩:=x
  obtain⟨W1,W2,W3,hW1,hW2,hW3,f0,f1,f2,y0,y1,y2,hbx,hb3⟩:=two_new W (.int .i64 0) (.slice none 0 0) (.int .i64 x1) x2 82
  have hpr:=hp.row
  obtain⟨c,hec,hrow⟩:=hpr
  have hlo:=hp.lon
  have hsi:=hp.size
  simp only at hec hrow hlo hsi
  have hm:EMid w w.heap.size k.ents (WR.heap.size+2) pre (x1,x2,x3) W W.heap.size W3:=⟨(by
   obtain⟨v,h1,h2,h3⟩:=hi.ex
   exact⟨⟨v,(hb3.block _ (heap_lt h1)).trans h1,own_below h2 hb3,h3⟩,fun i z hz=>by
    obtain⟨c',a,a2,b'⟩:=hi.row i z hz
    exact⟨c',a,a2,own_below b' hb3⟩,hi.low.trans (hb3.mono hi.low.size)⟩),⟨hlo,Nat.le_trans hsi hb3.size,hp.same,⟨c,hec,own_below hrow hb3⟩⟩,KpC.of_below hb3,hsi,hbx⟩
  have hK2:=hK _ _ (KeepsRec.of_below hb3) hm
  obtain⟨A2,c2,rfl,_⟩:=mx_slice hrow
  clear hm hK hp hi hrow hec hbx
  gi_wp2
  revert hK2
  generalize W.heap.size=Bx
  intro hK2
  exact hK2
 case body=>
  rintro l pre x W Bx W' hm
  obtain⟨v,hv,hr,hf⟩:=hm.ej.ex
  have q1:=hv.cell
  have q2:=hv.frozen
  have z0:=mx_cell (j:=0) hm.box
  have z1:=mx_cell (j:=1) hm.box
  obtain⟨c,hec,hrow⟩:=hm.pr.row
  have hr':=own_rebase (b':=x.2.2) hr (fun g hg=>by
   have h:=hf g hg
   obtain⟨y,hy⟩:=List.exists_mem_of_ne_nil _ h.1
   rw[←hm.pr.same y hy]
   exact h.2 y hy)
  obtain⟨A,cc,rfl,hc⟩:=mx_slice hr
  have hln:pre.length≤1000000:=by
   have h1:=(List.getElem?_eq_some_iff.1 hec).1
   have h2:=HLEN.out
   omega
  obtain⟨x1,x2,x3⟩:=x
  simp only at hec hrow hr' z0 z1
  obtain⟨A2,c2,rfl,_⟩:=mx_slice hrow
  have hx3:x3≤W'.heap.size:=hm.pr.size
  have hx0:w.heap.size≤x3:=by have:=hm.pr.lon;simp only at this;omega
  have hz:w.heap.size≤W'.heap.size:=hm.ej.low.size
  have HV:=Lib.hid hv
  have HR:=Lib.hid hr
  have HR':=Lib.hid hr'
  have HF:=Lib.hid hf
  have HM:=Lib.hid hm
  have HEC:=Lib.hid hec
  have HRW:=Lib.hid hrow
  clear hv hr hr' hf hm hec hrow
  gi_wp2_with (gi_at_builtin;refine wpListIn_append_own_at _ rfl _ _ 79 rfl x3 82 i0 (.agg #[.int .i64 0,.slice none 0 0]) 2 32 Tryz.underlying79 hi iz0 iz1 iz2 rfl (by decide) _ pre.length _ rfl (own_below HR'.out (mx_al W' _)) ⟨W'.heap.size,0,none⟩ 1 1 [.int .i64 x1,.slice A2 c.length c2] rfl rfl (fun j u hj=>cells_list_new W' [.int .i64 x1,.slice A2 c.length c2] 82 j u hj) (by simp[Value.oneCell']) (by unfold maxLen;omega) (by omega) (by simp;omega) ?_;intro v' w1 hown' hgrow hnl hat;obtain⟨g1,cap,rfl⟩:=ownsRow_succ hown';have hnew:=own_rebase (b':=w.heap.size) hown' (fun g hg=>by have:=(own_lt hown' g hg).1;omega);have hA:=Boxed.appended HV.out (by decide) HR.out hz (Nat.le_refl _) hnew hgrow;have q3:=hA.1.cell;have q4:=hA.1.frozen)
  obtain⟨a1,a2,a3,a4,a5⟩:=hA
  have hg1:=(own_lt hown' g1 rfl).1
  have hkA:Kept (fun g=>(Value.slice A pre.length cc).ownBlock=some g) W' w1:=(Kept.of_below (mx_al W' (.cells #[.int .i64 x1,.slice A2 c.length c2] 82))).trans (Kept.grown hgrow) (fun i _ h=>h.symm)
  have hkS:Kept (fun g=>g=w.heap.size) w1 (w1.setCell ⟨w.heap.size,0,none⟩ (.slice (some ⟨g1,0,none⟩) (pre.length+1) cap)):=(Kept.refl (fun g=>g=w.heap.size) w1).setCell ⟨w.heap.size,0,none⟩ _ rfl
  have hkeep: ∀{bs n':Nat} {vv:Value} {xs':List Value},W'.ownsRow bs 55 1 vv n' xs'→(w1.setCell ⟨w.heap.size,0,none⟩ (.slice (some ⟨g1,0,none⟩) (pre.length+1) cap)).ownsRow bs 55 1 vv n' xs':=fun {bs n' vv xs'} h=>by
   have h1:=own_kept h hkA (fun g ha hb=>mx_apart h HR.out (by decide) ha hb)
   exact own_kept h1 hkS (fun g ha e=>mx_not h1 a1 (by decide) (by rw[←e];exact ha))
  have A6:EPost (fun g=>g=w.heap.size) (x1,.slice A2 c.length c2,x3) W' (w1.setCell ⟨w.heap.size,0,none⟩ (.slice (some ⟨g1,0,none⟩) (pre.length+1) cap)):=
   ((KpC.of_below (mx_al W' _)).trans ((KpC.of_grown hgrow).mono (fun g _ h=>.inl (by
    have hq:=HF.out g h.symm
    obtain⟨y,hy⟩:=List.exists_mem_of_ne_nil _ hq.1
    rw[←HM.out.pr.same y hy]
    exact hq.2 y hy)))).trans ((KpC.of_grown (grownBy_setCell' w1 w.heap.size _)).mono (fun g _ h=>.inr (by cases h;rfl)))
  have HFIN:=Lib.hid (show KeepsRec W' (w1.setCell ⟨w.heap.size,0,none⟩ (.slice (some ⟨g1,0,none⟩) (pre.length+1) cap))∧EJ w w.heap.size k.ents (pre++ [(x1,.slice A2 c.length c2,x3)]) (w1.setCell ⟨w.heap.size,0,none⟩ (.slice (some ⟨g1,0,none⟩) (pre.length+1) cap))∧EPost (fun g=>g=w.heap.size) (x1,.slice A2 c.length c2,x3) W (w1.setCell ⟨w.heap.size,0,none⟩ (.slice (some ⟨g1,0,none⟩) (pre.length+1) cap))from
   ⟨keepsRec_others a4,⟨⟨_,a2,(by rw[List.length_append,List.flatMap_append];exact a3),fun g hg=>⟨by simp,fun y hy=>by
    have e:g1=g:=by simpa [Value.ownBlock] using hg
    rcases List.mem_append.1 hy with h|h
    ·rw[HM.out.pr.same y h]
     show x3≤g
     omega
    ·rw[List.mem_singleton.1 h]
     show x3≤g
     omega⟩⟩,fun i z hzz=>by
    rcases Nat.lt_or_ge i pre.length with hi2|hi2
    ·rw[List.getElem?_append_left hi2]at hzz
     obtain⟨c',a,a2',b'⟩:=HM.out.ej.row i z hzz
     exact⟨c',a,a2',hkeep b'⟩
    ·have hi3:=(List.getElem?_eq_some_iff.1 hzz).1
     rw[List.length_append,List.length_singleton]at hi3
     obtain rfl:i=pre.length:=by omega
     rw[List.getElem?_append_right (Nat.le_refl _),Nat.sub_self]at hzz
     obtain rfl:=Option.some.inj hzz
     exact⟨c,HEC.out,hx0,hkeep HRW.out⟩,HM.out.ej.low.trans a5⟩,KpC.trans HM.out.po A6⟩)
  clear a1 a2 a3 a4 a5 hown' hgrow hnl hat hnew hkA hkS A6 q1 q2 q3 q4 z0 z1
  try gi_wp2
  exact HFIN.out
 case done=>
  rintro D zs W hD hS hej hDf
  obtain⟨v,hv,hr,-⟩:=hej.ex
  have q1:=hv.cell
  have hlz:zs.length=k.ents.length:=by
   have:=congrArg List.length (show zs.map Prod.fst=k.ents.map Prod.fst from hS)
   rwa [List.length_map,List.length_map]at this
  have HE:=Lib.hid (show EntOwn w.heap.size W v k.ents from⟨zs,hlz,by rw[←hlz];exact hr,fun i x hx=>by
   obtain⟨c,a,b,d⟩:=hej.row i x hx
   exact⟨c,a,own_mono d b⟩⟩)
  have HB:=Lib.hid hej.low
  have HD:=Lib.hid hDf
  obtain⟨A,c,rfl,hc⟩:=mx_slice hr
  rw[hlz]at HE
  clear hv hr hej hDf hS
  gi_wp2
  refine⟨by simp,.inl ⟨_,_,rfl,run_takeDeferred HD.out,?_⟩⟩
  have hD0:w.heap.size≤D:=by omega
  refine⟨_,results_tmp rfl _ _ _,_,rfl,?_,HB.out.trans ?_⟩
  ·exact HE.out.grownNo (grownBy_putObj' W D (.deferred none)) (fun g e=>by
    cases e
    exact⟨_,HD.out,rfl⟩)
  ·exact(Below.refl _ _).grown (grownBy_putObj' W D _) HB.out.size (fun g e=>by cases e;exact hD0)
 case stop=>
  rintro D pre W hD _ hf _
  exact hf.elim
end Go.Proofs.YtajbmjpodeilpaaGreat
