/- package salvorlaw10: ProofWrong. -/
import Derived.Test.YtkfgplfllddhnaaGreatDoorV730
import Derived.Test.YtkfgplfllddhnaaGreatDoorV729
import Derived.Test.YtkfgplfllddhnaaGreatDoorV715
namespace Go.Proofs.YtkfgplfllddhnaaGreatDoor
open Go.RowKit
theorem two_setW {w5:World} {yb:Nat} {z0 z1:Value} {t:TypeId} (hb:w5.heap[yb]? =some (.cells #[z0,z1] t (0,0))) (a0 a1:Value): ∃wy,((w5.setCell ⟨yb,0,none⟩ a0).setCell ⟨yb,1,none⟩ a1)=wy∧wy.heap[yb]? =some (.cells #[a0,a1] t (0,0))∧Kept (fun g=>g=yb) w5 wy:=
 ⟨_,rfl,mx_set (j:=1) (mx_set (j:=0) hb a0) a1,((Kept.refl (fun g=>g=yb) w5).setCell ⟨yb,0,none⟩ _ rfl).setCell ⟨yb,1,none⟩ _ rfl⟩
theorem i64_rngW {x:Int} (h:(Lit.int .i64 x).wf=true): -9223372036854775808≤x∧x≤9223372036854775807:=by
 simp only[Lit.wf,Bool.and_eq_true,decide_eq_true_eq]at h
 exact⟨h.1,h.2⟩
def wantE (r:Nat):Nat:=if r=0 then 50 else if r=1 then 51 else 20
def Chosen (r:Nat) (A:Option Addr) (nn k:Nat) (A8:Option Addr) (k8:Nat) (A15:Option Addr) (k15:Nat) (vN:Int) (AL:Option Addr) (nL kL:Nat):Prop:=
 (r=0∧vN= -1∧AL=A∧nL=nn∧kL=k)∨(r=1∧vN=6∧AL=A8∧nL=nn+1∧kL=k8)∨(r=2∧vN=6∧AL=A15∧nL=nn+1∧kL=k15)
theorem chosen_at {X:World} {b17 r nn k k8 k15:Nat} {A A8 A15:Option Addr} {t:TypeId} (H17:X.heap[b17]? =some (.cells #[.int .i64 (-1),.slice A nn k,.int .i64 6,.slice A8 (nn+1) k8,.int .i64 6,.slice A15 (nn+1) k15] t (0,0))) (h:r=0∨r=1∨r=2): ∃(vN:Int) (AL:Option Addr) (nL kL:Nat),X.cell? ⟨b17,r*2,none⟩=some (.int .i64 vN)∧X.cell? ⟨b17,r*2+1,none⟩=some (.slice AL nL kL)∧Chosen r A nn k A8 k8 A15 k15 vN AL nL kL:=by
 have e0:=mx_cell (j:=r*2) H17
 have e1:=mx_cell (j:=r*2+1) H17
 rcases h with h|h|h
 ·subst h
  exact⟨_,_,_,_,e0,e1,.inl ⟨rfl,rfl,rfl,rfl,rfl⟩⟩
 ·subst h
  exact⟨_,_,_,_,e0,e1,.inr (.inl ⟨rfl,rfl,rfl,rfl,rfl⟩)⟩
 ·subst h
  exact⟨_,_,_,_,e0,e1,.inr (.inr ⟨rfl,rfl,rfl,rfl,rfl⟩)⟩
theorem wrong_chosen {P X wy:World} {cs:List (List Int)} {us:List Value} {r nn k b6 b13 k8 k15 nL kL b22:Nat} {A A8 A15 AL:Option Addr} {vN:Int} (h6: ∀c∈cs,Lit6 c) (hn:cs.length=nn) (hle:nn≤1000) (hcl:ClsIn (fun _=>True) P (.slice A nn k) cs) (hus:us.length=nn) (hin: ∀(i:Nat) (c:List Int),cs[i]? =some c→∃u,us[i]? =some u∧IntsIn (fun _=>True) P u c)
  (hS:Below P.heap.size P X) (H6:X.heap[b6]? =some (.cells #[.int .i64 7] 31 (0,0))) (H13:X.heap[b13]? =some (.cells #[.int .i64 1,.int .i64 0] 31 (0,0))) (H8:X.ownsRow P.heap.size 30 1 (.slice A8 (nn+1) k8) (nn+1) (us++ [.slice (some ⟨b6,0,none⟩) 1 1])) (H15:X.ownsRow P.heap.size 30 1 (.slice A15 (nn+1) k15) (nn+1) (us++ [.slice (some ⟨b13,0,none⟩) 2 2])) (HV:Chosen r A nn k A8 k8 A15 k15 vN AL nL kL) (hB:P.heap.size≤b22) (H22:X.heap[b22]? =some (.cells #[.int .i64 0,.slice none 0 0] 26 (0,0))) (hk:Kept (fun g=>g=b22) X wy):
  ∃cl',ClsIn (fun _=>True) wy (.slice AL nL kL) cl'∧(∀c∈cl',c.length≤100000000000)∧(fchk vN cl').2=wantE r:=by
 have hI: ∀(u:Value) (c:List Int),IntsIn (fun _=>True) P u c→IntsIn (fun _=>True) wy u c:=fun u c h=>((h.lt.below hS).kept hk (fun g h e=>by have:=h.2;omega)).mono fun _ _=>trivial
 have hL: ∀c∈cs,c.length≤100000000000:=fun c hc=>by have:=(h6 c hc).1;omega
 have row: ∀{Az:Option Addr} {kz bz:Nat} {zs:List Int},X.ownsRow P.heap.size 30 1 (.slice Az (nn+1) kz) (nn+1) (us++ [.slice (some ⟨bz,0,none⟩) zs.length zs.length])→X.heap[bz]? =some (.cells (zs.map (Value.int .i64)).toArray 31 (0,0))→ClsIn (fun _=>True) wy (.slice Az (nn+1) kz) (cs++ [zs]):=fun {Az kz bz zs} ho hz=>by
  have ho2:=own_kept ho hk (fun g e1 e2=>mx_not ho H22 (by decide) (by rw[e1,e2]))
  have hl:(cs++ [zs]).length=nn+1:=by rw[List.length_append,hn];rfl
  rw[←hl]at ho2⊢
  refine cls_of_row ho2 fun i c hc=>?_
  rcases Nat.lt_or_ge i cs.length with hi|hi
  ·rw[List.getElem?_append_left hi]at hc
   obtain⟨u,e1,e2⟩:=hin i c hc
   exact⟨u,by rw[List.getElem?_append_left (by omega)];exact e1,hI u c e2⟩
  ·have hi2:=(List.getElem?_eq_some_iff.1 hc).1
   obtain rfl:i=cs.length:=by omega
   rw[List.getElem?_append_right (Nat.le_refl _),Nat.sub_self]at hc
   obtain rfl:=Option.some.inj hc
   refine⟨_,by rw[List.getElem?_append_right (by omega),show cs.length-us.length=0 by omega];rfl,ints_blk (t:=31) (z:=(0,0)) ?_ trivial⟩
   refine(hk.block _ (heap_lt hz) (fun e=>?_)).trans hz
   rw[e,H22]at hz
   simp at hz
 rcases HV with⟨rfl,rfl,rfl,rfl,rfl⟩|⟨rfl,rfl,rfl,rfl,rfl⟩|⟨rfl,rfl,rfl,rfl,rfl⟩
 ·exact⟨cs,((hcl.lt.below hS).kept hk (fun g h e=>by have:=h.2;omega)).mono fun _ _=>trivial,hL,fchk_vars cs⟩
 ·refine⟨cs++ [[7]],row (zs:= [7]) H8 H6,fun c hc=>?_,fchk_lit h6 (by omega)⟩
  rcases List.mem_append.1 hc with hc|hc
  ·exact hL c hc
  ·rw[List.mem_singleton.1 hc]
   show 1≤100000000000
   decide
 ·refine⟨cs++ [[1,0]],row (zs:= [1,0]) H15 H13,fun c hc=>?_,fchk_cls h6 (by omega)⟩
  rcases List.mem_append.1 hc with hc|hc
  ·exact hL c hc
  ·rw[List.mem_singleton.1 hc]
   show 2≤100000000000
   decide
set_option maxRecDepth 100000 in
set_option maxHeartbeats 16000000 in
theorem wrong_any (q n:Int) (l:Value) (xss:List (List Int)) (w:World) (hl:RowsAt .i8 w l xss) (hq:(Lit.int .u8 q).wf=true) (hnw:(Lit.int .i64 n).wf=true):
  Calls Tryz.prog 3 #[l,.int .u8 q,.int .i64 n] w fun e w'=>e= .returned (.bool true)∧Below w.heap.size w w':=by
 obtain⟨cs,hcs⟩: ∃cs,(xss.take 14).map madeL=cs:=⟨_,rfl⟩
 have HAW:=Lib.hid (awake10_any w)
 have HMD:=Lib.hid (fun(X:World) (hX:Below w.heap.size w X)=>made10_any l xss X (hl.below hX) hcs rfl)
 have HX:=Lib.hid True.intro
 have h6: ∀c∈cs,Lit6 c:=by rw[←hcs];exact made_six xss
 have hcn:cs.length≤14:=by rw[←hcs,List.length_map,List.length_take];omega
 obtain⟨hq0,hq1⟩:=u8_rng10 hq
 have H6C:=Lib.hid h6
 clear hcs hl h6 hq
 go_enter Tryz.func3,Tryz.ntmps3
 go_wp2_with fail
 refine HAW.out.mono ?_
 rintro e w1 ⟨rfl,hb1⟩
 have HB1:=Lib.hid hb1
 clear hb1 HAW
 go_wp2_with fail
 refine(HMD.out w1 HB1.out).mono ?_
 rintro e w2 ⟨A,k,rfl,hcl,hb2⟩
 obtain⟨P,hP,hb3,hc3,-⟩:=al_new w2 #[.int .i64 6,.slice A cs.length k] 26
 have HC3:=Lib.hid ((hcl.clsIn.below hb3).mono (O':=fun _=>True) fun _ _=>trivial)
 have HB3:=Lib.hid (HB1.out.trans ((hb2.trans (hb3.mono hb2.size)).mono HB1.out.size))
 have HP:=Lib.hid hP
 have HX3:=Lib.hid hc3
 clear hP hb3 hc3 hcl hb2 HMD HX
 obtain⟨nn,hnn⟩: ∃nn,cs.length=nn:=⟨_,rfl⟩
 have HNN:=Lib.hid hnn
 rw[hnn]at HC3 HX3 HP hcn
 obtain⟨us,hus,hsrc,hone,hin⟩:=HC3.out.src
 rw[hnn]at hus hsrc
 obtain⟨i0,hi,hz0,hz1,hz2⟩:=info_parts info_cls
 have hAn:A=none→nn=0∧k=0:=by
  obtain⟨A',c',hv,hc,hnone,_⟩:=HC3.out
  simp only[Value.slice.injEq]at hv
  obtain⟨rfl,-,rfl⟩:=hv
  intro h
  have:=hnone h
  omega
 have HCLN:=Lib.hid (fun(X:World) (hX:Below P.heap.size P X)=>clone_row A nn k us X (hsrc.below hX) hAn hus hone (by omega))
 obtain⟨r,hr⟩: ∃r:Nat,(r:Int)=q.tmod 3:=⟨(q.tmod 3).toNat,by
  have:=Int.tmod_nonneg 3 hq0
  omega⟩
 have hr3:r<3:=by
  have:=Int.tmod_lt_of_pos q (show(0:Int)<3 by decide)
  omega
 have hmod:=hr.symm
 have hwr:IntKind.u8.wrap (r:Int)=r:=IntWalk.u8_in _ (by omega)
 have hwr2:IntKind.i64.wrap (r:Int)=r:=IntWalk.i64_in _ (by omega)
 have hr3':(r:Int)<3:=by omega
 have hr012:r=0∨r=1∨r=2:=by omega
 have hr3d:decide ((r:Int)<3)=true:=decide_eq_true hr3'
 have HCH:=Lib.hid (fun(X wy:World) (b6 b13:Nat) (A8:Option Addr) (k8:Nat) (A15:Option Addr) (k15:Nat) (vN:Int) (AL:Option Addr) (nL kL:Nat) (hS:Below P.heap.size P X) (H6:X.heap[b6]? =some (.cells #[.int .i64 7] 31 (0,0))) (H13:X.heap[b13]? =some (.cells #[.int .i64 1,.int .i64 0] 31 (0,0))) (H8:X.ownsRow P.heap.size 30 1 (.slice A8 (nn+1) k8) (nn+1) (us++ [.slice (some ⟨b6,0,none⟩) 1 1])) (H15:X.ownsRow P.heap.size 30 1 (.slice A15 (nn+1) k15) (nn+1) (us++ [.slice (some ⟨b13,0,none⟩) 2 2])) (HV:Chosen r A nn k A8 k8 A15 k15 vN AL nL kL) (b22:Nat) (H22:X.heap[b22]? =some (.cells #[.int .i64 0,.slice none 0 0] 26 (0,0))) (hk:Kept (fun g=>g=b22) X wy) (hB:P.heap.size≤b22)=>wrong_chosen H6C.out HNN.out (by omega) HC3.out hus hin hS H6 H13 H8 H15 HV hB H22 hk)
 have hxl:=heap_lt HX3.out
 have hmx:nn+1≤maxLen:=by unfold maxLen;omega
 have hmx2:(nn+1)*24≤140737488355328:=by omega
 have hone1: ∀{bz kz:Nat},∀q∈ [Value.slice (some ⟨bz,0,none⟩) kz kz],q.oneCell'=true:=fun {bz kz} q hq=>by cases List.mem_singleton.1 hq;rfl
 have c0:=mx_cell (j:=0) HX3.out
 have c1:=mx_cell (j:=1) HX3.out
 rw[hnn]
 clear hr hus hsrc hone hin hAn hnn
 go_upto_region 4 with fail
 rw[HP.out]
 go_cut [8] (fun p wx=> ∃(bb:Nat) (vN:Int) (AL:Option Addr) (nL kL:Nat) (cl':List (List Int)),p= .pointer (some ⟨bb,0,none⟩)∧Hid (P.heap.size≤bb)∧Hid (wx.heap[bb]? =some (.cells #[.int .i64 vN,.slice AL nL kL] 26 (0,0)))∧Hid (ClsIn (fun _=>True) wx (.slice AL nL kL) cl')∧Hid (∀c∈cl',c.length≤100000000000)∧Hid ((fchk vN cl').2=wantE r)∧Hid (Below P.heap.size P wx))
 case rest=>
  as_aux_lemma=>
  obtain⟨bb,vN,AL,nL,kL,cl',rfl,HB,HBB,HCL,HLE,HFE,HBW⟩:=hcut
  obtain⟨E,hE⟩: ∃E,wantE r=E:=⟨_,rfl⟩
  rw[hE]at HFE
  have hE0:E≠0:=by
   rw[←hE]
   unfold wantE
   split
   ·decide
   ·split <;> decide
  obtain⟨W5,hW5,hb5,hc5,-⟩:=al_new wc #[.int .i64 50,.int .i64 51,.int .i64 20] 33
  have e5:W5.cell? ⟨wc.heap.size,r,none⟩=some (.int .i64 (E:Int)):=by
   rw[←hE,mx_cell hc5]
   match r,hr3 with
   | 0,_=>rfl
   | 1,_=>rfl
   | 2,_=>rfl
  have HBL:=Lib.hid (heap_lt HBB.out)
  have HB5:=Lib.hid hb5
  have HNEW:=Lib.hid (fun(X:World) (hX:Below wc.heap.size wc X)=>new_bad (n:=vN) X (HCL.out.below hX) HLE.out HFE.out hE0)
  have HCHK:=Lib.hid (fun(X:World) (hX:Below wc.heap.size wc X)=>check_bad (n:=vN) (.slice none 0 0) X (HCL.out.below hX) HLE.out HFE.out hE0)
  have HTXT:=Lib.hid (fun(X:World) (hX:Below wc.heap.size wc X)=>text_bad (n:=vN) (.string ⟨#[120]⟩) X (HCL.out.below hX) HLE.out HFE.out hE0)
  have HTRM:=Lib.hid (fun(X:World) (hX:Below wc.heap.size wc X)=>trim_bad (n:=vN) (.slice none 0 0) X (HCL.out.below hX) HLE.out HFE.out hE0)
  unfold repZ at HCHK HTXT
  have HBX:=Lib.hid (fun(X:World) (hX:Below wc.heap.size wc X)=>(hX.block _ HBL.out).trans HBB.out)
  have HW5:=Lib.hid hW5
  have he0:((E:Int)==(E:Int))=true:=beq_self_eq_true _
  have he1:((E:Int) != (E:Int))=false:=bne_self_eq_false _
  have HC5:=Lib.hid hc5
  clear hE hb5 hc5 HCLN HCH c0 c1
  have b0:=mx_cell (j:=0) (HBX.out W5 HB5.out)
  have b1:=mx_cell (j:=1) (HBX.out W5 HB5.out)
  go_wp2_with fail
  refine(HNEW.out W5 HB5.out).mono ?_
  rintro e w6 ⟨rfl,hb6⟩
  have HB6:=Lib.hid (HB5.out.trans (hb6.mono HB5.out.size))
  clear hb6 b0 b1 e5 HNEW hW5
  have b0:=mx_cell (j:=0) (HBX.out w6 HB6.out)
  have b1:=mx_cell (j:=1) (HBX.out w6 HB6.out)
  go_wp2_with fail
  refine(HCHK.out w6 HB6.out).mono ?_
  rintro e w7 ⟨rfl,hb7⟩
  obtain⟨W7,hW7,hb7',hc7,-⟩:=al_new w7 #[.bool false,.int .i64 0,.int .i64 0,.int .i64 0,.int .i64 0] 39
  have HB7:=Lib.hid (HB6.out.trans ((hb7.trans (hb7'.mono hb7.size)).mono HB6.out.size))
  have HC7:=Lib.hid hc7
  have HW7:=Lib.hid hW7
  clear hb7 hb7' hc7 hW7 b0 b1 HCHK
  go_upto_region 8 with fail
  rw[HW7.out]
  have b0:=mx_cell (j:=0) (HBX.out W7 HB7.out)
  have b1:=mx_cell (j:=1) (HBX.out W7 HB7.out)
  go_wp2_with fail
  refine(HTXT.out W7 HB7.out).mono ?_
  rintro e w8 ⟨rfl,hb8⟩
  obtain⟨W8,hW8,hb8',hc8,-⟩:=al_new w8 #[.bool false,.int .i64 0,.int .i64 0,.int .i64 0,.int .i64 0] 39
  have hb78:=hb8.trans (hb8'.mono hb8.size)
  have HB8:=Lib.hid (HB7.out.trans (hb78.mono HB7.out.size))
  have HC78:=Lib.hid ((hb78.block _ (heap_lt HC7.out)).trans HC7.out)
  have HC8:=Lib.hid hc8
  have HW8:=Lib.hid hW8
  clear hb8 hb8' hc8 hW8 hb78 b0 b1 HTXT
  go_upto_region 9 with fail
  rw[HW8.out]
  have b0:=mx_cell (j:=0) (HBX.out W8 HB8.out)
  have b1:=mx_cell (j:=1) (HBX.out W8 HB8.out)
  go_wp2_with fail
  refine(HTRM.out W8 HB8.out).mono ?_
  rintro e w9 ⟨rfl,hb9⟩
  have HB9:=Lib.hid (HB8.out.trans (hb9.mono HB8.out.size))
  have hx7:=(hb9.block _ (heap_lt HC78.out)).trans HC78.out
  have hx8:=(hb9.block _ (heap_lt HC8.out)).trans HC8.out
  have m0:=mx_cell (j:=0) hx7
  have m1:=mx_cell (j:=1) hx7
  have m2:=mx_cell (j:=2) hx7
  have m3:=mx_cell (j:=3) hx7
  have m4:=mx_cell (j:=4) hx7
  have p0:=mx_cell (j:=0) hx8
  have p1:=mx_cell (j:=1) hx8
  have p2:=mx_cell (j:=2) hx8
  have p3:=mx_cell (j:=3) hx8
  have p4:=mx_cell (j:=4) hx8
  have HP9:=Lib.hid (HBW.out.trans (HB9.out.mono HBW.out.size))
  have HNG:=Lib.hid (ck_new 6 _ cs w9 (HC3.out.below HP9.out) (fun c hc=>(H6C.out c hc).clause) (by rw[HNN.out];omega) (lit6_fchk H6C.out (by rw[HNN.out];omega)))
  have c0:=(HP9.out.cell (p:=⟨w2.heap.size,0,none⟩) hxl).trans (mx_cell (j:=0) HX3.out)
  have c1:=(HP9.out.cell (p:=⟨w2.heap.size,1,none⟩) hxl).trans (mx_cell (j:=1) HX3.out)
  clear hb9 hx7 hx8 b0 b1 HTRM
  go_wp2_with fail
  refine HNG.out.mono ?_
  rintro e w10 ⟨bk,rfl,hck,hb10⟩
  rw[ckrNew_of]at hck
  have HCK:=Lib.hid hck
  have HB10:=Lib.hid hb10
  obtain⟨z,hz⟩: ∃z,cs.any List.isEmpty=z:=⟨_,rfl⟩
  have HPRV:=Lib.hid (show Calls Tryz.prog 11 #[.pointer (some ⟨bk,0,none⟩)] w10 fun e w'=>e= .returned (.bool z)∧w10=w' from hz▸ck_proved bk (ckrOf cs 0) w10 hck)
  have HZ:=Lib.hid hz
  have HEN:=Lib.hid (HB3.out.trans ((HP9.out.trans (hb10.mono HP9.out.size)).mono HB3.out.size))
  clear hz hck hb10 m0 m1 m2 m3 m4 p0 p1 p2 p3 p4 c0 c1 HNG
  go_wp2_with fail
  refine HPRV.out.mono ?_
  rintro e w' ⟨rfl,rfl⟩
  clear HPRV
  cases z with
  | true=>
   go_wp2_with fail
   go_ret
   exact⟨rfl,HEN.out⟩
  | false=>
  have hok:=ckrOf_ok (j:=0) (fun c hc=>(H6C.out c hc).clause) (show cs.length≤1000 by rw[HNN.out];omega) (by decide)
  have HOK:=Lib.hid hok
  have HDO:=Lib.hid (fun(X:World) (s:EStep) (lv hv:Value) (hX:Below w9.heap.size w10 X) (hk:CkAt w9.heap.size X bk (ckrOf cs 0)) (hl:IntsIn (fun _=>True) X lv s.lits) (hh:IntsIn (fun _=>True) X hv s.hints) (h1:s.lits.length≤10) (h2:s.hints.length≤10)=>ck_do_all (N:=1000) bk (ckrOf cs 0) s lv hv X hk (by have:=HB10.out.size;have:=hX.size;omega) HOK.out (by decide) hl hh (by omega) (by omega))
  have HQ:=Lib.hid (fun(X:World) (hX:Below w9.heap.size w10 X)=>show X.cell? ⟨w2.heap.size,0,none⟩=some (.int .i64 6)∧X.cell? ⟨w2.heap.size,1,none⟩=some (.slice A nn k)from by
   have hb:=HP9.out.trans ((HB10.out.trans hX).mono HP9.out.size)
   exact⟨(hb.cell (p:=⟨w2.heap.size,0,none⟩) hxl).trans (mx_cell (j:=0) HX3.out),(hb.cell (p:=⟨w2.heap.size,1,none⟩) hxl).trans (mx_cell (j:=1) HX3.out)⟩)
  obtain⟨ea,hea⟩: ∃ea:Int,min n (nn:Int)=ea:=⟨_,rfl⟩
  have heb:ea≤(nn:Int):=by omega
  have hec: -9223372036854775808≤ea:=by
   have:=i64_rngW hnw
   omega
  have HEA:=Lib.hid heb
  obtain⟨c0,c1⟩:=HQ.out w10 (Below.refl _ _)
  go_upto_region 16 with fail
  clear c0 c1
  go_cut [23,24,21] (fun a b c wx=> ∃at1 er1:Int,a= .int .u8 0∧b= .int .i64 at1∧c= .int .i64 er1∧Hid (ea<1∧er1=70∨1≤ea∧er1=100∧at1=ea)∧Hid (CkAt w9.heap.size wx bk (ckrOf cs 0))∧Hid (Below w9.heap.size w10 wx))
  case first=>
   obtain⟨V,hV,hbV,hcV,-⟩:=al_new w10 #[.int .i64 1,.int .i64 (-1)] 31
   have hbV9:=hbV.mono HB10.out.size
   have HD:=HDO.out V ⟨false,ea,[1,-1],[]⟩ (.slice (some ⟨w10.heap.size,0,none⟩) 2 2) (.slice none 0 0) hbV9 (HCK.out.below hbV) (ints_blk (xs:= [1,-1]) hcV trivial) (IntsIn.nil _ _) (by show 2≤10;decide) (by show 0≤10;decide)
   have HV9:=Lib.hid hbV9
   by_cases hlo:ea<1
   ·rw[wr_low HZ.out hlo]at HD
    have HD1:=Lib.hid (show Calls Tryz.prog 12 #[.pointer (some ⟨bk,0,none⟩),.agg #[.bool false,.int .i64 ea,.slice (some ⟨w10.heap.size,0,none⟩) 2 2,.slice none 0 0]] V fun e w'=>e= .returned (.tuple #[.int .u8 0,.int .i64 0,.int .i64 70])∧CkAt w9.heap.size w' bk (ckrOf cs 0)∧Below w9.heap.size V w'∧CkF bk V w' from HD)
    clear HD hbV hcV hbV9
    go_wp2_with fail
    refine HD1.out.mono ?_
    rintro e w11 ⟨rfl,hck,hb,-⟩
    have HCK2:=Lib.hid hck
    have HB2:=Lib.hid (HV9.out.trans hb)
    clear hck hb HD1
    go_wp2_with fail
    go_meet
    exact⟨0,70,rfl,rfl,rfl,Lib.hid (.inl ⟨hlo,rfl⟩),HCK2,HB2⟩
   ·have hhi:1≤ea:=by omega
    rw[wr_early HZ.out hhi (by rw[HNN.out];exact HEA.out) (by rw[HNN.out];omega)]at HD
    have HD1:=Lib.hid (show Calls Tryz.prog 12 #[.pointer (some ⟨bk,0,none⟩),.agg #[.bool false,.int .i64 ea,.slice (some ⟨w10.heap.size,0,none⟩) 2 2,.slice none 0 0]] V fun e w'=>e= .returned (.tuple #[.int .u8 0,.int .i64 ea,.int .i64 100])∧CkAt w9.heap.size w' bk (ckrOf cs 0)∧Below w9.heap.size V w'∧CkF bk V w' from HD)
    clear HD hbV hcV hbV9
    go_wp2_with fail
    refine HD1.out.mono ?_
    rintro e w11 ⟨rfl,hck,hb,-⟩
    have HCK2:=Lib.hid hck
    have HB2:=Lib.hid (HV9.out.trans hb)
    clear hck hb HD1
    go_wp2_with fail
    go_meet
    exact⟨ea,100,rfl,rfl,rfl,Lib.hid (.inr ⟨hhi,rfl,rfl⟩),HCK2,HB2⟩
  case rest=>
  as_aux_lemma=>
  obtain⟨at1,er1,rfl,rfl,rfl,HER,HCK2,HB2⟩:=hcut
  obtain⟨w11,hw11⟩: ∃x,wc=x:=⟨_,rfl⟩
  rw[hw11]at HCK2 HB2⊢
  clear hw11
  go_upto_region 17 with fail
  go_cut [169] (fun t wx=>t= .bool false∧w11=wx)
  case first=>
   rcases HER.out with⟨h1,h2⟩|⟨h1,h2,h3⟩
   ·subst h2
    have q1:decide (ea<1)=true:=decide_eq_true h1
    have q2:decide (1≤ea)=false:=decide_eq_false (by omega)
    go_wp2_with fail
    go_meet
    exact⟨rfl,rfl⟩
   ·subst h2 h3
    have q1:decide (at1<1)=false:=decide_eq_false (by omega)
    have q2:decide (1≤at1)=true:=decide_eq_true h1
    go_wp2_with fail
    go_meet
    exact⟨rfl,rfl⟩
  case rest=>
  as_aux_lemma=>
  obtain⟨rfl,rfl⟩:=hcut
  obtain⟨w12,hw12⟩: ∃x,w11=x:=⟨_,rfl⟩
  rw[hw12]at HCK2 HB2⊢
  clear hw12 HER
  obtain⟨id1,hid1⟩: ∃id1:Int,1+(nn:Int)=id1:=⟨_,rfl⟩
  have hwid:IntKind.i64.wrap id1=id1:=IntWalk.i64_in _ (by omega)
  have HID:=Lib.hid hid1
  obtain⟨c0,c1⟩:=HQ.out w12 HB2.out
  obtain⟨V,hV,hbV,hcV,-⟩:=al_new w12 #[.int .i64 0] 31
  have hbV9:=HB2.out.trans (hbV.mono (by have:=HB10.out.size;have:=HB2.out.size;omega))
  have HD:=HDO.out V ⟨false,id1,[0],[]⟩ (.slice (some ⟨w12.heap.size,0,none⟩) 1 1) (.slice none 0 0) hbV9 (HCK2.out.below hbV) (ints_blk (xs:= [0]) hcV trivial) (IntsIn.nil _ _) (by show 1≤10;decide) (by show 0≤10;decide)
  rw[wr_zero HZ.out]at HD
  have HD1:=Lib.hid (show Calls Tryz.prog 12 #[.pointer (some ⟨bk,0,none⟩),.agg #[.bool false,.int .i64 id1,.slice (some ⟨w12.heap.size,0,none⟩) 1 1,.slice none 0 0]] V fun e w'=>e= .returned (.tuple #[.int .u8 0,.int .i64 0,.int .i64 70])∧CkAt w9.heap.size w' bk (ckrOf cs 0)∧Below w9.heap.size V w'∧CkF bk V w' from HD)
  have HV9:=Lib.hid hbV9
  clear HD hbV hcV hbV9
  go_wp2_with fail
  refine HD1.out.mono ?_
  rintro e w13 ⟨rfl,hck,hb,-⟩
  have HCK3:=Lib.hid hck
  have HB3':=Lib.hid (HV9.out.trans hb)
  clear hck hb HD1 hV c0 c1
  obtain⟨c0,c1⟩:=HQ.out w13 HB3'.out
  obtain⟨U,hU,hbU,hcU,-⟩:=al_new w13 #[.int .i64 (-1)] 3
  have hbU9:=HB3'.out.trans (hbU.mono (by have:=HB10.out.size;have:=HB3'.out.size;omega))
  have HD:=HDO.out U ⟨true,id1,[],[-1]⟩ (.slice none 0 0) (.slice (some ⟨w13.heap.size,0,none⟩) 1 1) hbU9 (HCK3.out.below hbU) (IntsIn.nil _ _) (ints_blk (xs:= [-1]) hcU trivial) (by show 0≤10;decide) (by show 1≤10;decide)
  rw[wr_neg HZ.out]at HD
  have HD1:=Lib.hid (show Calls Tryz.prog 12 #[.pointer (some ⟨bk,0,none⟩),.agg #[.bool true,.int .i64 id1,.slice none 0 0,.slice (some ⟨w13.heap.size,0,none⟩) 1 1]] U fun e w'=>e= .returned (.tuple #[.int .u8 0,.int .i64 0,.int .i64 70])∧CkAt w9.heap.size w' bk (ckrOf cs 0)∧Below w9.heap.size U w'∧CkF bk U w' from HD)
  have HU9:=Lib.hid hbU9
  clear HD hbU hcU hbU9
  go_wp2_with fail
  refine HD1.out.mono ?_
  rintro e w14 ⟨rfl,hck,hb,-⟩
  have HCK4:=Lib.hid hck
  have HB4:=Lib.hid (HU9.out.trans hb)
  clear hck hb HD1 hU c0 c1
  obtain⟨c0,c1⟩:=HQ.out w14 HB4.out
  obtain⟨Y,hY,hbY,hcY,-⟩:=al_new w14 #[.int .i64 id1] 3
  have hbY9:=HB4.out.trans (hbY.mono (by have:=HB10.out.size;have:=HB4.out.size;omega))
  have HD:=HDO.out Y ⟨true,id1,[],[id1]⟩ (.slice none 0 0) (.slice (some ⟨w14.heap.size,0,none⟩) 1 1) hbY9 (HCK4.out.below hbY) (IntsIn.nil _ _) (ints_blk (xs:= [id1]) hcY trivial) (by show 0≤10;decide) (by show 1≤10;decide)
  have hgone:=wr_gone HZ.out (show cs.length≤1000 by rw[HNN.out];omega)
  rw[HNN.out,show(nn:Int)+1=id1 by have:=HID.out;omega]at hgone
  rw[hgone]at HD
  have HD1:=Lib.hid (show Calls Tryz.prog 12 #[.pointer (some ⟨bk,0,none⟩),.agg #[.bool true,.int .i64 id1,.slice none 0 0,.slice (some ⟨w14.heap.size,0,none⟩) 1 1]] Y fun e w'=>e= .returned (.tuple #[.int .u8 0,.int .i64 id1,.int .i64 91])∧CkAt w9.heap.size w' bk (ckrOf cs 0)∧Below w9.heap.size Y w'∧CkF bk Y w' from HD)
  have HY9:=Lib.hid hbY9
  clear HD hbY hcY hbY9 hgone
  go_wp2_with fail
  refine HD1.out.mono ?_
  rintro e w15 ⟨rfl,hck,hb,-⟩
  have HB15:=Lib.hid (HY9.out.trans hb)
  have hxl5:=Nat.lt_of_lt_of_le hxl (HP9.out.trans ((HB10.out.trans HB15.out).mono HP9.out.size)).size
  obtain⟨-,c1'⟩:=HQ.out w15 HB15.out
  have HLA:=Lib.hid (fun(X:World) (hX:Below w15.heap.size w15 X)=>show Calls Tryz.prog 13 #[.pointer (some ⟨bk,0,none⟩)] X fun e w'=>e= .returned (.int .i64 (nn:Int))∧X=w' from by
   have:=ck_last bk (ckrOf cs 0) X (hck.below hX)
   rw[show(ckrOf cs 0).last=(nn:Int)from by show(cs.length:Int)=nn;rw[HNN.out]]at this
   exact this)
  have HREP:=Lib.hid (fun(X:World) (hX:Below w15.heap.size w15 X)=>show Calls Tryz.prog 14 #[.pointer (some ⟨bk,0,none⟩)] X fun e w'=>e= .returned (.agg #[.bool false,.int .i64 0,.int .i64 0,.int .i64 0,.int .i64 (nn:Int)])∧Below X.heap.size X w' from by
   have:=ck_report bk (ckrOf cs 0) X (hck.below hX)
   rw[show(ckrOf cs 0).rep= .agg #[.bool false,.int .i64 0,.int .i64 0,.int .i64 0,.int .i64 (nn:Int)]from by show Value.agg #[.bool (cs.any List.isEmpty),.int .i64 0,.int .i64 0,.int .i64 0,.int .i64 (cs.length:Int)]=_;rw[HZ.out,HNN.out]]at this
   exact this)
  have HFIN0:=Lib.hid (HB3.out.trans ((HP9.out.trans ((HB10.out.trans HB15.out).mono HP9.out.size)).mono HB3.out.size))
  clear hck hb HD1 hY c0 c1
  go_upto_region 22 with fail
  refine wp_region_held_drew (S:=fun w'=>Below w15.heap.size w15 w') (by kernel_rfl) (mx_drew w15) (fun hS=>?_)
  obtain⟨xD,hxD⟩: ∃z,w15.drew=z:=⟨_,rfl⟩
  rw[hxD]at hS⊢
  clear hxD
  refine takeE 0 210 ?_
  refine takeE 1 211 ?_
  refine takeE 2 212 ?_
  refine takeE 3 213 ?_
  refine takeE 4 214 ?_
  refine takeE 5 215 ?_
  refine takeE 6 216 ?_
  refine takeE 7 217 ?_
  refine takeE 8 218 ?_
  refine takeE 9 219 ?_
  refine takeE 10 220 ?_
  refine takeE 11 221 ?_
  refine takeE 12 222 ?_
  refine takeF 13 223 (fun wq hSw=>(hSw.cell (p:=⟨w2.heap.size,1,none⟩) hxl5).trans c1') ?_
  refine takeE 14 224 ?_
  refine takeE 15 225 ?_
  refine takeE 16 226 ?_
  refine takeE 17 227 ?_
  refine takeE 18 228 ?_
  refine takeE 19 229 ?_
  refine takeE 21 231 ?_
  refine takeF 22 232 (fun wq hSw=>(hSw.cell (p:=⟨w2.heap.size,1,none⟩) hxl5).trans c1') ?_
  refine takeE 23 233 ?_
  refine ready1 20 (fun KK hKK=>?_)
  go_simp
  refine(HLA.out _ hS).mono ?_
  rintro e w16 ⟨rfl,rfl⟩
  refine hKK.out _ _ hS (fun _=>?_)
  clear hKK
  refine takeE 24 234 ?_
  refine takeE 25 235 ?_
  refine takeE 26 236 ?_
  refine takeE 27 237 ?_
  refine takeE 29 239 ?_
  refine takeF 30 240 (fun wq hSw=>(hSw.cell (p:=⟨w2.heap.size,1,none⟩) hxl5).trans c1') ?_
  refine takeE 31 241 ?_
  refine takeE 32 242 ?_
  refine ready1 28 (fun KK hKK=>?_)
  go_simp
  refine(HREP.out _ hS).mono ?_
  rintro e w17 ⟨rfl,hbN⟩
  have hSN:=hS.trans (hbN.mono hS.size)
  refine hKK.out _ _ hSN (fun _=>?_)
  clear hKK
  refine takeE 33 243 ?_
  refine takeE 34 244 ?_
  refine takeE 35 6 ?_
  refine wpAnyH_done (by kernel_rfl) ?_ _
  have HFIN:=Lib.hid (HFIN0.out.trans (hSN.mono HFIN0.out.size))
  clear hSN hS hbN
  go_wp2_with fail
  go_ret
  exact⟨rfl,HFIN.out⟩
 case first=>
  refine wp_region_held_drew (S:=fun w'=>Below P.heap.size P w') (by kernel_rfl) (mx_drew P) (fun hS=>?_)
  obtain⟨X,hxD⟩: ∃z,P.drew=z:=⟨_,rfl⟩
  rw[hxD]at hS⊢
  clear hxD
  refine takeE 0 29 ?_
  refine takeF 1 30 (fun wq hSw=>(hSw.cell (p:=⟨w2.heap.size,1,none⟩) hxl).trans c1) ?_
  refine takeE 2 31 ?_
  refine takeE 3 32 ?_
  refine takeF 4 33 (fun wq hSw=>(hSw.cell (p:=⟨w2.heap.size,1,none⟩) hxl).trans c1) ?_
  refine takeE 10 39 ?_
  refine takeF 11 40 (fun wq hSw=>(hSw.cell (p:=⟨w2.heap.size,1,none⟩) hxl).trans c1) ?_
  refine takeE 18 47 ?_
  refine takeE 19 48 ?_
  apply via
  intro T5_6_7_8_12_13_14_15_17_21_22
  apply via
  intro T5_6_7_8_12_13_14_15_17_22
  apply via
  intro T5_6_7_8_12_13_14_15_17_21
  apply via
  intro T5_6_7_8_12_13_14_15_22
  apply via
  intro T5_6_7_8_12_13_14_15_17
  apply via
  intro T5_6_7_8_12_13_14_22
  apply via
  intro T5_6_7_8_12_13_14_15
  apply via
  intro T5_6_7_8_13_14_22
  apply via
  intro T5_6_7_8_12_13_22
  apply via
  intro T5_6_7_8_12_13_14
  apply via
  intro T5_6_7_13_14_22
  apply via
  intro T5_6_7_8_13_22
  apply via
  intro T5_6_7_8_13_14
  apply via
  intro T5_6_7_8_12_22
  apply via
  intro T5_6_7_8_12_13
  apply via
  intro T6_7_13_14_22
  apply via
  intro T5_6_13_14_22
  apply via
  intro T5_6_7_13_22
  apply via
  intro T5_6_7_13_14
  apply via
  intro T5_6_7_8_22
  apply via
  intro T5_6_7_8_13
  apply via
  intro T5_6_7_8_12
  apply via
  intro T6_13_14_22
  apply via
  intro T6_7_13_22
  apply via
  intro T6_7_13_14
  apply via
  intro T5_13_14_22
  apply via
  intro T5_6_13_22
  apply via
  intro T5_6_13_14
  apply via
  intro T5_6_7_22
  apply via
  intro T5_6_7_13
  apply via
  intro T5_6_7_8
  apply via
  intro T13_14_22
  apply via
  intro T6_13_22
  apply via
  intro T6_13_14
  apply via
  intro T6_7_22
  apply via
  intro T6_7_13
  apply via
  intro T5_13_22
  apply via
  intro T5_13_14
  apply via
  intro T5_6_22
  apply via
  intro T5_6_13
  apply via
  intro T5_6_7
  apply via
  intro T13_22
  apply via
  intro T13_14
  apply via
  intro T6_22
  apply via
  intro T6_13
  apply via
  intro T6_7
  apply via
  intro T5_22
  apply via
  intro T5_13
  apply via
  intro T5_6
  apply via
  intro T22
  apply via
  intro T13
  apply via
  intro T6
  apply via
  intro T5
  ·refine wpAnyH_ready (rs:= [5,6,13,22]) (by kernel_rfl) (by simp) ?_
   refine(AllReadyH.cons rfl (fun KK hKK=>?_) (AllReadyH.cons rfl (fun KK hKK=>?_) (AllReadyH.cons rfl (fun KK hKK=>?_) (AllReadyH.cons rfl (fun KK hKK=>?_) AllReadyH.nil))))
   ·go_simp
    refine(HCLN.out X hS).mono ?_
    rintro e Y ⟨vC,rfl,hC0,hb⟩
    have H5:=own_rebase (b':=P.heap.size) hC0 (fun g hg=>Nat.le_trans hS.size (own_lt hC0 g hg).1)
    obtain⟨A5,k5,rfl,-⟩:=mx_slice H5
    replace hS:=hS.trans (hb.mono hS.size)
    refine hKK.out _ _ hS (fun hSx=>?_)
    clear hSx hKK hC0
    clear hb
    revert H5
    revert hS
    revert k5
    revert A5
    revert Y
    exact T5
   ·go_simp
    obtain⟨Y,hw,hb,H6,-⟩:=al_new X #[.int .i64 7] 31
    rw[hw]
    obtain⟨b6,hbn⟩: ∃b,X.heap.size=b:=⟨_,rfl⟩
    rw[hbn]at H6⊢
    replace hS:=hS.trans (hb.mono hS.size)
    refine hKK.out _ _ hS (fun hSx=>?_)
    clear hSx hKK hbn hw
    clear hb
    revert H6
    revert hS
    revert b6
    revert Y
    exact T6
   ·go_simp
    obtain⟨Y,hw,hb,H13,-⟩:=al_new X #[.int .i64 1,.int .i64 0] 31
    rw[hw]
    obtain⟨b13,hbn⟩: ∃b,X.heap.size=b:=⟨_,rfl⟩
    rw[hbn]at H13⊢
    replace hS:=hS.trans (hb.mono hS.size)
    refine hKK.out _ _ hS (fun hSx=>?_)
    clear hSx hKK hbn hw
    clear hb
    revert H13
    revert hS
    revert b13
    revert Y
    exact T13
   ·go_simp
    obtain⟨Y,hw,hb,H22,-⟩:=al_new X #[.int .i64 0,.slice none 0 0] 26
    rw[hw]
    obtain⟨b22,hbn⟩: ∃b,X.heap.size=b:=⟨_,rfl⟩
    rw[hbn]at H22⊢
    have hB22:P.heap.size≤b22:=hbn▸hS.size
    replace hS:=hS.trans (hb.mono hS.size)
    refine hKK.out _ _ hS (fun hSx=>?_)
    clear hSx hKK hbn hw
    clear hb
    revert hB22
    revert H22
    revert hS
    revert b22
    revert Y
    exact T22
  ·intro X A5 k5 hS H5
   refine wpAnyH_ready (rs:= [6,13,22]) (by kernel_rfl) (by simp) ?_
   refine(AllReadyH.cons rfl (fun KK hKK=>?_) (AllReadyH.cons rfl (fun KK hKK=>?_) (AllReadyH.cons rfl (fun KK hKK=>?_) AllReadyH.nil)))
   ·go_simp
    obtain⟨Y,hw,hb,H6,-⟩:=al_new X #[.int .i64 7] 31
    rw[hw]
    obtain⟨b6,hbn⟩: ∃b,X.heap.size=b:=⟨_,rfl⟩
    rw[hbn]at H6⊢
    replace hS:=hS.trans (hb.mono hS.size)
    refine hKK.out _ _ hS (fun hSx=>?_)
    clear hSx hKK hbn hw
    replace H5:=own_below H5 hb
    clear hb
    revert H6
    revert H5
    revert hS
    revert b6
    revert k5
    revert A5
    revert Y
    exact T5_6
   ·go_simp
    obtain⟨Y,hw,hb,H13,-⟩:=al_new X #[.int .i64 1,.int .i64 0] 31
    rw[hw]
    obtain⟨b13,hbn⟩: ∃b,X.heap.size=b:=⟨_,rfl⟩
    rw[hbn]at H13⊢
    replace hS:=hS.trans (hb.mono hS.size)
    refine hKK.out _ _ hS (fun hSx=>?_)
    clear hSx hKK hbn hw
    replace H5:=own_below H5 hb
    clear hb
    revert H13
    revert H5
    revert hS
    revert b13
    revert k5
    revert A5
    revert Y
    exact T5_13
   ·go_simp
    obtain⟨Y,hw,hb,H22,-⟩:=al_new X #[.int .i64 0,.slice none 0 0] 26
    rw[hw]
    obtain⟨b22,hbn⟩: ∃b,X.heap.size=b:=⟨_,rfl⟩
    rw[hbn]at H22⊢
    have hB22:P.heap.size≤b22:=hbn▸hS.size
    replace hS:=hS.trans (hb.mono hS.size)
    refine hKK.out _ _ hS (fun hSx=>?_)
    clear hSx hKK hbn hw
    replace H5:=own_below H5 hb
    clear hb
    revert hB22
    revert H22
    revert H5
    revert hS
    revert b22
    revert k5
    revert A5
    revert Y
    exact T5_22
  ·intro X b6 hS H6
   refine wpAnyH_ready (rs:= [5,7,13,22]) (by kernel_rfl) (by simp) ?_
   refine(AllReadyH.cons rfl (fun KK hKK=>?_) (AllReadyH.cons rfl (fun KK hKK=>?_) (AllReadyH.cons rfl (fun KK hKK=>?_) (AllReadyH.cons rfl (fun KK hKK=>?_) AllReadyH.nil))))
   ·go_simp
    refine(HCLN.out X hS).mono ?_
    rintro e Y ⟨vC,rfl,hC0,hb⟩
    have H5:=own_rebase (b':=P.heap.size) hC0 (fun g hg=>Nat.le_trans hS.size (own_lt hC0 g hg).1)
    obtain⟨A5,k5,rfl,-⟩:=mx_slice H5
    replace hS:=hS.trans (hb.mono hS.size)
    refine hKK.out _ _ hS (fun hSx=>?_)
    clear hSx hKK hC0
    replace H6:=(hb.block _ (heap_lt H6)).trans H6
    clear hb
    exact T5_6 Y A5 k5 b6 hS H5 H6
   ·go_simp
    obtain⟨Y,hw,hb,H7,-⟩:=al_new X #[.slice (some ⟨b6,0,none⟩) 1 1] 30
    rw[hw]
    obtain⟨b7,hbn⟩: ∃b,X.heap.size=b:=⟨_,rfl⟩
    rw[hbn]at H7⊢
    replace hS:=hS.trans (hb.mono hS.size)
    refine hKK.out _ _ hS (fun hSx=>?_)
    clear hSx hKK hbn hw
    replace H6:=(hb.block _ (heap_lt H6)).trans H6
    clear hb
    revert H7
    revert H6
    revert hS
    revert b7
    revert b6
    revert Y
    exact T6_7
   ·go_simp
    obtain⟨Y,hw,hb,H13,-⟩:=al_new X #[.int .i64 1,.int .i64 0] 31
    rw[hw]
    obtain⟨b13,hbn⟩: ∃b,X.heap.size=b:=⟨_,rfl⟩
    rw[hbn]at H13⊢
    replace hS:=hS.trans (hb.mono hS.size)
    refine hKK.out _ _ hS (fun hSx=>?_)
    clear hSx hKK hbn hw
    replace H6:=(hb.block _ (heap_lt H6)).trans H6
    clear hb
    revert H13
    revert H6
    revert hS
    revert b13
    revert b6
    revert Y
    exact T6_13
   ·go_simp
    obtain⟨Y,hw,hb,H22,-⟩:=al_new X #[.int .i64 0,.slice none 0 0] 26
    rw[hw]
    obtain⟨b22,hbn⟩: ∃b,X.heap.size=b:=⟨_,rfl⟩
    rw[hbn]at H22⊢
    have hB22:P.heap.size≤b22:=hbn▸hS.size
    replace hS:=hS.trans (hb.mono hS.size)
    refine hKK.out _ _ hS (fun hSx=>?_)
    clear hSx hKK hbn hw
    replace H6:=(hb.block _ (heap_lt H6)).trans H6
    clear hb
    revert hB22
    revert H22
    revert H6
    revert hS
    revert b22
    revert b6
    revert Y
    exact T6_22
  ·intro X b13 hS H13
   refine wpAnyH_ready (rs:= [5,6,14,22]) (by kernel_rfl) (by simp) ?_
   refine(AllReadyH.cons rfl (fun KK hKK=>?_) (AllReadyH.cons rfl (fun KK hKK=>?_) (AllReadyH.cons rfl (fun KK hKK=>?_) (AllReadyH.cons rfl (fun KK hKK=>?_) AllReadyH.nil))))
   ·go_simp
    refine(HCLN.out X hS).mono ?_
    rintro e Y ⟨vC,rfl,hC0,hb⟩
    have H5:=own_rebase (b':=P.heap.size) hC0 (fun g hg=>Nat.le_trans hS.size (own_lt hC0 g hg).1)
    obtain⟨A5,k5,rfl,-⟩:=mx_slice H5
    replace hS:=hS.trans (hb.mono hS.size)
    refine hKK.out _ _ hS (fun hSx=>?_)
    clear hSx hKK hC0
    replace H13:=(hb.block _ (heap_lt H13)).trans H13
    clear hb
    exact T5_13 Y A5 k5 b13 hS H5 H13
   ·go_simp
    obtain⟨Y,hw,hb,H6,-⟩:=al_new X #[.int .i64 7] 31
    rw[hw]
    obtain⟨b6,hbn⟩: ∃b,X.heap.size=b:=⟨_,rfl⟩
    rw[hbn]at H6⊢
    replace hS:=hS.trans (hb.mono hS.size)
    refine hKK.out _ _ hS (fun hSx=>?_)
    clear hSx hKK hbn hw
    replace H13:=(hb.block _ (heap_lt H13)).trans H13
    clear hb
    exact T6_13 Y b6 b13 hS H6 H13
   ·go_simp
    obtain⟨Y,hw,hb,H14,-⟩:=al_new X #[.slice (some ⟨b13,0,none⟩) 2 2] 30
    rw[hw]
    obtain⟨b14,hbn⟩: ∃b,X.heap.size=b:=⟨_,rfl⟩
    rw[hbn]at H14⊢
    replace hS:=hS.trans (hb.mono hS.size)
    refine hKK.out _ _ hS (fun hSx=>?_)
    clear hSx hKK hbn hw
    replace H13:=(hb.block _ (heap_lt H13)).trans H13
    clear hb
    revert H14
    revert H13
    revert hS
    revert b14
    revert b13
    revert Y
    exact T13_14
   ·go_simp
    obtain⟨Y,hw,hb,H22,-⟩:=al_new X #[.int .i64 0,.slice none 0 0] 26
    rw[hw]
    obtain⟨b22,hbn⟩: ∃b,X.heap.size=b:=⟨_,rfl⟩
    rw[hbn]at H22⊢
    have hB22:P.heap.size≤b22:=hbn▸hS.size
    replace hS:=hS.trans (hb.mono hS.size)
    refine hKK.out _ _ hS (fun hSx=>?_)
    clear hSx hKK hbn hw
    replace H13:=(hb.block _ (heap_lt H13)).trans H13
    clear hb
    revert hB22
    revert H22
    revert H13
    revert hS
    revert b22
    revert b13
    revert Y
    exact T13_22
  ·intro X b22 hS H22 hB22
   refine wpAnyH_ready (rs:= [5,6,13]) (by kernel_rfl) (by simp) ?_
   refine(AllReadyH.cons rfl (fun KK hKK=>?_) (AllReadyH.cons rfl (fun KK hKK=>?_) (AllReadyH.cons rfl (fun KK hKK=>?_) AllReadyH.nil)))
   ·go_simp
    refine(HCLN.out X hS).mono ?_
    rintro e Y ⟨vC,rfl,hC0,hb⟩
    have H5:=own_rebase (b':=P.heap.size) hC0 (fun g hg=>Nat.le_trans hS.size (own_lt hC0 g hg).1)
    obtain⟨A5,k5,rfl,-⟩:=mx_slice H5
    replace hS:=hS.trans (hb.mono hS.size)
    refine hKK.out _ _ hS (fun hSx=>?_)
    clear hSx hKK hC0
    replace H22:=(hb.block _ (heap_lt H22)).trans H22
    clear hb
    exact T5_22 Y A5 k5 b22 hS H5 H22 hB22
   ·go_simp
    obtain⟨Y,hw,hb,H6,-⟩:=al_new X #[.int .i64 7] 31
    rw[hw]
    obtain⟨b6,hbn⟩: ∃b,X.heap.size=b:=⟨_,rfl⟩
    rw[hbn]at H6⊢
    replace hS:=hS.trans (hb.mono hS.size)
    refine hKK.out _ _ hS (fun hSx=>?_)
    clear hSx hKK hbn hw
    replace H22:=(hb.block _ (heap_lt H22)).trans H22
    clear hb
    exact T6_22 Y b6 b22 hS H6 H22 hB22
   ·go_simp
    obtain⟨Y,hw,hb,H13,-⟩:=al_new X #[.int .i64 1,.int .i64 0] 31
    rw[hw]
    obtain⟨b13,hbn⟩: ∃b,X.heap.size=b:=⟨_,rfl⟩
    rw[hbn]at H13⊢
    replace hS:=hS.trans (hb.mono hS.size)
    refine hKK.out _ _ hS (fun hSx=>?_)
    clear hSx hKK hbn hw
    replace H22:=(hb.block _ (heap_lt H22)).trans H22
    clear hb
    exact T13_22 Y b13 b22 hS H13 H22 hB22
  ·intro X A5 k5 b6 hS H5 H6
   refine wpAnyH_ready (rs:= [7,13,22]) (by kernel_rfl) (by simp) ?_
   refine(AllReadyH.cons rfl (fun KK hKK=>?_) (AllReadyH.cons rfl (fun KK hKK=>?_) (AllReadyH.cons rfl (fun KK hKK=>?_) AllReadyH.nil)))
   ·go_simp
    obtain⟨Y,hw,hb,H7,-⟩:=al_new X #[.slice (some ⟨b6,0,none⟩) 1 1] 30
    rw[hw]
    obtain⟨b7,hbn⟩: ∃b,X.heap.size=b:=⟨_,rfl⟩
    rw[hbn]at H7⊢
    replace hS:=hS.trans (hb.mono hS.size)
    refine hKK.out _ _ hS (fun hSx=>?_)
    clear hSx hKK hbn hw
    replace H5:=own_below H5 hb
    replace H6:=(hb.block _ (heap_lt H6)).trans H6
    clear hb
    revert H7
    revert H6
    revert H5
    revert hS
    revert b7
    revert b6
    revert k5
    revert A5
    revert Y
    exact T5_6_7
   ·go_simp
    obtain⟨Y,hw,hb,H13,-⟩:=al_new X #[.int .i64 1,.int .i64 0] 31
    rw[hw]
    obtain⟨b13,hbn⟩: ∃b,X.heap.size=b:=⟨_,rfl⟩
    rw[hbn]at H13⊢
    replace hS:=hS.trans (hb.mono hS.size)
    refine hKK.out _ _ hS (fun hSx=>?_)
    clear hSx hKK hbn hw
    replace H5:=own_below H5 hb
    replace H6:=(hb.block _ (heap_lt H6)).trans H6
    clear hb
    revert H13
    revert H6
    revert H5
    revert hS
    revert b13
    revert b6
    revert k5
    revert A5
    revert Y
    exact T5_6_13
   ·go_simp
    obtain⟨Y,hw,hb,H22,-⟩:=al_new X #[.int .i64 0,.slice none 0 0] 26
    rw[hw]
    obtain⟨b22,hbn⟩: ∃b,X.heap.size=b:=⟨_,rfl⟩
    rw[hbn]at H22⊢
    have hB22:P.heap.size≤b22:=hbn▸hS.size
    replace hS:=hS.trans (hb.mono hS.size)
    refine hKK.out _ _ hS (fun hSx=>?_)
    clear hSx hKK hbn hw
    replace H5:=own_below H5 hb
    replace H6:=(hb.block _ (heap_lt H6)).trans H6
    clear hb
    revert hB22
    revert H22
    revert H6
    revert H5
    revert hS
    revert b22
    revert b6
    revert k5
    revert A5
    revert Y
    exact T5_6_22
  ·intro X A5 k5 b13 hS H5 H13
   refine wpAnyH_ready (rs:= [6,14,22]) (by kernel_rfl) (by simp) ?_
   refine(AllReadyH.cons rfl (fun KK hKK=>?_) (AllReadyH.cons rfl (fun KK hKK=>?_) (AllReadyH.cons rfl (fun KK hKK=>?_) AllReadyH.nil)))
   ·go_simp
    obtain⟨Y,hw,hb,H6,-⟩:=al_new X #[.int .i64 7] 31
    rw[hw]
    obtain⟨b6,hbn⟩: ∃b,X.heap.size=b:=⟨_,rfl⟩
    rw[hbn]at H6⊢
    replace hS:=hS.trans (hb.mono hS.size)
    refine hKK.out _ _ hS (fun hSx=>?_)
    clear hSx hKK hbn hw
    replace H5:=own_below H5 hb
    replace H13:=(hb.block _ (heap_lt H13)).trans H13
    clear hb
    exact T5_6_13 Y A5 k5 b6 b13 hS H5 H6 H13
   ·go_simp
    obtain⟨Y,hw,hb,H14,-⟩:=al_new X #[.slice (some ⟨b13,0,none⟩) 2 2] 30
    rw[hw]
    obtain⟨b14,hbn⟩: ∃b,X.heap.size=b:=⟨_,rfl⟩
    rw[hbn]at H14⊢
    have N1: ∀g,(Value.slice A5 nn k5).ownBlock=some g→g≠b14:=fun g e e2=>Nat.lt_irrefl _ (by have h:=(own_lt H5 g e).2;rw[hbn,e2]at h;exact h)
    replace hS:=hS.trans (hb.mono hS.size)
    refine hKK.out _ _ hS (fun hSx=>?_)
    clear hSx hKK hbn hw
    replace H5:=own_below H5 hb
    replace H13:=(hb.block _ (heap_lt H13)).trans H13
    clear hb
    revert N1
    revert H14
    revert H13
    revert H5
    revert hS
    revert b14
    revert b13
    revert k5
    revert A5
    revert Y
    exact T5_13_14
   ·go_simp
    obtain⟨Y,hw,hb,H22,-⟩:=al_new X #[.int .i64 0,.slice none 0 0] 26
    rw[hw]
    obtain⟨b22,hbn⟩: ∃b,X.heap.size=b:=⟨_,rfl⟩
    rw[hbn]at H22⊢
    have hB22:P.heap.size≤b22:=hbn▸hS.size
    replace hS:=hS.trans (hb.mono hS.size)
    refine hKK.out _ _ hS (fun hSx=>?_)
    clear hSx hKK hbn hw
    replace H5:=own_below H5 hb
    replace H13:=(hb.block _ (heap_lt H13)).trans H13
    clear hb
    revert hB22
    revert H22
    revert H13
    revert H5
    revert hS
    revert b22
    revert b13
    revert k5
    revert A5
    revert Y
    exact T5_13_22
  ·intro X A5 k5 b22 hS H5 H22 hB22
   refine wpAnyH_ready (rs:= [6,13]) (by kernel_rfl) (by simp) ?_
   refine(AllReadyH.cons rfl (fun KK hKK=>?_) (AllReadyH.cons rfl (fun KK hKK=>?_) AllReadyH.nil))
   ·go_simp
    obtain⟨Y,hw,hb,H6,-⟩:=al_new X #[.int .i64 7] 31
    rw[hw]
    obtain⟨b6,hbn⟩: ∃b,X.heap.size=b:=⟨_,rfl⟩
    rw[hbn]at H6⊢
    replace hS:=hS.trans (hb.mono hS.size)
    refine hKK.out _ _ hS (fun hSx=>?_)
    clear hSx hKK hbn hw
    replace H5:=own_below H5 hb
    replace H22:=(hb.block _ (heap_lt H22)).trans H22
    clear hb
    exact T5_6_22 Y A5 k5 b6 b22 hS H5 H6 H22 hB22
   ·go_simp
    obtain⟨Y,hw,hb,H13,-⟩:=al_new X #[.int .i64 1,.int .i64 0] 31
    rw[hw]
    obtain⟨b13,hbn⟩: ∃b,X.heap.size=b:=⟨_,rfl⟩
    rw[hbn]at H13⊢
    replace hS:=hS.trans (hb.mono hS.size)
    refine hKK.out _ _ hS (fun hSx=>?_)
    clear hSx hKK hbn hw
    replace H5:=own_below H5 hb
    replace H22:=(hb.block _ (heap_lt H22)).trans H22
    clear hb
    exact T5_13_22 Y A5 k5 b13 b22 hS H5 H13 H22 hB22
  ·intro X b6 b7 hS H6 H7
   refine wpAnyH_ready (rs:= [5,13,22]) (by kernel_rfl) (by simp) ?_
   refine(AllReadyH.cons rfl (fun KK hKK=>?_) (AllReadyH.cons rfl (fun KK hKK=>?_) (AllReadyH.cons rfl (fun KK hKK=>?_) AllReadyH.nil)))
   ·go_simp
    refine(HCLN.out X hS).mono ?_
    rintro e Y ⟨vC,rfl,hC0,hb⟩
    have H5:=own_rebase (b':=P.heap.size) hC0 (fun g hg=>Nat.le_trans hS.size (own_lt hC0 g hg).1)
    obtain⟨A5,k5,rfl,-⟩:=mx_slice H5
    replace hS:=hS.trans (hb.mono hS.size)
    refine hKK.out _ _ hS (fun hSx=>?_)
    clear hSx hKK hC0
    replace H6:=(hb.block _ (heap_lt H6)).trans H6
    replace H7:=(hb.block _ (heap_lt H7)).trans H7
    clear hb
    exact T5_6_7 Y A5 k5 b6 b7 hS H5 H6 H7
   ·go_simp
    obtain⟨Y,hw,hb,H13,-⟩:=al_new X #[.int .i64 1,.int .i64 0] 31
    rw[hw]
    obtain⟨b13,hbn⟩: ∃b,X.heap.size=b:=⟨_,rfl⟩
    rw[hbn]at H13⊢
    replace hS:=hS.trans (hb.mono hS.size)
    refine hKK.out _ _ hS (fun hSx=>?_)
    clear hSx hKK hbn hw
    replace H6:=(hb.block _ (heap_lt H6)).trans H6
    replace H7:=(hb.block _ (heap_lt H7)).trans H7
    clear hb
    revert H13
    revert H7
    revert H6
    revert hS
    revert b13
    revert b7
    revert b6
    revert Y
    exact T6_7_13
   ·go_simp
    obtain⟨Y,hw,hb,H22,-⟩:=al_new X #[.int .i64 0,.slice none 0 0] 26
    rw[hw]
    obtain⟨b22,hbn⟩: ∃b,X.heap.size=b:=⟨_,rfl⟩
    rw[hbn]at H22⊢
    have hB22:P.heap.size≤b22:=hbn▸hS.size
    replace hS:=hS.trans (hb.mono hS.size)
    refine hKK.out _ _ hS (fun hSx=>?_)
    clear hSx hKK hbn hw
    replace H6:=(hb.block _ (heap_lt H6)).trans H6
    replace H7:=(hb.block _ (heap_lt H7)).trans H7
    clear hb
    revert hB22
    revert H22
    revert H7
    revert H6
    revert hS
    revert b22
    revert b7
    revert b6
    revert Y
    exact T6_7_22
  ·intro X b6 b13 hS H6 H13
   refine wpAnyH_ready (rs:= [5,7,14,22]) (by kernel_rfl) (by simp) ?_
   refine(AllReadyH.cons rfl (fun KK hKK=>?_) (AllReadyH.cons rfl (fun KK hKK=>?_) (AllReadyH.cons rfl (fun KK hKK=>?_) (AllReadyH.cons rfl (fun KK hKK=>?_) AllReadyH.nil))))
   ·go_simp
    refine(HCLN.out X hS).mono ?_
    rintro e Y ⟨vC,rfl,hC0,hb⟩
    have H5:=own_rebase (b':=P.heap.size) hC0 (fun g hg=>Nat.le_trans hS.size (own_lt hC0 g hg).1)
    obtain⟨A5,k5,rfl,-⟩:=mx_slice H5
    replace hS:=hS.trans (hb.mono hS.size)
    refine hKK.out _ _ hS (fun hSx=>?_)
    clear hSx hKK hC0
    replace H6:=(hb.block _ (heap_lt H6)).trans H6
    replace H13:=(hb.block _ (heap_lt H13)).trans H13
    clear hb
    exact T5_6_13 Y A5 k5 b6 b13 hS H5 H6 H13
   ·go_simp
    obtain⟨Y,hw,hb,H7,-⟩:=al_new X #[.slice (some ⟨b6,0,none⟩) 1 1] 30
    rw[hw]
    obtain⟨b7,hbn⟩: ∃b,X.heap.size=b:=⟨_,rfl⟩
    rw[hbn]at H7⊢
    replace hS:=hS.trans (hb.mono hS.size)
    refine hKK.out _ _ hS (fun hSx=>?_)
    clear hSx hKK hbn hw
    replace H6:=(hb.block _ (heap_lt H6)).trans H6
    replace H13:=(hb.block _ (heap_lt H13)).trans H13
    clear hb
    exact T6_7_13 Y b6 b7 b13 hS H6 H7 H13
   ·go_simp
    obtain⟨Y,hw,hb,H14,-⟩:=al_new X #[.slice (some ⟨b13,0,none⟩) 2 2] 30
    rw[hw]
    obtain⟨b14,hbn⟩: ∃b,X.heap.size=b:=⟨_,rfl⟩
    rw[hbn]at H14⊢
    replace hS:=hS.trans (hb.mono hS.size)
    refine hKK.out _ _ hS (fun hSx=>?_)
    clear hSx hKK hbn hw
    replace H6:=(hb.block _ (heap_lt H6)).trans H6
    replace H13:=(hb.block _ (heap_lt H13)).trans H13
    clear hb
    revert H14
    revert H13
    revert H6
    revert hS
    revert b14
    revert b13
    revert b6
    revert Y
    exact T6_13_14
   ·go_simp
    obtain⟨Y,hw,hb,H22,-⟩:=al_new X #[.int .i64 0,.slice none 0 0] 26
    rw[hw]
    obtain⟨b22,hbn⟩: ∃b,X.heap.size=b:=⟨_,rfl⟩
    rw[hbn]at H22⊢
    have hB22:P.heap.size≤b22:=hbn▸hS.size
    replace hS:=hS.trans (hb.mono hS.size)
    refine hKK.out _ _ hS (fun hSx=>?_)
    clear hSx hKK hbn hw
    replace H6:=(hb.block _ (heap_lt H6)).trans H6
    replace H13:=(hb.block _ (heap_lt H13)).trans H13
    clear hb
    revert hB22
    revert H22
    revert H13
    revert H6
    revert hS
    revert b22
    revert b13
    revert b6
    revert Y
    exact T6_13_22
  ·intro X b6 b22 hS H6 H22 hB22
   refine wpAnyH_ready (rs:= [5,7,13]) (by kernel_rfl) (by simp) ?_
   refine(AllReadyH.cons rfl (fun KK hKK=>?_) (AllReadyH.cons rfl (fun KK hKK=>?_) (AllReadyH.cons rfl (fun KK hKK=>?_) AllReadyH.nil)))
   ·go_simp
    refine(HCLN.out X hS).mono ?_
    rintro e Y ⟨vC,rfl,hC0,hb⟩
    have H5:=own_rebase (b':=P.heap.size) hC0 (fun g hg=>Nat.le_trans hS.size (own_lt hC0 g hg).1)
    obtain⟨A5,k5,rfl,-⟩:=mx_slice H5
    replace hS:=hS.trans (hb.mono hS.size)
    refine hKK.out _ _ hS (fun hSx=>?_)
    clear hSx hKK hC0
    replace H6:=(hb.block _ (heap_lt H6)).trans H6
    replace H22:=(hb.block _ (heap_lt H22)).trans H22
    clear hb
    exact T5_6_22 Y A5 k5 b6 b22 hS H5 H6 H22 hB22
   ·go_simp
    obtain⟨Y,hw,hb,H7,-⟩:=al_new X #[.slice (some ⟨b6,0,none⟩) 1 1] 30
    rw[hw]
    obtain⟨b7,hbn⟩: ∃b,X.heap.size=b:=⟨_,rfl⟩
    rw[hbn]at H7⊢
    replace hS:=hS.trans (hb.mono hS.size)
    refine hKK.out _ _ hS (fun hSx=>?_)
    clear hSx hKK hbn hw
    replace H6:=(hb.block _ (heap_lt H6)).trans H6
    replace H22:=(hb.block _ (heap_lt H22)).trans H22
    clear hb
    exact T6_7_22 Y b6 b7 b22 hS H6 H7 H22 hB22
   ·go_simp
    obtain⟨Y,hw,hb,H13,-⟩:=al_new X #[.int .i64 1,.int .i64 0] 31
    rw[hw]
    obtain⟨b13,hbn⟩: ∃b,X.heap.size=b:=⟨_,rfl⟩
    rw[hbn]at H13⊢
    replace hS:=hS.trans (hb.mono hS.size)
    refine hKK.out _ _ hS (fun hSx=>?_)
    clear hSx hKK hbn hw
    replace H6:=(hb.block _ (heap_lt H6)).trans H6
    replace H22:=(hb.block _ (heap_lt H22)).trans H22
    clear hb
    exact T6_13_22 Y b6 b13 b22 hS H6 H13 H22 hB22
  ·intro X b13 b14 hS H13 H14
   refine wpAnyH_ready (rs:= [5,6,22]) (by kernel_rfl) (by simp) ?_
   refine(AllReadyH.cons rfl (fun KK hKK=>?_) (AllReadyH.cons rfl (fun KK hKK=>?_) (AllReadyH.cons rfl (fun KK hKK=>?_) AllReadyH.nil)))
   ·go_simp
    refine(HCLN.out X hS).mono ?_
    rintro e Y ⟨vC,rfl,hC0,hb⟩
    have H5:=own_rebase (b':=P.heap.size) hC0 (fun g hg=>Nat.le_trans hS.size (own_lt hC0 g hg).1)
    obtain⟨A5,k5,rfl,-⟩:=mx_slice H5
    have N1: ∀g,(Value.slice A5 nn k5).ownBlock=some g→g≠b14:=fun g e e2=>Nat.lt_irrefl b14 (Nat.lt_of_lt_of_le (heap_lt H14) (by rw[←e2];exact(own_lt hC0 g e).1))
    replace hS:=hS.trans (hb.mono hS.size)
    refine hKK.out _ _ hS (fun hSx=>?_)
    clear hSx hKK hC0
    replace H13:=(hb.block _ (heap_lt H13)).trans H13
    replace H14:=(hb.block _ (heap_lt H14)).trans H14
    clear hb
    exact T5_13_14 Y A5 k5 b13 b14 hS H5 H13 H14 N1
   ·go_simp
    obtain⟨Y,hw,hb,H6,-⟩:=al_new X #[.int .i64 7] 31
    rw[hw]
    obtain⟨b6,hbn⟩: ∃b,X.heap.size=b:=⟨_,rfl⟩
    rw[hbn]at H6⊢
    replace hS:=hS.trans (hb.mono hS.size)
    refine hKK.out _ _ hS (fun hSx=>?_)
    clear hSx hKK hbn hw
    replace H13:=(hb.block _ (heap_lt H13)).trans H13
    replace H14:=(hb.block _ (heap_lt H14)).trans H14
    clear hb
    exact T6_13_14 Y b6 b13 b14 hS H6 H13 H14
   ·go_simp
    obtain⟨Y,hw,hb,H22,-⟩:=al_new X #[.int .i64 0,.slice none 0 0] 26
    rw[hw]
    obtain⟨b22,hbn⟩: ∃b,X.heap.size=b:=⟨_,rfl⟩
    rw[hbn]at H22⊢
    have hB22:P.heap.size≤b22:=hbn▸hS.size
    replace hS:=hS.trans (hb.mono hS.size)
    refine hKK.out _ _ hS (fun hSx=>?_)
    clear hSx hKK hbn hw
    replace H13:=(hb.block _ (heap_lt H13)).trans H13
    replace H14:=(hb.block _ (heap_lt H14)).trans H14
    clear hb
    revert hB22
    revert H22
    revert H14
    revert H13
    revert hS
    revert b22
    revert b14
    revert b13
    revert Y
    exact T13_14_22
  ·intro X b13 b22 hS H13 H22 hB22
   refine wpAnyH_ready (rs:= [5,6,14]) (by kernel_rfl) (by simp) ?_
   refine(AllReadyH.cons rfl (fun KK hKK=>?_) (AllReadyH.cons rfl (fun KK hKK=>?_) (AllReadyH.cons rfl (fun KK hKK=>?_) AllReadyH.nil)))
   ·go_simp
    refine(HCLN.out X hS).mono ?_
    rintro e Y ⟨vC,rfl,hC0,hb⟩
    have H5:=own_rebase (b':=P.heap.size) hC0 (fun g hg=>Nat.le_trans hS.size (own_lt hC0 g hg).1)
    obtain⟨A5,k5,rfl,-⟩:=mx_slice H5
    replace hS:=hS.trans (hb.mono hS.size)
    refine hKK.out _ _ hS (fun hSx=>?_)
    clear hSx hKK hC0
    replace H13:=(hb.block _ (heap_lt H13)).trans H13
    replace H22:=(hb.block _ (heap_lt H22)).trans H22
    clear hb
    exact T5_13_22 Y A5 k5 b13 b22 hS H5 H13 H22 hB22
   ·go_simp
    obtain⟨Y,hw,hb,H6,-⟩:=al_new X #[.int .i64 7] 31
    rw[hw]
    obtain⟨b6,hbn⟩: ∃b,X.heap.size=b:=⟨_,rfl⟩
    rw[hbn]at H6⊢
    replace hS:=hS.trans (hb.mono hS.size)
    refine hKK.out _ _ hS (fun hSx=>?_)
    clear hSx hKK hbn hw
    replace H13:=(hb.block _ (heap_lt H13)).trans H13
    replace H22:=(hb.block _ (heap_lt H22)).trans H22
    clear hb
    exact T6_13_22 Y b6 b13 b22 hS H6 H13 H22 hB22
   ·go_simp
    obtain⟨Y,hw,hb,H14,-⟩:=al_new X #[.slice (some ⟨b13,0,none⟩) 2 2] 30
    rw[hw]
    obtain⟨b14,hbn⟩: ∃b,X.heap.size=b:=⟨_,rfl⟩
    rw[hbn]at H14⊢
    replace hS:=hS.trans (hb.mono hS.size)
    refine hKK.out _ _ hS (fun hSx=>?_)
    clear hSx hKK hbn hw
    replace H13:=(hb.block _ (heap_lt H13)).trans H13
    replace H22:=(hb.block _ (heap_lt H22)).trans H22
    clear hb
    exact T13_14_22 Y b13 b14 b22 hS H13 H14 H22 hB22
  ·intro X A5 k5 b6 b7 hS H5 H6 H7
   refine wpAnyH_ready (rs:= [8,13,22]) (by kernel_rfl) (by simp) ?_
   refine(AllReadyH.cons rfl (fun KK hKK=>?_) (AllReadyH.cons rfl (fun KK hKK=>?_) (AllReadyH.cons rfl (fun KK hKK=>?_) AllReadyH.nil)))
   ·rw[if_pos (by rfl)]
    refine wp_append_at 37 (by rfl) _ _ 24 rfl P.heap.size 30 i0 (.slice none 0 0) 1 24 Tryz.underlying24 hi hz0 hz1 hz2 rfl (by decide) _ nn _ (by rfl) H5 ⟨b7,0,none⟩ 1 1 [.slice (some ⟨b6,0,none⟩) 1 1] (by rfl) rfl (cells_of_blk H7) hone1 hmx hmx2 hS.size ?_
    intro v' Y H8 hgrow hat
    clear hat
    obtain⟨A8,k8,rfl,-⟩:=mx_slice H8
    replace hS:=hS.grown hgrow hS.size (fun g e=>(own_lt H5 g e).1)
    refine hKK.out _ _ hS (fun hSx=>?_)
    clear hSx hKK
    simp only[Act.put,List.setIfInBounds_toArray,List.set_cons_zero,List.set_cons_succ]
    replace H6:=(hgrow.block _ (heap_lt H6) (fun e=>mx_not H5 H6 (by decide) e.symm)).trans H6
    clear hgrow H5 H7
    refine takeE 9 38 ?_
    revert H8
    revert H6
    revert hS
    revert k8
    revert A8
    revert b7
    revert b6
    revert k5
    revert A5
    revert Y
    exact T5_6_7_8
   ·go_simp
    obtain⟨Y,hw,hb,H13,-⟩:=al_new X #[.int .i64 1,.int .i64 0] 31
    rw[hw]
    obtain⟨b13,hbn⟩: ∃b,X.heap.size=b:=⟨_,rfl⟩
    rw[hbn]at H13⊢
    replace hS:=hS.trans (hb.mono hS.size)
    refine hKK.out _ _ hS (fun hSx=>?_)
    clear hSx hKK hbn hw
    replace H5:=own_below H5 hb
    replace H6:=(hb.block _ (heap_lt H6)).trans H6
    replace H7:=(hb.block _ (heap_lt H7)).trans H7
    clear hb
    revert H13
    revert H7
    revert H6
    revert H5
    revert hS
    revert b13
    revert b7
    revert b6
    revert k5
    revert A5
    revert Y
    exact T5_6_7_13
   ·go_simp
    obtain⟨Y,hw,hb,H22,-⟩:=al_new X #[.int .i64 0,.slice none 0 0] 26
    rw[hw]
    obtain⟨b22,hbn⟩: ∃b,X.heap.size=b:=⟨_,rfl⟩
    rw[hbn]at H22⊢
    have hB22:P.heap.size≤b22:=hbn▸hS.size
    replace hS:=hS.trans (hb.mono hS.size)
    refine hKK.out _ _ hS (fun hSx=>?_)
    clear hSx hKK hbn hw
    replace H5:=own_below H5 hb
    replace H6:=(hb.block _ (heap_lt H6)).trans H6
    replace H7:=(hb.block _ (heap_lt H7)).trans H7
    clear hb
    revert hB22
    revert H22
    revert H7
    revert H6
    revert H5
    revert hS
    revert b22
    revert b7
    revert b6
    revert k5
    revert A5
    revert Y
    exact T5_6_7_22
  ·intro X A5 k5 b6 b13 hS H5 H6 H13
   refine wpAnyH_ready (rs:= [7,14,22]) (by kernel_rfl) (by simp) ?_
   refine(AllReadyH.cons rfl (fun KK hKK=>?_) (AllReadyH.cons rfl (fun KK hKK=>?_) (AllReadyH.cons rfl (fun KK hKK=>?_) AllReadyH.nil)))
   ·go_simp
    obtain⟨Y,hw,hb,H7,-⟩:=al_new X #[.slice (some ⟨b6,0,none⟩) 1 1] 30
    rw[hw]
    obtain⟨b7,hbn⟩: ∃b,X.heap.size=b:=⟨_,rfl⟩
    rw[hbn]at H7⊢
    replace hS:=hS.trans (hb.mono hS.size)
    refine hKK.out _ _ hS (fun hSx=>?_)
    clear hSx hKK hbn hw
    replace H5:=own_below H5 hb
    replace H6:=(hb.block _ (heap_lt H6)).trans H6
    replace H13:=(hb.block _ (heap_lt H13)).trans H13
    clear hb
    exact T5_6_7_13 Y A5 k5 b6 b7 b13 hS H5 H6 H7 H13
   ·go_simp
    obtain⟨Y,hw,hb,H14,-⟩:=al_new X #[.slice (some ⟨b13,0,none⟩) 2 2] 30
    rw[hw]
    obtain⟨b14,hbn⟩: ∃b,X.heap.size=b:=⟨_,rfl⟩
    rw[hbn]at H14⊢
    have N1: ∀g,(Value.slice A5 nn k5).ownBlock=some g→g≠b14:=fun g e e2=>Nat.lt_irrefl _ (by have h:=(own_lt H5 g e).2;rw[hbn,e2]at h;exact h)
    replace hS:=hS.trans (hb.mono hS.size)
    refine hKK.out _ _ hS (fun hSx=>?_)
    clear hSx hKK hbn hw
    replace H5:=own_below H5 hb
    replace H6:=(hb.block _ (heap_lt H6)).trans H6
    replace H13:=(hb.block _ (heap_lt H13)).trans H13
    clear hb
    revert N1
    revert H14
    revert H13
    revert H6
    revert H5
    revert hS
    revert b14
    revert b13
    revert b6
    revert k5
    revert A5
    revert Y
    exact T5_6_13_14
   ·go_simp
    obtain⟨Y,hw,hb,H22,-⟩:=al_new X #[.int .i64 0,.slice none 0 0] 26
    rw[hw]
    obtain⟨b22,hbn⟩: ∃b,X.heap.size=b:=⟨_,rfl⟩
    rw[hbn]at H22⊢
    have hB22:P.heap.size≤b22:=hbn▸hS.size
    replace hS:=hS.trans (hb.mono hS.size)
    refine hKK.out _ _ hS (fun hSx=>?_)
    clear hSx hKK hbn hw
    replace H5:=own_below H5 hb
    replace H6:=(hb.block _ (heap_lt H6)).trans H6
    replace H13:=(hb.block _ (heap_lt H13)).trans H13
    clear hb
    revert hB22
    revert H22
    revert H13
    revert H6
    revert H5
    revert hS
    revert b22
    revert b13
    revert b6
    revert k5
    revert A5
    revert Y
    exact T5_6_13_22
  ·intro X A5 k5 b6 b22 hS H5 H6 H22 hB22
   refine wpAnyH_ready (rs:= [7,13]) (by kernel_rfl) (by simp) ?_
   refine(AllReadyH.cons rfl (fun KK hKK=>?_) (AllReadyH.cons rfl (fun KK hKK=>?_) AllReadyH.nil))
   ·go_simp
    obtain⟨Y,hw,hb,H7,-⟩:=al_new X #[.slice (some ⟨b6,0,none⟩) 1 1] 30
    rw[hw]
    obtain⟨b7,hbn⟩: ∃b,X.heap.size=b:=⟨_,rfl⟩
    rw[hbn]at H7⊢
    replace hS:=hS.trans (hb.mono hS.size)
    refine hKK.out _ _ hS (fun hSx=>?_)
    clear hSx hKK hbn hw
    replace H5:=own_below H5 hb
    replace H6:=(hb.block _ (heap_lt H6)).trans H6
    replace H22:=(hb.block _ (heap_lt H22)).trans H22
    clear hb
    exact T5_6_7_22 Y A5 k5 b6 b7 b22 hS H5 H6 H7 H22 hB22
   ·go_simp
    obtain⟨Y,hw,hb,H13,-⟩:=al_new X #[.int .i64 1,.int .i64 0] 31
    rw[hw]
    obtain⟨b13,hbn⟩: ∃b,X.heap.size=b:=⟨_,rfl⟩
    rw[hbn]at H13⊢
    replace hS:=hS.trans (hb.mono hS.size)
    refine hKK.out _ _ hS (fun hSx=>?_)
    clear hSx hKK hbn hw
    replace H5:=own_below H5 hb
    replace H6:=(hb.block _ (heap_lt H6)).trans H6
    replace H22:=(hb.block _ (heap_lt H22)).trans H22
    clear hb
    exact T5_6_13_22 Y A5 k5 b6 b13 b22 hS H5 H6 H13 H22 hB22
  ·intro X A5 k5 b13 b14 hS H5 H13 H14 N1
   refine wpAnyH_ready (rs:= [6,22]) (by kernel_rfl) (by simp) ?_
   refine(AllReadyH.cons rfl (fun KK hKK=>?_) (AllReadyH.cons rfl (fun KK hKK=>?_) AllReadyH.nil))
   ·go_simp
    obtain⟨Y,hw,hb,H6,-⟩:=al_new X #[.int .i64 7] 31
    rw[hw]
    obtain⟨b6,hbn⟩: ∃b,X.heap.size=b:=⟨_,rfl⟩
    rw[hbn]at H6⊢
    replace hS:=hS.trans (hb.mono hS.size)
    refine hKK.out _ _ hS (fun hSx=>?_)
    clear hSx hKK hbn hw
    replace H5:=own_below H5 hb
    replace H13:=(hb.block _ (heap_lt H13)).trans H13
    replace H14:=(hb.block _ (heap_lt H14)).trans H14
    clear hb
    exact T5_6_13_14 Y A5 k5 b6 b13 b14 hS H5 H6 H13 H14 N1
   ·go_simp
    obtain⟨Y,hw,hb,H22,-⟩:=al_new X #[.int .i64 0,.slice none 0 0] 26
    rw[hw]
    obtain⟨b22,hbn⟩: ∃b,X.heap.size=b:=⟨_,rfl⟩
    rw[hbn]at H22⊢
    have hB22:P.heap.size≤b22:=hbn▸hS.size
    replace hS:=hS.trans (hb.mono hS.size)
    refine hKK.out _ _ hS (fun hSx=>?_)
    clear hSx hKK hbn hw
    replace H5:=own_below H5 hb
    replace H13:=(hb.block _ (heap_lt H13)).trans H13
    replace H14:=(hb.block _ (heap_lt H14)).trans H14
    clear hb
    revert hB22
    revert N1
    revert H22
    revert H14
    revert H13
    revert H5
    revert hS
    revert b22
    revert b14
    revert b13
    revert k5
    revert A5
    revert Y
    exact T5_13_14_22
  ·intro X A5 k5 b13 b22 hS H5 H13 H22 hB22
   refine wpAnyH_ready (rs:= [6,14]) (by kernel_rfl) (by simp) ?_
   refine(AllReadyH.cons rfl (fun KK hKK=>?_) (AllReadyH.cons rfl (fun KK hKK=>?_) AllReadyH.nil))
   ·go_simp
    obtain⟨Y,hw,hb,H6,-⟩:=al_new X #[.int .i64 7] 31
    rw[hw]
    obtain⟨b6,hbn⟩: ∃b,X.heap.size=b:=⟨_,rfl⟩
    rw[hbn]at H6⊢
    replace hS:=hS.trans (hb.mono hS.size)
    refine hKK.out _ _ hS (fun hSx=>?_)
    clear hSx hKK hbn hw
    replace H5:=own_below H5 hb
    replace H13:=(hb.block _ (heap_lt H13)).trans H13
    replace H22:=(hb.block _ (heap_lt H22)).trans H22
    clear hb
    exact T5_6_13_22 Y A5 k5 b6 b13 b22 hS H5 H6 H13 H22 hB22
   ·go_simp
    obtain⟨Y,hw,hb,H14,-⟩:=al_new X #[.slice (some ⟨b13,0,none⟩) 2 2] 30
    rw[hw]
    obtain⟨b14,hbn⟩: ∃b,X.heap.size=b:=⟨_,rfl⟩
    rw[hbn]at H14⊢
    have N1: ∀g,(Value.slice A5 nn k5).ownBlock=some g→g≠b14:=fun g e e2=>Nat.lt_irrefl _ (by have h:=(own_lt H5 g e).2;rw[hbn,e2]at h;exact h)
    replace hS:=hS.trans (hb.mono hS.size)
    refine hKK.out _ _ hS (fun hSx=>?_)
    clear hSx hKK hbn hw
    replace H5:=own_below H5 hb
    replace H13:=(hb.block _ (heap_lt H13)).trans H13
    replace H22:=(hb.block _ (heap_lt H22)).trans H22
    clear hb
    exact T5_13_14_22 Y A5 k5 b13 b14 b22 hS H5 H13 H14 H22 N1 hB22
  ·intro X b6 b7 b13 hS H6 H7 H13
   refine wpAnyH_ready (rs:= [5,14,22]) (by kernel_rfl) (by simp) ?_
   refine(AllReadyH.cons rfl (fun KK hKK=>?_) (AllReadyH.cons rfl (fun KK hKK=>?_) (AllReadyH.cons rfl (fun KK hKK=>?_) AllReadyH.nil)))
   ·go_simp
    refine(HCLN.out X hS).mono ?_
    rintro e Y ⟨vC,rfl,hC0,hb⟩
    have H5:=own_rebase (b':=P.heap.size) hC0 (fun g hg=>Nat.le_trans hS.size (own_lt hC0 g hg).1)
    obtain⟨A5,k5,rfl,-⟩:=mx_slice H5
    replace hS:=hS.trans (hb.mono hS.size)
    refine hKK.out _ _ hS (fun hSx=>?_)
    clear hSx hKK hC0
    replace H6:=(hb.block _ (heap_lt H6)).trans H6
    replace H7:=(hb.block _ (heap_lt H7)).trans H7
    replace H13:=(hb.block _ (heap_lt H13)).trans H13
    clear hb
    exact T5_6_7_13 Y A5 k5 b6 b7 b13 hS H5 H6 H7 H13
   ·go_simp
    obtain⟨Y,hw,hb,H14,-⟩:=al_new X #[.slice (some ⟨b13,0,none⟩) 2 2] 30
    rw[hw]
    obtain⟨b14,hbn⟩: ∃b,X.heap.size=b:=⟨_,rfl⟩
    rw[hbn]at H14⊢
    replace hS:=hS.trans (hb.mono hS.size)
    refine hKK.out _ _ hS (fun hSx=>?_)
    clear hSx hKK hbn hw
    replace H6:=(hb.block _ (heap_lt H6)).trans H6
    replace H7:=(hb.block _ (heap_lt H7)).trans H7
    replace H13:=(hb.block _ (heap_lt H13)).trans H13
    clear hb
    revert H14
    revert H13
    revert H7
    revert H6
    revert hS
    revert b14
    revert b13
    revert b7
    revert b6
    revert Y
    exact T6_7_13_14
   ·go_simp
    obtain⟨Y,hw,hb,H22,-⟩:=al_new X #[.int .i64 0,.slice none 0 0] 26
    rw[hw]
    obtain⟨b22,hbn⟩: ∃b,X.heap.size=b:=⟨_,rfl⟩
    rw[hbn]at H22⊢
    have hB22:P.heap.size≤b22:=hbn▸hS.size
    replace hS:=hS.trans (hb.mono hS.size)
    refine hKK.out _ _ hS (fun hSx=>?_)
    clear hSx hKK hbn hw
    replace H6:=(hb.block _ (heap_lt H6)).trans H6
    replace H7:=(hb.block _ (heap_lt H7)).trans H7
    replace H13:=(hb.block _ (heap_lt H13)).trans H13
    clear hb
    revert hB22
    revert H22
    revert H13
    revert H7
    revert H6
    revert hS
    revert b22
    revert b13
    revert b7
    revert b6
    revert Y
    exact T6_7_13_22
  ·intro X b6 b7 b22 hS H6 H7 H22 hB22
   refine wpAnyH_ready (rs:= [5,13]) (by kernel_rfl) (by simp) ?_
   refine(AllReadyH.cons rfl (fun KK hKK=>?_) (AllReadyH.cons rfl (fun KK hKK=>?_) AllReadyH.nil))
   ·go_simp
    refine(HCLN.out X hS).mono ?_
    rintro e Y ⟨vC,rfl,hC0,hb⟩
    have H5:=own_rebase (b':=P.heap.size) hC0 (fun g hg=>Nat.le_trans hS.size (own_lt hC0 g hg).1)
    obtain⟨A5,k5,rfl,-⟩:=mx_slice H5
    replace hS:=hS.trans (hb.mono hS.size)
    refine hKK.out _ _ hS (fun hSx=>?_)
    clear hSx hKK hC0
    replace H6:=(hb.block _ (heap_lt H6)).trans H6
    replace H7:=(hb.block _ (heap_lt H7)).trans H7
    replace H22:=(hb.block _ (heap_lt H22)).trans H22
    clear hb
    exact T5_6_7_22 Y A5 k5 b6 b7 b22 hS H5 H6 H7 H22 hB22
   ·go_simp
    obtain⟨Y,hw,hb,H13,-⟩:=al_new X #[.int .i64 1,.int .i64 0] 31
    rw[hw]
    obtain⟨b13,hbn⟩: ∃b,X.heap.size=b:=⟨_,rfl⟩
    rw[hbn]at H13⊢
    replace hS:=hS.trans (hb.mono hS.size)
    refine hKK.out _ _ hS (fun hSx=>?_)
    clear hSx hKK hbn hw
    replace H6:=(hb.block _ (heap_lt H6)).trans H6
    replace H7:=(hb.block _ (heap_lt H7)).trans H7
    replace H22:=(hb.block _ (heap_lt H22)).trans H22
    clear hb
    exact T6_7_13_22 Y b6 b7 b13 b22 hS H6 H7 H13 H22 hB22
  ·intro X b6 b13 b14 hS H6 H13 H14
   refine wpAnyH_ready (rs:= [5,7,22]) (by kernel_rfl) (by simp) ?_
   refine(AllReadyH.cons rfl (fun KK hKK=>?_) (AllReadyH.cons rfl (fun KK hKK=>?_) (AllReadyH.cons rfl (fun KK hKK=>?_) AllReadyH.nil)))
   ·go_simp
    refine(HCLN.out X hS).mono ?_
    rintro e Y ⟨vC,rfl,hC0,hb⟩
    have H5:=own_rebase (b':=P.heap.size) hC0 (fun g hg=>Nat.le_trans hS.size (own_lt hC0 g hg).1)
    obtain⟨A5,k5,rfl,-⟩:=mx_slice H5
    have N1: ∀g,(Value.slice A5 nn k5).ownBlock=some g→g≠b14:=fun g e e2=>Nat.lt_irrefl b14 (Nat.lt_of_lt_of_le (heap_lt H14) (by rw[←e2];exact(own_lt hC0 g e).1))
    replace hS:=hS.trans (hb.mono hS.size)
    refine hKK.out _ _ hS (fun hSx=>?_)
    clear hSx hKK hC0
    replace H6:=(hb.block _ (heap_lt H6)).trans H6
    replace H13:=(hb.block _ (heap_lt H13)).trans H13
    replace H14:=(hb.block _ (heap_lt H14)).trans H14
    clear hb
    exact T5_6_13_14 Y A5 k5 b6 b13 b14 hS H5 H6 H13 H14 N1
   ·go_simp
    obtain⟨Y,hw,hb,H7,-⟩:=al_new X #[.slice (some ⟨b6,0,none⟩) 1 1] 30
    rw[hw]
    obtain⟨b7,hbn⟩: ∃b,X.heap.size=b:=⟨_,rfl⟩
    rw[hbn]at H7⊢
    replace hS:=hS.trans (hb.mono hS.size)
    refine hKK.out _ _ hS (fun hSx=>?_)
    clear hSx hKK hbn hw
    replace H6:=(hb.block _ (heap_lt H6)).trans H6
    replace H13:=(hb.block _ (heap_lt H13)).trans H13
    replace H14:=(hb.block _ (heap_lt H14)).trans H14
    clear hb
    exact T6_7_13_14 Y b6 b7 b13 b14 hS H6 H7 H13 H14
   ·go_simp
    obtain⟨Y,hw,hb,H22,-⟩:=al_new X #[.int .i64 0,.slice none 0 0] 26
    rw[hw]
    obtain⟨b22,hbn⟩: ∃b,X.heap.size=b:=⟨_,rfl⟩
    rw[hbn]at H22⊢
    have hB22:P.heap.size≤b22:=hbn▸hS.size
    replace hS:=hS.trans (hb.mono hS.size)
    refine hKK.out _ _ hS (fun hSx=>?_)
    clear hSx hKK hbn hw
    replace H6:=(hb.block _ (heap_lt H6)).trans H6
    replace H13:=(hb.block _ (heap_lt H13)).trans H13
    replace H14:=(hb.block _ (heap_lt H14)).trans H14
    clear hb
    revert hB22
    revert H22
    revert H14
    revert H13
    revert H6
    revert hS
    revert b22
    revert b14
    revert b13
    revert b6
    revert Y
    exact T6_13_14_22
  ·intro X b6 b13 b22 hS H6 H13 H22 hB22
   refine wpAnyH_ready (rs:= [5,7,14]) (by kernel_rfl) (by simp) ?_
   refine(AllReadyH.cons rfl (fun KK hKK=>?_) (AllReadyH.cons rfl (fun KK hKK=>?_) (AllReadyH.cons rfl (fun KK hKK=>?_) AllReadyH.nil)))
   ·go_simp
    refine(HCLN.out X hS).mono ?_
    rintro e Y ⟨vC,rfl,hC0,hb⟩
    have H5:=own_rebase (b':=P.heap.size) hC0 (fun g hg=>Nat.le_trans hS.size (own_lt hC0 g hg).1)
    obtain⟨A5,k5,rfl,-⟩:=mx_slice H5
    replace hS:=hS.trans (hb.mono hS.size)
    refine hKK.out _ _ hS (fun hSx=>?_)
    clear hSx hKK hC0
    replace H6:=(hb.block _ (heap_lt H6)).trans H6
    replace H13:=(hb.block _ (heap_lt H13)).trans H13
    replace H22:=(hb.block _ (heap_lt H22)).trans H22
    clear hb
    exact T5_6_13_22 Y A5 k5 b6 b13 b22 hS H5 H6 H13 H22 hB22
   ·go_simp
    obtain⟨Y,hw,hb,H7,-⟩:=al_new X #[.slice (some ⟨b6,0,none⟩) 1 1] 30
    rw[hw]
    obtain⟨b7,hbn⟩: ∃b,X.heap.size=b:=⟨_,rfl⟩
    rw[hbn]at H7⊢
    replace hS:=hS.trans (hb.mono hS.size)
    refine hKK.out _ _ hS (fun hSx=>?_)
    clear hSx hKK hbn hw
    replace H6:=(hb.block _ (heap_lt H6)).trans H6
    replace H13:=(hb.block _ (heap_lt H13)).trans H13
    replace H22:=(hb.block _ (heap_lt H22)).trans H22
    clear hb
    exact T6_7_13_22 Y b6 b7 b13 b22 hS H6 H7 H13 H22 hB22
   ·go_simp
    obtain⟨Y,hw,hb,H14,-⟩:=al_new X #[.slice (some ⟨b13,0,none⟩) 2 2] 30
    rw[hw]
    obtain⟨b14,hbn⟩: ∃b,X.heap.size=b:=⟨_,rfl⟩
    rw[hbn]at H14⊢
    replace hS:=hS.trans (hb.mono hS.size)
    refine hKK.out _ _ hS (fun hSx=>?_)
    clear hSx hKK hbn hw
    replace H6:=(hb.block _ (heap_lt H6)).trans H6
    replace H13:=(hb.block _ (heap_lt H13)).trans H13
    replace H22:=(hb.block _ (heap_lt H22)).trans H22
    clear hb
    exact T6_13_14_22 Y b6 b13 b14 b22 hS H6 H13 H14 H22 hB22
  ·intro X b13 b14 b22 hS H13 H14 H22 hB22
   refine wpAnyH_ready (rs:= [5,6]) (by kernel_rfl) (by simp) ?_
   refine(AllReadyH.cons rfl (fun KK hKK=>?_) (AllReadyH.cons rfl (fun KK hKK=>?_) AllReadyH.nil))
   ·go_simp
    refine(HCLN.out X hS).mono ?_
    rintro e Y ⟨vC,rfl,hC0,hb⟩
    have H5:=own_rebase (b':=P.heap.size) hC0 (fun g hg=>Nat.le_trans hS.size (own_lt hC0 g hg).1)
    obtain⟨A5,k5,rfl,-⟩:=mx_slice H5
    have N1: ∀g,(Value.slice A5 nn k5).ownBlock=some g→g≠b14:=fun g e e2=>Nat.lt_irrefl b14 (Nat.lt_of_lt_of_le (heap_lt H14) (by rw[←e2];exact(own_lt hC0 g e).1))
    replace hS:=hS.trans (hb.mono hS.size)
    refine hKK.out _ _ hS (fun hSx=>?_)
    clear hSx hKK hC0
    replace H13:=(hb.block _ (heap_lt H13)).trans H13
    replace H14:=(hb.block _ (heap_lt H14)).trans H14
    replace H22:=(hb.block _ (heap_lt H22)).trans H22
    clear hb
    exact T5_13_14_22 Y A5 k5 b13 b14 b22 hS H5 H13 H14 H22 N1 hB22
   ·go_simp
    obtain⟨Y,hw,hb,H6,-⟩:=al_new X #[.int .i64 7] 31
    rw[hw]
    obtain⟨b6,hbn⟩: ∃b,X.heap.size=b:=⟨_,rfl⟩
    rw[hbn]at H6⊢
    replace hS:=hS.trans (hb.mono hS.size)
    refine hKK.out _ _ hS (fun hSx=>?_)
    clear hSx hKK hbn hw
    replace H13:=(hb.block _ (heap_lt H13)).trans H13
    replace H14:=(hb.block _ (heap_lt H14)).trans H14
    replace H22:=(hb.block _ (heap_lt H22)).trans H22
    clear hb
    exact T6_13_14_22 Y b6 b13 b14 b22 hS H6 H13 H14 H22 hB22
  ·intro X A5 k5 b6 b7 A8 k8 hS H6 H8
   refine wpAnyH_ready (rs:= [12,13,22]) (by kernel_rfl) (by simp) ?_
   refine(AllReadyH.cons rfl (fun KK hKK=>?_) (AllReadyH.cons rfl (fun KK hKK=>?_) (AllReadyH.cons rfl (fun KK hKK=>?_) AllReadyH.nil)))
   ·go_simp
    refine(HCLN.out X hS).mono ?_
    rintro e Y ⟨vC,rfl,hC0,hb⟩
    have H12:=own_rebase (b':=P.heap.size) hC0 (fun g hg=>Nat.le_trans hS.size (own_lt hC0 g hg).1)
    obtain⟨A12,k12,rfl,-⟩:=mx_slice H12
    have N2: ∀g,(Value.slice A12 nn k12).ownBlock=some g→(Value.slice A8 (nn+1) k8).ownBlock≠some g:=fun g e e2=>Nat.lt_irrefl _ (Nat.lt_of_lt_of_le (own_lt H8 g e2).2 (own_lt hC0 g e).1)
    replace hS:=hS.trans (hb.mono hS.size)
    refine hKK.out _ _ hS (fun hSx=>?_)
    clear hSx hKK hC0
    replace H6:=(hb.block _ (heap_lt H6)).trans H6
    replace H8:=own_below H8 hb
    clear hb
    revert N2
    revert H12
    revert H8
    revert H6
    revert hS
    revert k12
    revert A12
    revert k8
    revert A8
    revert b7
    revert b6
    revert k5
    revert A5
    revert Y
    exact T5_6_7_8_12
   ·go_simp
    obtain⟨Y,hw,hb,H13,-⟩:=al_new X #[.int .i64 1,.int .i64 0] 31
    rw[hw]
    obtain⟨b13,hbn⟩: ∃b,X.heap.size=b:=⟨_,rfl⟩
    rw[hbn]at H13⊢
    replace hS:=hS.trans (hb.mono hS.size)
    refine hKK.out _ _ hS (fun hSx=>?_)
    clear hSx hKK hbn hw
    replace H6:=(hb.block _ (heap_lt H6)).trans H6
    replace H8:=own_below H8 hb
    clear hb
    revert H13
    revert H8
    revert H6
    revert hS
    revert b13
    revert k8
    revert A8
    revert b7
    revert b6
    revert k5
    revert A5
    revert Y
    exact T5_6_7_8_13
   ·go_simp
    obtain⟨Y,hw,hb,H22,-⟩:=al_new X #[.int .i64 0,.slice none 0 0] 26
    rw[hw]
    obtain⟨b22,hbn⟩: ∃b,X.heap.size=b:=⟨_,rfl⟩
    rw[hbn]at H22⊢
    have hB22:P.heap.size≤b22:=hbn▸hS.size
    replace hS:=hS.trans (hb.mono hS.size)
    refine hKK.out _ _ hS (fun hSx=>?_)
    clear hSx hKK hbn hw
    replace H6:=(hb.block _ (heap_lt H6)).trans H6
    replace H8:=own_below H8 hb
    clear hb
    revert hB22
    revert H22
    revert H8
    revert H6
    revert hS
    revert b22
    revert k8
    revert A8
    revert b7
    revert b6
    revert k5
    revert A5
    revert Y
    exact T5_6_7_8_22
  ·intro X A5 k5 b6 b7 b13 hS H5 H6 H7 H13
   refine wpAnyH_ready (rs:= [8,14,22]) (by kernel_rfl) (by simp) ?_
   refine(AllReadyH.cons rfl (fun KK hKK=>?_) (AllReadyH.cons rfl (fun KK hKK=>?_) (AllReadyH.cons rfl (fun KK hKK=>?_) AllReadyH.nil)))
   ·rw[if_pos (by rfl)]
    refine wp_append_at 37 (by rfl) _ _ 24 rfl P.heap.size 30 i0 (.slice none 0 0) 1 24 Tryz.underlying24 hi hz0 hz1 hz2 rfl (by decide) _ nn _ (by rfl) H5 ⟨b7,0,none⟩ 1 1 [.slice (some ⟨b6,0,none⟩) 1 1] (by rfl) rfl (cells_of_blk H7) hone1 hmx hmx2 hS.size ?_
    intro v' Y H8 hgrow hat
    clear hat
    obtain⟨A8,k8,rfl,-⟩:=mx_slice H8
    replace hS:=hS.grown hgrow hS.size (fun g e=>(own_lt H5 g e).1)
    refine hKK.out _ _ hS (fun hSx=>?_)
    clear hSx hKK
    simp only[Act.put,List.setIfInBounds_toArray,List.set_cons_zero,List.set_cons_succ]
    replace H6:=(hgrow.block _ (heap_lt H6) (fun e=>mx_not H5 H6 (by decide) e.symm)).trans H6
    replace H13:=(hgrow.block _ (heap_lt H13) (fun e=>mx_not H5 H13 (by decide) e.symm)).trans H13
    clear hgrow H5 H7
    refine takeE 9 38 ?_
    exact T5_6_7_8_13 Y A5 k5 b6 b7 A8 k8 b13 hS H6 H8 H13
   ·go_simp
    obtain⟨Y,hw,hb,H14,-⟩:=al_new X #[.slice (some ⟨b13,0,none⟩) 2 2] 30
    rw[hw]
    obtain⟨b14,hbn⟩: ∃b,X.heap.size=b:=⟨_,rfl⟩
    rw[hbn]at H14⊢
    have N1: ∀g,(Value.slice A5 nn k5).ownBlock=some g→g≠b14:=fun g e e2=>Nat.lt_irrefl _ (by have h:=(own_lt H5 g e).2;rw[hbn,e2]at h;exact h)
    replace hS:=hS.trans (hb.mono hS.size)
    refine hKK.out _ _ hS (fun hSx=>?_)
    clear hSx hKK hbn hw
    replace H5:=own_below H5 hb
    replace H6:=(hb.block _ (heap_lt H6)).trans H6
    replace H7:=(hb.block _ (heap_lt H7)).trans H7
    replace H13:=(hb.block _ (heap_lt H13)).trans H13
    clear hb
    revert N1
    revert H14
    revert H13
    revert H7
    revert H6
    revert H5
    revert hS
    revert b14
    revert b13
    revert b7
    revert b6
    revert k5
    revert A5
    revert Y
    exact T5_6_7_13_14
   ·go_simp
    obtain⟨Y,hw,hb,H22,-⟩:=al_new X #[.int .i64 0,.slice none 0 0] 26
    rw[hw]
    obtain⟨b22,hbn⟩: ∃b,X.heap.size=b:=⟨_,rfl⟩
    rw[hbn]at H22⊢
    have hB22:P.heap.size≤b22:=hbn▸hS.size
    replace hS:=hS.trans (hb.mono hS.size)
    refine hKK.out _ _ hS (fun hSx=>?_)
    clear hSx hKK hbn hw
    replace H5:=own_below H5 hb
    replace H6:=(hb.block _ (heap_lt H6)).trans H6
    replace H7:=(hb.block _ (heap_lt H7)).trans H7
    replace H13:=(hb.block _ (heap_lt H13)).trans H13
    clear hb
    revert hB22
    revert H22
    revert H13
    revert H7
    revert H6
    revert H5
    revert hS
    revert b22
    revert b13
    revert b7
    revert b6
    revert k5
    revert A5
    revert Y
    exact T5_6_7_13_22
  ·intro X A5 k5 b6 b7 b22 hS H5 H6 H7 H22 hB22
   refine wpAnyH_ready (rs:= [8,13]) (by kernel_rfl) (by simp) ?_
   refine(AllReadyH.cons rfl (fun KK hKK=>?_) (AllReadyH.cons rfl (fun KK hKK=>?_) AllReadyH.nil))
   ·rw[if_pos (by rfl)]
    refine wp_append_at 37 (by rfl) _ _ 24 rfl P.heap.size 30 i0 (.slice none 0 0) 1 24 Tryz.underlying24 hi hz0 hz1 hz2 rfl (by decide) _ nn _ (by rfl) H5 ⟨b7,0,none⟩ 1 1 [.slice (some ⟨b6,0,none⟩) 1 1] (by rfl) rfl (cells_of_blk H7) hone1 hmx hmx2 hS.size ?_
    intro v' Y H8 hgrow hat
    clear hat
    obtain⟨A8,k8,rfl,-⟩:=mx_slice H8
    replace hS:=hS.grown hgrow hS.size (fun g e=>(own_lt H5 g e).1)
    refine hKK.out _ _ hS (fun hSx=>?_)
    clear hSx hKK
    simp only[Act.put,List.setIfInBounds_toArray,List.set_cons_zero,List.set_cons_succ]
    replace H6:=(hgrow.block _ (heap_lt H6) (fun e=>mx_not H5 H6 (by decide) e.symm)).trans H6
    replace H22:=(hgrow.block _ (heap_lt H22) (fun e=>mx_not H5 H22 (by decide) e.symm)).trans H22
    clear hgrow H5 H7
    refine takeE 9 38 ?_
    exact T5_6_7_8_22 Y A5 k5 b6 b7 A8 k8 b22 hS H6 H8 H22 hB22
   ·go_simp
    obtain⟨Y,hw,hb,H13,-⟩:=al_new X #[.int .i64 1,.int .i64 0] 31
    rw[hw]
    obtain⟨b13,hbn⟩: ∃b,X.heap.size=b:=⟨_,rfl⟩
    rw[hbn]at H13⊢
    replace hS:=hS.trans (hb.mono hS.size)
    refine hKK.out _ _ hS (fun hSx=>?_)
    clear hSx hKK hbn hw
    replace H5:=own_below H5 hb
    replace H6:=(hb.block _ (heap_lt H6)).trans H6
    replace H7:=(hb.block _ (heap_lt H7)).trans H7
    replace H22:=(hb.block _ (heap_lt H22)).trans H22
    clear hb
    exact T5_6_7_13_22 Y A5 k5 b6 b7 b13 b22 hS H5 H6 H7 H13 H22 hB22
  ·intro X A5 k5 b6 b13 b14 hS H5 H6 H13 H14 N1
   refine wpAnyH_ready (rs:= [7,22]) (by kernel_rfl) (by simp) ?_
   refine(AllReadyH.cons rfl (fun KK hKK=>?_) (AllReadyH.cons rfl (fun KK hKK=>?_) AllReadyH.nil))
   ·go_simp
    obtain⟨Y,hw,hb,H7,-⟩:=al_new X #[.slice (some ⟨b6,0,none⟩) 1 1] 30
    rw[hw]
    obtain⟨b7,hbn⟩: ∃b,X.heap.size=b:=⟨_,rfl⟩
    rw[hbn]at H7⊢
    replace hS:=hS.trans (hb.mono hS.size)
    refine hKK.out _ _ hS (fun hSx=>?_)
    clear hSx hKK hbn hw
    replace H5:=own_below H5 hb
    replace H6:=(hb.block _ (heap_lt H6)).trans H6
    replace H13:=(hb.block _ (heap_lt H13)).trans H13
    replace H14:=(hb.block _ (heap_lt H14)).trans H14
    clear hb
    exact T5_6_7_13_14 Y A5 k5 b6 b7 b13 b14 hS H5 H6 H7 H13 H14 N1
   ·go_simp
    obtain⟨Y,hw,hb,H22,-⟩:=al_new X #[.int .i64 0,.slice none 0 0] 26
    rw[hw]
    obtain⟨b22,hbn⟩: ∃b,X.heap.size=b:=⟨_,rfl⟩
    rw[hbn]at H22⊢
    have hB22:P.heap.size≤b22:=hbn▸hS.size
    replace hS:=hS.trans (hb.mono hS.size)
    refine hKK.out _ _ hS (fun hSx=>?_)
    clear hSx hKK hbn hw
    replace H5:=own_below H5 hb
    replace H6:=(hb.block _ (heap_lt H6)).trans H6
    replace H13:=(hb.block _ (heap_lt H13)).trans H13
    replace H14:=(hb.block _ (heap_lt H14)).trans H14
    clear hb
    revert hB22
    revert N1
    revert H22
    revert H14
    revert H13
    revert H6
    revert H5
    revert hS
    revert b22
    revert b14
    revert b13
    revert b6
    revert k5
    revert A5
    revert Y
    exact T5_6_13_14_22
  ·intro X A5 k5 b6 b13 b22 hS H5 H6 H13 H22 hB22
   refine wpAnyH_ready (rs:= [7,14]) (by kernel_rfl) (by simp) ?_
   refine(AllReadyH.cons rfl (fun KK hKK=>?_) (AllReadyH.cons rfl (fun KK hKK=>?_) AllReadyH.nil))
   ·go_simp
    obtain⟨Y,hw,hb,H7,-⟩:=al_new X #[.slice (some ⟨b6,0,none⟩) 1 1] 30
    rw[hw]
    obtain⟨b7,hbn⟩: ∃b,X.heap.size=b:=⟨_,rfl⟩
    rw[hbn]at H7⊢
    replace hS:=hS.trans (hb.mono hS.size)
    refine hKK.out _ _ hS (fun hSx=>?_)
    clear hSx hKK hbn hw
    replace H5:=own_below H5 hb
    replace H6:=(hb.block _ (heap_lt H6)).trans H6
    replace H13:=(hb.block _ (heap_lt H13)).trans H13
    replace H22:=(hb.block _ (heap_lt H22)).trans H22
    clear hb
    exact T5_6_7_13_22 Y A5 k5 b6 b7 b13 b22 hS H5 H6 H7 H13 H22 hB22
   ·go_simp
    obtain⟨Y,hw,hb,H14,-⟩:=al_new X #[.slice (some ⟨b13,0,none⟩) 2 2] 30
    rw[hw]
    obtain⟨b14,hbn⟩: ∃b,X.heap.size=b:=⟨_,rfl⟩
    rw[hbn]at H14⊢
    have N1: ∀g,(Value.slice A5 nn k5).ownBlock=some g→g≠b14:=fun g e e2=>Nat.lt_irrefl _ (by have h:=(own_lt H5 g e).2;rw[hbn,e2]at h;exact h)
    replace hS:=hS.trans (hb.mono hS.size)
    refine hKK.out _ _ hS (fun hSx=>?_)
    clear hSx hKK hbn hw
    replace H5:=own_below H5 hb
    replace H6:=(hb.block _ (heap_lt H6)).trans H6
    replace H13:=(hb.block _ (heap_lt H13)).trans H13
    replace H22:=(hb.block _ (heap_lt H22)).trans H22
    clear hb
    exact T5_6_13_14_22 Y A5 k5 b6 b13 b14 b22 hS H5 H6 H13 H14 H22 N1 hB22
  ·intro X A5 k5 b13 b14 b22 hS H5 H13 H14 H22 N1 hB22
   refine ready1 6 (fun KK hKK=>?_)
   go_simp
   obtain⟨Y,hw,hb,H6,-⟩:=al_new X #[.int .i64 7] 31
   rw[hw]
   obtain⟨b6,hbn⟩: ∃b,X.heap.size=b:=⟨_,rfl⟩
   rw[hbn]at H6⊢
   replace hS:=hS.trans (hb.mono hS.size)
   refine hKK.out _ _ hS (fun hSx=>?_)
   clear hSx hKK hbn hw
   replace H5:=own_below H5 hb
   replace H13:=(hb.block _ (heap_lt H13)).trans H13
   replace H14:=(hb.block _ (heap_lt H14)).trans H14
   replace H22:=(hb.block _ (heap_lt H22)).trans H22
   clear hb
   exact T5_6_13_14_22 Y A5 k5 b6 b13 b14 b22 hS H5 H6 H13 H14 H22 N1 hB22
  ·intro X b6 b7 b13 b14 hS H6 H7 H13 H14
   refine wpAnyH_ready (rs:= [5,22]) (by kernel_rfl) (by simp) ?_
   refine(AllReadyH.cons rfl (fun KK hKK=>?_) (AllReadyH.cons rfl (fun KK hKK=>?_) AllReadyH.nil))
   ·go_simp
    refine(HCLN.out X hS).mono ?_
    rintro e Y ⟨vC,rfl,hC0,hb⟩
    have H5:=own_rebase (b':=P.heap.size) hC0 (fun g hg=>Nat.le_trans hS.size (own_lt hC0 g hg).1)
    obtain⟨A5,k5,rfl,-⟩:=mx_slice H5
    have N1: ∀g,(Value.slice A5 nn k5).ownBlock=some g→g≠b14:=fun g e e2=>Nat.lt_irrefl b14 (Nat.lt_of_lt_of_le (heap_lt H14) (by rw[←e2];exact(own_lt hC0 g e).1))
    replace hS:=hS.trans (hb.mono hS.size)
    refine hKK.out _ _ hS (fun hSx=>?_)
    clear hSx hKK hC0
    replace H6:=(hb.block _ (heap_lt H6)).trans H6
    replace H7:=(hb.block _ (heap_lt H7)).trans H7
    replace H13:=(hb.block _ (heap_lt H13)).trans H13
    replace H14:=(hb.block _ (heap_lt H14)).trans H14
    clear hb
    exact T5_6_7_13_14 Y A5 k5 b6 b7 b13 b14 hS H5 H6 H7 H13 H14 N1
   ·go_simp
    obtain⟨Y,hw,hb,H22,-⟩:=al_new X #[.int .i64 0,.slice none 0 0] 26
    rw[hw]
    obtain⟨b22,hbn⟩: ∃b,X.heap.size=b:=⟨_,rfl⟩
    rw[hbn]at H22⊢
    have hB22:P.heap.size≤b22:=hbn▸hS.size
    replace hS:=hS.trans (hb.mono hS.size)
    refine hKK.out _ _ hS (fun hSx=>?_)
    clear hSx hKK hbn hw
    replace H6:=(hb.block _ (heap_lt H6)).trans H6
    replace H7:=(hb.block _ (heap_lt H7)).trans H7
    replace H13:=(hb.block _ (heap_lt H13)).trans H13
    replace H14:=(hb.block _ (heap_lt H14)).trans H14
    clear hb
    revert hB22
    revert H22
    revert H14
    revert H13
    revert H7
    revert H6
    revert hS
    revert b22
    revert b14
    revert b13
    revert b7
    revert b6
    revert Y
    exact T6_7_13_14_22
  ·intro X b6 b7 b13 b22 hS H6 H7 H13 H22 hB22
   refine wpAnyH_ready (rs:= [5,14]) (by kernel_rfl) (by simp) ?_
   refine(AllReadyH.cons rfl (fun KK hKK=>?_) (AllReadyH.cons rfl (fun KK hKK=>?_) AllReadyH.nil))
   ·go_simp
    refine(HCLN.out X hS).mono ?_
    rintro e Y ⟨vC,rfl,hC0,hb⟩
    have H5:=own_rebase (b':=P.heap.size) hC0 (fun g hg=>Nat.le_trans hS.size (own_lt hC0 g hg).1)
    obtain⟨A5,k5,rfl,-⟩:=mx_slice H5
    replace hS:=hS.trans (hb.mono hS.size)
    refine hKK.out _ _ hS (fun hSx=>?_)
    clear hSx hKK hC0
    replace H6:=(hb.block _ (heap_lt H6)).trans H6
    replace H7:=(hb.block _ (heap_lt H7)).trans H7
    replace H13:=(hb.block _ (heap_lt H13)).trans H13
    replace H22:=(hb.block _ (heap_lt H22)).trans H22
    clear hb
    exact T5_6_7_13_22 Y A5 k5 b6 b7 b13 b22 hS H5 H6 H7 H13 H22 hB22
   ·go_simp
    obtain⟨Y,hw,hb,H14,-⟩:=al_new X #[.slice (some ⟨b13,0,none⟩) 2 2] 30
    rw[hw]
    obtain⟨b14,hbn⟩: ∃b,X.heap.size=b:=⟨_,rfl⟩
    rw[hbn]at H14⊢
    replace hS:=hS.trans (hb.mono hS.size)
    refine hKK.out _ _ hS (fun hSx=>?_)
    clear hSx hKK hbn hw
    replace H6:=(hb.block _ (heap_lt H6)).trans H6
    replace H7:=(hb.block _ (heap_lt H7)).trans H7
    replace H13:=(hb.block _ (heap_lt H13)).trans H13
    replace H22:=(hb.block _ (heap_lt H22)).trans H22
    clear hb
    exact T6_7_13_14_22 Y b6 b7 b13 b14 b22 hS H6 H7 H13 H14 H22 hB22
  ·intro X b6 b13 b14 b22 hS H6 H13 H14 H22 hB22
   refine wpAnyH_ready (rs:= [5,7]) (by kernel_rfl) (by simp) ?_
   refine(AllReadyH.cons rfl (fun KK hKK=>?_) (AllReadyH.cons rfl (fun KK hKK=>?_) AllReadyH.nil))
   ·go_simp
    refine(HCLN.out X hS).mono ?_
    rintro e Y ⟨vC,rfl,hC0,hb⟩
    have H5:=own_rebase (b':=P.heap.size) hC0 (fun g hg=>Nat.le_trans hS.size (own_lt hC0 g hg).1)
    obtain⟨A5,k5,rfl,-⟩:=mx_slice H5
    have N1: ∀g,(Value.slice A5 nn k5).ownBlock=some g→g≠b14:=fun g e e2=>Nat.lt_irrefl b14 (Nat.lt_of_lt_of_le (heap_lt H14) (by rw[←e2];exact(own_lt hC0 g e).1))
    replace hS:=hS.trans (hb.mono hS.size)
    refine hKK.out _ _ hS (fun hSx=>?_)
    clear hSx hKK hC0
    replace H6:=(hb.block _ (heap_lt H6)).trans H6
    replace H13:=(hb.block _ (heap_lt H13)).trans H13
    replace H14:=(hb.block _ (heap_lt H14)).trans H14
    replace H22:=(hb.block _ (heap_lt H22)).trans H22
    clear hb
    exact T5_6_13_14_22 Y A5 k5 b6 b13 b14 b22 hS H5 H6 H13 H14 H22 N1 hB22
   ·go_simp
    obtain⟨Y,hw,hb,H7,-⟩:=al_new X #[.slice (some ⟨b6,0,none⟩) 1 1] 30
    rw[hw]
    obtain⟨b7,hbn⟩: ∃b,X.heap.size=b:=⟨_,rfl⟩
    rw[hbn]at H7⊢
    replace hS:=hS.trans (hb.mono hS.size)
    refine hKK.out _ _ hS (fun hSx=>?_)
    clear hSx hKK hbn hw
    replace H6:=(hb.block _ (heap_lt H6)).trans H6
    replace H13:=(hb.block _ (heap_lt H13)).trans H13
    replace H14:=(hb.block _ (heap_lt H14)).trans H14
    replace H22:=(hb.block _ (heap_lt H22)).trans H22
    clear hb
    exact T6_7_13_14_22 Y b6 b7 b13 b14 b22 hS H6 H7 H13 H14 H22 hB22
  ·intro X A5 k5 b6 b7 A8 k8 A12 k12 hS H6 H8 H12 N2
   refine wpAnyH_ready (rs:= [13,22]) (by kernel_rfl) (by simp) ?_
   refine(AllReadyH.cons rfl (fun KK hKK=>?_) (AllReadyH.cons rfl (fun KK hKK=>?_) AllReadyH.nil))
   ·go_simp
    obtain⟨Y,hw,hb,H13,-⟩:=al_new X #[.int .i64 1,.int .i64 0] 31
    rw[hw]
    obtain⟨b13,hbn⟩: ∃b,X.heap.size=b:=⟨_,rfl⟩
    rw[hbn]at H13⊢
    replace hS:=hS.trans (hb.mono hS.size)
    refine hKK.out _ _ hS (fun hSx=>?_)
    clear hSx hKK hbn hw
    replace H6:=(hb.block _ (heap_lt H6)).trans H6
    replace H8:=own_below H8 hb
    replace H12:=own_below H12 hb
    clear hb
    revert N2
    revert H13
    revert H12
    revert H8
    revert H6
    revert hS
    revert b13
    revert k12
    revert A12
    revert k8
    revert A8
    revert b7
    revert b6
    revert k5
    revert A5
    revert Y
    exact T5_6_7_8_12_13
   ·go_simp
    obtain⟨Y,hw,hb,H22,-⟩:=al_new X #[.int .i64 0,.slice none 0 0] 26
    rw[hw]
    obtain⟨b22,hbn⟩: ∃b,X.heap.size=b:=⟨_,rfl⟩
    rw[hbn]at H22⊢
    have hB22:P.heap.size≤b22:=hbn▸hS.size
    replace hS:=hS.trans (hb.mono hS.size)
    refine hKK.out _ _ hS (fun hSx=>?_)
    clear hSx hKK hbn hw
    replace H6:=(hb.block _ (heap_lt H6)).trans H6
    replace H8:=own_below H8 hb
    replace H12:=own_below H12 hb
    clear hb
    revert hB22
    revert N2
    revert H22
    revert H12
    revert H8
    revert H6
    revert hS
    revert b22
    revert k12
    revert A12
    revert k8
    revert A8
    revert b7
    revert b6
    revert k5
    revert A5
    revert Y
    exact T5_6_7_8_12_22
  ·intro X A5 k5 b6 b7 A8 k8 b13 hS H6 H8 H13
   refine wpAnyH_ready (rs:= [12,14,22]) (by kernel_rfl) (by simp) ?_
   refine(AllReadyH.cons rfl (fun KK hKK=>?_) (AllReadyH.cons rfl (fun KK hKK=>?_) (AllReadyH.cons rfl (fun KK hKK=>?_) AllReadyH.nil)))
   ·go_simp
    refine(HCLN.out X hS).mono ?_
    rintro e Y ⟨vC,rfl,hC0,hb⟩
    have H12:=own_rebase (b':=P.heap.size) hC0 (fun g hg=>Nat.le_trans hS.size (own_lt hC0 g hg).1)
    obtain⟨A12,k12,rfl,-⟩:=mx_slice H12
    have N2: ∀g,(Value.slice A12 nn k12).ownBlock=some g→(Value.slice A8 (nn+1) k8).ownBlock≠some g:=fun g e e2=>Nat.lt_irrefl _ (Nat.lt_of_lt_of_le (own_lt H8 g e2).2 (own_lt hC0 g e).1)
    replace hS:=hS.trans (hb.mono hS.size)
    refine hKK.out _ _ hS (fun hSx=>?_)
    clear hSx hKK hC0
    replace H6:=(hb.block _ (heap_lt H6)).trans H6
    replace H8:=own_below H8 hb
    replace H13:=(hb.block _ (heap_lt H13)).trans H13
    clear hb
    exact T5_6_7_8_12_13 Y A5 k5 b6 b7 A8 k8 A12 k12 b13 hS H6 H8 H12 H13 N2
   ·go_simp
    obtain⟨Y,hw,hb,H14,-⟩:=al_new X #[.slice (some ⟨b13,0,none⟩) 2 2] 30
    rw[hw]
    obtain⟨b14,hbn⟩: ∃b,X.heap.size=b:=⟨_,rfl⟩
    rw[hbn]at H14⊢
    replace hS:=hS.trans (hb.mono hS.size)
    refine hKK.out _ _ hS (fun hSx=>?_)
    clear hSx hKK hbn hw
    replace H6:=(hb.block _ (heap_lt H6)).trans H6
    replace H8:=own_below H8 hb
    replace H13:=(hb.block _ (heap_lt H13)).trans H13
    clear hb
    revert H14
    revert H13
    revert H8
    revert H6
    revert hS
    revert b14
    revert b13
    revert k8
    revert A8
    revert b7
    revert b6
    revert k5
    revert A5
    revert Y
    exact T5_6_7_8_13_14
   ·go_simp
    obtain⟨Y,hw,hb,H22,-⟩:=al_new X #[.int .i64 0,.slice none 0 0] 26
    rw[hw]
    obtain⟨b22,hbn⟩: ∃b,X.heap.size=b:=⟨_,rfl⟩
    rw[hbn]at H22⊢
    have hB22:P.heap.size≤b22:=hbn▸hS.size
    replace hS:=hS.trans (hb.mono hS.size)
    refine hKK.out _ _ hS (fun hSx=>?_)
    clear hSx hKK hbn hw
    replace H6:=(hb.block _ (heap_lt H6)).trans H6
    replace H8:=own_below H8 hb
    replace H13:=(hb.block _ (heap_lt H13)).trans H13
    clear hb
    revert hB22
    revert H22
    revert H13
    revert H8
    revert H6
    revert hS
    revert b22
    revert b13
    revert k8
    revert A8
    revert b7
    revert b6
    revert k5
    revert A5
    revert Y
    exact T5_6_7_8_13_22
  ·intro X A5 k5 b6 b7 A8 k8 b22 hS H6 H8 H22 hB22
   refine wpAnyH_ready (rs:= [12,13]) (by kernel_rfl) (by simp) ?_
   refine(AllReadyH.cons rfl (fun KK hKK=>?_) (AllReadyH.cons rfl (fun KK hKK=>?_) AllReadyH.nil))
   ·go_simp
    refine(HCLN.out X hS).mono ?_
    rintro e Y ⟨vC,rfl,hC0,hb⟩
    have H12:=own_rebase (b':=P.heap.size) hC0 (fun g hg=>Nat.le_trans hS.size (own_lt hC0 g hg).1)
    obtain⟨A12,k12,rfl,-⟩:=mx_slice H12
    have N2: ∀g,(Value.slice A12 nn k12).ownBlock=some g→(Value.slice A8 (nn+1) k8).ownBlock≠some g:=fun g e e2=>Nat.lt_irrefl _ (Nat.lt_of_lt_of_le (own_lt H8 g e2).2 (own_lt hC0 g e).1)
    replace hS:=hS.trans (hb.mono hS.size)
    refine hKK.out _ _ hS (fun hSx=>?_)
    clear hSx hKK hC0
    replace H6:=(hb.block _ (heap_lt H6)).trans H6
    replace H8:=own_below H8 hb
    replace H22:=(hb.block _ (heap_lt H22)).trans H22
    clear hb
    exact T5_6_7_8_12_22 Y A5 k5 b6 b7 A8 k8 A12 k12 b22 hS H6 H8 H12 H22 N2 hB22
   ·go_simp
    obtain⟨Y,hw,hb,H13,-⟩:=al_new X #[.int .i64 1,.int .i64 0] 31
    rw[hw]
    obtain⟨b13,hbn⟩: ∃b,X.heap.size=b:=⟨_,rfl⟩
    rw[hbn]at H13⊢
    replace hS:=hS.trans (hb.mono hS.size)
    refine hKK.out _ _ hS (fun hSx=>?_)
    clear hSx hKK hbn hw
    replace H6:=(hb.block _ (heap_lt H6)).trans H6
    replace H8:=own_below H8 hb
    replace H22:=(hb.block _ (heap_lt H22)).trans H22
    clear hb
    exact T5_6_7_8_13_22 Y A5 k5 b6 b7 A8 k8 b13 b22 hS H6 H8 H13 H22 hB22
  ·intro X A5 k5 b6 b7 b13 b14 hS H5 H6 H7 H13 H14 N1
   refine wpAnyH_ready (rs:= [8,22]) (by kernel_rfl) (by simp) ?_
   refine(AllReadyH.cons rfl (fun KK hKK=>?_) (AllReadyH.cons rfl (fun KK hKK=>?_) AllReadyH.nil))
   ·rw[if_pos (by rfl)]
    refine wp_append_at 37 (by rfl) _ _ 24 rfl P.heap.size 30 i0 (.slice none 0 0) 1 24 Tryz.underlying24 hi hz0 hz1 hz2 rfl (by decide) _ nn _ (by rfl) H5 ⟨b7,0,none⟩ 1 1 [.slice (some ⟨b6,0,none⟩) 1 1] (by rfl) rfl (cells_of_blk H7) hone1 hmx hmx2 hS.size ?_
    intro v' Y H8 hgrow hat
    clear hat
    obtain⟨A8,k8,rfl,-⟩:=mx_slice H8
    replace hS:=hS.grown hgrow hS.size (fun g e=>(own_lt H5 g e).1)
    refine hKK.out _ _ hS (fun hSx=>?_)
    clear hSx hKK
    simp only[Act.put,List.setIfInBounds_toArray,List.set_cons_zero,List.set_cons_succ]
    replace H6:=(hgrow.block _ (heap_lt H6) (fun e=>mx_not H5 H6 (by decide) e.symm)).trans H6
    replace H13:=(hgrow.block _ (heap_lt H13) (fun e=>mx_not H5 H13 (by decide) e.symm)).trans H13
    replace H14:=(hgrow.block _ (heap_lt H14) (fun e=>N1 _ e.symm rfl)).trans H14
    clear hgrow H5 H7 N1
    refine takeE 9 38 ?_
    exact T5_6_7_8_13_14 Y A5 k5 b6 b7 A8 k8 b13 b14 hS H6 H8 H13 H14
   ·go_simp
    obtain⟨Y,hw,hb,H22,-⟩:=al_new X #[.int .i64 0,.slice none 0 0] 26
    rw[hw]
    obtain⟨b22,hbn⟩: ∃b,X.heap.size=b:=⟨_,rfl⟩
    rw[hbn]at H22⊢
    have hB22:P.heap.size≤b22:=hbn▸hS.size
    replace hS:=hS.trans (hb.mono hS.size)
    refine hKK.out _ _ hS (fun hSx=>?_)
    clear hSx hKK hbn hw
    replace H5:=own_below H5 hb
    replace H6:=(hb.block _ (heap_lt H6)).trans H6
    replace H7:=(hb.block _ (heap_lt H7)).trans H7
    replace H13:=(hb.block _ (heap_lt H13)).trans H13
    replace H14:=(hb.block _ (heap_lt H14)).trans H14
    clear hb
    revert hB22
    revert N1
    revert H22
    revert H14
    revert H13
    revert H7
    revert H6
    revert H5
    revert hS
    revert b22
    revert b14
    revert b13
    revert b7
    revert b6
    revert k5
    revert A5
    revert Y
    exact T5_6_7_13_14_22
  ·intro X A5 k5 b6 b7 b13 b22 hS H5 H6 H7 H13 H22 hB22
   refine wpAnyH_ready (rs:= [8,14]) (by kernel_rfl) (by simp) ?_
   refine(AllReadyH.cons rfl (fun KK hKK=>?_) (AllReadyH.cons rfl (fun KK hKK=>?_) AllReadyH.nil))
   ·rw[if_pos (by rfl)]
    refine wp_append_at 37 (by rfl) _ _ 24 rfl P.heap.size 30 i0 (.slice none 0 0) 1 24 Tryz.underlying24 hi hz0 hz1 hz2 rfl (by decide) _ nn _ (by rfl) H5 ⟨b7,0,none⟩ 1 1 [.slice (some ⟨b6,0,none⟩) 1 1] (by rfl) rfl (cells_of_blk H7) hone1 hmx hmx2 hS.size ?_
    intro v' Y H8 hgrow hat
    clear hat
    obtain⟨A8,k8,rfl,-⟩:=mx_slice H8
    replace hS:=hS.grown hgrow hS.size (fun g e=>(own_lt H5 g e).1)
    refine hKK.out _ _ hS (fun hSx=>?_)
    clear hSx hKK
    simp only[Act.put,List.setIfInBounds_toArray,List.set_cons_zero,List.set_cons_succ]
    replace H6:=(hgrow.block _ (heap_lt H6) (fun e=>mx_not H5 H6 (by decide) e.symm)).trans H6
    replace H13:=(hgrow.block _ (heap_lt H13) (fun e=>mx_not H5 H13 (by decide) e.symm)).trans H13
    replace H22:=(hgrow.block _ (heap_lt H22) (fun e=>mx_not H5 H22 (by decide) e.symm)).trans H22
    clear hgrow H5 H7
    refine takeE 9 38 ?_
    exact T5_6_7_8_13_22 Y A5 k5 b6 b7 A8 k8 b13 b22 hS H6 H8 H13 H22 hB22
   ·go_simp
    obtain⟨Y,hw,hb,H14,-⟩:=al_new X #[.slice (some ⟨b13,0,none⟩) 2 2] 30
    rw[hw]
    obtain⟨b14,hbn⟩: ∃b,X.heap.size=b:=⟨_,rfl⟩
    rw[hbn]at H14⊢
    have N1: ∀g,(Value.slice A5 nn k5).ownBlock=some g→g≠b14:=fun g e e2=>Nat.lt_irrefl _ (by have h:=(own_lt H5 g e).2;rw[hbn,e2]at h;exact h)
    replace hS:=hS.trans (hb.mono hS.size)
    refine hKK.out _ _ hS (fun hSx=>?_)
    clear hSx hKK hbn hw
    replace H5:=own_below H5 hb
    replace H6:=(hb.block _ (heap_lt H6)).trans H6
    replace H7:=(hb.block _ (heap_lt H7)).trans H7
    replace H13:=(hb.block _ (heap_lt H13)).trans H13
    replace H22:=(hb.block _ (heap_lt H22)).trans H22
    clear hb
    exact T5_6_7_13_14_22 Y A5 k5 b6 b7 b13 b14 b22 hS H5 H6 H7 H13 H14 H22 N1 hB22
  ·intro X A5 k5 b6 b13 b14 b22 hS H5 H6 H13 H14 H22 N1 hB22
   refine ready1 7 (fun KK hKK=>?_)
   go_simp
   obtain⟨Y,hw,hb,H7,-⟩:=al_new X #[.slice (some ⟨b6,0,none⟩) 1 1] 30
   rw[hw]
   obtain⟨b7,hbn⟩: ∃b,X.heap.size=b:=⟨_,rfl⟩
   rw[hbn]at H7⊢
   replace hS:=hS.trans (hb.mono hS.size)
   refine hKK.out _ _ hS (fun hSx=>?_)
   clear hSx hKK hbn hw
   replace H5:=own_below H5 hb
   replace H6:=(hb.block _ (heap_lt H6)).trans H6
   replace H13:=(hb.block _ (heap_lt H13)).trans H13
   replace H14:=(hb.block _ (heap_lt H14)).trans H14
   replace H22:=(hb.block _ (heap_lt H22)).trans H22
   clear hb
   exact T5_6_7_13_14_22 Y A5 k5 b6 b7 b13 b14 b22 hS H5 H6 H7 H13 H14 H22 N1 hB22
  ·intro X b6 b7 b13 b14 b22 hS H6 H7 H13 H14 H22 hB22
   refine ready1 5 (fun KK hKK=>?_)
   go_simp
   refine(HCLN.out X hS).mono ?_
   rintro e Y ⟨vC,rfl,hC0,hb⟩
   have H5:=own_rebase (b':=P.heap.size) hC0 (fun g hg=>Nat.le_trans hS.size (own_lt hC0 g hg).1)
   obtain⟨A5,k5,rfl,-⟩:=mx_slice H5
   have N1: ∀g,(Value.slice A5 nn k5).ownBlock=some g→g≠b14:=fun g e e2=>Nat.lt_irrefl b14 (Nat.lt_of_lt_of_le (heap_lt H14) (by rw[←e2];exact(own_lt hC0 g e).1))
   replace hS:=hS.trans (hb.mono hS.size)
   refine hKK.out _ _ hS (fun hSx=>?_)
   clear hSx hKK hC0
   replace H6:=(hb.block _ (heap_lt H6)).trans H6
   replace H7:=(hb.block _ (heap_lt H7)).trans H7
   replace H13:=(hb.block _ (heap_lt H13)).trans H13
   replace H14:=(hb.block _ (heap_lt H14)).trans H14
   replace H22:=(hb.block _ (heap_lt H22)).trans H22
   clear hb
   exact T5_6_7_13_14_22 Y A5 k5 b6 b7 b13 b14 b22 hS H5 H6 H7 H13 H14 H22 N1 hB22
  ·intro X A5 k5 b6 b7 A8 k8 A12 k12 b13 hS H6 H8 H12 H13 N2
   refine wpAnyH_ready (rs:= [14,22]) (by kernel_rfl) (by simp) ?_
   refine(AllReadyH.cons rfl (fun KK hKK=>?_) (AllReadyH.cons rfl (fun KK hKK=>?_) AllReadyH.nil))
   ·go_simp
    obtain⟨Y,hw,hb,H14,-⟩:=al_new X #[.slice (some ⟨b13,0,none⟩) 2 2] 30
    rw[hw]
    obtain⟨b14,hbn⟩: ∃b,X.heap.size=b:=⟨_,rfl⟩
    rw[hbn]at H14⊢
    replace hS:=hS.trans (hb.mono hS.size)
    refine hKK.out _ _ hS (fun hSx=>?_)
    clear hSx hKK hbn hw
    replace H6:=(hb.block _ (heap_lt H6)).trans H6
    replace H8:=own_below H8 hb
    replace H12:=own_below H12 hb
    replace H13:=(hb.block _ (heap_lt H13)).trans H13
    clear hb
    revert N2
    revert H14
    revert H13
    revert H12
    revert H8
    revert H6
    revert hS
    revert b14
    revert b13
    revert k12
    revert A12
    revert k8
    revert A8
    revert b7
    revert b6
    revert k5
    revert A5
    revert Y
    exact T5_6_7_8_12_13_14
   ·go_simp
    obtain⟨Y,hw,hb,H22,-⟩:=al_new X #[.int .i64 0,.slice none 0 0] 26
    rw[hw]
    obtain⟨b22,hbn⟩: ∃b,X.heap.size=b:=⟨_,rfl⟩
    rw[hbn]at H22⊢
    have hB22:P.heap.size≤b22:=hbn▸hS.size
    replace hS:=hS.trans (hb.mono hS.size)
    refine hKK.out _ _ hS (fun hSx=>?_)
    clear hSx hKK hbn hw
    replace H6:=(hb.block _ (heap_lt H6)).trans H6
    replace H8:=own_below H8 hb
    replace H12:=own_below H12 hb
    replace H13:=(hb.block _ (heap_lt H13)).trans H13
    clear hb
    revert hB22
    revert N2
    revert H22
    revert H13
    revert H12
    revert H8
    revert H6
    revert hS
    revert b22
    revert b13
    revert k12
    revert A12
    revert k8
    revert A8
    revert b7
    revert b6
    revert k5
    revert A5
    revert Y
    exact T5_6_7_8_12_13_22
  ·intro X A5 k5 b6 b7 A8 k8 A12 k12 b22 hS H6 H8 H12 H22 N2 hB22
   refine ready1 13 (fun KK hKK=>?_)
   go_simp
   obtain⟨Y,hw,hb,H13,-⟩:=al_new X #[.int .i64 1,.int .i64 0] 31
   rw[hw]
   obtain⟨b13,hbn⟩: ∃b,X.heap.size=b:=⟨_,rfl⟩
   rw[hbn]at H13⊢
   replace hS:=hS.trans (hb.mono hS.size)
   refine hKK.out _ _ hS (fun hSx=>?_)
   clear hSx hKK hbn hw
   replace H6:=(hb.block _ (heap_lt H6)).trans H6
   replace H8:=own_below H8 hb
   replace H12:=own_below H12 hb
   replace H22:=(hb.block _ (heap_lt H22)).trans H22
   clear hb
   exact T5_6_7_8_12_13_22 Y A5 k5 b6 b7 A8 k8 A12 k12 b13 b22 hS H6 H8 H12 H13 H22 N2 hB22
  ·intro X A5 k5 b6 b7 A8 k8 b13 b14 hS H6 H8 H13 H14
   refine wpAnyH_ready (rs:= [12,22]) (by kernel_rfl) (by simp) ?_
   refine(AllReadyH.cons rfl (fun KK hKK=>?_) (AllReadyH.cons rfl (fun KK hKK=>?_) AllReadyH.nil))
   ·go_simp
    refine(HCLN.out X hS).mono ?_
    rintro e Y ⟨vC,rfl,hC0,hb⟩
    have H12:=own_rebase (b':=P.heap.size) hC0 (fun g hg=>Nat.le_trans hS.size (own_lt hC0 g hg).1)
    obtain⟨A12,k12,rfl,-⟩:=mx_slice H12
    have N2: ∀g,(Value.slice A12 nn k12).ownBlock=some g→(Value.slice A8 (nn+1) k8).ownBlock≠some g:=fun g e e2=>Nat.lt_irrefl _ (Nat.lt_of_lt_of_le (own_lt H8 g e2).2 (own_lt hC0 g e).1)
    replace hS:=hS.trans (hb.mono hS.size)
    refine hKK.out _ _ hS (fun hSx=>?_)
    clear hSx hKK hC0
    replace H6:=(hb.block _ (heap_lt H6)).trans H6
    replace H8:=own_below H8 hb
    replace H13:=(hb.block _ (heap_lt H13)).trans H13
    replace H14:=(hb.block _ (heap_lt H14)).trans H14
    clear hb
    exact T5_6_7_8_12_13_14 Y A5 k5 b6 b7 A8 k8 A12 k12 b13 b14 hS H6 H8 H12 H13 H14 N2
   ·go_simp
    obtain⟨Y,hw,hb,H22,-⟩:=al_new X #[.int .i64 0,.slice none 0 0] 26
    rw[hw]
    obtain⟨b22,hbn⟩: ∃b,X.heap.size=b:=⟨_,rfl⟩
    rw[hbn]at H22⊢
    have hB22:P.heap.size≤b22:=hbn▸hS.size
    replace hS:=hS.trans (hb.mono hS.size)
    refine hKK.out _ _ hS (fun hSx=>?_)
    clear hSx hKK hbn hw
    replace H6:=(hb.block _ (heap_lt H6)).trans H6
    replace H8:=own_below H8 hb
    replace H13:=(hb.block _ (heap_lt H13)).trans H13
    replace H14:=(hb.block _ (heap_lt H14)).trans H14
    clear hb
    revert hB22
    revert H22
    revert H14
    revert H13
    revert H8
    revert H6
    revert hS
    revert b22
    revert b14
    revert b13
    revert k8
    revert A8
    revert b7
    revert b6
    revert k5
    revert A5
    revert Y
    exact T5_6_7_8_13_14_22
  ·intro X A5 k5 b6 b7 A8 k8 b13 b22 hS H6 H8 H13 H22 hB22
   refine wpAnyH_ready (rs:= [12,14]) (by kernel_rfl) (by simp) ?_
   refine(AllReadyH.cons rfl (fun KK hKK=>?_) (AllReadyH.cons rfl (fun KK hKK=>?_) AllReadyH.nil))
   ·go_simp
    refine(HCLN.out X hS).mono ?_
    rintro e Y ⟨vC,rfl,hC0,hb⟩
    have H12:=own_rebase (b':=P.heap.size) hC0 (fun g hg=>Nat.le_trans hS.size (own_lt hC0 g hg).1)
    obtain⟨A12,k12,rfl,-⟩:=mx_slice H12
    have N2: ∀g,(Value.slice A12 nn k12).ownBlock=some g→(Value.slice A8 (nn+1) k8).ownBlock≠some g:=fun g e e2=>Nat.lt_irrefl _ (Nat.lt_of_lt_of_le (own_lt H8 g e2).2 (own_lt hC0 g e).1)
    replace hS:=hS.trans (hb.mono hS.size)
    refine hKK.out _ _ hS (fun hSx=>?_)
    clear hSx hKK hC0
    replace H6:=(hb.block _ (heap_lt H6)).trans H6
    replace H8:=own_below H8 hb
    replace H13:=(hb.block _ (heap_lt H13)).trans H13
    replace H22:=(hb.block _ (heap_lt H22)).trans H22
    clear hb
    exact T5_6_7_8_12_13_22 Y A5 k5 b6 b7 A8 k8 A12 k12 b13 b22 hS H6 H8 H12 H13 H22 N2 hB22
   ·go_simp
    obtain⟨Y,hw,hb,H14,-⟩:=al_new X #[.slice (some ⟨b13,0,none⟩) 2 2] 30
    rw[hw]
    obtain⟨b14,hbn⟩: ∃b,X.heap.size=b:=⟨_,rfl⟩
    rw[hbn]at H14⊢
    replace hS:=hS.trans (hb.mono hS.size)
    refine hKK.out _ _ hS (fun hSx=>?_)
    clear hSx hKK hbn hw
    replace H6:=(hb.block _ (heap_lt H6)).trans H6
    replace H8:=own_below H8 hb
    replace H13:=(hb.block _ (heap_lt H13)).trans H13
    replace H22:=(hb.block _ (heap_lt H22)).trans H22
    clear hb
    exact T5_6_7_8_13_14_22 Y A5 k5 b6 b7 A8 k8 b13 b14 b22 hS H6 H8 H13 H14 H22 hB22
  ·intro X A5 k5 b6 b7 b13 b14 b22 hS H5 H6 H7 H13 H14 H22 N1 hB22
   refine ready1 8 (fun KK hKK=>?_)
   rw[if_pos (by rfl)]
   refine wp_append_at 37 (by rfl) _ _ 24 rfl P.heap.size 30 i0 (.slice none 0 0) 1 24 Tryz.underlying24 hi hz0 hz1 hz2 rfl (by decide) _ nn _ (by rfl) H5 ⟨b7,0,none⟩ 1 1 [.slice (some ⟨b6,0,none⟩) 1 1] (by rfl) rfl (cells_of_blk H7) hone1 hmx hmx2 hS.size ?_
   intro v' Y H8 hgrow hat
   clear hat
   obtain⟨A8,k8,rfl,-⟩:=mx_slice H8
   replace hS:=hS.grown hgrow hS.size (fun g e=>(own_lt H5 g e).1)
   refine hKK.out _ _ hS (fun hSx=>?_)
   clear hSx hKK
   simp only[Act.put,List.setIfInBounds_toArray,List.set_cons_zero,List.set_cons_succ]
   replace H6:=(hgrow.block _ (heap_lt H6) (fun e=>mx_not H5 H6 (by decide) e.symm)).trans H6
   replace H13:=(hgrow.block _ (heap_lt H13) (fun e=>mx_not H5 H13 (by decide) e.symm)).trans H13
   replace H14:=(hgrow.block _ (heap_lt H14) (fun e=>N1 _ e.symm rfl)).trans H14
   replace H22:=(hgrow.block _ (heap_lt H22) (fun e=>mx_not H5 H22 (by decide) e.symm)).trans H22
   clear hgrow H5 H7 N1
   refine takeE 9 38 ?_
   exact T5_6_7_8_13_14_22 Y A5 k5 b6 b7 A8 k8 b13 b14 b22 hS H6 H8 H13 H14 H22 hB22
  ·intro X A5 k5 b6 b7 A8 k8 A12 k12 b13 b14 hS H6 H8 H12 H13 H14 N2
   refine wpAnyH_ready (rs:= [15,22]) (by kernel_rfl) (by simp) ?_
   refine(AllReadyH.cons rfl (fun KK hKK=>?_) (AllReadyH.cons rfl (fun KK hKK=>?_) AllReadyH.nil))
   ·rw[if_pos (by rfl)]
    refine wp_append_at 44 (by rfl) _ _ 24 rfl P.heap.size 30 i0 (.slice none 0 0) 1 24 Tryz.underlying24 hi hz0 hz1 hz2 rfl (by decide) _ nn _ (by rfl) H12 ⟨b14,0,none⟩ 1 1 [.slice (some ⟨b13,0,none⟩) 2 2] (by rfl) rfl (cells_of_blk H14) hone1 hmx hmx2 hS.size ?_
    intro v' Y H15 hgrow hat
    clear hat
    obtain⟨A15,k15,rfl,-⟩:=mx_slice H15
    replace hS:=hS.grown hgrow hS.size (fun g e=>(own_lt H12 g e).1)
    refine hKK.out _ _ hS (fun hSx=>?_)
    clear hSx hKK
    simp only[Act.put,List.setIfInBounds_toArray,List.set_cons_zero,List.set_cons_succ]
    replace H6:=(hgrow.block _ (heap_lt H6) (fun e=>mx_not H12 H6 (by decide) e.symm)).trans H6
    replace H8:=own_kept H8 (Kept.grown hgrow) (fun g h1 h2=>N2 g h2.symm h1)
    replace H13:=(hgrow.block _ (heap_lt H13) (fun e=>mx_not H12 H13 (by decide) e.symm)).trans H13
    clear hgrow H12 H14 N2
    refine takeE 16 45 ?_
    revert H15
    revert H13
    revert H8
    revert H6
    revert hS
    revert k15
    revert A15
    revert b14
    revert b13
    revert k12
    revert A12
    revert k8
    revert A8
    revert b7
    revert b6
    revert k5
    revert A5
    revert Y
    exact T5_6_7_8_12_13_14_15
   ·go_simp
    obtain⟨Y,hw,hb,H22,-⟩:=al_new X #[.int .i64 0,.slice none 0 0] 26
    rw[hw]
    obtain⟨b22,hbn⟩: ∃b,X.heap.size=b:=⟨_,rfl⟩
    rw[hbn]at H22⊢
    have hB22:P.heap.size≤b22:=hbn▸hS.size
    replace hS:=hS.trans (hb.mono hS.size)
    refine hKK.out _ _ hS (fun hSx=>?_)
    clear hSx hKK hbn hw
    replace H6:=(hb.block _ (heap_lt H6)).trans H6
    replace H8:=own_below H8 hb
    replace H12:=own_below H12 hb
    replace H13:=(hb.block _ (heap_lt H13)).trans H13
    replace H14:=(hb.block _ (heap_lt H14)).trans H14
    clear hb
    revert hB22
    revert N2
    revert H22
    revert H14
    revert H13
    revert H12
    revert H8
    revert H6
    revert hS
    revert b22
    revert b14
    revert b13
    revert k12
    revert A12
    revert k8
    revert A8
    revert b7
    revert b6
    revert k5
    revert A5
    revert Y
    exact T5_6_7_8_12_13_14_22
  ·intro X A5 k5 b6 b7 A8 k8 A12 k12 b13 b22 hS H6 H8 H12 H13 H22 N2 hB22
   refine ready1 14 (fun KK hKK=>?_)
   go_simp
   obtain⟨Y,hw,hb,H14,-⟩:=al_new X #[.slice (some ⟨b13,0,none⟩) 2 2] 30
   rw[hw]
   obtain⟨b14,hbn⟩: ∃b,X.heap.size=b:=⟨_,rfl⟩
   rw[hbn]at H14⊢
   replace hS:=hS.trans (hb.mono hS.size)
   refine hKK.out _ _ hS (fun hSx=>?_)
   clear hSx hKK hbn hw
   replace H6:=(hb.block _ (heap_lt H6)).trans H6
   replace H8:=own_below H8 hb
   replace H12:=own_below H12 hb
   replace H13:=(hb.block _ (heap_lt H13)).trans H13
   replace H22:=(hb.block _ (heap_lt H22)).trans H22
   clear hb
   exact T5_6_7_8_12_13_14_22 Y A5 k5 b6 b7 A8 k8 A12 k12 b13 b14 b22 hS H6 H8 H12 H13 H14 H22 N2 hB22
  ·intro X A5 k5 b6 b7 A8 k8 b13 b14 b22 hS H6 H8 H13 H14 H22 hB22
   refine ready1 12 (fun KK hKK=>?_)
   go_simp
   refine(HCLN.out X hS).mono ?_
   rintro e Y ⟨vC,rfl,hC0,hb⟩
   have H12:=own_rebase (b':=P.heap.size) hC0 (fun g hg=>Nat.le_trans hS.size (own_lt hC0 g hg).1)
   obtain⟨A12,k12,rfl,-⟩:=mx_slice H12
   have N2: ∀g,(Value.slice A12 nn k12).ownBlock=some g→(Value.slice A8 (nn+1) k8).ownBlock≠some g:=fun g e e2=>Nat.lt_irrefl _ (Nat.lt_of_lt_of_le (own_lt H8 g e2).2 (own_lt hC0 g e).1)
   replace hS:=hS.trans (hb.mono hS.size)
   refine hKK.out _ _ hS (fun hSx=>?_)
   clear hSx hKK hC0
   replace H6:=(hb.block _ (heap_lt H6)).trans H6
   replace H8:=own_below H8 hb
   replace H13:=(hb.block _ (heap_lt H13)).trans H13
   replace H14:=(hb.block _ (heap_lt H14)).trans H14
   replace H22:=(hb.block _ (heap_lt H22)).trans H22
   clear hb
   exact T5_6_7_8_12_13_14_22 Y A5 k5 b6 b7 A8 k8 A12 k12 b13 b14 b22 hS H6 H8 H12 H13 H14 H22 N2 hB22
  ·intro X A5 k5 b6 b7 A8 k8 A12 k12 b13 b14 A15 k15 hS H6 H8 H13 H15
   refine wpAnyH_ready (rs:= [17,22]) (by kernel_rfl) (by simp) ?_
   refine(AllReadyH.cons rfl (fun KK hKK=>?_) (AllReadyH.cons rfl (fun KK hKK=>?_) AllReadyH.nil))
   ·go_simp
    obtain⟨Y,hw,hb,H17,-⟩:=al_new X #[.int .i64 (-1),.slice A nn k,.int .i64 6,.slice A8 (nn+1) k8,.int .i64 6,.slice A15 (nn+1) k15] 26
    rw[hw]
    obtain⟨b17,hbn⟩: ∃b,X.heap.size=b:=⟨_,rfl⟩
    rw[hbn]at H17⊢
    replace hS:=hS.trans (hb.mono hS.size)
    refine hKK.out _ _ hS (fun hSx=>?_)
    clear hSx hKK hbn hw
    replace H6:=(hb.block _ (heap_lt H6)).trans H6
    replace H8:=own_below H8 hb
    replace H13:=(hb.block _ (heap_lt H13)).trans H13
    replace H15:=own_below H15 hb
    clear hb
    refine takeE 20 49 ?_
    revert H17
    revert H15
    revert H13
    revert H8
    revert H6
    revert hS
    revert b17
    revert k15
    revert A15
    revert b14
    revert b13
    revert k12
    revert A12
    revert k8
    revert A8
    revert b7
    revert b6
    revert k5
    revert A5
    revert Y
    exact T5_6_7_8_12_13_14_15_17
   ·go_simp
    obtain⟨Y,hw,hb,H22,-⟩:=al_new X #[.int .i64 0,.slice none 0 0] 26
    rw[hw]
    obtain⟨b22,hbn⟩: ∃b,X.heap.size=b:=⟨_,rfl⟩
    rw[hbn]at H22⊢
    have hB22:P.heap.size≤b22:=hbn▸hS.size
    replace hS:=hS.trans (hb.mono hS.size)
    refine hKK.out _ _ hS (fun hSx=>?_)
    clear hSx hKK hbn hw
    replace H6:=(hb.block _ (heap_lt H6)).trans H6
    replace H8:=own_below H8 hb
    replace H13:=(hb.block _ (heap_lt H13)).trans H13
    replace H15:=own_below H15 hb
    clear hb
    revert hB22
    revert H22
    revert H15
    revert H13
    revert H8
    revert H6
    revert hS
    revert b22
    revert k15
    revert A15
    revert b14
    revert b13
    revert k12
    revert A12
    revert k8
    revert A8
    revert b7
    revert b6
    revert k5
    revert A5
    revert Y
    exact T5_6_7_8_12_13_14_15_22
  ·intro X A5 k5 b6 b7 A8 k8 A12 k12 b13 b14 b22 hS H6 H8 H12 H13 H14 H22 N2 hB22
   refine ready1 15 (fun KK hKK=>?_)
   rw[if_pos (by rfl)]
   refine wp_append_at 44 (by rfl) _ _ 24 rfl P.heap.size 30 i0 (.slice none 0 0) 1 24 Tryz.underlying24 hi hz0 hz1 hz2 rfl (by decide) _ nn _ (by rfl) H12 ⟨b14,0,none⟩ 1 1 [.slice (some ⟨b13,0,none⟩) 2 2] (by rfl) rfl (cells_of_blk H14) hone1 hmx hmx2 hS.size ?_
   intro v' Y H15 hgrow hat
   clear hat
   obtain⟨A15,k15,rfl,-⟩:=mx_slice H15
   replace hS:=hS.grown hgrow hS.size (fun g e=>(own_lt H12 g e).1)
   refine hKK.out _ _ hS (fun hSx=>?_)
   clear hSx hKK
   simp only[Act.put,List.setIfInBounds_toArray,List.set_cons_zero,List.set_cons_succ]
   replace H6:=(hgrow.block _ (heap_lt H6) (fun e=>mx_not H12 H6 (by decide) e.symm)).trans H6
   replace H8:=own_kept H8 (Kept.grown hgrow) (fun g h1 h2=>N2 g h2.symm h1)
   replace H13:=(hgrow.block _ (heap_lt H13) (fun e=>mx_not H12 H13 (by decide) e.symm)).trans H13
   replace H22:=(hgrow.block _ (heap_lt H22) (fun e=>mx_not H12 H22 (by decide) e.symm)).trans H22
   clear hgrow H12 H14 N2
   refine takeE 16 45 ?_
   exact T5_6_7_8_12_13_14_15_22 Y A5 k5 b6 b7 A8 k8 A12 k12 b13 b14 A15 k15 b22 hS H6 H8 H13 H15 H22 hB22
  ·intro X A5 k5 b6 b7 A8 k8 A12 k12 b13 b14 A15 k15 b17 hS H6 H8 H13 H15 H17
   refine wpAnyH_ready (rs:= [21,22]) (by kernel_rfl) (by simp) ?_
   refine(AllReadyH.cons rfl (fun KK hKK=>?_) (AllReadyH.cons rfl (fun KK hKK=>?_) AllReadyH.nil))
   ·obtain⟨vN,AL,nL,kL,hN,hL,HV⟩:=chosen_at H17 hr012
    go_simp
    refine hKK.out _ _ hS (fun hSx=>?_)
    clear hSx hKK hN hL H17
    revert HV
    revert H15
    revert H13
    revert H8
    revert H6
    revert hS
    revert kL
    revert nL
    revert AL
    revert vN
    revert b17
    revert k15
    revert A15
    revert b14
    revert b13
    revert k12
    revert A12
    revert k8
    revert A8
    revert b7
    revert b6
    revert k5
    revert A5
    revert X
    exact T5_6_7_8_12_13_14_15_17_21
   ·go_simp
    obtain⟨Y,hw,hb,H22,-⟩:=al_new X #[.int .i64 0,.slice none 0 0] 26
    rw[hw]
    obtain⟨b22,hbn⟩: ∃b,X.heap.size=b:=⟨_,rfl⟩
    rw[hbn]at H22⊢
    have hB22:P.heap.size≤b22:=hbn▸hS.size
    replace hS:=hS.trans (hb.mono hS.size)
    refine hKK.out _ _ hS (fun hSx=>?_)
    clear hSx hKK hbn hw
    replace H6:=(hb.block _ (heap_lt H6)).trans H6
    replace H8:=own_below H8 hb
    replace H13:=(hb.block _ (heap_lt H13)).trans H13
    replace H15:=own_below H15 hb
    replace H17:=(hb.block _ (heap_lt H17)).trans H17
    clear hb
    revert hB22
    revert H22
    revert H17
    revert H15
    revert H13
    revert H8
    revert H6
    revert hS
    revert b22
    revert b17
    revert k15
    revert A15
    revert b14
    revert b13
    revert k12
    revert A12
    revert k8
    revert A8
    revert b7
    revert b6
    revert k5
    revert A5
    revert Y
    exact T5_6_7_8_12_13_14_15_17_22
  ·intro X A5 k5 b6 b7 A8 k8 A12 k12 b13 b14 A15 k15 b22 hS H6 H8 H13 H15 H22 hB22
   refine ready1 17 (fun KK hKK=>?_)
   go_simp
   obtain⟨Y,hw,hb,H17,-⟩:=al_new X #[.int .i64 (-1),.slice A nn k,.int .i64 6,.slice A8 (nn+1) k8,.int .i64 6,.slice A15 (nn+1) k15] 26
   rw[hw]
   obtain⟨b17,hbn⟩: ∃b,X.heap.size=b:=⟨_,rfl⟩
   rw[hbn]at H17⊢
   replace hS:=hS.trans (hb.mono hS.size)
   refine hKK.out _ _ hS (fun hSx=>?_)
   clear hSx hKK hbn hw
   replace H6:=(hb.block _ (heap_lt H6)).trans H6
   replace H8:=own_below H8 hb
   replace H13:=(hb.block _ (heap_lt H13)).trans H13
   replace H15:=own_below H15 hb
   replace H22:=(hb.block _ (heap_lt H22)).trans H22
   clear hb
   refine takeE 20 49 ?_
   exact T5_6_7_8_12_13_14_15_17_22 Y A5 k5 b6 b7 A8 k8 A12 k12 b13 b14 A15 k15 b17 b22 hS H6 H8 H13 H15 H17 H22 hB22
  ·intro X A5 k5 b6 b7 A8 k8 A12 k12 b13 b14 A15 k15 b17 vN AL nL kL hS H6 H8 H13 H15 HV
   refine ready1 22 (fun KK hKK=>?_)
   go_simp
   obtain⟨Y,hw,hb,H22,-⟩:=al_new X #[.int .i64 0,.slice none 0 0] 26
   rw[hw]
   obtain⟨b22,hbn⟩: ∃b,X.heap.size=b:=⟨_,rfl⟩
   rw[hbn]at H22⊢
   have hB22:P.heap.size≤b22:=hbn▸hS.size
   replace hS:=hS.trans (hb.mono hS.size)
   refine hKK.out _ _ hS (fun hSx=>?_)
   clear hSx hKK hbn hw
   replace H6:=(hb.block _ (heap_lt H6)).trans H6
   replace H8:=own_below H8 hb
   replace H13:=(hb.block _ (heap_lt H13)).trans H13
   replace H15:=own_below H15 hb
   clear hb
   revert hB22
   revert H22
   revert HV
   revert H15
   revert H13
   revert H8
   revert H6
   revert hS
   revert b22
   revert kL
   revert nL
   revert AL
   revert vN
   revert b17
   revert k15
   revert A15
   revert b14
   revert b13
   revert k12
   revert A12
   revert k8
   revert A8
   revert b7
   revert b6
   revert k5
   revert A5
   revert Y
   exact T5_6_7_8_12_13_14_15_17_21_22
  ·intro X A5 k5 b6 b7 A8 k8 A12 k12 b13 b14 A15 k15 b17 b22 hS H6 H8 H13 H15 H17 H22 hB22
   refine ready1 21 (fun KK hKK=>?_)
   obtain⟨vN,AL,nL,kL,hN,hL,HV⟩:=chosen_at H17 hr012
   go_simp
   refine hKK.out _ _ hS (fun hSx=>?_)
   clear hSx hKK hN hL H17
   exact T5_6_7_8_12_13_14_15_17_21_22 X A5 k5 b6 b7 A8 k8 A12 k12 b13 b14 A15 k15 b17 vN AL nL kL b22 hS H6 H8 H13 H15 HV H22 hB22
  ·intro X A5 k5 b6 b7 A8 k8 A12 k12 b13 b14 A15 k15 b17 vN AL nL kL b22 hS H6 H8 H13 H15 HV H22 hB22
   have z0:=mx_cell (j:=0) H22
   have z1:=mx_cell (j:=1) H22
   have f0:=free_at (j:=0) H22
   have f1:=free_at (j:=1) H22
   obtain⟨wy,hwy,hby,hky⟩:=two_setW H22 (.int .i64 vN) (.slice AL nL kL)
   have hSy:=hS.trans (hky.below (fun i e=>by rw[e];exact hB22) hS.size)
   refine ready1 23 (fun KK hKK=>?_)
   go_simp
   try rw[hwy]
   refine hKK.out _ _ hSy (fun hSx=>?_)
   clear hSx hKK
   refine wpAnyH_done (by kernel_rfl) ?_ _
   have HEND:=Lib.hid (HCH.out X wy b6 b13 A8 k8 A15 k15 vN AL nL kL hS H6 H13 H8 H15 HV b22 H22 hky hB22)
   have HBY:=Lib.hid hby
   have HSY:=Lib.hid hSy
   have HB22:=Lib.hid hB22
   clear hS H6 H13 H8 H15 HV H22 hby hSy hky z0 z1 f0 f1 hwy
   go_wp2_with fail
   go_meet
   obtain⟨cl',h1,h2,h3⟩:=HEND.out
   exact⟨b22,vN,AL,nL,kL,cl',rfl,HB22,HBY,Lib.hid h1,Lib.hid h2,Lib.hid h3,HSY⟩
end Go.Proofs.YtkfgplfllddhnaaGreatDoor
