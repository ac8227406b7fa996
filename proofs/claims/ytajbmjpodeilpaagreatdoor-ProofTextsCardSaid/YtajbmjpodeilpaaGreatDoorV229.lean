/- salvorlaw08.Copies, SameLists. Reference of layer 5: Check. What ProofDoes needs beside its walk: the reference's steps are the program's; blocks that may be written. Reference of layer 10: Check. -/
import Derived.Test.YtajbmjpodeilpaaGreatDoorV202
import Derived.Test.YtajbmjpodeilpaaGreatDoorV203
import Derived.Test.YtajbmjpodeilpaaGreatDoorV200
import Derived.Test.YtajbmjpodeilpaaGreatDoorV204
import Derived.Test.YtajbmjpodeilpaaGreatDoorV226
import Derived.Test.YtajbmjpodeilpaaGreatDoorV215
import Derived.Test.YtajbmjpodeilpaaGreatDoorV212
import Derived.Test.YtajbmjpodeilpaaGreatDoorV225
import Derived.Test.YtajbmjpodeilpaaGreatDoorV228
namespace Go.Proofs.YtajbmjpodeilpaaGreatDoor
open Go.RowKit
end Go.Proofs.YtajbmjpodeilpaaGreatDoor
namespace Go.Proofs.YtajbmjpodeilpaaGreatDoor
open Go.RowKit
theorem ref_var01 (x:Int) (w:World):Calls Tryz.prog 51 #[.int .i64 x] w fun e w'=>e= .returned (.int .i64 (litV x:Nat))∧w=w':=by
 obtain⟨b,hb⟩: ∃b,litB x=b:=⟨_,rfl⟩
 have HR:=ref_right_lit x w
 rw[hb]at HR
 have HR:=Lib.hid HR
 cases b with
 | false=>
  have HV:=Lib.hid (show litV x=0 from by unfold litV;rw[if_neg (by rw[hb];decide)])
  clear hb
  go_enter Tryz.func51,Tryz.ntmps51
  go_wp2_with fail
  refine HR.out.mono ?_
  rintro e w' ⟨rfl,rfl⟩
  go_wp2_with fail
  go_ret
  exact⟨by rw[HV.out];rfl,rfl⟩
 | true=>
  have HV:=Lib.hid (show litV x=x.natAbs from by unfold litV;rw[if_pos hb])
  have hbb:=(litB_iff x).1 hb
  clear hb
  by_cases hx:x<0
  ·
   have q0:decide (x<0)=true:=by simpa using hx
   have w1:IntKind.i64.wrap (-x)= -x:=IntWalk.i64_in _ (by omega)
   go_enter Tryz.func51,Tryz.ntmps51
   go_wp2_with fail
   refine HR.out.mono ?_
   rintro e w' ⟨rfl,rfl⟩
   go_wp2_with fail
   go_ret
   exact⟨by rw[HV.out];exact congrArg (fun z=>Ending.returned (.int .i64 z)) (by omega),rfl⟩
  ·
   have q0:decide (x<0)=false:=by simpa using hx
   go_enter Tryz.func51,Tryz.ntmps51
   go_wp2_with fail
   refine HR.out.mono ?_
   rintro e w' ⟨rfl,rfl⟩
   go_wp2_with fail
   go_ret
   exact⟨by rw[HV.out];exact congrArg (fun z=>Ending.returned (.int .i64 z)) (by omega),rfl⟩
theorem dropAt5 {α:Type} {l:List α} {k:Nat} {x:α} (h:l[k]? =some x):l.drop k=x::l.drop (k+1):=by
 have hk:=(List.getElem?_eq_some_iff.1 h).1
 have:=List.drop_eq_getElem_cons hk
 rwa [show l[k]=x from Option.some.inj ((List.getElem?_eq_getElem hk).symm.trans h)]at this
set_option maxRecDepth 100000 in
set_option maxHeartbeats 4000000 in
theorem ref_check05 {O:Nat→Prop} (vn:Int) (u:Value) (cs:List (List Int)) (w:World) (h:ClsIn O w u cs) (hl:cs.length≤100000000000) (hcl: ∀c∈cs,c.length≤100000000000):
  Calls Tryz.prog 22 #[.agg #[.int .i64 vn,u]] w fun e w'=>e= .returned (.tuple #[.int .i64 (fchk vn cs).1,.int .i64 ((fchk vn cs).2:Nat)])∧Below w.heap.size w w':=by
 obtain⟨W,hW,hb,hn,-⟩:=al_new w #[.int .i64 vn,u] 54
 have b0:W.cell? ⟨w.heap.size,0,none⟩=some (.int .i64 vn):=mx_cell (j:=0) hn
 have b1:W.cell? ⟨w.heap.size,1,none⟩=some u:=mx_cell (j:=1) hn
 have hlt:=heap_lt hn
 have HN:=Lib.hid hn
 have HW:=Lib.hid hW
 have HB:=Lib.hid hb
 have HC:=Lib.hid (h.below hb)
 have HCL:=Lib.hid hcl
 obtain⟨R,hR⟩: ∃R,fchk vn cs=R:=⟨_,rfl⟩
 rw[hR]
 have HF:=Lib.hid (show(if(decide (0≤vn)&&decide (vn≤1048576))=false then(-1,50)else if 262144<cs.length then(-1,5)else fchkGo vn 0 cs)=R from hR)
 obtain⟨A,c,rfl,hc,_⟩:=h
 clear hb hn hW hcl hR
 go_enter Tryz.func22,Tryz.ntmps22
 go_upto_region 1 with fail
 rw[HW.out]
 by_cases h1:vn<0
 ·have hE:=HF.out
  rw[if_pos (by rw[decide_eq_false (by omega)];rfl)]at hE
  subst hE
  have q1:decide (vn<0)=true:=decide_eq_true h1
  go_wp2_with fail
  go_ret2
  exact⟨rfl,HB.out⟩
 have q1:decide (vn<0)=false:=decide_eq_false h1
 by_cases h2:1048576<vn
 ·have hE:=HF.out
  rw[if_pos (by rw[decide_eq_false (show¬vn≤1048576 by omega),Bool.and_false])]at hE
  subst hE
  have q2:decide (1048576<vn)=true:=decide_eq_true h2
  go_wp2_with fail
  go_ret2
  exact⟨rfl,HB.out⟩
 have q2:decide (1048576<vn)=false:=decide_eq_false h2
 have hE:=HF.out
 rw[if_neg (by rw[decide_eq_true (show 0≤vn by omega),decide_eq_true (show vn≤1048576 by omega)];decide)]at hE
 by_cases h3:262144<cs.length
 ·rw[if_pos h3]at hE
  subst hE
  have q3:decide ((262144:Int)<(cs.length:Int))=true:=decide_eq_true (by omega)
  have q3':(262144:Int)<(cs.length:Int):=by omega
  go_wp2_with fail
  go_ret2
  exact⟨rfl,HB.out⟩
 rw[if_neg h3]at hE
 have q3:decide ((262144:Int)<(cs.length:Int))=false:=decide_eq_false (by omega)
 have q3': ¬(262144:Int)<(cs.length:Int):=by omega
 have HE:=Lib.hid hE
 clear hE HF
 go_wp2_with fail
 clear b0 b1
 go_loopw [4] (fun iv wr=> ∃i:Nat,i≤cs.length∧iv= .int .i64 i∧Hid (fchkGo vn i (cs.drop i)=R)∧Hid (Below W.heap.size W wr)) (fun iv _=>cs.length-(intOf iv).toNat)
 case atStart=>exact⟨0,Nat.zero_le _,rfl,Lib.hid HE.out,Lib.hid (Below.refl _ _)⟩
 case round=>
  obtain⟨i,hi,rfl,HG,HBR⟩:=hrel
  have hBR:=HBR.out
  have b1:=(hBR.cell (p:=⟨w.heap.size,1,none⟩) hlt).trans (mx_cell (j:=1) HN.out)
  by_cases hlt2:i<cs.length
  ·obtain⟨x,hx⟩:=getElem_of hlt2
   have hG:=HG.out
   rw[dropAt5 hx,fchkGo]at hG
   have HXL:=Lib.hid (HCL.out x (List.mem_of_getElem? hx))
   obtain⟨A',c',hv,_,_,hxx⟩:=HC.out
   simp only[Value.slice.injEq,true_and]at hv
   obtain⟨rfl,rfl⟩:=hv
   obtain⟨g,o,uv,rfl,hg,_,d0,hu⟩:=hxx i x hx
   have d1:=(hBR.cell (p:=⟨g,o+i,none⟩) hg).trans d0
   have HRT:=Lib.hid (ref_right_clause uv x wr (hu.below hBR) (by have:=HXL.out;omega))
   have HU:=Lib.hid hu
   obtain⟨Au,cu,rfl,hcu,_⟩:=hu
   have wi:IntKind.i64.wrap (i:Int)=(i:Int):=IntWalk.i64_in _ (by omega)
   have wi1:IntKind.i64.wrap ((i:Int)+1)=(i:Int)+1:=IntWalk.i64_in _ (by omega)
   obtain⟨cb,hcb⟩: ∃b,clauseB x=b:=⟨_,rfl⟩
   rw[hcb]at HRT hG
   have HCB:=Lib.hid hcb
   have HG2:=Lib.hid hG
   clear hG hx hxx d0 hcb
   cases cb with
   | false=>
    have hE:=HG2.out
    rw[if_pos rfl]at hE
    subst hE
    go_wp2_with fail
    refine HRT.out.mono ?_
    rintro e w' ⟨rfl,rfl⟩
    go_wp2_with fail
    go_ret2
    exact⟨rfl,HB.out.trans (HBR.out.mono HB.out.size)⟩
   | true=>
    have hE:=HG2.out
    rw[if_neg (by decide)]at hE
    have HLB:=Lib.hid (show∀y∈x,litB y=true from fun y hy=>by
     have:=HCB.out
     unfold clauseB at this
     rw[Bool.and_eq_true]at this
     exact List.all_eq_true.1 this.2 y hy)
    obtain⟨bb,hbb⟩: ∃b,x.any (beyB vn)=b:=⟨_,rfl⟩
    rw[hbb]at hE
    have HBB:=Lib.hid hbb
    have HG3:=Lib.hid hE
    have hxl:=HXL.out
    clear hE hbb HG2
    have hq:decide ((i:Int)<(cs.length:Int))=true:=decide_eq_true (by omega)
    have hq':(i:Int)<(cs.length:Int):=by omega
    have HB1:=HBR
    clear HBR hBR
    obtain⟨wo,rfl⟩: ∃wo:World,wo=wr:=⟨_,rfl⟩
    go_wp2_with fail
    refine HRT.out.mono ?_
    rintro e w' ⟨rfl,rfl⟩
    go_wp2_with fail
    clear b1 d1
    go_loopw [6] (fun kv wr=> ∃k:Nat,k≤x.length∧kv= .int .i64 k∧Hid (bb=(x.drop k).any (beyB vn))∧Hid (Below W.heap.size W wr)) (fun kv _=>x.length-(intOf kv).toNat)
    case atStart=>exact⟨0,Nat.zero_le _,rfl,Lib.hid HBB.out.symm,HB1⟩
    case round=>
     obtain⟨k,hk,rfl,HK,HBR⟩:=hrel
     have hBR:=HBR.out
     by_cases hkl:k<x.length
     ·obtain⟨y,hy⟩:=getElem_of hkl
      have hyb:=HLB.out y (List.mem_of_getElem? hy)
      have hkk:=HK.out
      rw[dropAt5 hy,List.any_cons]at hkk
      have hby:beyB vn y=decide (vn<(litV y:Nat)):=by unfold beyB;rw[hyb];rfl
      rw[hby]at hkk
      obtain⟨A'',c'',hv,_,_,hyy⟩:=HU.out
      simp only[Value.slice.injEq,true_and]at hv
      obtain⟨rfl,rfl⟩:=hv
      obtain⟨g2,o2,rfl,hg2,_,e0⟩:=hyy k y hy
      have e1:=(hBR.cell (p:=⟨g2,o2+k,none⟩) hg2).trans e0
      have c0:=(hBR.cell (p:=⟨w.heap.size,0,none⟩) hlt).trans (mx_cell (j:=0) HN.out)
      have hgr:g2<wr.heap.size:=Nat.lt_of_lt_of_le hg2 hBR.size
      have hwr:w.heap.size<wr.heap.size:=Nat.lt_of_lt_of_le hlt hBR.size
      obtain⟨lv,hlv⟩: ∃lv:Nat,litV y=lv:=⟨_,rfl⟩
      have HVR:=Lib.hid (fun W=>ref_var01 y W)
      rw[hlv]at HVR hkk
      obtain⟨q,hq2⟩: ∃q,decide (vn<(lv:Int))=q:=⟨_,rfl⟩
      rw[hq2]at hkk
      have HKK:=Lib.hid hkk
      have wk1:IntKind.i64.wrap ((k:Int)+1)=(k:Int)+1:=IntWalk.i64_in _ (by omega)
      have hkd:decide ((k:Int)<(x.length:Int))=true:=decide_eq_true (by omega)
      have hkd':(k:Int)<(x.length:Int):=by omega
      clear hkk hby hyy hy e0 hyb hlv
      go_upto_region 14 with fail
      refine wp_region_held_drew (S:=fun w'=>Below wr.heap.size wr w') (by kernel_rfl) (mx_drew wr) (fun hS=>?_)
      obtain⟨xD,hxD⟩: ∃z,wr.drew=z:=⟨_,rfl⟩
      rw[hxD]at hS⊢
      clear hxD
      refine takeE 0 41 ?_
      refine takeE 1 42 ?_
      refine takeE 2 43 ?_
      refine takeF 3 44 (fun wq hSw=>(hSw.cell (p:=⟨g2,o2+k,none⟩) hgr).trans e1) ?_
      refine takeE 5 46 ?_
      refine takeF 6 47 (fun wq hSw=>(hSw.cell (p:=⟨w.heap.size,0,none⟩) hwr).trans c0) ?_
      refine ready1 4 (fun K hK=>?_)
      go_simp
      refine(HVR.out _).mono ?_
      rintro e w' ⟨rfl,rfl⟩
      refine hK.out _ _ hS (fun _=>?_)
      clear hK
      refine takeE 7 48 ?_
      refine wpAnyH_done (by kernel_rfl) ?_ _
      have HBD:=Lib.hid (hBR.trans (hS.mono hBR.size))
      clear hS hBR e1 c0
      cases q with
      | true=>
       have hE:=HG3.out
       rw[if_pos (by rw[HKK.out];rfl)]at hE
       subst hE
       go_wp2_with fail
       go_ret2
       exact⟨rfl,HB.out.trans (HBD.out.mono HB.out.size)⟩
      | false=>
       go_wp2_with fail
       go_roundw
       case rel=>exact⟨k+1,by omega,by go_num,Lib.hid (by rw[HKK.out,Bool.false_or]),HBD⟩
       case measure=>simp[intOf];omega
     ·obtain rfl:k=x.length:=by omega
      have hkd:decide ((x.length:Int)<(x.length:Int))=false:=decide_eq_false (by omega)
      have hF:=HK.out
      rw[List.drop_length]at hF
      have hE:=HG3.out
      rw[if_neg (by rw[hF,List.any_nil];decide)]at hE
      have HE2:=Lib.hid hE
      clear hF hE hBR
      go_wp2_with fail
      go_roundw
      case rel=>exact⟨i+1,by omega,by go_num,HE2,HBR⟩
      case measure=>simp[intOf];omega
  ·obtain rfl:i=cs.length:=by omega
   have hE:=HG.out
   rw[List.drop_length,fchkGo]at hE
   subst hE
   go_wp2_with fail
   go_ret2
   exact⟨rfl,HB.out.trans (HBR.out.mono HB.out.size)⟩
end Go.Proofs.YtajbmjpodeilpaaGreatDoor
namespace Go.Proofs.YtajbmjpodeilpaaGreatDoor
open Go.RowKit
theorem ref_do {O:Nat→Prop} {N:Nat} (ev:Value) (k:Ckr) (ul uh:Value) (s:EStep) (w:World) (he:EntIn O w ev k.ents) (hl:IntsIn O w ul s.lits) (hh:IntsIn O w uh s.hints) (hk:k.Ok N) (hN:N≤100000)
  (hll:s.lits.length≤1000000) (hhl:s.hints.length≤100000) (hr: ∀h∈s.hints,-9223372036854775808≤h∧h≤9223372036854775807):
  Calls Tryz.prog 34 #[ckK ev k,.agg #[.bool s.del,.int .i64 s.id,ul,uh]] w fun e w'=> ∃v',e= .returned (.tuple #[ckK v' (k.do_ s).1,.int .i64 ((k.do_ s).2.1:Nat),.int .i64 (k.do_ s).2.2.1,.int .i64 ((k.do_ s).2.2.2:Nat)])∧EntIn (fun g=>O g∨w.heap.size≤g) w' v' (k.do_ s).1.ents∧Below w.heap.size w w':=by
 have h1:=hk.len
 have h2:=hk.adds
 have h3:=hk.dels
 have h4:=hk.rats
 refine(ref_do10 ev k ul uh s w he hl hh (by omega) hk.cls hll hhl hr (by omega)).mono fun e w' h=>?_
 obtain⟨⟨out,v',ho,he',hE⟩,hb⟩:=h
 rw[rDo_eq hk ho]at he' hE
 exact⟨v',he',hE,hb⟩
theorem ref_new {O:Nat→Prop} (vn:Int) (v:Value) (cs:List (List Int)) (w:World) (h:ClsIn O w v cs) (hl:cs.length≤100000) (hcl: ∀c∈cs,c.length≤100000000000):
  Calls Tryz.prog 30 #[.agg #[.int .i64 vn,v]] w fun e w'=> ∃v',e= .returned (ckK v' (ckrNew cs))∧EntIn (fun g=>O g∨w.heap.size≤g) w' v' (ckrNew cs).ents∧Below w.heap.size w w':=by
 refine(ref_new10 vn v cs w h hl hcl).mono fun e w' h=>?_
 rw[rNew_eq]at h
 obtain⟨⟨v',h1,h2⟩,h3⟩:=h
 exact⟨v',h1,h2,h3⟩
theorem ckrNew_ok {cs:List (List Int)} (hc: ∀c∈cs,clauseB c=true) (hl:cs.length≤1000):(ckrNew cs).Ok 1000:=by
 rw[ckrNew_of]
 exact ckrOf_ok hc hl (Nat.zero_le _)
theorem fchkGo_zero {n:Int}: ∀{cs:List (List Int)} {i:Nat},(fchkGo n i cs).2=0→fchkGo n i cs=(-1,0)∧∀c∈cs,clauseB c=true
 | [],i,_=>⟨rfl,fun c hc=>by cases hc⟩
 | c::r,i,h=>by
  rw[fchkGo]at h⊢
  by_cases h1:clauseB c=false
  ·rw[if_pos h1]at h
   cases h
  ·rw[if_neg h1]at h⊢
   by_cases h2:c.any (beyB n)=true
   ·rw[if_pos h2]at h
    cases h
   ·rw[if_neg h2]at h⊢
    obtain⟨a,b⟩:=fchkGo_zero h
    refine⟨a,fun x hx=>?_⟩
    rcases List.mem_cons.1 hx with rfl|hx
    ·simpa using h1
    ·exact b x hx
theorem fchk_zero {n:Int} {cs:List (List Int)} (h:(fchk n cs).2=0):fchk n cs=(-1,0)∧∀c∈cs,clauseB c=true:=by
 unfold fchk at h⊢
 split at h
 ·cases h
 ·rename_i h1
  rw[if_neg h1]
  split at h
  ·cases h
  ·rename_i h2
   rw[if_neg h2]
   exact fchkGo_zero h
theorem IntsIn.ckf2 {b:Nat} {O:Nat→Prop} {w w':World} {v:Value} {xs:List Int} (h:IntsIn O w v xs) (k:CkF b w w') (hO: ∀g,O g→g≠b):IntsIn O w' v xs:=by
 obtain⟨A,c,hv,hc,hn,hx⟩:=h
 refine⟨A,c,hv,hc,hn,fun i x hi=>?_⟩
 obtain⟨g,o,h1,h2,h3,h4⟩:=hx i x hi
 exact⟨g,o,h1,Nat.lt_of_lt_of_le h2 k.size,h3,k.cell h4 (hO g h3)⟩
theorem EntIn.ckf {b:Nat} {O:Nat→Prop} {w w':World} {v:Value} {es:Ents} (h:EntIn O w v es) (k:CkF b w w') (hO: ∀g,O g→g≠b):EntIn O w' v es:=by
 obtain⟨A,c,hv,hc,hn,hx⟩:=h
 refine⟨A,c,hv,hc,hn,fun i p hi=>?_⟩
 obtain⟨g,o,u,h1,h2,h3,h4,h5,h6⟩:=hx i p hi
 exact⟨g,o,u,h1,Nat.lt_of_lt_of_le h2 k.size,h3,k.cell h4 (hO g h3),k.cell h5 (hO g h3),h6.ckf2 k hO⟩
theorem StepIn.ckf {b:Nat} {O:Nat→Prop} {w w':World} {v:Value} {ss:List EStep} (h:StepIn O w v ss) (k:CkF b w w') (hO: ∀g,O g→g≠b):StepIn O w' v ss:=by
 obtain⟨A,c,hv,hc,hn,hx⟩:=h
 refine⟨A,c,hv,hc,hn,fun i s hi=>?_⟩
 obtain⟨g,o,ul,uh,h1,h2,h3,c0,c1,c2,c3,hl,hh⟩:=hx i s hi
 exact⟨g,o,ul,uh,h1,Nat.lt_of_lt_of_le h2 k.size,h3,k.cell c0 (hO g h3),k.cell c1 (hO g h3),k.cell c2 (hO g h3),k.cell c3 (hO g h3),hl.ckf2 k hO,hh.ckf2 k hO⟩
theorem StepIn.one {O:Nat→Prop} {w:World} {gs os ct j:Nat} {ss:List EStep} {s:EStep} (h:StepIn O w (.slice (some ⟨gs,os,none⟩) ss.length ct) ss) (hj:ss[j]? =some s):StepIn O w (.slice (some ⟨gs,os+j*4,none⟩) 1 (ct-j)) [s]:=by
 obtain⟨A,c,hv,hc,_,hx⟩:=h
 simp only[Value.slice.injEq,true_and]at hv
 obtain⟨rfl,rfl⟩:=hv
 have hjl:=(List.getElem?_eq_some_iff.1 hj).1
 refine⟨_,_,rfl,by show 1≤_;omega,(fun h=>by cases h),fun i p hi=>?_⟩
 have hil:=(List.getElem?_eq_some_iff.1 hi).1
 rw[List.length_singleton]at hil
 obtain rfl:i=0:=by omega
 obtain rfl:s=p:=by simpa using hi
 obtain⟨g,o,ul,uh,h1,h2,h3,c0,c1,c2,c3,hl,hh⟩:=hx j s hj
 simp only[Option.some.injEq,Addr.mk.injEq,and_true]at h1
 obtain⟨rfl,rfl⟩:=h1
 exact⟨gs,os+j*4,ul,uh,rfl,h2,h3,by rw[Nat.zero_mul,Nat.add_zero];exact c0,by rw[Nat.zero_mul,Nat.add_zero];exact c1,by rw[Nat.zero_mul,Nat.add_zero];exact c2,by rw[Nat.zero_mul,Nat.add_zero];exact c3,hl,hh⟩
def WriL (w:World) (g n:Nat):Prop:= ∃cs,w.heap[g]? =some (.cells cs 28 (0,0))∧n≤cs.size
theorem WriL.cell {w:World} {g n:Nat} (h:WriL w g n) {i:Nat} (hi:i<n):(∃v,w.cell? ⟨g,i,none⟩=some v)∧w.frozen? ⟨g,i,none⟩=false:=by
 obtain⟨cs,h1,h2⟩:=h
 refine⟨⟨cs[i]'(by omega),?_⟩,free_of5 h1⟩
 rw[mx_cell h1]
 exact Array.getElem?_eq_getElem (by omega)
theorem WriL.set {w:World} {g n:Nat} (h:WriL w g n) (b j:Nat) (v:Value):WriL (w.setCell ⟨b,j,none⟩ v) g n:=by
 obtain⟨cs,h1,h2⟩:=h
 by_cases hb:g=b
 ·subst hb
  exact⟨_,mx_set h1 v,by simpa using h2⟩
 ·exact⟨cs,(Below.heap_setCell _ _ _ _ hb).trans h1,h2⟩
theorem WriL.kept {O:Nat→Prop} {w w':World} {g n:Nat} (h:WriL w g n) (k:Kept O w w') (hO: ¬O g):WriL w' g n:=by
 obtain⟨cs,h1,h2⟩:=h
 exact⟨cs,(k.block g (heap_lt h1) hO).trans h1,h2⟩
theorem WriL.below {w w':World} {g n:Nat} (h:WriL w g n) (k:Below w.heap.size w w'):WriL w' g n:=h.kept (O:=fun _=>False) (Kept.of_below k) (fun h=>h)
theorem WriL.ckf {b:Nat} {w w':World} {g n:Nat} (h:WriL w g n) (k:CkF b w w') (hb:g≠b):WriL w' g n:=by
 obtain⟨cs,h1,h2⟩:=h
 exact⟨cs,k.block h1 hb,h2⟩
def KeepT (T:TypeId) (w w':World):Prop:= ∀(g:Nat) (cs:Array Value),w.heap[g]? =some (.cells cs T (0,0))→w'.heap[g]? =some (.cells cs T (0,0))
theorem KeepT.refl (T:TypeId) (w:World):KeepT T w w:=fun _ _ h=>h
theorem KeepT.below {T:TypeId} {w w' w2:World} (h:KeepT T w w') (k:Below w'.heap.size w' w2):KeepT T w w2:=fun g cs hg=>(k.block g (heap_lt (h g cs hg))).trans (h g cs hg)
theorem KeepT.set {T:TypeId} {w w':World} (h:KeepT T w w') {b n:Nat} (hb:WriL w' b n) (hT:T≠28) (j:Nat) (v:Value):KeepT T w (w'.setCell ⟨b,j,none⟩ v):=fun g cs hg=>by
 have h1:=h g cs hg
 refine(Below.heap_setCell _ _ _ _ fun e=>?_).trans h1
 obtain⟨cs2,h2,_⟩:=hb
 rw[e,h2]at h1
 simp only[Option.some.injEq,Obj.cells.injEq]at h1
 exact hT h1.2.1.symm
theorem KeepT.trans {T:TypeId} {a b c:World} (h:KeepT T a b) (k:KeepT T b c):KeepT T a c:=fun g cs hg=>k g cs (h g cs hg)
theorem KeepT.of_below {T:TypeId} {w w':World} (k:Below w.heap.size w w'):KeepT T w w':=(KeepT.refl T w).below k
def WriE (B:Nat) (w:World) (pre:List EX) (es:Ents):Prop:= ∀(i:Nat) (x:EX) (c:List Int),pre[i]? =some x→es[i]? =some (x.1,c)→∀g,x.2.1.ownBlock=some g→B≤g∧WriL w g c.length
theorem WriE.set {B:Nat} {w:World} {pre:List EX} {es:Ents} (h:WriE B w pre es) (b j:Nat) (v:Value):WriE B (w.setCell ⟨b,j,none⟩ v) pre es:=fun i x c h1 h2 g hg=>⟨(h i x c h1 h2 g hg).1,(h i x c h1 h2 g hg).2.set b j v⟩
theorem WriE.below {B:Nat} {w w':World} {pre:List EX} {es:Ents} (h:WriE B w pre es) (k:Below w.heap.size w w'):WriE B w' pre es:=fun i x c h1 h2 g hg=>⟨(h i x c h1 h2 g hg).1,(h i x c h1 h2 g hg).2.below k⟩
theorem ClsOwn.other {n:Nat} {w w':World} {v:Value} {cs:List (List Int)} (h:ClsOwn n w v cs) {p:Nat} {c:Array Value} {T:TypeId} (hp:w.heap[p]? =some (.cells c T (0,0))) (h1:T≠28) (h2:T≠30) (k:Kept (fun g=>g=p) w w'):ClsOwn n w' v cs:=by
 obtain⟨us,q1,q2⟩:=h
 refine⟨us,own_kept q1 k (fun g hg e=>mx_not q1 hp h2 (by rw[←e];exact hg)),fun i xs hi=>?_⟩
 obtain⟨u,hu,ho⟩:=q2 i xs hi
 exact⟨u,hu,own_kept ho k (fun g hg e=>mx_not ho hp h1 (by rw[←e];exact hg))⟩
theorem ClsIn.ltO {O:Nat→Prop} {w:World} {v:Value} {cs:List (List Int)} (h:ClsIn O w v cs):ClsIn (fun g=>O g∧g<w.heap.size) w v cs:=by
 obtain⟨A,c,hv,hc,hn,hx⟩:=h
 refine⟨A,c,hv,hc,hn,fun i xs hi=>?_⟩
 obtain⟨g,o,u,h1,h2,h3,h4,h5⟩:=hx i xs hi
 exact⟨g,o,u,h1,h2,⟨h3,h2⟩,h4,h5.lt⟩
theorem EntIn.ltO {O:Nat→Prop} {w:World} {v:Value} {es:Ents} (h:EntIn O w v es):EntIn (fun g=>O g∧g<w.heap.size) w v es:=by
 obtain⟨A,c,hv,hc,hn,hx⟩:=h
 refine⟨A,c,hv,hc,hn,fun i p hi=>?_⟩
 obtain⟨g,o,u,h1,h2,h3,h4,h5,h6⟩:=hx i p hi
 exact⟨g,o,u,h1,h2,⟨h3,h2⟩,h4,h5,h6.lt⟩
end Go.Proofs.YtajbmjpodeilpaaGreatDoor
namespace Go.Proofs.YtajbmjpodeilpaaGreatDoor
open Go.RowKit
theorem res_rr {fn:Func} (h:fn.results= #[.cell 4 63,.tmp 5,.tmp 6]) {w:World} {r:Nat} {c0 c1 c2 c3 c4:Value} {t:TypeId} (hb:w.heap[r]? =some (.cells #[c0,c1,c2,c3,c4] t (0,0))) (tmps:Array Value) (t4:tmps[4]?.getD undef= .pointer (some ⟨r,0,none⟩)):
  (results fn tmps).run Tryz.prog w= .ok (.tuple #[.agg #[c0,c1,c2,c3,c4],tmps.getD 5 undef,tmps.getD 6 undef]) w:=by
 have p0:=mx_cell (j:=0) hb
 have p1:=mx_cell (j:=1) hb
 have p2:=mx_cell (j:=2) hb
 have p3:=mx_cell (j:=3) hb
 have p4:=mx_cell (j:=4) hb
 simp at p0 p1 p2 p3 p4
 simp[results,h,go_sem,t4,p0,p1,p2,p3,p4]
def rcOut (vn:Int) (cs:List (List Int)) (ss:List EStep):Value:=
 if(fchk vn cs).2≠0 then .tuple #[repZ,.int .i64 0,.int .i64 ((fchk vn cs).2:Nat)]
 else .tuple #[runRep (runGo (ckrNew cs) ss 0),.int .i64 ((runGo (ckrNew cs) ss 0).2.1:Nat),.int .i64 (runE (runGo (ckrNew cs) ss 0):Nat)]
set_option maxRecDepth 100000 in
set_option maxHeartbeats 8000000 in
theorem ref_check10 {O O':Nat→Prop} (vn:Int) (u v:Value) (cs:List (List Int)) (ss:List EStep) (w:World) (h:ClsIn O w u cs) (h':StepIn O' w v ss) (hl:cs.length≤1000) (hcl: ∀c∈cs,c.length≤1000) (hsl:ss.length≤1000) (hss: ∀s∈ss,s.lits.length≤1000∧s.hints.length≤1000∧∀x∈s.hints,-9223372036854775808≤x∧x≤9223372036854775807):
  Calls Tryz.prog 24 #[.agg #[.int .i64 vn,u],v] w fun e w'=>e= .returned (rcOut vn cs ss)∧Below w.heap.size w w':=by
 obtain⟨W1,hW1,hb1,hx1,hz1⟩:=al_new w #[.int .i64 vn,u] 54
 obtain⟨W2,hW2,hb2,hx2,hz2⟩:=al_new W1 #[.bool false,.int .i64 0,.int .i64 0,.int .i64 0,.int .i64 0] 63
 rw[hz1]at hx2
 have hb12:=hb1.trans (hb2.mono hb1.size)
 have hx12:=(hb2.block _ (heap_lt hx1)).trans hx1
 have HX2:=Lib.hid hx2
 have HX1:=Lib.hid hx12
 have HB2:=Lib.hid hb12
 have HST:=Lib.hid h'.lt
 have HSS:=Lib.hid hss
 have HRC:=Lib.hid (ref_check05 vn u cs W2 (h.below hb12) (by omega) (fun c hc=>by have:=hcl c hc;omega))
 have HNW:=Lib.hid (fun(X:World) (hX:Below W2.heap.size W2 X)=>ref_new vn u cs X ((h.ltO.below hb12).below hX) (by omega) (fun c hc=>by have:=hcl c hc;omega))
 have hz12:W2.heap.size=w.heap.size+2:=by omega
 obtain⟨OUT,hOUT⟩: ∃OUT,rcOut vn cs ss=OUT:=⟨_,rfl⟩
 obtain⟨fi,hfi⟩: ∃fi,(fchk vn cs).1=fi:=⟨_,rfl⟩
 obtain⟨E,hE⟩: ∃E,(fchk vn cs).2=E:=⟨_,rfl⟩
 have HOU:=Lib.hid hOUT
 have HE:=Lib.hid hE
 rw[hOUT]
 rw[hfi,hE]at HRC
 obtain⟨Af,cf,rfl,hcf,_⟩:=h
 obtain⟨As,cS,rfl,hcS,_⟩:=h'
 have HW1:=Lib.hid hW1
 have HW2:=Lib.hid hW2
 have c0:=mx_cell (j:=0) hx12
 have c1:=mx_cell (j:=1) hx12
 have HCL:=Lib.hid hcl
 clear hW1 hW2 hb1 hb2 hb12 hx1 hx2 hx12 hz1 hz2 hcl hss hOUT hfi hE
 go_enter Tryz.func24,Tryz.ntmps24
 go_upto_region 1 with fail
 rw[HW1.out,HW2.out]
 go_wp2_with fail
 refine HRC.out.mono ?_
 rintro e w3 ⟨rfl,hb3⟩
 have HB3:=Lib.hid hb3
 have HX23:=Lib.hid ((hb3.block _ (heap_lt HX2.out)).trans HX2.out)
 have HX13:=Lib.hid ((hb3.block _ (heap_lt HX1.out)).trans HX1.out)
 clear hb3 c0 c1 HRC
 by_cases hE0:E≠0
 ·have q0:((E:Int) != 0)=true:=bne_iff_ne.2 (by omega)
  have r0:=mx_cell (j:=0) HX23.out
  have r1:=mx_cell (j:=1) HX23.out
  have r2:=mx_cell (j:=2) HX23.out
  have r3:=mx_cell (j:=3) HX23.out
  have r4:=mx_cell (j:=4) HX23.out
  have q0:=oj_free (j:=0) HX23.out
  have q1:=oj_free (j:=1) HX23.out
  have q2:=oj_free (j:=2) HX23.out
  have q3:=oj_free (j:=3) HX23.out
  have q4:=oj_free (j:=4) HX23.out
  go_wp2_with fail
  obtain⟨WZ,hWZ,hbZ,hkZ⟩:=five_setR HX23.out (.bool false) (.int .i64 0) (.int .i64 0) (.int .i64 0) (.int .i64 0)
  rw[hWZ]
  refine bodyPost_ret (res_rr rfl hbZ _ rfl) rfl ?_
  refine⟨?_,(HB2.out.trans (HB3.out.mono HB2.out.size)).trans (hkZ.below (fun g e=>by rw[e];omega) (by have:=HB2.out.size;have:=HB3.out.size;omega))⟩
  rw[←HOU.out]
  unfold rcOut
  rw[HE.out,if_pos hE0]
  rfl
 have hE0:E=0:=by omega
 subst hE0
 obtain⟨hf0,hcb⟩:=fchk_zero HE.out
 obtain⟨k0,hk0⟩: ∃k0,ckrNew cs=k0:=⟨_,rfl⟩
 have HOK0:=Lib.hid (show k0.Ok 1000 from by rw[←hk0];exact ckrNew_ok hcb (by omega))
 obtain⟨R,hR⟩: ∃R,runGo k0 ss 0=R:=⟨_,rfl⟩
 have HR0:=Lib.hid (show runGo k0 (ss.drop 0) 0=R from hR)
 have HOU2:=Lib.hid (show OUT= .tuple #[runRep R,.int .i64 (R.2.1:Nat),.int .i64 (runE R:Nat)]from by
  rw[←HOU.out]
  unfold rcOut
  rw[HE.out,if_neg (fun h=>h rfl),hk0,hR])
 rw[hk0]at HNW
 unfold ckK ckV at HNW
 have c0:=mx_cell (j:=0) HX13.out
 have c1:=mx_cell (j:=1) HX13.out
 clear hf0 hcb hk0 hR
 go_wp2_with fail
 refine(HNW.out w3 HB3.out).mono ?_
 rintro e w4 ⟨v4,rfl,hE4,hb4⟩
 obtain⟨A4,c4,rfl,_⟩:=id hE4
 obtain⟨W5,hW5,hb5,hx5,hz5⟩:=al_new w4 #[.slice A4 k0.ents.length c4,.int .i64 k0.last,.bool k0.proved,.int .i64 k0.adds,.int .i64 k0.dels,.int .i64 k0.rats,.int .i64 k0.largest] 75
 have hb35:=hb4.trans (hb5.mono hb4.size)
 have HB5:=Lib.hid (HB3.out.trans (hb35.mono HB3.out.size))
 have hzz:=HB3.out.size
 have hz4:=hb4.size
 have HE5:=Lib.hid (show EntIn (fun g=>g≠w4.heap.size) W5 (.slice A4 k0.ents.length c4) k0.ents from(hE4.ltO.below hb5).mono fun g hg=>by
  have:=hg.2
  omega)
 have HX5:=Lib.hid hx5
 have HW5:=Lib.hid hW5
 clear hE4 hb4 hb5 hx5 hW5 hb35 c0 c1 HNW
 obtain⟨p9,hp9⟩: ∃p,w4.heap.size=p:=⟨_,rfl⟩
 go_upto_region 5 with fail
 rw[HW5.out]
 rw[hp9]at HE5 HX5 hz5
 have hpw:W2.heap.size≤p9:=by omega
 clear hp9 HW5
 go_wp2_with fail
 go_loopw [10] (fun iv wr=> ∃(j:Nat) (k:Ckr) (A:Option Addr) (c:Nat),j≤ss.length∧iv= .int .i64 j∧Hid (k.Ok (1000+j))∧Hid (runGo k (ss.drop j) j=R)∧Hid (wr.heap[p9]? =some (.cells #[.slice A k.ents.length c,.int .i64 k.last,.bool k.proved,.int .i64 k.adds,.int .i64 k.dels,.int .i64 k.rats,.int .i64 k.largest] 75 (0,0)))∧Hid (EntIn (fun g=>g≠p9) wr (.slice A k.ents.length c) k.ents)∧Hid (Below W2.heap.size W2 wr)) (fun iv _=>ss.length-(intOf iv).toNat)
 case atStart=>exact⟨0,k0,A4,c4,Nat.zero_le _,rfl,HOK0,HR0,HX5,HE5,HB5⟩
 case round=>
  obtain⟨j,k,A,c,hj,rfl,HOK,HRG,HXR,HER,HBR⟩:=hrel
  clear HX5 HE5 HB5
  have hzr:=HBR.out.size
  have hltp:=heap_lt HXR.out
  have HX2r:=Lib.hid ((HBR.out.block _ (heap_lt HX2.out)).trans HX2.out)
  have HFB:=Lib.hid (HB2.out.trans (HBR.out.mono HB2.out.size))
  by_cases hjs:j<ss.length
  ·have hjd:decide ((j:Int)<(ss.length:Int))=true:=decide_eq_true (by omega)
   have hjd':(j:Int)<(ss.length:Int):=by omega
   obtain⟨s,hs⟩:=getElem_of hjs
   have hrun:=run_step (k:=k) hs j
   rw[HRG.out]at hrun
   obtain⟨hsl1,hsl2,hsr⟩:=HSS.out s (List.mem_of_getElem? hs)
   have HSJ:=Lib.hid hs
   have y2:=mx_cell (j:=2) HXR.out
   obtain⟨pv,hpv⟩: ∃b,k.proved=b:=⟨_,rfl⟩
   have HPV:=Lib.hid hpv
   rw[hpv]at hrun
   cases pv with
   | true=>
    have HRE:=Lib.hid (show R=(k,j,0)from hrun.trans (if_pos rfl))
    rw[hpv]at y2
    clear hrun hpv hs
    have y0:=mx_cell (j:=0) HXR.out
    have y1:=mx_cell (j:=1) HXR.out
    have y3:=mx_cell (j:=3) HXR.out
    have y4:=mx_cell (j:=4) HXR.out
    have y5:=mx_cell (j:=5) HXR.out
    have y6:=mx_cell (j:=6) HXR.out
    have r0:=mx_cell (j:=0) HX2r.out
    have r1:=mx_cell (j:=1) HX2r.out
    have r2:=mx_cell (j:=2) HX2r.out
    have r3:=mx_cell (j:=3) HX2r.out
    have r4:=mx_cell (j:=4) HX2r.out
    have q0:=oj_free (j:=0) HX2r.out
    have q1:=oj_free (j:=1) HX2r.out
    have q2:=oj_free (j:=2) HX2r.out
    have q3:=oj_free (j:=3) HX2r.out
    have q4:=oj_free (j:=4) HX2r.out
    go_wp2_with fail
    obtain⟨WZ,hWZ,hbZ,hkZ⟩:=five_setR HX2r.out (.bool true) (.int .i64 k.adds) (.int .i64 k.dels) (.int .i64 k.rats) (.int .i64 k.largest)
    rw[hWZ]
    refine bodyPost_ret (res_rr rfl hbZ _ rfl) rfl ?_
    refine⟨?_,HFB.out.trans (hkZ.below (fun g e=>by rw[e];omega) (by have:=HFB.out.size;omega))⟩
    rw[HOU2.out]
    exact rep_ok HRE.out HPV.out (by unfold Ckr.rep;rw[HPV.out])
   | false=>
    rw[if_neg (by decide)]at hrun
    rw[hpv]at y2
    obtain⟨sd,si,sl,sh⟩:=s
    simp only at hsl1 hsl2 hsr
    obtain⟨A',c',hA',_,_,hx⟩:=HST.out
    simp only[Value.slice.injEq,true_and]at hA'
    obtain⟨rfl,rfl⟩:=hA'
    obtain⟨gs,os,el,eh,rfl,hgs,_,e0,e1,e2,e3,hel,heh⟩:=hx j _ hs
    simp only at e0 e1 e2 e3 hel heh
    have e0:=(HFB.out.cell (p:=⟨gs,os+j*4,none⟩) hgs).trans e0
    have e1:=(HFB.out.cell (p:=⟨gs,os+j*4+1,none⟩) hgs).trans e1
    have e2:=(HFB.out.cell (p:=⟨gs,os+j*4+2,none⟩) hgs).trans e2
    have e3:=(HFB.out.cell (p:=⟨gs,os+j*4+3,none⟩) hgs).trans e3
    have hgr:gs<wr.heap.size:=Nat.lt_of_lt_of_le hgs HFB.out.size
    have hzw:=HFB.out.size
    have HEL:=Lib.hid ((hel.below HFB.out).mono (O':=fun g=>g≠p9∧g<wr.heap.size) (fun g hg=>by have:=hg.2;omega))
    have HEH:=Lib.hid ((heh.below HFB.out).mono (O':=fun g=>g≠p9∧g<wr.heap.size) (fun g hg=>by have:=hg.2;omega))
    obtain⟨El,ek,rfl,_⟩:=hel
    obtain⟨Eh,em,rfl,_⟩:=heh
    have HRD:=Lib.hid (fun(O1:Nat→Prop) (X:World) (ev lv hv:Value) (h1:EntIn O1 X ev k.ents) (h2:IntsIn O1 X lv sl) (h3:IntsIn O1 X hv sh)=>ref_do ev k lv hv ⟨sd,si,sl,sh⟩ X h1 h2 h3 HOK.out (by omega) (by simp only;omega) (by simp only;omega) hsr)
    unfold ckK ckV at HRD
    rw[hpv]at HRD
    have hDO2:=do_ok (s:=⟨sd,si,sl,sh⟩) HOK.out
    obtain⟨zk,hzk⟩: ∃zk,(k.do_ ⟨sd,si,sl,sh⟩).2.1=zk:=⟨_,rfl⟩
    obtain⟨zi,hzi⟩: ∃zi,(k.do_ ⟨sd,si,sl,sh⟩).2.2.1=zi:=⟨_,rfl⟩
    obtain⟨ze,hze⟩: ∃ze,(k.do_ ⟨sd,si,sl,sh⟩).2.2.2=ze:=⟨_,rfl⟩
    obtain⟨k2,hk2⟩: ∃k2,(k.do_ ⟨sd,si,sl,sh⟩).1=k2:=⟨_,rfl⟩
    rw[hzk,hzi,hze,hk2]at HRD
    rw[hze,hk2]at hrun
    rw[hk2]at hDO2
    have HOK2:=Lib.hid (show k2.Ok (1000+(j+1))from hDO2)
    have HRUN:=Lib.hid hrun
    clear hrun hDO2 hzk hzi hze hk2 hx hs hsr
    go_upto_region 10 with fail
    clear y2
    go_cut [11,14] (fun p d wx=> ∃(p22:Nat) (A2:Option Addr) (c2:Nat),p= .pointer (some ⟨p22,0,none⟩)∧d= .int .i64 (ze:Nat)∧wr.heap.size≤p22∧Hid (wx.heap[p22]? =some (.cells #[.slice A2 k2.ents.length c2,.int .i64 k2.last,.bool k2.proved,.int .i64 k2.adds,.int .i64 k2.dels,.int .i64 k2.rats,.int .i64 k2.largest] 75 (0,0)))∧Hid (EntIn (fun g=>g≠p9) wx (.slice A2 k2.ents.length c2) k2.ents)∧Hid (Below wr.heap.size wr wx))
    case first=>
     refine wp_region_held_drew (S:=fun X=>Below wr.heap.size wr X) (by kernel_rfl) (mx_drew wr) (fun hS=>?_)
     obtain⟨xD,hxD⟩: ∃z,wr.drew=z:=⟨_,rfl⟩
     rw[hxD]at hS⊢
     clear hxD
     refine takeF 0 39 (fun wq hSw=>And.intro (mx_cell (j:=0) ((hSw.block _ hltp).trans HXR.out)) (And.intro (mx_cell (j:=1) ((hSw.block _ hltp).trans HXR.out)) (And.intro (mx_cell (j:=2) ((hSw.block _ hltp).trans HXR.out)) (And.intro (mx_cell (j:=3) ((hSw.block _ hltp).trans HXR.out)) (And.intro (mx_cell (j:=4) ((hSw.block _ hltp).trans HXR.out)) (And.intro (mx_cell (j:=5) ((hSw.block _ hltp).trans HXR.out)) (mx_cell (j:=6) ((hSw.block _ hltp).trans HXR.out)))))))) ?_
     refine takeE 1 40 ?_
     refine takeE 2 41 ?_
     refine takeE 3 42 ?_
     refine takeF 4 43 (fun wq hSw=>And.intro ((hSw.cell (p:=⟨gs,os+j*4,none⟩) hgr).trans e0) (And.intro ((hSw.cell (p:=⟨gs,os+j*4+1,none⟩) hgr).trans e1) (And.intro ((hSw.cell (p:=⟨gs,os+j*4+2,none⟩) hgr).trans e2) ((hSw.cell (p:=⟨gs,os+j*4+3,none⟩) hgr).trans e3)))) ?_
     refine wpAnyH_ready (rs:= [5,11]) (by kernel_rfl) (by simp) (AllReadyH.cons rfl (fun KK hKK=>?_) (AllReadyH.cons rfl (fun KK hKK=>?_) AllReadyH.nil))
     ·go_simp
      refine(HRD.out (fun g=>g≠p9∧g<wr.heap.size) xD _ _ _ (HER.out.ltO.below hS) (HEL.out.below hS) (HEH.out.below hS)).mono ?_
      rintro e zw1 ⟨v2,rfl,he2,hbn⟩
      obtain⟨A2,c2,rfl,_⟩:=id he2
      have hS1:=hS.trans (hbn.mono hS.size)
      have hsz1:=hbn.size
      have hsw0:=hS.size
      refine hKK.out _ _ hS1 (fun _=>?_)
      clear hKK hbn
      refine takeE 6 38 ?_
      refine takeE 7 45 ?_
      refine takeE 8 46 ?_
      refine takeE 9 47 ?_
      refine takeE 10 48 ?_
      refine ready1 11 (fun KK hKK=>?_)
      go_simp
      obtain⟨zw2,hwa,hbn,hxf,hzn⟩:=al_new zw1 #[.slice none 0 0,.int .i64 0,.bool false,.int .i64 0,.int .i64 0,.int .i64 0,.int .i64 0] 75
      rw[hwa]
      have hS2:=hS1.trans (hbn.mono hS1.size)
      have hpf:wr.heap.size≤zw1.heap.size:=hS1.size
      have he2:=he2.ltO.below hbn
      refine hKK.out _ _ hS2 (fun _=>?_)
      clear hKK hbn hwa
      obtain⟨p22,hp22⟩: ∃p,zw1.heap.size=p:=⟨_,rfl⟩
      rw[hp22]at hxf hpf⊢
      have hEf:EntIn (fun g=>g≠p9∧g≠p22) zw2 (.slice A2 k2.ents.length c2) k2.ents:=he2.mono fun g hg=>by
       obtain⟨hg1,hg2⟩:=hg
       rcases hg1 with hg1|hg1 <;> omega
      have HXF:=Lib.hid hxf
      have y0:=mx_cell (j:=0) hxf
      have y1:=mx_cell (j:=1) hxf
      have y2:=mx_cell (j:=2) hxf
      have y3:=mx_cell (j:=3) hxf
      have y4:=mx_cell (j:=4) hxf
      have y5:=mx_cell (j:=5) hxf
      have y6:=mx_cell (j:=6) hxf
      have f0:=oj_free (j:=0) hxf
      have f1:=oj_free (j:=1) hxf
      have f2:=oj_free (j:=2) hxf
      have f3:=oj_free (j:=3) hxf
      have f4:=oj_free (j:=4) hxf
      have f5:=oj_free (j:=5) hxf
      have f6:=oj_free (j:=6) hxf
      refine ready1 12 (fun KK hKK=>?_)
      go_simp
      obtain⟨WF,hWF,hrF,hbF,hkF⟩:=set7_all HXF.out (.slice A2 k2.ents.length c2) (.int .i64 k2.last) (.bool k2.proved) (.int .i64 k2.adds) (.int .i64 k2.dels) (.int .i64 k2.rats) (.int .i64 k2.largest)
      rw[hWF]
      have hSF:Below wr.heap.size wr WF:=hS2.trans (hkF.below (fun g e=>by rw[e];exact hpf) hS2.size)
      refine hKK.out _ _ hSF (fun _=>?_)
      clear hKK hWF
      clear y0 y1 y2 y3 y4 y5 y6 f0 f1 f2 f3 f4 f5 f6
      have hEF:=(hEf.kept hkF (fun g hg e=>hg.2 e)).mono (O':=fun g=>g≠p9) (fun g hg=>hg.1)
      refine takeE 13 12 ?_
      refine takeE 14 13 ?_
      refine takeE 15 14 ?_
      refine wpAnyH_done (by kernel_rfl) ?_ _
      go_wp2_with fail
      go_meet
      exact⟨p22,A2,c2,rfl,rfl,hpf,Lib.hid hrF,Lib.hid hEF,Lib.hid hSF⟩
     ·go_simp
      obtain⟨zw1,hwa,hbn,hxf,hzn⟩:=al_new xD #[.slice none 0 0,.int .i64 0,.bool false,.int .i64 0,.int .i64 0,.int .i64 0,.int .i64 0] 75
      rw[hwa]
      have hS1:=hS.trans (hbn.mono hS.size)
      have hpf:wr.heap.size≤xD.heap.size:=hS.size
      refine hKK.out _ _ hS1 (fun _=>?_)
      clear hKK hbn hwa
      obtain⟨p22,hp22⟩: ∃p,xD.heap.size=p:=⟨_,rfl⟩
      rw[hp22]at hxf hpf⊢
      refine ready1 5 (fun KK hKK=>?_)
      go_simp
      refine(HRD.out (fun g=>g≠p9∧g<wr.heap.size) zw1 _ _ _ (HER.out.ltO.below hS1) (HEL.out.below hS1) (HEH.out.below hS1)).mono ?_
      rintro e zw2 ⟨v2,rfl,he2,hbn⟩
      obtain⟨A2,c2,rfl,_⟩:=id he2
      have hS2:=hS1.trans (hbn.mono hS1.size)
      have hsz2:=hbn.size
      have hsw1:=hS1.size
      have hxf:=(hbn.block _ (heap_lt hxf)).trans hxf
      refine hKK.out _ _ hS2 (fun _=>?_)
      clear hKK hbn
      refine takeE 6 38 ?_
      refine takeE 7 45 ?_
      refine takeE 8 46 ?_
      refine takeE 9 47 ?_
      refine takeE 10 48 ?_
      have hEf:EntIn (fun g=>g≠p9∧g≠p22) zw2 (.slice A2 k2.ents.length c2) k2.ents:=he2.mono fun g hg=>by
       rcases hg with hg|hg <;> omega
      have HXF:=Lib.hid hxf
      have y0:=mx_cell (j:=0) hxf
      have y1:=mx_cell (j:=1) hxf
      have y2:=mx_cell (j:=2) hxf
      have y3:=mx_cell (j:=3) hxf
      have y4:=mx_cell (j:=4) hxf
      have y5:=mx_cell (j:=5) hxf
      have y6:=mx_cell (j:=6) hxf
      have f0:=oj_free (j:=0) hxf
      have f1:=oj_free (j:=1) hxf
      have f2:=oj_free (j:=2) hxf
      have f3:=oj_free (j:=3) hxf
      have f4:=oj_free (j:=4) hxf
      have f5:=oj_free (j:=5) hxf
      have f6:=oj_free (j:=6) hxf
      refine ready1 12 (fun KK hKK=>?_)
      go_simp
      obtain⟨WF,hWF,hrF,hbF,hkF⟩:=set7_all HXF.out (.slice A2 k2.ents.length c2) (.int .i64 k2.last) (.bool k2.proved) (.int .i64 k2.adds) (.int .i64 k2.dels) (.int .i64 k2.rats) (.int .i64 k2.largest)
      rw[hWF]
      have hSF:Below wr.heap.size wr WF:=hS2.trans (hkF.below (fun g e=>by rw[e];exact hpf) hS2.size)
      refine hKK.out _ _ hSF (fun _=>?_)
      clear hKK hWF
      clear y0 y1 y2 y3 y4 y5 y6 f0 f1 f2 f3 f4 f5 f6
      have hEF:=(hEf.kept hkF (fun g hg e=>hg.2 e)).mono (O':=fun g=>g≠p9) (fun g hg=>hg.1)
      refine takeE 13 12 ?_
      refine takeE 14 13 ?_
      refine takeE 15 14 ?_
      refine wpAnyH_done (by kernel_rfl) ?_ _
      go_wp2_with fail
      go_meet
      exact⟨p22,A2,c2,rfl,rfl,hpf,Lib.hid hrF,Lib.hid hEF,Lib.hid hSF⟩
    case rest=>
     obtain⟨p22,A2,c2,rfl,rfl,hp22,HX22,HE22,HB22⟩:=hcut
     obtain⟨w6,rfl⟩: ∃x:World,x=wc:=⟨_,rfl⟩
     have hz6:=HB22.out.size
     have HX96:=Lib.hid ((HB22.out.block _ hltp).trans HXR.out)
     have HX26:=Lib.hid ((HB22.out.block _ (heap_lt HX2r.out)).trans HX2r.out)
     have HFB6:=Lib.hid (HFB.out.trans (HB22.out.mono HFB.out.size))
     have HBR6:=Lib.hid (HBR.out.trans (HB22.out.mono HBR.out.size))
     clear e0 e1 e2 e3
     by_cases hz0:ze≠0
     ·have q0:((ze:Int) != 0)=true:=bne_iff_ne.2 (by omega)
      have HRE:=Lib.hid (show R=(k2,j,ze)from HRUN.out.trans (if_pos hz0))
      have r0:=mx_cell (j:=0) HX26.out
      have r1:=mx_cell (j:=1) HX26.out
      have r2:=mx_cell (j:=2) HX26.out
      have r3:=mx_cell (j:=3) HX26.out
      have r4:=mx_cell (j:=4) HX26.out
      have q0:=oj_free (j:=0) HX26.out
      have q1:=oj_free (j:=1) HX26.out
      have q2:=oj_free (j:=2) HX26.out
      have q3:=oj_free (j:=3) HX26.out
      have q4:=oj_free (j:=4) HX26.out
      go_wp2_with fail
      obtain⟨WZ,hWZ,hbZ,hkZ⟩:=five_setR HX26.out (.bool false) (.int .i64 0) (.int .i64 0) (.int .i64 0) (.int .i64 0)
      rw[hWZ]
      refine bodyPost_ret (res_rr rfl hbZ _ rfl) rfl ?_
      refine⟨?_,HFB6.out.trans (hkZ.below (fun g e=>by rw[e];omega) (by have:=HFB6.out.size;omega))⟩
      rw[HOU2.out]
      exact rep_err HRE.out (by unfold runE;rw[HRE.out,if_pos hz0]) hz0
     ·have hz0:ze=0:=by omega
      have q0:((ze:Int) != 0)=false:=by rw[hz0];rfl
      have HRN:=Lib.hid (show runGo k2 (ss.drop (j+1)) (j+1)=R from(HRUN.out.trans (if_neg (by omega))).symm)
      have hwj:IntKind.i64.wrap ((j:Int)+1)=(j:Int)+1:=IntWalk.i64_in _ (by omega)
      have y0:=mx_cell (j:=0) HX22.out
      have y1:=mx_cell (j:=1) HX22.out
      have y2:=mx_cell (j:=2) HX22.out
      have y3:=mx_cell (j:=3) HX22.out
      have y4:=mx_cell (j:=4) HX22.out
      have y5:=mx_cell (j:=5) HX22.out
      have y6:=mx_cell (j:=6) HX22.out
      have z0:=mx_cell (j:=0) HX96.out
      have z1:=mx_cell (j:=1) HX96.out
      have z2:=mx_cell (j:=2) HX96.out
      have z3:=mx_cell (j:=3) HX96.out
      have z4:=mx_cell (j:=4) HX96.out
      have z5:=mx_cell (j:=5) HX96.out
      have z6:=mx_cell (j:=6) HX96.out
      have f0:=oj_free (j:=0) HX96.out
      have f1:=oj_free (j:=1) HX96.out
      have f2:=oj_free (j:=2) HX96.out
      have f3:=oj_free (j:=3) HX96.out
      have f4:=oj_free (j:=4) HX96.out
      have f5:=oj_free (j:=5) HX96.out
      have f6:=oj_free (j:=6) HX96.out
      go_upto_region 7 with fail
      obtain⟨WF,hWF,hrF,hbF,hkF⟩:=set7_all HX96.out (.slice A2 k2.ents.length c2) (.int .i64 k2.last) (.bool k2.proved) (.int .i64 k2.adds) (.int .i64 k2.dels) (.int .i64 k2.rats) (.int .i64 k2.largest)
      rw[hWF]
      clear y0 y1 y2 y3 y4 y5 y6 z0 z1 z2 z3 z4 z5 z6 f0 f1 f2 f3 f4 f5 f6 hWF
      have HXn:=Lib.hid hrF
      have HEn:=Lib.hid (HE22.out.kept hkF (fun g hg e=>hg e))
      have HBn:=Lib.hid (HBR6.out.trans (hkF.below (fun g e=>by rw[e];exact hpw) HBR6.out.size))
      clear hrF hbF hkF
      go_wp2_with fail
      go_roundw
      case rel=>exact⟨j+1,k2,A2,c2,by omega,by go_num,HOK2,HRN,HXn,HEn,HBn⟩
      case measure=>simp[intOf];omega
  ·obtain rfl:j=ss.length:=by omega
   have hjd:decide ((ss.length:Int)<(ss.length:Int))=false:=decide_eq_false (by omega)
   have hrun:=HRG.out
   rw[List.drop_length,run_nil]at hrun
   have y2:=mx_cell (j:=2) HXR.out
   obtain⟨pv,hpv⟩: ∃b,k.proved=b:=⟨_,rfl⟩
   have HPV:=Lib.hid hpv
   have HRE:=Lib.hid hrun.symm
   rw[hpv]at y2
   clear hrun hpv
   have r0:=mx_cell (j:=0) HX2r.out
   have r1:=mx_cell (j:=1) HX2r.out
   have r2:=mx_cell (j:=2) HX2r.out
   have r3:=mx_cell (j:=3) HX2r.out
   have r4:=mx_cell (j:=4) HX2r.out
   have q0:=oj_free (j:=0) HX2r.out
   have q1:=oj_free (j:=1) HX2r.out
   have q2:=oj_free (j:=2) HX2r.out
   have q3:=oj_free (j:=3) HX2r.out
   have q4:=oj_free (j:=4) HX2r.out
   cases pv with
   | true=>
    have y0:=mx_cell (j:=0) HXR.out
    have y1:=mx_cell (j:=1) HXR.out
    have y3:=mx_cell (j:=3) HXR.out
    have y4:=mx_cell (j:=4) HXR.out
    have y5:=mx_cell (j:=5) HXR.out
    have y6:=mx_cell (j:=6) HXR.out
    go_wp2_with fail
    obtain⟨WZ,hWZ,hbZ,hkZ⟩:=five_setR HX2r.out (.bool true) (.int .i64 k.adds) (.int .i64 k.dels) (.int .i64 k.rats) (.int .i64 k.largest)
    rw[hWZ]
    refine bodyPost_ret (res_rr rfl hbZ _ rfl) rfl ?_
    refine⟨?_,HFB.out.trans (hkZ.below (fun g e=>by rw[e];omega) (by have:=HFB.out.size;omega))⟩
    rw[HOU2.out]
    exact rep_ok HRE.out HPV.out (by unfold Ckr.rep;rw[HPV.out])
   | false=>
    go_wp2_with fail
    obtain⟨WZ,hWZ,hbZ,hkZ⟩:=five_setR HX2r.out (.bool false) (.int .i64 0) (.int .i64 0) (.int .i64 0) (.int .i64 0)
    rw[hWZ]
    refine bodyPost_ret (res_rr rfl hbZ _ rfl) rfl ?_
    refine⟨?_,HFB.out.trans (hkZ.below (fun g e=>by rw[e];omega) (by have:=HFB.out.size;omega))⟩
    rw[HOU2.out]
    exact rep_err HRE.out (by unfold runE;rw[HRE.out];simp only[HPV.out];rfl) (by decide)
end Go.Proofs.YtajbmjpodeilpaaGreatDoor
