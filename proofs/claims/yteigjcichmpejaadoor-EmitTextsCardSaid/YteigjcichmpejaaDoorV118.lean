/- lratext.over. Plain: what lratext.Read finds in a text; the text of a proof is read back. lratext.Read at any text. -/
import Derived.Test.YteigjcichmpejaaDoorV101
import Derived.Test.YteigjcichmpejaaDoorV114
import Derived.Test.YteigjcichmpejaaDoorV113
import Derived.Test.YteigjcichmpejaaDoorV117
namespace Go.Proofs.YteigjcichmpejaaDoor
open Go.RowKit
set_option maxRecDepth 100000 in
set_option maxHeartbeats 1000000 in
theorem over_any (t:List UInt8) (w:World):
  Calls Tryd.prog 30 #[.string ⟨t.toArray⟩] w fun e w'=>e= .returned (.bool (overB t))∧w'=w:=by
 have HP:=Lib.hid (show Calls Tryd.prog 47 #[.string ⟨t.toArray⟩,.string ⟨#[99,32]⟩] w fun e w'=>e= .returned (.bool (Lib.hasPrefix t [99,32]))∧w'=w from Tryd.strings_HasPrefix ⟨t.toArray⟩ ⟨#[99,32]⟩ w)
 by_cases h1:t= []
 ·subst h1
  clear HP
  go_enter Tryd.func30,Tryd.ntmps30
  go_wp2_with fail
  go_ret
  exact⟨rfl,rfl⟩
 ·by_cases h2:t= [99]
  ·subst h2
   clear HP
   go_enter Tryd.func30,Tryd.ntmps30
   go_wp2_with fail
   go_ret
   exact⟨rfl,rfl⟩
  ·have hov:overB t=Lib.hasPrefix t [99,32]:=by
    unfold overB
    rw[decide_eq_false h1,decide_eq_false h2]
    rfl
   rw[hov]
   obtain⟨c,hc⟩: ∃c,Lib.hasPrefix t [99,32]=c:=⟨_,rfl⟩
   rw[hc]at HP⊢
   clear hc hov
   go_enter Tryd.func30,Tryd.ntmps30
   go_wp2_with fail
   refine HP.out.mono ?_
   rintro e w' ⟨rfl,rfl⟩
   go_wp2_with fail
   go_ret
   refine⟨?_,rfl⟩
   have n1:t.isEmpty=false:=by
    cases t with
    | nil=>exact absurd rfl h1
    | cons _ _=>rfl
   have n2:(t== [99])=false:=beq_eq_false_iff_ne.2 h2
   show Ending.returned (Value.bool (t.isEmpty||t== [99]||c))=_
   rw[n1,n2]
   rfl
end Go.Proofs.YteigjcichmpejaaDoor
namespace Go.Proofs.YteigjcichmpejaaDoor
open Go.RowKit
def fitsB (s:EStep) (last:Int):Bool:=decide (last<s.id)||(s.del&&decide (s.id=last))
def readGo:Nat→List (List UInt8)→List EStep→Int→List EStep×Nat×Nat
 | _,[],out,_=>(out,0,0)
 | i,t::r,out,last=>if overB t=true then readGo (i+1) r out last else match parseF t with
  | none=>([],i+1,71)
  | some s=>if fitsB s last=false then([],i+1,70)else if out.length=262144 then([],i+1,5)else readGo (i+1) r (out++ [s]) s.id
def readF (t:List UInt8):List EStep×Nat×Nat:=if 16777216<t.length then([],0,3)else readGo 0 (spl 10 t) [] 0
theorem stepB_ok {s:EStep} (h:StepOk s):stepB s=true:=by
 obtain⟨i0,i1,hd,hc,hlen,hok⟩:=h
 have hh:(s.hints.any fun h=>decide (h=0)||decide (1073741824<h)||decide (h< -1073741824)||(s.del&&decide (h<0)))=false:=List.any_eq_false.2 fun x hx=>by
  have h1:=(hok x hx).1
  have h2:=(hok x hx).2
  simp only[Bool.or_eq_true,decide_eq_true_eq,Bool.and_eq_true]
  omega
 unfold stepB
 rw[hh,hc,decide_eq_true hlen,decide_eq_false (show¬s.id<0 by omega),decide_eq_false (show¬1073741824<s.id by omega),decide_eq_false (show¬s.id=0 by omega)]
 cases hdd:s.del with
 | true=>rw[hd hdd];rfl
 | false=>rfl
theorem parse_ok {s:EStep} (h:StepOk s):parseF (stepT s)=some s:=by
 obtain⟨r1,r2,r3,_⟩:=stepOk_rng h
 refine parse_step (stepB_ok h) r1 (fun x hx=>⟨r2 x hx,fun e=>?_⟩) (fun x hx=>⟨r3 x hx,fun e=>?_⟩) h.del
 ·have h1:=h.lits
  unfold clauseB at h1
  rw[Bool.and_eq_true]at h1
  have h2:=List.all_eq_true.1 h1.2 x hx
  rw[e]at h2
  exact absurd h2 (by decide)
 ·have:=(h.hints x hx).1
  omega
theorem over_step {s:EStep} (h:StepOk s):overB (stepT s)=false:=by
 have h1:=h.id0
 unfold stepT Lib.itoa
 rw[if_neg (by omega)]
 cases hd:Lib.decDigits s.id.toNat with
 | nil=>exact absurd hd (dec_ne _)
 | cons b r=>
  refine overB_head fun e=>?_
  have:=(dec_dig s.id.toNat b (by rw[hd];exact List.mem_cons_self)).2
  rw[e]at this
  exact absurd this (by decide)
theorem readGo_proof: ∀(l:List EStep) (i:Nat) (out:List EStep) (last:Int),(∀s∈l,StepOk s)→out.length+l.length≤262144→(∀k s,l[k]? =some s→(if k=0 then last else prevId l k)<s.id∨s.del=true∧s.id=if k=0 then last else prevId l k)→readGo i (l.map stepT++ [[]]) out last=(out++l,0,0)
 | [],i,out,last,_,_,_=>by
  rw[List.map_nil,List.nil_append,readGo,if_pos (by rfl),readGo,List.append_nil]
 | s::l,i,out,last,h,hn,hf=>by
  have hs:=h s List.mem_cons_self
  have h0:=hf 0 s rfl
  rw[if_pos rfl]at h0
  rw[List.length_cons]at hn
  have hft:fitsB s last=true:=by
   unfold fitsB
   rw[Bool.or_eq_true,Bool.and_eq_true,decide_eq_true_eq,decide_eq_true_eq]
   exact h0
  rw[List.map_cons,List.cons_append,readGo,if_neg (by rw[over_step hs];decide),parse_ok hs]
  simp only
  rw[if_neg (by rw[hft];decide),if_neg (by omega),readGo_proof l (i+1) (out++ [s]) s.id (fun x hx=>h x (List.mem_cons_of_mem _ hx)) (by rw[List.length_append,List.length_singleton];omega) (fun k x hx=>by
   have:=hf (k+1) x (by rw[List.getElem?_cons_succ];exact hx)
   rw[if_neg (Nat.succ_ne_zero k)]at this
   cases k with
   | zero=>
    rw[if_pos rfl]
    exact this
   | succ k=>
    rw[if_neg (Nat.succ_ne_zero k)]
    exact this),List.append_assoc]
  rfl
theorem read_proof {l:List EStep} (h:ProofOk l) (hl:(proofT l).length≤16777216):readF (proofT l)=(l,0,0):=by
 unfold readF
 rw[if_neg (by omega),spl_proof,readGo_proof l 0 [] 0 h.each (by have:=h.len;simpa using this) (fun k s hs=>by
  have:=h.fits k s hs
  cases k with
  | zero=>exact this
  | succ k=>
   rw[if_neg (Nat.succ_ne_zero k)]
   exact this),List.nil_append]
end Go.Proofs.YteigjcichmpejaaDoor
namespace Go.Proofs.YteigjcichmpejaaDoor
open Go.RowKit Go.Shelf
set_option maxRecDepth 100000 in
set_option maxHeartbeats 1000000 in
theorem fits_any (d:Bool) (i last:Int) (lv hv:Value) (w:World):
  Calls Tryd.prog 27 #[.agg #[.bool d,.int .i64 i,lv,hv],.int .i64 last] w fun e w'=>e= .returned (.bool (decide (last<i)||(d&&decide (i=last))))∧Below w.heap.size w w':=by
 obtain⟨a,ha⟩: ∃z,decide (last<i)=z:=⟨_,rfl⟩
 obtain⟨b,hb⟩: ∃z,(i==last)=z:=⟨_,rfl⟩
 have hb2:decide (i=last)=b:=by rw[←hb];rfl
 rw[ha,hb2]
 clear hb2
 obtain⟨W,hW,hbW,hcW,-⟩:=al_new w #[.bool d,.int .i64 i,lv,hv] 49
 have c0:W.cell? ⟨w.heap.size,0,none⟩=some (.bool d):=mx_cell (j:=0) hcW
 have c1:W.cell? ⟨w.heap.size,1,none⟩=some (.int .i64 i):=mx_cell (j:=1) hcW
 have HW:=Lib.hid hW
 have HB:=Lib.hid hbW
 clear hW hbW hcW
 go_enter Tryd.func27,Tryd.ntmps27
 go_upto_region 1 with fail
 rw[HW.out]
 cases a with
 | true=>
  go_wp2_with fail
  go_ret
  exact⟨rfl,HB.out⟩
 | false=>
  cases d with
  | true=>
   go_wp2_with fail
   go_ret
   exact⟨by simp,HB.out⟩
  | false=>
   go_wp2_with fail
   go_ret
   exact⟨rfl,HB.out⟩
set_option maxRecDepth 100000 in
set_option maxHeartbeats 4000000 in
theorem read_any (t:List UInt8) (w:World) (ht:TabW w) (hm:MaxC w) (he:ErrC w) (hlen:t.length≤16777216):
  Calls Tryd.prog 14 #[.string ⟨t.toArray⟩] w fun e w'=> ∃v K,e= .returned (.tuple #[v,.int .i64 ((readF t).2.1:Nat),.int .i64 ((readF t).2.2:Nat)])∧StMem w.heap.size w' v K∧K.map Prod.fst=(readF t).1∧Below w.heap.size w w':=by
 obtain⟨L,hL⟩: ∃L,spl 10 t=L:=⟨_,rfl⟩
 obtain⟨F,hF⟩: ∃F,readF t=F:=⟨_,rfl⟩
 have HF:=Lib.hid (show readGo 0 L [] 0=F from by rw[←hF,←hL];unfold readF;rw[if_neg (by omega)])
 have hll:L.length≤16777217:=by have:=spl_len 10 t;rw[hL]at this;omega
 have HWD:=Lib.hid (show∀x∈L,x.length≤16777216 from fun x hx=>by have:=spl_word 10 t x (hL▸hx);omega)
 have HSP:=Lib.hid (split_any t 10 w (by omega) hm)
 rw[hL]at HSP
 rw[hF]
 have HTE:=Lib.hid (show∀W,Below w.heap.size w W→TabW W∧MaxC W∧ErrC W from fun W hW=>⟨ht.next hW,hm.below hW,he.below hW⟩)
 have d1:decide ((16777216:Int)<(t.length:Int))=false:=decide_eq_false (by omega)
 have d2:decide (16777216<t.length)=false:=decide_eq_false (by omega)
 obtain⟨si,hsi,sz0,sz1,sz2⟩:=info_parts stinfo
 clear hL hF ht hm he
 go_enter Tryd.func14,Tryd.ntmps14
 go_wp2_with fail
 refine HSP.out.mono ?_
 rintro e w1 ⟨rfl,hsp,hb1⟩
 obtain⟨n1,hn1⟩: ∃n,w1.heap.size=n:=⟨_,rfl⟩
 have hwn:w.heap.size<n1:=by rw[←hn1];exact heap_lt hsp
 have HN1:=Lib.hid hn1
 have HB1:=Lib.hid hb1
 have HWA:=Lib.hid (show WordsAt (fun g=>g=w.heap.size) w1 (.slice (some ⟨w.heap.size,0,none⟩) L.length L.length) L from⟨_,_,rfl,fun i x hx=>⟨w.heap.size,0,rfl,heap_lt hsp,rfl,by simp[World.cell?,hsp,hx]⟩⟩)
 clear hsp hb1 hn1 HSP d1 d2
 go_wp2_with fail
 go_loopw [5,6,17] (fun v la i wr=> ∃(k:Nat) (K:List StV) (z:Int),k≤L.length∧i= .int .i64 k∧la= .int .i64 z∧Hid (StMem n1 wr v K)∧Hid (readGo k (L.drop k) (K.map Prod.fst) z=F)∧Hid (K.length≤k)∧Hid (Below w.heap.size w wr)∧Hid (n1≤wr.heap.size)∧Hid (WordsAt (fun g=>g=w.heap.size) wr (.slice (some ⟨w.heap.size,0,none⟩) L.length L.length) L)) (fun _ _ i _=>L.length-(intOf i).toNat)
 case atStart=>exact⟨0,[],0,Nat.zero_le _,rfl,rfl,Lib.hid (StMem.nil _ _),HF,Lib.hid (Nat.le_refl _),HB1,Lib.hid (Nat.le_of_eq HN1.out.symm),HWA⟩
 case round=>
  obtain⟨k,K,z,hk,rfl,rfl,HM,HG,HKL,HBr,HNr,HWr⟩:=hrel
  obtain⟨Av,cv,rfl,hcv⟩:=mx_slice HM.out.row
  by_cases hlt:k<L.length
  ·obtain⟨x,hx⟩:=getElem_of hlt
   obtain⟨A',c',hA,hxs⟩:=HWr.out
   obtain⟨g,o,hg,hgl,rfl,c1⟩:=hxs k x hx
   simp only[Value.slice.injEq,true_and]at hA
   obtain⟨rfl,rfl⟩:=hA
   simp only[Option.some.injEq,Addr.mk.injEq,true_and,and_true]at hg
   subst hg
   rw[Nat.zero_add]at c1
   have hdr:L.drop k=x::L.drop (k+1):=by
    have:=List.drop_eq_getElem_cons hlt
    rwa [show L[k]=x from Option.some.inj ((List.getElem?_eq_getElem hlt).symm.trans hx)]at this
   have HGX:=Lib.hid (show readGo k (x::L.drop (k+1)) (K.map Prod.fst) z=F from by rw[←hdr];exact HG.out)
   have hxl:=HWD.out x (List.mem_of_getElem? hx)
   have HOV:=Lib.hid (over_any x wr)
   have HPA:=Lib.hid (show∀W,Below wr.heap.size wr W→_ from fun W hW=>parse_any x W (HTE.out W (HBr.out.trans (hW.mono HBr.out.size))).1 (HTE.out W (HBr.out.trans (hW.mono HBr.out.size))).2.1 (HTE.out W (HBr.out.trans (hW.mono HBr.out.size))).2.2 hxl)
   clear hx hxs hdr hxl HG
   obtain⟨ov,hov⟩: ∃b,overB x=b:=⟨_,rfl⟩
   rw[hov]at HOV
   cases ov with
   | true=>
    have HG2:=Lib.hid (show readGo (k+1) (L.drop (k+1)) (K.map Prod.fst) z=F from by
     have h:=HGX.out
     rw[readGo,if_pos hov]at h
     exact h)
    clear hov HGX HPA
    go_wp2_with fail
    refine HOV.out.mono ?_
    rintro e w2 ⟨rfl,rfl⟩
    go_wp2_with fail
    go_roundw
    case rel=>exact⟨k+1,K,z,by omega,by go_num,rfl,HM,HG2,Lib.hid (by have:=HKL.out;omega),HBr,HNr,HWr⟩
    case measure=>simp[intOf];omega
   | false=>
    have HG2:=Lib.hid (show(match parseF x with
     | none=>([],k+1,71)
     | some s=>if fitsB s z=false then([],k+1,70)else if(K.map Prod.fst).length=262144 then([],k+1,5)else readGo (k+1) (L.drop (k+1)) (K.map Prod.fst++ [s]) s.id)=F from by
     have h:=HGX.out
     rw[readGo,if_neg (by rw[hov];decide)]at h
     exact h)
    clear hov HGX
    go_wp2_with fail
    refine HOV.out.mono ?_
    rintro e wO ⟨rfl,hwO⟩
    have hwO2:=hwO.symm
    subst hwO2
    clear hwO
    go_wp2_with fail
    refine(HPA.out _ (Below.refl _ _)).mono ?_
    rintro e w2 ⟨(⟨hp,rfl⟩|⟨s,Al,cl,Ah,ch,hp,rfl,hrl,hrh⟩),hb2⟩
    ·have hF2:=HG2.out
     rw[hp]at hF2
     simp only at hF2
     have HF2:=Lib.hid hF2
     have HB2:=Lib.hid (HBr.out.trans (hb2.mono HBr.out.size))
     clear hb2 hp hF2 c1 hgl HG2 HPA HOV
     go_wp2_with fail
     go_ret3
     exact⟨_,[],by rw[←HF2.out];rfl,StMem.nil _ _,by rw[←HF2.out];rfl,HB2.out.trans ((mx_al _ _).mono HB2.out.size)⟩
    ·have hF2:=HG2.out
     rw[hp]at hF2
     simp only at hF2
     obtain⟨fb,hfb⟩: ∃b,fitsB s z=b:=⟨_,rfl⟩
     rw[hfb]at hF2
     have HFB:=Lib.hid (show(decide (z<s.id)||(s.del&&decide (s.id=z)))=fb from hfb)
     obtain⟨W3,hW3,hb3,hc3,hz3⟩:=al_new w2 #[.bool s.del,.int .i64 s.id,.slice Al s.lits.length cl,.slice Ah s.hints.length ch] 49
     obtain⟨T,hT⟩: ∃T,w2.heap.size=T:=⟨_,rfl⟩
     rw[hT]at hc3
     have HTN:=Lib.hid (show∀g,(Value.slice Av K.length cv).ownBlock=some g→g<T from fun g hg=>by have:=(own_lt HM.out.row g hg).2;have:=hb2.size;omega)
     have hb23:Below wr.heap.size wr W3:=hb2.trans (hb3.mono hb2.size)
     have HB3:=Lib.hid (HBr.out.trans (hb23.mono HBr.out.size))
     have HM3:=Lib.hid (HM.out.below hb23)
     have HW3r:=Lib.hid (HWr.out.below hb23)
     have HRL:=Lib.hid (own_below (own_mono hrl HNr.out) hb3)
     have HRH:=Lib.hid (own_below (own_mono hrh HNr.out) hb3)
     have HN3:=Lib.hid (Nat.le_trans HNr.out hb23.size)
     have HC3:=Lib.hid hc3
     have HW3:=Lib.hid hW3
     have y0:=mx_cell (j:=0) hc3
     have y1:=mx_cell (j:=1) hc3
     have y2:=mx_cell (j:=2) hc3
     have y3:=mx_cell (j:=3) hc3
     have HFI:=Lib.hid (fits_any s.del s.id z (.slice Al s.lits.length cl) (.slice Ah s.hints.length ch) W3)
     rw[HFB.out]at HFI
     have HFF:=Lib.hid hF2
     have hTl:=heap_lt hc3
     clear hb2 hp hF2 hfb c1 hgl HG2 HPA HOV hb3 hb23 hc3 hrl hrh hW3 hz3
     go_upto_region 10 with fail
     rw[HW3.out]
     cases fb with
     | false=>
      have HF2:=Lib.hid (show(([],k+1,70):List EStep×Nat×Nat)=F from by
       have h:=HFF.out
       rwa [if_pos rfl]at h)
      clear HFF HFB
      go_wp2_with fail
      refine HFI.out.mono ?_
      rintro e w4 ⟨rfl,hb4⟩
      have HB4:=Lib.hid (HB3.out.trans (hb4.mono HB3.out.size))
      clear hb4
      go_wp2_with fail
      go_ret3
      exact⟨_,[],by rw[←HF2.out];rfl,StMem.nil _ _,by rw[←HF2.out];rfl,HB4.out⟩
     | true=>
      have hF3:=HFF.out
      rw[if_neg (by decide),List.length_map]at hF3
      have HF3:=Lib.hid hF3
      clear hF3 HFF HFB
      by_cases e1:K.length=262144
      ·have HF2:=Lib.hid (show(([],k+1,5):List EStep×Nat×Nat)=F from by
        have h:=HF3.out
        rwa [if_pos e1]at h)
       have f1:((K.length:Int)==262144)=true:=beq_iff_eq.2 (by omega)
       clear HF3 e1
       go_wp2_with fail
       refine HFI.out.mono ?_
       rintro e w4 ⟨rfl,hb4⟩
       have HB4:=Lib.hid (HB3.out.trans (hb4.mono HB3.out.size))
       clear hb4
       go_wp2_with fail
       go_ret3
       exact⟨_,[],by rw[←HF2.out];rfl,StMem.nil _ _,by rw[←HF2.out];rfl,HB4.out⟩
      ·have HF2:=Lib.hid (show readGo (k+1) (L.drop (k+1)) (K.map Prod.fst++ [s]) s.id=F from by
        have h:=HF3.out
        rwa [if_neg e1]at h)
       have f1:((K.length:Int)==262144)=false:=beq_eq_false_iff_ne.2 (by omega)
       have hkl:K.length≤16777217:=by have:=HKL.out;omega
       clear HF3 e1
       go_wp2_with fail
       refine HFI.out.mono ?_
       rintro e w4 ⟨rfl,hb4⟩
       have HB4:=Lib.hid (HB3.out.trans (hb4.mono HB3.out.size))
       have HM4:=Lib.hid (HM3.out.below hb4)
       have HW4:=Lib.hid (HW3r.out.below hb4)
       have HRL4:=Lib.hid (own_below HRL.out hb4)
       have HRH4:=Lib.hid (own_below HRH.out hb4)
       have hN4:n1≤w4.heap.size:=Nat.le_trans HN3.out hb4.size
       have z0:=(hb4.cell (p:=⟨T,0,none⟩) hTl).trans y0
       have z1:=(hb4.cell (p:=⟨T,1,none⟩) hTl).trans y1
       have z2:=(hb4.cell (p:=⟨T,2,none⟩) hTl).trans y2
       have z3:=(hb4.cell (p:=⟨T,3,none⟩) hTl).trans y3
       have hT4:w4.heap[T]? =_:=(hb4.block T hTl).trans HC3.out
       have HT4:=Lib.hid hT4
       clear hb4 y0 y1 y2 y3 hT4
       go_wp2_with (at_builtin;refine wpList_append_own_at _ rfl _ _ 40 rfl n1 49 si (.agg #[.bool false,.int .i64 0,.slice none 0 0,.slice none 0 0]) 4 64 Tryd.underlying40 hsi sz0 sz1 sz2 rfl (by decide) _ K.length _ rfl (own_below HM4.out.row (mx_al w4 _)) ⟨w4.heap.size,0,none⟩ 1 1 [.bool s.del,.int .i64 s.id,.slice Al s.lits.length cl,.slice Ah s.hints.length ch] rfl rfl (fun j u hj=>cells_list_new w4 [.bool s.del,.int .i64 s.id,.slice Al s.lits.length cl,.slice Ah s.hints.length ch] 49 j u hj) (by simp[Value.oneCell']) (by unfold maxLen;omega) (by omega) (by simp;omega) ?_;intro v' w9 hown' hgrow hnl hat;obtain⟨Aw,kw,hv2,_⟩:=mx_slice hown';subst hv2;have HOWN:=Lib.hid hown';have HGR:=Lib.hid hgrow;have hgk:=(grow_keep HM4.out.row hgrow).1;have HGK:=Lib.hid hgk;have hT9:w9.heap[T]? =_:=(hgk.block T (heap_lt HT4.out) (fun e=>Nat.lt_irrefl _ (HTN.out T e))).trans HT4.out;have x1:=mx_cell (j:=1) hT9;clear hown' hgrow hnl hat hgk hT9)
       have hrow:=fun(i:Nat) (e:(Value.slice Av K.length cv).ownBlock=some i)=>(own_lt HM4.out.row i e).1
       go_roundw
       case rel=>
        refine⟨k+1,K++ [(s,(Al,cl),(Ah,ch))],s.id,by omega,by go_num,rfl,Lib.hid ?_,Lib.hid ?_,Lib.hid ?_,Lib.hid ?_,Lib.hid (Nat.le_trans hN4 HGK.out.size),Lib.hid (HW4.out.kept HGK.out (fun g hg e=>by have:=hrow g e;omega))⟩
        ·exact(HM4.out.below (mx_al w4 _)).push HGR.out (s,(Al,cl),(Ah,ch)) HOWN.out (own_below HRL4.out (mx_al w4 _)) (own_below HRH4.out (mx_al w4 _))
        ·rw[List.map_append]
         exact HF2.out
        ·rw[List.length_append,List.length_singleton]
         have:=HKL.out
         omega
        ·exact HB4.out.trans (HGK.out.below (fun i e=>by have:=hrow i e;omega) HB4.out.size)
       case measure=>simp[intOf];omega
  ·obtain rfl:k=L.length:=by omega
   have hF2:(K.map Prod.fst,0,0)=F:=by
    have h:=HG.out
    rw[List.drop_length]at h
    exact h
   have HF2:=Lib.hid hF2
   clear hF2
   go_wp2_with fail
   go_ret3
   exact⟨_,K,by rw[←HF2.out];rfl,HM.out.mono (by omega),by rw[←HF2.out],HBr.out⟩
end Go.Proofs.YteigjcichmpejaaDoor
