/- lratext.over. Plain: what lratext.Read finds in a text; the text of a proof is read back. lratext.Read at any text. Literals: Negated, Index, Compare; their order. slices.Values, AppendSeq, Collect, SortFunc, SortedFunc at literals. Rows that a sort has written (some laws turned from a worked proof of the kit). -/
import Derived.Test.YtajbmjpodeilpaaGreatDoorV200
import Derived.Test.YtajbmjpodeilpaaGreatDoorV204
import Derived.Test.YtajbmjpodeilpaaGreatDoorV203
import Derived.Test.YtajbmjpodeilpaaGreatDoorV206
import Derived.Test.YtajbmjpodeilpaaGreatDoorV202
import Derived.Sort.LotA
import Derived.Shelf.SlSortCmp.Whole1
import Derived.Test.YtajbmjpodeilpaaGreatDoorV201
import Derived.Sort.OwnSorted
namespace Go.Proofs.YtajbmjpodeilpaaGreatDoor
open Go.RowKit
set_option maxRecDepth 100000 in
set_option maxHeartbeats 1000000 in
theorem over_any (t:List UInt8) (w:World):
  Calls Tryz.prog 90 #[.string ⟨t.toArray⟩] w fun e w'=>e= .returned (.bool (overB t))∧w'=w:=by
 have HP:=Lib.hid (show Calls Tryz.prog 131 #[.string ⟨t.toArray⟩,.string ⟨#[99,32]⟩] w fun e w'=>e= .returned (.bool (Lib.hasPrefix t [99,32]))∧w'=w from Tryz.strings_HasPrefix ⟨t.toArray⟩ ⟨#[99,32]⟩ w)
 by_cases h1:t= []
 ·subst h1
  clear HP
  go_enter Tryz.func90,Tryz.ntmps90
  go_wp2_with fail
  go_ret
  exact⟨rfl,rfl⟩
 ·by_cases h2:t= [99]
  ·subst h2
   clear HP
   go_enter Tryz.func90,Tryz.ntmps90
   go_wp2_with fail
   go_ret
   exact⟨rfl,rfl⟩
  ·have hov:overB t=Lib.hasPrefix t [99,32]:=by
    unfold overB
    rw[decide_eq_false h1,decide_eq_false h2]
    rfl
   rw[hov]
   obtain⟨c,hc⟩: ∃c,Lib.hasPrefix t [99,32]=c:=⟨_,rfl⟩
   rw[hc]at HP⊢
   clear hc hov
   go_enter Tryz.func90,Tryz.ntmps90
   go_wp2_with fail
   refine HP.out.mono ?_
   rintro e w' ⟨rfl,rfl⟩
   go_wp2_with fail
   go_ret
   refine⟨?_,rfl⟩
   have n1:t.isEmpty=false:=by
    cases t with
    | nil=>exact absurd rfl h1
    | cons _ _=>rfl
   have n2:(t== [99])=false:=beq_eq_false_iff_ne.2 h2
   show Ending.returned (Value.bool (t.isEmpty||t== [99]||c))=_
   rw[n1,n2]
   rfl
end Go.Proofs.YtajbmjpodeilpaaGreatDoor
namespace Go.Proofs.YtajbmjpodeilpaaGreatDoor
open Go.RowKit
def fitsB (s:EStep) (last:Int):Bool:=decide (last<s.id)||(s.del&&decide (s.id=last))
def readGo:Nat→List (List UInt8)→List EStep→Int→List EStep×Nat×Nat
 | _,[],out,_=>(out,0,0)
 | i,t::r,out,last=>if overB t=true then readGo (i+1) r out last else match parseF t with
  | none=>([],i+1,71)
  | some s=>if fitsB s last=false then([],i+1,70)else if out.length=262144 then([],i+1,5)else readGo (i+1) r (out++ [s]) s.id
def readF (t:List UInt8):List EStep×Nat×Nat:=if 16777216<t.length then([],0,3)else readGo 0 (spl 10 t) [] 0
end Go.Proofs.YtajbmjpodeilpaaGreatDoor
namespace Go.Proofs.YtajbmjpodeilpaaGreatDoor
open Go.RowKit Go.Shelf
set_option maxRecDepth 100000 in
set_option maxHeartbeats 1000000 in
theorem fits_any (d:Bool) (i last:Int) (lv hv:Value) (w:World):
  Calls Tryz.prog 92 #[.agg #[.bool d,.int .i64 i,lv,hv],.int .i64 last] w fun e w'=>e= .returned (.bool (decide (last<i)||(d&&decide (i=last))))∧Below w.heap.size w w':=by
 obtain⟨a,ha⟩: ∃z,decide (last<i)=z:=⟨_,rfl⟩
 obtain⟨b,hb⟩: ∃z,(i==last)=z:=⟨_,rfl⟩
 have hb2:decide (i=last)=b:=by rw[←hb];rfl
 rw[ha,hb2]
 clear hb2
 obtain⟨W,hW,hbW,hcW,-⟩:=al_new w #[.bool d,.int .i64 i,lv,hv] 34
 have c0:W.cell? ⟨w.heap.size,0,none⟩=some (.bool d):=mx_cell (j:=0) hcW
 have c1:W.cell? ⟨w.heap.size,1,none⟩=some (.int .i64 i):=mx_cell (j:=1) hcW
 have HW:=Lib.hid hW
 have HB:=Lib.hid hbW
 clear hW hbW hcW
 go_enter Tryz.func92,Tryz.ntmps92
 go_upto_region 1 with fail
 rw[HW.out]
 cases a with
 | true=>
  go_wp2_with fail
  go_ret
  exact⟨rfl,HB.out⟩
 | false=>
  cases d with
  | true=>
   go_wp2_with fail
   go_ret
   exact⟨by simp,HB.out⟩
  | false=>
   go_wp2_with fail
   go_ret
   exact⟨rfl,HB.out⟩
set_option maxRecDepth 100000 in
set_option maxHeartbeats 4000000 in
theorem read_any (t:List UInt8) (w:World) (ht:TabW w) (hm:MaxC w) (he:ErrC w) (hlen:t.length≤16777216):
  Calls Tryz.prog 49 #[.string ⟨t.toArray⟩] w fun e w'=> ∃v K,e= .returned (.tuple #[v,.int .i64 ((readF t).2.1:Nat),.int .i64 ((readF t).2.2:Nat)])∧StMem w.heap.size w' v K∧K.map Prod.fst=(readF t).1∧Below w.heap.size w w':=by
 obtain⟨L,hL⟩: ∃L,spl 10 t=L:=⟨_,rfl⟩
 obtain⟨F,hF⟩: ∃F,readF t=F:=⟨_,rfl⟩
 have HF:=Lib.hid (show readGo 0 L [] 0=F from by rw[←hF,←hL];unfold readF;rw[if_neg (by omega)])
 have hll:L.length≤16777217:=by have:=spl_len 10 t;rw[hL]at this;omega
 have HWD:=Lib.hid (show∀x∈L,x.length≤16777216 from fun x hx=>by have:=spl_word 10 t x (hL▸hx);omega)
 have HSP:=Lib.hid (split_any t 10 w (by omega) hm)
 rw[hL]at HSP
 rw[hF]
 have HTE:=Lib.hid (show∀W,Below w.heap.size w W→TabW W∧MaxC W∧ErrC W from fun W hW=>⟨ht.next hW,hm.below hW,he.below hW⟩)
 have d1:decide ((16777216:Int)<(t.length:Int))=false:=decide_eq_false (by omega)
 have d2:decide (16777216<t.length)=false:=decide_eq_false (by omega)
 obtain⟨si,hsi,sz0,sz1,sz2⟩:=info_parts stinfo
 clear hL hF ht hm he
 go_enter Tryz.func49,Tryz.ntmps49
 go_wp2_with fail
 refine HSP.out.mono ?_
 rintro e w1 ⟨rfl,hsp,hb1⟩
 obtain⟨n1,hn1⟩: ∃n,w1.heap.size=n:=⟨_,rfl⟩
 have hwn:w.heap.size<n1:=by rw[←hn1];exact heap_lt hsp
 have HN1:=Lib.hid hn1
 have HB1:=Lib.hid hb1
 have HWA:=Lib.hid (show WordsAt (fun g=>g=w.heap.size) w1 (.slice (some ⟨w.heap.size,0,none⟩) L.length L.length) L from⟨_,_,rfl,fun i x hx=>⟨w.heap.size,0,rfl,heap_lt hsp,rfl,by simp[World.cell?,hsp,hx]⟩⟩)
 clear hsp hb1 hn1 HSP d1 d2
 go_wp2_with fail
 go_loopw [5,6,17] (fun v la i wr=> ∃(k:Nat) (K:List StV) (z:Int),k≤L.length∧i= .int .i64 k∧la= .int .i64 z∧Hid (StMem n1 wr v K)∧Hid (readGo k (L.drop k) (K.map Prod.fst) z=F)∧Hid (K.length≤k)∧Hid (Below w.heap.size w wr)∧Hid (n1≤wr.heap.size)∧Hid (WordsAt (fun g=>g=w.heap.size) wr (.slice (some ⟨w.heap.size,0,none⟩) L.length L.length) L)) (fun _ _ i _=>L.length-(intOf i).toNat)
 case atStart=>exact⟨0,[],0,Nat.zero_le _,rfl,rfl,Lib.hid (StMem.nil _ _),HF,Lib.hid (Nat.le_refl _),HB1,Lib.hid (Nat.le_of_eq HN1.out.symm),HWA⟩
 case round=>
  obtain⟨k,K,z,hk,rfl,rfl,HM,HG,HKL,HBr,HNr,HWr⟩:=hrel
  obtain⟨Av,cv,rfl,hcv⟩:=mx_slice HM.out.row
  by_cases hlt:k<L.length
  ·obtain⟨x,hx⟩:=getElem_of hlt
   obtain⟨A',c',hA,hxs⟩:=HWr.out
   obtain⟨g,o,hg,hgl,rfl,c1⟩:=hxs k x hx
   simp only[Value.slice.injEq,true_and]at hA
   obtain⟨rfl,rfl⟩:=hA
   simp only[Option.some.injEq,Addr.mk.injEq,true_and,and_true]at hg
   subst hg
   rw[Nat.zero_add]at c1
   have hdr:L.drop k=x::L.drop (k+1):=by
    have:=List.drop_eq_getElem_cons hlt
    rwa [show L[k]=x from Option.some.inj ((List.getElem?_eq_getElem hlt).symm.trans hx)]at this
   have HGX:=Lib.hid (show readGo k (x::L.drop (k+1)) (K.map Prod.fst) z=F from by rw[←hdr];exact HG.out)
   have hxl:=HWD.out x (List.mem_of_getElem? hx)
   have HOV:=Lib.hid (over_any x wr)
   have HPA:=Lib.hid (show∀W,Below wr.heap.size wr W→_ from fun W hW=>parse_any x W (HTE.out W (HBr.out.trans (hW.mono HBr.out.size))).1 (HTE.out W (HBr.out.trans (hW.mono HBr.out.size))).2.1 (HTE.out W (HBr.out.trans (hW.mono HBr.out.size))).2.2 hxl)
   clear hx hxs hdr hxl HG
   obtain⟨ov,hov⟩: ∃b,overB x=b:=⟨_,rfl⟩
   rw[hov]at HOV
   cases ov with
   | true=>
    have HG2:=Lib.hid (show readGo (k+1) (L.drop (k+1)) (K.map Prod.fst) z=F from by
     have h:=HGX.out
     rw[readGo,if_pos hov]at h
     exact h)
    clear hov HGX HPA
    go_wp2_with fail
    refine HOV.out.mono ?_
    rintro e w2 ⟨rfl,rfl⟩
    go_wp2_with fail
    go_roundw
    case rel=>exact⟨k+1,K,z,by omega,by go_num,rfl,HM,HG2,Lib.hid (by have:=HKL.out;omega),HBr,HNr,HWr⟩
    case measure=>simp[intOf];omega
   | false=>
    have HG2:=Lib.hid (show(match parseF x with
     | none=>([],k+1,71)
     | some s=>if fitsB s z=false then([],k+1,70)else if(K.map Prod.fst).length=262144 then([],k+1,5)else readGo (k+1) (L.drop (k+1)) (K.map Prod.fst++ [s]) s.id)=F from by
     have h:=HGX.out
     rw[readGo,if_neg (by rw[hov];decide)]at h
     exact h)
    clear hov HGX
    go_wp2_with fail
    refine HOV.out.mono ?_
    rintro e wO ⟨rfl,hwO⟩
    have hwO2:=hwO.symm
    subst hwO2
    clear hwO
    go_wp2_with fail
    refine(HPA.out _ (Below.refl _ _)).mono ?_
    rintro e w2 ⟨(⟨hp,rfl⟩|⟨s,Al,cl,Ah,ch,hp,rfl,hrl,hrh⟩),hb2⟩
    ·have hF2:=HG2.out
     rw[hp]at hF2
     simp only at hF2
     have HF2:=Lib.hid hF2
     have HB2:=Lib.hid (HBr.out.trans (hb2.mono HBr.out.size))
     clear hb2 hp hF2 c1 hgl HG2 HPA HOV
     go_wp2_with fail
     go_ret3
     exact⟨_,[],by rw[←HF2.out];rfl,StMem.nil _ _,by rw[←HF2.out];rfl,HB2.out.trans ((mx_al _ _).mono HB2.out.size)⟩
    ·have hF2:=HG2.out
     rw[hp]at hF2
     simp only at hF2
     obtain⟨fb,hfb⟩: ∃b,fitsB s z=b:=⟨_,rfl⟩
     rw[hfb]at hF2
     have HFB:=Lib.hid (show(decide (z<s.id)||(s.del&&decide (s.id=z)))=fb from hfb)
     obtain⟨W3,hW3,hb3,hc3,hz3⟩:=al_new w2 #[.bool s.del,.int .i64 s.id,.slice Al s.lits.length cl,.slice Ah s.hints.length ch] 34
     obtain⟨T,hT⟩: ∃T,w2.heap.size=T:=⟨_,rfl⟩
     rw[hT]at hc3
     have HTN:=Lib.hid (show∀g,(Value.slice Av K.length cv).ownBlock=some g→g<T from fun g hg=>by have:=(own_lt HM.out.row g hg).2;have:=hb2.size;omega)
     have hb23:Below wr.heap.size wr W3:=hb2.trans (hb3.mono hb2.size)
     have HB3:=Lib.hid (HBr.out.trans (hb23.mono HBr.out.size))
     have HM3:=Lib.hid (HM.out.below hb23)
     have HW3r:=Lib.hid (HWr.out.below hb23)
     have HRL:=Lib.hid (own_below (own_mono hrl HNr.out) hb3)
     have HRH:=Lib.hid (own_below (own_mono hrh HNr.out) hb3)
     have HN3:=Lib.hid (Nat.le_trans HNr.out hb23.size)
     have HC3:=Lib.hid hc3
     have HW3:=Lib.hid hW3
     have y0:=mx_cell (j:=0) hc3
     have y1:=mx_cell (j:=1) hc3
     have y2:=mx_cell (j:=2) hc3
     have y3:=mx_cell (j:=3) hc3
     have HFI:=Lib.hid (fits_any s.del s.id z (.slice Al s.lits.length cl) (.slice Ah s.hints.length ch) W3)
     rw[HFB.out]at HFI
     have HFF:=Lib.hid hF2
     have hTl:=heap_lt hc3
     clear hb2 hp hF2 hfb c1 hgl HG2 HPA HOV hb3 hb23 hc3 hrl hrh hW3 hz3
     go_upto_region 10 with fail
     rw[HW3.out]
     cases fb with
     | false=>
      have HF2:=Lib.hid (show(([],k+1,70):List EStep×Nat×Nat)=F from by
       have h:=HFF.out
       rwa [if_pos rfl]at h)
      clear HFF HFB
      go_wp2_with fail
      refine HFI.out.mono ?_
      rintro e w4 ⟨rfl,hb4⟩
      have HB4:=Lib.hid (HB3.out.trans (hb4.mono HB3.out.size))
      clear hb4
      go_wp2_with fail
      go_ret3
      exact⟨_,[],by rw[←HF2.out];rfl,StMem.nil _ _,by rw[←HF2.out];rfl,HB4.out⟩
     | true=>
      have hF3:=HFF.out
      rw[if_neg (by decide),List.length_map]at hF3
      have HF3:=Lib.hid hF3
      clear hF3 HFF HFB
      by_cases e1:K.length=262144
      ·have HF2:=Lib.hid (show(([],k+1,5):List EStep×Nat×Nat)=F from by
        have h:=HF3.out
        rwa [if_pos e1]at h)
       have f1:((K.length:Int)==262144)=true:=beq_iff_eq.2 (by omega)
       clear HF3 e1
       go_wp2_with fail
       refine HFI.out.mono ?_
       rintro e w4 ⟨rfl,hb4⟩
       have HB4:=Lib.hid (HB3.out.trans (hb4.mono HB3.out.size))
       clear hb4
       go_wp2_with fail
       go_ret3
       exact⟨_,[],by rw[←HF2.out];rfl,StMem.nil _ _,by rw[←HF2.out];rfl,HB4.out⟩
      ·have HF2:=Lib.hid (show readGo (k+1) (L.drop (k+1)) (K.map Prod.fst++ [s]) s.id=F from by
        have h:=HF3.out
        rwa [if_neg e1]at h)
       have f1:((K.length:Int)==262144)=false:=beq_eq_false_iff_ne.2 (by omega)
       have hkl:K.length≤16777217:=by have:=HKL.out;omega
       clear HF3 e1
       go_wp2_with fail
       refine HFI.out.mono ?_
       rintro e w4 ⟨rfl,hb4⟩
       have HB4:=Lib.hid (HB3.out.trans (hb4.mono HB3.out.size))
       have HM4:=Lib.hid (HM3.out.below hb4)
       have HW4:=Lib.hid (HW3r.out.below hb4)
       have HRL4:=Lib.hid (own_below HRL.out hb4)
       have HRH4:=Lib.hid (own_below HRH.out hb4)
       have hN4:n1≤w4.heap.size:=Nat.le_trans HN3.out hb4.size
       have z0:=(hb4.cell (p:=⟨T,0,none⟩) hTl).trans y0
       have z1:=(hb4.cell (p:=⟨T,1,none⟩) hTl).trans y1
       have z2:=(hb4.cell (p:=⟨T,2,none⟩) hTl).trans y2
       have z3:=(hb4.cell (p:=⟨T,3,none⟩) hTl).trans y3
       have hT4:w4.heap[T]? =_:=(hb4.block T hTl).trans HC3.out
       have HT4:=Lib.hid hT4
       clear hb4 y0 y1 y2 y3 hT4
       go_wp2_with (at_builtin;refine wpList_append_own_at _ rfl _ _ 35 rfl n1 34 si (.agg #[.bool false,.int .i64 0,.slice none 0 0,.slice none 0 0]) 4 64 Tryz.underlying35 hsi sz0 sz1 sz2 rfl (by decide) _ K.length _ rfl (own_below HM4.out.row (mx_al w4 _)) ⟨w4.heap.size,0,none⟩ 1 1 [.bool s.del,.int .i64 s.id,.slice Al s.lits.length cl,.slice Ah s.hints.length ch] rfl rfl (fun j u hj=>cells_list_new w4 [.bool s.del,.int .i64 s.id,.slice Al s.lits.length cl,.slice Ah s.hints.length ch] 34 j u hj) (by simp[Value.oneCell']) (by unfold maxLen;omega) (by omega) (by simp;omega) ?_;intro v' w9 hown' hgrow hnl hat;obtain⟨Aw,kw,hv2,_⟩:=mx_slice hown';subst hv2;have HOWN:=Lib.hid hown';have HGR:=Lib.hid hgrow;have hgk:=(grow_keep HM4.out.row hgrow).1;have HGK:=Lib.hid hgk;have hT9:w9.heap[T]? =_:=(hgk.block T (heap_lt HT4.out) (fun e=>Nat.lt_irrefl _ (HTN.out T e))).trans HT4.out;have x1:=mx_cell (j:=1) hT9;clear hown' hgrow hnl hat hgk hT9)
       have hrow:=fun(i:Nat) (e:(Value.slice Av K.length cv).ownBlock=some i)=>(own_lt HM4.out.row i e).1
       go_roundw
       case rel=>
        refine⟨k+1,K++ [(s,(Al,cl),(Ah,ch))],s.id,by omega,by go_num,rfl,Lib.hid ?_,Lib.hid ?_,Lib.hid ?_,Lib.hid ?_,Lib.hid (Nat.le_trans hN4 HGK.out.size),Lib.hid (HW4.out.kept HGK.out (fun g hg e=>by have:=hrow g e;omega))⟩
        ·exact(HM4.out.below (mx_al w4 _)).push HGR.out (s,(Al,cl),(Ah,ch)) HOWN.out (own_below HRL4.out (mx_al w4 _)) (own_below HRH4.out (mx_al w4 _))
        ·rw[List.map_append]
         exact HF2.out
        ·rw[List.length_append,List.length_singleton]
         have:=HKL.out
         omega
        ·exact HB4.out.trans (HGK.out.below (fun i e=>by have:=hrow i e;omega) HB4.out.size)
       case measure=>simp[intOf];omega
  ·obtain rfl:k=L.length:=by omega
   have hF2:(K.map Prod.fst,0,0)=F:=by
    have h:=HG.out
    rw[List.drop_length]at h
    exact h
   have HF2:=Lib.hid hF2
   clear hF2
   go_wp2_with fail
   go_ret3
   exact⟨_,K,by rw[←HF2.out];rfl,HM.out.mono (by omega),by rw[←HF2.out],HBr.out⟩
end Go.Proofs.YtajbmjpodeilpaaGreatDoor
namespace Go.Proofs.YtajbmjpodeilpaaGreatDoor
open Go.RowKit Go.Sort
def litG (l:Int):Bool:=litB l&&decide (l<0)
def litI (l:Int):Int:=2*((litV l:Nat)-1:Int)+(if l<0 then 1 else 0)
def litC (a b:Int):Int:=if litB a=true then(if litB b=true then Lib.compareInt (litI a) (litI b)else 1)else if litB b=true then -1 else Lib.compareInt a b
theorem litV_right {l:Int} (h:litB l=true):(litV l:Int)=l.natAbs∧1≤(litV l:Int)∧(litV l:Int)≤1048576:=by
 have:=(litB_iff l).1 h
 unfold litV
 rw[if_pos h]
 omega
theorem litI_inj {a b:Int} (ha:litB a=true) (hb:litB b=true) (h:litI a=litI b):a=b:=by
 have h1:=litV_right ha
 have h2:=litV_right hb
 unfold litI at h
 split at h <;> split at h <;> omega
theorem ltC_iff (a b:Int):ltOf litC a b=true↔(litB a=false∧litB b=true)∨(litB a=true∧litB b=true∧litI a<litI b)∨(litB a=false∧litB b=false∧a<b):=by
 unfold ltOf litC Lib.compareInt
 cases ha:litB a <;> cases hb:litB b
 ·by_cases h:a<b <;> by_cases h2:b<a <;> simp[h,h2]
 ·simp
 ·simp
 ·by_cases h:litI a<litI b <;> by_cases h2:litI b<litI a <;> simp[h,h2]
theorem ltC_swo:SWO (ltOf litC) where
 irrefl x:=by
  rw[Bool.eq_false_iff,ne_eq,ltC_iff]
  rintro (⟨h1,h2⟩|⟨_,_,h⟩|⟨_,_,h⟩)
  ·rw[h1]at h2;cases h2
  ·omega
  ·omega
 trans x y z h1 h2:=by
  rw[ltC_iff]at *
  cases hx:litB x <;> cases hy:litB y <;> cases hz:litB z <;> simp[hx,hy,hz]at* <;> omega
 ntrans x y z h1 h2:=by
  rw[Bool.eq_false_iff,ne_eq,ltC_iff]at *
  cases hx:litB x <;> cases hy:litB y <;> cases hz:litB z <;> simp[hx,hy,hz]at* <;> omega
theorem ltC_total: ∀x y,ltOf litC x y=false→ltOf litC y x=false→x=y:=by
 intro x y h1 h2
 rw[Bool.eq_false_iff,ne_eq,ltC_iff]at h1 h2
 cases hx:litB x <;> cases hy:litB y <;> simp[hx,hy]at h1 h2
 ·omega
 ·exact litI_inj hx hy (by omega)
set_option maxHeartbeats 1000000 in
theorem lit_negated (l:Int) (w:World):Calls Tryz.prog 209 #[.int .i64 l] w fun e w'=>e= .returned (.bool (litG l))∧w=w':=by
 have HR:=right_lit l w
 unfold litG
 cases hb:litB l
 ·rw[hb]at HR
  have HR:=Lib.hid HR
  clear hb
  go_enter Tryz.func209,Tryz.ntmps209
  go_wp2_with fail
  refine HR.out.mono ?_
  rintro e w' ⟨rfl,rfl⟩
  go_wp2_with fail
  go_ret
  exact⟨rfl,rfl⟩
 ·rw[hb]at HR
  have HR:=Lib.hid HR
  clear hb
  rw[Bool.true_and]
  obtain⟨q,hq⟩: ∃q,decide (l<0)=q:=⟨_,rfl⟩
  rw[hq]
  go_enter Tryz.func209,Tryz.ntmps209
  go_wp2_with fail
  refine HR.out.mono ?_
  rintro e w' ⟨rfl,rfl⟩
  go_wp2_with fail
  go_ret
  exact⟨rfl,rfl⟩
set_option maxHeartbeats 1000000 in
theorem lit_index (l:Int) (w:World):Calls Tryz.prog 182 #[.int .i64 l] w fun e w'=>e= .returned (if litB l=true then .tuple #[.int .i64 (litI l),.int .i64 0]else .tuple #[.int .i64 0,.int .i64 10])∧w=w':=by
 have HR:=right_lit l w
 have HV:=Lib.hid (lit_var l w)
 cases hb:litB l
 ·rw[hb]at HR
  have HR:=Lib.hid HR
  clear hb
  rw[if_neg (by decide)]
  go_enter Tryz.func182,Tryz.ntmps182
  go_wp2_with fail
  refine HR.out.mono ?_
  rintro e w' ⟨rfl,rfl⟩
  go_wp2_with fail
  refine bodyPost_ret (results_tmp2 rfl _ _ _) rfl ?_
  exact⟨rfl,rfl⟩
 ·rw[hb]at HR
  have HR:=Lib.hid HR
  obtain⟨v,hv⟩: ∃v:Int,((litV l:Nat):Int)=v:=⟨_,rfl⟩
  have hr:=litV_right hb
  rw[hv]at HV hr
  have hw1:IntKind.i64.wrap (v-1)=v-1:=IntWalk.i64_in _ (by omega)
  have hw2:IntKind.i64.wrap (2*(v-1))=2*(v-1):=IntWalk.i64_in _ (by omega)
  have hw3:IntKind.i64.wrap (2*(v-1)+1)=2*(v-1)+1:=IntWalk.i64_in _ (by omega)
  rw[if_pos rfl]
  unfold litI
  rw[hv]
  clear hb hv hr
  by_cases hn:l<0
  ·have hd:decide (l<0)=true:=by simpa using hn
   rw[if_pos hn]
   clear hn
   go_enter Tryz.func182,Tryz.ntmps182
   go_wp2_with fail
   refine HR.out.mono ?_
   rintro e w' ⟨rfl,rfl⟩
   go_wp2_with fail
   refine HV.out.mono ?_
   rintro e w' ⟨rfl,rfl⟩
   go_wp2_with fail
   refine bodyPost_ret (results_tmp2 rfl _ _ _) rfl ?_
   exact⟨rfl,rfl⟩
  ·have hd:decide (l<0)=false:=by simpa using hn
   rw[if_neg hn,Int.add_zero]
   clear hn
   go_enter Tryz.func182,Tryz.ntmps182
   go_wp2_with fail
   refine HR.out.mono ?_
   rintro e w' ⟨rfl,rfl⟩
   go_wp2_with fail
   refine HV.out.mono ?_
   rintro e w' ⟨rfl,rfl⟩
   go_wp2_with fail
   refine bodyPost_ret (results_tmp2 rfl _ _ _) rfl ?_
   exact⟨rfl,rfl⟩
theorem cmp_int_nan (x:Int) (w:World):Calls Tryz.prog 219 #[.int .i64 x] w fun e w'=>e= .returned (.bool false)∧w=w':=by
 have h:(x != x)=false:=by simp
 go_enter Tryz.func219,Tryz.ntmps219
 go_wp2_with fail
 go_ret
 exact⟨rfl,rfl⟩
set_option maxHeartbeats 1000000 in
theorem cmp_int (x y:Int) (w:World):Calls Tryz.prog 183 #[.int .i64 x,.int .i64 y] w fun e w'=>e= .returned (.int .i64 (Lib.compareInt x y))∧w=w':=by
 have H1:=Lib.hid (cmp_int_nan x w)
 have H2:=Lib.hid (cmp_int_nan y w)
 unfold Lib.compareInt
 by_cases h:x<y
 ·have hd:decide (x<y)=true:=by simpa using h
  rw[if_pos h]
  clear h
  go_enter Tryz.func183,Tryz.ntmps183
  go_wp2_with fail
  refine H1.out.mono ?_
  rintro e w' ⟨rfl,rfl⟩
  go_wp2_with fail
  refine H2.out.mono ?_
  rintro e w' ⟨rfl,rfl⟩
  go_wp2_with fail
  go_ret
  exact⟨rfl,rfl⟩
 ·have hd:decide (x<y)=false:=by simpa using h
  rw[if_neg h]
  by_cases h2:y<x
  ·have he:decide (y<x)=true:=by simpa using h2
   rw[if_pos h2]
   clear h h2
   go_enter Tryz.func183,Tryz.ntmps183
   go_wp2_with fail
   refine H1.out.mono ?_
   rintro e w' ⟨rfl,rfl⟩
   go_wp2_with fail
   refine H2.out.mono ?_
   rintro e w' ⟨rfl,rfl⟩
   go_wp2_with fail
   go_ret
   exact⟨rfl,rfl⟩
  ·have he:decide (y<x)=false:=by simpa using h2
   rw[if_neg h2]
   clear h h2
   go_enter Tryz.func183,Tryz.ntmps183
   go_wp2_with fail
   refine H1.out.mono ?_
   rintro e w' ⟨rfl,rfl⟩
   go_wp2_with fail
   refine H2.out.mono ?_
   rintro e w' ⟨rfl,rfl⟩
   go_wp2_with fail
   go_ret
   exact⟨rfl,rfl⟩
theorem cmp_lit_nan (x:Int) (w:World):Calls Tryz.prog 220 #[.int .i64 x] w fun e w'=>e= .returned (.bool false)∧w=w':=by
 have h:(x != x)=false:=by simp
 go_enter Tryz.func220,Tryz.ntmps220
 go_wp2_with fail
 go_ret
 exact⟨rfl,rfl⟩
set_option maxHeartbeats 1000000 in
theorem cmp_lit (x y:Int) (w:World):Calls Tryz.prog 184 #[.int .i64 x,.int .i64 y] w fun e w'=>e= .returned (.int .i64 (Lib.compareInt x y))∧w=w':=by
 have H1:=Lib.hid (cmp_lit_nan x w)
 have H2:=Lib.hid (cmp_lit_nan y w)
 unfold Lib.compareInt
 by_cases h:x<y
 ·have hd:decide (x<y)=true:=by simpa using h
  rw[if_pos h]
  clear h
  go_enter Tryz.func184,Tryz.ntmps184
  go_wp2_with fail
  refine H1.out.mono ?_
  rintro e w' ⟨rfl,rfl⟩
  go_wp2_with fail
  refine H2.out.mono ?_
  rintro e w' ⟨rfl,rfl⟩
  go_wp2_with fail
  go_ret
  exact⟨rfl,rfl⟩
 ·have hd:decide (x<y)=false:=by simpa using h
  rw[if_neg h]
  by_cases h2:y<x
  ·have he:decide (y<x)=true:=by simpa using h2
   rw[if_pos h2]
   clear h h2
   go_enter Tryz.func184,Tryz.ntmps184
   go_wp2_with fail
   refine H1.out.mono ?_
   rintro e w' ⟨rfl,rfl⟩
   go_wp2_with fail
   refine H2.out.mono ?_
   rintro e w' ⟨rfl,rfl⟩
   go_wp2_with fail
   go_ret
   exact⟨rfl,rfl⟩
  ·have he:decide (y<x)=false:=by simpa using h2
   rw[if_neg h2]
   clear h h2
   go_enter Tryz.func184,Tryz.ntmps184
   go_wp2_with fail
   refine H1.out.mono ?_
   rintro e w' ⟨rfl,rfl⟩
   go_wp2_with fail
   refine H2.out.mono ?_
   rintro e w' ⟨rfl,rfl⟩
   go_wp2_with fail
   go_ret
   exact⟨rfl,rfl⟩
set_option maxHeartbeats 2000000 in
theorem lit_compare (a b:Int) (w:World):Calls Tryz.prog 151 #[.int .i64 a,.int .i64 b] w fun e w'=>e= .returned (.int .i64 (litC a b))∧w=w':=by
 have HA:=lit_index a w
 have HB:=lit_index b w
 unfold litC
 cases ha:litB a <;> cases hb:litB b <;> rw[ha]at HA <;> rw[hb]at HB <;> simp only[Bool.false_eq_true,if_false,if_true]at HA HB⊢
 ·have HA:=Lib.hid HA
  have HB:=Lib.hid HB
  have HC:=cmp_lit a b w
  obtain⟨r,hr⟩: ∃r,Lib.compareInt a b=r:=⟨_,rfl⟩
  rw[hr]at HC⊢
  have HC:=Lib.hid HC
  clear hr
  clear ha hb
  go_enter Tryz.func151,Tryz.ntmps151
  go_wp2_with fail
  refine HA.out.mono ?_
  rintro e w' ⟨rfl,rfl⟩
  go_wp2_with fail
  refine HB.out.mono ?_
  rintro e w' ⟨rfl,rfl⟩
  go_wp2_with fail
  refine HC.out.mono ?_
  rintro e w' ⟨rfl,rfl⟩
  go_wp2_with fail
  go_ret
  exact⟨rfl,rfl⟩
 ·have HA:=Lib.hid HA
  have HB:=Lib.hid HB
  clear ha hb
  go_enter Tryz.func151,Tryz.ntmps151
  go_wp2_with fail
  refine HA.out.mono ?_
  rintro e w' ⟨rfl,rfl⟩
  go_wp2_with fail
  refine HB.out.mono ?_
  rintro e w' ⟨rfl,rfl⟩
  go_wp2_with fail
  go_ret
  exact⟨rfl,rfl⟩
 ·have HA:=Lib.hid HA
  have HB:=Lib.hid HB
  clear ha hb
  go_enter Tryz.func151,Tryz.ntmps151
  go_wp2_with fail
  refine HA.out.mono ?_
  rintro e w' ⟨rfl,rfl⟩
  go_wp2_with fail
  refine HB.out.mono ?_
  rintro e w' ⟨rfl,rfl⟩
  go_wp2_with fail
  go_ret
  exact⟨rfl,rfl⟩
 ·have HA:=Lib.hid HA
  have HB:=Lib.hid HB
  have HC:=cmp_int (litI a) (litI b) w
  obtain⟨r,hr⟩: ∃r,Lib.compareInt (litI a) (litI b)=r:=⟨_,rfl⟩
  rw[hr]at HC⊢
  have HC:=Lib.hid HC
  clear hr
  clear ha hb
  go_enter Tryz.func151,Tryz.ntmps151
  go_wp2_with fail
  refine HA.out.mono ?_
  rintro e w' ⟨rfl,rfl⟩
  go_wp2_with fail
  refine HB.out.mono ?_
  rintro e w' ⟨rfl,rfl⟩
  go_wp2_with fail
  refine HC.out.mono ?_
  rintro e w' ⟨rfl,rfl⟩
  go_wp2_with fail
  go_ret
  exact⟨rfl,rfl⟩
end Go.Proofs.YtajbmjpodeilpaaGreatDoor
namespace Go.Proofs.YtajbmjpodeilpaaGreatDoor
open Go.RowKit Go.Shelf Go.Sort
attribute [local go_sem] Oper.semAt_some
theorem cinfo_lit:(Tryz.prog.info? 28).map (fun i=>(i.zero,i.size,i.bytes))=some (some (.int .i64 0),1,8):=by kernel_rfl
set_option maxRecDepth 100000 in
set_option maxHeartbeats 2000000 in
theorem values1_in {O X:Nat→Prop} (l Bb:Nat) (u:Value) (xs:List Int) (J Jx:List Int→World→Prop) (W:World)
  (hY: ∀pre x W1,J pre W1→pre.length<xs.length→YieldAt Fence.wide 7 Tryz.prog l #[.int .i64 x] W1 fun e W'=>
   (e= .returned (.bool true)∧J (pre++ [x]) W'∧KpC X W1 W')∨(e= .returned (.bool false)∧Jx (pre++ [x]) W'))
  (hB:W.cell? ⟨Bb,0,none⟩=some u) (hX: ¬X Bb) (hu:IntsIn O W u xs) (hOX: ∀g,O g→¬X g) (hlen:xs.length≤140737488355328) (h0:J [] W):
  CallsIn Fence.wide 8 Tryz.prog 256 #[.func (.yield l) #[] #[],.pointer (some ⟨Bb,0,none⟩)] W fun e W'=>(∃v,e= .returned v)∧
   ((∃ys,ys=xs∧J ys W')∨(∃pre,(pre <+: xs∧pre≠ [])∧Jx pre W')):=by
 have hB':=World.block_lt_of_cell? W _ hB
 have HN:=Lib.hid hu.narrow
 have HB:=Lib.hid hB
 have HY:=Lib.hid hY
 have HX:=Lib.hid hX
 have HOX:=Lib.hid hOX
 have H0:=Lib.hid h0
 obtain⟨A,c,rfl,hc,_,_⟩:=hu
 clear hY hX hOX h0
 refine callsIn_of_wp Tryz.func256 rfl trivial ?_ rfl
 simp only[Tryz.ntmps256,List.size_toArray,List.length_cons,List.length_nil,Nat.reduceAdd,Nat.reduceSub,Array.replicate_succ,Array.replicate_zero,List.push_toArray,List.append_toArray,List.nil_append,List.cons_append]
 gi_wp2
 gi_loopw [7] (fun i wr=> ∃k:Nat,k≤xs.length∧i= .int .i64 k∧Hid (KpC X W wr)∧Hid (J (xs.take k) wr)) (fun i _=>xs.length-(intOf i).toNat)
 case atStart=>exact⟨0,Nat.zero_le _,rfl,Lib.hid (KpC.refl _ _),H0⟩
 case round=>
  obtain⟨k,hk,rfl,HK,HJ⟩:=hrel
  by_cases hlt:k<xs.length
  ·obtain⟨x,hxk⟩:=getElem_of hlt
   obtain⟨A',c',hAc,_,_,hxs⟩:=HN.out
   simp only[Value.slice.injEq,true_and]at hAc
   obtain⟨rfl,rfl⟩:=hAc
   obtain⟨g,o,rfl,hg,hgo,d0⟩:=hxs k x hxk
   have d1:wr.cell? ⟨g,o+k,none⟩=some (.int .i64 x):=(HK.out.kept.cell (p:=⟨g,o+k,none⟩) hg (fun h=>h.elim (HOX.out g hgo.1) hgo.2)).trans d0
   have HTK:=Lib.hid (show xs.take (k+1)=xs.take k++ [x]from by rw[List.take_add_one,hxk];rfl)
   obtain⟨fn,tmps,assign,body,hy,hR⟩:=HY.out (xs.take k) x wr HJ.out (by rw[List.length_take];omega)
   have HR:=Lib.hid hR
   clear hxk hxs hgo d0 hR
   gi_wp2_with fail
   refine HR.out.mono ?_
   rintro e W3 (⟨rfl,hJ3,hk3⟩|⟨rfl,hJx3⟩)
   ·have HJ3:=Lib.hid hJ3
    have HK3:=Lib.hid (HK.out.trans hk3)
    clear hJ3 hk3 hy d1
    gi_wp2_with fail
    go_roundw
    case rel=>exact⟨k+1,by omega,by go_num,HK3,Lib.hid (by rw[HTK.out];exact HJ3.out)⟩
    case measure=>simp[intOf];omega
   ·gi_wp2
    refine bodyPost_ret (results_none rfl _ _ _) rfl ?_
    exact⟨⟨_,rfl⟩,.inr ⟨xs.take k++ [x],⟨by rw[←HTK.out];exact List.take_prefix _ _,by simp⟩,hJx3⟩⟩
  ·obtain rfl:k=xs.length:=by omega
   gi_wp2
   go_end0
   refine⟨⟨_,rfl⟩,.inl ⟨xs,rfl,?_⟩⟩
   have:=HJ.out
   rwa [List.take_length]at this
theorem values_stops {O X:Nat→Prop} (Bb:Nat) (u:Value) (xs:List Int) (w:World) (hB:w.cell? ⟨Bb,0,none⟩=some u) (hX: ¬X Bb) (hu:IntsIn O w u xs) (hOX: ∀g,O g→¬X g) (hlen:xs.length≤140737488355328):
  SeqStopsK Fence.wide 8 Tryz.prog 256 #[.pointer (some ⟨Bb,0,none⟩)] (fun x:Int=> #[Value.int .i64 x]) (KpC X) (fun ys=>ys=xs) (fun pre=>pre <+: xs∧pre≠ []) xs.length w:=fun l J Jx W hW _ _ hY h0=>
 values1_in l Bb u xs J Jx W hY ((hW.cell (p:=⟨Bb,0,none⟩) (World.block_lt_of_cell? w _ hB)).trans hB) hX (hu.below hW) hOX hlen h0
theorem values_run (A:Option Addr) (n c:Nat) (w:World):Calls Tryz.prog 241 #[.slice A n c] w fun e w'=>e= .returned (.func (.func 256) #[] #[.pointer (some ⟨w.heap.size,0,none⟩)])∧w.alloc (.cells #[.slice A n c] 30)=w':=by
 go_enter Tryz.func241,Tryz.ntmps241
 go_wp2
 go_ret
 exact⟨rfl,rfl⟩
set_option maxRecDepth 100000 in
set_option maxHeartbeats 4000000 in
theorem append_values {O:Nat→Prop} (Bb:Nat) (u:Value) (xs:List Int) (w:World) (hB:w.cell? ⟨Bb,0,none⟩=some u) (hu:IntsIn O w u xs) (hlen:xs.length≤1000000000000):
  Calls Tryz.prog 264 #[.slice none 0 0,.func (.func 256) #[] #[.pointer (some ⟨Bb,0,none⟩)]] w fun e w'=> ∃v,e= .returned v∧w'.ownsRow w.heap.size 28 1 v xs.length (xs.map (Value.int .i64))∧Below w.heap.size w w':=by
 have hB':=World.block_lt_of_cell? w _ hB
 obtain⟨i0,hi,iz0,iz1,iz2⟩:=info_parts cinfo_lit
 obtain⟨WR,hWR⟩: ∃x,w.alloc (.cells #[.slice none 0 0] 29)=x:=⟨_,rfl⟩
 have hbR:Below w.heap.size w WR:=by rw[←hWR];exact mx_al _ _
 have hcR:Boxed WR w.heap.size 29 (.slice none 0 0):=by rw[←hWR];exact Boxed.new _ _ _
 have hzR:=hcR.lt
 have HST:=Lib.hid (values_stops (X:=fun g=>w.heap.size≤g) Bb u xs WR ((hbR.cell (p:=⟨Bb,0,none⟩) hB').trans hB) (fun h=>by simp only at h hB';omega) (hu.lt.below hbR) (fun g h=>by omega) (by omega))
 have HWR:=Lib.hid hWR
 have HBR:=Lib.hid hbR
 have HCR:=Lib.hid hcR
 clear hB hu hWR hbR hcR
 refine(callsIn_wide (n:=9)).1 ?_
 refine callsIn_of_wp_marks Tryz.func264 rfl trivial ?_ rfl
 simp only[Tryz.ntmps264,List.size_toArray,List.length_cons,List.length_nil,Nat.reduceAdd,Nat.reduceSub,Array.replicate_succ,Array.replicate_zero,List.push_toArray,List.append_toArray,List.nil_append,List.cons_append]
 gi_wp2
 rw[HWR.out]
 refine wpIn_rangeFunc_ownG rfl (by omega) (gf:=256) (lb:= #[.pointer (some ⟨Bb,0,none⟩)]) rfl trivial (enters_of Tryz.func256 (by kernel_rfl) rfl)
  HST.out (fun h k=>h.trans k) (fun W l o o' _ h hc hw=>(KpC.putObj W l o o' h hc hw).mono (fun _ _ h=>h.elim)) (Below.refl _ _) (fun _=>rfl)
  (fun pre W=>(∃v,Boxed W w.heap.size 29 v∧W.ownsRow w.heap.size 28 1 v pre.length (pre.map (Value.int .i64))∧True)∧Below w.heap.size w W∧w.heap.size<W.heap.size) (fun _ _ _=>False) ?own ?ownx ⟨⟨_,HCR.out,World.ownsRow_nil _ _ _ _,trivial⟩,HBR.out,hzR⟩
  ?frame ?assign ?body ?done ?stop
 case own=>
  exact OwnFrom.and (Own.from (holdsRow_own _ _ _ _ 1 (fun pre:List Int=>pre.length) (fun pre=>pre.map (Value.int .i64)) (fun _ _=>True)) _) (OwnFrom.and (ownFrom_below (Nat.le_refl _) (by omega)) (fun _ X Y row h hg _=>Nat.lt_of_lt_of_le h hg.size))
 case ownx=>exact fun c pre W W' row h _ _=>h
 case assign=>
  intro l x W K hK
  dsimp only
  gi_wp2
  exact hK
 case body=>
  rintro l pre x W ⟨⟨v,hv,hr,-⟩,hb,hz⟩ hlt
  have q1:=hv.cell
  have q2:=hv.frozen
  obtain⟨A,c,rfl,hc⟩:=mx_slice hr
  have HV:=Lib.hid hv
  have HR:=Lib.hid hr
  have HB:=Lib.hid hb
  clear hv hr hb
  gi_wp2_with (gi_at_builtin;refine wpListIn_append_own _ rfl _ _ 29 rfl w.heap.size 28 i0 (.int .i64 0) 1 8 Tryz.underlying29 hi iz0 iz1 iz2 rfl (by decide) _ _ _ rfl (HR.out.alloc _) ⟨W.heap.size,0,none⟩ 1 1 [.int .i64 x] rfl rfl ?c1 ?c2 ?c3 ?c4 ?c5 ?_)
  case c1=>
   intro j u hj
   match j,hj with
   | 0,hj=>simp at hj;subst hj;simp[Addr.add]
  case c2=>intro u hu;simp at hu;subst hu;rfl
  case c3=>unfold maxLen;omega
  case c4=>omega
  case c5=>simp;omega
  ·intro v' w1 hown' hgrow _
   have hA:=Boxed.appended HV.out (by decide) HR.out (Nat.le_of_lt hz) (Nat.le_refl _) hown' hgrow
   obtain⟨g1,cap,rfl⟩:=ownsRow_succ hown'
   obtain⟨a1,a2,a3,a4,a5⟩:=hA
   have q3:=a1.cell
   have q4:=a1.frozen
   have A2:=Lib.hid a2
   have A3:=Lib.hid a3
   have A4:=Lib.hid a4
   have A5:=Lib.hid a5
   clear a1 a2 a3 a4 a5 hown' hgrow
   gi_wp2
   refine⟨A4.out.from _,⟨A5.out.os,A5.out.tape,A5.out.output,A5.out.size,fun k o hk hX _=>(A5.out.block k (by omega)).trans hk⟩,⟨_,A2.out,?_,trivial⟩,HB.out.trans A5.out,Nat.lt_of_lt_of_le hz A5.out.size⟩
   simpa using A3.out
 case done=>
  rintro D ys W hD rfl ⟨⟨v,hv,hr,-⟩,hb,hz⟩ hDf
  have q1:=hv.cell
  have HR:=Lib.hid hr
  have HB:=Lib.hid hb
  have HD:=Lib.hid hDf
  obtain⟨A,c,rfl,hc⟩:=mx_slice hr
  clear hv hr hb hDf
  gi_wp2
  refine⟨by simp,.inl ⟨_,_,rfl,run_takeDeferred HD.out,?_⟩⟩
  have hD0:w.heap.size≤D:=Nat.le_trans (Nat.le_of_lt hzR) hD
  refine⟨_,results_tmp rfl _ _ _,_,rfl,ownsRow_putObj HR.out _ HD.out rfl,HB.out.trans ?_⟩
  exact(Below.refl _ _).grown (grownBy_putObj' W D _) (Nat.le_of_lt hz) (fun g e=>by cases e;exact hD0)
 case stop=>
  rintro D c pre W hD _ hf _
  exact hf.elim
theorem collect_values {O:Nat→Prop} (Bb:Nat) (u:Value) (xs:List Int) (w:World) (hB:w.cell? ⟨Bb,0,none⟩=some u) (hu:IntsIn O w u xs) (hlen:xs.length≤1000000000000):
  Calls Tryz.prog 255 #[.func (.func 256) #[] #[.pointer (some ⟨Bb,0,none⟩)]] w fun e w'=> ∃v,e= .returned v∧w'.ownsRow w.heap.size 28 1 v xs.length (xs.map (Value.int .i64))∧Below w.heap.size w w':=by
 have H:=Lib.hid (append_values Bb u xs w hB hu hlen)
 clear hB hu
 go_enter Tryz.func255,Tryz.ntmps255
 go_wp2_with fail
 refine H.out.mono ?_
 rintro e w' ⟨v,rfl,hr,hb⟩
 have HR:=Lib.hid hr
 have HB:=Lib.hid hb
 clear hr hb
 go_wp2_with fail
 go_ret
 exact⟨_,rfl,HR.out,HB.out⟩
end Go.Proofs.YtajbmjpodeilpaaGreatDoor
namespace Go.Proofs.YtajbmjpodeilpaaGreatDoor
open Go.RowKit Go.Sort
theorem st_holds {w:World} {g:Nat} {cur:Array Value} {e:TypeId} {ss:List Int} (hb:w.heap[g]? =some (.cells cur e (0,0))) (ht:cur.toList.take ss.length=ss.map (Value.int .i64)):Holds (Value.int .i64) w g 0 ss.toArray:=by
 intro j hj
 have hj':j<ss.length:=by simpa using hj
 refine⟨?_,by simp[World.frozen?,hb]⟩
 have h1:(cur.toList.take ss.length)[j]? =(ss.map (Value.int .i64))[j]? :=by rw[ht]
 rw[List.getElem?_take_of_lt hj']at h1
 simp only[World.cell?,hb,Nat.zero_add]
 simp only[Option.isSome_none,Bool.false_eq_true,if_false]
 rw[←Array.getElem?_toList,h1]
 simp[hj']
theorem st_heap {w:World} {g n:Nat} {os:Array Obj} {cur:Array Value} {e:TypeId} {fr:Nat×Nat} (d:Array Int) (hb:w.heap[g]? =some (.cells cur e fr)):
  (grow (putRow (Value.int .i64) (Sort.ahead w n) g 0 d) os).heap[g]? =some (.cells (putCells (Value.int .i64) 0 d cur) e fr):=by
 have hg:g<w.heap.size:=(Array.getElem?_eq_some_iff.1 hb).1
 rw[heap_grow_old _ _ (by simpa using hg)]
 simp[putRow,mapBlock,Sort.ahead,Array.getElem?_modify,hb,onCells]
theorem st_heap1 {w:World} {g n:Nat} {cur:Array Value} {e:TypeId} {fr:Nat×Nat} (d:Array Int) (hb:w.heap[g]? =some (.cells cur e fr)):
  (putRow (Value.int .i64) (Sort.ahead w n) g 0 d).heap[g]? =some (.cells (putCells (Value.int .i64) 0 d cur) e fr):=by
 simp[putRow,mapBlock,Sort.ahead,Array.getElem?_modify,hb,onCells]
theorem st_kept {w:World} {g n:Nat} {os:Array Obj} (d:Array Int):Kept (fun k=>some g=some k) w (grow (putRow (Value.int .i64) (Sort.ahead w n) g 0 d) os):=by
 refine⟨rfl,rfl,rfl,by simp,fun k hk hne=>?_⟩
 rw[heap_grow_old _ _ (by simpa using hk)]
 have:g≠k:=fun e=>hne (by rw[e])
 simp[putRow,mapBlock,Sort.ahead,Array.getElem?_modify,this]
theorem st_kept1 {w:World} {g n:Nat} (d:Array Int):Kept (fun k=>some g=some k) w (putRow (Value.int .i64) (Sort.ahead w n) g 0 d):=by
 refine⟨rfl,rfl,rfl,by simp,fun k hk hne=>?_⟩
 have:g≠k:=fun e=>hne (by rw[e])
 simp[putRow,mapBlock,Sort.ahead,Array.getElem?_modify,this]
theorem st_take (cur:Array Value) (ts:List Int) (h:ts.length≤cur.size):(putCells (Value.int .i64) 0 ts.toArray cur).toList.take ts.length=ts.map (Value.int .i64):=by
 apply List.ext_getElem?
 intro j
 by_cases hj:j<ts.length
 ·rw[List.getElem?_take_of_lt hj,Array.getElem?_toList]
  simp[putCells,hj,show j<cur.size by omega]
 ·rw[List.getElem?_take_eq_none (by omega),List.getElem?_eq_none (by simp;omega)]
end Go.Proofs.YtajbmjpodeilpaaGreatDoor
