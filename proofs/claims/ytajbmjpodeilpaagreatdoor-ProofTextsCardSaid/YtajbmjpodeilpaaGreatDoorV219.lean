/- Reference of layer 7: Right. Moves of a region that draws in a fence; package rat: the candidates' iterator. package rat: groups. -/
import Derived.Test.YtajbmjpodeilpaaGreatDoorV218
import Derived.Test.YtajbmjpodeilpaaGreatDoorV203
import Derived.Test.YtajbmjpodeilpaaGreatDoorV215
import Derived.Deep.DeepCutAuto
import Derived.Test.YtajbmjpodeilpaaGreatDoorV208
import Derived.Test.YtajbmjpodeilpaaGreatDoorV202
import Derived.Test.YtajbmjpodeilpaaGreatDoorV214
import Derived.Test.YtajbmjpodeilpaaGreatDoorV209
import Derived.Test.YtajbmjpodeilpaaGreatDoorV211
import Derived.Test.YtajbmjpodeilpaaGreatDoorV213
import Derived.Test.YtajbmjpodeilpaaGreatDoorV200
import Derived.Test.YtajbmjpodeilpaaGreatDoorV207
namespace Go.Proofs.YtajbmjpodeilpaaGreatDoor
open Go.RowKit
def badH (d:Bool) (h:Int):Bool:=decide (h=0)||decide (1073741824<h)||decide (h< -1073741824)||(d&&decide (h<0))
theorem stepB_any {d:Bool} {id:Int} {c hs:List Int} {B:Bool} (h:(!(decide (id<0)||decide (1073741824<id)||(!d&&decide (id=0))||(d&&decide (0<c.length)))&&(clauseB c&&decide (hs.length≤65536)))=true) (hB:hs.any (badH d)=B):stepB ⟨d,id,c,hs⟩= !B:=by
 rw[Bool.and_eq_true,Bool.and_eq_true]at h
 obtain⟨h1,h2,h3⟩:=h
 unfold stepB
 simp only
 rw[h1,h2,h3,Bool.true_and,Bool.true_and,Bool.true_and,←hB]
 rfl
theorem stepB_ok {d:Bool} {id:Int} {c hs:List Int} {B:Bool} (h1:0≤id) (h2:id≤1073741824) (h3:d=false→id≠0) (h4:d=true→c.length=0) (h5:clauseB c=true) (h6:hs.length≤65536) (hB:hs.any (badH d)=B):stepB ⟨d,id,c,hs⟩= !B:=by
 refine stepB_any ?_ hB
 rw[h5]
 cases d with
 | false=>
  have:=h3 rfl
  simp[decide_eq_false (show¬id<0 by omega),decide_eq_false (show¬1073741824<id by omega),this,h6]
 | true=>
  have:=h4 rfl
  simp[decide_eq_false (show¬id<0 by omega),decide_eq_false (show¬1073741824<id by omega),List.eq_nil_of_length_eq_zero this,h6]
set_option maxRecDepth 100000 in
set_option maxHeartbeats 4000000 in
theorem ref_right07 {O:Nat→Prop} (d:Bool) (id:Int) (ul uh:Value) (c hs:List Int) (w:World) (hl:IntsIn O w ul c) (hh:IntsIn O w uh hs) (hcl:c.length≤1000000) (hhl:hs.length≤1000000) (hr: ∀h∈hs,-9223372036854775808≤h∧h≤9223372036854775807):
  Calls Tryz.prog 63 #[.agg #[.bool d,.int .i64 id,ul,uh]] w fun e w'=>e= .returned (.bool (stepB ⟨d,id,c,hs⟩))∧Below w.heap.size w w':=by
 obtain⟨W1,hW1,hb1,hx1,hz1⟩:=al_new w #[.bool d,.int .i64 id,ul,uh] 83
 have HRC:=Lib.hid (show∀W,Below W1.heap.size W1 W→_ from fun W hW=>ref_right_clause ul c W ((hl.below hb1).below hW) (by omega))
 have HH1:=Lib.hid (hh.below hb1)
 have HRG:=Lib.hid hr
 obtain⟨Al,cl,rfl,_⟩:=hl
 obtain⟨Ah,ch,rfl,_⟩:=hh
 have x0:=mx_cell (j:=0) hx1
 have x1:=mx_cell (j:=1) hx1
 have x2:=mx_cell (j:=2) hx1
 have x3:=mx_cell (j:=3) hx1
 have HB1:=Lib.hid hb1
 clear hb1 hx1 hz1 hr
 cases d with
 | false=>
  go_enter Tryz.func63,Tryz.ntmps63
  go_upto_region 1 with fail
  clear hW1
  by_cases j1:id<0
  ·have p1:decide (id<0)=true:=decide_eq_true (by omega)
   have HN:=Lib.hid (show stepB ⟨false,id,c,hs⟩=false from by
    unfold stepB;simp[j1])
   clear j1
   go_wp2_with fail
   go_ret
   exact⟨congrArg (fun b=>Ending.returned (.bool b)) HN.out.symm,HB1.out⟩
  ·have p1:decide (id<0)=false:=decide_eq_false (by omega)
   by_cases j2:1073741824<id
   ·have p2:decide (1073741824<id)=true:=decide_eq_true (by omega)
    have HN:=Lib.hid (show stepB ⟨false,id,c,hs⟩=false from by
     unfold stepB;simp[j2])
    clear j1 j2
    go_wp2_with fail
    go_ret
    exact⟨congrArg (fun b=>Ending.returned (.bool b)) HN.out.symm,HB1.out⟩
   ·have p2:decide (1073741824<id)=false:=decide_eq_false (by omega)
    by_cases j3:id=0
    ·have p3:(id==0)=true:=beq_iff_eq.2 j3
     have HN:=Lib.hid (show stepB ⟨false,id,c,hs⟩=false from by
      unfold stepB;simp[j3])
     clear j1 j2 j3
     go_wp2_with fail
     go_ret
     exact⟨congrArg (fun b=>Ending.returned (.bool b)) HN.out.symm,HB1.out⟩
    ·have p3:(id==0)=false:=beq_eq_false_iff_ne.2 j3
     cases hcb:clauseB c with
     | false=>
      have HRC2:=Lib.hid (show∀W,Below W1.heap.size W1 W→_ from fun W hW=>HRC.out W hW)
      rw[hcb]at HRC2
      have HN:=Lib.hid (show stepB ⟨false,id,c,hs⟩=false from by
       unfold stepB;simp[hcb])
      clear hcb j1 j2 j3
      go_wp2_with fail
      refine(HRC2.out W1 (Below.refl _ _)).mono ?_
      rintro e w1 ⟨rfl,rfl⟩
      go_wp2_with fail
      go_ret
      exact⟨congrArg (fun b=>Ending.returned (.bool b)) HN.out.symm,HB1.out⟩
     | true=>
      have HRC2:=Lib.hid (show∀W,Below W1.heap.size W1 W→_ from fun W hW=>HRC.out W hW)
      rw[hcb]at HRC2
      by_cases j4:65536<hs.length
      ·have p4:decide ((65536:Int)<(hs.length:Int))=true:=decide_eq_true (by omega)
       have p5:decide (65536<hs.length)=true:=decide_eq_true j4
       have HN:=Lib.hid (show stepB ⟨false,id,c,hs⟩=false from by
        unfold stepB;simp[show¬hs.length≤65536 by omega])
       clear hcb j1 j2 j3
       go_wp2_with fail
       refine(HRC2.out W1 (Below.refl _ _)).mono ?_
       rintro e w1 ⟨rfl,rfl⟩
       go_wp2_with fail
       go_ret
       exact⟨congrArg (fun b=>Ending.returned (.bool b)) HN.out.symm,HB1.out⟩
      ·have p4:decide ((65536:Int)<(hs.length:Int))=false:=decide_eq_false (by omega)
       have p5:decide (65536<hs.length)=false:=decide_eq_false j4
       obtain⟨B,hB⟩: ∃B,hs.any (badH false)=B:=⟨_,rfl⟩
       have HST:=Lib.hid (show stepB ⟨false,id,c,hs⟩= !B from by rw[←hB];exact stepB_ok (by omega) (by omega) (fun h=>by first|exact j3|cases h) (fun h=>by first|omega|cases h) hcb (by omega) rfl)
       have HB0:=Lib.hid hB
       clear hB hcb j1 j2 j3 j4
       go_wp2_with fail
       refine(HRC2.out W1 (Below.refl _ _)).mono ?_
       rintro e w1 ⟨rfl,rfl⟩
       go_wp2_with fail
       go_loopw [3] (fun iv wr=> ∃i:Nat,i≤hs.length∧iv= .int .i64 i∧Hid ((hs.drop i).any (badH false)=B)∧Hid (W1=wr)) (fun iv _=>hs.length-(intOf iv).toNat)
       case atStart=>exact⟨0,Nat.zero_le _,rfl,Lib.hid HB0.out,Lib.hid rfl⟩
       case round=>
        obtain⟨i,hi,rfl,HK,HWR⟩:=hrel
        obtain rfl:=HWR.out
        by_cases hlt:i<hs.length
        ·obtain⟨h,hh⟩:=atOf hlt
         obtain⟨hr1,hr2⟩:=HRG.out h (List.mem_of_getElem? hh)
         obtain⟨A2,c2,hA2,_,_,hx⟩:=HH1.out
         simp only[Value.slice.injEq,true_and]at hA2
         obtain⟨rfl,rfl⟩:=hA2
         obtain⟨g,o,rfl,hg,_,d0⟩:=hx i h hh
         have wi:IntKind.i64.wrap (i:Int)=(i:Int):=IntWalk.i64_in _ (by omega)
         have li:(i:Int)<(hs.length:Int):=by omega
         clear hx
         by_cases k1:h<0
         ·have q1:decide (h<0)=true:=decide_eq_true (by omega)
          by_cases k2:h< -1073741824
          ·by_cases k3:h= -9223372036854775808
           ·have q2:decide (h<1)=true:=decide_eq_true (by omega)
            have wn:IntKind.i64.wrap (-h)=h:=by rw[k3];decide
            have HN:=Lib.hid (show stepB ⟨false,id,c,hs⟩=false from by
             rw[HST.out,←HK.out,dropAt hh,List.any_cons]
             have:badH false h=true:=by unfold badH;simp only[Bool.or_eq_true,Bool.and_eq_true,decide_eq_true_eq];first|omega|simp;omega
             rw[this];rfl)
            clear hh k1 k2 k3
            go_wp2_with fail
            go_ret
            exact⟨congrArg (fun b=>Ending.returned (.bool b)) HN.out.symm,HB1.out⟩
           ·have wn:IntKind.i64.wrap (-h)= -h:=IntWalk.i64_in _ (by omega)
            have q2:decide (-h<1)=false:=decide_eq_false (by omega)
            have q3:decide (1073741824< -h)=true:=decide_eq_true (by omega)
            have HN:=Lib.hid (show stepB ⟨false,id,c,hs⟩=false from by
             rw[HST.out,←HK.out,dropAt hh,List.any_cons]
             have:badH false h=true:=by unfold badH;simp only[Bool.or_eq_true,Bool.and_eq_true,decide_eq_true_eq];first|omega|simp;omega
             rw[this];rfl)
            clear hh k1 k2 k3
            go_wp2_with fail
            go_ret
            exact⟨congrArg (fun b=>Ending.returned (.bool b)) HN.out.symm,HB1.out⟩
          ·have wn:IntKind.i64.wrap (-h)= -h:=IntWalk.i64_in _ (by omega)
           have q2:decide (-h<1)=false:=decide_eq_false (by omega)
           have q3:decide (1073741824< -h)=false:=decide_eq_false (by omega)
           have HN:=Lib.hid (show(hs.drop (i+1)).any (badH false)=B from by
            have h0:=HK.out
            rw[dropAt hh,List.any_cons]at h0
            have:badH false h=false:=by unfold badH;simp only[Bool.or_eq_false_iff,Bool.and_eq_false_iff,decide_eq_false_iff_not];first|omega|simp;omega
            rwa [this,Bool.false_or]at h0)
           clear hh k1 k2
           go_wp2_with fail
           go_roundw
           case rel=>exact⟨i+1,by omega,by go_num,HN,Lib.hid (by first|trivial|rfl)⟩
           case measure=>simp[intOf];omega
         ·have q1:decide (h<0)=false:=decide_eq_false (by omega)
          by_cases k2:h<1
          ·have q2:decide (h<1)=true:=decide_eq_true (by omega)
           have HN:=Lib.hid (show stepB ⟨false,id,c,hs⟩=false from by
            rw[HST.out,←HK.out,dropAt hh,List.any_cons]
            have:badH false h=true:=by unfold badH;simp only[Bool.or_eq_true,Bool.and_eq_true,decide_eq_true_eq];first|omega|simp;omega
            rw[this];rfl)
           clear hh k1 k2
           go_wp2_with fail
           go_ret
           exact⟨congrArg (fun b=>Ending.returned (.bool b)) HN.out.symm,HB1.out⟩
          ·have q2:decide (h<1)=false:=decide_eq_false (by omega)
           by_cases k3:1073741824<h
           ·have q3:decide (1073741824<h)=true:=decide_eq_true (by omega)
            have HN:=Lib.hid (show stepB ⟨false,id,c,hs⟩=false from by
             rw[HST.out,←HK.out,dropAt hh,List.any_cons]
             have:badH false h=true:=by unfold badH;simp only[Bool.or_eq_true,Bool.and_eq_true,decide_eq_true_eq];first|omega|simp;omega
             rw[this];rfl)
            clear hh k1 k2 k3
            go_wp2_with fail
            go_ret
            exact⟨congrArg (fun b=>Ending.returned (.bool b)) HN.out.symm,HB1.out⟩
           ·have q3:decide (1073741824<h)=false:=decide_eq_false (by omega)
            have HN:=Lib.hid (show(hs.drop (i+1)).any (badH false)=B from by
             have h0:=HK.out
             rw[dropAt hh,List.any_cons]at h0
             have:badH false h=false:=by unfold badH;simp only[Bool.or_eq_false_iff,Bool.and_eq_false_iff,decide_eq_false_iff_not];first|omega|simp;omega
             rwa [this,Bool.false_or]at h0)
            clear hh k1 k2 k3
            go_wp2_with fail
            go_roundw
            case rel=>exact⟨i+1,by omega,by go_num,HN,Lib.hid (by first|trivial|rfl)⟩
            case measure=>simp[intOf];omega
        ·have HN:=Lib.hid (show stepB ⟨false,id,c,hs⟩=true from by
          rw[HST.out,←HK.out,List.drop_of_length_le (by omega)];rfl)
         go_wp2_with fail
         go_ret
         exact⟨congrArg (fun b=>Ending.returned (.bool b)) HN.out.symm,HB1.out⟩
 | true=>
  go_enter Tryz.func63,Tryz.ntmps63
  go_upto_region 1 with fail
  clear hW1
  by_cases j1:id<0
  ·have p1:decide (id<0)=true:=decide_eq_true (by omega)
   have HN:=Lib.hid (show stepB ⟨true,id,c,hs⟩=false from by
    unfold stepB;simp[j1])
   clear j1
   go_wp2_with fail
   go_ret
   exact⟨congrArg (fun b=>Ending.returned (.bool b)) HN.out.symm,HB1.out⟩
  ·have p1:decide (id<0)=false:=decide_eq_false (by omega)
   by_cases j2:1073741824<id
   ·have p2:decide (1073741824<id)=true:=decide_eq_true (by omega)
    have HN:=Lib.hid (show stepB ⟨true,id,c,hs⟩=false from by
     unfold stepB;simp[j2])
    clear j1 j2
    go_wp2_with fail
    go_ret
    exact⟨congrArg (fun b=>Ending.returned (.bool b)) HN.out.symm,HB1.out⟩
   ·have p2:decide (1073741824<id)=false:=decide_eq_false (by omega)
    cases hcb:clauseB c with
    | false=>
     have HRC2:=Lib.hid (show∀W,Below W1.heap.size W1 W→_ from fun W hW=>HRC.out W hW)
     rw[hcb]at HRC2
     have HN:=Lib.hid (show stepB ⟨true,id,c,hs⟩=false from by unfold stepB;simp[hcb])
     clear hcb
     go_upto_region 1 with fail
     go_cut [22] (fun v wx=>v= .bool false∧W1=wx)
     by_cases j3:id=0
     ·have p3:(id==0)=true:=beq_iff_eq.2 j3
      clear j3
      go_wp2_with fail
      go_meet
      exact⟨rfl,rfl⟩
     ·have p3:(id==0)=false:=beq_eq_false_iff_ne.2 j3
      clear j3
      go_wp2_with fail
      go_meet
      exact⟨rfl,rfl⟩
     case rest=>
      obtain⟨rfl,rfl⟩:=hcut
      go_wp2_with fail
      refine(HRC2.out W1 (Below.refl _ _)).mono ?_
      rintro e w1 ⟨rfl,rfl⟩
      go_wp2_with fail
      go_ret
      exact⟨congrArg (fun b=>Ending.returned (.bool b)) HN.out.symm,HB1.out⟩
    | true=>
     have HRC2:=Lib.hid (show∀W,Below W1.heap.size W1 W→_ from fun W hW=>HRC.out W hW)
     rw[hcb]at HRC2
     go_upto_region 1 with fail
     go_cut [22] (fun v wx=>v= .bool false∧W1=wx)
     by_cases j3:id=0
     ·have p3:(id==0)=true:=beq_iff_eq.2 j3
      clear j3
      go_wp2_with fail
      go_meet
      exact⟨rfl,rfl⟩
     ·have p3:(id==0)=false:=beq_eq_false_iff_ne.2 j3
      clear j3
      go_wp2_with fail
      go_meet
      exact⟨rfl,rfl⟩
     case rest=>
      obtain⟨rfl,rfl⟩:=hcut
      by_cases j5:0<c.length
      ·have p6:decide ((0:Int)<(c.length:Int))=true:=decide_eq_true (by omega)
       have p7:decide (0<c.length)=true:=decide_eq_true j5
       have HN:=Lib.hid (show stepB ⟨true,id,c,hs⟩=false from by unfold stepB;simp[j5])
       clear hcb
       go_wp2_with fail
       refine(HRC2.out W1 (Below.refl _ _)).mono ?_
       rintro e w1 ⟨rfl,rfl⟩
       go_wp2_with fail
       go_ret
       exact⟨congrArg (fun b=>Ending.returned (.bool b)) HN.out.symm,HB1.out⟩
      ·have p6:decide ((0:Int)<(c.length:Int))=false:=decide_eq_false (by omega)
       have p7:decide (0<c.length)=false:=decide_eq_false j5
       by_cases j4:65536<hs.length
       ·have p4:decide ((65536:Int)<(hs.length:Int))=true:=decide_eq_true (by omega)
        have p5:decide (65536<hs.length)=true:=decide_eq_true j4
        have HN:=Lib.hid (show stepB ⟨true,id,c,hs⟩=false from by unfold stepB;simp[show¬hs.length≤65536 by omega])
        clear hcb
        go_wp2_with fail
        refine(HRC2.out W1 (Below.refl _ _)).mono ?_
        rintro e w1 ⟨rfl,rfl⟩
        go_wp2_with fail
        go_ret
        exact⟨congrArg (fun b=>Ending.returned (.bool b)) HN.out.symm,HB1.out⟩
       ·have p4:decide ((65536:Int)<(hs.length:Int))=false:=decide_eq_false (by omega)
        have p5:decide (65536<hs.length)=false:=decide_eq_false j4
        obtain⟨B,hB⟩: ∃B,hs.any (badH true)=B:=⟨_,rfl⟩
        have HST:=Lib.hid (show stepB ⟨true,id,c,hs⟩= !B from by rw[←hB];exact stepB_ok (by omega) (by omega) (fun h=>by first|exact j3|cases h) (fun h=>by first|omega|cases h) hcb (by omega) rfl)
        have HB0:=Lib.hid hB
        clear hB hcb
        go_wp2_with fail
        refine(HRC2.out W1 (Below.refl _ _)).mono ?_
        rintro e w1 ⟨rfl,rfl⟩
        go_wp2_with fail
        go_loopw [3] (fun iv wr=> ∃i:Nat,i≤hs.length∧iv= .int .i64 i∧Hid ((hs.drop i).any (badH true)=B)∧Hid (W1=wr)) (fun iv _=>hs.length-(intOf iv).toNat)
        case atStart=>exact⟨0,Nat.zero_le _,rfl,Lib.hid HB0.out,Lib.hid rfl⟩
        case round=>
         obtain⟨i,hi,rfl,HK,HWR⟩:=hrel
         obtain rfl:=HWR.out
         by_cases hlt:i<hs.length
         ·obtain⟨h,hh⟩:=atOf hlt
          obtain⟨hr1,hr2⟩:=HRG.out h (List.mem_of_getElem? hh)
          obtain⟨A2,c2,hA2,_,_,hx⟩:=HH1.out
          simp only[Value.slice.injEq,true_and]at hA2
          obtain⟨rfl,rfl⟩:=hA2
          obtain⟨g,o,rfl,hg,_,d0⟩:=hx i h hh
          have wi:IntKind.i64.wrap (i:Int)=(i:Int):=IntWalk.i64_in _ (by omega)
          have li:(i:Int)<(hs.length:Int):=by omega
          clear hx
          by_cases k1:h<0
          ·have q1:decide (h<0)=true:=decide_eq_true (by omega)
           have q2:decide (h<1)=true:=decide_eq_true (by omega)
           have HN:=Lib.hid (show stepB ⟨true,id,c,hs⟩=false from by
            rw[HST.out,←HK.out,dropAt hh,List.any_cons]
            have:badH true h=true:=by unfold badH;simp only[Bool.or_eq_true,Bool.and_eq_true,decide_eq_true_eq];first|omega|simp;omega
            rw[this];rfl)
           clear hh k1
           go_wp2_with fail
           go_ret
           exact⟨congrArg (fun b=>Ending.returned (.bool b)) HN.out.symm,HB1.out⟩
          ·have q1:decide (h<0)=false:=decide_eq_false (by omega)
           by_cases k2:h<1
           ·have q2:decide (h<1)=true:=decide_eq_true (by omega)
            have HN:=Lib.hid (show stepB ⟨true,id,c,hs⟩=false from by
             rw[HST.out,←HK.out,dropAt hh,List.any_cons]
             have:badH true h=true:=by unfold badH;simp only[Bool.or_eq_true,Bool.and_eq_true,decide_eq_true_eq];first|omega|simp;omega
             rw[this];rfl)
            clear hh k1 k2
            go_wp2_with fail
            go_ret
            exact⟨congrArg (fun b=>Ending.returned (.bool b)) HN.out.symm,HB1.out⟩
           ·have q2:decide (h<1)=false:=decide_eq_false (by omega)
            by_cases k3:1073741824<h
            ·have q3:decide (1073741824<h)=true:=decide_eq_true (by omega)
             have HN:=Lib.hid (show stepB ⟨true,id,c,hs⟩=false from by
              rw[HST.out,←HK.out,dropAt hh,List.any_cons]
              have:badH true h=true:=by unfold badH;simp only[Bool.or_eq_true,Bool.and_eq_true,decide_eq_true_eq];first|omega|simp;omega
              rw[this];rfl)
             clear hh k1 k2 k3
             go_wp2_with fail
             go_ret
             exact⟨congrArg (fun b=>Ending.returned (.bool b)) HN.out.symm,HB1.out⟩
            ·have q3:decide (1073741824<h)=false:=decide_eq_false (by omega)
             have HN:=Lib.hid (show(hs.drop (i+1)).any (badH true)=B from by
              have h0:=HK.out
              rw[dropAt hh,List.any_cons]at h0
              have:badH true h=false:=by unfold badH;simp only[Bool.or_eq_false_iff,Bool.and_eq_false_iff,decide_eq_false_iff_not];first|omega|simp;omega
              rwa [this,Bool.false_or]at h0)
             clear hh k1 k2 k3
             go_wp2_with fail
             go_roundw
             case rel=>exact⟨i+1,by omega,by go_num,HN,Lib.hid (by first|trivial|rfl)⟩
             case measure=>simp[intOf];omega
         ·have HN:=Lib.hid (show stepB ⟨true,id,c,hs⟩=true from by
           rw[HST.out,←HK.out,List.drop_of_length_le (by omega)];rfl)
          go_wp2_with fail
          go_ret
          exact⟨congrArg (fun b=>Ending.returned (.bool b)) HN.out.symm,HB1.out⟩
end Go.Proofs.YtajbmjpodeilpaaGreatDoor
namespace Go.Proofs.YtajbmjpodeilpaaGreatDoor
open Go.RowKit Go.Shelf
attribute [local go_sem] Oper.semAt_some
section
variable {P:Program} {F:Fence} {n:Nat}
theorem takeI {md:Region.Mode} {ops:Array Oper} {Q:Exit→Act→World→Prop} (i d:Nat) {oi:Oper} {v:Value} {fuel:Nat} {listed:Array Bool} {a a':Act} {w:World}
  (h:wpAnyIn F n P md ops Q fuel (listed.setIfInBounds i true) a' w) (hro:F.round=none:=by rfl)
  (hi:ops[i]? =some oi:=by rfl) (hd:oi.dst=some d:=by rfl) (hs:Region.noSelect ops=true:=by kernel_rfl) (hf:Region.free md ops listed i=true:=by kernel_rfl) (hr:(Region.ready md ops listed).contains i=true:=by kernel_rfl)
  (hQ: ∀c (a:Act) w,Q (.panic c) (a.put oi.dst v) w→Q (.panic c) a w:=by exact fun _ _ _ h=>h) (hw:Region.wanted oi (yielded ops a.tmps)=true:=by rfl)
  (hy: ∀w,(execOp a.eval oi).run P w= .ok (.value v) w:=by(intro wq;go_simp;try with_reducible rfl)) (hab: ∀w,oi.about P w a.eval=none:=by(intro wq;rfl))
  (ha:a.put (some d) v=a':=by(conv=>lhs;simp only[Act.put,List.setIfInBounds_toArray,List.set_cons_zero,List.set_cons_succ])):wpAnyIn F n P md ops Q (fuel+1) listed a w:=
 wpAnyIn_take hro hi hs hf hr hQ ⟨.inl ⟨hw,hy⟩,hab⟩ (by rw[hd,ha];exact h)
theorem takeJ {md:Region.Mode} {ops:Array Oper} {Q:Exit→Act→World→Prop} (i d:Nat) {oi:Oper} {fuel:Nat} {listed:Array Bool} {a a':Act} {w:World}
  (h:wpAnyIn F n P md ops Q fuel (listed.setIfInBounds i true) a' w) (hro:F.round=none:=by rfl)
  (hi:ops[i]? =some oi:=by rfl) (hd:oi.dst=some d:=by rfl) (hs:Region.noSelect ops=true:=by kernel_rfl) (hf:Region.free md ops listed i=true:=by kernel_rfl) (hr:(Region.ready md ops listed).contains i=true:=by kernel_rfl)
  (hQ: ∀c (a:Act) w,Q (.panic c) (a.put oi.dst undef) w→Q (.panic c) a w:=by exact fun _ _ _ h=>h) (hw:Region.wanted oi (yielded ops a.tmps)=false:=by rfl)
  (hab: ∀w,oi.about P w a.eval=none:=by(intro wq;rfl))
  (ha:a.put (some d) undef=a':=by(conv=>lhs;simp only[Act.put,List.setIfInBounds_toArray,List.set_cons_zero,List.set_cons_succ])):wpAnyIn F n P md ops Q (fuel+1) listed a w:=
 wpAnyIn_take hro hi hs hf hr hQ ⟨.inr ⟨hw,rfl⟩,hab⟩ (by rw[hd,ha];exact h)
theorem readyI {md:Region.Mode} {ops:Array Oper} {Q:Exit→Act→World→Prop} (i:Nat) {o:Oper} {fuel:Nat} {listed:Array Bool} {a:Act} {w:World}
  (h: ∀K':Act→World→Prop,Shut (∀a w,wpAnyIn F n P md ops Q fuel (listed.setIfInBounds i true) a w→K' a w)→Oper.wpIn F n P o a w K' Q)
  (ho:ops[i]? =some o:=by rfl) (hr:Region.ready md ops listed= [i]:=by kernel_rfl) (hw:Region.wanted o (yielded ops a.tmps)=true:=by rfl):wpAnyIn F n P md ops Q (fuel+1) listed a w:=
 wpAnyIn_ready hr (by simp) (AllReadyIn.cons ho (fun K' hK=>by rw[if_pos hw];exact h K' hK) AllReadyIn.nil)
theorem readyU {md:Region.Mode} {ops:Array Oper} {Q:Exit→Act→World→Prop} (i d:Nat) {o:Oper} {fuel:Nat} {listed:Array Bool} {a a':Act} {w:World}
  (h:wpAnyIn F n P md ops Q fuel (listed.setIfInBounds i true) a' w) (hF: ∀f,F.fn f:=by exact fun _=>trivial)
  (ho:ops[i]? =some o:=by rfl) (hd:o.dst=some d:=by rfl) (hr:Region.ready md ops listed= [i]:=by kernel_rfl) (hw:Region.wanted o (yielded ops a.tmps)=false:=by rfl)
  (ha:a.put (some d) undef=a':=by(conv=>lhs;simp only[Act.put,List.setIfInBounds_toArray,List.set_cons_zero,List.set_cons_succ])):wpAnyIn F n P md ops Q (fuel+1) listed a w:=
 wpAnyIn_ready hr (by simp) (AllReadyIn.cons ho (fun K' hK=>by rw[if_neg (by rw[hw];decide),hd,ha];exact⟨fun f _=>hF f,hK _ _ h⟩) AllReadyIn.nil)
theorem readyI2 {md:Region.Mode} {ops:Array Oper} {Q:Exit→Act→World→Prop} (i j:Nat) {o p:Oper} {fuel:Nat} {listed:Array Bool} {a:Act} {w:World}
  (h: ∀K':Act→World→Prop,Shut (∀a w,wpAnyIn F n P md ops Q fuel (listed.setIfInBounds i true) a w→K' a w)→Oper.wpIn F n P o a w K' Q)
  (h2: ∀K':Act→World→Prop,Shut (∀a w,wpAnyIn F n P md ops Q fuel (listed.setIfInBounds j true) a w→K' a w)→Oper.wpIn F n P p a w K' Q)
  (ho:ops[i]? =some o:=by rfl) (hp:ops[j]? =some p:=by rfl) (hr:Region.ready md ops listed= [i,j]:=by kernel_rfl) (hw:Region.wanted o (yielded ops a.tmps)=true:=by rfl) (hw2:Region.wanted p (yielded ops a.tmps)=true:=by rfl):wpAnyIn F n P md ops Q (fuel+1) listed a w:=
 wpAnyIn_ready hr (by simp) (AllReadyIn.cons ho (fun K' hK=>by rw[if_pos hw];exact h K' hK) (AllReadyIn.cons hp (fun K' hK=>by rw[if_pos hw2];exact h2 K' hK) AllReadyIn.nil))
end
theorem via {T R:Prop} (f:T→R) (t:T):R:=f t
theorem EntIn.narrow {O:Nat→Prop} {w:World} {v:Value} {es:Ents} (h:EntIn O w v es):EntIn (fun g=>O g∧¬XO w g) w v es:=by
 obtain⟨A,c,hv,hc,hn,hx⟩:=h
 refine⟨A,c,hv,hc,hn,fun i p hi=>?_⟩
 obtain⟨g,o,u,h1,h2,h3,h4,h5,h6⟩:=hx i p hi
 exact⟨g,o,u,h1,h2,⟨h3,xo_cell h4⟩,h4,h5,h6.narrow⟩
def cvv (x:Nat×Int):Array Value:= #[.int .i64 (x.1:Int)]
structure CPre (es:Ents) (_:Nat) (pre:List (Nat×Int)) (x:Nat×Int) (_:World):Prop where
 at_: ∃c,es[x.1]? =some (x.2,c)
 few:pre.length<es.length
theorem want_cons (p:Int) (x:Int×List Int) (es:Ents):ratWant (x::es) p=if candB p x.2=true then x.1::ratWant es p else ratWant es p:=by
 unfold ratWant
 rw[List.filter_cons]
 split <;> rfl
theorem want_len (p:Int) (es:Ents):(ratWant es p).length≤es.length:=by
 unfold ratWant
 rw[List.length_map]
 exact List.length_filter_le _ _
set_option maxRecDepth 100000 in
set_option maxHeartbeats 4000000 in
theorem cand_stops {O:Nat→Prop} (X0:Nat→Prop) (Bl Bp:Nat) (lv:Value) (es:Ents) (p:Int) (w:World) (hBl:w.cell? ⟨Bl,0,none⟩=some lv) (hBp:w.cell? ⟨Bp,0,none⟩=some (.int .i64 p)) (h:EntIn O w lv es) (ho:EntOk es) (hX0: ∀g,X0 g→¬O g∧g≠Bl∧g≠Bp):
  SeqM Tryz.prog 185 #[.pointer (some ⟨Bl,0,none⟩),.pointer (some ⟨Bp,0,none⟩)] cvv (CPre es) (fun _ W W'=>KpC X0 W W') (fun _ _ _=>True) (fun ys=>ys.map Prod.snd=ratWant es p) (fun _=>True) w:=by
 intro l J Jx W hW hJ hJx hY h0
 have hBl':=World.block_lt_of_cell? w _ hBl
 have hBp':=World.block_lt_of_cell? w _ hBp
 have e1:W.cell? ⟨Bl,0,none⟩=some lv:=(hW.cell (p:=⟨Bl,0,none⟩) hBl').trans hBl
 have HBP:=Lib.hid (show W.cell? ⟨Bp,0,none⟩=some (.int .i64 p)from(hW.cell (p:=⟨Bp,0,none⟩) hBp').trans hBp)
 have hzW:=hW.size
 have HE:=Lib.hid (h.below hW).narrow
 have HOK:=Lib.hid ho
 have HJ:=Lib.hid hJ
 have HY:=Lib.hid hY
 have HX0:=Lib.hid hX0
 have H0:=Lib.hid h0
 have hlen:=ho.len
 obtain⟨q,hq⟩: ∃q,litN p=q:=⟨_,rfl⟩
 have HNG:=Lib.hid (fun W=>lit_neg p W)
 rw[hq]at HNG
 have HQ:=Lib.hid hq
 obtain⟨A,c,rfl,hc,_,_⟩:=h
 clear hBl hBp hW hJ hJx hY hX0 h0 ho hq hBl'
 refine callsIn_of_wp Tryz.func185 rfl trivial ?_ rfl
 simp only[Tryz.ntmps185,List.size_toArray,List.length_cons,List.length_nil,Nat.reduceAdd,Nat.reduceSub,Array.replicate_succ,Array.replicate_zero,List.push_toArray,List.append_toArray,List.nil_append,List.cons_append]
 gi_wp2
 clear e1
 gi_loopw [8] (fun i wr=> ∃(k:Nat) (pre:List (Nat×Int)),k≤es.length∧i= .int .i64 k∧Hid (pre.length≤k)∧Hid (pre.map Prod.snd++ratWant (es.drop k) p=ratWant es p)∧Hid (KpC X0 W wr)∧Hid (J pre wr)) (fun i _=>es.length-(intOf i).toNat)
 case atStart=>exact⟨0,[],Nat.zero_le _,rfl,Lib.hid (Nat.le_refl _),Lib.hid rfl,Lib.hid (KpC.refl _ _),H0⟩
 case round=>
  obtain⟨k,pre,hk,rfl,HPL,HP,HK,HJS⟩:=hrel
  by_cases hlt:k<es.length
  ·obtain⟨x,hxk⟩:=getElem_of hlt
   have hin:=HE.out.kept HK.out.kept (fun g hg ho=>ho.elim (fun h=>(HX0.out g h).1 hg.1) hg.2)
   obtain⟨A',c',hAc,_,_,hxs⟩:=hin
   simp only[Value.slice.injEq,true_and]at hAc
   obtain⟨rfl,rfl⟩:=hAc
   obtain⟨g,o,u,rfl,hg,_,d0,d1,hu⟩:=hxs k x hxk
   have ep:wr.cell? ⟨Bp,0,none⟩=some (.int .i64 p):=(HK.out.kept.cell (p:=⟨Bp,0,none⟩) (Nat.lt_of_lt_of_le hBp' hzW) (fun h=>h.elim (fun h=>(HX0.out _ h).2.2 rfl) (xo_cell HBP.out))).trans HBP.out
   have hxm:=List.mem_of_getElem? hxk
   have hxl:=clause_len (HOK.out.cls x hxm)
   have HXK:=Lib.hid hxk
   have HDK:=Lib.hid (show es.drop k=x::es.drop (k+1)from by
    rw[List.drop_eq_getElem_cons hlt]
    rw[List.getElem?_eq_getElem hlt]at hxk
    rw[Option.some.inj hxk])
   have HP2:=Lib.hid (show pre.map Prod.snd++(if candB p x.2=true then x.1::ratWant (es.drop (k+1)) p else ratWant (es.drop (k+1)) p)=ratWant es p from by
    rw[←want_cons,←HDK.out]
    exact HP.out)
   obtain⟨id,d⟩:=x
   simp only at d0 d1 hu hxl HP2
   obtain⟨W1,W2,W3,hW1,hW2,hW3,f0,f1,f2,y0,y1,y2,hbx,hb3⟩:=two_new wr (.int .i64 0) (.slice none 0 0) (.int .i64 id) u 86
   have hb3D:=hb3.trans ((mx_drew W3).mono hb3.size)
   obtain⟨wD,hwD⟩: ∃z,W3.drew=z:=⟨_,rfl⟩
   rw[hwD]at hb3D
   have hbxD:wD.heap[wr.heap.size]? =some (.cells #[.int .i64 id,u] 86 (0,0)):=by rw[←hwD];exact hbx
   have z1:=mx_cell (j:=1) hbxD
   have epD:wD.cell? ⟨Bp,0,none⟩=some (.int .i64 p):=(hb3D.cell (p:=⟨Bp,0,none⟩) (World.block_lt_of_cell? wr _ ep)).trans ep
   have HCT:=Lib.hid (contains_c u d q wD (hu.below hb3D) (by omega))
   have HAL:=Lib.hid (always_any u d wD (hu.below hb3D) (by omega))
   have HKD:=Lib.hid (HK.out.trans (KpC.of_below (X:=X0) hb3D))
   have HJD:=Lib.hid (own_from_below' HJ.out HJS.out hb3D)
   obtain⟨Au,cu,rfl,_⟩:=hu
   clear hxk hxs hxm hbx hbxD hb3D
   gi_wp2_with fail
   clear hW1 hW2 hb3 d0 d1 f0 f1 f2 y0 y1 y2 ep
   refine wpIn_region_any (by kernel_rfl) ?_
   change wpAnyIn _ _ _ _ _ _ _ _ _ (World.drew _)
   rw[hwD]
   clear hW3 hwD W1 W2 W3
   apply via
   ·intro TAIL
    refine takeI 0 13 ?_
    refine readyI2 1 2 (fun K hK=>?_) (fun K hK=>?_)
    ·go_simp
     refine hK.out _ _ ?_
     refine readyI 2 (fun K hK=>?_)
     go_simp
     refine hK.out _ _ ?_
     refine readyI 3 (fun K hK=>?_)
     go_simp
     refine⟨trivial,?_⟩
     refine(callsIn_wide.2 (HNG.out _)).mono ?_
     rintro e w' ⟨rfl,rfl⟩
     refine hK.out _ _ ?_
     exact TAIL
    ·go_simp
     refine hK.out _ _ ?_
     refine readyI2 1 3 (fun K hK=>?_) (fun K hK=>?_)
     ·go_simp
      refine hK.out _ _ ?_
      refine readyI 3 (fun K hK=>?_)
      go_simp
      refine⟨trivial,?_⟩
      refine(callsIn_wide.2 (HNG.out _)).mono ?_
      rintro e w' ⟨rfl,rfl⟩
      refine hK.out _ _ ?_
      exact TAIL
     ·go_simp
      refine⟨trivial,?_⟩
      refine(callsIn_wide.2 (HNG.out _)).mono ?_
      rintro e w' ⟨rfl,rfl⟩
      refine hK.out _ _ ?_
      refine readyI 1 (fun K hK=>?_)
      go_simp
      refine hK.out _ _ ?_
      exact TAIL
   ·refine readyI 4 (fun K hK=>?_)
    go_simp
    refine⟨trivial,?_⟩
    refine(callsIn_wide.2 HCT.out).mono ?_
    rintro e w' ⟨rfl,rfl⟩
    refine hK.out _ _ ?_
    clear hK
    have hcd:candB p d=(d.contains q&& !alwL d):=by unfold candB;rw[HQ.out]
    rw[hcd]at HP2
    obtain⟨ct,hct⟩: ∃b,d.contains q=b:=⟨_,rfl⟩
    obtain⟨al,hal⟩: ∃b,alwL d=b:=⟨_,rfl⟩
    rw[hal]at HAL HP2
    rw[hct]at HP2⊢
    clear hcd hct hal HCT
    cases ct with
    | false=>
     have HP3:=Lib.hid (show pre.map Prod.snd++ratWant (es.drop (k+1)) p=ratWant es p from HP2.out)
     clear HP2
     refine takeI 5 18 ?_
     refine takeJ 6 19 ?_
     refine takeJ 7 20 ?_
     refine readyU 8 21 ?_
     refine takeJ 9 22 ?_
     refine takeI 10 23 ?_
     refine takeI 11 24 ?_
     refine takeJ 12 25 ?_
     refine takeJ 13 26 ?_
     refine readyU 14 27 ?_
     refine takeJ 15 28 ?_
     refine takeI 16 29 ?_
     refine wpAnyIn_done (by kernel_rfl) ?_ _
     gi_wp2_with fail
     go_roundw
     case rel=>exact⟨k+1,pre,by omega,by go_num,Lib.hid (by have:=HPL.out;omega),HP3,HKD,HJD⟩
     case measure=>simp[intOf];omega
    | true=>
     refine takeI 5 18 ?_
     refine takeI 6 19 ?_
     refine readyI 7 (fun K hK=>?_)
     go_simp
     refine hK.out _ _ ?_
     clear hK
     refine readyI 8 (fun K hK=>?_)
     go_simp
     refine⟨trivial,?_⟩
     refine(callsIn_wide.2 HAL.out).mono ?_
     rintro e wA ⟨rfl,hbA⟩
     refine hK.out _ _ ?_
     have HKA:=Lib.hid (HKD.out.trans (KpC.of_below (X:=X0) hbA))
     have HJA:=Lib.hid (own_from_below' HJ.out HJD.out hbA)
     clear hK hbA HAL
     cases al with
     | true=>
      have HP3:=Lib.hid (show pre.map Prod.snd++ratWant (es.drop (k+1)) p=ratWant es p from HP2.out)
      clear HP2
      refine takeI 9 22 ?_
      refine takeI 10 23 ?_
      refine takeI 11 24 ?_
      refine takeJ 12 25 ?_
      refine takeJ 13 26 ?_
      refine readyU 14 27 ?_
      refine takeJ 15 28 ?_
      refine takeI 16 29 ?_
      refine wpAnyIn_done (by kernel_rfl) ?_ _
      gi_wp2_with fail
      go_roundw
      case rel=>exact⟨k+1,pre,by omega,by go_num,Lib.hid (by have:=HPL.out;omega),HP3,HKA,HJA⟩
      case measure=>simp[intOf];omega
     | false=>
      have HP3:=Lib.hid (show(pre++ [(k,id)]).map Prod.snd++ratWant (es.drop (k+1)) p=ratWant es p from by
       rw[←HP2.out,List.map_append,List.append_assoc]
       rfl)
      clear HP2
      refine takeI 9 22 ?_
      refine takeI 10 23 ?_
      refine takeI 11 24 ?_
      refine takeI 12 25 ?_
      refine takeI 13 26 ?_
      obtain⟨fn,tmps,assign,body,hy,hR⟩:=yield_any 8 (HY.out pre (k,id) wA HJA.out ⟨⟨d,HXK.out⟩,by have:=HPL.out;omega⟩)
      dsimp only[cvv]at hy
      have HRR:=Lib.hid hR
      clear hR
      refine readyI 14 (fun K hK=>?_)
      go_simp
      refine HRR.out.mono ?_
      rintro e W5 (⟨rfl,hJ5,hk5⟩|⟨rfl,hJx5,_⟩)
      ·refine hK.out _ _ ?_
       have HJ5:=Lib.hid hJ5
       have HK5:=Lib.hid (HKA.out.trans hk5)
       clear hK hJ5 hk5 hy
       refine takeI 15 28 ?_
       refine takeI 16 29 ?_
       refine wpAnyIn_done (by kernel_rfl) ?_ _
       gi_wp2_with fail
       go_roundw
       case rel=>exact⟨k+1,pre++ [(k,id)],by omega,by go_num,Lib.hid (by have:=HPL.out;simp;omega),HP3,HK5,HJ5⟩
       case measure=>simp[intOf];omega
      ·refine hK.out _ _ ?_
       clear hK hy
       refine takeI 15 28 ?_
       refine takeI 16 29 ?_
       refine wpAnyIn_done (by kernel_rfl) ?_ _
       gi_wp2
       refine bodyPost_ret (results_none rfl _ _ _) rfl ?_
       exact⟨⟨_,rfl⟩,.inr ⟨_,trivial,hJx5⟩⟩
  ·obtain rfl:k=es.length:=by omega
   gi_wp2
   go_end0
   refine⟨⟨_,rfl⟩,.inl ⟨pre,?_,HJS.out⟩⟩
   have:=HP.out
   rw[List.drop_length]at this
   have e:ratWant [] p= []:=rfl
   rwa [e,List.append_nil]at this
end Go.Proofs.YtajbmjpodeilpaaGreatDoor
namespace Go.Proofs.YtajbmjpodeilpaaGreatDoor
open Go.RowKit Go.Shelf
theorem row_find {base:Nat} (v:Value) (r:List Int) (x:Int) (w:World) (h:w.ownsRow base 3 1 v r.length (r.map (Value.int .i64))) (hr:r.Pairwise (· < ·)) (hl:r.length≤1073741824):
  Calls Tryz.prog 157 #[v,.int .i64 x] w fun e w'=>e= .returned (.tuple #[.int .i64 (r.countP (· <x):Nat),.bool (r.contains x)])∧Below w.heap.size w w':=by
 rcases h.2 with⟨rfl,h0⟩|⟨g,cap,cur,rfl,hb,hg,h1,h2,h3,h4⟩
 ·obtain rfl:r= []:=List.eq_nil_of_length_eq_zero h0
  refine(Tryz.slices_BinarySearch_int_empty none 0 x w).mono ?_
  rintro e w' ⟨rfl,rfl⟩
  exact⟨rfl,Below.refl _ _⟩
 ·refine(Tryz.slices_BinarySearch_int g 0 r.length cap r x w (Nat.le_refl _) (by omega) (fun j hj=>?_) ?_).mono ?_
  ·rw[Nat.zero_add]
   refine mx_at h ?_
   rw[List.getElem?_map,List.getElem?_eq_getElem hj]
   simp[List.getD_eq_getElem?_getD,List.getElem?_eq_getElem hj]
  ·rw[List.take_length]
   exact hr.imp (fun h=>Int.le_of_lt h)
  ·rintro e w' ⟨rfl,q,rfl⟩
   rw[List.take_length]
   exact⟨rfl,mx_drewN w q⟩
theorem GrpMem.ents {n0:Nat} {w:World} {v:Value} {K:List GrpV} (h:GrpMem n0 w v K):EntIn (fun _=>True) w v (K.map Prod.fst):=by
 have hrow:=h.row
 rcases hrow.2 with⟨rfl,h0⟩|⟨g,cap,cur,rfl,_,hg,hle,_⟩
 ·exact⟨none,0,by rw[List.length_map,h0],by rw[List.length_map,h0];exact Nat.le_refl _,fun _=>rfl,fun i p hi=>by
   have:=(List.getElem?_eq_some_iff.1 hi).1
   rw[List.length_map]at this
   omega⟩
 ·refine⟨_,cap,by rw[List.length_map],by rw[List.length_map];exact hle,(fun h=>by cases h),fun i p hi=>?_⟩
  rw[List.getElem?_map]at hi
  cases hx:K[i]? with
  | none=>rw[hx]at hi;cases hi
  | some x=>
   rw[hx]at hi
   obtain rfl:=Option.some.inj hi
   obtain⟨e0,e1⟩:=gcell_at K i x hx
   exact⟨g,0,x.2,rfl,heap_lt hg,trivial,by rw[Nat.zero_add];exact mx_at hrow e0,by rw[Nat.zero_add];exact mx_at hrow e1,(IntsIn.of_own (h.sub x (List.mem_of_getElem? hx))).mono fun _ _=>trivial⟩
set_option maxRecDepth 100000 in
set_option maxHeartbeats 1000000 in
theorem index_gf {O:Nat→Prop} (Bi:Nat) (id:Int) (u:Value) (gs:List (Int×List Int)) (w:World) (hB:w.cell? ⟨Bi,0,none⟩=some (.int .i64 id)) (h1:EntIn O w u gs) (hs:gs.length≤1000000):
  Calls Tryz.prog 187 #[u,.func (.func 156) #[] #[.pointer (some ⟨Bi,0,none⟩)]] w fun e w'=>(∃i:Int,e= .returned (.int .i64 i)∧FstI (gs.map Prod.fst) (fun x=>x==id) i)∧Below w.heap.size w w':=by
 have hBl:=World.block_lt_of_cell? w _ hB
 have HBI:=Lib.hid hB
 have HX:=Lib.hid h1
 have heg: ∀args w,(callFunc 156 args).run Tryz.prog w= .ok (.enter 156 args) w:=enters_of Tryz.func156 (by kernel_rfl) rfl
 obtain⟨A,c,rfl,hc,_,_⟩:=h1
 clear hB
 go_enter Tryz.func187,Tryz.ntmps187
 go_wp2
 go_loopw [8] (fun i wr=> ∃k:Nat,k≤gs.length∧i= .int .i64 k∧Hid (∀j x,j<k→(gs.map Prod.fst)[j]? =some x→(x==id)=false)∧Hid (Below w.heap.size w wr)) (fun i _=>gs.length-(intOf i).toNat)
 case atStart=>exact⟨0,Nat.zero_le _,rfl,Lib.hid (fun j x hj=>by omega),Lib.hid (Below.refl _ _)⟩
 case round=>
  obtain⟨k,hk,rfl,HE,HW⟩:=hrel
  by_cases hlt:k<gs.length
  ·obtain⟨x,hxk⟩:=getElem_of hlt
   obtain⟨A',c',hAc,_,_,hxs⟩:=HX.out.below HW.out
   simp only[Value.slice.injEq,true_and]at hAc
   obtain⟨rfl,rfl⟩:=hAc
   obtain⟨g,o,v,rfl,hg,_,d0,d1,_⟩:=hxs k x hxk
   have HXK:=Lib.hid (show(gs.map Prod.fst)[k]? =some x.1 from by rw[List.getElem?_map,hxk];rfl)
   obtain⟨y,hy⟩: ∃y,x.1=y:=⟨_,rfl⟩
   rw[hy]at d0 HXK
   have HC:=Lib.hid (show∀W,Below w.heap.size w W→Calls Tryz.prog 156 #[.agg #[.int .i64 y,v],.pointer (some ⟨Bi,0,none⟩)] W fun e w'=>e= .returned (.bool (y==id))∧Below W.heap.size W w' from fun W hW=>by
    obtain⟨W1,hW1⟩: ∃z,W.alloc (.cells #[.int .i64 y,v] 172)=z:=⟨_,rfl⟩
    have hb1:Below W.heap.size W W1:=by rw[←hW1];exact mx_al _ _
    have hn1:W1.heap[W.heap.size]? =some (.cells #[.int .i64 y,v] 172 (0,0)):=by rw[←hW1];exact World.alloc_heap_new _ _
    have b0:W1.cell? ⟨W.heap.size,0,none⟩=some (.int .i64 y):=mx_cell (j:=0) hn1
    have b1:W1.cell? ⟨Bi,0,none⟩=some (.int .i64 id):=(hb1.cell (p:=⟨Bi,0,none⟩) (Nat.lt_of_lt_of_le hBl hW.size)).trans ((hW.cell (p:=⟨Bi,0,none⟩) hBl).trans HBI.out)
    have HB1:=Lib.hid hb1
    clear hb1 hn1 hW
    go_enter Tryz.func156,Tryz.ntmps156
    go_wp2_with fail
    go_ret
    exact⟨rfl,HB1.out⟩)
   obtain⟨b,hb⟩: ∃b,(y==id)=b:=⟨_,rfl⟩
   rw[hb]at HC
   have HB:=Lib.hid hb
   clear hxk hxs hb hy
   go_wp2_with fail
   refine(HC.out wr HW.out).mono ?_
   rintro e w' ⟨rfl,hbw⟩
   have HB2:=Lib.hid (HW.out.trans (hbw.mono HW.out.size))
   clear hbw d0 d1
   cases b with
   | true=>
    go_wp2_with fail
    go_ret
    exact⟨⟨_,rfl,.inr ⟨k,rfl,by rw[List.length_map];exact hlt,HE.out,y,HXK.out,HB.out⟩⟩,HB2.out⟩
   | false=>
    go_wp2_with fail
    go_roundw
    case rel=>exact⟨k+1,by omega,by go_num,Lib.hid (FstI.step HE.out HXK.out HB.out),HB2⟩
    case measure=>simp[intOf];omega
  ·obtain rfl:k=gs.length:=by omega
   go_wp2
   go_ret
   exact⟨⟨_,rfl,FstI.none (by rw[List.length_map];exact HE.out)⟩,HW.out⟩
set_option maxHeartbeats 400000 in
theorem contains_gf {O:Nat→Prop} (Bi:Nat) (id:Int) (u:Value) (gs:List (Int×List Int)) (w:World) (hB:w.cell? ⟨Bi,0,none⟩=some (.int .i64 id)) (h1:EntIn O w u gs) (hs:gs.length≤1000000):
  Calls Tryz.prog 155 #[u,.func (.func 156) #[] #[.pointer (some ⟨Bi,0,none⟩)]] w fun e w'=>e= .returned (.bool ((gs.map Prod.fst).contains id))∧Below w.heap.size w w':=by
 have H0:=index_gf Bi id u gs w hB h1 hs
 obtain⟨z,hz⟩: ∃z,(gs.map Prod.fst).contains id=z:=⟨_,rfl⟩
 rw[hz]
 have HZ:=Lib.hid hz
 have H:=Lib.hid H0
 clear H0 hz hB
 go_enter Tryz.func155,Tryz.ntmps155
 go_wp2_with fail
 refine H.out.mono ?_
 rintro e w' ⟨⟨i,rfl,hi⟩,hb⟩
 have HI:=Lib.hid (show decide (0≤i)=z from by
  rw[hi.any,←HZ.out]
  refine Bool.eq_iff_iff.2 ?_
  rw[List.any_eq_true,List.contains_iff_mem]
  constructor
  ·rintro ⟨y,hy,e⟩
   exact(beq_iff_eq.1 e)▸hy
  ·exact fun h=>⟨id,h,beq_self_eq_true id⟩)
 have HB:=Lib.hid hb
 clear hi hb
 go_wp2_with fail
 go_ret
 exact⟨ret_bool HI.out,HB.out⟩
end Go.Proofs.YtajbmjpodeilpaaGreatDoor
