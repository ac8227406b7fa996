/- Reference of layer 7: Number. Reference of layer 7: list. -/
import Derived.Test.YtajbmjpodeilpaaGreatDoorV205
import Derived.Test.YtajbmjpodeilpaaGreatDoorV201
import Derived.Deep.DeepCutAuto
namespace Go.Proofs.YtajbmjpodeilpaaGreatDoor
open Go.RowKit
def bt (s:ByteArray) (k:Nat):UInt8:=s.data.toList.getD k 0
theorem get_bt (s:ByteArray): ∀(n:Nat) (h:n<s.size),s[n]'h=bt s n:=fun n h=>by
 unfold bt
 rw[List.getD_eq_getElem?_getD,List.getElem?_eq_getElem (by simpa using h)]
 rfl
theorem drop_bt (s:ByteArray) (k:Nat) (h:k<s.size):s.data.toList.drop k=bt s k::s.data.toList.drop (k+1):=by
 rw[List.drop_eq_getElem_cons (by simpa using h)]
 congr 1
 unfold bt
 rw[List.getD_eq_getElem?_getD,List.getElem?_eq_getElem (by simpa using h)]
 rfl
theorem drop_end (s:ByteArray) (k:Nat) (h:s.size≤k):s.data.toList.drop k= []:=by
 apply List.drop_eq_nil_of_le
 simpa using h
theorem rSign_bt (S:ByteArray):rSign S.data.toList=(decide (0<S.size)&&(bt S 0==45)):=by
 unfold rSign
 by_cases h:0<S.size
 ·have:=drop_bt S 0 h
  rw[List.drop_zero]at this
  rw[this,decide_eq_true h,Bool.true_and,List.head?_cons,Bool.eq_iff_iff,decide_eq_true_eq,beq_iff_eq,Option.some.injEq]
 ·have:=drop_end S 0 (by omega)
  rw[List.drop_zero]at this
  rw[this,decide_eq_false h,Bool.false_and]
  rfl
def nF (b:Bool):Nat:=if b=true then 1 else 0
theorem rBody_bt {S:ByteArray} {b:Bool} (h:rSign S.data.toList=b):rBody S.data.toList=S.data.toList.drop (nF b):=by
 unfold rBody nF
 rw[h]
 cases b <;> rfl
def gDig (S:ByteArray) (F j:Nat):Bool:=decide (F+j<S.size)&&(decide (48≤(bt S (F+j)).toNat)&&(decide ((bt S (F+j)).toNat≤57)&&decide (j<11)))
def DigAt (S:ByteArray) (F j m:Nat) (V:Int×Nat):Prop:=(rDig (11-j) (S.data.toList.drop (F+j)) (m:Int)).1=V.1∧(rDig (11-j) (S.data.toList.drop (F+j)) (m:Int)).2+j=V.2
theorem DigAt.step {S:ByteArray} {F j m:Nat} {V:Int×Nat} (h:DigAt S F j m V) (hg:gDig S F j=true):DigAt S F (j+1) (m*10+((bt S (F+j)).toNat-48)) V:=by
 unfold gDig at hg
 simp only[Bool.and_eq_true,decide_eq_true_eq]at hg
 obtain⟨h1,h2,h3,h4⟩:=hg
 unfold DigAt at h⊢
 rw[drop_bt S _ h1,show 11-j=11-(j+1)+1 by omega,rDig,if_pos ⟨h2,h3⟩]at h
 have e:((m*10+((bt S (F+j)).toNat-48):Nat):Int)=(m:Int)*10+((bt S (F+j)).toNat:Int)-48:=by omega
 rw[e,←Nat.add_assoc]
 exact⟨h.1,by have:=h.2;omega⟩
theorem DigAt.stop {S:ByteArray} {F j m:Nat} {V:Int×Nat} (h:DigAt S F j m V) (hg:gDig S F j=false) (hj:j≤11):V.1=m∧V.2=j:=by
 have key:rDig (11-j) (S.data.toList.drop (F+j)) (m:Int)=((m:Int),0):=by
  by_cases h4:j<11
  ·rw[show 11-j=11-(j+1)+1 by omega]
   by_cases h1:F+j<S.size
   ·rw[drop_bt S _ h1,rDig,if_neg]
    rintro ⟨h2,h3⟩
    unfold gDig at hg
    rw[decide_eq_true h1,decide_eq_true h2,decide_eq_true h3,decide_eq_true h4]at hg
    cases hg
   ·rw[drop_end S _ (by omega),rDig]
  ·rw[show 11-j=0 by omega,rDig]
 unfold DigAt at h
 rw[key]at h
 exact⟨h.1.symm,by have:=h.2;simp only at this;omega⟩
def nBad (S:ByteArray) (b:Bool) (F j:Nat):Bool:=(j==0)||(((bt S F==48)&&(decide (1<j)||b))||(decide (F+j<S.size)&&(bt S (F+j) != 32)))
theorem rNumber_bt {S:ByteArray} {b:Bool} {V:Int×Nat} (hb:rSign S.data.toList=b) (hV:rDig 11 (S.data.toList.drop (nF b)) 0=V) (hj:V.2=0∨nF b<S.size):
  rNumber S.data.toList=if nBad S b (nF b) V.2=true then(0,0)else(if b=true then -V.1 else V.1,V.2+nF b):=by
 unfold rNumber
 rw[rBody_bt hb,hb,hV]
 simp only
 have e:V.2+(if b=true then 1 else 0)=V.2+nF b:=rfl
 rw[e]
 congr 1
 unfold nBad
 rw[List.drop_drop]
 simp only[Bool.or_eq_true,Bool.and_eq_true,beq_iff_eq,decide_eq_true_eq,bne_iff_ne,eq_iff_iff]
 rcases hj with h0|hF
 ·exact⟨fun _=>.inl h0,fun _=>.inl h0⟩
 ·refine or_congr Iff.rfl (or_congr ?_ ?_)
  ·rw[drop_bt S _ hF,List.head?_cons,Option.some.injEq]
  ·by_cases h1:nF b+V.2<S.size
   ·rw[drop_bt S _ h1]
    simp[h1]
   ·rw[drop_end S _ (by omega)]
    simp[h1]
theorem res_n2 {fn:Func} (h:fn.results= #[.tmp 2,.tmp 3]) (tmps:Array Value) (w:World):(results fn tmps).run Tryz.prog w= .ok (.tuple #[tmps.getD 2 undef,tmps.getD 3 undef]) w:=by
 simp[results,h,go_sem]
theorem u8_beq (c d:UInt8):((c.toNat:Int)==(d.toNat:Int))=(c==d):=by
 rw[Bool.eq_iff_iff,beq_iff_eq,beq_iff_eq]
 exact⟨fun h=>UInt8.toNat_inj.1 (by omega),fun h=>by rw[h]⟩
theorem u8_bne (c d:UInt8):((c.toNat:Int) != (d.toNat:Int))=(c != d):=by
 rw[bne,bne,u8_beq]
set_option maxRecDepth 100000 in
set_option maxHeartbeats 4000000 in
theorem ref_num (S:ByteArray) (w:World) (hs:S.size≤140737488355328):
  Calls Tryz.prog 94 #[.string S] w fun e w'=>e= .returned (.tuple #[.int .i64 (rNumber S.data.toList).1,.int .i64 ((rNumber S.data.toList).2:Nat)])∧w'=w:=by
 have hg:=get_bt S
 obtain⟨b,hb⟩: ∃b,rSign S.data.toList=b:=⟨_,rfl⟩
 obtain⟨V,hV⟩: ∃V,rDig 11 (S.data.toList.drop (nF b)) 0=V:=⟨_,rfl⟩
 have HRN:=Lib.hid (rNumber_bt hb hV)
 have HD0:=Lib.hid (show DigAt S (nF b) 0 0 V from by
  unfold DigAt
  rw[Nat.add_zero,show((0:Nat):Int)=0 from rfl,Nat.sub_zero,hV]
  exact⟨rfl,rfl⟩)
 have hsb:=rSign_bt S
 rw[hb]at hsb
 have hF1:nF b≤1:=by unfold nF;split <;> omega
 have hFs:nF b≤S.size:=by
  unfold nF
  split
  ·rename_i h
   rw[h]at hsb
   have:=hsb.symm
   rw[Bool.and_eq_true,decide_eq_true_eq]at this
   omega
  ·omega
 obtain⟨R,hR⟩: ∃R,rNumber S.data.toList=R:=⟨_,rfl⟩
 rw[hR]at HRN⊢
 clear hV hR
 go_enter Tryz.func94,Tryz.ntmps94
 go_upto_region 2 with fail
 go_cut [15] (fun v wx=>v= .bool b∧wx=w)
 case first=>
  by_cases h0:0<S.size
  ·have d0:decide ((0:Int)<(S.size:Int))=true:=decide_eq_true (by omega)
   rw[decide_eq_true h0,Bool.true_and]at hsb
   cases hc:(bt S 0==45)with
   | true=>
    rw[hc]at hsb
    subst hsb
    have q0:(((bt S 0).toNat:Int)==45)=true:=by
     rw[beq_iff_eq]at hc⊢
     rw[hc]
     rfl
    go_wp2_with fail
    go_meet
    exact⟨rfl,rfl⟩
   | false=>
    rw[hc]at hsb
    subst hsb
    have q0:(((bt S 0).toNat:Int)==45)=false:=by
     rw[beq_eq_false_iff_ne]at hc⊢
     intro h
     exact hc (UInt8.toNat_inj.1 (by
            have:(bt S 0).toNat=45:=by omega
            rw[this];rfl))
    go_wp2_with fail
    go_meet
    exact⟨rfl,rfl⟩
  ·have d0:decide ((0:Int)<(S.size:Int))=false:=decide_eq_false (by omega)
   rw[decide_eq_false h0,Bool.false_and]at hsb
   subst hsb
   go_wp2_with fail
   go_meet
   exact⟨rfl,rfl⟩
 case rest=>
  obtain⟨rfl,hwc⟩:=hcut
  subst hwc
  obtain⟨w,rfl⟩: ∃x:World,x=wc:=⟨_,rfl⟩
  go_upto_if 15 with fail
  go_cut [6,5] (fun sg iv wx=>sg= .int .i64 (if b=true then -1 else 1)∧iv= .int .i64 (nF b:Nat)∧wx=w)
  case first=>
   cases b with
   | true=>
    go_wp2_with fail
    go_meet
    exact⟨rfl,rfl,rfl⟩
   | false=>
    go_wp2_with fail
    go_meet
    exact⟨rfl,rfl,rfl⟩
  case rest=>
  obtain⟨rfl,rfl,hwc⟩:=hcut
  subst hwc
  obtain⟨w,rfl⟩: ∃x:World,x=wc:=⟨_,rfl⟩
  obtain⟨F,hF⟩: ∃F,nF b=F:=⟨_,rfl⟩
  rw[hF]at HRN HD0 hF1 hFs⊢
  obtain⟨sg,hsg⟩: ∃sg:Int,(if b=true then -1 else 1)=sg:=⟨_,rfl⟩
  rw[hsg]
  have HSG:=Lib.hid hsg
  clear hsb hb hF hsg
  go_wp2_with fail
  go_loopw [4,5] (fun nv iv wr=> ∃j k m:Nat,j≤11∧Hid (k=F+j)∧k≤S.size∧nv= .int .i64 (m:Nat)∧iv= .int .i64 (k:Nat)∧Hid (m<10^j)∧Hid (DigAt S F j m V)∧Hid (w=wr)) (fun _ iv _=>S.size-(intOf iv).toNat)
  case atStart=>exact⟨0,F,0,Nat.zero_le _,Lib.hid rfl,by omega,rfl,rfl,Lib.hid (by decide),HD0,Lib.hid rfl⟩
  case round=>
   obtain⟨j,k,m,hj,HK,hFj,rfl,rfl,HM,HD,HW⟩:=hrel
   obtain⟨hk1,hk2⟩:k≤F+j∧F+j≤k:=by have:=HK.out;omega
   have hwr:=HW.out
   subst hwr
   have hm:m≤100000000000:=by
    have h1:=HM.out
    have h2:10^j≤10^11:=Nat.pow_le_pow_right (by decide) hj
    have h3:(10:Nat)^11=100000000000:=by decide
    omega
   obtain⟨x,hx⟩: ∃x,(bt S k).toNat=x:=⟨_,rfl⟩
   have hx8:x≤255:=by rw[←hx];have:=(bt S k).toNat_lt;omega
   obtain⟨c,hc⟩: ∃c,gDig S F j=c:=⟨_,rfl⟩
   have HC:=Lib.hid hc
   have wsub:IntKind.i64.wrap ((k:Int)-(F:Int))=(j:Int):=by rw[show(k:Int)-(F:Int)=(j:Int) by omega];exact IntWalk.i64_in _ (by omega)
   unfold gDig at hc
   rw[←HK.out,hx]at hc
   go_upto_region 5 with fail
   go_cut [38] (fun v wx=>v= .bool c∧wx=w)
   case first=>
    by_cases h1:k<S.size
    ·have d1:decide ((k:Int)<(S.size:Int))=true:=decide_eq_true (by omega)
     rw[decide_eq_true h1,Bool.true_and]at hc
     by_cases h2:48≤x
     ·have d2:decide ((48:Int)≤(x:Int))=true:=decide_eq_true (by omega)
      rw[decide_eq_true h2,Bool.true_and]at hc
      by_cases h3:x≤57
      ·have d3:decide ((x:Int)≤(57:Int))=true:=decide_eq_true (by omega)
       rw[decide_eq_true h3,Bool.true_and]at hc
       have d4':decide ((k:Int)-(F:Int)<(11:Int))=c:=by rw[←hc,Bool.eq_iff_iff,decide_eq_true_eq,decide_eq_true_eq];omega
       have d4:decide ((j:Int)<(11:Int))=c:=by rw[←hc,Bool.eq_iff_iff,decide_eq_true_eq,decide_eq_true_eq];omega
       clear hc
       go_wp2_with fail
       go_meet
       exact⟨rfl,rfl⟩
      ·have d3:decide ((x:Int)≤(57:Int))=false:=decide_eq_false (by omega)
       rw[decide_eq_false h3,Bool.false_and]at hc
       subst hc
       go_wp2_with fail
       go_meet
       exact⟨rfl,rfl⟩
     ·have d2:decide ((48:Int)≤(x:Int))=false:=decide_eq_false (by omega)
      rw[decide_eq_false h2,Bool.false_and]at hc
      subst hc
      go_wp2_with fail
      go_meet
      exact⟨rfl,rfl⟩
    ·have d1:decide ((k:Int)<(S.size:Int))=false:=decide_eq_false (by omega)
     rw[decide_eq_false h1,Bool.false_and]at hc
     subst hc
     go_wp2_with fail
     go_meet
     exact⟨rfl,rfl⟩
   case rest=>
    obtain⟨rfl,hwc⟩:=hcut
    subst hwc
    obtain⟨w,rfl⟩: ∃x:World,x=wc:=⟨_,rfl⟩
    cases c with
    | true=>
     simp only[Bool.and_eq_true,decide_eq_true_eq]at hc
     obtain⟨h1,h2,h3,h4⟩:=hc
     have HDN:=Lib.hid (HD.out.step HC.out)
     rw[←HK.out,hx]at HDN
     have w1:IntKind.i64.wrap ((m:Int)*10)=(m:Int)*10:=IntWalk.i64_in _ (by omega)
     have w0:IntKind.i64.wrap (x:Int)=(x:Int):=IntWalk.i64_in _ (by omega)
     have w2:IntKind.i64.wrap ((m:Int)*10+(x:Int))=(m:Int)*10+(x:Int):=IntWalk.i64_in _ (by omega)
     have w3:IntKind.i64.wrap ((m:Int)*10+(x:Int)-48)=((m*10+(x-48):Nat):Int):=by rw[show(m:Int)*10+(x:Int)-48=((m*10+(x-48):Nat):Int) by omega];exact IntWalk.i64_in _ (by omega)
     have w4:IntKind.i64.wrap ((k:Int)+1)=((k+1:Nat):Int):=by rw[show(k:Int)+1=((k+1:Nat):Int) by omega];exact IntWalk.i64_in _ (by omega)
     obtain⟨m2,hm2⟩: ∃m2,m*10+(x-48)=m2:=⟨_,rfl⟩
     obtain⟨k2,hk2⟩: ∃k2,k+1=k2:=⟨_,rfl⟩
     rw[hm2]at w3 HDN
     rw[hk2]at w4
     have HM2:=Lib.hid (show m2<10^(j+1)from by have:=HM.out;rw[Nat.pow_succ];omega)
     clear hm2
     go_wp2_with fail
     go_roundw
     case rel=>exact⟨j+1,k2,m2,by omega,Lib.hid (by omega),by omega,rfl,rfl,HM2,HDN,Lib.hid (by trivial)⟩
     case measure=>simp[intOf];omega
    | false=>
     clear hc wsub hx hx8
     obtain⟨hv1,hv2⟩:=HD.out.stop HC.out hj
     obtain⟨bad,hbad⟩: ∃bad,nBad S b F j=bad:=⟨_,rfl⟩
     have HR:=Lib.hid (show R=if bad=true then(0,0)else(if b=true then -(m:Int)else(m:Int),j+F)from by
      have:=HRN.out (by omega)
      rwa [hv1,hv2,hbad]at this)
     unfold nBad at hbad
     rw[←HK.out]at hbad
     have q48:=u8_beq (bt S F) 48
     have q32:=u8_bne (bt S k) 32
     rw[show((48:UInt8).toNat:Int)=48 from rfl]at q48
     rw[show((32:UInt8).toNat:Int)=32 from rfl]at q32
     have wF:IntKind.i64.wrap ((F:Int)+1)=(F:Int)+1:=IntWalk.i64_in _ (by omega)
     clear hv1 hv2
     obtain⟨c1,hc1⟩: ∃c,(bt S F==48)=c:=⟨_,rfl⟩
     obtain⟨c2,hc2⟩: ∃c,(bt S k != 32)=c:=⟨_,rfl⟩
     obtain⟨c3,hc3⟩: ∃c,decide (k<S.size)=c:=⟨_,rfl⟩
     have d3:decide ((k:Int)<(S.size:Int))=c3:=by rw[←hc3,Bool.eq_iff_iff,decide_eq_true_eq,decide_eq_true_eq];omega
     have hkc:c3=true→k<S.size:=fun h=>by rw[h]at hc3;exact of_decide_eq_true hc3
     have HKC:=Lib.hid (show c3=false→S.size≤k from fun h=>by rw[h]at hc3;have:=of_decide_eq_false hc3;omega)
     rw[hc1]at q48 hbad
     rw[hc2]at q32 hbad
     rw[hc3]at hbad
     have hFk:j≠0→F<S.size:=fun h=>by omega
     have HSG2:=Lib.hid (show decide (sg<0)=b from by rw[←HSG.out];cases b <;> rfl)
     clear hc1 hc2 hc3
     go_upto_region 8 with fail
     go_cut [79] (fun v wx=>v= .bool bad∧wx=w)
     case first=>
      by_cases hj0:j=0
      ·have q0:((k:Int)==(F:Int))=true:=by rw[beq_iff_eq];omega
       rw[hj0]at hbad
       have hbd:true=bad:=hbad
       subst hbd
       go_wp2_with fail
       go_meet
       exact⟨rfl,rfl⟩
      ·have q0:((k:Int)==(F:Int))=false:=by rw[beq_eq_false_iff_ne];omega
       have hFl:=hFk hj0
       rw[beq_eq_false_iff_ne.2 hj0,Bool.false_or]at hbad
       have HT:=Lib.hid (show((c3&&c2)=bad)→(c3=true∧c2=true∧bad=true)∨(c3=true∧c2=false∧bad=false)∨(c3=false∧bad=false)from fun h=>by
        subst h
        cases c3 <;> cases c2 <;> simp)
       cases c1 with
       | true=>
        rw[Bool.true_and]at hbad
        by_cases hj1:1<j
        ·have d1:decide ((F:Int)+1<(k:Int))=true:=decide_eq_true (by omega)
         rw[decide_eq_true hj1,Bool.true_or,Bool.true_or]at hbad
         subst hbad
         go_wp2_with fail
         go_meet
         exact⟨rfl,rfl⟩
        ·have d1:decide ((F:Int)+1<(k:Int))=false:=decide_eq_false (by omega)
         rw[decide_eq_false hj1,Bool.false_or]at hbad
         have hs2:=HSG2.out
         cases b with
         | true=>
          rw[Bool.true_or]at hbad
          subst hbad
          go_wp2_with fail
          go_meet
          exact⟨rfl,rfl⟩
         | false=>
          rw[Bool.false_or]at hbad
          rcases HT.out hbad with⟨e1,e2,e3⟩|⟨e1,e2,e3⟩|⟨e1,e3⟩ <;> clear hbad HT
          ·subst e1;subst e2;subst e3
           have hk3:=hkc rfl
           go_wp2_with fail
           go_meet
           exact⟨rfl,rfl⟩
          ·subst e1;subst e2;subst e3
           have hk3:=hkc rfl
           go_wp2_with fail
           go_meet
           exact⟨rfl,rfl⟩
          ·subst e1;subst e3
           have hk3:=HKC.out rfl
           go_wp2_with fail
           go_meet
           exact⟨rfl,rfl⟩
       | false=>
        rw[Bool.false_and,Bool.false_or]at hbad
        rcases HT.out hbad with⟨e1,e2,e3⟩|⟨e1,e2,e3⟩|⟨e1,e3⟩ <;> clear hbad HT
        ·subst e1;subst e2;subst e3
         have hk3:=hkc rfl
         go_wp2_with fail
         go_meet
         exact⟨rfl,rfl⟩
        ·subst e1;subst e2;subst e3
         have hk3:=hkc rfl
         go_wp2_with fail
         go_meet
         exact⟨rfl,rfl⟩
        ·subst e1;subst e3
         have hk3:=HKC.out rfl
         go_wp2_with fail
         go_meet
         exact⟨rfl,rfl⟩
     case rest=>
      obtain⟨rfl,hwc⟩:=hcut
      subst hwc
      clear hbad q48 q32 d3 hkc hFk wF
      cases bad with
      | true=>
       have HRZ:=Lib.hid (show R=(0,0)from by have:=HR.out;rwa [if_pos rfl]at this)
       go_wp2_with fail
       refine bodyPost_ret (res_n2 rfl _ _) rfl ?_
       refine⟨?_,rfl⟩
       rw[HRZ.out]
       rfl
      | false=>
       obtain⟨z,hz⟩: ∃z,(if b=true then -(m:Int)else(m:Int))=z:=⟨_,rfl⟩
       have HRZ:=Lib.hid (show R=(z,k)from by
        have:=HR.out
        rw[if_neg (by decide),hz]at this
        rw[this,show j+F=k by omega])
       have wr:IntKind.i64.wrap (sg*(m:Int))=z:=by
        rw[←hz,←HSG.out]
        cases b with
        | true=>
         rw[if_pos rfl,if_pos rfl,show(-1:Int)*(m:Int)= -(m:Int) by omega]
         exact IntWalk.i64_in _ (by omega)
        | false=>
         rw[if_neg (by decide),if_neg (by decide),Int.one_mul]
         exact IntWalk.i64_in _ (by omega)
       clear hz
       go_wp2_with fail
       refine bodyPost_ret (res_n2 rfl _ _) rfl ?_
       refine⟨?_,rfl⟩
       rw[HRZ.out]
       rfl
end Go.Proofs.YtajbmjpodeilpaaGreatDoor
namespace Go.Proofs.YtajbmjpodeilpaaGreatDoor
open Go.RowKit
theorem minfo_int:(Tryz.prog.info? 3).map (fun i=>(i.zero,i.size,i.bytes))=some (some (.int .i64 0),1,8):=by kernel_rfl
theorem ext_drop (s:ByteArray) (k:Nat):(s.extract k s.size).data.toList=s.data.toList.drop k:=by
 rw[ByteArray.data_extract,Array.toList_extract,List.extract_eq_take_drop,List.take_of_length_le]
 rw[List.length_drop,Array.length_toList]
 exact Nat.le_refl _
theorem ext_size (s:ByteArray) (k:Nat):(s.extract k s.size).size=s.size-k:=by
 simp[ByteArray.size_extract]
theorem rNumber_le (s:List UInt8):(rNumber s).2≤s.length∧(rNumber s).2≤12:=by
 by_cases h:(rNumber s).2=0
 ·omega
 ·obtain⟨_,_,h1,h2⟩:=rNumber_some (s:=s) rfl h
  exact⟨h1,h2⟩
def LAt (S:ByteArray) (k f:Nat) (L:List Int) (R:Option (List Int×Nat)):Prop:=R=(rList f (S.data.toList.drop k)).map fun p=>(L++p.1,k+p.2)
theorem LAt.start (S:ByteArray) (f:Nat):LAt S 0 f [] (rList f S.data.toList):=by
 unfold LAt
 rw[List.drop_zero]
 simp
theorem LAt.fin {S:ByteArray} {k f:Nat} {L:List Int} {R:Option (List Int×Nat)} (h:LAt S k f L R) (hk:S.size≤k):R=none:=by
 unfold LAt at h
 rw[drop_end S k hk]at h
 cases f with
 | zero=>exact h
 | succ f=>rwa [rList,if_pos rfl]at h
theorem LAt.bad {S:ByteArray} {k f:Nat} {L:List Int} {R:Option (List Int×Nat)} (h:LAt S k f L R) (h0:(rNumber (S.data.toList.drop k)).2=0):R=none:=by
 unfold LAt at h
 cases f with
 | zero=>exact h
 | succ f=>
  rw[rList]at h
  by_cases hs:S.data.toList.drop k= []
  ·rwa [if_pos hs]at h
  ·rwa [if_neg hs,if_pos h0]at h
theorem LAt.zero {S:ByteArray} {k f:Nat} {L:List Int} {R:Option (List Int×Nat)} (h:LAt S k (f+1) L R) (hk:k<S.size) (h0:(rNumber (S.data.toList.drop k)).2≠0) (h1:(rNumber (S.data.toList.drop k)).1=0):R=some (L,k+(rNumber (S.data.toList.drop k)).2):=by
 unfold LAt at h
 rw[rList,if_neg (by rw[drop_bt S k hk];exact List.cons_ne_nil _ _),if_neg h0,if_pos h1]at h
 rw[h]
 simp
theorem LAt.step {S:ByteArray} {k f:Nat} {L:List Int} {R:Option (List Int×Nat)} (h:LAt S k (f+1) L R) (hk:k<S.size) (h0:(rNumber (S.data.toList.drop k)).2≠0) (h1:(rNumber (S.data.toList.drop k)).1≠0):LAt S (k+(rNumber (S.data.toList.drop k)).2+1) f (L++ [(rNumber (S.data.toList.drop k)).1]) R:=by
 unfold LAt at h⊢
 rw[rList,if_neg (by rw[drop_bt S k hk];exact List.cons_ne_nil _ _),if_neg h0,if_neg h1,List.drop_drop]at h
 rw[h,Nat.add_assoc]
 generalize rList f _=r
 cases r with
 | none=>rfl
 | some p=>
  obtain⟨l,m⟩:=p
  simp only[Option.map_some,Option.some.injEq,Prod.mk.injEq]
  exact⟨by simp,by omega⟩
def ListOut (n0:Nat) (w':World) (e:Ending) (R:Option (List Int×Nat)):Prop:=
 match R with
 | none=>e= .returned (.tuple #[.slice none 0 0,.int .i64 0])
 | some (l,m)=> ∃v,e= .returned (.tuple #[v,.int .i64 (m:Nat)])∧w'.ownsRow n0 3 1 v l.length (l.map (Value.int .i64))
set_option maxRecDepth 100000 in
set_option maxHeartbeats 4000000 in
theorem ref_list (S:ByteArray) (w:World) (hs:S.size≤100000000):
  Calls Tryz.prog 95 #[.string S] w fun e w'=>ListOut w.heap.size w' e (rList (S.size+1) S.data.toList)∧Below w.heap.size w w':=by
 obtain⟨i0,hi,iz0,iz1,iz2⟩:=info_parts minfo_int
 have HS0:=Lib.hid (LAt.start S (S.size+1))
 obtain⟨R,hR⟩: ∃R,rList (S.size+1) S.data.toList=R:=⟨_,rfl⟩
 rw[hR]at HS0⊢
 clear hR
 go_enter Tryz.func95,Tryz.ntmps95
 go_wp2_with fail
 go_loopw [4,5] (fun lv kv wr=> ∃(k f:Nat) (L:List Int),kv= .int .i64 (k:Nat)∧k≤S.size+1∧S.size+1≤k+f∧L.length≤k∧Hid (LAt S k f L R)∧Hid (wr.ownsRow w.heap.size 3 1 lv L.length (L.map (Value.int .i64)))∧Hid (Below w.heap.size w wr)) (fun _ kv _=>S.size+1-(intOf kv).toNat)
 case atStart=>exact⟨0,S.size+1,[],rfl,Nat.zero_le _,by omega,Nat.zero_le _,HS0,Lib.hid (World.ownsRow_nil _ _ _ _),Lib.hid (Below.refl _ _)⟩
 case round=>
  obtain⟨k,f,L,rfl,hk,hf,hLk,HL,HV,HB⟩:=hrel
  have hzw:=HB.out.size
  obtain⟨Av,cv,hv,_⟩:=mx_slice HV.out
  subst hv
  clear HS0
  by_cases hlt:k<S.size
  ·have HN:=Lib.hid (ref_num (S.extract k S.size) wr (by rw[ext_size];omega))
   rw[ext_drop]at HN
   obtain⟨g,hg⟩: ∃g,f=g+1:=⟨f-1,by omega⟩
   subst hg
   have hnl:=rNumber_le (S.data.toList.drop k)
   rw[List.length_drop,Array.length_toList]at hnl
   have hnl:(rNumber (S.data.toList.drop k)).2≤S.size-k:=hnl.1
   have HZ:=Lib.hid (HL.out.bad)
   have HZ1:=Lib.hid (HL.out.zero hlt)
   have HZ2:=Lib.hid (HL.out.step hlt)
   obtain⟨n,hn⟩: ∃n,(rNumber (S.data.toList.drop k)).1=n:=⟨_,rfl⟩
   obtain⟨z,hz⟩: ∃z,(rNumber (S.data.toList.drop k)).2=z:=⟨_,rfl⟩
   rw[hn,hz]at HN HZ1 HZ2
   rw[hz]at HZ hnl
   clear hn hz
   have w1:IntKind.i64.wrap ((k:Int)+(z:Int))=((k+z:Nat):Int):=by rw[show(k:Int)+(z:Int)=((k+z:Nat):Int) by omega];exact IntWalk.i64_in _ (by omega)
   have w2:IntKind.i64.wrap (((k+z:Nat):Int)+1)=((k+z+1:Nat):Int):=by rw[show((k+z:Nat):Int)+1=((k+z+1:Nat):Int) by omega];exact IntWalk.i64_in _ (by omega)
   go_wp2_with fail
   refine HN.out.mono ?_
   rintro e w2 ⟨rfl,rfl⟩
   obtain⟨wr,rfl⟩: ∃x:World,x=w2:=⟨_,rfl⟩
   by_cases hz0:z=0
   ·subst hz0
    go_wp2_with fail
    refine bodyPost_ret (res_n2 rfl _ _) rfl ?_
    refine⟨?_,HB.out⟩
    rw[HZ.out (by trivial)]
    rfl
   have q0:((z:Int)==0)=false:=by rw[beq_eq_false_iff_ne];omega
   by_cases hn0:n=0
   ·subst hn0
    go_wp2_with fail
    refine bodyPost_ret (res_n2 rfl _ _) rfl ?_
    refine⟨?_,HB.out⟩
    rw[HZ1.out hz0 (by trivial)]
    exact⟨_,by simp,HV.out⟩
   have q1:(n==0)=false:=by rw[beq_eq_false_iff_ne];exact hn0
   have HLN:=Lib.hid (HZ2.out hz0 hn0)
   obtain⟨XS,hXS⟩: ∃XS,L.map (Value.int .i64)=XS:=⟨_,rfl⟩
   have HXS:=Lib.hid (show(L++ [n]).map (Value.int .i64)=XS++ [.int .i64 n]from by rw[List.map_append,hXS];rfl)
   rw[hXS]at HV
   clear hXS
   obtain⟨lz,hlz⟩: ∃lz,L.length=lz:=⟨_,rfl⟩
   have HLZ:=Lib.hid (show(L++ [n]).length=lz+1 from by rw[List.length_append,hlz];rfl)
   rw[hlz]at HV hLk⊢
   clear hlz
   go_wp2_with (at_builtin;refine wpList_append_own_at _ rfl _ _ 31 rfl w.heap.size 3 i0 (.int .i64 0) 1 8 Tryz.underlying31 hi iz0 iz1 iz2 rfl (by decide) _ lz _ rfl (own_below HV.out (mx_al wr _)) ⟨wr.heap.size,0,none⟩ 1 1 [.int .i64 n] rfl rfl (cell_one_new' _ _ _) (by simp[Value.oneCell']) (by unfold maxLen;omega) (by omega) (by simp;omega) ?_;intro v' w9 hown hgrow hnl hat;obtain⟨Aw,kw,hv2,_⟩:=mx_slice hown;subst hv2;have HOWN:=Lib.hid hown;have HG:=Lib.hid hgrow;clear hown hgrow hnl hat)
   have hw1:Below w.heap.size w w9:=(HB.out.trans ((mx_al wr (.cells #[.int .i64 n] 3)).mono hzw)).grown HG.out (by simp;omega) (fun g hg=>(own_lt HV.out g hg).1)
   go_roundw
   case rel=>exact⟨k+z+1,g,L++ [n],by go_num,by omega,by omega,by rw[HLZ.out];omega,HLN,Lib.hid (by rw[HXS.out,HLZ.out];exact HOWN.out),Lib.hid hw1⟩
   case measure=>simp[intOf];omega
  ·have q0:decide ((k:Int)<(S.size:Int))=false:=decide_eq_false (by omega)
   go_wp2_with fail
   refine bodyPost_ret (res_n2 rfl _ _) rfl ?_
   refine⟨?_,HB.out⟩
   rw[HL.out.fin (by omega)]
   rfl
end Go.Proofs.YtajbmjpodeilpaaGreatDoor
