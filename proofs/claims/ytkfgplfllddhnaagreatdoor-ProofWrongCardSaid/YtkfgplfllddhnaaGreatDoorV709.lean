/- package rup: needed. Plain: variables of literals. Plain: what a clause is, by the values of literals. Plain: hints are followed from the negations of a clause. package salvorlaw08: True, AllTrue. -/
import Derived.Test.YtkfgplfllddhnaaGreatDoorV708
import Derived.Test.YtkfgplfllddhnaaGreatDoorV703
import Derived.Test.YtkfgplfllddhnaaGreatDoorV706
import Derived.Test.YtkfgplfllddhnaaGreatDoorV704
import Derived.Test.YtkfgplfllddhnaaGreatDoorV707
namespace Go.Proofs.YtkfgplfllddhnaaGreatDoor
open Go.RowKit Go.Maps Go.Shelf
def needM (f:Int→Int) (xs:List Int):Int→Int:=xs.foldl (fun f l=>fun z=>if z=litN l then 1 else f z) f
def needGo (hs:List (List Int)) (us:List Int):Nat→(Int→Int)→List Int→List Int
 | 0,_,out=>out
 | k+1,f,out=>if k<us.length∧f (us.getD k 0)=0 then needGo hs us k f out else needGo hs us k (needM f (hs.getD k [])) (out++ [(k:Int)])
def needL (hs:List (List Int)) (us:List Int):List Int:=(needGo hs us hs.length (fun _=>0) []).reverse
theorem wf_litN (l:Int):(Lit.int .i64 (litN l)).wf=true:=by
 unfold litN
 split
 ·rename_i h
  have:=(litB_iff l).1 h
  exact wf64 (by omega) (by omega)
 ·exact wf64 (by omega) (by omega)
theorem cinfo_int:(Tryz.prog.info? 3).map (fun i=>(i.zero,i.size,i.bytes))=some (some (.int .i64 0),1,8):=by kernel_rfl
set_option maxRecDepth 100000 in
set_option maxHeartbeats 4000000 in
theorem rup_needed {O Ou:Nat→Prop} (hv uv:Value) (hs:List (List Int)) (us:List Int) (w:World) (hh:ClsIn O w hv hs) (hu:IntsIn Ou w uv us) (hn:hs.length≤1000000) (hx: ∀xs∈hs,xs.length≤1000000) (hul:us.length≤1000000) (hw: ∀x∈us,(Lit.int .i64 x).wf=true):
  Calls Tryz.prog 39 #[hv,uv] w fun e w'=> ∃v,e= .returned v∧w'.ownsRow (w.heap.size+1) 3 1 v (needL hs us).length ((needL hs us).map (Value.int .i64))∧Below w.heap.size w w':=by
 have hmm:=@run_makeMap Tryz.prog
 obtain⟨i0,hi,hz0,hz1,hz2⟩:=info_parts cinfo_int
 obtain⟨W0,hW0⟩: ∃x,w.alloc (.map #[] 0)=x:=⟨_,rfl⟩
 have hb0:Below w.heap.size w W0:=by rw[←hW0];exact mx_al _ _
 have hm0:MapL W0 w.heap.size 0 (fun _=>0):=by rw[←hW0];exact MapL.made w
 have hs0:W0.heap.size=w.heap.size+1:=by rw[←hW0];simp
 have HH:=Lib.hid hh.lt
 have HU:=Lib.hid hu.lt
 have HX:=Lib.hid hx
 have HWF:=Lib.hid hw
 obtain⟨Ah,ch,rfl,_⟩:=hh
 obtain⟨Au,cu,rfl,_⟩:=hu
 have HW0:=Lib.hid hW0
 have HB0:=Lib.hid hb0
 have HM0:=Lib.hid hm0
 obtain⟨R,hR⟩: ∃r,needGo hs us hs.length (fun _=>0) []=r:=⟨_,rfl⟩
 have HR:=Lib.hid hR
 unfold needL
 rw[hR]
 clear hW0 hb0 hm0 hR hx hw
 go_enter Tryz.func39,Tryz.ntmps39
 go_wp2_with fail
 rw[HW0.out]
 go_loopw [5,7] (fun ov iv wr=> ∃(z:Int) (k n:Nat) (f:Int→Int) (out:List Int),iv= .int .i64 z∧ -1≤z∧z<1000000∧Hid (z+1=k)∧Hid (k≤hs.length)∧Hid (n≤(hs.length-k)*1000000)∧Hid (needGo hs us k f out=R)∧Hid (MapL wr w.heap.size n f)∧Hid (wr.ownsRow (w.heap.size+1) 3 1 ov out.length (out.map (Value.int .i64)))∧Hid (out.length≤hs.length-k)∧Hid (Below w.heap.size w wr∧w.heap.size+1≤wr.heap.size)) (fun _ iv _=>(intOf iv+1).toNat)
 case atStart=>exact⟨(hs.length:Int)-1,hs.length,0,_,[],rfl,by omega,by omega,Lib.hid (by omega),Lib.hid (Nat.le_refl _),Lib.hid (by omega),HR,HM0,Lib.hid (World.ownsRow_nil _ _ _ _),Lib.hid (by simp),Lib.hid ⟨HB0.out,by omega⟩⟩
 case round=>
  obtain⟨z,k1,n,f,out,rfl,hz1',hz2',HZ,HKL,HNB,HG,HM,HO,HOL,HB⟩:=hrel
  obtain⟨Ao,co,rfl,_⟩:=mx_slice HO.out
  by_cases hlt:0≤z
  ·obtain⟨k,rfl⟩: ∃k:Nat,z=(k:Int):=⟨z.toNat,by omega⟩
   obtain rfl:k1=k+1:=by have:=HZ.out;omega
   have hkl:k<hs.length:=HKL.out
   obtain⟨xs,hxk⟩:=getElem_of hkl
   have HXS:=Lib.hid (show hs.getD k []=xs from by rw[List.getD_eq_getElem?_getD,hxk];rfl)
   have hgo:=HG.out
   simp only[needGo]at hgo
   rw[HXS.out]at hgo
   obtain⟨A',c',hAc,_,_,hxs⟩:=HH.out
   simp only[Value.slice.injEq,true_and]at hAc
   obtain⟨rfl,rfl⟩:=hAc
   obtain⟨g,o,hv,rfl,hg,_,d0,hin⟩:=hxs k xs hxk
   have d1:wr.cell? ⟨g,o+k,none⟩=some hv:=(HB.out.1.cell (p:=⟨g,o+k,none⟩) hg).trans d0
   have hxl:=HX.out xs (List.mem_of_getElem? hxk)
   have HIN:=Lib.hid hin
   obtain⟨Ax,cx,rfl,_⟩:=hin
   clear hxk hxs d0
   have hbs:=HB.out.2
   have hol:=HOL.out
   have HZZ:=Lib.hid hz2'
   clear hz1' hz2' hlt hs0
   have hnb:n≤1000000000000:=Nat.le_trans HNB.out (Nat.le_trans (Nat.mul_le_mul_right _ (show _≤1000000 by omega)) (by decide))
   by_cases hku:k<us.length
   ·obtain⟨x,hxu⟩:=getElem_of hku
    have hxd:us.getD k 0=x:=by rw[List.getD_eq_getElem?_getD,hxu];rfl
    rw[hxd]at hgo
    obtain⟨A',c',hAc,_,_,hus⟩:=HU.out
    simp only[Value.slice.injEq,true_and]at hAc
    obtain⟨rfl,rfl⟩:=hAc
    obtain⟨gu,ou,rfl,hgu,_,u0⟩:=hus k x hxu
    have u1:wr.cell? ⟨gu,ou+k,none⟩=some (.int .i64 x):=(HB.out.1.cell (p:=⟨gu,ou+k,none⟩) hgu).trans u0
    have hlk:=HM.out.look (HWF.out x (List.mem_of_getElem? hxu))
    obtain⟨fx,hfx⟩: ∃y,f x=y:=⟨_,rfl⟩
    rw[hfx]at hgo hlk
    have hdu:decide ((k:Int)<(us.length:Int))=true:=by simp;omega
    clear hxu hxd hus u0 hfx
    by_cases hf0:fx=0
    ·rw[if_pos ⟨hku,hf0⟩]at hgo
     have q0:(fx==0)=true:=by simpa using hf0
     have HG2:=Lib.hid hgo
     clear hgo hf0 d1
     go_wp2_with fail
     go_roundw
     case rel=>exact⟨(k:Int)-1,k,n,f,out,by go_num,by omega,by have:=HZZ.out;omega,Lib.hid (by omega),Lib.hid (by omega),Lib.hid (Nat.le_trans HNB.out (Nat.mul_le_mul_right _ (by omega))),HG2,HM,HO,Lib.hid (by omega),HB⟩
     case measure=>simp[intOf]
    ·rw[if_neg (fun h=>hf0 h.2)]at hgo
     have q0:(fx==0)=false:=by simpa using hf0
     clear hf0
     have HG2:=Lib.hid hgo
     clear hgo
     go_wp2_with (at_builtin;refine wpList_append_own_at _ rfl _ _ 48 rfl (w.heap.size+1) 3 i0 (.int .i64 0) 1 8 Tryz.underlying48 hi hz0 hz1 hz2 rfl (by decide) _ out.length _ rfl (own_below HO.out (mx_al wr _)) ⟨wr.heap.size,0,none⟩ 1 1 [.int .i64 (k:Int)] rfl rfl (fun i u hi=>by
      match i,hi with
      | 0,hi=>simp at hi;subst hi;simp[Addr.add]) (fun u hu=>by rw[List.mem_singleton.1 hu];rfl) (by unfold maxLen;omega) (by omega) (by simp;omega) ?_;intro v' w2 hown hgrow hnl2 hat;obtain⟨g2,c2,rfl⟩:=ownsRow_succ hown;have hB2:Below (w.heap.size+1) wr w2:=((mx_al wr (.cells #[.int .i64 (k:Int)] 3)).mono hbs).grown hgrow (by simp;omega) (fun g hg=>(own_lt HO.out g hg).1);have d2:w2.cell? ⟨g,o+k,none⟩=some (.slice Ax xs.length cx):=(hB2.cell (p:=⟨g,o+k,none⟩) (by simp only;omega)).trans d1)
     have HO2:=Lib.hid hown
     have HB2:=Lib.hid hB2
     have HM2:=Lib.hid ((HM.out.below (mx_al wr (.cells #[.int .i64 (k:Int)] 3))).kept (Kept.grown hgrow) (fun e=>by
      have:=(own_lt HO.out _ e.symm).1
      omega))
     have hsz2:=hB2.size
     clear hown hgrow hnl2 hat hB2 d2 d1
     go_wp2_with fail
     obtain⟨wo,hwo⟩: ∃wo:World,wo=w2:=⟨_,rfl⟩
     rw[←hwo]at HO2 HB2 HM2 hsz2⊢
     clear hwo
     go_loopw [40] (fun iv wq=> ∃(j n':Nat),j≤xs.length∧iv= .int .i64 j∧n'≤n+j∧Hid (MapL wq w.heap.size n' (needM f (xs.take j)))∧Hid (Kept (fun g=>g=w.heap.size) wo wq)) (fun iv _=>xs.length-(intOf iv).toNat)
     case atStart=>exact⟨0,n,Nat.zero_le _,rfl,Nat.le_refl _,HM2,Lib.hid (Kept.refl _ _)⟩
     case round=>
      obtain⟨j,n',hj,rfl,hn',HMQ,HKQ⟩:=hrel
      by_cases hjl:j<xs.length
      ·obtain⟨y,hyk⟩:=getElem_of hjl
       obtain⟨A'',c'',hAc,_,_,hys⟩:=HIN.out
       simp only[Value.slice.injEq,true_and]at hAc
       obtain⟨rfl,rfl⟩:=hAc
       obtain⟨g3,o3,rfl,hg3,hlt3,f0⟩:=hys j y hyk
       have f1:wr.cell? ⟨g3,o3+j,none⟩=some (.int .i64 y):=(HKQ.out.cell (p:=⟨g3,o3+j,none⟩) (by simp only;omega) (by simp only;omega)).trans ((HB2.out.cell (p:=⟨g3,o3+j,none⟩) (by simp only;omega)).trans ((HB.out.1.cell (p:=⟨g3,o3+j,none⟩) hg3).trans f0))
       have HTK:=Lib.hid (show needM f (xs.take (j+1))=fun z=>if z=litN y then 1 else needM f (xs.take j) z from by
        unfold needM
        rw[List.take_add_one,hyk]
        simp)
       have HNG:=Lib.hid (fun W=>lit_neg y W)
       have HWN:=Lib.hid (wf_litN y)
       clear hyk hys f0
       go_wp2_with fail
       refine(HNG.out _).mono ?_
       rintro e w' ⟨rfl,rfl⟩
       go_wp2_with (at_mapUpdate;refine wpList_putL HMQ.out rfl _ _ _ rfl rfl (by unfold maxLen;omega) (litN y) 1 rfl rfl HWN.out rfl ?_;intro w4 hm4 hg4)
       have HM4:=Lib.hid (show MapL w4 w.heap.size (n'+1) (needM f (xs.take (j+1)))from by rw[HTK.out];exact hm4)
       have HK4:=Lib.hid (HKQ.out.trans (O:=fun g=>g=w.heap.size) (Kept.grown hg4) (fun i _ e=>Option.some.inj e))
       clear hm4 hg4
       go_wp2_with fail
       go_roundw
       case rel=>exact⟨j+1,n'+1,by omega,by go_num,by omega,HM4,HK4⟩
       case measure=>simp[intOf];omega
      ·obtain rfl:j=xs.length:=by omega
       have hmq:=HMQ.out
       rw[List.take_length]at hmq
       have HMF:=Lib.hid hmq
       clear hmq
       go_wp2_with fail
       go_roundw
       case rel=>exact⟨(k:Int)-1,k,n',_,out++ [(k:Int)],by go_num,by omega,by have:=HZZ.out;omega,Lib.hid (by omega),Lib.hid (by omega),Lib.hid (by
        rw[show hs.length-k=(hs.length-(k+1))+1 by omega,Nat.succ_mul]
        exact Nat.le_trans hn' (Nat.add_le_add HNB.out hxl)),HG2,HMF,Lib.hid (by
        have:=own_kept HO2.out HKQ.out (fun g hg e=>by have:=(own_lt HO2.out g hg).1;omega)
        simpa using this),Lib.hid (by have:=HOL.out;simp;omega),Lib.hid ⟨HB.out.1.trans ((HB2.out.mono (Nat.le_succ _)).trans (HKQ.out.below (fun g e=>by omega) (by omega))),by have:=HKQ.out.size;omega⟩⟩
       case measure=>simp[intOf]
   ·rw[if_neg (fun h=>hku h.1)]at hgo
    have hdu:decide ((k:Int)<(us.length:Int))=false:=by simp;omega
    have HG2:=Lib.hid hgo
    clear hgo
    go_wp2_with (at_builtin;refine wpList_append_own_at _ rfl _ _ 48 rfl (w.heap.size+1) 3 i0 (.int .i64 0) 1 8 Tryz.underlying48 hi hz0 hz1 hz2 rfl (by decide) _ out.length _ rfl (own_below HO.out (mx_al wr _)) ⟨wr.heap.size,0,none⟩ 1 1 [.int .i64 (k:Int)] rfl rfl (fun i u hi=>by
     match i,hi with
     | 0,hi=>simp at hi;subst hi;simp[Addr.add]) (fun u hu=>by rw[List.mem_singleton.1 hu];rfl) (by unfold maxLen;omega) (by omega) (by simp;omega) ?_;intro v' w2 hown hgrow hnl2 hat;obtain⟨g2,c2,rfl⟩:=ownsRow_succ hown;have hB2:Below (w.heap.size+1) wr w2:=((mx_al wr (.cells #[.int .i64 (k:Int)] 3)).mono hbs).grown hgrow (by simp;omega) (fun g hg=>(own_lt HO.out g hg).1);have d2:w2.cell? ⟨g,o+k,none⟩=some (.slice Ax xs.length cx):=(hB2.cell (p:=⟨g,o+k,none⟩) (by simp only;omega)).trans d1)
    have HO2:=Lib.hid hown
    have HB2:=Lib.hid hB2
    have HM2:=Lib.hid ((HM.out.below (mx_al wr (.cells #[.int .i64 (k:Int)] 3))).kept (Kept.grown hgrow) (fun e=>by
     have:=(own_lt HO.out _ e.symm).1
     omega))
    have hsz2:=hB2.size
    clear hown hgrow hnl2 hat hB2 d2 d1
    go_wp2_with fail
    obtain⟨wo,hwo⟩: ∃wo:World,wo=w2:=⟨_,rfl⟩
    rw[←hwo]at HO2 HB2 HM2 hsz2⊢
    clear hwo
    go_loopw [40] (fun iv wq=> ∃(j n':Nat),j≤xs.length∧iv= .int .i64 j∧n'≤n+j∧Hid (MapL wq w.heap.size n' (needM f (xs.take j)))∧Hid (Kept (fun g=>g=w.heap.size) wo wq)) (fun iv _=>xs.length-(intOf iv).toNat)
    case atStart=>exact⟨0,n,Nat.zero_le _,rfl,Nat.le_refl _,HM2,Lib.hid (Kept.refl _ _)⟩
    case round=>
     obtain⟨j,n',hj,rfl,hn',HMQ,HKQ⟩:=hrel
     by_cases hjl:j<xs.length
     ·obtain⟨y,hyk⟩:=getElem_of hjl
      obtain⟨A'',c'',hAc,_,_,hys⟩:=HIN.out
      simp only[Value.slice.injEq,true_and]at hAc
      obtain⟨rfl,rfl⟩:=hAc
      obtain⟨g3,o3,rfl,hg3,hlt3,f0⟩:=hys j y hyk
      have f1:wr.cell? ⟨g3,o3+j,none⟩=some (.int .i64 y):=(HKQ.out.cell (p:=⟨g3,o3+j,none⟩) (by simp only;omega) (by simp only;omega)).trans ((HB2.out.cell (p:=⟨g3,o3+j,none⟩) (by simp only;omega)).trans ((HB.out.1.cell (p:=⟨g3,o3+j,none⟩) hg3).trans f0))
      have HTK:=Lib.hid (show needM f (xs.take (j+1))=fun z=>if z=litN y then 1 else needM f (xs.take j) z from by
       unfold needM
       rw[List.take_add_one,hyk]
       simp)
      have HNG:=Lib.hid (fun W=>lit_neg y W)
      have HWN:=Lib.hid (wf_litN y)
      clear hyk hys f0
      go_wp2_with fail
      refine(HNG.out _).mono ?_
      rintro e w' ⟨rfl,rfl⟩
      go_wp2_with (at_mapUpdate;refine wpList_putL HMQ.out rfl _ _ _ rfl rfl (by unfold maxLen;omega) (litN y) 1 rfl rfl HWN.out rfl ?_;intro w4 hm4 hg4)
      have HM4:=Lib.hid (show MapL w4 w.heap.size (n'+1) (needM f (xs.take (j+1)))from by rw[HTK.out];exact hm4)
      have HK4:=Lib.hid (HKQ.out.trans (O:=fun g=>g=w.heap.size) (Kept.grown hg4) (fun i _ e=>Option.some.inj e))
      clear hm4 hg4
      go_wp2_with fail
      go_roundw
      case rel=>exact⟨j+1,n'+1,by omega,by go_num,by omega,HM4,HK4⟩
      case measure=>simp[intOf];omega
     ·obtain rfl:j=xs.length:=by omega
      have hmq:=HMQ.out
      rw[List.take_length]at hmq
      have HMF:=Lib.hid hmq
      clear hmq
      go_wp2_with fail
      go_roundw
      case rel=>exact⟨(k:Int)-1,k,n',_,out++ [(k:Int)],by go_num,by omega,by have:=HZZ.out;omega,Lib.hid (by omega),Lib.hid (by omega),Lib.hid (by
       rw[show hs.length-k=(hs.length-(k+1))+1 by omega,Nat.succ_mul]
       exact Nat.le_trans hn' (Nat.add_le_add HNB.out hxl)),HG2,HMF,Lib.hid (by
       have:=own_kept HO2.out HKQ.out (fun g hg e=>by have:=(own_lt HO2.out g hg).1;omega)
       simpa using this),Lib.hid (by have:=HOL.out;simp;omega),Lib.hid ⟨HB.out.1.trans ((HB2.out.mono (Nat.le_succ _)).trans (HKQ.out.below (fun g e=>by omega) (by omega))),by have:=HKQ.out.size;omega⟩⟩
      case measure=>simp[intOf]
  ·obtain rfl:k1=0:=by have:=HZ.out;omega
   have hd:decide (0≤z)=false:=by simpa using hlt
   have hgo:=HG.out
   simp only[needGo]at hgo
   have hol:=HOL.out
   have hb:=HB.out
   subst hgo
   have HS:=Lib.hid (own_reverse _ _ wr HO.out (by omega))
   clear hlt
   go_wp2_with fail
   refine HS.out.mono ?_
   rintro e w2 ⟨rfl,hr2,hk2⟩
   have HR2:=Lib.hid hr2
   have HB2:=Lib.hid (hb.1.trans (hk2.below (fun g hg=>by have:=(own_lt HO.out g hg).1;omega) hb.1.size))
   clear hr2 hk2
   go_wp2_with fail
   go_ret
   exact⟨_,rfl,by simpa using HR2.out,HB2.out⟩
end Go.Proofs.YtkfgplfllddhnaaGreatDoor
namespace Go.Proofs.YtkfgplfllddhnaaGreatDoor
open Go.RowKit
theorem litV_negate (l:Int):litV (-l)=litV l:=by
 have h:litB (-l)=litB l:=by
  unfold litB
  exact decide_eq_decide.2 (by omega)
 unfold litV
 rw[h,Int.natAbs_neg]
theorem litV_pos {l:Int} (h:litB l=true):1≤litV l∧(litV l:Int)=max l (-l):=by
 have:=(litB_iff l).1 h
 unfold litV
 rw[if_pos h]
 omega
theorem litB_minus (l:Int):litB (-l)=litB l:=by
 simp only[litB,decide_eq_decide]
 omega
theorem litV_zero {l:Int} (h:litB l=false):litV l=0:=by
 unfold litV
 rw[h]
 rfl
theorem litB_of_litV {l:Int} (h:0<litV l):litB l=true:=by
 cases hb:litB l with
 | true=>rfl
 | false=>rw[litV_zero hb]at h;omega
theorem litV_two {a b:Int} (ha:litB a=true) (h:litV a=litV b):b=a∨b= -a:=by
 have h1:=litV_pos ha
 have h2:=litV_pos (litB_of_litV (l:=b) (by omega))
 omega
theorem litN_eq {l:Int} (h:litB l=true):litN l= -l:=by unfold litN;rw[if_pos h]
end Go.Proofs.YtkfgplfllddhnaaGreatDoor
namespace Go.Proofs.YtkfgplfllddhnaaGreatDoor
open Go.RowKit
theorem litG_minus {x:Int} (hx:litB x=true):litG (-x)= !litG x:=by
 have h:=(litB_iff x).1 hx
 unfold litG
 rw[litB_minus,hx,Bool.true_and,Bool.true_and]
 by_cases h1:x<0
 ·rw[decide_eq_true h1,decide_eq_false (by omega)]
  rfl
 ·rw[decide_eq_false h1,decide_eq_true (by omega)]
  rfl
theorem k_put_self (f:Int→Int) (x:Int):ofF (putF f x) x=1:=by
 unfold ofF putF
 rw[if_pos rfl]
 cases litG x <;> rfl
theorem k_put_neg (f:Int→Int) {x:Int} (hx:litB x=true):ofF (putF f x) (-x)= -1:=by
 unfold ofF putF
 rw[litV_negate,if_pos rfl,litG_minus hx]
 cases litG x <;> rfl
theorem k_put_ne (f:Int→Int) {x y:Int} (h:litV y≠litV x):ofF (putF f x) y=ofF f y:=by
 unfold ofF putF
 simp only[if_neg (show¬(((litV y:Nat):Int)=((litV x:Nat):Int)) by omega)]
theorem k_asg (xs:List Int): ∀f:Int→Int,(∀x∈xs,litB x=true)→(xs.map litV).Nodup→(∀x∈xs,f ((litV x:Nat):Int)=0)→∃g,asgGo f xs=some g∧(∀y,(∀x∈xs,litV x≠litV y)→ofF g y=ofF f y)∧∀x∈xs,ofF g x=1∧ofF g (-x)= -1:=by
 induction xs with
 | nil=>exact fun f _ _ _=>⟨f,rfl,fun _ _=>rfl,fun x hx=>by cases hx⟩
 | cons x r ih=>
  intro f h1 h2 h3
  have hx:=h1 x List.mem_cons_self
  have h0:ofF f x=0:=by
   unfold ofF
   rw[h3 x List.mem_cons_self]
   split <;> rfl
  have hstep:asgGo f (x::r)=asgGo (putF f x) r:=by
   conv=>lhs;unfold asgGo
   rw[if_pos ⟨hx,by rw[h0];exact Int.le_refl 0⟩]
  rw[List.map_cons,List.nodup_cons]at h2
  have hne: ∀y∈r,litV y≠litV x:=fun y hy e=>h2.1 (e▸List.mem_map_of_mem hy)
  obtain⟨g,e,g1,g2⟩:=ih (putF f x) (fun y hy=>h1 y (List.mem_cons_of_mem _ hy)) h2.2 (fun y hy=>by
   have:=hne y hy
   unfold putF
   rw[if_neg (by omega)]
   exact h3 y (List.mem_cons_of_mem _ hy))
  refine⟨g,hstep.trans e,fun y hy=>?_,fun z hz=>?_⟩
  ·rw[g1 y (fun z hz=>hy z (List.mem_cons_of_mem _ hz)),k_put_ne f (fun e=>hy x List.mem_cons_self e.symm)]
  ·rcases List.mem_cons.1 hz with rfl|hz
   ·rw[g1 z hne,g1 (-z) (by rw[litV_negate];exact hne),k_put_self,k_put_neg f hx]
    exact⟨rfl,rfl⟩
   ·exact g2 z hz
section
variable {f:Int→Int}
end
end Go.Proofs.YtkfgplfllddhnaaGreatDoor
namespace Go.Proofs.YtkfgplfllddhnaaGreatDoor
open Go.RowKit
def folGo (f:Int→Int):List (List Int)→List Int→Nat→List Int×Nat×Bool×Nat
 | [],us,i=>(us,i,false,0)
 | c::r,us,i=>if(lookF f c).1=2 then(us,i+1,true,0)else if(lookF f c).1=3 then folGo (putF f (lookF f c).2) r (us++ [(lookF f c).2]) (i+1)else([],i,false,81)
def chkP (c:List Int) (hs:List (List Int)):List Int×Nat×Nat:=
 if alwL c=true then([],0,0)else match asgF (asmL c)with
  | none=>([],0,82)
  | some f=>((folGo f hs [] 0).1,(folGo f hs [] 0).2.1,if(folGo f hs [] 0).2.2.2=0∧(folGo f hs [] 0).2.2.1=false then 82 else(folGo f hs [] 0).2.2.2)
def trimP (c:List Int) (hs:List (List Int)):List Int:=if(chkP c hs).2.2=0∧(chkP c hs).2.1≠0 then needL (hs.take (chkP c hs).2.1) (chkP c hs).1 else []
def Says (f:Int→Int) (P:Int→Prop):Prop:= ∀y,litB y=true→((0<ofF f y↔P y)∧(ofF f y<0↔P (-y)))
theorem asm_ok {L:List Int} (hL:clauseB L=true) (hno: ∀y∈L,-y∉L): ∃f,asgF (asmL L)=some f∧Says f (fun y=> -y∈L):=by
 have hr: ∀x∈L,litB x=true:=fun x hx=>by
  unfold clauseB at hL
  rw[Bool.and_eq_true]at hL
  exact List.all_eq_true.1 hL.2 x hx
 have hmem: ∀x,x∈asmL L↔ -x∈L:=fun x=>by
  unfold asmL
  rw[sortL_mem,List.mem_map]
  constructor
  ·rintro ⟨y,hy,rfl⟩
   have hy:=(normL_has hr).1 hy
   rw[litN_eq (hr y hy),Int.neg_neg]
   exact hy
  ·intro h
   exact⟨-x,(normL_has hr).2 h,by rw[litN_eq (hr _ h),Int.neg_neg]⟩
 have hb: ∀x∈asmL L,litB x=true:=fun x hx=>by
  have:=hr _ ((hmem x).1 hx)
  rwa [litB_minus]at this
 have hnd:((asmL L).map litV).Nodup:=by
  unfold asmL
  refine((sortL_perm _).map litV).nodup_iff.2 ?_
  unfold List.Nodup
  rw[List.pairwise_map,List.pairwise_map]
  refine(normL_nodup hr).imp_of_mem ?_
  intro a b ha hb hne e
  have ha:=(normL_has hr).1 ha
  have hb:=(normL_has hr).1 hb
  rw[litN_eq (hr a ha),litN_eq (hr b hb),litV_negate,litV_negate]at e
  rcases litV_two (hr a ha) e with h|h
  ·exact hne h.symm
  ·exact hno a ha (h▸hb)
 obtain⟨g,h1,h2,h3⟩:=k_asg (asmL L) (fun _=>0) hb hnd (fun _ _=>rfl)
 refine⟨g,h1,fun y hy=>?_⟩
 have hzero: ∀z,ofF (fun _=>0) z=0:=fun z=>by unfold ofF;split <;> rfl
 suffices key:(0<ofF g y↔ -y∈L)∧(ofF g y<0↔y∈L)from⟨key.1,key.2.trans (by show y∈L↔ - -y∈L;rw[Int.neg_neg])⟩
 by_cases hy1:y∈L
 ·have:=(h3 (-y) ((hmem _).2 (by rw[Int.neg_neg];exact hy1))).2
  rw[Int.neg_neg]at this
  rw[this]
  exact⟨⟨fun h=>by omega,fun h=>absurd h (hno y hy1)⟩,⟨fun _=>hy1,fun _=>by decide⟩⟩
 ·by_cases hy2: -y∈L
  ·have:=(h3 y ((hmem _).2 hy2)).1
   rw[this]
   exact⟨⟨fun _=>hy2,fun _=>by decide⟩,⟨fun h=>by omega,fun h=>absurd h hy1⟩⟩
  ·have hz:=h2 y fun x hx e=>by
    rcases litV_two (hb x hx) e with h|h
    ·exact hy2 ((hmem y).1 (h▸hx))
    ·have:=(hmem x).1 hx
     exact hy1 (by rw[h];exact this)
   rw[hz,hzero]
   exact⟨⟨fun h=>by omega,fun h=>absurd h hy2⟩,⟨fun h=>by omega,fun h=>absurd h hy1⟩⟩
end Go.Proofs.YtkfgplfllddhnaaGreatDoor
namespace Go.Proofs.YtkfgplfllddhnaaGreatDoor
open Go.RowKit
def bitT (n:Nat) (l:Int):Bool:=if 0<l then n.testBit l.toNat else !n.testBit (-l).toNat
theorem bitT_neg {n:Nat} {y:Int} (hy:y≠0):bitT n (-y)= !bitT n y:=by
 unfold bitT
 by_cases h:0<y
 ·rw[if_pos h,if_neg (by omega),Int.neg_neg]
 ·rw[if_neg h,if_pos (by omega),Bool.not_not]
def allT (n:Nat) (cs:List (List Int)):Bool:=cs.all fun c=>c.any (bitT n)
def Lits6 (cs:List (List Int)):Prop:= ∀c∈cs,c.length≤1000000∧∀y∈c,y≠0∧ -7<y∧y<7
end Go.Proofs.YtkfgplfllddhnaaGreatDoor
