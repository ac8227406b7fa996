/- Plain: a clause that holds always has a literal and its negation. package rup: moving. package rup: needed. Plain: what a clause is, by the values of literals. Plain: hints are followed from the negations of a clause. Rising rows of integers: a number's place, put in, taken out. -/
import Derived.Test.YtoojmhjagipmdaaGreatV314
import Derived.Test.YtoojmhjagipmdaaGreatV315
import Derived.Test.YtoojmhjagipmdaaGreatV307
import Derived.Test.YtoojmhjagipmdaaGreatV311
import Derived.Test.YtoojmhjagipmdaaGreatV310
import Derived.Test.YtoojmhjagipmdaaGreatShelf
import Derived.Shelf.SlSortFuncK.RowK2
import Derived.Deep.Upon
namespace Go.Proofs.YtoojmhjagipmdaaGreat
open Go.RowKit
theorem alwGo_two {c:List Int} (hc: ∀y∈c,litB y=true): ∀{r:List Int} {l:Int},(l=0∨l∈c)→(∀x∈r,x∈c)→alwGo l r=true→∃y∈c,-y∈c:=by
 intro r
 induction r with
 | nil=>intro l _ _ h;cases h
 | cons x r ih=>
  intro l hl hr h
  unfold alwGo at h
  have hx:=hr x List.mem_cons_self
  rw[Bool.or_eq_true]at h
  rcases h with h|h
  ·rw[Bool.and_eq_true]at h
   obtain⟨h1,h2⟩:=h
   rcases hl with rfl|hl
   ·cases h1
   ·have e:x=litN l:=by simpa using h2
    unfold litN at e
    rw[if_pos (hc l hl)]at e
    exact⟨l,hl,e▸hx⟩
  ·exact ih (.inr hx) (fun y hy=>hr y (List.mem_cons_of_mem _ hy)) h
theorem alwL_two {c:List Int} (h:alwL c=true): ∃y∈c,-y∈c:=by
 unfold alwL at h
 rw[Bool.and_eq_true]at h
 obtain⟨h1,h2⟩:=h
 unfold clauseB at h1
 rw[Bool.and_eq_true,List.all_eq_true]at h1
 exact alwGo_two h1.2 (.inl rfl) (fun x hx=>normL_mem hx) h2
theorem alwL_no {c:List Int} (h: ∀y∈c,-y∉c):alwL c=false:=by
 cases ha:alwL c with
 | false=>rfl
 | true=>
  obtain⟨y,hy,hn⟩:=alwL_two ha
  exact absurd hn (h y hy)
end Go.Proofs.YtoojmhjagipmdaaGreat
namespace Go.Proofs.YtoojmhjagipmdaaGreat
open Go.RowKit Go.Maps Go.Shelf
attribute [local go_sem] Oper.semAt_some
def movL (f:Int→Int) (kd:Nat):Nat→List (List Int)→List (Nat×Int)
 | _,[]=> []
 | i,c::r=>if(lookF f c).1=kd then(i,(lookF f c).2)::movL f kd (i+1) r else movL f kd (i+1) r
def mvv (x:Nat×Int):Array Value:= #[.int .i64 (x.1:Int),.int .i64 x.2]
theorem ClsIn.narrow {O:Nat→Prop} {w:World} {v:Value} {cs:List (List Int)} (h:ClsIn O w v cs):ClsIn (fun g=>O g∧¬XO w g) w v cs:=by
 obtain⟨A,c,hv,hc,hn,hx⟩:=h
 refine⟨A,c,hv,hc,hn,fun i xs hi=>?_⟩
 obtain⟨g,o,u,h1,h2,h3,h4,h5⟩:=hx i xs hi
 exact⟨g,o,u,h1,h2,⟨h3,xo_cell h4⟩,h4,h5.narrow⟩
theorem MapAt.kpc {W w:World} {b n:Nat} {f:Int→Int} (h:MapAt W b n f) (k:KpC (fun _=>False) W w):MapAt w b n f:=
 h.kept k.kept (by
  rintro (h'|⟨o,ho,_,h2⟩)
  ·exact h'
  ·obtain⟨D,⟨es,cl,hb,_⟩,_⟩:=h
   rw[hb]at ho
   cases ho
   cases h2)
end Go.Proofs.YtoojmhjagipmdaaGreat
namespace Go.Proofs.YtoojmhjagipmdaaGreat
open Go.RowKit Go.Maps Go.Shelf
def needM (f:Int→Int) (xs:List Int):Int→Int:=xs.foldl (fun f l=>fun z=>if z=litN l then 1 else f z) f
def needGo (hs:List (List Int)) (us:List Int):Nat→(Int→Int)→List Int→List Int
 | 0,_,out=>out
 | k+1,f,out=>if k<us.length∧f (us.getD k 0)=0 then needGo hs us k f out else needGo hs us k (needM f (hs.getD k [])) (out++ [(k:Int)])
def needL (hs:List (List Int)) (us:List Int):List Int:=(needGo hs us hs.length (fun _=>0) []).reverse
theorem wf_litN (l:Int):(Lit.int .i64 (litN l)).wf=true:=by
 unfold litN
 split
 ·rename_i h
  have:=(litB_iff l).1 h
  exact wf64 (by omega) (by omega)
 ·exact wf64 (by omega) (by omega)
theorem cinfo_int:(Tryz.prog.info? 3).map (fun i=>(i.zero,i.size,i.bytes))=some (some (.int .i64 0),1,8):=by kernel_rfl
set_option maxRecDepth 100000 in
set_option maxHeartbeats 4000000 in
theorem rup_needed {O Ou:Nat→Prop} (hv uv:Value) (hs:List (List Int)) (us:List Int) (w:World) (hh:ClsIn O w hv hs) (hu:IntsIn Ou w uv us) (hn:hs.length≤1000000) (hx: ∀xs∈hs,xs.length≤1000000) (hul:us.length≤1000000) (hw: ∀x∈us,(Lit.int .i64 x).wf=true):
  Calls Tryz.prog 130 #[hv,uv] w fun e w'=> ∃v,e= .returned v∧w'.ownsRow (w.heap.size+1) 3 1 v (needL hs us).length ((needL hs us).map (Value.int .i64))∧Below w.heap.size w w':=by
 have hmm:=@run_makeMap Tryz.prog
 obtain⟨i0,hi,hz0,hz1,hz2⟩:=info_parts cinfo_int
 obtain⟨W0,hW0⟩: ∃x,w.alloc (.map #[] 0)=x:=⟨_,rfl⟩
 have hb0:Below w.heap.size w W0:=by rw[←hW0];exact mx_al _ _
 have hm0:MapL W0 w.heap.size 0 (fun _=>0):=by rw[←hW0];exact MapL.made w
 have hs0:W0.heap.size=w.heap.size+1:=by rw[←hW0];simp
 have HH:=Lib.hid hh.lt
 have HU:=Lib.hid hu.lt
 have HX:=Lib.hid hx
 have HWF:=Lib.hid hw
 obtain⟨Ah,ch,rfl,_⟩:=hh
 obtain⟨Au,cu,rfl,_⟩:=hu
 have HW0:=Lib.hid hW0
 have HB0:=Lib.hid hb0
 have HM0:=Lib.hid hm0
 obtain⟨R,hR⟩: ∃r,needGo hs us hs.length (fun _=>0) []=r:=⟨_,rfl⟩
 have HR:=Lib.hid hR
 unfold needL
 rw[hR]
 clear hW0 hb0 hm0 hR hx hw
 go_enter Tryz.func130,Tryz.ntmps130
 go_wp2_with fail
 rw[HW0.out]
 go_loopw [5,7] (fun ov iv wr=> ∃(z:Int) (k n:Nat) (f:Int→Int) (out:List Int),iv= .int .i64 z∧ -1≤z∧z<1000000∧Hid (z+1=k)∧Hid (k≤hs.length)∧Hid (n≤(hs.length-k)*1000000)∧Hid (needGo hs us k f out=R)∧Hid (MapL wr w.heap.size n f)∧Hid (wr.ownsRow (w.heap.size+1) 3 1 ov out.length (out.map (Value.int .i64)))∧Hid (out.length≤hs.length-k)∧Hid (Below w.heap.size w wr∧w.heap.size+1≤wr.heap.size)) (fun _ iv _=>(intOf iv+1).toNat)
 case atStart=>exact⟨(hs.length:Int)-1,hs.length,0,_,[],rfl,by omega,by omega,Lib.hid (by omega),Lib.hid (Nat.le_refl _),Lib.hid (by omega),HR,HM0,Lib.hid (World.ownsRow_nil _ _ _ _),Lib.hid (by simp),Lib.hid ⟨HB0.out,by omega⟩⟩
 case round=>
  obtain⟨z,k1,n,f,out,rfl,hz1',hz2',HZ,HKL,HNB,HG,HM,HO,HOL,HB⟩:=hrel
  obtain⟨Ao,co,rfl,_⟩:=mx_slice HO.out
  by_cases hlt:0≤z
  ·obtain⟨k,rfl⟩: ∃k:Nat,z=(k:Int):=⟨z.toNat,by omega⟩
   obtain rfl:k1=k+1:=by have:=HZ.out;omega
   have hkl:k<hs.length:=HKL.out
   obtain⟨xs,hxk⟩:=getElem_of hkl
   have HXS:=Lib.hid (show hs.getD k []=xs from by rw[List.getD_eq_getElem?_getD,hxk];rfl)
   have hgo:=HG.out
   simp only[needGo]at hgo
   rw[HXS.out]at hgo
   obtain⟨A',c',hAc,_,_,hxs⟩:=HH.out
   simp only[Value.slice.injEq,true_and]at hAc
   obtain⟨rfl,rfl⟩:=hAc
   obtain⟨g,o,hv,rfl,hg,_,d0,hin⟩:=hxs k xs hxk
   have d1:wr.cell? ⟨g,o+k,none⟩=some hv:=(HB.out.1.cell (p:=⟨g,o+k,none⟩) hg).trans d0
   have hxl:=HX.out xs (List.mem_of_getElem? hxk)
   have HIN:=Lib.hid hin
   obtain⟨Ax,cx,rfl,_⟩:=hin
   clear hxk hxs d0
   have hbs:=HB.out.2
   have hol:=HOL.out
   have HZZ:=Lib.hid hz2'
   clear hz1' hz2' hlt hs0
   have hnb:n≤1000000000000:=Nat.le_trans HNB.out (Nat.le_trans (Nat.mul_le_mul_right _ (show _≤1000000 by omega)) (by decide))
   by_cases hku:k<us.length
   ·obtain⟨x,hxu⟩:=getElem_of hku
    have hxd:us.getD k 0=x:=by rw[List.getD_eq_getElem?_getD,hxu];rfl
    rw[hxd]at hgo
    obtain⟨A',c',hAc,_,_,hus⟩:=HU.out
    simp only[Value.slice.injEq,true_and]at hAc
    obtain⟨rfl,rfl⟩:=hAc
    obtain⟨gu,ou,rfl,hgu,_,u0⟩:=hus k x hxu
    have u1:wr.cell? ⟨gu,ou+k,none⟩=some (.int .i64 x):=(HB.out.1.cell (p:=⟨gu,ou+k,none⟩) hgu).trans u0
    have hlk:=HM.out.look (HWF.out x (List.mem_of_getElem? hxu))
    obtain⟨fx,hfx⟩: ∃y,f x=y:=⟨_,rfl⟩
    rw[hfx]at hgo hlk
    have hdu:decide ((k:Int)<(us.length:Int))=true:=by simp;omega
    clear hxu hxd hus u0 hfx
    by_cases hf0:fx=0
    ·rw[if_pos ⟨hku,hf0⟩]at hgo
     have q0:(fx==0)=true:=by simpa using hf0
     have HG2:=Lib.hid hgo
     clear hgo hf0 d1
     go_wp2_with fail
     go_roundw
     case rel=>exact⟨(k:Int)-1,k,n,f,out,by go_num,by omega,by have:=HZZ.out;omega,Lib.hid (by omega),Lib.hid (by omega),Lib.hid (Nat.le_trans HNB.out (Nat.mul_le_mul_right _ (by omega))),HG2,HM,HO,Lib.hid (by omega),HB⟩
     case measure=>simp[intOf]
    ·rw[if_neg (fun h=>hf0 h.2)]at hgo
     have q0:(fx==0)=false:=by simpa using hf0
     clear hf0
     have HG2:=Lib.hid hgo
     clear hgo
     go_wp2_with (at_builtin;refine wpList_append_own_at _ rfl _ _ 63 rfl (w.heap.size+1) 3 i0 (.int .i64 0) 1 8 Tryz.underlying63 hi hz0 hz1 hz2 rfl (by decide) _ out.length _ rfl (own_below HO.out (mx_al wr _)) ⟨wr.heap.size,0,none⟩ 1 1 [.int .i64 (k:Int)] rfl rfl (fun i u hi=>by
      match i,hi with
      | 0,hi=>simp at hi;subst hi;simp[Addr.add]) (fun u hu=>by rw[List.mem_singleton.1 hu];rfl) (by unfold maxLen;omega) (by omega) (by simp;omega) ?_;intro v' w2 hown hgrow hnl2 hat;obtain⟨g2,c2,rfl⟩:=ownsRow_succ hown;have hB2:Below (w.heap.size+1) wr w2:=((mx_al wr (.cells #[.int .i64 (k:Int)] 3)).mono hbs).grown hgrow (by simp;omega) (fun g hg=>(own_lt HO.out g hg).1);have d2:w2.cell? ⟨g,o+k,none⟩=some (.slice Ax xs.length cx):=(hB2.cell (p:=⟨g,o+k,none⟩) (by simp only;omega)).trans d1)
     have HO2:=Lib.hid hown
     have HB2:=Lib.hid hB2
     have HM2:=Lib.hid ((HM.out.below (mx_al wr (.cells #[.int .i64 (k:Int)] 3))).kept (Kept.grown hgrow) (fun e=>by
      have:=(own_lt HO.out _ e.symm).1
      omega))
     have hsz2:=hB2.size
     clear hown hgrow hnl2 hat hB2 d2 d1
     go_wp2_with fail
     obtain⟨wo,hwo⟩: ∃wo:World,wo=w2:=⟨_,rfl⟩
     rw[←hwo]at HO2 HB2 HM2 hsz2⊢
     clear hwo
     go_loopw [40] (fun iv wq=> ∃(j n':Nat),j≤xs.length∧iv= .int .i64 j∧n'≤n+j∧Hid (MapL wq w.heap.size n' (needM f (xs.take j)))∧Hid (Kept (fun g=>g=w.heap.size) wo wq)) (fun iv _=>xs.length-(intOf iv).toNat)
     case atStart=>exact⟨0,n,Nat.zero_le _,rfl,Nat.le_refl _,HM2,Lib.hid (Kept.refl _ _)⟩
     case round=>
      obtain⟨j,n',hj,rfl,hn',HMQ,HKQ⟩:=hrel
      by_cases hjl:j<xs.length
      ·obtain⟨y,hyk⟩:=getElem_of hjl
       obtain⟨A'',c'',hAc,_,_,hys⟩:=HIN.out
       simp only[Value.slice.injEq,true_and]at hAc
       obtain⟨rfl,rfl⟩:=hAc
       obtain⟨g3,o3,rfl,hg3,hlt3,f0⟩:=hys j y hyk
       have f1:wr.cell? ⟨g3,o3+j,none⟩=some (.int .i64 y):=(HKQ.out.cell (p:=⟨g3,o3+j,none⟩) (by simp only;omega) (by simp only;omega)).trans ((HB2.out.cell (p:=⟨g3,o3+j,none⟩) (by simp only;omega)).trans ((HB.out.1.cell (p:=⟨g3,o3+j,none⟩) hg3).trans f0))
       have HTK:=Lib.hid (show needM f (xs.take (j+1))=fun z=>if z=litN y then 1 else needM f (xs.take j) z from by
        unfold needM
        rw[List.take_add_one,hyk]
        simp)
       have HNG:=Lib.hid (fun W=>lit_neg y W)
       have HWN:=Lib.hid (wf_litN y)
       clear hyk hys f0
       go_wp2_with fail
       refine(HNG.out _).mono ?_
       rintro e w' ⟨rfl,rfl⟩
       go_wp2_with (at_mapUpdate;refine wpList_putL HMQ.out rfl _ _ _ rfl rfl (by unfold maxLen;omega) (litN y) 1 rfl rfl HWN.out rfl ?_;intro w4 hm4 hg4)
       have HM4:=Lib.hid (show MapL w4 w.heap.size (n'+1) (needM f (xs.take (j+1)))from by rw[HTK.out];exact hm4)
       have HK4:=Lib.hid (HKQ.out.trans (O:=fun g=>g=w.heap.size) (Kept.grown hg4) (fun i _ e=>Option.some.inj e))
       clear hm4 hg4
       go_wp2_with fail
       go_roundw
       case rel=>exact⟨j+1,n'+1,by omega,by go_num,by omega,HM4,HK4⟩
       case measure=>simp[intOf];omega
      ·obtain rfl:j=xs.length:=by omega
       have hmq:=HMQ.out
       rw[List.take_length]at hmq
       have HMF:=Lib.hid hmq
       clear hmq
       go_wp2_with fail
       go_roundw
       case rel=>exact⟨(k:Int)-1,k,n',_,out++ [(k:Int)],by go_num,by omega,by have:=HZZ.out;omega,Lib.hid (by omega),Lib.hid (by omega),Lib.hid (by
        rw[show hs.length-k=(hs.length-(k+1))+1 by omega,Nat.succ_mul]
        exact Nat.le_trans hn' (Nat.add_le_add HNB.out hxl)),HG2,HMF,Lib.hid (by
        have:=own_kept HO2.out HKQ.out (fun g hg e=>by have:=(own_lt HO2.out g hg).1;omega)
        simpa using this),Lib.hid (by have:=HOL.out;simp;omega),Lib.hid ⟨HB.out.1.trans ((HB2.out.mono (Nat.le_succ _)).trans (HKQ.out.below (fun g e=>by omega) (by omega))),by have:=HKQ.out.size;omega⟩⟩
       case measure=>simp[intOf]
   ·rw[if_neg (fun h=>hku h.1)]at hgo
    have hdu:decide ((k:Int)<(us.length:Int))=false:=by simp;omega
    have HG2:=Lib.hid hgo
    clear hgo
    go_wp2_with (at_builtin;refine wpList_append_own_at _ rfl _ _ 63 rfl (w.heap.size+1) 3 i0 (.int .i64 0) 1 8 Tryz.underlying63 hi hz0 hz1 hz2 rfl (by decide) _ out.length _ rfl (own_below HO.out (mx_al wr _)) ⟨wr.heap.size,0,none⟩ 1 1 [.int .i64 (k:Int)] rfl rfl (fun i u hi=>by
     match i,hi with
     | 0,hi=>simp at hi;subst hi;simp[Addr.add]) (fun u hu=>by rw[List.mem_singleton.1 hu];rfl) (by unfold maxLen;omega) (by omega) (by simp;omega) ?_;intro v' w2 hown hgrow hnl2 hat;obtain⟨g2,c2,rfl⟩:=ownsRow_succ hown;have hB2:Below (w.heap.size+1) wr w2:=((mx_al wr (.cells #[.int .i64 (k:Int)] 3)).mono hbs).grown hgrow (by simp;omega) (fun g hg=>(own_lt HO.out g hg).1);have d2:w2.cell? ⟨g,o+k,none⟩=some (.slice Ax xs.length cx):=(hB2.cell (p:=⟨g,o+k,none⟩) (by simp only;omega)).trans d1)
    have HO2:=Lib.hid hown
    have HB2:=Lib.hid hB2
    have HM2:=Lib.hid ((HM.out.below (mx_al wr (.cells #[.int .i64 (k:Int)] 3))).kept (Kept.grown hgrow) (fun e=>by
     have:=(own_lt HO.out _ e.symm).1
     omega))
    have hsz2:=hB2.size
    clear hown hgrow hnl2 hat hB2 d2 d1
    go_wp2_with fail
    obtain⟨wo,hwo⟩: ∃wo:World,wo=w2:=⟨_,rfl⟩
    rw[←hwo]at HO2 HB2 HM2 hsz2⊢
    clear hwo
    go_loopw [40] (fun iv wq=> ∃(j n':Nat),j≤xs.length∧iv= .int .i64 j∧n'≤n+j∧Hid (MapL wq w.heap.size n' (needM f (xs.take j)))∧Hid (Kept (fun g=>g=w.heap.size) wo wq)) (fun iv _=>xs.length-(intOf iv).toNat)
    case atStart=>exact⟨0,n,Nat.zero_le _,rfl,Nat.le_refl _,HM2,Lib.hid (Kept.refl _ _)⟩
    case round=>
     obtain⟨j,n',hj,rfl,hn',HMQ,HKQ⟩:=hrel
     by_cases hjl:j<xs.length
     ·obtain⟨y,hyk⟩:=getElem_of hjl
      obtain⟨A'',c'',hAc,_,_,hys⟩:=HIN.out
      simp only[Value.slice.injEq,true_and]at hAc
      obtain⟨rfl,rfl⟩:=hAc
      obtain⟨g3,o3,rfl,hg3,hlt3,f0⟩:=hys j y hyk
      have f1:wr.cell? ⟨g3,o3+j,none⟩=some (.int .i64 y):=(HKQ.out.cell (p:=⟨g3,o3+j,none⟩) (by simp only;omega) (by simp only;omega)).trans ((HB2.out.cell (p:=⟨g3,o3+j,none⟩) (by simp only;omega)).trans ((HB.out.1.cell (p:=⟨g3,o3+j,none⟩) hg3).trans f0))
      have HTK:=Lib.hid (show needM f (xs.take (j+1))=fun z=>if z=litN y then 1 else needM f (xs.take j) z from by
       unfold needM
       rw[List.take_add_one,hyk]
       simp)
      have HNG:=Lib.hid (fun W=>lit_neg y W)
      have HWN:=Lib.hid (wf_litN y)
      clear hyk hys f0
      go_wp2_with fail
      refine(HNG.out _).mono ?_
      rintro e w' ⟨rfl,rfl⟩
      go_wp2_with (at_mapUpdate;refine wpList_putL HMQ.out rfl _ _ _ rfl rfl (by unfold maxLen;omega) (litN y) 1 rfl rfl HWN.out rfl ?_;intro w4 hm4 hg4)
      have HM4:=Lib.hid (show MapL w4 w.heap.size (n'+1) (needM f (xs.take (j+1)))from by rw[HTK.out];exact hm4)
      have HK4:=Lib.hid (HKQ.out.trans (O:=fun g=>g=w.heap.size) (Kept.grown hg4) (fun i _ e=>Option.some.inj e))
      clear hm4 hg4
      go_wp2_with fail
      go_roundw
      case rel=>exact⟨j+1,n'+1,by omega,by go_num,by omega,HM4,HK4⟩
      case measure=>simp[intOf];omega
     ·obtain rfl:j=xs.length:=by omega
      have hmq:=HMQ.out
      rw[List.take_length]at hmq
      have HMF:=Lib.hid hmq
      clear hmq
      go_wp2_with fail
      go_roundw
      case rel=>exact⟨(k:Int)-1,k,n',_,out++ [(k:Int)],by go_num,by omega,by have:=HZZ.out;omega,Lib.hid (by omega),Lib.hid (by omega),Lib.hid (by
       rw[show hs.length-k=(hs.length-(k+1))+1 by omega,Nat.succ_mul]
       exact Nat.le_trans hn' (Nat.add_le_add HNB.out hxl)),HG2,HMF,Lib.hid (by
       have:=own_kept HO2.out HKQ.out (fun g hg e=>by have:=(own_lt HO2.out g hg).1;omega)
       simpa using this),Lib.hid (by have:=HOL.out;simp;omega),Lib.hid ⟨HB.out.1.trans ((HB2.out.mono (Nat.le_succ _)).trans (HKQ.out.below (fun g e=>by omega) (by omega))),by have:=HKQ.out.size;omega⟩⟩
      case measure=>simp[intOf]
  ·obtain rfl:k1=0:=by have:=HZ.out;omega
   have hd:decide (0≤z)=false:=by simpa using hlt
   have hgo:=HG.out
   simp only[needGo]at hgo
   have hol:=HOL.out
   have hb:=HB.out
   subst hgo
   have HS:=Lib.hid (own_reverse _ _ wr HO.out (by omega))
   clear hlt
   go_wp2_with fail
   refine HS.out.mono ?_
   rintro e w2 ⟨rfl,hr2,hk2⟩
   have HR2:=Lib.hid hr2
   have HB2:=Lib.hid (hb.1.trans (hk2.below (fun g hg=>by have:=(own_lt HO.out g hg).1;omega) hb.1.size))
   clear hr2 hk2
   go_wp2_with fail
   go_ret
   exact⟨_,rfl,by simpa using HR2.out,HB2.out⟩
end Go.Proofs.YtoojmhjagipmdaaGreat
namespace Go.Proofs.YtoojmhjagipmdaaGreat
open Go.RowKit
theorem litG_minus {x:Int} (hx:litB x=true):litG (-x)= !litG x:=by
 have h:=(litB_iff x).1 hx
 unfold litG
 rw[litB_minus,hx,Bool.true_and,Bool.true_and]
 by_cases h1:x<0
 ·rw[decide_eq_true h1,decide_eq_false (by omega)]
  rfl
 ·rw[decide_eq_false h1,decide_eq_true (by omega)]
  rfl
theorem k_put_self (f:Int→Int) (x:Int):ofF (putF f x) x=1:=by
 unfold ofF putF
 rw[if_pos rfl]
 cases litG x <;> rfl
theorem k_put_neg (f:Int→Int) {x:Int} (hx:litB x=true):ofF (putF f x) (-x)= -1:=by
 unfold ofF putF
 rw[litV_negate,if_pos rfl,litG_minus hx]
 cases litG x <;> rfl
theorem k_put_ne (f:Int→Int) {x y:Int} (h:litV y≠litV x):ofF (putF f x) y=ofF f y:=by
 unfold ofF putF
 simp only[if_neg (show¬(((litV y:Nat):Int)=((litV x:Nat):Int)) by omega)]
theorem k_asg (xs:List Int): ∀f:Int→Int,(∀x∈xs,litB x=true)→(xs.map litV).Nodup→(∀x∈xs,f ((litV x:Nat):Int)=0)→∃g,asgGo f xs=some g∧(∀y,(∀x∈xs,litV x≠litV y)→ofF g y=ofF f y)∧∀x∈xs,ofF g x=1∧ofF g (-x)= -1:=by
 induction xs with
 | nil=>exact fun f _ _ _=>⟨f,rfl,fun _ _=>rfl,fun x hx=>by cases hx⟩
 | cons x r ih=>
  intro f h1 h2 h3
  have hx:=h1 x List.mem_cons_self
  have h0:ofF f x=0:=by
   unfold ofF
   rw[h3 x List.mem_cons_self]
   split <;> rfl
  have hstep:asgGo f (x::r)=asgGo (putF f x) r:=by
   conv=>lhs;unfold asgGo
   rw[if_pos ⟨hx,by rw[h0];exact Int.le_refl 0⟩]
  rw[List.map_cons,List.nodup_cons]at h2
  have hne: ∀y∈r,litV y≠litV x:=fun y hy e=>h2.1 (e▸List.mem_map_of_mem hy)
  obtain⟨g,e,g1,g2⟩:=ih (putF f x) (fun y hy=>h1 y (List.mem_cons_of_mem _ hy)) h2.2 (fun y hy=>by
   have:=hne y hy
   unfold putF
   rw[if_neg (by omega)]
   exact h3 y (List.mem_cons_of_mem _ hy))
  refine⟨g,hstep.trans e,fun y hy=>?_,fun z hz=>?_⟩
  ·rw[g1 y (fun z hz=>hy z (List.mem_cons_of_mem _ hz)),k_put_ne f (fun e=>hy x List.mem_cons_self e.symm)]
  ·rcases List.mem_cons.1 hz with rfl|hz
   ·rw[g1 z hne,g1 (-z) (by rw[litV_negate];exact hne),k_put_self,k_put_neg f hx]
    exact⟨rfl,rfl⟩
   ·exact g2 z hz
section
variable {f:Int→Int}
theorem k_hold {c:List Int} (h: ∃y∈c,0<ofF f y): ∀k u,lukGo f k u c=(1,0):=by
 induction c with
 | nil=>
  obtain⟨y,hy,_⟩:=h
  cases hy
 | cons l r ih=>
  intro k u
  unfold lukGo
  by_cases hl:0<ofF f l
  ·rw[if_pos hl]
  ·rw[if_neg hl]
   have hr: ∃y∈r,0<ofF f y:=by
    obtain⟨y,hy,h⟩:=h
    rcases List.mem_cons.1 hy with rfl|hy
    ·exact absurd h hl
    ·exact⟨y,hy,h⟩
   split
   ·exact ih hr _ _
   ·split
    ·exact ih hr _ _
    ·exact ih hr _ _
theorem k_rest {c:List Int} {k:Nat} {u:Int} (h: ∀y∈c,ofF f y<0∨y=u∧¬0<ofF f y):lukGo f k u c=(k,if k=3 then u else 0):=by
 induction c with
 | nil=>rfl
 | cons l r ih=>
  have hl:=h l List.mem_cons_self
  unfold lukGo
  rw[if_neg (by rcases hl with h|h <;> omega),if_pos (hl.imp_right And.left)]
  exact ih (fun y hy=>h y (List.mem_cons_of_mem _ hy))
theorem k_fail {c:List Int} (h: ∀y∈c,ofF f y<0):lookF f c=(2,0):=k_rest (fun y hy=>.inl (h y hy))
theorem k_unit {c:List Int} {a:Int} (ha:a∈c) (hz:ofF f a=0) (h: ∀y∈c,y≠a→ofF f y<0) (hn: ∀y∈c,y≠0):lookF f c=(3,a):=by
 show lukGo f 2 0 c=_
 induction c with
 | nil=>cases ha
 | cons l r ih=>
  by_cases hl:l=a
  ·subst hl
   unfold lukGo
   rw[if_neg (by omega),if_neg (by
      rintro (h2|h2); · omega
      ·exact hn l List.mem_cons_self h2),if_pos rfl,k_rest (fun y hy=>?_)]
   ·rfl
   ·by_cases e:y=l
    ·exact .inr ⟨e,by rw[e];omega⟩
    ·exact .inl (h y (List.mem_cons_of_mem _ hy) e)
  ·have hl2:=h l List.mem_cons_self hl
   unfold lukGo
   rw[if_neg (by omega),if_pos (.inl hl2)]
   refine ih ?_ (fun y hy=>h y (List.mem_cons_of_mem _ hy)) (fun y hy=>hn y (List.mem_cons_of_mem _ hy))
   rcases List.mem_cons.1 ha with e|e
   ·exact absurd e.symm hl
   ·exact e
theorem k_four {c:List Int} {u:Int} (hu:u≠0) (h: ∀y∈c,¬0<ofF f y):lukGo f 4 u c=(4,0):=by
 induction c with
 | nil=>rfl
 | cons l r ih=>
  have hr:=ih (fun y hy=>h y (List.mem_cons_of_mem _ hy))
  unfold lukGo
  rw[if_neg (h l List.mem_cons_self)]
  split
  ·exact hr
  ·exact hr
theorem k_open3 {c:List Int} {u:Int} (hu:u≠0) (h: ∀y∈c,¬0<ofF f y) (hx: ∃y∈c,y≠u∧ofF f y=0):lukGo f 3 u c=(4,0):=by
 induction c with
 | nil=>
  obtain⟨y,hy,_⟩:=hx
  cases hy
 | cons l r ih=>
  have hr:=fun y hy=>h y (List.mem_cons_of_mem _ hy)
  unfold lukGo
  rw[if_neg (h l List.mem_cons_self)]
  by_cases hl:ofF f l<0∨l=u
  ·rw[if_pos hl]
   refine ih hr ?_
   obtain⟨y,hy,h1,h2⟩:=hx
   rcases List.mem_cons.1 hy with rfl|hy
   ·rcases hl with hl|hl
    ·omega
    ·exact absurd hl h1
   ·exact⟨y,hy,h1,h2⟩
  ·rw[if_neg hl,if_neg hu]
   exact k_four hu hr
theorem k_open {c:List Int} {a b:Int} (hab:a≠b) (ha:a∈c) (hb:b∈c) (ha0:ofF f a=0) (hb0:ofF f b=0) (h: ∀y∈c,¬0<ofF f y) (hn: ∀y∈c,y≠0):lookF f c=(4,0):=by
 show lukGo f 2 0 c=_
 induction c with
 | nil=>cases ha
 | cons l r ih=>
  have hr:=fun y hy=>h y (List.mem_cons_of_mem _ hy)
  have hl1:=h l List.mem_cons_self
  have hl0:=hn l List.mem_cons_self
  unfold lukGo
  rw[if_neg hl1]
  by_cases hl:ofF f l<0
  ·rw[if_pos (.inl hl)]
   refine ih ?_ ?_ hr (fun y hy=>hn y (List.mem_cons_of_mem _ hy))
   ·rcases List.mem_cons.1 ha with e|e
    ·rw[←e]at hl
     omega
    ·exact e
   ·rcases List.mem_cons.1 hb with e|e
    ·rw[←e]at hl
     omega
    ·exact e
  ·rw[if_neg (by
      rintro (h2|h2)
      ·exact hl h2
      ·exact hl0 h2),if_pos rfl]
   refine k_open3 hl0 hr ?_
   by_cases e:l=a
   ·rcases List.mem_cons.1 hb with e2|e2
    ·exact absurd (e.symm.trans e2.symm) hab
    ·exact⟨b,e2,fun e3=>hab (e.symm.trans e3.symm),hb0⟩
   ·rcases List.mem_cons.1 ha with e2|e2
    ·exact absurd e2.symm e
    ·exact⟨a,e2,fun e3=>e e3.symm,ha0⟩
end
end Go.Proofs.YtoojmhjagipmdaaGreat
namespace Go.Proofs.YtoojmhjagipmdaaGreat
open Go.RowKit
def folGo (f:Int→Int):List (List Int)→List Int→Nat→List Int×Nat×Bool×Nat
 | [],us,i=>(us,i,false,0)
 | c::r,us,i=>if(lookF f c).1=2 then(us,i+1,true,0)else if(lookF f c).1=3 then folGo (putF f (lookF f c).2) r (us++ [(lookF f c).2]) (i+1)else([],i,false,81)
def chkP (c:List Int) (hs:List (List Int)):List Int×Nat×Nat:=
 if alwL c=true then([],0,0)else match asgF (asmL c)with
  | none=>([],0,82)
  | some f=>((folGo f hs [] 0).1,(folGo f hs [] 0).2.1,if(folGo f hs [] 0).2.2.2=0∧(folGo f hs [] 0).2.2.1=false then 82 else(folGo f hs [] 0).2.2.2)
def trimP (c:List Int) (hs:List (List Int)):List Int:=if(chkP c hs).2.2=0∧(chkP c hs).2.1≠0 then needL (hs.take (chkP c hs).2.1) (chkP c hs).1 else []
def Says (f:Int→Int) (P:Int→Prop):Prop:= ∀y,litB y=true→((0<ofF f y↔P y)∧(ofF f y<0↔P (-y)))
theorem asm_ok {L:List Int} (hL:clauseB L=true) (hno: ∀y∈L,-y∉L): ∃f,asgF (asmL L)=some f∧Says f (fun y=> -y∈L):=by
 have hr: ∀x∈L,litB x=true:=fun x hx=>by
  unfold clauseB at hL
  rw[Bool.and_eq_true]at hL
  exact List.all_eq_true.1 hL.2 x hx
 have hmem: ∀x,x∈asmL L↔ -x∈L:=fun x=>by
  unfold asmL
  rw[sortL_mem,List.mem_map]
  constructor
  ·rintro ⟨y,hy,rfl⟩
   have hy:=(normL_has hr).1 hy
   rw[litN_eq (hr y hy),Int.neg_neg]
   exact hy
  ·intro h
   exact⟨-x,(normL_has hr).2 h,by rw[litN_eq (hr _ h),Int.neg_neg]⟩
 have hb: ∀x∈asmL L,litB x=true:=fun x hx=>by
  have:=hr _ ((hmem x).1 hx)
  rwa [litB_minus]at this
 have hnd:((asmL L).map litV).Nodup:=by
  unfold asmL
  refine((sortL_perm _).map litV).nodup_iff.2 ?_
  unfold List.Nodup
  rw[List.pairwise_map,List.pairwise_map]
  refine(normL_nodup hr).imp_of_mem ?_
  intro a b ha hb hne e
  have ha:=(normL_has hr).1 ha
  have hb:=(normL_has hr).1 hb
  rw[litN_eq (hr a ha),litN_eq (hr b hb),litV_negate,litV_negate]at e
  rcases litV_two (hr a ha) e with h|h
  ·exact hne h.symm
  ·exact hno a ha (h▸hb)
 obtain⟨g,h1,h2,h3⟩:=k_asg (asmL L) (fun _=>0) hb hnd (fun _ _=>rfl)
 refine⟨g,h1,fun y hy=>?_⟩
 have hzero: ∀z,ofF (fun _=>0) z=0:=fun z=>by unfold ofF;split <;> rfl
 suffices key:(0<ofF g y↔ -y∈L)∧(ofF g y<0↔y∈L)from⟨key.1,key.2.trans (by show y∈L↔ - -y∈L;rw[Int.neg_neg])⟩
 by_cases hy1:y∈L
 ·have:=(h3 (-y) ((hmem _).2 (by rw[Int.neg_neg];exact hy1))).2
  rw[Int.neg_neg]at this
  rw[this]
  exact⟨⟨fun h=>by omega,fun h=>absurd h (hno y hy1)⟩,⟨fun _=>hy1,fun _=>by decide⟩⟩
 ·by_cases hy2: -y∈L
  ·have:=(h3 y ((hmem _).2 hy2)).1
   rw[this]
   exact⟨⟨fun _=>hy2,fun _=>by decide⟩,⟨fun h=>by omega,fun h=>absurd h hy1⟩⟩
  ·have hz:=h2 y fun x hx e=>by
    rcases litV_two (hb x hx) e with h|h
    ·exact hy2 ((hmem y).1 (h▸hx))
    ·have:=(hmem x).1 hx
     exact hy1 (by rw[h];exact this)
   rw[hz,hzero]
   exact⟨⟨fun h=>by omega,fun h=>absurd h hy2⟩,⟨fun h=>by omega,fun h=>absurd h hy1⟩⟩
theorem says_put {f:Int→Int} {P:Int→Prop} (h:Says f P) {x:Int} (hx:litB x=true) (hp: ¬P x) (hn: ¬P (-x)):Says (putF f x) (fun y=>P y∨y=x):=fun y hy=>by
 by_cases e:litV y=litV x
 ·rcases litV_two hx e.symm with h1|h1
  ·subst h1
   rw[k_put_self]
   refine⟨⟨fun _=>.inr rfl,fun _=>by decide⟩,⟨fun h=>by omega,fun h2=>?_⟩⟩
   rcases h2 with h2|h2
   ·exact absurd h2 hn
   ·have:=(litB_iff y).1 hy
    omega
  ·subst h1
   rw[k_put_neg f hx,Int.neg_neg]
   refine⟨⟨fun h=>by omega,fun h2=>?_⟩,⟨fun _=>.inr rfl,fun _=>by decide⟩⟩
   rcases h2 with h2|h2
   ·exact absurd h2 hn
   ·have:=(litB_iff x).1 hx
    omega
 ·rw[k_put_ne f e]
  have hne:y≠x:=fun h=>e (by rw[h])
  have hne2: -y≠x:=fun h=>e (by rw[←h,litV_negate])
  have:=h y hy
  exact⟨this.1.trans ⟨.inl,fun h=>h.resolve_right hne⟩,this.2.trans ⟨.inl,fun h=>h.resolve_right hne2⟩⟩
theorem needM_one {f:Int→Int} {xs:List Int} {z:Int} (h:f z=1∨∃l∈xs,z=litN l):needM f xs z=1:=by
 unfold needM
 induction xs generalizing f with
 | nil=>
  rcases h with h|⟨l,hl,_⟩
  ·exact h
  ·cases hl
 | cons x xs ih=>
  rw[List.foldl_cons]
  refine ih ?_
  rcases h with h|⟨l,hl,e⟩
  ·left
   show(if z=litN x then(1:Int)else f z)=1
   split
   ·rfl
   ·exact h
  ·rcases List.mem_cons.1 hl with h2|h2
   ·left
    show(if z=litN x then(1:Int)else f z)=1
    rw[if_pos (by rw[e,h2])]
   ·exact .inr ⟨l,h2,e⟩
theorem needGo_all {hs:List (List Int)} {us:List Int}: ∀(k:Nat) (f:Int→Int) (out:List Int),(∀j,j<k→j<us.length→f (us.getD j 0)=1∨∃i,j<i∧i<k∧∃l∈hs.getD i [],us.getD j 0=litN l)→(needGo hs us k f out).length=out.length+k:=by
 intro k
 induction k with
 | zero=>exact fun _ _ _=>rfl
 | succ k ih=>
  intro f out h
  have hk: ¬(k<us.length∧f (us.getD k 0)=0):=by
   rintro ⟨h1,h2⟩
   rcases h k (Nat.lt_succ_self k) h1 with h3|⟨i,h3,h4,_⟩
   ·omega
   ·omega
  unfold needGo
  rw[if_neg hk,ih]
  ·rw[List.length_append,List.length_singleton]
   omega
  ·intro j hj hju
   rcases h j (by omega) hju with h3|⟨i,h3,h4,l,h5,h6⟩
   ·exact .inl (needM_one (.inl h3))
   ·rcases Nat.eq_or_lt_of_le (Nat.le_of_lt_succ h4)with e|hlt
    ·subst e
     exact .inl (needM_one (.inr ⟨l,h5,h6⟩))
    ·exact .inr ⟨i,h3,hlt,l,h5,h6⟩
end Go.Proofs.YtoojmhjagipmdaaGreat
namespace Go.Proofs.YtoojmhjagipmdaaGreat
open Go.RowKit Go.Lib Go.Shelf Go.Sort
theorem own_of_cells {w:World} {base g n cap:Nat} {e:TypeId} {cur:Array Value} {xs:List Value} (hg:w.heap[g]? =some (.cells cur e (0,0))) (hb:base≤g) (hn:n≤cap) (hc:cap≤maxLen) (hs:cur.size=cap) (hl:xs.length=n)
  (hx: ∀j x,xs[j]? =some x→w.cell? ⟨g,j,none⟩=some x):w.ownsRow base e 1 (.slice (some ⟨g,0,none⟩) n cap) n xs:=by
 refine⟨by omega,.inr ⟨g,cap,cur,rfl,hb,hg,hn,hc,by omega,?_⟩⟩
 rw[Nat.mul_one]
 apply List.ext_getElem?
 intro j
 rw[List.getElem?_take]
 by_cases hj:j<n
 ·rw[if_pos hj]
  have hjx:xs[j]? =some xs[j]:=List.getElem?_eq_getElem (by omega)
  have:=hx j _ hjx
  rw[mx_cell hg]at this
  rw[hjx,Array.getElem?_toList]
  exact this
 ·rw[if_neg hj,List.getElem?_eq_none (by omega)]
theorem block_setCells {g:Nat} {e:TypeId} {fz:Nat×Nat} (vs:List Value): ∀(o:Nat) (w:World) (cur:Array Value),w.heap[g]? =some (.cells cur e fz)→∃cur',(w.setCells g o vs).heap[g]? =some (.cells cur' e fz)∧cur'.size=cur.size:=by
 induction vs with
 | nil=>exact fun o w cur h=>⟨cur,h,rfl⟩
 | cons v r ih=>
  intro o w cur h
  obtain⟨c',h1,h2⟩:=ih (o+1) (w.setCell ⟨g,o,none⟩ v) _ (mx_set h v)
  exact⟨c',h1,by rw[h2];simp⟩
theorem kept_setCells (w:World) (g o:Nat) (vs:List Value):Kept (fun k=>k=g) w (w.setCells g o vs):=by
 induction vs generalizing o w with
 | nil=>exact Kept.refl _ _
 | cons v r ih=>exact(Kept.setCell (Kept.refl (fun k=>k=g) w) _ _ rfl).trans (ih _ _) (fun _ _ h=>h)
theorem ints_one (r:List Int): ∀v∈r.map (Value.int .i64),v.oneCell'=true:=fun v hv=>by
 obtain⟨x,_,rfl⟩:=List.mem_map.1 hv
 rfl
theorem row_search {base:Nat} (v:Value) (r:List Int) (x:Int) (w:World) (h:w.ownsRow base 3 1 v r.length (r.map (Value.int .i64))) (hr:r.Pairwise (· < ·)) (hl:r.length≤1073741824):
  Calls Tryz.prog 148 #[v,.int .i64 x] w fun e w'=>e= .returned (.tuple #[.int .i64 (r.countP (· <x):Nat),.bool (r.contains x)])∧∃q,w'=w.drewN q:=by
 rcases h.2 with⟨rfl,h0⟩|⟨g,cap,cur,rfl,hb,hg,h1,h2,h3,h4⟩
 ·obtain rfl:r= []:=List.eq_nil_of_length_eq_zero h0
  refine(Tryz.slices_BinarySearch_int_empty none 0 x w).mono ?_
  rintro e w' ⟨rfl,rfl⟩
  exact⟨rfl,0,rfl⟩
 ·refine(Tryz.slices_BinarySearch_int g 0 r.length cap r x w (Nat.le_refl _) (by omega) (fun j hj=>?_) ?_).mono ?_
  ·rw[Nat.zero_add]
   refine mx_at h ?_
   rw[List.getElem?_map,List.getElem?_eq_getElem hj]
   simp[List.getD_eq_getElem?_getD,List.getElem?_eq_getElem hj]
  ·rw[List.take_length]
   exact hr.imp (fun h=>Int.le_of_lt h)
  ·rintro e w' ⟨rfl,hq⟩
   rw[List.take_length]
   exact⟨rfl,hq⟩
theorem row_delete {base:Nat} (v:Value) (r:List Int) (i:Nat) (w:World) (h:w.ownsRow base 3 1 v r.length (r.map (Value.int .i64))) (hi:i<r.length):
  Calls Tryz.prog 176 #[v,.int .i64 (i:Nat),.int .i64 ((i:Int)+1)] w fun e w'=> ∃v',e= .returned v'∧w'.ownsRow base 3 1 v' (r.length-1) ((r.eraseIdx i).map (Value.int .i64))∧Kept (fun g=>v.ownBlock=some g) w w'∧v'.ownBlock=v.ownBlock:=by
 rcases h.2 with⟨rfl,h0⟩|⟨g,cap,cur,rfl,hb,hg,h1,h2,h3,h4⟩
 ·omega
 ·have hle:(r.eraseIdx i).length=r.length-1:=by rw[List.length_eraseIdx,if_pos hi]
  have H:=Tryz.slices_Delete_int g 0 cap i (i+1) r w (st_holds hg (by simpa using h4)) h1 h2 (by omega) (by omega)
  rw[show((i+1:Nat):Int)=(i:Int)+1 from by omega]at H
  refine H.mono ?_
  rintro e w' ⟨rfl,q,rfl⟩
  have e1:i+1-i=1:=by omega
  rw[e1,←List.eraseIdx_eq_take_drop_succ]
  refine⟨_,rfl,?_,st_kept1 _,rfl⟩
  refine⟨by simp[hle],.inr ⟨g,cap,_,rfl,hb,st_heap1 _ hg,by omega,h2,by simp[putCells,h3],?_⟩⟩
  have ht:=st_take cur (r.eraseIdx i++ [0]) (by rw[List.length_append,hle,List.length_singleton];omega)
  have e2:(r.length-1)*1=(r.eraseIdx i).length:=by rw[hle,Nat.mul_one]
  rw[e2]
  have e3:=congrArg (List.take (r.eraseIdx i).length) ht
  rw[List.take_take,Nat.min_eq_left (by simp)]at e3
  rw[show List.replicate 1 (0:Int)= [0]from rfl,e3,List.map_append,List.take_append_of_le_length (by simp),List.take_of_length_le (by simp)]
theorem insI_get {r:List Int} {x:Int} {i:Nat} (hi:r.countP (· <x)=i) (hil:i≤r.length) (j:Nat):(insI r x)[j]? =if j<i then r[j]? else if j=i then some x else r[j-1]? :=by
 unfold insI
 rw[hi]
 have hl:(r.take i).length=i:=by rw[List.length_take];omega
 by_cases h1:j<i
 ·rw[if_pos h1,List.getElem?_append_left (by omega),List.getElem?_take,if_pos h1]
 ·rw[if_neg h1,List.getElem?_append_right (by omega),hl]
  by_cases h2:j=i
  ·rw[if_pos h2,h2,Nat.sub_self]
   rfl
  ·rw[if_neg h2]
   obtain⟨k,hk⟩: ∃k,j-i=k+1:=⟨j-i-1,by omega⟩
   rw[hk,List.getElem?_cons_succ,List.getElem?_drop]
   congr 1
   omega
theorem own_insI {w:World} {base g n cap i:Nat} {cur:Array Value} {r:List Int} {x:Int} (hg:w.heap[g]? =some (.cells cur 3 (0,0))) (hb:base≤g) (hn:r.length+1≤cap) (hc:cap≤maxLen) (hs:cur.size=cap) (hrn:r.length=n) (hi:r.countP (· <x)=i) (hil:i≤n)
  (h1: ∀j y,j<i→r[j]? =some y→w.cell? ⟨g,j,none⟩=some (.int .i64 y)) (h2:w.cell? ⟨g,i,none⟩=some (.int .i64 x)) (h3: ∀j y,i≤j→r[j]? =some y→w.cell? ⟨g,j+1,none⟩=some (.int .i64 y)):
  w.ownsRow base 3 1 (.slice (some ⟨g,0,none⟩) (n+1) cap) (n+1) ((insI r x).map (Value.int .i64)):=by
 refine own_of_cells hg hb (by omega) hc hs (by rw[List.length_map,insI_length];omega) (fun j u hu=>?_)
 rw[List.getElem?_map,Option.map_eq_some_iff]at hu
 obtain⟨y,hy,rfl⟩:=hu
 rw[insI_get hi (by omega)]at hy
 split at hy
 ·rename_i hj
  exact h1 j y hj hy
 ·split at hy
  ·rename_i hj
   rw[hj,h2,Option.some.inj hy]
  ·rename_i hj hj2
   have:=h3 (j-1) y (by omega) hy
   rwa [show j-1+1=j by omega]at this
theorem zero_size (k:Nat):(Builtin.zeroCells (Value.int .i64 0).cells k).size=k:=by
 show(Builtin.zeroCells #[Value.int .i64 0] k).size=k
 simp[Builtin.zeroCells]
theorem row_insert {base vb:Nat} (v:Value) (r:List Int) (x:Int) (w:World) (h:w.ownsRow base 3 1 v r.length (r.map (Value.int .i64))) (hbase:base≤w.heap.size) (hvb:w.heap[vb]? =some (.cells #[.int .i64 x] 3 (0,0))) (hne:v.ownBlock≠some vb) (hl:r.length≤1073741824):
  Calls Tryz.prog 149 #[v,.int .i64 (r.countP (· <x):Nat),.slice (some ⟨vb,0,none⟩) 1 1] w fun e w'=> ∃v',e= .returned v'∧w'.ownsRow base 3 1 v' (r.length+1) ((insI r x).map (Value.int .i64))∧Kept (fun g=>v.ownBlock=some g) w w'∧(v'.ownBlock=v.ownBlock∨v'.ownBlock=some w.heap.size):=by
 have hvs: ∀(W:World),Below w.heap.size w W→∀j u,[Value.int .i64 x][j]? =some u→W.cell? ⟨vb,0+j,none⟩=some u:=fun W hW j u hu=>by
  match j,hu with
  | 0,hu=>
   rw[(hW.cell (p:=⟨vb,0+0,none⟩) (heap_lt hvb)),mx_cell hvb]
   exact hu
 have hvs0:=hvs w (Below.refl _ _)
 have h1v: ∀u∈ [Value.int .i64 x],u.oneCell'=true:=fun u hu=>by rw[List.mem_singleton.1 hu];rfl
 obtain⟨i,hi⟩: ∃i,r.countP (· <x)=i:=⟨_,rfl⟩
 have hil:i≤r.length:=by rw[←hi];exact countP_le_len r x
 obtain⟨n,hn⟩: ∃n,r.length=n:=⟨_,rfl⟩
 have hget: ∀j y,r[j]? =some y→(r.map (Value.int .i64))[j]? =some (Value.int .i64 y):=fun j y hj=>by rw[List.getElem?_map,hj];rfl
 have hml:(r.map (Value.int .i64)).length=n:=by rw[List.length_map,hn]
 rw[hi]
 rw[hn]at h hl hil⊢
 have fresh: ∀(W:World) (cur:Array Value) (c:Nat),W.heap[w.heap.size]? =some (.cells cur 3 (0,0))→cur.size=c→n+1≤c→c≤maxLen→(∀j y,j<i→r[j]? =some y→W.cell? ⟨w.heap.size,j,none⟩=some (.int .i64 y))→W.cell? ⟨w.heap.size,i,none⟩=some (.int .i64 x)→(∀j y,i≤j→r[j]? =some y→W.cell? ⟨w.heap.size,j+1,none⟩=some (.int .i64 y))→
   W.ownsRow base 3 1 (.slice (some ⟨w.heap.size,0,none⟩) (n+1) c) (n+1) ((insI r x).map (Value.int .i64)):=fun W cur c hW hs hc hm h1 h2 h3=>
  own_insI hW hbase (by omega) hm hs hn hi hil h1 h2 h3
 rcases h.2 with⟨rfl,h0⟩|⟨g,cap,cur,rfl,hb,hg,h1,h2,h3,h4⟩
 ·obtain rfl:r= []:=List.eq_nil_of_length_eq_zero (by omega)
  obtain rfl:n=0:=by rw[←hn];rfl
  obtain rfl:i=0:=by omega
  have H:=Tryz.slices_Insert_int_end_grow none 0 0 vb 0 1 1 [] [.int .i64 x] w (by omega) (by omega) (by omega) (by decide) rfl rfl (fun _=>rfl) (fun a ha=>by cases ha) hvs0 h1v
  refine H.mono ?_
  rintro e w' ⟨rfl,rfl⟩
  have hge:=grownCap_ge w 1 0 3
  have hmx:=grownCap_le_maxLen w 1 0 3 (by unfold maxLen;omega)
  refine⟨_,rfl,?_,(Kept.drew (Kept.refl _ w) 1).alloc _,.inr rfl⟩
  refine fresh _ _ _ (World.alloc_heap_new w.drew _) ?_ hge hmx (fun j y hj=>by omega) ?_ (fun j y _ hj=>by simp at hj)
  ·rw[Array.size_append,zero_size]
   simp
   omega
  ·rw[show w.heap.size=w.drew.heap.size from rfl,cell_new,Array.getElem?_append_left (by simp)]
   rfl
 ·have hcell: ∀(W:World),Below w.heap.size w W→∀j y,r[j]? =some y→W.cell? ⟨g,j,none⟩=some (.int .i64 y):=fun W hW j y hj=>(hW.cell (p:=⟨g,j,none⟩) (heap_lt hg)).trans (mx_at h (hget j y hj))
  have hcs: ∀j u,(r.map (Value.int .i64))[j]? =some u→w.cell? ⟨g,0+j,none⟩=some u:=fun j u hu=>by rw[Nat.zero_add];exact mx_at h hu
  have hsp: ∀j,j<cap→(w.cell? ⟨g,j,none⟩).isSome=true:=fun j hj=>by
   rw[mx_cell hg,Array.getElem?_eq_getElem (by omega)]
   rfl
  have hfz: ∀j,w.frozen? ⟨g,j,none⟩=false:=fun j=>by simp[World.frozen?,hg]
  have hgv:vb≠g:=fun e=>hne (by rw[e];rfl)
  by_cases hin:i<n
  ·by_cases hroom:n+1≤cap
   ·have H:=Tryz.slices_Insert_int_shift g 0 n cap i vb 0 1 1 (r.map (Value.int .i64)) [.int .i64 x] w hin (by omega) hroom (by unfold maxLen at h2;omega) hgv hml rfl hcs (fun j hj=>by rw[Nat.zero_add];exact hsp j (by omega)) (fun j _=>by rw[Nat.zero_add];exact hfz j) hvs0 (ints_one r) h1v 3 3 1 cap (by simp[World.shape?,hvb]) (by simp[World.shape?,hg];omega) (by omega) (by simp[World.frozen?,hvb]) (by simp[World.frozen?,hvb])
    refine H.mono ?_
    rintro e w' ⟨rfl,rfl⟩
    obtain⟨c1,hc1,hs1⟩:=block_setCells ((r.map (Value.int .i64)).drop i) (0+(i+1)) w.drew cur hg
    obtain⟨c2,hc2,hs2⟩:=block_setCells [Value.int .i64 x] (0+i) _ c1 hc1
    have hdl:((r.map (Value.int .i64)).drop i).length=n-i:=by rw[List.length_drop,hml]
    have q1: ∀j,j<((r.map (Value.int .i64)).drop i).length→(w.drew.cell? ⟨g,0+(i+1)+j,none⟩).isSome=true:=fun j hj=>hsp _ (by omega)
    refine⟨_,rfl,?_,((((Kept.drew (Kept.refl _ w) 1).trans (kept_setCells _ _ _ _) (fun _ _ h=>h)).trans (kept_setCells _ _ _ _) (fun _ _ h=>h)).mono (fun k _ h=>by rw[h];rfl)),.inl rfl⟩
    refine own_insI hc2 hb (by omega) h2 (by omega) hn hi hil (fun j y hj hy=>?_) ?_ (fun j y hj hy=>?_)
    ·rw[World.cell?_setCells_out _ _ _ _ _ (fun _ _=>.inl (by show j<0+i;omega)),World.cell?_setCells_out _ _ _ _ _ (fun _ _=>.inl (by show j<0+(i+1);omega))]
     exact hcell w.drew (mx_drew w) j y hy
    ·have:=World.cell?_setCells_in g [Value.int .i64 x] (0+i) (w.drew.setCells g (0+(i+1)) ((r.map (Value.int .i64)).drop i)) (fun j hj=>by
      have:j=0:=by simpa using hj
      subst this
      rw[World.cell?_setCells_out _ _ _ _ _ (fun _ _=>.inl (by show 0+i+0<0+(i+1);omega))]
      exact hsp _ (by omega)) 0 (by simp)
     rw[show 0+i+0=i by omega]at this
     exact this
    ·have hjn:=(List.getElem?_eq_some_iff.1 hy).1
     have:=World.cell?_setCells_in g ((r.map (Value.int .i64)).drop i) (0+(i+1)) w.drew q1 (j-i) (by omega)
     rw[World.cell?_setCells_out _ _ _ _ _ (fun _ _=>.inr (by show 0+i+1≤j+1;omega)),show j+1=0+(i+1)+(j-i) by omega,this]
     have hm:=hget j y hy
     rw[←List.getElem?_eq_getElem,List.getElem?_drop,show i+(j-i)=j by omega,hm]
   ·have H:=Tryz.slices_Insert_int_grow g 0 n cap i vb 0 1 1 (r.map (Value.int .i64)) [.int .i64 x] w hin (by omega) h1 (by omega) (by omega) hml rfl hcs hvs0 (ints_one r) h1v
    refine H.mono ?_
    rintro e w' ⟨rfl,rfl⟩
    have hge:=grownCap_ge w (n+1) cap 3
    have hmx:=grownCap_le_maxLen w (n+1) cap 3 (by unfold maxLen;omega)
    obtain⟨G,hG⟩: ∃G,grownCap w (n+1) cap 3=G:=⟨_,rfl⟩
    rw[hG]at hge hmx⊢
    obtain⟨C,hC⟩: ∃C,((r.map (Value.int .i64)).take i).toArray++Builtin.zeroCells (Value.int .i64 0).cells (n+1-i)++Builtin.zeroCells (Value.int .i64 0).cells (G-(n+1))=C:=⟨_,rfl⟩
    have hCs:C.size=G:=by
     rw[←hC,Array.size_append,Array.size_append,zero_size,zero_size]
     simp
     omega
    have hCx: ∀j y,j<i→r[j]? =some y→C[j]? =some (Value.int .i64 y):=fun j y hj hy=>by
     have hjn:=(List.getElem?_eq_some_iff.1 hy).1
     rw[←hC,Array.append_assoc,Array.getElem?_append_left (by simp;omega)]
     rw[List.getElem?_toArray,List.getElem?_take,if_pos hj]
     exact hget j y hy
    rw[hC]
    obtain⟨W0,hW0⟩: ∃W,w.alloc (.cells C 3)=W:=⟨_,rfl⟩
    have hb0:Below w.heap.size w W0:=by rw[←hW0];exact mx_al _ _
    have hg0:W0.heap[w.heap.size]? =some (.cells C 3 (0,0)):=by rw[←hW0];exact World.alloc_heap_new _ _
    rw[hW0]
    obtain⟨c1,hc1,hs1⟩:=block_setCells [Value.int .i64 x] i W0.drew C hg0
    obtain⟨c2,hc2,hs2⟩:=block_setCells ((r.map (Value.int .i64)).drop i) (i+1) _ c1 (show(W0.drew.setCells w.heap.size i [.int .i64 x]).drew.heap[w.heap.size]? =_ from hc1)
    have hdl:((r.map (Value.int .i64)).drop i).length=n-i:=by rw[List.length_drop,hml]
    have hs0: ∀j,j<G→(W0.drew.cell? ⟨w.heap.size,j,none⟩).isSome=true:=fun j hj=>by
     rw[show W0.drew.cell? ⟨w.heap.size,j,none⟩=C[j]? from mx_cell (w:=W0.drew) hg0,Array.getElem?_eq_getElem (by omega)]
     rfl
    have hs1': ∀j,j<G→((W0.drew.setCells w.heap.size i [.int .i64 x]).drew.cell? ⟨w.heap.size,j,none⟩).isSome=true:=fun j hj=>World.isSome_setCells w.heap.size [Value.int .i64 x] i W0.drew ⟨w.heap.size,j,none⟩ (hs0 j hj)
    have hkb:Below w.heap.size w ((W0.drew.setCells w.heap.size i [.int .i64 x]).drew.setCells w.heap.size (i+1) ((r.map (Value.int .i64)).drop i)):=
     ((hb0.drew.trans ((kept_setCells _ _ _ _).below (fun k e=>by omega) (by show w.heap.size≤W0.heap.size;exact hb0.size))).drew).trans ((kept_setCells _ _ _ _).below (fun k e=>by omega) (by show w.heap.size≤(W0.drew.setCells w.heap.size i [.int .i64 x]).heap.size;have:=(kept_setCells W0.drew w.heap.size i [.int .i64 x]).size;have h0:w.heap.size≤W0.drew.heap.size:=hb0.size;omega))
    refine⟨_,rfl,?_,Kept.of_below hkb,.inr rfl⟩
    refine fresh _ c2 G hc2 (by omega) hge hmx (fun j y hj hy=>?_) ?_ (fun j y hj hy=>?_)
    ·rw[World.cell?_setCells_out _ _ _ _ _ (fun _ _=>.inl (by show j<i+1;omega))]
     show(W0.drew.setCells w.heap.size i [.int .i64 x]).cell? _=_
     rw[World.cell?_setCells_out _ _ _ _ _ (fun _ _=>.inl (by show j<i;omega)),show W0.drew.cell? ⟨w.heap.size,j,none⟩=C[j]? from mx_cell (w:=W0.drew) hg0]
     exact hCx j y hj hy
    ·rw[World.cell?_setCells_out _ _ _ _ _ (fun _ _=>.inl (by show i<i+1;omega))]
     have:=World.cell?_setCells_in w.heap.size [Value.int .i64 x] i W0.drew (fun j hj=>hs0 _ (by simp at hj;omega)) 0 (by simp)
     exact this
    ·have hjn:=(List.getElem?_eq_some_iff.1 hy).1
     have:=World.cell?_setCells_in w.heap.size ((r.map (Value.int .i64)).drop i) (i+1) (W0.drew.setCells w.heap.size i [.int .i64 x]).drew (fun j hj=>hs1' _ (by omega)) (j-i) (by omega)
     rw[show j+1=i+1+(j-i) by omega,this]
     have hm:=hget j y hy
     rw[←List.getElem?_eq_getElem,List.getElem?_drop,show i+(j-i)=j by omega,hm]
  ·obtain rfl:i=n:=by omega
   by_cases hroom:i+1≤cap
   ·have H:=Tryz.slices_Insert_int_end_room g 0 i cap vb 0 1 1 [.int .i64 x] w (by omega) hroom (by unfold maxLen at h2;omega) rfl (fun j hj=>hsp _ (by omega)) (fun j _=>hfz _) hvs0 h1v
    refine H.mono ?_
    rintro e w' ⟨rfl,rfl⟩
    obtain⟨c2,hc2,hs2⟩:=block_setCells [Value.int .i64 x] (0+i) _ cur hg
    refine⟨_,rfl,?_,(kept_setCells _ _ _ _).mono (fun k _ h=>by rw[h];rfl),.inl rfl⟩
    refine own_insI hc2 hb (by omega) h2 (by omega) hn hi hil (fun j y hj hy=>?_) ?_ (fun j y hj hy=>?_)
    ·rw[World.cell?_setCells_out _ _ _ _ _ (fun _ _=>.inl (by show j<0+i;omega))]
     exact hcell w (Below.refl _ _) j y hy
    ·have:=World.cell?_setCells_in g [Value.int .i64 x] (0+i) w (fun j hj=>hsp _ (by simp at hj;omega)) 0 (by simp)
     rw[show 0+i+0=i by omega]at this
     exact this
    ·have hjn:=(List.getElem?_eq_some_iff.1 hy).1
     omega
   ·have H:=Tryz.slices_Insert_int_end_grow (some ⟨g,0,none⟩) i cap vb 0 1 1 (r.map (Value.int .i64)) [.int .i64 x] w (by omega) h1 (by omega) (by omega) hml rfl (fun h=>by cases h) (fun a ha j u hu=>by
     obtain rfl:=Option.some.inj ha
     rw[addr_add2]
     exact hcs j u hu) hvs0 h1v
    refine H.mono ?_
    rintro e w' ⟨rfl,rfl⟩
    have hge:=grownCap_ge w (i+1) cap 3
    have hmx:=grownCap_le_maxLen w (i+1) cap 3 (by unfold maxLen;omega)
    refine⟨_,rfl,?_,(Kept.drew (Kept.refl _ w) 1).alloc _,.inr rfl⟩
    refine fresh _ _ _ (World.alloc_heap_new w.drew _) ?_ hge hmx (fun j y hj hy=>?_) ?_ (fun j y hj hy=>?_)
    ·rw[Array.size_append,zero_size]
     simp
     omega
    ·have hjn:=(List.getElem?_eq_some_iff.1 hy).1
     rw[show w.heap.size=w.drew.heap.size from rfl,cell_new,Array.getElem?_append_left (by simp;omega),List.getElem?_toArray,List.getElem?_append_left (by simp;omega)]
     exact hget j y hy
    ·rw[show w.heap.size=w.drew.heap.size from rfl,cell_new,Array.getElem?_append_left (by simp;omega),List.getElem?_toArray,List.getElem?_append_right (by omega),hml,Nat.sub_self]
     rfl
    ·have hjn:=(List.getElem?_eq_some_iff.1 hy).1
     omega
end Go.Proofs.YtoojmhjagipmdaaGreat
