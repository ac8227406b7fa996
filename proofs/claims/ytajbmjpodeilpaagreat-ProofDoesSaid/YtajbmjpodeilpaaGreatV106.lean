/- Plain: what is assumed where a clause fails has values. Plain: a clause that holds always has a literal and its negation. package rup: moving. Reverse at rows that are owned. package rup: needed. Plain: variables of literals. Plain: what a clause is, by the values of literals. Plain: hints are followed from the negations of a clause. package salvorlaw08: True, AllTrue. Maps of any values at integer keys (int, or a type of its kind), that the program made: their entries in the order of the keys. -/
import Derived.Test.YtajbmjpodeilpaaGreatV104
import Derived.Test.YtajbmjpodeilpaaGreatV105
import Derived.Test.YtajbmjpodeilpaaGreatShelf
import Derived.Test.YtajbmjpodeilpaaGreatV103
import Derived.Test.YtajbmjpodeilpaaGreatV102
import Derived.Test.YtajbmjpodeilpaaGreatV100
import Derived.Maps.OwnSet
import Derived.Maps.OwnOps
namespace Go.Proofs.YtajbmjpodeilpaaGreat
open Go.RowKit Go.Maps Go.Shelf
theorem lukGo_unit {f:Int→Int} {k:Nat} {t u:Int} {c:List Int} (h:lukGo f k t c=(3,u)):(k=3∧u=t)∨(u∈c∧ofF f u=0):=by
 induction c generalizing k t with
 | nil=>
  simp only[lukGo,Prod.mk.injEq]at h
  obtain⟨rfl,h⟩:=h
  exact .inl ⟨rfl,by simpa using h.symm⟩
 | cons l r ih=>
  simp only[lukGo]at h
  split at h
  ·cases h
  ·rename_i h1
   split at h
   ·exact(ih h).imp_right (fun h=>⟨List.mem_cons_of_mem _ h.1,h.2⟩)
   ·rename_i h2
    simp only[not_or]at h2
    split at h
    ·rcases ih h with⟨_,rfl⟩|h
     ·exact .inr ⟨List.mem_cons_self,by omega⟩
     ·exact .inr ⟨List.mem_cons_of_mem _ h.1,h.2⟩
    ·rcases ih h with⟨h,_⟩|h
     ·cases h
     ·exact .inr ⟨List.mem_cons_of_mem _ h.1,h.2⟩
theorem lookF_unit {f:Int→Int} {u:Int} {c:List Int} (h:lookF f c=(3,u)):u∈c∧ofF f u=0:=by
 rcases lukGo_unit h with⟨h,_⟩|h
 ·cases h
 ·exact h
theorem ofF_put_self {f:Int→Int} {u:Int}:ofF (putF f u) u=1:=by
 unfold ofF putF
 cases litG u <;> simp
def freeN (f:Int→Int) (ls:List Int):Nat:=(ls.filter (fun l=>decide (ofF f l=0))).length
theorem asgGo_some {xs:List Int}: ∀(f:Int→Int),(∀x∈xs,litB x=true)→(∀x∈xs,∀y∈xs,y≠ -x)→(∀x∈xs,0≤ofF f x)→∃g,asgGo f xs=some g:=by
 induction xs with
 | nil=>exact fun f _ _ _=>⟨f,rfl⟩
 | cons x r ih=>
  intro f h1 h2 h3
  have hb:=h1 x List.mem_cons_self
  simp only[asgGo]
  rw[if_pos ⟨hb,h3 x List.mem_cons_self⟩]
  refine ih (putF f x) (fun y hy=>h1 y (List.mem_cons_of_mem _ hy)) (fun y hy z hz=>h2 y (List.mem_cons_of_mem _ hy) z (List.mem_cons_of_mem _ hz)) (fun y hy=>?_)
  have hyb:=h1 y (List.mem_cons_of_mem _ hy)
  have hne:=h2 x List.mem_cons_self y (List.mem_cons_of_mem _ hy)
  by_cases hv:((litV y:Nat):Int)=((litV x:Nat):Int)
  ·have e1:=litV_right hb
   have e2:=litV_right hyb
   obtain rfl:y=x:=by omega
   rw[ofF_put_self]
   decide
  ·have:=h3 y (List.mem_cons_of_mem _ hy)
   unfold ofF putF at *
   simp only[if_neg hv]
   exact this
theorem alw_pair {l:Int} {xs:List Int} (hr: ∀x∈xs,litB x=true) (hp:xs.Pairwise (fun a b=>litI a<litI b)) (h:alwGo l xs=false): ∀x∈xs,0<x→∀y∈xs,y≠ -x:=by
 induction xs generalizing l with
 | nil=>exact fun x hx=>by cases hx
 | cons z r ih=>
  obtain⟨hz,hpr⟩:=List.pairwise_cons.1 hp
  have hal:alwGo z r=false:=by
   simp only[alwGo,Bool.or_eq_false_iff]at h
   exact h.2
  have hir:=ih (fun x hx=>hr x (List.mem_cons_of_mem _ hx)) hpr hal
  have hI: ∀v:Int,0<v→litB v=true→litI (-v)=litI v+1:=fun v hv hb=>by
   have h1:=litV_right hb
   have hb2:litB (-v)=true:=by
    have:=(litB_iff v).1 hb
    exact(litB_iff (-v)).2 (by omega)
   have h2:=litV_right hb2
   unfold litI
   rw[if_pos (show -v<0 by omega),if_neg (show¬v<0 by omega)]
   omega
  rintro x hx hx0 y hy rfl
  rcases List.mem_cons.1 hx with rfl|hxr
  ·rcases List.mem_cons.1 hy with he|hyr
   ·omega
   ·have hy1:=hI x hx0 (hr x List.mem_cons_self)
    cases r with
    | nil=>cases hyr
    | cons y1 r'=>
     have h1:=hz y1 List.mem_cons_self
     have hy2:y1= -x:=by
      rcases List.mem_cons.1 hyr with h|h
      ·exact h.symm
      ·have:=(List.pairwise_cons.1 hpr).1 _ h
       omega
     have hb:=hr x List.mem_cons_self
     simp only[alwGo,Bool.or_eq_false_iff,Bool.and_eq_false_iff]at hal
     rcases hal.1 with h|h
     ·have:x≠0:=by omega
      simp[this]at h
     ·rw[hy2]at h
      unfold litN at h
      rw[if_pos hb]at h
      simp at h
  ·rcases List.mem_cons.1 hy with he|hyr
   ·have h1:=hz x hxr
    have h2:=hI x hx0 (hr x hx)
    rw[he]at h2
    omega
   ·exact hir x hxr hx0 _ hyr rfl
theorem asm_some {c:List Int} (hc:clauseB c=true) (ha:alwL c=false): ∃f,asgF (asmL c)=some f:=by
 have hr: ∀x∈c,litB x=true:=fun x hx=>by
  unfold clauseB at hc
  rw[Bool.and_eq_true]at hc
  exact List.all_eq_true.1 hc.2 x hx
 unfold alwL at ha
 rw[hc,Bool.true_and]at ha
 have hrn: ∀x∈normL c,litB x=true:=fun x hx=>hr x (normL_mem hx)
 have hp:=alw_pair hrn (normL_pair hr) ha
 have hneg: ∀x∈asmL c,litB x=true∧ -x∈normL c:=fun x hx=>by
  unfold asmL at hx
  obtain⟨y,hy,rfl⟩:=List.mem_map.1 (sortL_mem.1 hx)
  have hb:=hrn y hy
  have h1:=(litB_iff y).1 hb
  unfold litN
  rw[if_pos hb]
  exact⟨(litB_iff _).2 (by omega),by rw[Int.neg_neg];exact hy⟩
 unfold asgF
 refine asgGo_some _ (fun x hx=>(hneg x hx).1) (fun x hx y hy e=>?_) (fun x hx=>by unfold ofF;simp)
 have h1:=(hneg x hx).2
 have h2:=(hneg y hy).2
 rw[e,Int.neg_neg]at h2
 have h0:=(litB_iff x).1 (hneg x hx).1
 by_cases hx0:0<x
 ·exact hp x h2 hx0 (-x) h1 rfl
 ·exact hp (-x) h1 (by omega) x h2 (by omega)
end Go.Proofs.YtajbmjpodeilpaaGreat
namespace Go.Proofs.YtajbmjpodeilpaaGreat
open Go.RowKit
theorem alwGo_two {c:List Int} (hc: ∀y∈c,litB y=true): ∀{r:List Int} {l:Int},(l=0∨l∈c)→(∀x∈r,x∈c)→alwGo l r=true→∃y∈c,-y∈c:=by
 intro r
 induction r with
 | nil=>intro l _ _ h;cases h
 | cons x r ih=>
  intro l hl hr h
  unfold alwGo at h
  have hx:=hr x List.mem_cons_self
  rw[Bool.or_eq_true]at h
  rcases h with h|h
  ·rw[Bool.and_eq_true]at h
   obtain⟨h1,h2⟩:=h
   rcases hl with rfl|hl
   ·cases h1
   ·have e:x=litN l:=by simpa using h2
    unfold litN at e
    rw[if_pos (hc l hl)]at e
    exact⟨l,hl,e▸hx⟩
  ·exact ih (.inr hx) (fun y hy=>hr y (List.mem_cons_of_mem _ hy)) h
theorem alwL_two {c:List Int} (h:alwL c=true): ∃y∈c,-y∈c:=by
 unfold alwL at h
 rw[Bool.and_eq_true]at h
 obtain⟨h1,h2⟩:=h
 unfold clauseB at h1
 rw[Bool.and_eq_true,List.all_eq_true]at h1
 exact alwGo_two h1.2 (.inl rfl) (fun x hx=>normL_mem hx) h2
theorem alwL_no {c:List Int} (h: ∀y∈c,-y∉c):alwL c=false:=by
 cases ha:alwL c with
 | false=>rfl
 | true=>
  obtain⟨y,hy,hn⟩:=alwL_two ha
  exact absurd hn (h y hy)
end Go.Proofs.YtajbmjpodeilpaaGreat
namespace Go.Proofs.YtajbmjpodeilpaaGreat
open Go.RowKit Go.Maps Go.Shelf
attribute [local go_sem] Oper.semAt_some
def movL (f:Int→Int) (kd:Nat):Nat→List (List Int)→List (Nat×Int)
 | _,[]=> []
 | i,c::r=>if(lookF f c).1=kd then(i,(lookF f c).2)::movL f kd (i+1) r else movL f kd (i+1) r
def mvv (x:Nat×Int):Array Value:= #[.int .i64 (x.1:Int),.int .i64 x.2]
theorem ClsIn.narrow {O:Nat→Prop} {w:World} {v:Value} {cs:List (List Int)} (h:ClsIn O w v cs):ClsIn (fun g=>O g∧¬XO w g) w v cs:=by
 obtain⟨A,c,hv,hc,hn,hx⟩:=h
 refine⟨A,c,hv,hc,hn,fun i xs hi=>?_⟩
 obtain⟨g,o,u,h1,h2,h3,h4,h5⟩:=hx i xs hi
 exact⟨g,o,u,h1,h2,⟨h3,xo_cell h4⟩,h4,h5.narrow⟩
end Go.Proofs.YtajbmjpodeilpaaGreat
namespace Go.Proofs.YtajbmjpodeilpaaGreat
open Go.RowKit Go.Sort
theorem own_reverse {base:Nat} (v:Value) (xs:List Int) (w:World) (h:w.ownsRow base 3 1 v xs.length (xs.map (Value.int .i64))) (hl:xs.length<4611686018427387904):
  Calls Tryz.prog 108 #[v] w fun e w'=>e= .returned (.tuple #[])∧w'.ownsRow base 3 1 v xs.reverse.length (xs.reverse.map (Value.int .i64))∧Kept (fun g=>v.ownBlock=some g) w w':=by
 rcases h.2 with⟨rfl,h0⟩|⟨g,cap,cur,rfl,hb,hg,h1,h2,h3,h4⟩
 ·obtain rfl:xs= []:=List.eq_nil_of_length_eq_zero h0
  refine(Tryz.slices_Reverse_int_empty none 0 w).mono ?_
  rintro e w' ⟨rfl,rfl⟩
  exact⟨rfl,h,Kept.refl _ _⟩
 ·refine(Tryz.slices_Reverse_int g 0 cap xs w (st_holds hg (by simpa using h4)) (by omega)).mono ?_
  rintro e w' ⟨rfl,n,rfl⟩
  refine⟨rfl,?_,st_kept1 _⟩
  rw[List.length_reverse]
  refine⟨by simp,.inr ⟨g,cap,_,rfl,hb,st_heap1 _ hg,h1,h2,by simp[putCells,h3],?_⟩⟩
  have e:xs.length*1=xs.reverse.length:=by simp
  rw[e]
  exact st_take cur xs.reverse (by rw[List.length_reverse];omega)
end Go.Proofs.YtajbmjpodeilpaaGreat
namespace Go.Proofs.YtajbmjpodeilpaaGreat
open Go.RowKit Go.Maps Go.Shelf
def needM (f:Int→Int) (xs:List Int):Int→Int:=xs.foldl (fun f l=>fun z=>if z=litN l then 1 else f z) f
def needGo (hs:List (List Int)) (us:List Int):Nat→(Int→Int)→List Int→List Int
 | 0,_,out=>out
 | k+1,f,out=>if k<us.length∧f (us.getD k 0)=0 then needGo hs us k f out else needGo hs us k (needM f (hs.getD k [])) (out++ [(k:Int)])
def needL (hs:List (List Int)) (us:List Int):List Int:=(needGo hs us hs.length (fun _=>0) []).reverse
theorem wf_litN (l:Int):(Lit.int .i64 (litN l)).wf=true:=by
 unfold litN
 split
 ·rename_i h
  have:=(litB_iff l).1 h
  exact wf64 (by omega) (by omega)
 ·exact wf64 (by omega) (by omega)
theorem cinfo_int:(Tryz.prog.info? 3).map (fun i=>(i.zero,i.size,i.bytes))=some (some (.int .i64 0),1,8):=by kernel_rfl
set_option maxRecDepth 100000 in
set_option maxHeartbeats 4000000 in
theorem rup_needed {O Ou:Nat→Prop} (hv uv:Value) (hs:List (List Int)) (us:List Int) (w:World) (hh:ClsIn O w hv hs) (hu:IntsIn Ou w uv us) (hn:hs.length≤1000000) (hx: ∀xs∈hs,xs.length≤1000000) (hul:us.length≤1000000) (hw: ∀x∈us,(Lit.int .i64 x).wf=true):
  Calls Tryz.prog 71 #[hv,uv] w fun e w'=> ∃v,e= .returned v∧w'.ownsRow (w.heap.size+1) 3 1 v (needL hs us).length ((needL hs us).map (Value.int .i64))∧Below w.heap.size w w':=by
 have hmm:=@run_makeMap Tryz.prog
 obtain⟨i0,hi,hz0,hz1,hz2⟩:=info_parts cinfo_int
 obtain⟨W0,hW0⟩: ∃x,w.alloc (.map #[] 0)=x:=⟨_,rfl⟩
 have hb0:Below w.heap.size w W0:=by rw[←hW0];exact mx_al _ _
 have hm0:MapL W0 w.heap.size 0 (fun _=>0):=by rw[←hW0];exact MapL.made w
 have hs0:W0.heap.size=w.heap.size+1:=by rw[←hW0];simp
 have HH:=Lib.hid hh.lt
 have HU:=Lib.hid hu.lt
 have HX:=Lib.hid hx
 have HWF:=Lib.hid hw
 obtain⟨Ah,ch,rfl,_⟩:=hh
 obtain⟨Au,cu,rfl,_⟩:=hu
 have HW0:=Lib.hid hW0
 have HB0:=Lib.hid hb0
 have HM0:=Lib.hid hm0
 obtain⟨R,hR⟩: ∃r,needGo hs us hs.length (fun _=>0) []=r:=⟨_,rfl⟩
 have HR:=Lib.hid hR
 unfold needL
 rw[hR]
 clear hW0 hb0 hm0 hR hx hw
 go_enter Tryz.func71,Tryz.ntmps71
 go_wp2_with fail
 rw[HW0.out]
 go_loopw [5,7] (fun ov iv wr=> ∃(z:Int) (k n:Nat) (f:Int→Int) (out:List Int),iv= .int .i64 z∧ -1≤z∧z<1000000∧Hid (z+1=k)∧Hid (k≤hs.length)∧Hid (n≤(hs.length-k)*1000000)∧Hid (needGo hs us k f out=R)∧Hid (MapL wr w.heap.size n f)∧Hid (wr.ownsRow (w.heap.size+1) 3 1 ov out.length (out.map (Value.int .i64)))∧Hid (out.length≤hs.length-k)∧Hid (Below w.heap.size w wr∧w.heap.size+1≤wr.heap.size)) (fun _ iv _=>(intOf iv+1).toNat)
 case atStart=>exact⟨(hs.length:Int)-1,hs.length,0,_,[],rfl,by omega,by omega,Lib.hid (by omega),Lib.hid (Nat.le_refl _),Lib.hid (by omega),HR,HM0,Lib.hid (World.ownsRow_nil _ _ _ _),Lib.hid (by simp),Lib.hid ⟨HB0.out,by omega⟩⟩
 case round=>
  obtain⟨z,k1,n,f,out,rfl,hz1',hz2',HZ,HKL,HNB,HG,HM,HO,HOL,HB⟩:=hrel
  obtain⟨Ao,co,rfl,_⟩:=mx_slice HO.out
  by_cases hlt:0≤z
  ·obtain⟨k,rfl⟩: ∃k:Nat,z=(k:Int):=⟨z.toNat,by omega⟩
   obtain rfl:k1=k+1:=by have:=HZ.out;omega
   have hkl:k<hs.length:=HKL.out
   obtain⟨xs,hxk⟩:=getElem_of hkl
   have HXS:=Lib.hid (show hs.getD k []=xs from by rw[List.getD_eq_getElem?_getD,hxk];rfl)
   have hgo:=HG.out
   simp only[needGo]at hgo
   rw[HXS.out]at hgo
   obtain⟨A',c',hAc,_,_,hxs⟩:=HH.out
   simp only[Value.slice.injEq,true_and]at hAc
   obtain⟨rfl,rfl⟩:=hAc
   obtain⟨g,o,hv,rfl,hg,_,d0,hin⟩:=hxs k xs hxk
   have d1:wr.cell? ⟨g,o+k,none⟩=some hv:=(HB.out.1.cell (p:=⟨g,o+k,none⟩) hg).trans d0
   have hxl:=HX.out xs (List.mem_of_getElem? hxk)
   have HIN:=Lib.hid hin
   obtain⟨Ax,cx,rfl,_⟩:=hin
   clear hxk hxs d0
   have hbs:=HB.out.2
   have hol:=HOL.out
   have HZZ:=Lib.hid hz2'
   clear hz1' hz2' hlt hs0
   have hnb:n≤1000000000000:=Nat.le_trans HNB.out (Nat.le_trans (Nat.mul_le_mul_right _ (show _≤1000000 by omega)) (by decide))
   by_cases hku:k<us.length
   ·obtain⟨x,hxu⟩:=getElem_of hku
    have hxd:us.getD k 0=x:=by rw[List.getD_eq_getElem?_getD,hxu];rfl
    rw[hxd]at hgo
    obtain⟨A',c',hAc,_,_,hus⟩:=HU.out
    simp only[Value.slice.injEq,true_and]at hAc
    obtain⟨rfl,rfl⟩:=hAc
    obtain⟨gu,ou,rfl,hgu,_,u0⟩:=hus k x hxu
    have u1:wr.cell? ⟨gu,ou+k,none⟩=some (.int .i64 x):=(HB.out.1.cell (p:=⟨gu,ou+k,none⟩) hgu).trans u0
    have hlk:=HM.out.look (HWF.out x (List.mem_of_getElem? hxu))
    obtain⟨fx,hfx⟩: ∃y,f x=y:=⟨_,rfl⟩
    rw[hfx]at hgo hlk
    have hdu:decide ((k:Int)<(us.length:Int))=true:=by simp;omega
    clear hxu hxd hus u0 hfx
    by_cases hf0:fx=0
    ·rw[if_pos ⟨hku,hf0⟩]at hgo
     have q0:(fx==0)=true:=by simpa using hf0
     have HG2:=Lib.hid hgo
     clear hgo hf0 d1
     go_wp2_with fail
     go_roundw
     case rel=>exact⟨(k:Int)-1,k,n,f,out,by go_num,by omega,by have:=HZZ.out;omega,Lib.hid (by omega),Lib.hid (by omega),Lib.hid (Nat.le_trans HNB.out (Nat.mul_le_mul_right _ (by omega))),HG2,HM,HO,Lib.hid (by omega),HB⟩
     case measure=>simp[intOf]
    ·rw[if_neg (fun h=>hf0 h.2)]at hgo
     have q0:(fx==0)=false:=by simpa using hf0
     clear hf0
     have HG2:=Lib.hid hgo
     clear hgo
     go_wp2_with (at_builtin;refine wpList_append_own_at _ rfl _ _ 32 rfl (w.heap.size+1) 3 i0 (.int .i64 0) 1 8 Tryz.underlying32 hi hz0 hz1 hz2 rfl (by decide) _ out.length _ rfl (own_below HO.out (mx_al wr _)) ⟨wr.heap.size,0,none⟩ 1 1 [.int .i64 (k:Int)] rfl rfl (fun i u hi=>by
      match i,hi with
      | 0,hi=>simp at hi;subst hi;simp[Addr.add]) (fun u hu=>by rw[List.mem_singleton.1 hu];rfl) (by unfold maxLen;omega) (by omega) (by simp;omega) ?_;intro v' w2 hown hgrow hnl2 hat;obtain⟨g2,c2,rfl⟩:=ownsRow_succ hown;have hB2:Below (w.heap.size+1) wr w2:=((mx_al wr (.cells #[.int .i64 (k:Int)] 3)).mono hbs).grown hgrow (by simp;omega) (fun g hg=>(own_lt HO.out g hg).1);have d2:w2.cell? ⟨g,o+k,none⟩=some (.slice Ax xs.length cx):=(hB2.cell (p:=⟨g,o+k,none⟩) (by simp only;omega)).trans d1)
     have HO2:=Lib.hid hown
     have HB2:=Lib.hid hB2
     have HM2:=Lib.hid ((HM.out.below (mx_al wr (.cells #[.int .i64 (k:Int)] 3))).kept (Kept.grown hgrow) (fun e=>by
      have:=(own_lt HO.out _ e.symm).1
      omega))
     have hsz2:=hB2.size
     clear hown hgrow hnl2 hat hB2 d2 d1
     go_wp2_with fail
     obtain⟨wo,hwo⟩: ∃wo:World,wo=w2:=⟨_,rfl⟩
     rw[←hwo]at HO2 HB2 HM2 hsz2⊢
     clear hwo
     go_loopw [40] (fun iv wq=> ∃(j n':Nat),j≤xs.length∧iv= .int .i64 j∧n'≤n+j∧Hid (MapL wq w.heap.size n' (needM f (xs.take j)))∧Hid (Kept (fun g=>g=w.heap.size) wo wq)) (fun iv _=>xs.length-(intOf iv).toNat)
     case atStart=>exact⟨0,n,Nat.zero_le _,rfl,Nat.le_refl _,HM2,Lib.hid (Kept.refl _ _)⟩
     case round=>
      obtain⟨j,n',hj,rfl,hn',HMQ,HKQ⟩:=hrel
      by_cases hjl:j<xs.length
      ·obtain⟨y,hyk⟩:=getElem_of hjl
       obtain⟨A'',c'',hAc,_,_,hys⟩:=HIN.out
       simp only[Value.slice.injEq,true_and]at hAc
       obtain⟨rfl,rfl⟩:=hAc
       obtain⟨g3,o3,rfl,hg3,hlt3,f0⟩:=hys j y hyk
       have f1:wr.cell? ⟨g3,o3+j,none⟩=some (.int .i64 y):=(HKQ.out.cell (p:=⟨g3,o3+j,none⟩) (by simp only;omega) (by simp only;omega)).trans ((HB2.out.cell (p:=⟨g3,o3+j,none⟩) (by simp only;omega)).trans ((HB.out.1.cell (p:=⟨g3,o3+j,none⟩) hg3).trans f0))
       have HTK:=Lib.hid (show needM f (xs.take (j+1))=fun z=>if z=litN y then 1 else needM f (xs.take j) z from by
        unfold needM
        rw[List.take_add_one,hyk]
        simp)
       have HNG:=Lib.hid (fun W=>lit_neg y W)
       have HWN:=Lib.hid (wf_litN y)
       clear hyk hys f0
       go_wp2_with fail
       refine(HNG.out _).mono ?_
       rintro e w' ⟨rfl,rfl⟩
       go_wp2_with (at_mapUpdate;refine wpList_putL HMQ.out rfl _ _ _ rfl rfl (by unfold maxLen;omega) (litN y) 1 rfl rfl HWN.out rfl ?_;intro w4 hm4 hg4)
       have HM4:=Lib.hid (show MapL w4 w.heap.size (n'+1) (needM f (xs.take (j+1)))from by rw[HTK.out];exact hm4)
       have HK4:=Lib.hid (HKQ.out.trans (O:=fun g=>g=w.heap.size) (Kept.grown hg4) (fun i _ e=>Option.some.inj e))
       clear hm4 hg4
       go_wp2_with fail
       go_roundw
       case rel=>exact⟨j+1,n'+1,by omega,by go_num,by omega,HM4,HK4⟩
       case measure=>simp[intOf];omega
      ·obtain rfl:j=xs.length:=by omega
       have hmq:=HMQ.out
       rw[List.take_length]at hmq
       have HMF:=Lib.hid hmq
       clear hmq
       go_wp2_with fail
       go_roundw
       case rel=>exact⟨(k:Int)-1,k,n',_,out++ [(k:Int)],by go_num,by omega,by have:=HZZ.out;omega,Lib.hid (by omega),Lib.hid (by omega),Lib.hid (by
        rw[show hs.length-k=(hs.length-(k+1))+1 by omega,Nat.succ_mul]
        exact Nat.le_trans hn' (Nat.add_le_add HNB.out hxl)),HG2,HMF,Lib.hid (by
        have:=own_kept HO2.out HKQ.out (fun g hg e=>by have:=(own_lt HO2.out g hg).1;omega)
        simpa using this),Lib.hid (by have:=HOL.out;simp;omega),Lib.hid ⟨HB.out.1.trans ((HB2.out.mono (Nat.le_succ _)).trans (HKQ.out.below (fun g e=>by omega) (by omega))),by have:=HKQ.out.size;omega⟩⟩
       case measure=>simp[intOf]
   ·rw[if_neg (fun h=>hku h.1)]at hgo
    have hdu:decide ((k:Int)<(us.length:Int))=false:=by simp;omega
    have HG2:=Lib.hid hgo
    clear hgo
    go_wp2_with (at_builtin;refine wpList_append_own_at _ rfl _ _ 32 rfl (w.heap.size+1) 3 i0 (.int .i64 0) 1 8 Tryz.underlying32 hi hz0 hz1 hz2 rfl (by decide) _ out.length _ rfl (own_below HO.out (mx_al wr _)) ⟨wr.heap.size,0,none⟩ 1 1 [.int .i64 (k:Int)] rfl rfl (fun i u hi=>by
     match i,hi with
     | 0,hi=>simp at hi;subst hi;simp[Addr.add]) (fun u hu=>by rw[List.mem_singleton.1 hu];rfl) (by unfold maxLen;omega) (by omega) (by simp;omega) ?_;intro v' w2 hown hgrow hnl2 hat;obtain⟨g2,c2,rfl⟩:=ownsRow_succ hown;have hB2:Below (w.heap.size+1) wr w2:=((mx_al wr (.cells #[.int .i64 (k:Int)] 3)).mono hbs).grown hgrow (by simp;omega) (fun g hg=>(own_lt HO.out g hg).1);have d2:w2.cell? ⟨g,o+k,none⟩=some (.slice Ax xs.length cx):=(hB2.cell (p:=⟨g,o+k,none⟩) (by simp only;omega)).trans d1)
    have HO2:=Lib.hid hown
    have HB2:=Lib.hid hB2
    have HM2:=Lib.hid ((HM.out.below (mx_al wr (.cells #[.int .i64 (k:Int)] 3))).kept (Kept.grown hgrow) (fun e=>by
     have:=(own_lt HO.out _ e.symm).1
     omega))
    have hsz2:=hB2.size
    clear hown hgrow hnl2 hat hB2 d2 d1
    go_wp2_with fail
    obtain⟨wo,hwo⟩: ∃wo:World,wo=w2:=⟨_,rfl⟩
    rw[←hwo]at HO2 HB2 HM2 hsz2⊢
    clear hwo
    go_loopw [40] (fun iv wq=> ∃(j n':Nat),j≤xs.length∧iv= .int .i64 j∧n'≤n+j∧Hid (MapL wq w.heap.size n' (needM f (xs.take j)))∧Hid (Kept (fun g=>g=w.heap.size) wo wq)) (fun iv _=>xs.length-(intOf iv).toNat)
    case atStart=>exact⟨0,n,Nat.zero_le _,rfl,Nat.le_refl _,HM2,Lib.hid (Kept.refl _ _)⟩
    case round=>
     obtain⟨j,n',hj,rfl,hn',HMQ,HKQ⟩:=hrel
     by_cases hjl:j<xs.length
     ·obtain⟨y,hyk⟩:=getElem_of hjl
      obtain⟨A'',c'',hAc,_,_,hys⟩:=HIN.out
      simp only[Value.slice.injEq,true_and]at hAc
      obtain⟨rfl,rfl⟩:=hAc
      obtain⟨g3,o3,rfl,hg3,hlt3,f0⟩:=hys j y hyk
      have f1:wr.cell? ⟨g3,o3+j,none⟩=some (.int .i64 y):=(HKQ.out.cell (p:=⟨g3,o3+j,none⟩) (by simp only;omega) (by simp only;omega)).trans ((HB2.out.cell (p:=⟨g3,o3+j,none⟩) (by simp only;omega)).trans ((HB.out.1.cell (p:=⟨g3,o3+j,none⟩) hg3).trans f0))
      have HTK:=Lib.hid (show needM f (xs.take (j+1))=fun z=>if z=litN y then 1 else needM f (xs.take j) z from by
       unfold needM
       rw[List.take_add_one,hyk]
       simp)
      have HNG:=Lib.hid (fun W=>lit_neg y W)
      have HWN:=Lib.hid (wf_litN y)
      clear hyk hys f0
      go_wp2_with fail
      refine(HNG.out _).mono ?_
      rintro e w' ⟨rfl,rfl⟩
      go_wp2_with (at_mapUpdate;refine wpList_putL HMQ.out rfl _ _ _ rfl rfl (by unfold maxLen;omega) (litN y) 1 rfl rfl HWN.out rfl ?_;intro w4 hm4 hg4)
      have HM4:=Lib.hid (show MapL w4 w.heap.size (n'+1) (needM f (xs.take (j+1)))from by rw[HTK.out];exact hm4)
      have HK4:=Lib.hid (HKQ.out.trans (O:=fun g=>g=w.heap.size) (Kept.grown hg4) (fun i _ e=>Option.some.inj e))
      clear hm4 hg4
      go_wp2_with fail
      go_roundw
      case rel=>exact⟨j+1,n'+1,by omega,by go_num,by omega,HM4,HK4⟩
      case measure=>simp[intOf];omega
     ·obtain rfl:j=xs.length:=by omega
      have hmq:=HMQ.out
      rw[List.take_length]at hmq
      have HMF:=Lib.hid hmq
      clear hmq
      go_wp2_with fail
      go_roundw
      case rel=>exact⟨(k:Int)-1,k,n',_,out++ [(k:Int)],by go_num,by omega,by have:=HZZ.out;omega,Lib.hid (by omega),Lib.hid (by omega),Lib.hid (by
       rw[show hs.length-k=(hs.length-(k+1))+1 by omega,Nat.succ_mul]
       exact Nat.le_trans hn' (Nat.add_le_add HNB.out hxl)),HG2,HMF,Lib.hid (by
       have:=own_kept HO2.out HKQ.out (fun g hg e=>by have:=(own_lt HO2.out g hg).1;omega)
       simpa using this),Lib.hid (by have:=HOL.out;simp;omega),Lib.hid ⟨HB.out.1.trans ((HB2.out.mono (Nat.le_succ _)).trans (HKQ.out.below (fun g e=>by omega) (by omega))),by have:=HKQ.out.size;omega⟩⟩
      case measure=>simp[intOf]
  ·obtain rfl:k1=0:=by have:=HZ.out;omega
   have hd:decide (0≤z)=false:=by simpa using hlt
   have hgo:=HG.out
   simp only[needGo]at hgo
   have hol:=HOL.out
   have hb:=HB.out
   subst hgo
   have HS:=Lib.hid (own_reverse _ _ wr HO.out (by omega))
   clear hlt
   go_wp2_with fail
   refine HS.out.mono ?_
   rintro e w2 ⟨rfl,hr2,hk2⟩
   have HR2:=Lib.hid hr2
   have HB2:=Lib.hid (hb.1.trans (hk2.below (fun g hg=>by have:=(own_lt HO.out g hg).1;omega) hb.1.size))
   clear hr2 hk2
   go_wp2_with fail
   go_ret
   exact⟨_,rfl,by simpa using HR2.out,HB2.out⟩
end Go.Proofs.YtajbmjpodeilpaaGreat
namespace Go.Proofs.YtajbmjpodeilpaaGreat
open Go.RowKit
theorem litV_negate (l:Int):litV (-l)=litV l:=by
 have h:litB (-l)=litB l:=by
  unfold litB
  exact decide_eq_decide.2 (by omega)
 unfold litV
 rw[h,Int.natAbs_neg]
theorem litV_pos {l:Int} (h:litB l=true):1≤litV l∧(litV l:Int)=max l (-l):=by
 have:=(litB_iff l).1 h
 unfold litV
 rw[if_pos h]
 omega
theorem litB_minus (l:Int):litB (-l)=litB l:=by
 simp only[litB,decide_eq_decide]
 omega
theorem litV_zero {l:Int} (h:litB l=false):litV l=0:=by
 unfold litV
 rw[h]
 rfl
theorem litB_of_litV {l:Int} (h:0<litV l):litB l=true:=by
 cases hb:litB l with
 | true=>rfl
 | false=>rw[litV_zero hb]at h;omega
theorem litV_two {a b:Int} (ha:litB a=true) (h:litV a=litV b):b=a∨b= -a:=by
 have h1:=litV_pos ha
 have h2:=litV_pos (litB_of_litV (l:=b) (by omega))
 omega
theorem litN_eq {l:Int} (h:litB l=true):litN l= -l:=by unfold litN;rw[if_pos h]
end Go.Proofs.YtajbmjpodeilpaaGreat
namespace Go.Proofs.YtajbmjpodeilpaaGreat
open Go.RowKit
theorem litG_minus {x:Int} (hx:litB x=true):litG (-x)= !litG x:=by
 have h:=(litB_iff x).1 hx
 unfold litG
 rw[litB_minus,hx,Bool.true_and,Bool.true_and]
 by_cases h1:x<0
 ·rw[decide_eq_true h1,decide_eq_false (by omega)]
  rfl
 ·rw[decide_eq_false h1,decide_eq_true (by omega)]
  rfl
theorem k_put_self (f:Int→Int) (x:Int):ofF (putF f x) x=1:=by
 unfold ofF putF
 rw[if_pos rfl]
 cases litG x <;> rfl
theorem k_put_neg (f:Int→Int) {x:Int} (hx:litB x=true):ofF (putF f x) (-x)= -1:=by
 unfold ofF putF
 rw[litV_negate,if_pos rfl,litG_minus hx]
 cases litG x <;> rfl
theorem k_put_ne (f:Int→Int) {x y:Int} (h:litV y≠litV x):ofF (putF f x) y=ofF f y:=by
 unfold ofF putF
 simp only[if_neg (show¬(((litV y:Nat):Int)=((litV x:Nat):Int)) by omega)]
section
variable {f:Int→Int}
end
end Go.Proofs.YtajbmjpodeilpaaGreat
namespace Go.Proofs.YtajbmjpodeilpaaGreat
open Go.RowKit
def folGo (f:Int→Int):List (List Int)→List Int→Nat→List Int×Nat×Bool×Nat
 | [],us,i=>(us,i,false,0)
 | c::r,us,i=>if(lookF f c).1=2 then(us,i+1,true,0)else if(lookF f c).1=3 then folGo (putF f (lookF f c).2) r (us++ [(lookF f c).2]) (i+1)else([],i,false,81)
def chkP (c:List Int) (hs:List (List Int)):List Int×Nat×Nat:=
 if alwL c=true then([],0,0)else match asgF (asmL c)with
  | none=>([],0,82)
  | some f=>((folGo f hs [] 0).1,(folGo f hs [] 0).2.1,if(folGo f hs [] 0).2.2.2=0∧(folGo f hs [] 0).2.2.1=false then 82 else(folGo f hs [] 0).2.2.2)
def trimP (c:List Int) (hs:List (List Int)):List Int:=if(chkP c hs).2.2=0∧(chkP c hs).2.1≠0 then needL (hs.take (chkP c hs).2.1) (chkP c hs).1 else []
def Says (f:Int→Int) (P:Int→Prop):Prop:= ∀y,litB y=true→((0<ofF f y↔P y)∧(ofF f y<0↔P (-y)))
end Go.Proofs.YtajbmjpodeilpaaGreat
namespace Go.Proofs.YtajbmjpodeilpaaGreat
open Go.RowKit
def bitT (n:Nat) (l:Int):Bool:=if 0<l then n.testBit l.toNat else !n.testBit (-l).toNat
def allT (n:Nat) (cs:List (List Int)):Bool:=cs.all fun c=>c.any (bitT n)
def Lits6 (cs:List (List Int)):Prop:= ∀c∈cs,c.length≤1000000∧∀y∈c,y≠0∧ -7<y∧y<7
end Go.Proofs.YtajbmjpodeilpaaGreat
namespace Go.Proofs.YtajbmjpodeilpaaGreat
open Go.RowKit Go.Maps Go.MapKept Go.ChangeMaps
open Go.WideElems (Fit rd rg pl rd_val elemAt)
section
variable {α β:Type}
def insA (x:Int×α):List (Int×α)→List (Int×α)
 | []=> [x]
 | y::r=>if x.1<y.1 then x::y::r else y::insA x r
def delA (m:List (Int×α)) (x:Int):List (Int×α):=m.filter fun p=>decide (p.1≠x)
def putA (m:List (Int×α)) (x:Int) (v:α):List (Int×α):=insA (x,v) (delA m x)
def getA (m:List (Int×α)) (x:Int):Option α:=(m.find? fun p=>decide (p.1=x)).map (·.2)
theorem insA_mem {x:Int×α} {m:List (Int×α)} {p:Int×α}:p∈insA x m↔p=x∨p∈m:=by
 induction m with
 | nil=>simp[insA]
 | cons y r ih=>
  unfold insA
  split
  ·simp
  ·simp only[List.mem_cons,ih]
   constructor
   ·rintro (h|h|h)
    ·exact .inr (.inl h)
    ·exact .inl h
    ·exact .inr (.inr h)
   ·rintro (h|h|h)
    ·exact .inr (.inl h)
    ·exact .inl h
    ·exact .inr (.inr h)
theorem delA_mem {m:List (Int×α)} {x:Int} {p:Int×α}:p∈delA m x↔p∈m∧p.1≠x:=by
 unfold delA
 rw[List.mem_filter,decide_eq_true_eq]
def Rising (m:List (Int×α)):Prop:=m.Pairwise fun p q=>p.1<q.1
theorem Rising.del {m:List (Int×α)} (h:Rising m) (x:Int):Rising (delA m x):=List.Pairwise.filter _ h
theorem Rising.ins {m:List (Int×α)} (h:Rising m) {x:Int×α} (hx: ∀p∈m,p.1≠x.1):Rising (insA x m):=by
 induction m with
 | nil=>exact List.pairwise_singleton _ _
 | cons y r ih=>
  obtain⟨h1,h2⟩:=List.pairwise_cons.1 h
  unfold insA
  split
  ·rename_i hlt
   refine List.pairwise_cons.2 ⟨fun p hp=>?_,h⟩
   rcases List.mem_cons.1 hp with rfl|hp
   ·exact hlt
   ·exact Int.lt_trans hlt (h1 p hp)
  ·rename_i hge
   refine List.pairwise_cons.2 ⟨fun p hp=>?_,ih h2 (fun p hp=>hx p (List.mem_cons_of_mem _ hp))⟩
   rcases insA_mem.1 hp with rfl|hp
   ·have:=hx y List.mem_cons_self
    omega
   ·exact h1 p hp
theorem Rising.put {m:List (Int×α)} (h:Rising m) (x:Int) (v:α):Rising (putA m x v):=(h.del x).ins (fun _ hp=>(delA_mem.1 hp).2)
theorem Rising.eq_of {m:List (Int×α)} (h:Rising m) {p q:Int×α} (hp:p∈m) (hq:q∈m) (he:p.1=q.1):p=q:=by
 induction m with
 | nil=>cases hp
 | cons y r ih=>
  obtain⟨h1,h2⟩:=List.pairwise_cons.1 h
  rcases List.mem_cons.1 hp with rfl|hp'
  ·rcases List.mem_cons.1 hq with rfl|hq'
   ·rfl
   ·have:=h1 q hq'
    omega
  ·rcases List.mem_cons.1 hq with rfl|hq'
   ·have:=h1 p hp'
    omega
   ·exact ih h2 hp' hq'
theorem getA_some {m:List (Int×α)} {x:Int} {v:α} (h:getA m x=some v):(x,v)∈m:=by
 unfold getA at h
 cases hf:m.find? (fun p=>decide (p.1=x))with
 | none=>rw[hf]at h;cases h
 | some p=>
  rw[hf]at h
  obtain rfl:=Option.some.inj h
  have h1:=List.find?_some hf
  rw[decide_eq_true_eq]at h1
  have h2:=List.mem_of_find?_eq_some hf
  rw[←h1]
  exact h2
theorem getA_of {m:List (Int×α)} (hr:Rising m) {x:Int} {v:α} (h:(x,v)∈m):getA m x=some v:=by
 unfold getA
 cases hf:m.find? (fun p=>decide (p.1=x))with
 | none=>
  have:=List.find?_eq_none.1 hf _ h
  simp at this
 | some p=>
  have h1:=List.find?_some hf
  rw[decide_eq_true_eq]at h1
  have:=hr.eq_of (List.mem_of_find?_eq_some hf) h h1
  rw[this]
  rfl
theorem getA_none {m:List (Int×α)} {x:Int}:getA m x=none↔∀v,(x,v)∉m:=by
 constructor
 ·intro h v hv
  unfold getA at h
  rw[Option.map_eq_none_iff,List.find?_eq_none]at h
  have:=h _ hv
  simp at this
 ·intro h
  cases hg:getA m x with
  | none=>rfl
  | some v=>exact absurd (getA_some hg) (h v)
theorem insA_length (x:Int×α) (m:List (Int×α)):(insA x m).length=m.length+1:=by
 induction m with
 | nil=>rfl
 | cons y r ih=>
  unfold insA
  split
  ·rfl
  ·simp[ih]
theorem putA_length_le (m:List (Int×α)) (x:Int) (v:α):(putA m x v).length≤m.length+1:=by
 unfold putA
 rw[insA_length]
 exact Nat.succ_le_succ (List.length_filter_le _ _)
def mapV (f:α→β) (m:List (Int×α)):List (Int×β):=m.map fun p=>(p.1,f p.2)
theorem mapV_ins (f:α→β) (x:Int×α) (m:List (Int×α)):mapV f (insA x m)=insA (x.1,f x.2) (mapV f m):=by
 induction m with
 | nil=>rfl
 | cons y r ih=>
  unfold mapV at ih⊢
  simp only[insA,List.map_cons]
  split
  ·rfl
  ·rw[List.map_cons,ih]
theorem mapV_del (f:α→β) (m:List (Int×α)) (x:Int):mapV f (delA m x)=delA (mapV f m) x:=by
 unfold mapV delA
 rw[List.filter_map]
 rfl
theorem mapV_put (f:α→β) (m:List (Int×α)) (x:Int) (v:α):mapV f (putA m x v)=putA (mapV f m) x (f v):=by
 unfold putA
 rw[mapV_ins,mapV_del]
theorem mapV_get (f:α→β) (m:List (Int×α)) (x:Int):getA (mapV f m) x=(getA m x).map f:=by
 unfold getA mapV
 rw[List.find?_map]
 have:((fun p:Int×β=>decide (p.1=x)) ∘ fun p:Int×α=>(p.1,f p.2))=fun p:Int×α=>decide (p.1=x):=rfl
 rw[this]
 cases m.find? (fun p=>decide (p.1=x)) <;> rfl
theorem mapV_length (f:α→β) (m:List (Int×α)):(mapV f m).length=m.length:=List.length_map _
theorem mapV_rising_of {f:α→β} {m:List (Int×α)} (h:Rising (mapV f m)):Rising m:=by
 unfold Rising mapV at h
 rw[List.pairwise_map]at h
 exact h
theorem Rising.length_le {m:List (Int×α)} (h:Rising m) {lo hi:Int} (hr: ∀p∈m,lo≤p.1∧p.1≤hi) (hlo:lo≤hi+1):(m.length:Int)≤hi-lo+1:=by
 induction m generalizing lo with
 | nil=>simp;omega
 | cons y r ih=>
  obtain⟨h1,h2⟩:=List.pairwise_cons.1 h
  have hy:=hr y List.mem_cons_self
  have:=ih (lo:=y.1+1) h2 (fun p hp=>⟨by have:=h1 p hp;omega,(hr p (List.mem_cons_of_mem _ hp)).2⟩) (by omega)
  simp only[List.length_cons]
  omega
end
def mapR (v:Value):Option (DataW Value×List MemPlace):=some (.held v,[])
def encE (m:List (Int×Value)):List (Lit×DataW Value):=m.map fun p=>(.int .i64 p.1,.held p.2)
theorem encE_ins (x:Int×Value) (m:List (Int×Value)):DataW.insert (.int .i64 x.1,.held x.2) (encE m)=encE (insA x m):=by
 induction m with
 | nil=>rfl
 | cons y r ih=>
  have hb:(Lit.int .i64 x.1).before (.int .i64 y.1)=decide (x.1<y.1):=rfl
  show(if(Lit.int .i64 x.1).before (.int .i64 y.1)=true then _ else _)=_
  by_cases h:x.1<y.1
  ·rw[if_pos (by rw[hb];exact decide_eq_true h)]
   unfold insA
   rw[if_pos h]
   rfl
  ·rw[if_neg (by rw[hb];simpa using h)]
   unfold insA
   rw[if_neg h]
   show _::DataW.insert _ (encE r)=_
   rw[ih]
   rfl
theorem encE_del (m:List (Int×Value)) (x:Int):(encE m).filter (fun p=> !p.1.sameKey (.int .i64 x))=encE (delA m x):=by
 unfold encE delA
 rw[List.filter_map]
 congr 1
 refine List.filter_congr (fun p _=>?_)
 simp[Lit.sameKey]
section
variable {P:Program} {kt t et:TypeId} {w:World} {b:Nat} {m:List (Int×Value)}
def MapS (P:Program) (kt:TypeId) (w:World) (b:Nat) (m:List (Int×Value)):Prop:=
 w.ownsMap P kt mapR b m.length (.map (encE m))∧Rising m∧∀p∈m,(Lit.int .i64 p.1).wf=true
theorem MapS.lt (h:MapS P kt w b m):b<w.heap.size:=h.1.lt
theorem MapS.kept {O:Nat→Prop} {w':World} (h:MapS P kt w b m) (k:Kept O w w') (hO: ¬O b):MapS P kt w' b m:=by
 obtain⟨⟨es,cl,hb,rest⟩,h2⟩:=h
 exact⟨⟨es,cl,(k.block b (heap_lt hb) hO).trans hb,rest⟩,h2⟩
theorem MapS.below {w':World} (h:MapS P kt w b m) (k:Below w.heap.size w w'):MapS P kt w' b m:=h.kept (O:=fun _=>False) (Kept.of_below k) (fun h=>h)
theorem MapS.made (w:World):MapS P kt (w.alloc (.map #[] 0)) w.heap.size []:=
 ⟨World.ownsMap_made _ _ _ _,List.Pairwise.nil,fun p hp=>by cases hp⟩
theorem ownsMap_exact {R:Value→Option (DataW Value×List MemPlace)} {n:Nat} {E:List (Lit×DataW Value)} (h:w.ownsMap P kt R b n (.map E)):w.ownsMap P kt R b E.length (.map E):=by
 obtain⟨es,cl,hb,F,_,hD⟩:=h
 refine⟨es,cl,hb,F,?_,hD⟩
 cases hD
 rw[length_sorted]
 simp
theorem encE_length (m:List (Int×Value)):(encE m).length=m.length:=List.length_map _
theorem atKey_encE (m:List (Int×Value)) (x:Int) (z:DataW Value):(DataW.map (encE m)).atKey (.int .i64 x) z=match getA m x with
  | some v=>.held v
  | none=>z:=by
 have e:(encE m).find? (fun p=>p.1.sameKey (.int .i64 x))=(m.find? (fun p=>decide (p.1=x))).map fun p=>(.int .i64 p.1,.held p.2):=by
  unfold encE
  rw[List.find?_map]
  have:((fun p:Lit×DataW Value=>p.1.sameKey (.int .i64 x)) ∘ fun p:Int×Value=>(Lit.int .i64 p.1,DataW.held p.2))=fun p:Int×Value=>decide (p.1=x):=by
   funext p
   simp[Lit.sameKey]
  rw[this]
 unfold DataW.atKey getA
 simp only[e]
 cases m.find? (fun p=>decide (p.1=x)) <;> rfl
theorem MapS.look (h:MapS P kt w b m) (K:Keyed P kt) (hk:P.underlying kt=some (.int .i64)) (ht:P.underlying t=some (.map kt et)) {z:Value} (hz:(zeroValue et).run P w= .ok z w) (c:Bool) {x:Int} (hx:(Lit.int .i64 x).wf=true):
  (Instr.lookup t (.map (some b)) (.int .i64 x) c).run P w= .ok (if c then .tuple #[(getA m x).getD z,.bool (getA m x).isSome]else(getA m x).getD z) w:=by
 obtain⟨⟨es,cl,hb,F,_,hD⟩,_⟩:=h
 have hat0:=atKey_encE m x
 rw[hD]at hat0
 rcases Maps.fit_look c K ht hz hb F (keyOf_int_mk hk hx)with⟨hrun,_,hat⟩|⟨e0,y,_,_,hrun,hRv,hat,_⟩
 ·have h1:=hat0 .nil
  rw[hat]at h1
  cases hg:getA m x with
  | none=>rw[hrun];rfl
  | some v=>rw[hg]at h1;cases h1
 ·have h1:=hat0 .nil
  rw[hat]at h1
  have hy:y.1= .held e0.val:=by
   cases hRv
   rfl
  rw[hy]at h1
  cases hg:getA m x with
  | none=>rw[hg]at h1;cases h1
  | some v=>
   rw[hg]at h1
   cases h1
   rw[hrun]
   rfl
theorem MapS.of_put {w':World} {n:Nat} (hr:Rising m) (hw: ∀p∈m,(Lit.int .i64 p.1).wf=true) {x:Int} (hx:(Lit.int .i64 x).wf=true) {v:Value} (h:w'.ownsMap P kt mapR b n ((DataW.map (encE m)).put (.int .i64 x) (.held v))):MapS P kt w' b (putA m x v):=by
 have e:(DataW.map (encE m)).put (.int .i64 x) (.held v)= .map (encE (putA m x v)):=by
  show DataW.map (DataW.insert _ ((encE m).filter _))=_
  rw[encE_del,encE_ins (x,v)]
  rfl
 rw[e]at h
 have h2:=ownsMap_exact h
 rw[encE_length]at h2
 refine⟨h2,hr.put _ _,fun p hp=>?_⟩
 rcases insA_mem.1 hp with rfl|hp
 ·exact hx
 ·exact hw p (delA_mem.1 hp).1
theorem MapS.of_del {w':World} {n:Nat} (hr:Rising m) (hw: ∀p∈m,(Lit.int .i64 p.1).wf=true) {x:Int} (h:w'.ownsMap P kt mapR b n ((DataW.map (encE m)).del (.int .i64 x))):MapS P kt w' b (delA m x):=by
 have e:(DataW.map (encE m)).del (.int .i64 x)= .map (encE (delA m x)):=by
  show DataW.map ((encE m).filter _)=_
  rw[encE_del]
 rw[e]at h
 have h2:=ownsMap_exact h
 rw[encE_length]at h2
 exact⟨h2,hr.del _,fun p hp=>hw p (delA_mem.1 hp).1⟩
theorem MapS.update (h:MapS P kt w b m) (K:Keyed P kt) (hk:P.underlying kt=some (.int .i64)) (ht:P.underlying t=some (.map kt et)) (hn:m.length<maxLen) {x:Int} (hx:(Lit.int .i64 x).wf=true) (v:Value):
  ∃w',(Instr.mapUpdate t (.map (some b)) (.int .i64 x) v).run P w= .ok () w'∧MapS P kt w' b (putA m x v)∧w.grownBy w' (some b):=by
 obtain⟨w',h1,h2,h3⟩:=h.1.update K ht hn (keyOf_int_mk hk hx) (show mapR v=some (.held v,[])from rfl)
 exact⟨w',h1,MapS.of_put h.2.1 h.2.2 hx h2,h3⟩
theorem wpList_delS {ops:Array Oper} {rest:List Oper} {o:Oper} {a:Act} {Q:Exit→Act→World→Prop} (h:MapS P kt w b m) (K:Keyed P kt) (hk:P.underlying kt=some (.int .i64)) (ht:P.underlying t=some (.map kt et))
  (hg:o.guard=none) (mm x:Operand) (hop:o.op=Op.call { callee:=Callee.builtin Builtin.delete,args:= #[mm,x],argTypes:= #[t,kt] }) (hm:a.eval mm= .map (some b)) (i:Int) (hx:a.eval x= .int .i64 i) (hi:(Lit.int .i64 i).wf=true)
  (hK: ∀w',MapS P kt w' b (delA m i)→w.grownBy w' (some b)→wpList P ops Q rest (a.put o.dst (.tuple #[])) w'):wpList P ops Q (o::rest) a w:=
 wpList_delete_own w hg mm x t _ hop et K ht _ b m.length _ hm h.1 _ _ hx (keyOf_int_mk hk hi) (fun w' h1 h2=>hK w' (MapS.of_del h.2.1 h.2.2 h1) h2.grown)
end
end Go.Proofs.YtajbmjpodeilpaaGreat
