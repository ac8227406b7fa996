/- References: Index, At of layer 1; Assume of layer 8. Reference of layer 8: Assume. Reference of layer 9: Check. -/
import Derived.Test.YtajbmjpodeilpaaGreatV110
namespace Go.Proofs.YtajbmjpodeilpaaGreat
open Go.RowKit
def rIdx (y:Int):Int:=if y<0 then 2*(-y-1)+1 else 2*(y-1)
theorem rIdx_rng {y:Int} (h:litB y=true):0≤rIdx y∧rIdx y≤2097151:=by
 have:=(litB_iff y).1 h
 unfold rIdx
 split <;> omega
theorem rIdx_inj {x y:Int} (hx:litB x=true) (hy:litB y=true) (h:rIdx x=rIdx y):x=y:=by
 have:=(litB_iff x).1 hx
 have:=(litB_iff y).1 hy
 unfold rIdx at h
 split at h <;> split at h <;> omega
set_option maxRecDepth 100000 in
set_option maxHeartbeats 1000000 in
theorem ref_index01 (y:Int) (w:World) (hy:litB y=true):Calls Tryz.prog 111 #[.int .i64 y] w fun e w'=>e= .returned (.int .i64 (rIdx y))∧w=w':=by
 have HR:=Lib.hid (ref_right_lit y w)
 rw[hy]at HR
 have h1:=(litB_iff y).1 hy
 clear hy
 unfold rIdx
 by_cases hn:y<0
 ·have hd:decide (y<0)=true:=decide_eq_true hn
  have w1:IntKind.i64.wrap (-y)= -y:=IntWalk.i64_in _ (by omega)
  have w2:IntKind.i64.wrap (-y-1)= -y-1:=IntWalk.i64_in _ (by omega)
  have w3:IntKind.i64.wrap (2*(-y-1))=2*(-y-1):=IntWalk.i64_in _ (by omega)
  have w4:IntKind.i64.wrap (2*(-y-1)+1)=2*(-y-1)+1:=IntWalk.i64_in _ (by omega)
  rw[if_pos hn]
  go_enter Tryz.func111,Tryz.ntmps111
  go_wp2_with fail
  refine HR.out.mono ?_
  rintro e w' ⟨rfl,rfl⟩
  go_wp2_with fail
  go_ret
  exact⟨rfl,rfl⟩
 ·have hd:decide (y<0)=false:=decide_eq_false hn
  have w2:IntKind.i64.wrap (y-1)=y-1:=IntWalk.i64_in _ (by omega)
  have w3:IntKind.i64.wrap (2*(y-1))=2*(y-1):=IntWalk.i64_in _ (by omega)
  rw[if_neg hn]
  go_enter Tryz.func111,Tryz.ntmps111
  go_wp2_with fail
  refine HR.out.mono ?_
  rintro e w' ⟨rfl,rfl⟩
  go_wp2_with fail
  go_ret
  exact⟨rfl,rfl⟩
set_option maxRecDepth 100000 in
set_option maxHeartbeats 1000000 in
theorem ref_at01 (y:Int) (w:World) (hy:litB y=true):Calls Tryz.prog 112 #[.int .i64 (rIdx y)] w fun e w'=>e= .returned (.int .i64 y)∧w=w':=by
 have h1:=(litB_iff y).1 hy
 have h2:=rIdx_rng hy
 obtain⟨q,r,hq,hr,hv⟩: ∃q r:Int,(rIdx y).tdiv 2=q∧(rIdx y).tmod 2=r∧(r=1∧y= -(q+1)∨r=0∧y=q+1):=by
  refine⟨_,_,rfl,rfl,?_⟩
  rw[Int.tdiv_eq_ediv_of_nonneg h2.1,Int.tmod_eq_emod_of_nonneg h2.1]
  unfold rIdx
  split <;> omega
 obtain⟨i,hi⟩: ∃i,rIdx y=i:=⟨_,rfl⟩
 rw[hi]at h2 hq hr⊢
 have hqe:i/2=q:=by rw[←hq,Int.tdiv_eq_ediv_of_nonneg h2.1]
 have hq0:0≤q∧q≤1048576:=by omega
 have hre:i%2=r:=by rw[←hr,Int.tmod_eq_emod_of_nonneg h2.1]
 have d1:decide (i<0)=false:=decide_eq_false (by omega)
 have d2:decide (2097151<i)=false:=decide_eq_false (by omega)
 have w1:IntKind.i64.wrap q=q:=IntWalk.i64_in _ (by omega)
 have w2:IntKind.i64.wrap (q+1)=q+1:=IntWalk.i64_in _ (by omega)
 have w3:IntKind.i64.wrap (-(q+1))= -(q+1):=IntWalk.i64_in _ (by omega)
 clear hi hy
 rcases hv with⟨rfl,rfl⟩|⟨rfl,rfl⟩
 ·go_enter Tryz.func112,Tryz.ntmps112
  go_wp2_with fail
  go_ret
  exact⟨rfl,rfl⟩
 ·go_enter Tryz.func112,Tryz.ntmps112
  go_wp2_with fail
  go_ret
  exact⟨rfl,rfl⟩
end Go.Proofs.YtajbmjpodeilpaaGreat
namespace Go.Proofs.YtajbmjpodeilpaaGreat
open Go.RowKit
def BestOf (c:List Int) (last:Int) (k:Nat) (best:Int):Prop:=
 (best= -1∧∀x∈c.take k,rIdx (-x)≤last)∨(last<best∧(∃x∈c,rIdx (-x)=best)∧∀x∈c.take k,last<rIdx (-x)→best≤rIdx (-x))
theorem best_step {c:List Int} {last best:Int} {k:Nat} {x:Int} (hl: -1≤last) (hk:c[k]? =some x) (h:BestOf c last k best):
  BestOf c last (k+1) (if last<rIdx (-x)∧(best<0∨rIdx (-x)<best)then rIdx (-x)else best):=by
 have hx:=List.mem_of_getElem? hk
 have ht:c.take (k+1)=c.take k++ [x]:=by rw[List.take_add_one,hk];rfl
 have hm: ∀y∈c.take (k+1),y∈c.take k∨y=x:=fun y hy=>by
  rw[ht]at hy
  rcases List.mem_append.1 hy with h|h
  ·exact .inl h
  ·exact .inr (List.mem_singleton.1 h)
 split
 ·rename_i hc
  refine .inr ⟨hc.1,⟨x,hx,rfl⟩,fun y hy hyl=>?_⟩
  rcases hm y hy with h1|rfl
  ·rcases h with⟨h2,h3⟩|⟨h2,_,h4⟩
   ·have:=h3 y h1
    omega
   ·have:=h4 y h1 hyl
    have:=hc.2
    omega
  ·exact Int.le_refl _
 ·rename_i hc
  rw[not_and,not_or]at hc
  rcases h with⟨h2,h3⟩|⟨h2,h5,h4⟩
  ·refine .inl ⟨h2,fun y hy=>?_⟩
   rcases hm y hy with h1|rfl
   ·exact h3 y h1
   ·rcases Int.lt_or_le last (rIdx (-y))with h6|h6
    ·have:=(hc h6).1
     omega
    ·exact h6
  ·refine .inr ⟨h2,h5,fun y hy hyl=>?_⟩
   rcases hm y hy with h1|rfl
   ·exact h4 y h1 hyl
   ·have:=(hc hyl).2
    omega
set_option maxRecDepth 100000 in
set_option maxHeartbeats 4000000 in
theorem ref_assume08 {O:Nat→Prop} (u:Value) (c:List Int) (w:World) (h:IntsIn O w u c) (hl:c.length≤1000000) (hc: ∀x∈c,litB x=true):
  Calls Tryz.prog 75 #[u] w fun e w'=>(∃v out,e= .returned (.tuple #[v,.bool (alwR c)])∧w'.ownsRow w.heap.size 3 1 v out.length (out.map (Value.int .i64))∧out.length≤2097153∧(alwR c=true→out= [])∧(alwR c=false→∀y,y∈out↔ -y∈c))∧Below w.heap.size w w':=by
 obtain⟨i0,hi0,iz1,iz2,iz3⟩:=info_parts oinfo_int
 have HU:=Lib.hid h
 have HLB:=Lib.hid hc
 have HLN:=Lib.hid (show∀x∈c,litB (-x)=true from fun x hx=>by rw[litB_minus];exact hc x hx)
 have HH:=Lib.hid (fun(W:World) (hW:Below w.heap.size w W) (x:Int)=>ref_has08 x u c W (h.below hW) (by omega))
 obtain⟨A,k1,rfl,_⟩:=h
 obtain⟨al,hal⟩: ∃b,alwR c=b:=⟨_,rfl⟩
 have HALW:=Lib.hid hal
 rw[hal]
 clear hc hal
 go_enter Tryz.func75,Tryz.ntmps75
 go_wp2_with fail
 go_loopw [4,5] (fun v lv wr=> ∃(last:Int) (out:List Int),lv= .int .i64 last∧ -1≤last∧last≤2097151∧Hid ((out.length:Int)≤last+1)∧Hid (∀y,y∈out↔(-y∈c∧rIdx y≤last))∧Hid (wr.ownsRow w.heap.size 3 1 v out.length (out.map (Value.int .i64)))∧Hid (Below w.heap.size w wr)) (fun _ lv _=>(2097152-intOf lv).toNat)
 case atStart=>exact⟨-1,[],rfl,Int.le_refl _,by omega,Lib.hid (by simp),Lib.hid (fun y=>⟨(fun h=>by cases h),fun h=>by
  have h1:=HLN.out _ h.1
  rw[Int.neg_neg]at h1
  have:=(rIdx_rng h1).1
  omega⟩),Lib.hid (World.ownsRow_nil _ _ _ _),Lib.hid (Below.refl _ _)⟩
 case round=>
  obtain⟨last,out,rfl,hl0,hl1,HOL,HOM,HOA,HB⟩:=hrel
  obtain⟨Af,cf,rfl,hcf⟩:=mx_slice HOA.out
  have hall:out.length≤2097152:=by have:=HOL.out;omega
  have hzw:=HB.out.size
  obtain⟨wo,rfl⟩: ∃wo:World,wo=wr:=⟨_,rfl⟩
  go_wp2_with fail
  go_loopw [6,7] (fun bv i wr2=> ∃(k:Nat) (best:Int),k≤c.length∧i= .int .i64 k∧bv= .int .i64 best∧ -1≤best∧best≤2097151∧Hid (BestOf c last k best)∧Hid (∀x∈c.take k,c.contains (-x)=false)∧Hid (wr2=wo)) (fun _ i _=>c.length-(intOf i).toNat)
  case atStart=>exact⟨0,-1,Nat.zero_le _,rfl,rfl,Int.le_refl _,by omega,Lib.hid (.inl ⟨rfl,fun x hx=>by simp at hx⟩),Lib.hid (fun x hx=>by simp at hx),Lib.hid rfl⟩
  case round=>
   obtain⟨k,best,hk,rfl,rfl,hb0,hb1,HBO,HNO,HWE⟩:=hrel
   have hwe:=HWE.out
   clear HWE
   subst hwe
   by_cases hlt:k<c.length
   ·obtain⟨x,hx0⟩:=atOf hlt
    obtain⟨A2,c2,hA2,_,_,hx⟩:=HU.out.below HB.out
    simp only[Value.slice.injEq,true_and]at hA2
    obtain⟨rfl,rfl⟩:=hA2
    obtain⟨g,o,rfl,hg,_,d0⟩:=hx k x hx0
    have hxm:=List.mem_of_getElem? hx0
    have hx1:=(litB_iff x).1 (HLB.out x hxm)
    have hwx:IntKind.i64.wrap (-x)= -x:=IntWalk.i64_in _ (by omega)
    have H1:=Lib.hid (HH.out wr HB.out (-x))
    have H2:=Lib.hid (ref_index01 (-x) wr (HLN.out x hxm))
    have hrn:=rIdx_rng (HLN.out x hxm)
    have HST:=Lib.hid (best_step hl0 hx0 HBO.out)
    have HXM:=Lib.hid hxm
    have HX0:=Lib.hid hx0
    obtain⟨b,hb⟩: ∃b,c.contains (-x)=b:=⟨_,rfl⟩
    have HBB:=Lib.hid hb
    rw[hb]at H1
    clear hx hx0 hx1 hxm hb
    cases b with
    | true=>
     have HN:=Lib.hid (show true=al from by
      rw[←HALW.out]
      exact(List.any_eq_true.2 ⟨x,HXM.out,HBB.out⟩).symm)
     go_wp2_with fail
     refine H1.out.mono ?_
     rintro e w' ⟨rfl,rfl⟩
     go_wp2_with fail
     go_ret2
     exact⟨⟨_,[],by rw[←HN.out];rfl,World.ownsRow_nil _ _ _ _,Nat.zero_le _,fun _=>rfl,fun h=>by rw[←HN.out]at h;cases h⟩,HB.out⟩
    | false=>
     have HN2:=Lib.hid (show∀y∈c.take (k+1),c.contains (-y)=false from fun y hy=>by
      rw[List.take_add_one,HX0.out]at hy
      rcases List.mem_append.1 hy with h|h
      ·exact HNO.out y h
      ·rw[List.mem_singleton.1 h];exact HBB.out)
     obtain⟨n,hn⟩: ∃n,rIdx (-x)=n:=⟨_,rfl⟩
     rw[hn]at H2 HST hrn
     clear hn
     by_cases c1:last<n
     ·have p1:decide (last<n)=true:=decide_eq_true c1
      by_cases c2:best<0
      ·have p2:decide (best<0)=true:=decide_eq_true c2
       have HF:=Lib.hid (show BestOf c last (k+1) n from by have:=HST.out;rwa [if_pos ⟨c1,.inl c2⟩]at this)
       clear HST
       go_wp2_with fail
       refine H1.out.mono ?_
       rintro e w' ⟨rfl,rfl⟩
       go_wp2_with fail
       refine H2.out.mono ?_
       rintro e w' ⟨rfl,rfl⟩
       go_wp2_with fail
       go_roundw
       case rel=>exact⟨k+1,n,by omega,by go_num,rfl,by omega,by omega,HF,HN2,Lib.hid (by trivial)⟩
       case measure=>simp[intOf];omega
      ·have p2:decide (best<0)=false:=decide_eq_false c2
       by_cases c3:n<best
       ·have p3:decide (n<best)=true:=decide_eq_true c3
        have HF:=Lib.hid (show BestOf c last (k+1) n from by have:=HST.out;rwa [if_pos ⟨c1,.inr c3⟩]at this)
        clear HST
        go_wp2_with fail
        refine H1.out.mono ?_
        rintro e w' ⟨rfl,rfl⟩
        go_wp2_with fail
        refine H2.out.mono ?_
        rintro e w' ⟨rfl,rfl⟩
        go_wp2_with fail
        go_roundw
        case rel=>exact⟨k+1,n,by omega,by go_num,rfl,by omega,by omega,HF,HN2,Lib.hid (by trivial)⟩
        case measure=>simp[intOf];omega
       ·have p3:decide (n<best)=false:=decide_eq_false c3
        have HF:=Lib.hid (show BestOf c last (k+1) best from by have:=HST.out;rwa [if_neg (fun h=>h.2.elim c2 c3)]at this)
        clear HST
        go_wp2_with fail
        refine H1.out.mono ?_
        rintro e w' ⟨rfl,rfl⟩
        go_wp2_with fail
        refine H2.out.mono ?_
        rintro e w' ⟨rfl,rfl⟩
        go_wp2_with fail
        go_roundw
        case rel=>exact⟨k+1,best,by omega,by go_num,rfl,by omega,by omega,HF,HN2,Lib.hid (by trivial)⟩
        case measure=>simp[intOf];omega
     ·have p1:decide (last<n)=false:=decide_eq_false c1
      have HF:=Lib.hid (show BestOf c last (k+1) best from by have:=HST.out;rwa [if_neg (fun h=>c1 h.1)]at this)
      clear HST
      go_wp2_with fail
      refine H1.out.mono ?_
      rintro e w' ⟨rfl,rfl⟩
      go_wp2_with fail
      refine H2.out.mono ?_
      rintro e w' ⟨rfl,rfl⟩
      go_wp2_with fail
      go_roundw
      case rel=>exact⟨k+1,best,by omega,by go_num,rfl,by omega,by omega,HF,HN2,Lib.hid (by trivial)⟩
      case measure=>simp[intOf];omega
   ·have hke:k=c.length:=by omega
    have hno:=HNO.out
    have hbo:=HBO.out
    unfold BestOf at hbo
    rw[hke,List.take_length]at hno hbo
    have HNA:=Lib.hid (show al=false from by
     rw[←HALW.out]
     exact List.any_eq_false.2 fun x hx=>by rw[hno x hx];decide)
    have HKE:=Lib.hid hke
    clear hno hke HNO HBO
    rcases hbo with⟨rfl,hall2⟩|⟨hlb,⟨x,hxm,hxe⟩,hmin⟩
    ·have HA2:=Lib.hid hall2
     have HKL:=Lib.hid (show¬k<c.length from hlt)
     clear hall2
     go_wp2_with fail
     go_ret2
     refine⟨⟨_,out,by rw[HNA.out];rfl,HOA.out,by omega,(fun h=>by rw[HNA.out]at h;cases h),fun _ y=>⟨fun hy=>((HOM.out y).1 hy).1,fun hy=>(HOM.out y).2 ⟨hy,?_⟩⟩⟩,HB.out⟩
     have:=HA2.out _ hy
     rwa [Int.neg_neg]at this
    ·have HXM:=Lib.hid hxm
     have HMIN:=Lib.hid hmin
     have HLX:=Lib.hid (HLN.out x hxm)
     have HAT:=Lib.hid (ref_at01 (-x) wr (HLN.out x hxm))
     rw[hxe]at HAT
     have HXE:=Lib.hid hxe
     obtain⟨z,hz⟩: ∃z,-x=z:=⟨_,rfl⟩
     have HZX:=Lib.hid hz
     rw[hz]at HAT HXE HLX
     have p2:decide (best<0)=false:=decide_eq_false (by omega)
     clear hxm hmin hxe hz
     go_wp2_with fail
     refine HAT.out.mono ?_
     rintro e w' ⟨rfl,rfl⟩
     go_wp2_with (at_builtin;refine wpList_append_own_at _ rfl _ _ 32 rfl w.heap.size 3 i0 (.int .i64 0) 1 8 Tryz.underlying32 hi0 iz1 iz2 iz3 rfl (by decide) _ out.length _ rfl (own_below HOA.out (mx_al wr _)) ⟨wr.heap.size,0,none⟩ 1 1 [.int .i64 z] rfl rfl (cell_one_new' _ _ _) (by simp[Value.oneCell']) (by unfold maxLen;omega) (by omega) (by simp;omega) ?_;intro v' w9 hown hgrow hnl hat;obtain⟨Aw,kw,hv2,_⟩:=mx_slice hown;subst hv2;have HOWN:=Lib.hid hown;have HG:=Lib.hid hgrow;clear hown hgrow hnl hat)
     have hb9:=HB.out.trans (grow_low HOA.out HG.out hzw)
     go_roundw
     case rel=>
      refine⟨best,out++ [z],rfl,by omega,by omega,Lib.hid ?_,Lib.hid (fun y=>⟨fun hy=>?_,fun hy=>?_⟩),Lib.hid (by rw[List.length_append,List.length_singleton,List.map_append];exact HOWN.out),Lib.hid hb9⟩
      ·rw[List.length_append,List.length_singleton]
       have:=HOL.out
       omega
      ·rcases List.mem_append.1 hy with h|h
       ·have:=(HOM.out y).1 h
        exact⟨this.1,by omega⟩
       ·rw[List.mem_singleton.1 h]
        exact⟨by rw[←HZX.out,Int.neg_neg];exact HXM.out,by rw[HXE.out];exact Int.le_refl _⟩
      ·by_cases h6:rIdx y≤last
       ·exact List.mem_append_left _ ((HOM.out y).2 ⟨hy.1,h6⟩)
       ·refine List.mem_append_right _ (List.mem_singleton.2 ?_)
        have h7:=HMIN.out _ hy.1
        rw[Int.neg_neg]at h7
        have hly:=HLN.out _ hy.1
        rw[Int.neg_neg]at hly
        exact rIdx_inj hly HLX.out (by rw[HXE.out];have:=h7 (by omega);omega)
     case measure=>simp only[intOf];omega
end Go.Proofs.YtajbmjpodeilpaaGreat
namespace Go.Proofs.YtajbmjpodeilpaaGreat
open Go.RowKit
theorem rFol_len (es:Ents): ∀(hs all:List Int),(rFol es all hs).1.length≤all.length+hs.length
 | [],all=>Nat.le_refl _
 | id::r,all=>by
  rw[rFol]
  split
  ·exact Nat.zero_le _
  ·split
   ·exact Nat.le_add_right _ _
   ·split
    ·have:=rFol_len es r (all++ [(rLook all (by assumption) []).2])
     rw[List.length_append,List.length_singleton]at this
     rw[List.length_cons]
     omega
    ·exact Nat.zero_le _
theorem rOpen_len (asg:List Int) (p:Int): ∀(c all:List Int),(rOpen asg p all c).1.length≤all.length+c.length
 | [],all=>Nat.le_refl _
 | x::r,all=>by
  rw[rOpen,List.length_cons]
  split
  ·have:=rOpen_len asg p r all
   omega
  ·split
   ·exact Nat.zero_le _
   ·have:=rOpen_len asg p r (all++ [-x])
    rw[List.length_append,List.length_singleton]at this
    omega
def notUp (q:Option Int) (id:Int):Bool:=match q with|none=>false|some z=>decide (id≤z)
def rIdsGo (want:List Int):Option Int→List (Int×List Int)→Option Int
 | _,[]=>none
 | q,g::r=>if want.contains g.1=false∨notUp q g.1=true then some g.1 else rIdsGo want (some g.1) r
def rLoop (es:Ents) (p:Int) (asg:List Int):List (Int×List Int)→Option (Int×Nat)
 | []=>none
 | g::r=>if(rOpen asg p asg ((getA es g.1).getD [])).2=false then rLoop es p asg r else
  if(rFol es (rOpen asg p asg ((getA es g.1).getD [])).1 g.2).2.2.2≠0 then some (rFol es (rOpen asg p asg ((getA es g.1).getD [])).1 g.2).2.2 else
  if(rFol es (rOpen asg p asg ((getA es g.1).getD [])).1 g.2).2.1=false then some (g.1,93)else rLoop es p asg r
def rFst (gs:List (Int×List Int)) (want:List Int):Option Int:=want.find? fun id=> !gs.any fun g=>g.1==id
def rChk (es:Ents) (out c hs:List Int) (gs:List (Int×List Int)):Nat×Int×Nat:=
 if alwR c=true then(1,0,0)else
 if(rFol es out hs).2.2.2≠0 then(0,(rFol es out hs).2.2)else
 if(rFol es out hs).2.1=true then(1,0,0)else
 match c with
 | []=>(0,0,82)
 | p::_=>match rFst gs (rCand p es)with
  | some id=>(0,id,92)
  | none=>match rIdsGo (rCand p es) none gs with
   | some id=>(0,id,92)
   | none=>match rLoop es p (rFol es out hs).1 gs with
    | some x=>(0,x)
    | none=>(2,0,0)
theorem rIds_mem {want:List Int}: ∀{gs:List (Int×List Int)} {q:Option Int},rIdsGo want q gs=none→∀g∈gs,g.1∈want
 | [],_,_,g,hg=>by cases hg
 | a::r,q,h,g,hg=>by
  rw[rIdsGo]at h
  split at h
  ·cases h
  ·rename_i hc
   rcases List.mem_cons.1 hg with rfl|hg
   ·rw[not_or]at hc
    have:=hc.1
    rwa [Bool.not_eq_false,List.contains_iff_mem]at this
   ·exact rIds_mem h g hg
theorem cand_get {p:Int} {es:Ents} {id:Int} (h:id∈rCand p es): ∃c,getA es id=some c:=by
 unfold rCand at h
 obtain⟨x,hx,rfl⟩:=List.mem_map.1 h
 have hm:=(List.mem_filter.1 hx).1
 cases hg:getA es x.1 with
 | some c=>exact⟨c,rfl⟩
 | none=>
  unfold getA at hg
  rw[Option.map_eq_none_iff]at hg
  have:=List.find?_eq_none.1 hg x hm
  simp at this
end Go.Proofs.YtajbmjpodeilpaaGreat
