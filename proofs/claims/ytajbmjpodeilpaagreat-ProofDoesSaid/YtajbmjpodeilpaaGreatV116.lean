/- Reference of layer 9: Split. Reference of layer 7: Right. -/
import Derived.Test.YtajbmjpodeilpaaGreatV114
import Derived.Test.YtajbmjpodeilpaaGreatV115
import Derived.Test.YtajbmjpodeilpaaGreatV107
import Derived.Test.YtajbmjpodeilpaaGreatV112
import Derived.Deep.DeepCutAuto
namespace Go.Proofs.YtajbmjpodeilpaaGreat
open Go.RowKit
theorem oinfo_grp:(Tryz.prog.info? 145).map (fun i=>(i.zero,i.size,i.bytes))=some (some (.agg #[.int .i64 0,.slice none 0 0]),2,32):=by kernel_rfl
structure RG (B:Nat) (w:World) (v:Value) (K:List REn):Prop where
 own:w.ownsRow B 145 2 v K.length (K.flatMap REn.cells)
 low: ∀x∈K,IntsIn (fun g=>v.ownBlock≠some g) w x.2 x.1.2
theorem RG.ents {B:Nat} {w:World} {v:Value} {K:List REn} (h:RG B w v K):EntIn (fun _=>True) w v (K.map (·.1)):=by
 obtain⟨ho,hl⟩:=h
 rcases ho.2 with⟨rfl,h0⟩|⟨g,cap,cur,rfl,hBg,hg,hle,_⟩
 ·have:K= []:=List.eq_nil_of_length_eq_zero h0
  subst this
  exact⟨none,0,rfl,Nat.le_refl _,fun _=>rfl,fun i p hi=>by simp at hi⟩
 ·refine⟨_,cap,by rw[List.length_map],by rw[List.length_map];omega,(fun h=>by cases h),fun i p hi=>?_⟩
  rw[List.getElem?_map,Option.map_eq_some_iff]at hi
  obtain⟨x,hx,rfl⟩:=hi
  obtain⟨e0,e1⟩:=ricell_at K i x hx
  exact⟨g,0,x.2,rfl,heap_lt hg,trivial,by rw[Nat.zero_add];exact mx_at ho e0,by rw[Nat.zero_add];exact mx_at ho e1,(hl x (List.mem_of_getElem? hx)).mono fun _ _=>trivial⟩
theorem RG.push {B:Nat} {w w9:World} {v v':Value} {K:List REn} {id:Int} (h:RG B w v K) (hg:(w.alloc (.cells #[.int .i64 id,.slice none 0 0] 145)).grownBy w9 v.ownBlock) (hat:v'.ownBlock=v.ownBlock∨v'.ownBlock=some (w.alloc (.cells #[.int .i64 id,.slice none 0 0] 145)).heap.size)
  (ho:w9.ownsRow B 145 2 v' (K.length+1) (K.flatMap REn.cells++ [.int .i64 id,.slice none 0 0])):RG B w9 v' (K++ [((id,[]),.slice none 0 0)]):=
 ⟨by rw[List.length_append,List.length_singleton,List.flatMap_append];exact ho,fun y hy=>by
  rcases List.mem_append.1 hy with hy|hy
  ·have h1:=((h.low y hy).below (mx_al w (.cells #[.int .i64 id,.slice none 0 0] 145)))
   have hz:=(mx_al w (.cells #[.int .i64 id,.slice none 0 0] 145)).size
   have h2:IntsIn (fun g=>v.ownBlock≠some g∧g<(w.alloc (.cells #[.int .i64 id,.slice none 0 0] 145)).heap.size) w9 y.2 y.1.2:=h1.lt.kept (Kept.grown hg) (fun g hg e=>hg.1 e.symm)
   refine h2.mono fun g hg e=>?_
   rcases hat with ha|ha
   ·rw[ha]at e;exact hg.1 e
   ·rw[ha]at e
    have:=Option.some.inj e
    have:=hg.2
    omega
  ·obtain rfl:=List.mem_singleton.1 hy
   exact IntsIn.nil _ _⟩
theorem RG.setLast {B:Nat} {w:World} {gb n c:Nat} {K0:List REn} {x:REn} (h:RG B w (.slice (some ⟨gb,0,none⟩) n c) (K0++ [x])) {u:Value} {c':List Int} (hu:IntsIn (fun g=>gb≠g) w u c'):
  RG B (w.setCell ⟨gb,K0.length*2+1,none⟩ u) (.slice (some ⟨gb,0,none⟩) n c) (K0++ [((x.1.1,c'),u)]):=by
 have hk:Kept (fun g=>g=gb) w (w.setCell ⟨gb,K0.length*2+1,none⟩ u):=(Kept.refl _ _).setCell ⟨gb,K0.length*2+1,none⟩ u rfl
 have hn:n=(K0++ [x]).length:=by
  obtain⟨A',c1,e,_⟩:=mx_slice h.own
  cases e;rfl
 subst hn
 refine⟨?_,fun y hy=>?_⟩
 ·have:=own_setg (j:=K0.length*2+1) h.own u
  rw[List.flatMap_append,List.set_append_right _ _ (by rw[rcells_len];omega),rcells_len,show K0.length*2+1-K0.length*2=1 by omega]at this
  have hlen:(K0++ [(((x.1.1,c'),u):REn)]).length=(K0++ [x]).length:=by rw[List.length_append,List.length_append];rfl
  rw[List.flatMap_append,hlen]
  exact this
 ·rcases List.mem_append.1 hy with hy|hy
  ·refine(h.low y (List.mem_append_left _ hy)).kept hk (fun g hg e=>hg (by rw[e];rfl))
  ·obtain rfl:=List.mem_singleton.1 hy
   exact(hu.kept hk (fun g hg e=>hg e.symm)).mono fun g hg e=>hg (Option.some.inj e)
theorem RG.below {B:Nat} {w w':World} {v:Value} {K:List REn} (h:RG B w v K) (k:Below w.heap.size w w'):RG B w' v K:=
 ⟨own_below h.own k,fun x hx=>(h.low x hx).below k⟩
def splitOk (hs:List Int):Prop:= ∀x∈hs,x≠0∧ -1073741824≤x∧x≤1073741824
set_option maxRecDepth 100000 in
set_option maxHeartbeats 4000000 in
theorem ref_split09 {O:Nat→Prop} (u:Value) (hs:List Int) (w:World) (h:IntsIn O w u hs) (hl:hs.length≤100000) (hok:splitOk hs):
  Calls Tryz.prog 43 #[u] w fun e w'=>(∃ov gv,e= .returned (.tuple #[ov,gv,.int .i64 0])∧IntsIn (fun _=>True) w' ov (splitL hs).1∧EntIn (fun _=>True) w' gv (splitL hs).2)∧Below w.heap.size w w':=by
 obtain⟨i0,hi0,iz1,iz2,iz3⟩:=info_parts oinfo_int
 obtain⟨g0,gi0,gz1,gz2,gz3⟩:=info_parts oinfo_grp
 obtain⟨R,hR⟩: ∃R,splitL hs=R:=⟨_,rfl⟩
 rw[hR]
 have HR0:=Lib.hid (show splitGo [] [] hs=R from hR)
 have HH:=Lib.hid h
 have HOK:=Lib.hid hok
 obtain⟨A,c0,rfl,hc0,_⟩:=h
 clear hR hok
 go_enter Tryz.func43,Tryz.ntmps43
 go_wp2_with fail
 go_loopw [5,6,7] (fun ov gv iv wr=> ∃(i:Nat) (out:List Int) (K:List REn),i≤hs.length∧iv= .int .i64 i∧Hid (splitGo out (K.map (·.1)) (hs.drop i)=R)∧Hid (out.length≤i∧K.length≤i∧∀x∈K,x.1.2.length≤i)∧Hid (wr.ownsRow w.heap.size 3 1 ov out.length (out.map (Value.int .i64)))∧Hid (RG w.heap.size wr gv K)∧Hid (∀g,ov.ownBlock=some g→gv.ownBlock≠some g)∧Hid (Below w.heap.size w wr)) (fun _ _ iv _=>hs.length-(intOf iv).toNat)
 case atStart=>exact⟨0,[],[],Nat.zero_le _,rfl,Lib.hid HR0.out,Lib.hid ⟨Nat.le_refl _,Nat.le_refl _,fun x hx=>by cases hx⟩,Lib.hid (World.ownsRow_nil _ _ _ _),Lib.hid ⟨World.ownsRow_nil _ _ _ _,fun x hx=>by cases hx⟩,Lib.hid (fun g e=>by cases e),Lib.hid (Below.refl _ _)⟩
 case round=>
  obtain⟨i,out,K,hi,rfl,HS,HL,HO,HG,HD,HB⟩:=hrel
  obtain⟨Ao,co,rfl,hco⟩:=mx_slice HO.out
  obtain⟨Ag,cg,rfl,hcg⟩:=mx_slice HG.out.own
  have hzw:=HB.out.size
  obtain⟨l1,l2,l3⟩:=HL.out
  by_cases hlt:i<hs.length
  ·obtain⟨id,hid⟩:=atOf hlt
   obtain⟨n0,m1,m2⟩:=HOK.out id (List.mem_of_getElem? hid)
   obtain⟨A2,c2,hA2,_,_,hx⟩:=HH.out.below HB.out
   simp only[Value.slice.injEq,true_and]at hA2
   obtain⟨rfl,rfl⟩:=hA2
   obtain⟨g,o,rfl,hg,_,d0⟩:=hx i id hid
   have hE:=HS.out
   rw[dropAt hid,splitGo]at hE
   have q0:(id==0)=false:=beq_eq_false_iff_ne.2 n0
   have q1:decide ((1073741824:Int)<id)=false:=decide_eq_false (by omega)
   have q2:decide (id<(-1073741824:Int))=false:=decide_eq_false (by omega)
   have wi:IntKind.i64.wrap (i:Int)=(i:Int):=IntWalk.i64_in _ (by omega)
   have li:(i:Int)<(hs.length:Int):=by omega
   clear hx hid n0 hlt
   by_cases hn:id<0
   ·rw[if_pos hn]at hE
    have q3:decide (id<0)=true:=decide_eq_true hn
    have wn:IntKind.i64.wrap (-id)= -id:=IntWalk.i64_in _ (by omega)
    have HE:=Lib.hid hE
    have HD2:=Lib.hid hn
    clear hE hn
    have wl:IntKind.i64.wrap ((K.length:Int)-1)=(K.length:Int)-1:=IntWalk.i64_in _ (by omega)
    go_wp2_with (at_builtin;refine wpList_append_own_at _ rfl _ _ 99 rfl w.heap.size 145 g0 (.agg #[.int .i64 0,.slice none 0 0]) 2 32 Tryz.underlying99 gi0 gz1 gz2 gz3 rfl (by decide) _ K.length _ rfl (own_below HG.out.own (mx_al wr _)) ⟨wr.heap.size,0,none⟩ 1 1 [.int .i64 (-id),.slice none 0 0] rfl rfl (fun j u hj=>cells_list_new wr [.int .i64 (-id),.slice none 0 0] 145 j u hj) (by simp[Value.oneCell']) (by unfold maxLen;omega) (by omega) (by simp;omega) ?_;intro v' w9 hown hgrow hnl hat;have HRG:=Lib.hid (HG.out.push hgrow hat hown);obtain⟨Aw,kw,hv2,_⟩:=mx_slice hown;subst hv2;have HGR:=Lib.hid hgrow;have HAT:=Lib.hid hat;clear hown hgrow hnl hat)
    have hb9:=HB.out.trans (grow_low HG.out.own HGR.out hzw)
    have ho9:=own_kept (own_below HO.out (mx_al wr (.cells #[.int .i64 (-id),.slice none 0 0] 145))) (Kept.grown HGR.out) (fun g hg e=>HD.out g hg e.symm)
    have hd9: ∀g,(Value.slice Ao out.length co).ownBlock=some g→(Value.slice Aw (K.length+1) kw).ownBlock≠some g:=fun g hg e=>by
     rcases HAT.out with ha|ha
     ·rw[ha]at e
      exact HD.out g hg e
     ·rw[ha]at e
      have h1:=Option.some.inj e
      have h2:=(own_lt HO.out g hg).2
      have h3:=(mx_al wr (.cells #[.int .i64 (-id),.slice none 0 0] 145)).size
      omega
    go_roundw
    case rel=>exact⟨i+1,out,K++ [((-id,[]),.slice none 0 0)],by omega,by go_num,Lib.hid (by rw[List.map_append];exact HE.out),Lib.hid ⟨by omega,by rw[List.length_append,List.length_singleton];omega,fun x hx=>by
     rcases List.mem_append.1 hx with hx|hx
     ·have:=l3 x hx;omega
     ·obtain rfl:=List.mem_singleton.1 hx
      exact Nat.zero_le _⟩,Lib.hid ho9,HRG,Lib.hid hd9,Lib.hid hb9⟩
    case measure=>simp[intOf];omega
   ·rw[if_neg hn]at hE
    have q3:decide (id<0)=false:=decide_eq_false hn
    clear hn
    rcases List.eq_nil_or_concat K with hK|⟨K0,x,hK⟩
    ·subst hK
     have HE:=Lib.hid (show splitGo (out++ [id]) [] (hs.drop (i+1))=R from hE)
     have wl:IntKind.i64.wrap (-1:Int)= -1:=by decide
     clear hE
     go_wp2_with (at_builtin;refine wpList_append_own_at _ rfl _ _ 32 rfl w.heap.size 3 i0 (.int .i64 0) 1 8 Tryz.underlying32 hi0 iz1 iz2 iz3 rfl (by decide) _ out.length _ rfl (own_below HO.out (mx_al wr _)) ⟨wr.heap.size,0,none⟩ 1 1 [.int .i64 id] rfl rfl (cell_one_new' _ _ _) (by simp[Value.oneCell']) (by unfold maxLen;omega) (by omega) (by simp;omega) ?_;intro v' w9 hown hgrow hnl hat;obtain⟨Aw,kw,hv2,_⟩:=mx_slice hown;subst hv2;have HOWN:=Lib.hid hown;have HGR:=Lib.hid hgrow;have HAT:=Lib.hid hat;clear hown hgrow hnl hat)
     have hb9:=HB.out.trans (grow_low HO.out HGR.out hzw)
     have hg9:=own_kept (own_below HG.out.own (mx_al wr (.cells #[.int .i64 id] 3))) (Kept.grown HGR.out) (fun g hg e=>HD.out g e.symm hg)
     have hd9: ∀g,(Value.slice Aw (out.length+1) kw).ownBlock=some g→(Value.slice Ag ([] :List REn).length cg).ownBlock≠some g:=fun g hg e=>by
      rcases HAT.out with ha|ha
      ·rw[ha]at hg
       exact HD.out g hg e
      ·rw[ha]at hg
       have h1:=Option.some.inj hg
       have h2:=(own_lt HG.out.own g e).2
       have h3:=(mx_al wr (.cells #[.int .i64 id] 3)).size
       omega
     go_roundw
     case rel=>exact⟨i+1,out++ [id],[],by omega,by go_num,HE,Lib.hid ⟨by rw[List.length_append,List.length_singleton];omega,Nat.zero_le _,fun x hx=>by cases hx⟩,Lib.hid (by rw[List.length_append,List.length_singleton,List.map_append];exact HOWN.out),Lib.hid ⟨hg9,fun x hx=>by cases hx⟩,Lib.hid hd9,Lib.hid hb9⟩
     case measure=>simp[intOf];omega
    ·rw[List.concat_eq_append]at hK
     obtain⟨⟨xi,xl⟩,xv⟩:=x
     have hE2:splitGo out (K0.map (·.1)++ [(xi,xl++ [id])]) (hs.drop (i+1))=R:=by
      have:=hE
      rw[hK,List.map_append,List.map_singleton,List.getLast?_concat,List.dropLast_concat]at this
      exact this
     have hxk:K[K0.length]? =some ((xi,xl),xv):=by rw[hK,List.getElem?_append_right (Nat.le_refl _),Nat.sub_self];rfl
     have hkl:K.length=K0.length+1:=by rw[hK,List.length_append];rfl
     have hxl:=l3 _ (List.mem_of_getElem? hxk)
     have hlow:=HG.out.low _ (List.mem_of_getElem? hxk)
     simp only at hxl hlow
     obtain⟨gb,rfl⟩: ∃gb,Ag=some ⟨gb,0,none⟩:=by
      rcases HG.out.own.2 with⟨hv,h0⟩|⟨gb,_,_,hv,_⟩
      ·omega
      ·cases hv;exact⟨gb,rfl⟩
     obtain⟨hgb1,hgb2⟩:=own_lt HG.out.own gb rfl
     obtain⟨gcs,hgcs⟩:=own_type HG.out.own gb rfl
     have d1:=mx_at HG.out.own (ricell_at K K0.length _ hxk).2
     simp only at d1
     have hsrc:=hlow.src
     obtain⟨Ax,cx,rfl,_⟩:=hlow
     have ho2:=own_newS wr [] 3 1 0 rfl (by omega)
     have hb2:=mx_al wr (.cells ([] :List Value).toArray 3)
     have y0:(wr.alloc (.cells #[] 3)).cell? ⟨gb,K0.length*2+1,none⟩=some (.slice Ax xl.length cx):=(hb2.cell (p:=⟨gb,K0.length*2+1,none⟩) hgb2).trans d1
     obtain⟨W2,hW2⟩: ∃z,wr.alloc (.cells ([] :List Value).toArray 3)=z:=⟨_,rfl⟩
     rw[hW2]at ho2 hb2
     have HW2:=Lib.hid hW2
     have HO2:=Lib.hid ho2
     have HB2:=Lib.hid hb2
     have HSR:=Lib.hid (hsrc.below hb2)
     have HK:=Lib.hid hK
     have HKL:=Lib.hid hkl
     have HE:=Lib.hid hE2
     have HD1:=Lib.hid d1
     have HGC:=Lib.hid hgcs
     have HXL:=Lib.hid (show(xl.map (Value.int .i64)).length=xl.length*1 from by simp)
     have wl:IntKind.i64.wrap ((K.length:Int)-1)=(K0.length:Int):=by rw[IntWalk.i64_in _ (by omega)];omega
     have wj:IntKind.i64.wrap (K0.length:Int)=(K0.length:Int):=IntWalk.i64_in _ (by omega)
     have lk:(K0.length:Int)<(K.length:Int):=by omega
     have qk:decide ((K0.length:Int)<0)=false:=decide_eq_false (by omega)
     have hK0:K0.length≤100000:=by omega
     clear hE hE2 hK hkl hxk hgcs d1 hsrc hW2 ho2 hb2 hgb1
     go_upto_region 5 with(at_builtin;first|(rw[HW2.out];refine wpList_append_any rfl _ _ 32 rfl wr.heap.size 3 i0 (.int .i64 0) 1 8 Tryz.underlying32 hi0 iz1 iz2 iz3 rfl (by decide) _ 0 _ rfl HO2.out (.slice Ax xl.length cx) xl.length (xl.map (Value.int .i64)) rfl HSR.out HXL.out (by simp[Value.oneCell']) (by unfold maxLen;omega) (by omega) HB2.out.size ?_;intro v' W4 hown hgrow hat;rw[Nat.zero_add,List.nil_append]at hown;obtain⟨A4,k4,rfl,_⟩:=mx_slice hown;have hb4:Below wr.heap.size wr W4:=HB2.out.trans (Below.grown (Below.refl _ _) (show W2.grownBy W4 (Value.slice (some ⟨wr.heap.size,0,none⟩) 0 0).ownBlock from hgrow) HB2.out.size (fun g e=>(own_lt HO2.out g e).1));have HO4:=Lib.hid hown;have HB4:=Lib.hid hb4;have hz4:=hb4.size;clear hown hgrow hat hb4 y0)|(refine wpList_append_own_at _ rfl _ _ 32 rfl wr.heap.size 3 i0 (.int .i64 0) 1 8 Tryz.underlying32 hi0 iz1 iz2 iz3 rfl (by decide) _ xl.length _ rfl (own_below HO4.out (mx_al W4 _)) ⟨W4.heap.size,0,none⟩ 1 1 [.int .i64 id] rfl rfl (cell_one_new' _ _ _) (by simp[Value.oneCell']) (by unfold maxLen;omega) (by omega) (by simp;omega) ?_;intro v' W5 hown hgrow hnl hat;obtain⟨A5,k5,hv5,_⟩:=mx_slice hown;subst hv5;have HO5:=Lib.hid hown;have HB5:=Lib.hid (HB4.out.trans (grow_low HO4.out hgrow hz4));have z0:=(HB5.out.cell (p:=⟨gb,K0.length*2+1,none⟩) hgb2).trans HD1.out;have f0:=oj_free (j:=K0.length*2+1) ((HB5.out.block gb hgb2).trans HGC.out);clear hown hgrow hnl hat))
     obtain⟨W6,hW6⟩: ∃z,W5.setCell ⟨gb,K0.length*2+1,none⟩ (.slice A5 (xl.length+1) k5)=z:=⟨_,rfl⟩
     rw[hW6]
     have hown5:=HO5.out
     have hrg5:=HG.out.below HB5.out
     rw[HK.out]at hrg5
     have hints:IntsIn (fun g=>gb≠g) W5 (.slice A5 (xl.length+1) k5) (xl++ [id]):=by
      have h1:W5.ownsRow wr.heap.size 3 1 (.slice A5 (xl.length+1) k5) (xl++ [id]).length ((xl++ [id]).map (Value.int .i64)):=by
       rw[List.length_append,List.length_singleton,List.map_append];exact hown5
      exact(IntsIn.of_own h1).mono fun g hg e=>by have:=hg.1;omega
     have hrg6:=RG.setLast hrg5 hints
     rw[hW6]at hrg6
     have hk6:Kept (fun g=>g=gb) W5 W6:=by rw[←hW6];exact(Kept.refl _ _).setCell ⟨gb,K0.length*2+1,none⟩ _ rfl
     have ho6:=own_kept (own_below HO.out HB5.out) hk6 (fun g hg e=>HD.out g hg (by rw[e];rfl))
     have hgb1:=(own_lt HG.out.own gb rfl).1
     have hb6:Below w.heap.size w W6:=(HB.out.trans (HB5.out.mono hzw)).trans (hk6.below (fun g e=>by omega) (Nat.le_trans hzw HB5.out.size))
     have HRG6:=Lib.hid hrg6
     have HO6:=Lib.hid ho6
     have HB6:=Lib.hid hb6
     clear hrg5 hrg6 hints hk6 ho6 hb6 hown5 hW6 z0 f0
     go_wp2_with fail
     go_roundw
     case rel=>exact⟨i+1,out,K0++ [((xi,xl++ [id]),.slice A5 (xl.length+1) k5)],by omega,by go_num,Lib.hid (by rw[List.map_append];exact HE.out),Lib.hid ⟨by omega,by have:=HKL.out;rw[List.length_append,List.length_singleton];omega,fun x hx=>by
      rcases List.mem_append.1 hx with hx|hx
      ·have:=l3 x (by rw[HK.out];exact List.mem_append_left _ hx)
       omega
      ·obtain rfl:=List.mem_singleton.1 hx
       show(xl++ [id]).length≤_
       rw[List.length_append,List.length_singleton];omega⟩,HO6,Lib.hid (by have h:=HRG6.out;rw[←HK.out]at h;exact h),HD,HB6⟩
     case measure=>simp[intOf];omega
  ·have hE:=HS.out
   rw[List.drop_of_length_le (by omega),splitGo]at hE
   subst hE
   go_wp2_with fail
   go_ret3
   exact⟨⟨_,_,rfl,(IntsIn.of_own HO.out).mono (fun _ _=>trivial),HG.out.ents⟩,HB.out⟩
end Go.Proofs.YtajbmjpodeilpaaGreat
namespace Go.Proofs.YtajbmjpodeilpaaGreat
open Go.RowKit
def badH (d:Bool) (h:Int):Bool:=decide (h=0)||decide (1073741824<h)||decide (h< -1073741824)||(d&&decide (h<0))
theorem stepB_any {d:Bool} {id:Int} {c hs:List Int} {B:Bool} (h:(!(decide (id<0)||decide (1073741824<id)||(!d&&decide (id=0))||(d&&decide (0<c.length)))&&(clauseB c&&decide (hs.length≤65536)))=true) (hB:hs.any (badH d)=B):stepB ⟨d,id,c,hs⟩= !B:=by
 rw[Bool.and_eq_true,Bool.and_eq_true]at h
 obtain⟨h1,h2,h3⟩:=h
 unfold stepB
 simp only
 rw[h1,h2,h3,Bool.true_and,Bool.true_and,Bool.true_and,←hB]
 rfl
theorem stepB_ok {d:Bool} {id:Int} {c hs:List Int} {B:Bool} (h1:0≤id) (h2:id≤1073741824) (h3:d=false→id≠0) (h4:d=true→c.length=0) (h5:clauseB c=true) (h6:hs.length≤65536) (hB:hs.any (badH d)=B):stepB ⟨d,id,c,hs⟩= !B:=by
 refine stepB_any ?_ hB
 rw[h5]
 cases d with
 | false=>
  have:=h3 rfl
  simp[decide_eq_false (show¬id<0 by omega),decide_eq_false (show¬1073741824<id by omega),this,h6]
 | true=>
  have:=h4 rfl
  simp[decide_eq_false (show¬id<0 by omega),decide_eq_false (show¬1073741824<id by omega),List.eq_nil_of_length_eq_zero this,h6]
set_option maxRecDepth 100000 in
set_option maxHeartbeats 4000000 in
theorem ref_right07 {O:Nat→Prop} (d:Bool) (id:Int) (ul uh:Value) (c hs:List Int) (w:World) (hl:IntsIn O w ul c) (hh:IntsIn O w uh hs) (hcl:c.length≤1000000) (hhl:hs.length≤1000000) (hr: ∀h∈hs,-9223372036854775808≤h∧h≤9223372036854775807):
  Calls Tryz.prog 64 #[.agg #[.bool d,.int .i64 id,ul,uh]] w fun e w'=>e= .returned (.bool (stepB ⟨d,id,c,hs⟩))∧Below w.heap.size w w':=by
 obtain⟨W1,hW1,hb1,hx1,hz1⟩:=al_new w #[.bool d,.int .i64 id,ul,uh] 78
 have HRC:=Lib.hid (show∀W,Below W1.heap.size W1 W→_ from fun W hW=>ref_right_clause ul c W ((hl.below hb1).below hW) (by omega))
 have HH1:=Lib.hid (hh.below hb1)
 have HRG:=Lib.hid hr
 obtain⟨Al,cl,rfl,_⟩:=hl
 obtain⟨Ah,ch,rfl,_⟩:=hh
 have x0:=mx_cell (j:=0) hx1
 have x1:=mx_cell (j:=1) hx1
 have x2:=mx_cell (j:=2) hx1
 have x3:=mx_cell (j:=3) hx1
 have HB1:=Lib.hid hb1
 clear hb1 hx1 hz1 hr
 cases d with
 | false=>
  go_enter Tryz.func64,Tryz.ntmps64
  go_upto_region 1 with fail
  clear hW1
  by_cases j1:id<0
  ·have p1:decide (id<0)=true:=decide_eq_true (by omega)
   have HN:=Lib.hid (show stepB ⟨false,id,c,hs⟩=false from by
    unfold stepB;simp[j1])
   clear j1
   go_wp2_with fail
   go_ret
   exact⟨congrArg (fun b=>Ending.returned (.bool b)) HN.out.symm,HB1.out⟩
  ·have p1:decide (id<0)=false:=decide_eq_false (by omega)
   by_cases j2:1073741824<id
   ·have p2:decide (1073741824<id)=true:=decide_eq_true (by omega)
    have HN:=Lib.hid (show stepB ⟨false,id,c,hs⟩=false from by
     unfold stepB;simp[j2])
    clear j1 j2
    go_wp2_with fail
    go_ret
    exact⟨congrArg (fun b=>Ending.returned (.bool b)) HN.out.symm,HB1.out⟩
   ·have p2:decide (1073741824<id)=false:=decide_eq_false (by omega)
    by_cases j3:id=0
    ·have p3:(id==0)=true:=beq_iff_eq.2 j3
     have HN:=Lib.hid (show stepB ⟨false,id,c,hs⟩=false from by
      unfold stepB;simp[j3])
     clear j1 j2 j3
     go_wp2_with fail
     go_ret
     exact⟨congrArg (fun b=>Ending.returned (.bool b)) HN.out.symm,HB1.out⟩
    ·have p3:(id==0)=false:=beq_eq_false_iff_ne.2 j3
     cases hcb:clauseB c with
     | false=>
      have HRC2:=Lib.hid (show∀W,Below W1.heap.size W1 W→_ from fun W hW=>HRC.out W hW)
      rw[hcb]at HRC2
      have HN:=Lib.hid (show stepB ⟨false,id,c,hs⟩=false from by
       unfold stepB;simp[hcb])
      clear hcb j1 j2 j3
      go_wp2_with fail
      refine(HRC2.out W1 (Below.refl _ _)).mono ?_
      rintro e w1 ⟨rfl,rfl⟩
      go_wp2_with fail
      go_ret
      exact⟨congrArg (fun b=>Ending.returned (.bool b)) HN.out.symm,HB1.out⟩
     | true=>
      have HRC2:=Lib.hid (show∀W,Below W1.heap.size W1 W→_ from fun W hW=>HRC.out W hW)
      rw[hcb]at HRC2
      by_cases j4:65536<hs.length
      ·have p4:decide ((65536:Int)<(hs.length:Int))=true:=decide_eq_true (by omega)
       have p5:decide (65536<hs.length)=true:=decide_eq_true j4
       have HN:=Lib.hid (show stepB ⟨false,id,c,hs⟩=false from by
        unfold stepB;simp[show¬hs.length≤65536 by omega])
       clear hcb j1 j2 j3
       go_wp2_with fail
       refine(HRC2.out W1 (Below.refl _ _)).mono ?_
       rintro e w1 ⟨rfl,rfl⟩
       go_wp2_with fail
       go_ret
       exact⟨congrArg (fun b=>Ending.returned (.bool b)) HN.out.symm,HB1.out⟩
      ·have p4:decide ((65536:Int)<(hs.length:Int))=false:=decide_eq_false (by omega)
       have p5:decide (65536<hs.length)=false:=decide_eq_false j4
       obtain⟨B,hB⟩: ∃B,hs.any (badH false)=B:=⟨_,rfl⟩
       have HST:=Lib.hid (show stepB ⟨false,id,c,hs⟩= !B from by rw[←hB];exact stepB_ok (by omega) (by omega) (fun h=>by first|exact j3|cases h) (fun h=>by first|omega|cases h) hcb (by omega) rfl)
       have HB0:=Lib.hid hB
       clear hB hcb j1 j2 j3 j4
       go_wp2_with fail
       refine(HRC2.out W1 (Below.refl _ _)).mono ?_
       rintro e w1 ⟨rfl,rfl⟩
       go_wp2_with fail
       go_loopw [3] (fun iv wr=> ∃i:Nat,i≤hs.length∧iv= .int .i64 i∧Hid ((hs.drop i).any (badH false)=B)∧Hid (W1=wr)) (fun iv _=>hs.length-(intOf iv).toNat)
       case atStart=>exact⟨0,Nat.zero_le _,rfl,Lib.hid HB0.out,Lib.hid rfl⟩
       case round=>
        obtain⟨i,hi,rfl,HK,HWR⟩:=hrel
        obtain rfl:=HWR.out
        by_cases hlt:i<hs.length
        ·obtain⟨h,hh⟩:=atOf hlt
         obtain⟨hr1,hr2⟩:=HRG.out h (List.mem_of_getElem? hh)
         obtain⟨A2,c2,hA2,_,_,hx⟩:=HH1.out
         simp only[Value.slice.injEq,true_and]at hA2
         obtain⟨rfl,rfl⟩:=hA2
         obtain⟨g,o,rfl,hg,_,d0⟩:=hx i h hh
         have wi:IntKind.i64.wrap (i:Int)=(i:Int):=IntWalk.i64_in _ (by omega)
         have li:(i:Int)<(hs.length:Int):=by omega
         clear hx
         by_cases k1:h<0
         ·have q1:decide (h<0)=true:=decide_eq_true (by omega)
          by_cases k2:h< -1073741824
          ·by_cases k3:h= -9223372036854775808
           ·have q2:decide (h<1)=true:=decide_eq_true (by omega)
            have wn:IntKind.i64.wrap (-h)=h:=by rw[k3];decide
            have HN:=Lib.hid (show stepB ⟨false,id,c,hs⟩=false from by
             rw[HST.out,←HK.out,dropAt hh,List.any_cons]
             have:badH false h=true:=by unfold badH;simp only[Bool.or_eq_true,Bool.and_eq_true,decide_eq_true_eq];first|omega|simp;omega
             rw[this];rfl)
            clear hh k1 k2 k3
            go_wp2_with fail
            go_ret
            exact⟨congrArg (fun b=>Ending.returned (.bool b)) HN.out.symm,HB1.out⟩
           ·have wn:IntKind.i64.wrap (-h)= -h:=IntWalk.i64_in _ (by omega)
            have q2:decide (-h<1)=false:=decide_eq_false (by omega)
            have q3:decide (1073741824< -h)=true:=decide_eq_true (by omega)
            have HN:=Lib.hid (show stepB ⟨false,id,c,hs⟩=false from by
             rw[HST.out,←HK.out,dropAt hh,List.any_cons]
             have:badH false h=true:=by unfold badH;simp only[Bool.or_eq_true,Bool.and_eq_true,decide_eq_true_eq];first|omega|simp;omega
             rw[this];rfl)
            clear hh k1 k2 k3
            go_wp2_with fail
            go_ret
            exact⟨congrArg (fun b=>Ending.returned (.bool b)) HN.out.symm,HB1.out⟩
          ·have wn:IntKind.i64.wrap (-h)= -h:=IntWalk.i64_in _ (by omega)
           have q2:decide (-h<1)=false:=decide_eq_false (by omega)
           have q3:decide (1073741824< -h)=false:=decide_eq_false (by omega)
           have HN:=Lib.hid (show(hs.drop (i+1)).any (badH false)=B from by
            have h0:=HK.out
            rw[dropAt hh,List.any_cons]at h0
            have:badH false h=false:=by unfold badH;simp only[Bool.or_eq_false_iff,Bool.and_eq_false_iff,decide_eq_false_iff_not];first|omega|simp;omega
            rwa [this,Bool.false_or]at h0)
           clear hh k1 k2
           go_wp2_with fail
           go_roundw
           case rel=>exact⟨i+1,by omega,by go_num,HN,Lib.hid (by first|trivial|rfl)⟩
           case measure=>simp[intOf];omega
         ·have q1:decide (h<0)=false:=decide_eq_false (by omega)
          by_cases k2:h<1
          ·have q2:decide (h<1)=true:=decide_eq_true (by omega)
           have HN:=Lib.hid (show stepB ⟨false,id,c,hs⟩=false from by
            rw[HST.out,←HK.out,dropAt hh,List.any_cons]
            have:badH false h=true:=by unfold badH;simp only[Bool.or_eq_true,Bool.and_eq_true,decide_eq_true_eq];first|omega|simp;omega
            rw[this];rfl)
           clear hh k1 k2
           go_wp2_with fail
           go_ret
           exact⟨congrArg (fun b=>Ending.returned (.bool b)) HN.out.symm,HB1.out⟩
          ·have q2:decide (h<1)=false:=decide_eq_false (by omega)
           by_cases k3:1073741824<h
           ·have q3:decide (1073741824<h)=true:=decide_eq_true (by omega)
            have HN:=Lib.hid (show stepB ⟨false,id,c,hs⟩=false from by
             rw[HST.out,←HK.out,dropAt hh,List.any_cons]
             have:badH false h=true:=by unfold badH;simp only[Bool.or_eq_true,Bool.and_eq_true,decide_eq_true_eq];first|omega|simp;omega
             rw[this];rfl)
            clear hh k1 k2 k3
            go_wp2_with fail
            go_ret
            exact⟨congrArg (fun b=>Ending.returned (.bool b)) HN.out.symm,HB1.out⟩
           ·have q3:decide (1073741824<h)=false:=decide_eq_false (by omega)
            have HN:=Lib.hid (show(hs.drop (i+1)).any (badH false)=B from by
             have h0:=HK.out
             rw[dropAt hh,List.any_cons]at h0
             have:badH false h=false:=by unfold badH;simp only[Bool.or_eq_false_iff,Bool.and_eq_false_iff,decide_eq_false_iff_not];first|omega|simp;omega
             rwa [this,Bool.false_or]at h0)
            clear hh k1 k2 k3
            go_wp2_with fail
            go_roundw
            case rel=>exact⟨i+1,by omega,by go_num,HN,Lib.hid (by first|trivial|rfl)⟩
            case measure=>simp[intOf];omega
        ·have HN:=Lib.hid (show stepB ⟨false,id,c,hs⟩=true from by
          rw[HST.out,←HK.out,List.drop_of_length_le (by omega)];rfl)
         go_wp2_with fail
         go_ret
         exact⟨congrArg (fun b=>Ending.returned (.bool b)) HN.out.symm,HB1.out⟩
 | true=>
  go_enter Tryz.func64,Tryz.ntmps64
  go_upto_region 1 with fail
  clear hW1
  by_cases j1:id<0
  ·have p1:decide (id<0)=true:=decide_eq_true (by omega)
   have HN:=Lib.hid (show stepB ⟨true,id,c,hs⟩=false from by
    unfold stepB;simp[j1])
   clear j1
   go_wp2_with fail
   go_ret
   exact⟨congrArg (fun b=>Ending.returned (.bool b)) HN.out.symm,HB1.out⟩
  ·have p1:decide (id<0)=false:=decide_eq_false (by omega)
   by_cases j2:1073741824<id
   ·have p2:decide (1073741824<id)=true:=decide_eq_true (by omega)
    have HN:=Lib.hid (show stepB ⟨true,id,c,hs⟩=false from by
     unfold stepB;simp[j2])
    clear j1 j2
    go_wp2_with fail
    go_ret
    exact⟨congrArg (fun b=>Ending.returned (.bool b)) HN.out.symm,HB1.out⟩
   ·have p2:decide (1073741824<id)=false:=decide_eq_false (by omega)
    cases hcb:clauseB c with
    | false=>
     have HRC2:=Lib.hid (show∀W,Below W1.heap.size W1 W→_ from fun W hW=>HRC.out W hW)
     rw[hcb]at HRC2
     have HN:=Lib.hid (show stepB ⟨true,id,c,hs⟩=false from by unfold stepB;simp[hcb])
     clear hcb
     go_upto_region 1 with fail
     go_cut [22] (fun v wx=>v= .bool false∧W1=wx)
     by_cases j3:id=0
     ·have p3:(id==0)=true:=beq_iff_eq.2 j3
      clear j3
      go_wp2_with fail
      go_meet
      exact⟨rfl,rfl⟩
     ·have p3:(id==0)=false:=beq_eq_false_iff_ne.2 j3
      clear j3
      go_wp2_with fail
      go_meet
      exact⟨rfl,rfl⟩
     case rest=>
      obtain⟨rfl,rfl⟩:=hcut
      go_wp2_with fail
      refine(HRC2.out W1 (Below.refl _ _)).mono ?_
      rintro e w1 ⟨rfl,rfl⟩
      go_wp2_with fail
      go_ret
      exact⟨congrArg (fun b=>Ending.returned (.bool b)) HN.out.symm,HB1.out⟩
    | true=>
     have HRC2:=Lib.hid (show∀W,Below W1.heap.size W1 W→_ from fun W hW=>HRC.out W hW)
     rw[hcb]at HRC2
     go_upto_region 1 with fail
     go_cut [22] (fun v wx=>v= .bool false∧W1=wx)
     by_cases j3:id=0
     ·have p3:(id==0)=true:=beq_iff_eq.2 j3
      clear j3
      go_wp2_with fail
      go_meet
      exact⟨rfl,rfl⟩
     ·have p3:(id==0)=false:=beq_eq_false_iff_ne.2 j3
      clear j3
      go_wp2_with fail
      go_meet
      exact⟨rfl,rfl⟩
     case rest=>
      obtain⟨rfl,rfl⟩:=hcut
      by_cases j5:0<c.length
      ·have p6:decide ((0:Int)<(c.length:Int))=true:=decide_eq_true (by omega)
       have p7:decide (0<c.length)=true:=decide_eq_true j5
       have HN:=Lib.hid (show stepB ⟨true,id,c,hs⟩=false from by unfold stepB;simp[j5])
       clear hcb
       go_wp2_with fail
       refine(HRC2.out W1 (Below.refl _ _)).mono ?_
       rintro e w1 ⟨rfl,rfl⟩
       go_wp2_with fail
       go_ret
       exact⟨congrArg (fun b=>Ending.returned (.bool b)) HN.out.symm,HB1.out⟩
      ·have p6:decide ((0:Int)<(c.length:Int))=false:=decide_eq_false (by omega)
       have p7:decide (0<c.length)=false:=decide_eq_false j5
       by_cases j4:65536<hs.length
       ·have p4:decide ((65536:Int)<(hs.length:Int))=true:=decide_eq_true (by omega)
        have p5:decide (65536<hs.length)=true:=decide_eq_true j4
        have HN:=Lib.hid (show stepB ⟨true,id,c,hs⟩=false from by unfold stepB;simp[show¬hs.length≤65536 by omega])
        clear hcb
        go_wp2_with fail
        refine(HRC2.out W1 (Below.refl _ _)).mono ?_
        rintro e w1 ⟨rfl,rfl⟩
        go_wp2_with fail
        go_ret
        exact⟨congrArg (fun b=>Ending.returned (.bool b)) HN.out.symm,HB1.out⟩
       ·have p4:decide ((65536:Int)<(hs.length:Int))=false:=decide_eq_false (by omega)
        have p5:decide (65536<hs.length)=false:=decide_eq_false j4
        obtain⟨B,hB⟩: ∃B,hs.any (badH true)=B:=⟨_,rfl⟩
        have HST:=Lib.hid (show stepB ⟨true,id,c,hs⟩= !B from by rw[←hB];exact stepB_ok (by omega) (by omega) (fun h=>by first|exact j3|cases h) (fun h=>by first|omega|cases h) hcb (by omega) rfl)
        have HB0:=Lib.hid hB
        clear hB hcb
        go_wp2_with fail
        refine(HRC2.out W1 (Below.refl _ _)).mono ?_
        rintro e w1 ⟨rfl,rfl⟩
        go_wp2_with fail
        go_loopw [3] (fun iv wr=> ∃i:Nat,i≤hs.length∧iv= .int .i64 i∧Hid ((hs.drop i).any (badH true)=B)∧Hid (W1=wr)) (fun iv _=>hs.length-(intOf iv).toNat)
        case atStart=>exact⟨0,Nat.zero_le _,rfl,Lib.hid HB0.out,Lib.hid rfl⟩
        case round=>
         obtain⟨i,hi,rfl,HK,HWR⟩:=hrel
         obtain rfl:=HWR.out
         by_cases hlt:i<hs.length
         ·obtain⟨h,hh⟩:=atOf hlt
          obtain⟨hr1,hr2⟩:=HRG.out h (List.mem_of_getElem? hh)
          obtain⟨A2,c2,hA2,_,_,hx⟩:=HH1.out
          simp only[Value.slice.injEq,true_and]at hA2
          obtain⟨rfl,rfl⟩:=hA2
          obtain⟨g,o,rfl,hg,_,d0⟩:=hx i h hh
          have wi:IntKind.i64.wrap (i:Int)=(i:Int):=IntWalk.i64_in _ (by omega)
          have li:(i:Int)<(hs.length:Int):=by omega
          clear hx
          by_cases k1:h<0
          ·have q1:decide (h<0)=true:=decide_eq_true (by omega)
           have q2:decide (h<1)=true:=decide_eq_true (by omega)
           have HN:=Lib.hid (show stepB ⟨true,id,c,hs⟩=false from by
            rw[HST.out,←HK.out,dropAt hh,List.any_cons]
            have:badH true h=true:=by unfold badH;simp only[Bool.or_eq_true,Bool.and_eq_true,decide_eq_true_eq];first|omega|simp;omega
            rw[this];rfl)
           clear hh k1
           go_wp2_with fail
           go_ret
           exact⟨congrArg (fun b=>Ending.returned (.bool b)) HN.out.symm,HB1.out⟩
          ·have q1:decide (h<0)=false:=decide_eq_false (by omega)
           by_cases k2:h<1
           ·have q2:decide (h<1)=true:=decide_eq_true (by omega)
            have HN:=Lib.hid (show stepB ⟨true,id,c,hs⟩=false from by
             rw[HST.out,←HK.out,dropAt hh,List.any_cons]
             have:badH true h=true:=by unfold badH;simp only[Bool.or_eq_true,Bool.and_eq_true,decide_eq_true_eq];first|omega|simp;omega
             rw[this];rfl)
            clear hh k1 k2
            go_wp2_with fail
            go_ret
            exact⟨congrArg (fun b=>Ending.returned (.bool b)) HN.out.symm,HB1.out⟩
           ·have q2:decide (h<1)=false:=decide_eq_false (by omega)
            by_cases k3:1073741824<h
            ·have q3:decide (1073741824<h)=true:=decide_eq_true (by omega)
             have HN:=Lib.hid (show stepB ⟨true,id,c,hs⟩=false from by
              rw[HST.out,←HK.out,dropAt hh,List.any_cons]
              have:badH true h=true:=by unfold badH;simp only[Bool.or_eq_true,Bool.and_eq_true,decide_eq_true_eq];first|omega|simp;omega
              rw[this];rfl)
             clear hh k1 k2 k3
             go_wp2_with fail
             go_ret
             exact⟨congrArg (fun b=>Ending.returned (.bool b)) HN.out.symm,HB1.out⟩
            ·have q3:decide (1073741824<h)=false:=decide_eq_false (by omega)
             have HN:=Lib.hid (show(hs.drop (i+1)).any (badH true)=B from by
              have h0:=HK.out
              rw[dropAt hh,List.any_cons]at h0
              have:badH true h=false:=by unfold badH;simp only[Bool.or_eq_false_iff,Bool.and_eq_false_iff,decide_eq_false_iff_not];first|omega|simp;omega
              rwa [this,Bool.false_or]at h0)
             clear hh k1 k2 k3
             go_wp2_with fail
             go_roundw
             case rel=>exact⟨i+1,by omega,by go_num,HN,Lib.hid (by first|trivial|rfl)⟩
             case measure=>simp[intOf];omega
         ·have HN:=Lib.hid (show stepB ⟨true,id,c,hs⟩=true from by
           rw[HST.out,←HK.out,List.drop_of_length_le (by omega)];rfl)
          go_wp2_with fail
          go_ret
          exact⟨congrArg (fun b=>Ending.returned (.bool b)) HN.out.symm,HB1.out⟩
end Go.Proofs.YtajbmjpodeilpaaGreat
