/- The watch: look. The watch: Propagate. -/
import Derived.Test.YtoojmhjagipmdaaGreatV321
namespace Go.Proofs.YtoojmhjagipmdaaGreat
open Go.RowKit Go.Maps Go.Shelf
theorem index_at {O:Nat→Prop} (u:Value) (xs:List Int) (y:Int) (m:Nat) (w:World) (h1:IntsIn O w u xs) (hs:xs.length≤1000000) (hm:xs[m]? =some y) (hf: ∀j,j<m→xs[j]? ≠some y):
  Calls Tryz.prog 136 #[u,.int .i64 y] w fun e w'=>e= .returned (.int .i64 (m:Nat))∧w=w':=by
 obtain⟨A,c,rfl,hc,_,hx⟩:=h1
 have HX:=Lib.hid hx
 have HM:=Lib.hid hm
 have HF:=Lib.hid hf
 have hml:=(List.getElem?_eq_some_iff.1 hm).1
 clear hx hm hf
 go_enter Tryz.func136,Tryz.ntmps136
 go_wp2
 go_loop [8] (fun i=> ∃k:Nat,k≤m∧i= .int .i64 k) (fun i=>xs.length-(intOf i).toNat)
 case atStart=>exact⟨0,Nat.zero_le _,rfl⟩
 case round=>
  obtain⟨k,hk,rfl⟩:=hrel
  have hlt:k<xs.length:=by omega
  obtain⟨x,hxk⟩:=getElem_of hlt
  obtain⟨g,o,rfl,hg,_,d1⟩:=HX.out k x hxk
  have HXK:=Lib.hid hxk
  clear hxk
  by_cases hkm:k=m
  ·subst hkm
   have hxy:y=x:=Option.some.inj (HM.out.symm.trans HXK.out)
   subst hxy
   go_wp2
   go_ret
   exact⟨rfl,rfl⟩
  ·have hne:(y==x)=false:=by
    rw[beq_eq_false_iff_ne]
    rintro rfl
    exact HF.out k (by omega) HXK.out
   go_wp2
   go_round
   case rel=>exact⟨k+1,by omega,by go_num⟩
   case measure=>simp[intOf];omega
structure LookSt (w:World) (lab:Nat→Nat) (b ab tb:Nat) (A:Arn) (T0:Trl) (S0:Wst) (l:Int) (all todo:List Int) (X:World) (T:Trl) (S:Wst):Prop where
 sys:SysNext w X lab b ab tb A T S
 bnd:S.Bnd
 link:S.Link
 eq:lookGo A T S l todo=lookGo A T0 S0 l all
 sub: ∀id∈todo,id∈S.row l
 nd:todo.Nodup
 sim: ∃its,Sim T its
 few:T.vars.length≤1000000
theorem Sim.orderLt {T:Trl} {its:List RIt} (h:Sim T its) (h2:T.vars.length≤1000000):T.order.length<1048576:=by
 have h1:=h.order
 rw[h1,List.length_map]
 rcases h.len with h3|h3
 ·omega
 ·rw[h3]
  decide
theorem Sim.assigned {T:Trl} {its:List RIt} (h:Sim T its) (l r:Int): ∃its',Sim (T.assigned l r) its':=by
 by_cases he:T.assignErr l r=0
 ·exact⟨_,h.snoc he⟩
 ·refine⟨its,?_⟩
  unfold Trl.assigned
  rw[if_neg he]
  exact h
theorem own_put {w:World} {base g n c i:Nat} {e:TypeId} {xs:List Value} {v:Value} (h:w.ownsRow base e 1 (.slice (some ⟨g,0,none⟩) n c) n xs) (hi:i<n):(w.setCell ⟨g,i,none⟩ v).ownsRow base e 1 (.slice (some ⟨g,0,none⟩) n c) n (xs.set i v):=by
 have hl:=h.1
 rcases h.2 with⟨h0,_⟩|⟨g',cap,cur,hv,hb,hg,h1,h2,h3,h4⟩
 ·cases h0
 ·simp only[Value.slice.injEq,Option.some.injEq,Addr.mk.injEq,and_true,true_and]at hv
  obtain⟨rfl,rfl⟩:=hv
  refine own_of_cells (mx_set hg v) hb h1 h2 (by simp;omega) (by simp;omega) (fun j x hj=>?_)
  rw[mx_cell (mx_set hg v)]
  rw[List.getElem?_set]at hj
  by_cases hij:i=j
  ·subst hij
   rw[if_pos rfl,if_pos (by omega)]at hj
   obtain rfl:=Option.some.inj hj
   rw[Array.getElem?_setIfInBounds_self_of_lt (by omega)]
  ·rw[if_neg hij]at hj
   rw[Array.getElem?_setIfInBounds_ne hij]
   have:=mx_at h hj
   rwa [mx_cell hg]at this
theorem next_none {T:Trl} {k:Kn} {l:Int} (h: ∀y∈k.lits,(decide (y≠l∧y≠k.other l)&& !T.fal y)=false):k.next T l=none:=by
 unfold Kn.next
 rw[List.find?_eq_none]
 intro y hy
 rw[h y hy]
 decide
theorem next_some {T:Trl} {k:Kn} {l y:Int} {p:Nat} (h: ∀z∈k.lits.take p,(decide (z≠l∧z≠k.other l)&& !T.fal z)=false) (hy:k.lits[p]? =some y) (hc:(decide (y≠l∧y≠k.other l)&& !T.fal y)=true):k.next T l=some y:=by
 unfold Kn.next
 rw[←List.take_append_drop p k.lits,List.find?_append]
 have h0:(k.lits.take p).find? (fun x=>decide (x≠l∧x≠k.other l)&& !T.fal x)=none:=by
  rw[List.find?_eq_none]
  intro z hz
  rw[h z hz]
  decide
 rw[h0]
 have hl:=(List.getElem?_eq_some_iff.1 hy).1
 rw[List.drop_eq_getElem_cons hl]
 rw[List.getElem?_eq_getElem hl]at hy
 rw[Option.some.inj hy,List.find?_cons_of_pos (p:=fun x=>decide (x≠l∧x≠k.other l)&& !T.fal x) hc]
 rfl
set_option maxRecDepth 100000 in
set_option maxHeartbeats 8000000 in
theorem wa_look (b ab tb:Nat) (A:Arn) (T:Trl) (S:Wst) (l:Int) (w:World) (lab:Nat→Nat) (h:SysAt w lab b ab tb A T S) (hL:S.Link) (hsim: ∃its,Sim T its) (hfew:T.vars.length≤1000000) (hwf:(Lit.int .i64 l).wf=true):
  Calls Tryz.prog 96 #[.pointer (some ⟨b,0,none⟩),.int .i64 l] w fun e w'=>e= .returned (.tuple #[.int .i64 ((lookGo A T S l (S.row l)).2.2.getD 0),.bool (lookGo A T S l (S.row l)).2.2.isSome])∧SysNext w w' lab b ab tb A (lookGo A T S l (S.row l)).1 (lookGo A T S l (S.row l)).2.1:=by
 obtain⟨hbn,kb,ob,K,F,tg,hm⟩:=h.wa
 have c3:w.cell? ⟨b,3,none⟩=some (.map (some ob)):=mx_cell (j:=3) hm.block
 have hlk:=hm.lookO hwf
 have hrow:=hm.rowAt l
 have HC:=Lib.hid (clone_i _ _ w (IntsIn.of_own hrow.1) (by have:=hbn.rowLen l;omega))
 obtain⟨v,hv⟩: ∃v,rowV F l=v:=⟨_,rfl⟩
 rw[hv]at hlk HC
 have HS:=Lib.hid h
 have HBN:=Lib.hid hbn
 have HL:=Lib.hid hL
 have HSIM:=Lib.hid hsim
 obtain⟨R,hR⟩: ∃R,lookGo A T S l (S.row l)=R:=⟨_,rfl⟩
 obtain⟨ids,hids⟩: ∃z,S.row l=z:=⟨_,rfl⟩
 rw[hR]
 have HR:=Lib.hid hR
 have HI:=Lib.hid hids
 have hrl:=hbn.rowLen l
 rw[hids]at HC hrl
 obtain⟨n,hn⟩: ∃n,ids.length=n:=⟨_,rfl⟩
 have HN:=Lib.hid hn
 rw[hn]at HC hrl
 clear h hbn hm hrow hv hL hsim hR hids hn
 go_enter Tryz.func96,Tryz.ntmps96
 go_wp2_with fail
 refine wp_scope_straight ?_
 refine wp_seq ?_
 refine wp_label ?_
 go_wp2_with fail
 refine HC.out.mono ?_
 rintro e w1 ⟨rv,rfl,hro,hb1⟩
 obtain⟨Ar,cr,rfl,_⟩:=mx_slice hro
 have HRO:=Lib.hid hro
 have HB1:=Lib.hid hb1
 have HS1:=Lib.hid (HS.out.below hb1)
 have HST:=Lib.hid (show LookSt w1 lab b ab tb A T S l ids ids w1 T S from⟨SysNext.refl HS1.out (Below.refl _ _),HBN.out,HL.out,rfl,fun id hid=>by rw[HI.out];exact hid,by rw[←HI.out];exact up_nodup (HBN.out.row l).1,HSIM.out,hfew⟩)
 have HLT:=Lib.hid (show∀g,(Value.slice Ar n cr).ownBlock=some g→lab g=0 from fun g hg=>by
  have h1:=(own_lt hro g hg).1
  exact Classical.byContradiction fun e=>by
   have:=HS.out.lt g e
   omega)
 clear hro hb1 c3 hlk
 go_wp2_with fail
 go_loopw [21] (fun iv wr=> ∃(j:Nat) (T':Trl) (S':Wst),j≤n∧iv= .int .i64 j∧Hid (LookSt w1 lab b ab tb A T S l ids (ids.drop j) wr T' S')) (fun iv _=>n-(intOf iv).toNat)
 case atStart=>exact⟨0,T,S,Nat.zero_le _,rfl,HST⟩
 case round=>
  obtain⟨j,T1,S1,hj,rfl,HQ⟩:=hrel
  by_cases hlt:j<n
  ·obtain⟨id,hid⟩:=getElem_of (l:=ids) (i:=j) (by rw[HN.out];exact hlt)
   have hdr:ids.drop j=id::ids.drop (j+1):=by
    rw[List.drop_eq_getElem_cons (by rw[HN.out];exact hlt)]
    rw[List.getElem?_eq_getElem (by rw[HN.out];exact hlt)]at hid
    rw[Option.some.inj hid]
   have hst:=HQ.out
   rw[hdr]at hst
   obtain⟨labR,hsr,hlr⟩:=hst.sys
   obtain⟨gr,crr,hv,hgr,e0⟩:=own_get (w:=w1) (by rw[HN.out];exact HRO.out) hid
   have hv':=hv
   simp only[Value.slice.injEq]at hv'
   obtain⟨rfl,hnx,rfl⟩:=hv'
   clear hnx hv
   have hl0:=HLT.out gr rfl
   have e1:wr.cell? ⟨gr,j,none⟩=some (.int .i64 id):=(hlr.kept.cell (p:=⟨gr,j,none⟩) hgr (fun h=>h hl0)).trans e0
   obtain⟨hbr,kb',ob',K',F',tg',hmr⟩:=hsr.wa
   have hmem:=hst.sub id List.mem_cons_self
   obtain⟨k,hk,hlk⟩:=(hst.link l id).1 hmem
   have hkid:=hbr.kn hk
   obtain⟨a,bb,hab,hby,_,_⟩:=Kn.two_of hkid.2.1 hlk
   have hwid:=wf64 (x:=id) (by omega) (by omega)
   have c2:wr.cell? ⟨b,2,none⟩=some (.map (some kb')):=mx_cell (j:=2) hmr.block
   have c0:wr.cell? ⟨b,0,none⟩=some (.pointer (some ⟨ab,0,none⟩)):=mx_cell (j:=0) hmr.block
   have hlu:=hmr.lookK hwid
   obtain⟨x,hx,hxk,hkx,hkv⟩:=hmr.knAt hk
   rw[hkv]at hlu
   have HH:=Lib.hid (ar_has ab A id wr hsr.ar)
   have HSR:=Lib.hid hsr
   have HLR:=Lib.hid hlr
   have HMR:=Lib.hid hmr
   have HBR:=Lib.hid hbr
   have HKX:=Lib.hid hkx
   have HXK:=Lib.hid hxk
   have HX:=Lib.hid hx
   have HK:=Lib.hid hk
   have HLK:=Lib.hid hlk
   have HBY:=Lib.hid hby
   have HAB:=Lib.hid hab
   have HID:=Lib.hid hkid
   have HST1:=Lib.hid hst
   have HDR:=Lib.hid hdr
   have hltb:=heap_lt hmr.block
   have hltx:=heap_lt hkx.block
   obtain⟨q,hq⟩: ∃q,(A.find id).isSome=q:=⟨_,rfl⟩
   rw[hq]at HH
   have HQF:=Lib.hid hq
   clear hid hdr hst hsr hlr hgr e0 hl0 hbr hmr hmem hk hlk hkid hby hab hx hxk hkx hkv hq HQ
   cases q with
   | false=>
    go_wp2_with fail
    refine HH.out.mono ?_
    rintro e w2 ⟨rfl,hb2⟩
    have HRV:=Lib.hid (wa_remove_some b ab tb A T1 S1 id w2 labR (HSR.out.below hb2) hwid HK.out)
    have HB2:=Lib.hid hb2
    clear hb2 e1 c2 c0 hlu
    go_wp2_with fail
    refine HRV.out.mono ?_
    rintro e w3 ⟨rfl,hn3⟩
    have HN3:=Lib.hid hn3
    clear hn3
    go_wp2_with fail
    go_roundw
    case rel=>
     refine⟨j+1,T1,S1.remove id,by omega,by go_num,Lib.hid ?_⟩
     have hst:=HST1.out
     have hnd:=List.nodup_cons.1 hst.nd
     have hrm:=remove_ok HBR.out hst.link id
     have hone:lookOne A T1 S1 l id=(T1,S1.remove id,false):=by
      unfold lookOne
      rw[if_pos HQF.out]
     refine⟨SysNext.trans (HLR.out.trans (Labs.of_below HB2.out)) HN3.out,hrm.1,hrm.2.1,?_,fun i hi=>?_,hnd.2,hst.sim,hst.few⟩
     ·rw[←hst.eq,lookGo_cons,hone]
      exact(if_neg (show¬false=true by decide)).symm
     ·have:=lookOne_row A T1 HBR.out hst.link (hst.sub id List.mem_cons_self) (hst.sub i (List.mem_cons_of_mem _ hi)) (fun e=>hnd.1 (e▸hi))
      rwa [hone]at this
    case measure=>simp[intOf];omega
   | true=>
    obtain⟨o,ho⟩: ∃o,k.other l=o:=⟨_,rfl⟩
    have hom:=Kn.other_mem HAB.out HBY.out HLK.out
    rw[ho]at hom
    have HO:=Lib.hid ho
    have HNE:=Lib.hid hom.2.1
    have hways:k.by_= [l,o]∨k.by_= [o,l]:=by
     have e:k.other l=if a=l then bb else a:=by unfold Kn.other;rw[HBY.out];rfl
     rw[ho]at e
     have hl2:=HLK.out
     rw[HBY.out]at hl2⊢
     by_cases hal:a=l
     ·rw[if_pos hal]at e
      rw[e,hal]
      exact .inl rfl
     ·rw[if_neg hal]at e
      rcases List.mem_cons.1 hl2 with h|h
      ·exact absurd h.symm hal
      ·rw[e,List.mem_singleton.1 h]
       exact .inr rfl
    clear ho hom
    rcases hways with hbyy|hbyy
    ·have hkx:=HKX.out
     have hby:wr.ownsRow 0 32 1 x.bv 2 [.int .i64 l,.int .i64 o]:=by
      have:=hkx.by_
      rw[HXK.out,hbyy]at this
      exact this
     obtain⟨gb,cb,_,hbv,_,_,hgb,_⟩:=mx_some hby (by decide)
     have HBV:=Lib.hid hbv
     have HBYY:=Lib.hid hbyy
     have HROW:=Lib.hid (show wr.ownsRow 0 32 1 (.slice (some ⟨gb,0,none⟩) 2 cb) 2 [.int .i64 l,.int .i64 o]from by
      rw[←hbv]
      exact hby)
     have hlv:=hkx.ls
     rw[HXK.out]at hlv
     obtain⟨Al,cl,hlvv,_⟩:=mx_slice hlv
     rw[hlvv]at hlv
     have HLV:=Lib.hid hlv
     have hblk:=hkx.block
     rw[hbv,hlvv]at hblk
     obtain⟨ll,hll⟩: ∃ll,k.lits.length=ll:=⟨_,rfl⟩
     rw[hll]at hblk HLV
     have HLL:=Lib.hid hll
     have HBLK:=Lib.hid hblk
     have hl4:ll≤4096:=by rw[←hll];exact HID.out.2.2.1
     clear hby hbv hlv hlvv hblk hll hbyy hkx
     go_wp2_with fail
     refine HH.out.mono ?_
     rintro e w2 ⟨rfl,hb2⟩
     have d0:w2.cell? ⟨x.g,0,none⟩=some (.slice (some ⟨gb,0,none⟩) 2 cb):=mx_cell (j:=0) ((hb2.block _ hltx).trans HBLK.out)
     have HIX:=Lib.hid (index_at (.slice (some ⟨gb,0,none⟩) 2 cb) [l,o] l 0 w2 ((IntsIn.of_own (base:=0) (xs:= [l,o]) (own_below HROW.out hb2))) (by simp) rfl (fun j hj=>by omega))
     have d1:w2.cell? ⟨gb,1,none⟩=some (.int .i64 o):=mx_at (own_below HROW.out hb2) (j:=1) rfl
     have HTR:=Lib.hid (wa_true b tb T1 o w2 (HSR.out.tr.below hb2) ((hb2.cell (p:=⟨b,1,none⟩) hltb).trans HSR.out.c1))
     have HB2:=Lib.hid hb2
     clear hb2 e1 c2 c0 hlu
     go_wp2_with fail
     refine HIX.out.mono ?_
     rintro e w' ⟨rfl,rfl⟩
     go_wp2_with fail
     obtain⟨q2,hq2⟩: ∃q,T1.tru o=q:=⟨_,rfl⟩
     rw[hq2]at HTR
     have HQ2:=Lib.hid hq2
     clear hq2 d0 d1
     refine HTR.out.mono ?_
     rintro e w3 ⟨rfl,hb3⟩
     have HB3:=Lib.hid (HB2.out.trans (hb3.mono HB2.out.size))
     clear hb3
     cases q2 with
     | true=>
      go_wp2_with fail
      go_roundw
      case rel=>
       refine⟨j+1,T1,S1,by omega,by go_num,Lib.hid ?_⟩
       have hst:=HST1.out
       have hone:lookOne A T1 S1 l id=(T1,S1,false):=by
        unfold lookOne
        rw[if_neg (by rw[HQF.out];decide),HK.out]
        simp only[]
        rw[HO.out,if_pos HQ2.out]
       refine⟨SysNext.trans (HLR.out.trans (Labs.of_below HB3.out)) (SysNext.refl (HSR.out.below HB3.out) (Below.refl _ _)),HBR.out,hst.link,?_,fun i hi=>hst.sub i (List.mem_cons_of_mem _ hi),(List.nodup_cons.1 hst.nd).2,hst.sim,hst.few⟩
       rw[←hst.eq,lookGo_cons,hone]
       exact(if_neg (show¬false=true by decide)).symm
      case measure=>simp[intOf];omega
     | false=>
      have d2:w3.cell? ⟨x.g,1,none⟩=some (.slice Al ll cl):=mx_cell (j:=1) ((HB3.out.block _ hltx).trans HBLK.out)
      go_wp2_with fail
      go_loopw [65] (fun iv wq=> ∃p:Nat,p≤ll∧iv= .int .i64 p∧Hid (∀y∈k.lits.take p,(decide (y≠l∧y≠o)&& !T1.fal y)=false)∧Hid (Below wr.heap.size wr wq)) (fun iv _=>ll-(intOf iv).toNat)
      case atStart=>exact⟨0,Nat.zero_le _,rfl,Lib.hid (fun y hy=>by simp at hy),HB3⟩
      case round=>
       obtain⟨p,hp,rfl,HPF,HBQ⟩:=hrel
       clear d2
       by_cases hlp:p<ll
       ·obtain⟨y,hy⟩:=getElem_of (l:=k.lits) (i:=p) (by rw[HLL.out];exact hlp)
        have hlw:=own_below HLV.out HBQ.out
        obtain⟨gl,cl',hv,hgl,e0⟩:=own_get (by rw[HLL.out];exact hlw) hy
        simp only[Value.slice.injEq]at hv
        obtain⟨rfl,hnx,rfl⟩:=hv
        have HY:=Lib.hid hy
        have hpf: ∀c:Bool,(decide (y≠l∧y≠o)&& !T1.fal y)=c→c=false→∀z∈k.lits.take (p+1),(decide (z≠l∧z≠o)&& !T1.fal z)=false:=fun c hc hcf z hz=>by
         rw[List.take_add_one,HY.out]at hz
         rcases List.mem_append.1 hz with h|h
         ·exact HPF.out z h
         ·have:z=y:=by simpa using h
          rw[this,hc,hcf]
        clear hnx hlw hy
        by_cases h1:y=l
        ·have n1:(y != l)=false:=by simp[h1]
         have HPN:=Lib.hid (hpf _ (by simp[h1]) rfl)
         clear h1 hpf
         go_wp2_with fail
         go_roundw
         case rel=>exact⟨p+1,by omega,by go_num,HPN,HBQ⟩
         case measure=>simp[intOf];omega
        ·have n1:(y != l)=true:=by simpa using h1
         by_cases h2:y=o
         ·have n2:(y != o)=false:=by simp[h2]
          have HPN:=Lib.hid (hpf _ (by simp[h2]) rfl)
          clear h1 h2 hpf
          go_wp2_with fail
          go_roundw
          case rel=>exact⟨p+1,by omega,by go_num,HPN,HBQ⟩
          case measure=>simp[intOf];omega
         ·have n2:(y != o)=true:=by simpa using h2
          have H1:=Lib.hid h1
          have H2:=Lib.hid h2
          obtain⟨q3,hq3⟩: ∃q,T1.fal y=q:=⟨_,rfl⟩
          have hcf:=wa_false b tb T1 y wr (HSR.out.tr.below HBQ.out) ((HBQ.out.cell (p:=⟨b,1,none⟩) hltb).trans HSR.out.c1)
          rw[hq3]at hcf
          have HCF:=Lib.hid hcf
          have HPN:=Lib.hid (fun(h:q3=true)=>hpf _ (by rw[hq3,h];simp) rfl)
          have HYC:=Lib.hid (fun(h:q3=false)=>(show(decide (y≠l∧y≠o)&& !T1.fal y)=true from by rw[hq3,h];simp[h1,h2]))
          clear h1 h2 hpf hcf hq3
          go_wp2_with fail
          refine HCF.out.mono ?_
          rintro e wZ ⟨rfl,hbZ⟩
          have HBZ:=Lib.hid (HBQ.out.trans (hbZ.mono HBQ.out.size))
          clear hbZ e0
          cases q3 with
          | true=>
           go_wp2_with fail
           go_roundw
           case rel=>exact⟨p+1,by omega,by go_num,Lib.hid (HPN.out (by trivial)),HBZ⟩
           case measure=>simp[intOf];omega
          | false=>
           have hmz:=HMR.out.kept (O':=fun _=>False) (Kept.of_below HBZ.out) (fun _ _ h=>h)
           have hmv:=move_ok HBR.out HST1.out.link HK.out HLK.out (List.mem_of_getElem? HY.out) H1.out (by rw[HO.out];exact H2.out)
           have HMV:=Lib.hid hmv
           have HNX:=Lib.hid (show k.next T1 l=some y from next_some (p:=p) (by rw[HO.out];exact HPF.out) HY.out (by rw[HO.out];exact HYC.out rfl))
           have HDR2:=Lib.hid (wa_drop_m b ab tb S1 kb' ob' K' F' tg' l id wZ HBR.out hmz hwf)
           clear hmz hmv
           go_wp2_with fail
           refine HDR2.out.mono ?_
           rintro e wD ⟨rfl,hnD⟩
           obtain⟨⟨FD,tgD,hmD⟩,hkD⟩:=hnD
           have HKD:=Lib.hid hkD
           have HPU:=Lib.hid (wa_put_m b ab tb (S1.drop l id) kb' ob' K' FD tgD y id wD HMV.out.1 hmD (HID.out.2.2.2 y (List.mem_of_getElem? HY.out)) HID.out.1)
           clear hmD hkD
           go_wp2_with fail
           refine HPU.out.mono ?_
           rintro e wP ⟨rfl,hnP⟩
           have HNP:=Lib.hid (WaMNext.trans HKD.out hnP)
           obtain⟨⟨FP,tgP,hmP⟩,hkP⟩:=HNP.out
           have hkxP:=hmP.kn _ (getA_some HX.out)
           have hbyP:=hkxP.by_
           rw[HXK.out,HBYY.out,HBV.out]at hbyP
           have hblP:=hkxP.block
           rw[HBV.out]at hblP
           have g0:=mx_cell (j:=0) hblP
           have HRP:=Lib.hid (show wP.ownsRow 0 32 1 (.slice (some ⟨gb,0,none⟩) 2 cb) 2 [.int .i64 l,.int .i64 o]from hbyP)
           have g1:=mx_at HRP.out (j:=0) rfl
           obtain⟨cg,hcg⟩:=own_type HRP.out gb rfl
           have g2:=mx_free (j:=0) hcg
           have HMP:=Lib.hid hmP
           have HKP:=Lib.hid hkP
           clear hnP hmP hkP hkxP hbyP hblP hcg
           go_wp2_with fail
           refine⟨⟨j+1,T1,S1.move id l y k,by omega,by go_num,Lib.hid ?_⟩,by simp[intOf];omega⟩
           have hst:=HST1.out
           have hnd:=List.nodup_cons.1 hst.nd
           have hone:lookOne A T1 S1 l id=(T1,S1.move id l y k,false):=by
            unfold lookOne
            rw[if_neg (by rw[HQF.out];decide),HK.out]
            simp only[]
            rw[HO.out,if_neg (by rw[HQ2.out];decide),HNX.out]
           have hsz:(wP.setCell ⟨gb,0,none⟩ (.int .i64 y)).heap.size=wP.heap.size:=by simp[World.setCell]
           have hkS:Kept (fun g=>g=gb) wP (wP.setCell ⟨gb,0,none⟩ (.int .i64 y)):=Kept.setCell (Kept.refl (fun g=>g=gb) wP) _ _ rfl
           have hby2:(k.move l y).by_= [y,o]:=by
            unfold Kn.move
            rw[HBYY.out]
            exact if_pos rfl
           have hsk:=HMP.out.setKn HX.out (k':=k.move l y) (by rw[HXK.out];rfl) (hkS.mono (fun g _ e=>by rw[HBV.out,e];rfl)) (by
            rw[hby2,HBV.out]
            exact own_put HRP.out (by decide))
           have hlab:labR gb=3:=HMR.out.intg _ _ (HKX.out.byt gb (by rw[HBV.out];rfl))
           have hHS:SysAt wZ labR b ab tb A T1 S1:=HSR.out.below HBZ.out
           have hwa:WaAt (fun g=>labR g=3∨wZ.heap.size≤g∧g<(wP.setCell ⟨gb,0,none⟩ (.int .i64 y)).heap.size) (wP.setCell ⟨gb,0,none⟩ (.int .i64 y)) b ab tb (S1.move id l y k):=by
            refine⟨HMV.out.2.2.2.1,kb',ob',?_⟩
            rw[hsz]
            exact⟨_,_,_,hsk⟩
           refine⟨SysNext.trans (HLR.out.trans (Labs.of_below HBZ.out)) (hHS.wa_next ⟨hwa,(HKP.out.mono (fun _ _ h=>h.1)).trans hkS (fun i _ e=>by rw[e];exact hlab)⟩),HMV.out.2.2.2.1,HMV.out.2.2.2.2.1,?_,fun i hi=>?_,hnd.2,hst.sim,hst.few⟩
           ·rw[←hst.eq,lookGo_cons,hone]
            exact(if_neg (show¬false=true by decide)).symm
           ·have:=lookOne_row A T1 HBR.out hst.link (hst.sub id List.mem_cons_self) (hst.sub i (List.mem_cons_of_mem _ hi)) (fun e=>hnd.1 (e▸hi))
            rwa [hone]at this
       ·obtain rfl:p=ll:=by omega
        have hpf:=HPF.out
        rw[List.take_of_length_le (by rw[HLL.out];exact Nat.le_refl _)]at hpf
        have HNX:=Lib.hid (show k.next T1 l=none from next_none (by rw[HO.out];exact hpf))
        obtain⟨q4,hq4⟩: ∃q,T1.fal o=q:=⟨_,rfl⟩
        have hcf:=wa_false b tb T1 o wr (HSR.out.tr.below HBQ.out) ((HBQ.out.cell (p:=⟨b,1,none⟩) hltb).trans HSR.out.c1)
        rw[hq4]at hcf
        have HCF:=Lib.hid hcf
        have HQ4:=Lib.hid hq4
        clear hpf hcf hq4
        go_wp2_with fail
        refine HCF.out.mono ?_
        rintro e wZ ⟨rfl,hbZ⟩
        have HBZ:=Lib.hid (HBQ.out.trans (hbZ.mono HBQ.out.size))
        clear hbZ
        cases q4 with
        | true=>
         have HRE:=Lib.hid (show R=(T1,S1,some id)from by
          have h1:=HST1.out.eq
          have h2:=HR.out
          rw[HI.out]at h2
          have hone:lookOne A T1 S1 l id=(T1,S1,true):=by
           unfold lookOne
           rw[if_neg (by rw[HQF.out];decide),HK.out]
           simp only[]
           rw[HO.out,if_neg (by rw[HQ2.out];decide),HNX.out]
           simp only[]
           rw[if_pos HQ4.out]
          rw[←h2,←h1,lookGo_cons,hone]
          exact if_pos rfl)
         go_wp2_with fail
         rw[Exit.noGoto_ret]
         go_ret2
         rw[HRE.out]
         exact⟨rfl,(SysNext.trans (HLR.out.trans (Labs.of_below HBZ.out)) (SysNext.refl (HSR.out.below HBZ.out) (Below.refl _ _))).before HB1.out⟩
        | false=>
         have HAS:=Lib.hid (wa_assign b ab tb A T1 S1 o id wZ labR (HSR.out.below HBZ.out) (HST1.out.sim.elim (fun its h=>h.orderLt HST1.out.few)))
         go_wp2_with fail
         refine HAS.out.mono ?_
         rintro e wA ⟨rfl,hnA,_⟩
         have HNA:=Lib.hid hnA
         clear hnA
         go_wp2_with fail
         go_roundw
         case rel=>
          refine⟨j+1,T1.assigned o id,S1,by omega,by go_num,Lib.hid ?_⟩
          have hst:=HST1.out
          have hone:lookOne A T1 S1 l id=(T1.assigned o id,S1,false):=by
           unfold lookOne
           rw[if_neg (by rw[HQF.out];decide),HK.out]
           simp only[]
           rw[HO.out,if_neg (by rw[HQ2.out];decide),HNX.out]
           simp only[]
           rw[if_neg (by rw[HQ4.out];decide)]
          refine⟨SysNext.trans (HLR.out.trans (Labs.of_below HBZ.out)) HNA.out,HBR.out,hst.link,?_,fun i hi=>hst.sub i (List.mem_cons_of_mem _ hi),(List.nodup_cons.1 hst.nd).2,hst.sim.elim (fun its h=>h.assigned o id),by rw[assigned_vars];exact hst.few⟩
          rw[←hst.eq,lookGo_cons,hone]
          exact(if_neg (show¬false=true by decide)).symm
         case measure=>simp[intOf];omega
    ·have hkx:=HKX.out
     have hby:wr.ownsRow 0 32 1 x.bv 2 [.int .i64 o,.int .i64 l]:=by
      have:=hkx.by_
      rw[HXK.out,hbyy]at this
      exact this
     obtain⟨gb,cb,_,hbv,_,_,hgb,_⟩:=mx_some hby (by decide)
     have HBV:=Lib.hid hbv
     have HBYY:=Lib.hid hbyy
     have HROW:=Lib.hid (show wr.ownsRow 0 32 1 (.slice (some ⟨gb,0,none⟩) 2 cb) 2 [.int .i64 o,.int .i64 l]from by
      rw[←hbv]
      exact hby)
     have hlv:=hkx.ls
     rw[HXK.out]at hlv
     obtain⟨Al,cl,hlvv,_⟩:=mx_slice hlv
     rw[hlvv]at hlv
     have HLV:=Lib.hid hlv
     have hblk:=hkx.block
     rw[hbv,hlvv]at hblk
     obtain⟨ll,hll⟩: ∃ll,k.lits.length=ll:=⟨_,rfl⟩
     rw[hll]at hblk HLV
     have HLL:=Lib.hid hll
     have HBLK:=Lib.hid hblk
     have hl4:ll≤4096:=by rw[←hll];exact HID.out.2.2.1
     clear hby hbv hlv hlvv hblk hll hbyy hkx
     go_wp2_with fail
     refine HH.out.mono ?_
     rintro e w2 ⟨rfl,hb2⟩
     have d0:w2.cell? ⟨x.g,0,none⟩=some (.slice (some ⟨gb,0,none⟩) 2 cb):=mx_cell (j:=0) ((hb2.block _ hltx).trans HBLK.out)
     have HIX:=Lib.hid (index_at (.slice (some ⟨gb,0,none⟩) 2 cb) [o,l] l 1 w2 ((IntsIn.of_own (base:=0) (xs:= [o,l]) (own_below HROW.out hb2))) (by simp) rfl (fun j hj=>by have h0:j=0:=(by omega);subst h0;intro e;exact HNE.out (Option.some.inj e)))
     have d1:w2.cell? ⟨gb,0,none⟩=some (.int .i64 o):=mx_at (own_below HROW.out hb2) (j:=0) rfl
     have HTR:=Lib.hid (wa_true b tb T1 o w2 (HSR.out.tr.below hb2) ((hb2.cell (p:=⟨b,1,none⟩) hltb).trans HSR.out.c1))
     have HB2:=Lib.hid hb2
     clear hb2 e1 c2 c0 hlu
     go_wp2_with fail
     refine HIX.out.mono ?_
     rintro e w' ⟨rfl,rfl⟩
     go_wp2_with fail
     obtain⟨q2,hq2⟩: ∃q,T1.tru o=q:=⟨_,rfl⟩
     rw[hq2]at HTR
     have HQ2:=Lib.hid hq2
     clear hq2 d0 d1
     refine HTR.out.mono ?_
     rintro e w3 ⟨rfl,hb3⟩
     have HB3:=Lib.hid (HB2.out.trans (hb3.mono HB2.out.size))
     clear hb3
     cases q2 with
     | true=>
      go_wp2_with fail
      go_roundw
      case rel=>
       refine⟨j+1,T1,S1,by omega,by go_num,Lib.hid ?_⟩
       have hst:=HST1.out
       have hone:lookOne A T1 S1 l id=(T1,S1,false):=by
        unfold lookOne
        rw[if_neg (by rw[HQF.out];decide),HK.out]
        simp only[]
        rw[HO.out,if_pos HQ2.out]
       refine⟨SysNext.trans (HLR.out.trans (Labs.of_below HB3.out)) (SysNext.refl (HSR.out.below HB3.out) (Below.refl _ _)),HBR.out,hst.link,?_,fun i hi=>hst.sub i (List.mem_cons_of_mem _ hi),(List.nodup_cons.1 hst.nd).2,hst.sim,hst.few⟩
       rw[←hst.eq,lookGo_cons,hone]
       exact(if_neg (show¬false=true by decide)).symm
      case measure=>simp[intOf];omega
     | false=>
      have d2:w3.cell? ⟨x.g,1,none⟩=some (.slice Al ll cl):=mx_cell (j:=1) ((HB3.out.block _ hltx).trans HBLK.out)
      go_wp2_with fail
      go_loopw [65] (fun iv wq=> ∃p:Nat,p≤ll∧iv= .int .i64 p∧Hid (∀y∈k.lits.take p,(decide (y≠l∧y≠o)&& !T1.fal y)=false)∧Hid (Below wr.heap.size wr wq)) (fun iv _=>ll-(intOf iv).toNat)
      case atStart=>exact⟨0,Nat.zero_le _,rfl,Lib.hid (fun y hy=>by simp at hy),HB3⟩
      case round=>
       obtain⟨p,hp,rfl,HPF,HBQ⟩:=hrel
       clear d2
       by_cases hlp:p<ll
       ·obtain⟨y,hy⟩:=getElem_of (l:=k.lits) (i:=p) (by rw[HLL.out];exact hlp)
        have hlw:=own_below HLV.out HBQ.out
        obtain⟨gl,cl',hv,hgl,e0⟩:=own_get (by rw[HLL.out];exact hlw) hy
        simp only[Value.slice.injEq]at hv
        obtain⟨rfl,hnx,rfl⟩:=hv
        have HY:=Lib.hid hy
        have hpf: ∀c:Bool,(decide (y≠l∧y≠o)&& !T1.fal y)=c→c=false→∀z∈k.lits.take (p+1),(decide (z≠l∧z≠o)&& !T1.fal z)=false:=fun c hc hcf z hz=>by
         rw[List.take_add_one,HY.out]at hz
         rcases List.mem_append.1 hz with h|h
         ·exact HPF.out z h
         ·have:z=y:=by simpa using h
          rw[this,hc,hcf]
        clear hnx hlw hy
        by_cases h1:y=l
        ·have n1:(y != l)=false:=by simp[h1]
         have HPN:=Lib.hid (hpf _ (by simp[h1]) rfl)
         clear h1 hpf
         go_wp2_with fail
         go_roundw
         case rel=>exact⟨p+1,by omega,by go_num,HPN,HBQ⟩
         case measure=>simp[intOf];omega
        ·have n1:(y != l)=true:=by simpa using h1
         by_cases h2:y=o
         ·have n2:(y != o)=false:=by simp[h2]
          have HPN:=Lib.hid (hpf _ (by simp[h2]) rfl)
          clear h1 h2 hpf
          go_wp2_with fail
          go_roundw
          case rel=>exact⟨p+1,by omega,by go_num,HPN,HBQ⟩
          case measure=>simp[intOf];omega
         ·have n2:(y != o)=true:=by simpa using h2
          have H1:=Lib.hid h1
          have H2:=Lib.hid h2
          obtain⟨q3,hq3⟩: ∃q,T1.fal y=q:=⟨_,rfl⟩
          have hcf:=wa_false b tb T1 y wr (HSR.out.tr.below HBQ.out) ((HBQ.out.cell (p:=⟨b,1,none⟩) hltb).trans HSR.out.c1)
          rw[hq3]at hcf
          have HCF:=Lib.hid hcf
          have HPN:=Lib.hid (fun(h:q3=true)=>hpf _ (by rw[hq3,h];simp) rfl)
          have HYC:=Lib.hid (fun(h:q3=false)=>(show(decide (y≠l∧y≠o)&& !T1.fal y)=true from by rw[hq3,h];simp[h1,h2]))
          clear h1 h2 hpf hcf hq3
          go_wp2_with fail
          refine HCF.out.mono ?_
          rintro e wZ ⟨rfl,hbZ⟩
          have HBZ:=Lib.hid (HBQ.out.trans (hbZ.mono HBQ.out.size))
          clear hbZ e0
          cases q3 with
          | true=>
           go_wp2_with fail
           go_roundw
           case rel=>exact⟨p+1,by omega,by go_num,Lib.hid (HPN.out (by trivial)),HBZ⟩
           case measure=>simp[intOf];omega
          | false=>
           have hmz:=HMR.out.kept (O':=fun _=>False) (Kept.of_below HBZ.out) (fun _ _ h=>h)
           have hmv:=move_ok HBR.out HST1.out.link HK.out HLK.out (List.mem_of_getElem? HY.out) H1.out (by rw[HO.out];exact H2.out)
           have HMV:=Lib.hid hmv
           have HNX:=Lib.hid (show k.next T1 l=some y from next_some (p:=p) (by rw[HO.out];exact HPF.out) HY.out (by rw[HO.out];exact HYC.out rfl))
           have HDR2:=Lib.hid (wa_drop_m b ab tb S1 kb' ob' K' F' tg' l id wZ HBR.out hmz hwf)
           clear hmz hmv
           go_wp2_with fail
           refine HDR2.out.mono ?_
           rintro e wD ⟨rfl,hnD⟩
           obtain⟨⟨FD,tgD,hmD⟩,hkD⟩:=hnD
           have HKD:=Lib.hid hkD
           have HPU:=Lib.hid (wa_put_m b ab tb (S1.drop l id) kb' ob' K' FD tgD y id wD HMV.out.1 hmD (HID.out.2.2.2 y (List.mem_of_getElem? HY.out)) HID.out.1)
           clear hmD hkD
           go_wp2_with fail
           refine HPU.out.mono ?_
           rintro e wP ⟨rfl,hnP⟩
           have HNP:=Lib.hid (WaMNext.trans HKD.out hnP)
           obtain⟨⟨FP,tgP,hmP⟩,hkP⟩:=HNP.out
           have hkxP:=hmP.kn _ (getA_some HX.out)
           have hbyP:=hkxP.by_
           rw[HXK.out,HBYY.out,HBV.out]at hbyP
           have hblP:=hkxP.block
           rw[HBV.out]at hblP
           have g0:=mx_cell (j:=0) hblP
           have HRP:=Lib.hid (show wP.ownsRow 0 32 1 (.slice (some ⟨gb,0,none⟩) 2 cb) 2 [.int .i64 o,.int .i64 l]from hbyP)
           have g1:=mx_at HRP.out (j:=1) rfl
           obtain⟨cg,hcg⟩:=own_type HRP.out gb rfl
           have g2:=mx_free (j:=1) hcg
           have HMP:=Lib.hid hmP
           have HKP:=Lib.hid hkP
           clear hnP hmP hkP hkxP hbyP hblP hcg
           go_wp2_with fail
           refine⟨⟨j+1,T1,S1.move id l y k,by omega,by go_num,Lib.hid ?_⟩,by simp[intOf];omega⟩
           have hst:=HST1.out
           have hnd:=List.nodup_cons.1 hst.nd
           have hone:lookOne A T1 S1 l id=(T1,S1.move id l y k,false):=by
            unfold lookOne
            rw[if_neg (by rw[HQF.out];decide),HK.out]
            simp only[]
            rw[HO.out,if_neg (by rw[HQ2.out];decide),HNX.out]
           have hsz:(wP.setCell ⟨gb,1,none⟩ (.int .i64 y)).heap.size=wP.heap.size:=by simp[World.setCell]
           have hkS:Kept (fun g=>g=gb) wP (wP.setCell ⟨gb,1,none⟩ (.int .i64 y)):=Kept.setCell (Kept.refl (fun g=>g=gb) wP) _ _ rfl
           have hby2:(k.move l y).by_= [o,y]:=by
            unfold Kn.move
            rw[HBYY.out]
            exact if_neg HNE.out
           have hsk:=HMP.out.setKn HX.out (k':=k.move l y) (by rw[HXK.out];rfl) (hkS.mono (fun g _ e=>by rw[HBV.out,e];rfl)) (by
            rw[hby2,HBV.out]
            exact own_put HRP.out (by decide))
           have hlab:labR gb=3:=HMR.out.intg _ _ (HKX.out.byt gb (by rw[HBV.out];rfl))
           have hHS:SysAt wZ labR b ab tb A T1 S1:=HSR.out.below HBZ.out
           have hwa:WaAt (fun g=>labR g=3∨wZ.heap.size≤g∧g<(wP.setCell ⟨gb,1,none⟩ (.int .i64 y)).heap.size) (wP.setCell ⟨gb,1,none⟩ (.int .i64 y)) b ab tb (S1.move id l y k):=by
            refine⟨HMV.out.2.2.2.1,kb',ob',?_⟩
            rw[hsz]
            exact⟨_,_,_,hsk⟩
           refine⟨SysNext.trans (HLR.out.trans (Labs.of_below HBZ.out)) (hHS.wa_next ⟨hwa,(HKP.out.mono (fun _ _ h=>h.1)).trans hkS (fun i _ e=>by rw[e];exact hlab)⟩),HMV.out.2.2.2.1,HMV.out.2.2.2.2.1,?_,fun i hi=>?_,hnd.2,hst.sim,hst.few⟩
           ·rw[←hst.eq,lookGo_cons,hone]
            exact(if_neg (show¬false=true by decide)).symm
           ·have:=lookOne_row A T1 HBR.out hst.link (hst.sub id List.mem_cons_self) (hst.sub i (List.mem_cons_of_mem _ hi)) (fun e=>hnd.1 (e▸hi))
            rwa [hone]at this
       ·obtain rfl:p=ll:=by omega
        have hpf:=HPF.out
        rw[List.take_of_length_le (by rw[HLL.out];exact Nat.le_refl _)]at hpf
        have HNX:=Lib.hid (show k.next T1 l=none from next_none (by rw[HO.out];exact hpf))
        obtain⟨q4,hq4⟩: ∃q,T1.fal o=q:=⟨_,rfl⟩
        have hcf:=wa_false b tb T1 o wr (HSR.out.tr.below HBQ.out) ((HBQ.out.cell (p:=⟨b,1,none⟩) hltb).trans HSR.out.c1)
        rw[hq4]at hcf
        have HCF:=Lib.hid hcf
        have HQ4:=Lib.hid hq4
        clear hpf hcf hq4
        go_wp2_with fail
        refine HCF.out.mono ?_
        rintro e wZ ⟨rfl,hbZ⟩
        have HBZ:=Lib.hid (HBQ.out.trans (hbZ.mono HBQ.out.size))
        clear hbZ
        cases q4 with
        | true=>
         have HRE:=Lib.hid (show R=(T1,S1,some id)from by
          have h1:=HST1.out.eq
          have h2:=HR.out
          rw[HI.out]at h2
          have hone:lookOne A T1 S1 l id=(T1,S1,true):=by
           unfold lookOne
           rw[if_neg (by rw[HQF.out];decide),HK.out]
           simp only[]
           rw[HO.out,if_neg (by rw[HQ2.out];decide),HNX.out]
           simp only[]
           rw[if_pos HQ4.out]
          rw[←h2,←h1,lookGo_cons,hone]
          exact if_pos rfl)
         go_wp2_with fail
         rw[Exit.noGoto_ret]
         go_ret2
         rw[HRE.out]
         exact⟨rfl,(SysNext.trans (HLR.out.trans (Labs.of_below HBZ.out)) (SysNext.refl (HSR.out.below HBZ.out) (Below.refl _ _))).before HB1.out⟩
        | false=>
         have HAS:=Lib.hid (wa_assign b ab tb A T1 S1 o id wZ labR (HSR.out.below HBZ.out) (HST1.out.sim.elim (fun its h=>h.orderLt HST1.out.few)))
         go_wp2_with fail
         refine HAS.out.mono ?_
         rintro e wA ⟨rfl,hnA,_⟩
         have HNA:=Lib.hid hnA
         clear hnA
         go_wp2_with fail
         go_roundw
         case rel=>
          refine⟨j+1,T1.assigned o id,S1,by omega,by go_num,Lib.hid ?_⟩
          have hst:=HST1.out
          have hone:lookOne A T1 S1 l id=(T1.assigned o id,S1,false):=by
           unfold lookOne
           rw[if_neg (by rw[HQF.out];decide),HK.out]
           simp only[]
           rw[HO.out,if_neg (by rw[HQ2.out];decide),HNX.out]
           simp only[]
           rw[if_neg (by rw[HQ4.out];decide)]
          refine⟨SysNext.trans (HLR.out.trans (Labs.of_below HBZ.out)) HNA.out,HBR.out,hst.link,?_,fun i hi=>hst.sub i (List.mem_cons_of_mem _ hi),(List.nodup_cons.1 hst.nd).2,hst.sim.elim (fun its h=>h.assigned o id),by rw[assigned_vars];exact hst.few⟩
          rw[←hst.eq,lookGo_cons,hone]
          exact(if_neg (show¬false=true by decide)).symm
         case measure=>simp[intOf];omega
  ·obtain rfl:j=n:=by omega
   have hst:=HQ.out
   rw[List.drop_of_length_le (by rw[HN.out];exact Nat.le_refl _)]at hst
   have HF:=Lib.hid hst
   clear hst
   have HRE:=Lib.hid (show R=(T1,S1,none)from by
    have h1:=HF.out.eq
    have h2:=HR.out
    rw[HI.out]at h2
    rw[←h2,←h1]
    rfl)
   go_wp2_with fail
   rw[Exit.noGoto_ret]
   go_ret2
   rw[HRE.out]
   exact⟨rfl,HF.out.sys.before HB1.out⟩
end Go.Proofs.YtoojmhjagipmdaaGreat
namespace Go.Proofs.YtoojmhjagipmdaaGreat
open Go.RowKit Go.Maps Go.Shelf
theorem lookOne_sim (A:Arn) {T:Trl} (hs: ∃its,Sim T its) (S:Wst) (l id:Int):(∃its,Sim (lookOne A T S l id).1 its)∧(lookOne A T S l id).1.vars.length=T.vars.length∧(lookOne A T S l id).1.now=T.now:=by
 unfold lookOne
 split
 ·exact⟨hs,rfl,rfl⟩
 ·split
  ·exact⟨hs,rfl,rfl⟩
  ·split
   ·exact⟨hs,rfl,rfl⟩
   ·split
    ·exact⟨hs,rfl,rfl⟩
    ·split
     ·exact⟨hs,rfl,rfl⟩
     ·exact⟨hs.elim (fun its h=>h.assigned _ _),assigned_vars _ _ _,assigned_now _ _ _⟩
theorem looked_dropAll (id:Int) (ls:List Int): ∀S:Wst,(S.dropAll id ls).looked=S.looked:=by
 induction ls with
 | nil=>exact fun S=>rfl
 | cons y r ih=>exact fun S=>(ih _).trans (looked_drop _ _ _)
theorem looked_remove (S:Wst) (id:Int):(S.remove id).looked=S.looked:=by
 unfold Wst.remove
 split
 ·rfl
 ·exact looked_dropAll _ _ _
theorem lookOne_looked (A:Arn) (T:Trl) (S:Wst) (l id:Int):(lookOne A T S l id).2.1.looked=S.looked:=by
 unfold lookOne
 split
 ·exact looked_remove _ _
 ·split
  ·rfl
  ·split
   ·rfl
   ·split
    ·exact looked_move _ _ _ _ _
    ·split <;> rfl
theorem lookGo_all (A:Arn) {l:Int} (ids:List Int): ∀{T:Trl} {S:Wst},S.Bnd→S.Link→(∃its,Sim T its)→(∀id∈ids,id∈S.row l)→ids.Nodup→
  (lookGo A T S l ids).2.1.Bnd∧(lookGo A T S l ids).2.1.Link∧(∃its,Sim (lookGo A T S l ids).1 its)∧(lookGo A T S l ids).1.vars.length=T.vars.length∧(lookGo A T S l ids).2.1.looked=S.looked:=by
 induction ids with
 | nil=>exact fun hb hL hs _ _=>⟨hb,hL,hs,rfl,rfl⟩
 | cons id r ih=>
  intro T S hb hL hs hsub hnd
  have hm:=hsub id List.mem_cons_self
  have hok:=lookOne_ok A T hb hL hm
  have hsm:=lookOne_sim A hs S l id
  have hlk:=lookOne_looked A T S l id
  rw[lookGo_cons]
  split
  ·exact⟨hok.1,hok.2,hsm.1,hsm.2.1,hlk⟩
  ·have hn2:=List.nodup_cons.1 hnd
   obtain⟨h1,h2,h3,h4,h5⟩:=ih hok.1 hok.2 hsm.1 (fun i hi=>lookOne_row A T hb hL hm (hsub i (List.mem_cons_of_mem _ hi)) (fun e=>hn2.1 (e▸hi))) hn2.2
   exact⟨h1,h2,h3,h4.trans hsm.2.1,h5.trans hlk⟩
theorem SysAt.setLooked {X:World} {lab:Nat→Nat} {b ab tb:Nat} {A:Arn} {T:Trl} {S:Wst} (h:SysAt X lab b ab tb A T S) (n:Nat):SysNext X (X.setCell ⟨b,4,none⟩ (.int .i64 (n:Nat))) lab b ab tb A T ⟨S.known,S.of,n⟩:=by
 obtain⟨hbn,kb,ob,K,F,tg,hm⟩:=h.wa
 have hk:Kept (fun g=>g=b) X (X.setCell ⟨b,4,none⟩ (.int .i64 (n:Nat))):=Kept.setCell (Kept.refl (fun g=>g=b) X) _ _ rfl
 have hb3:lab b=3:=hm.inb
 refine⟨lab,⟨h.ar.kept hk (fun g hg e=>?_),h.tr.kept hk (fun g hg e=>?_),⟨⟨hbn.kr,hbn.kb,hbn.kl,hbn.orr,hbn.ob⟩,kb,ob,K,F,tg,hm.setLooked n⟩,fun g hg=>Nat.lt_of_lt_of_le (h.lt g hg) hk.size⟩,⟨hk.mono (fun g _ e=>by rw[e,hb3];decide),fun _ _=>rfl⟩⟩
 ·rw[e,hb3]at hg
  cases hg
 ·rw[e,hb3]at hg
  cases hg
end Go.Proofs.YtoojmhjagipmdaaGreat
