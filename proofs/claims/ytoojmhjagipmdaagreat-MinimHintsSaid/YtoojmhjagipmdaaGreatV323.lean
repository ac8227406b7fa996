/- The watch: Propagate's walk. The watch: Add's refusals, and all of Add. The watch: By. The watch: Back. The watch: New. Plain: what an arena returns behind Add and Delete. What a watch leaves alone; a watch begun; store (package salvorlaw13); going back where nothing changes. -/
import Derived.Test.YtoojmhjagipmdaaGreatV322
import Derived.Deep.LoopGhost
import Derived.Test.YtoojmhjagipmdaaGreatV312
import Derived.Test.YtoojmhjagipmdaaGreatV315
import Derived.Test.YtoojmhjagipmdaaGreatV319
namespace Go.Proofs.YtoojmhjagipmdaaGreat
open Go.RowKit Go.Maps Go.Shelf
theorem tr_at {O:Nat→Prop} (b:Nat) (T:Trl) (k:Nat) (x:Int) (w:World) (h:TrAt O w b T) (hx:T.order[k]? =some x):
  Calls Tryz.prog 56 #[.pointer (some ⟨b,0,none⟩),.int .i64 (k:Int)] w fun e w'=>e= .returned (.tuple #[.int .i64 x,.int .i64 0])∧w=w':=by
 have HIS:=Lib.hid (tr_is b T w h)
 have hk':=h.1.order
 have hlt:=(List.getElem?_eq_some_iff.1 hx).1
 obtain⟨hk,gv,cv,ov,sv,h⟩:=h
 obtain⟨Ao,co,cs,rfl,hco,_,hgo,_,_⟩:=mx_some h.order (by omega)
 have c1:w.cell? ⟨b,1,none⟩=some (.slice (some ⟨Ao,0,none⟩) T.order.length co):=mx_cell (j:=1) h.block
 have d0:w.cell? ⟨Ao,k,none⟩=some (.int .i64 x):=mx_at h.order (by rw[List.getElem?_map,hx];rfl)
 have q0:decide ((k:Int)<0)=false:=by simp
 have q1:decide (T.order.length≤k)=false:=by simp;omega
 have q2:decide ((T.order.length:Int)≤(k:Int))=false:=by simp;omega
 have hkc:k<co:=by omega
 clear h hk hx
 go_enter Tryz.func56,Tryz.ntmps56
 go_wp2_with fail
 refine HIS.out.mono ?_
 rintro e w' ⟨rfl,rfl⟩
 go_wp2_with fail
 go_ret2
 exact⟨rfl,rfl⟩
theorem free_of_block {w:World} {b j:Nat} {cs:Array Value} {t:TypeId} (h:w.heap[b]? =some (.cells cs t (0,0))):w.frozen? ⟨b,j,none⟩=false:=by
 simp[World.frozen?,h]
theorem propGo_end {A:Arn} {T:Trl} {S:Wst} (h:T.order.length≤S.looked): ∀n,propGo A n T S=(T,S,none)
 | 0=>rfl
 | n+1=>by
  unfold propGo
  rw[List.getElem?_eq_none h]
theorem propGo_hit {A:Arn} {T:Trl} {S:Wst} {y id:Int} {T2:Trl} {S2:Wst} (h:T.order[S.looked]? =some y) (he:lookGo A T S (litN y) (S.row (litN y))=(T2,S2,some id)) (n:Nat):propGo A (n+1) T S=(T2,S2,some id):=by
 unfold propGo
 rw[h]
 simp only[]
 rw[he]
theorem propGo_on {A:Arn} {T:Trl} {S:Wst} {y:Int} {T2:Trl} {S2:Wst} (h:T.order[S.looked]? =some y) (he:lookGo A T S (litN y) (S.row (litN y))=(T2,S2,none)) (n:Nat):propGo A (n+1) T S=propGo A n T2 ⟨S2.known,S2.of,S2.looked+1⟩:=by
 conv=>lhs;unfold propGo
 rw[h]
 simp only[]
 rw[he]
 rfl
structure PropSt (w:World) (lab:Nat→Nat) (b ab tb:Nat) (A:Arn) (R:Trl×Wst×Option Int) (g:Nat) (X:World) (T:Trl) (S:Wst):Prop where
 sys:SysNext w X lab b ab tb A T S
 bnd:S.Bnd
 link:S.Link
 sim: ∃its,Sim T its
 few:T.vars.length≤1000000
 eq:propGo A g T S=R
 fuel:T.vars.length<g+S.looked+1
theorem Sim.orderVars {T:Trl} {its:List RIt} (h:Sim T its):T.order.length≤T.vars.length:=by
 have h1:=h.order
 rw[h1,List.length_map]
 rcases h.len with h3|h3
 ·omega
 ·rw[h3]
  exact Nat.zero_le _
theorem PropSt.step {w X Y Z:World} {lab lab1:Nat→Nat} {b ab tb:Nat} {A:Arn} {R:Trl×Wst×Option Int} {g:Nat} {T T2:Trl} {S S2:Wst} {y:Int} (h:PropSt w lab b ab tb A R (g+1) X T S) (hl:Labs lab lab1 w Y) (hsy:SysAt Y lab1 b ab tb A T2 S2)
  (hy:T.order[S.looked]? =some y) (he:lookGo A T S (litN y) (S.row (litN y))=(T2,S2,none)) (hZ:Z=Y.setCell ⟨b,4,none⟩ (.int .i64 ((S2.looked+1:Nat):Int))):
  ∃T' S',PropSt w lab b ab tb A R g Z T' S':=by
 subst hZ
 have ha:=lookGo_all A (T:=T) (S:=S) (l:=litN y) (S.row (litN y)) h.bnd h.link h.sim (fun id hid=>hid) (up_nodup (h.bnd.row (litN y)).1)
 rw[he]at ha
 obtain⟨h1,h2,h3,h4,h5⟩:=ha
 have h4':T2.vars.length=T.vars.length:=h4
 have h5':S2.looked=S.looked:=h5
 have:=h.few
 have:=h.fuel
 refine⟨T2,⟨S2.known,S2.of,S2.looked+1⟩,⟨SysNext.trans hl (hsy.setLooked (S2.looked+1)),⟨h1.kr,h1.kb,h1.kl,h1.orr,h1.ob⟩,h2,h3,by omega,?_,?_⟩⟩
 ·rw[←h.eq,propGo_on hy he]
 ·show T2.vars.length<g+(S2.looked+1)+1
  omega
set_option maxRecDepth 100000 in
set_option maxHeartbeats 8000000 in
theorem wa_propagate (b ab tb:Nat) (A:Arn) (T:Trl) (S:Wst) (w:World) (lab:Nat→Nat) (h:SysAt w lab b ab tb A T S) (hL:S.Link) (hsim: ∃its,Sim T its) (hfew:T.vars.length≤1000000):
  Calls Tryz.prog 38 #[.pointer (some ⟨b,0,none⟩)] w fun e w'=>e= .returned (.tuple #[.int .i64 ((propW A T S).2.2.getD 0),.bool (propW A T S).2.2.isSome,.int .i64 0])∧SysNext w w' lab b ab tb A (propW A T S).1 (propW A T S).2.1:=by
 obtain⟨hbn,_⟩:=id h.wa
 obtain⟨R,hR⟩: ∃R,propW A T S=R:=⟨_,rfl⟩
 rw[hR]
 obtain⟨n0,hn0⟩: ∃n,T.vars.length+1=n:=⟨_,rfl⟩
 have HST:=Lib.hid (show∃T' S',PropSt w lab b ab tb A R n0 w T' S' from⟨T,S,SysNext.refl h (Below.refl _ _),hbn,hL,hsim,hfew,by rw[←hR,←hn0];rfl,by omega⟩)
 clear h hbn hL hsim hfew hR hn0
 go_enter Tryz.func38,Tryz.ntmps38
 go_wp2_with fail
 go_loopg [5] n0 (fun g u5 wr=>Hid (∃T' S',PropSt w lab b ab tb A R g wr T' S'))
 case atStart=>exact HST
 case round=>
  clear HST
  obtain⟨T1,S1,hst⟩:=hrel.out
  clear hrel
  obtain⟨lab1,hsy,hlb⟩:=hst.sys
  have HS:=Lib.hid hsy
  have HL:=Lib.hid hlb
  have HP:=Lib.hid hst
  have HC1:=Lib.hid hsy.c1
  have HC4:=Lib.hid hsy.c4
  obtain⟨n,hn⟩: ∃n,S1.looked=n:=⟨_,rfl⟩
  obtain⟨m,hm⟩: ∃m,T1.order.length=m:=⟨_,rfl⟩
  have HN:=Lib.hid hn
  have HM:=Lib.hid hm
  have hmb:m<1048576:=by
   rw[←hm]
   obtain⟨its,hs⟩:=hst.sim
   exact hs.orderLt hst.few
  have hbl:b<wr.heap.size:=World.block_lt_of_cell? wr _ hsy.c1
  rw[hn]at HC4
  clear hst hsy hlb hn hm
  go_upto_region 3 with fail
  refine wp_region_held_drew (S:=fun w'=>Below wr.heap.size wr w') (by kernel_rfl) (mx_drew wr) (fun hS=>?_)
  refine takeE 0 11 ?_
  refine takeE 1 12 ?_
  refine takeE 2 13 ?_
  refine takeF 3 14 (fun wq hSw=>(hSw.cell (p:=⟨b,4,none⟩) hbl).trans HC4.out) ?_
  refine takeE 4 15 ?_
  refine takeE 5 16 ?_
  refine takeE 6 17 ?_
  refine takeF 7 18 (fun wq hSw=>(hSw.cell (p:=⟨b,1,none⟩) hbl).trans HC1.out) ?_
  refine ready1 8 (fun K hK=>?_)
  go_simp
  refine(tr_len tb T1 _ (HS.out.tr.below hS)).mono ?_
  rintro e w' ⟨rfl,rfl⟩
  rw[HM.out]
  refine hK.out _ _ hS (fun _=>?_)
  clear hK
  refine takeE 9 20 ?_
  refine wpAnyH_done (by kernel_rfl) ?_ _
  have HX:=Lib.hid hS
  clear hS
  by_cases hlt:n<m
  ·have q1:decide ((n:Int)<(m:Int))=true:=by simp;omega
   obtain⟨y,hy⟩:=getElem_of (l:=T1.order) (i:=n) (by rw[HM.out];exact hlt)
   have HY:=Lib.hid hy
   have hlb:litB y=true:=by
    obtain⟨its,hs⟩:=HP.out.sim
    rw[hs.order,List.getElem?_map]at hy
    cases hx:its[n]? with
    | none=>rw[hx]at hy;cases hy
    | some x=>
     rw[hx]at hy
     obtain rfl:x.lit=y:=by simpa using hy
     exact hs.litb (List.mem_of_getElem? hx)
   have HW:=Lib.hid (wf_lit (l:=litN y) (by unfold litN;rw[if_pos hlb];rw[litB_minus];exact hlb))
   obtain⟨g,rfl⟩: ∃g',gk=g'+1:=⟨gk-1,by
    have h1:=HP.out.fuel
    have h2:=HM.out
    have h3:=HN.out
    obtain⟨its,hs⟩:=HP.out.sim
    have:=hs.orderVars
    omega⟩
   clear hy hlb
   go_upto_region 4 with fail
   refine wp_region_held_drew (S:=fun w'=>Below wr.heap.size wr w') (by kernel_rfl) (HX.out.trans ((mx_drew _).mono HX.out.size)) (fun hS=>?_)
   refine takeE 0 22 ?_
   refine takeE 1 23 ?_
   refine takeE 2 24 ?_
   refine takeF 3 25 (fun wq hSw=>(hSw.cell (p:=⟨b,1,none⟩) hbl).trans HC1.out) ?_
   refine takeE 4 26 ?_
   refine takeE 5 27 ?_
   refine takeE 6 28 ?_
   refine takeF 7 29 (fun wq hSw=>(hSw.cell (p:=⟨b,4,none⟩) hbl).trans HC4.out) ?_
   refine ready1 8 (fun K hK=>?_)
   go_simp
   refine(tr_at tb T1 n y _ (HS.out.tr.below hS) HY.out).mono ?_
   rintro e w' ⟨rfl,rfl⟩
   refine hK.out _ _ hS (fun _=>?_)
   clear hK
   refine takeE 9 21 ?_
   refine takeE 10 31 ?_
   refine takeE 11 32 ?_
   refine takeE 12 5 ?_
   refine takeE 13 6 ?_
   refine wpAnyH_done (by kernel_rfl) ?_ _
   have HX2:=Lib.hid hS
   clear hS
   have HLN:=Lib.hid (lit_neg y wr.drew.drew)
   have HLK:=Lib.hid (wa_look b ab tb A T1 S1 (litN y) wr.drew.drew lab1 (HS.out.below HX2.out) HP.out.link HP.out.sim HP.out.few HW.out)
   obtain⟨z,hz⟩: ∃z,litN y=z:=⟨_,rfl⟩
   have HZ:=Lib.hid hz
   rw[hz]at HLN HLK
   obtain⟨⟨T2,S2,o⟩,hr⟩: ∃r,lookGo A T1 S1 z (S1.row z)=r:=⟨_,rfl⟩
   have HR:=Lib.hid hr
   rw[hr]at HLK
   clear hz hr
   have HLB:=Lib.hid (HL.out.trans (Labs.of_below HX2.out))
   cases o with
   | some id=>
    go_wp2_with fail
    refine HLN.out.mono ?_
    rintro e w' ⟨rfl,rfl⟩
    go_wp2_with fail
    refine HLK.out.mono ?_
    rintro e Y ⟨rfl,hn⟩
    have HNY:=Lib.hid hn
    clear hn
    go_wp2_with fail
    go_ret3
    have he:R=(T2,S2,some id):=by
     rw[←HP.out.eq,propGo_hit (y:=y) (by rw[HN.out];exact HY.out) (by rw[HZ.out];exact HR.out)]
    rw[he]
    exact⟨rfl,SysNext.trans HLB.out HNY.out⟩
   | none=>
    go_wp2_with fail
    refine HLN.out.mono ?_
    rintro e w' ⟨rfl,rfl⟩
    go_wp2_with fail
    refine HLK.out.mono ?_
    rintro e Y ⟨rfl,hn⟩
    obtain⟨lab2,hsy,hl2⟩:=hn
    have c4:=hsy.c4
    obtain⟨kb2,ob2,hbx⟩:=hsy.box
    have f4:Y.frozen? ⟨b,4,none⟩=false:=free_of_block hbx
    clear hbx
    have hS2:S2.looked=n:=by
     have ha:=(lookGo_all A (T:=T1) (S:=S1) (l:=z) (S1.row z) HP.out.bnd HP.out.link HP.out.sim (fun id hid=>hid) (up_nodup (HP.out.bnd.row z).1)).2.2.2.2
     rw[HR.out]at ha
     exact(show S2.looked=S1.looked from ha).trans HN.out
    have HS2:=Lib.hid hS2
    rw[show((⟨T2,S2,none⟩:Trl×Wst×Option Int).2.1).looked=n from hS2]at c4
    have HSY:=Lib.hid hsy
    have HL2:=Lib.hid hl2
    clear hsy hl2 hS2
    go_wp2_with fail
    go_roundg g
    case measure=>omega
    case rel=>
     refine Lib.hid (HP.out.step (y:=y) (T2:=T2) (S2:=S2) (HLB.out.trans HL2.out) HSY.out (by rw[HN.out];exact HY.out) (by rw[HZ.out];exact HR.out) ?_)
     rw[HS2.out]
     go_num
  ·have q1:decide ((n:Int)<(m:Int))=false:=by simp;omega
   go_wp2_with fail
   go_ret3
   have he:R=(T1,S1,none):=by
    rw[←HP.out.eq]
    exact propGo_end (by rw[HN.out,HM.out];omega) _
   rw[he]
   exact⟨rfl,SysNext.trans HL.out (SysNext.refl HS.out HX.out)⟩
end Go.Proofs.YtoojmhjagipmdaaGreat
namespace Go.Proofs.YtoojmhjagipmdaaGreat
open Go.RowKit Go.Maps Go.Shelf
set_option maxRecDepth 100000 in
set_option maxHeartbeats 4000000 in
theorem wa_add_known (b ab tb:Nat) (A:Arn) (T:Trl) (S:Wst) (id:Int) (k:Kn) (w:World) (lab:Nat→Nat) (h:SysAt w lab b ab tb A T S) (hwf:(Lit.int .i64 id).wf=true) (hk:S.kn id=some k):
  Calls Tryz.prog 52 #[.pointer (some ⟨b,0,none⟩),.int .i64 id] w fun e w'=>e= .returned (.tuple #[.int .u8 0,.int .i64 130])∧Below w.heap.size w w':=by
 obtain⟨W0,hW0⟩: ∃x,w.alloc (.cells #[.pointer (some ⟨b,0,none⟩)] 39)=x:=⟨_,rfl⟩
 have hb0:Below w.heap.size w W0:=by rw[←hW0];exact mx_al _ _
 have hx0:W0.heap[w.heap.size]? =some (.cells #[.pointer (some ⟨b,0,none⟩)] 39 (0,0)):=by rw[←hW0];exact World.alloc_heap_new _ _
 have HBX:=Lib.hid hx0
 have HW0:=Lib.hid hW0
 have HB0:=Lib.hid hb0
 have hs0:=h.below hb0
 have HS0:=Lib.hid hs0
 obtain⟨hbn,kb,ob,K,F,tg,hm⟩:=hs0.wa
 have hbb:=hm.block
 have HM0:=Lib.hid hm
 have HBN:=Lib.hid hbn
 have hlk:=hm.lookK hwf
 obtain⟨x,hx,hxk,hkx,hkv⟩:=hm.knAt hk
 rw[hkv]at hlk
 clear hx hxk hkx hkv
 have p0:W0.cell? ⟨w.heap.size,0,none⟩=some (.pointer (some ⟨b,0,none⟩)):=mx_cell (j:=0) hx0
 have q0:W0.cell? ⟨b,0,none⟩=some (.pointer (some ⟨ab,0,none⟩)):=mx_cell (j:=0) hbb
 have q2:W0.cell? ⟨b,2,none⟩=some (.map (some kb)):=mx_cell (j:=2) hbb
 have hltb:=heap_lt hbb
 have hltx:=heap_lt hx0
 have HBB:=Lib.hid hbb
 have HKS:=Lib.hid hk
 have HSW:=Lib.hid h
 clear h hs0 hm hbn hbb hx0 hb0 hW0 hk
 refine(callsIn_wide (n:=10)).1 ?_
 refine callsIn_of_wp_marks Tryz.func52 rfl trivial ?_ rfl
 simp only[Tryz.ntmps52,List.size_toArray,List.length_cons,List.length_nil,Nat.reduceAdd,Nat.reduceSub,Array.replicate_succ,Array.replicate_zero,List.push_toArray,List.append_toArray,List.nil_append,List.cons_append]
 have PQ:=Lib.hid (And.intro p0 (And.intro q0 q2))
 rw[←HW0.out]at p0 q0 q2 hlk
 gi_wp2_with fail
 rw[HW0.out]
 clear p0 q0 q2 hlk
 refine⟨.tuple #[.int .u8 0,.int .i64 130],by simp[results,Tryz.results52,go_sem],rfl,?_⟩
 exact HB0.out
set_option maxRecDepth 100000 in
set_option maxHeartbeats 4000000 in
theorem wa_add_none (b ab tb:Nat) (A:Arn) (T:Trl) (S:Wst) (id:Int) (w:World) (lab:Nat→Nat) (h:SysAt w lab b ab tb A T S) (hwf:(Lit.int .i64 id).wf=true) (hk:S.kn id=none) (hg:A.get id=none):
  Calls Tryz.prog 52 #[.pointer (some ⟨b,0,none⟩),.int .i64 id] w fun e w'=>e= .returned (.tuple #[.int .u8 0,.int .i64 30])∧Below w.heap.size w w':=by
 obtain⟨W0,hW0⟩: ∃x,w.alloc (.cells #[.pointer (some ⟨b,0,none⟩)] 39)=x:=⟨_,rfl⟩
 have hb0:Below w.heap.size w W0:=by rw[←hW0];exact mx_al _ _
 have hx0:W0.heap[w.heap.size]? =some (.cells #[.pointer (some ⟨b,0,none⟩)] 39 (0,0)):=by rw[←hW0];exact World.alloc_heap_new _ _
 have HBX:=Lib.hid hx0
 have HW0:=Lib.hid hW0
 have HB0:=Lib.hid hb0
 have hs0:=h.below hb0
 have HS0:=Lib.hid hs0
 have HGET:=Lib.hid (ar_get_none ab A id W0 hs0.ar hg)
 obtain⟨hbn,kb,ob,K,F,tg,hm⟩:=hs0.wa
 have hbb:=hm.block
 have HM0:=Lib.hid hm
 have HBN:=Lib.hid hbn
 have hlk:=hm.lookK hwf
 rw[(hm.knNone hk).2]at hlk
 have p0:W0.cell? ⟨w.heap.size,0,none⟩=some (.pointer (some ⟨b,0,none⟩)):=mx_cell (j:=0) hx0
 have q0:W0.cell? ⟨b,0,none⟩=some (.pointer (some ⟨ab,0,none⟩)):=mx_cell (j:=0) hbb
 have q2:W0.cell? ⟨b,2,none⟩=some (.map (some kb)):=mx_cell (j:=2) hbb
 have hltb:=heap_lt hbb
 have hltx:=heap_lt hx0
 have HBB:=Lib.hid hbb
 have HKS:=Lib.hid hk
 have HKN:=Lib.hid (hm.knNone hk).1
 have HSW:=Lib.hid h
 clear h hs0 hm hbn hbb hx0 hb0 hW0 hk hg
 refine(callsIn_wide (n:=10)).1 ?_
 refine callsIn_of_wp_marks Tryz.func52 rfl trivial ?_ rfl
 simp only[Tryz.ntmps52,List.size_toArray,List.length_cons,List.length_nil,Nat.reduceAdd,Nat.reduceSub,Array.replicate_succ,Array.replicate_zero,List.push_toArray,List.append_toArray,List.nil_append,List.cons_append]
 have PQ:=Lib.hid (And.intro p0 (And.intro q0 q2))
 rw[←HW0.out]at p0 q0 q2 hlk
 gi_wp2_with fail
 rw[HW0.out]
 clear p0 q0 q2 hlk
 refine⟨trivial,?_⟩
 refine(callsIn_wide.2 HGET.out).mono ?_
 rintro e w1 ⟨rfl,hb1⟩
 have HB1:=Lib.hid (HB0.out.trans (hb1.mono HB0.out.size))
 clear hb1
 gi_wp2_with fail
 refine⟨.tuple #[.int .u8 0,.int .i64 30],by simp[results,Tryz.results52,go_sem],rfl,?_⟩
 exact HB1.out
set_option maxRecDepth 100000 in
set_option maxHeartbeats 4000000 in
theorem wa_add_big (b ab tb:Nat) (A:Arn) (T:Trl) (S:Wst) (id:Int) (c:List Int) (w:World) (lab:Nat→Nat) (h:SysAt w lab b ab tb A T S) (hwf:(Lit.int .i64 id).wf=true) (hk:S.kn id=none) (hg:A.get id=some c) (hbg:c.any T.big=true) (hcl:c.length<20):
  Calls Tryz.prog 52 #[.pointer (some ⟨b,0,none⟩),.int .i64 id] w fun e w'=>e= .returned (.tuple #[.int .u8 0,.int .i64 40])∧Below w.heap.size w w':=by
 obtain⟨W0,hW0⟩: ∃x,w.alloc (.cells #[.pointer (some ⟨b,0,none⟩)] 39)=x:=⟨_,rfl⟩
 have hb0:Below w.heap.size w W0:=by rw[←hW0];exact mx_al _ _
 have hx0:W0.heap[w.heap.size]? =some (.cells #[.pointer (some ⟨b,0,none⟩)] 39 (0,0)):=by rw[←hW0];exact World.alloc_heap_new _ _
 have HBX:=Lib.hid hx0
 have HW0:=Lib.hid hW0
 have HB0:=Lib.hid hb0
 have hs0:=h.below hb0
 have HS0:=Lib.hid hs0
 have HGET:=Lib.hid (ar_get ab A id c W0 hs0.ar hg)
 obtain⟨hbn,kb,ob,K,F,tg,hm⟩:=hs0.wa
 have hbb:=hm.block
 have HM0:=Lib.hid hm
 have HBN:=Lib.hid hbn
 have hlk:=hm.lookK hwf
 rw[(hm.knNone hk).2]at hlk
 have p0:W0.cell? ⟨w.heap.size,0,none⟩=some (.pointer (some ⟨b,0,none⟩)):=mx_cell (j:=0) hx0
 have q0:W0.cell? ⟨b,0,none⟩=some (.pointer (some ⟨ab,0,none⟩)):=mx_cell (j:=0) hbb
 have q2:W0.cell? ⟨b,2,none⟩=some (.map (some kb)):=mx_cell (j:=2) hbb
 have hltb:=heap_lt hbb
 have hltx:=heap_lt hx0
 have HBB:=Lib.hid hbb
 have HKS:=Lib.hid hk
 have HKN:=Lib.hid (hm.knNone hk).1
 have HSW:=Lib.hid h
 clear h hs0 hm hbn hbb hx0 hb0 hW0 hk hg
 refine(callsIn_wide (n:=10)).1 ?_
 refine callsIn_of_wp_marks Tryz.func52 rfl trivial ?_ rfl
 simp only[Tryz.ntmps52,List.size_toArray,List.length_cons,List.length_nil,Nat.reduceAdd,Nat.reduceSub,Array.replicate_succ,Array.replicate_zero,List.push_toArray,List.append_toArray,List.nil_append,List.cons_append]
 have PQ:=Lib.hid (And.intro p0 (And.intro q0 q2))
 rw[←HW0.out]at p0 q0 q2 hlk
 gi_wp2_with fail
 rw[HW0.out]
 clear p0 q0 q2 hlk
 refine⟨trivial,?_⟩
 refine(callsIn_wide.2 HGET.out).mono ?_
 rintro e w1 ⟨cv,rfl,hcr,hb1⟩
 obtain⟨Ac,cc,rfl,_⟩:=mx_slice hcr
 have HCR:=Lib.hid hcr
 have HB1:=Lib.hid (HB0.out.trans (hb1.mono HB0.out.size))
 have HB01:=Lib.hid hb1
 have HS1:=Lib.hid (HSW.out.below HB1.out)
 have p1:w1.cell? ⟨w.heap.size,0,none⟩=some (.pointer (some ⟨b,0,none⟩)):=(hb1.cell (p:=⟨w.heap.size,0,none⟩) hltx).trans PQ.out.1
 have HCB:=Lib.hid (contains_big b tb w.heap.size T _ c w1 HS1.out.tr p1 HS1.out.c1 (IntsIn.of_own hcr) (by omega))
 rw[hbg]at HCB
 obtain⟨n,hn⟩: ∃n,c.length=n:=⟨_,rfl⟩
 have HN:=Lib.hid hn
 rw[hn]at hcl HCB
 clear hb1 hcr hbg
 gi_wp2_with fail
 clear hn
 refine⟨trivial,?_⟩
 refine(callsIn_wide.2 HCB.out).mono ?_
 rintro e w2 ⟨rfl,hb2⟩
 have HB2:=Lib.hid (HB1.out.trans (hb2.mono HB1.out.size))
 clear hb2
 gi_wp2_with fail
 refine⟨.tuple #[.int .u8 0,.int .i64 40],by simp[results,Tryz.results52,go_sem],rfl,?_⟩
 exact HB2.out
theorem addOk_err (T:Trl) (S:Wst) (id:Int) (c:List Int):(addOk T S id c).err=0:=by
 unfold addOk
 split <;> rfl
theorem wa_add (b ab tb:Nat) (A:Arn) (T:Trl) (S:Wst) (id:Int) (w:World) (lab:Nat→Nat) (h:SysAt w lab b ab tb A T S) (hwf:(Lit.int .i64 id).wf=true) (hA: ∀c,A.get id=some c→c.length<20∧clauseB c=true∧1≤id∧id≤1073741824) (hno:T.order.length<1048576) (hL:S.Link):
  Calls Tryz.prog 52 #[.pointer (some ⟨b,0,none⟩),.int .i64 id] w fun e w'=>e= .returned (.tuple #[.int .u8 ((addW A T S id).res:Nat),.int .i64 ((addW A T S id).err:Nat)])∧SysNext w w' lab b ab tb A (addW A T S id).T (addW A T S id).S:=by
 have no: ∀n:Nat,addW A T S id=⟨0,n,T,S⟩→Calls Tryz.prog 52 #[.pointer (some ⟨b,0,none⟩),.int .i64 id] w (fun e w'=>e= .returned (.tuple #[.int .u8 0,.int .i64 (n:Nat)])∧Below w.heap.size w w')→Calls Tryz.prog 52 #[.pointer (some ⟨b,0,none⟩),.int .i64 id] w fun e w'=>e= .returned (.tuple #[.int .u8 ((addW A T S id).res:Nat),.int .i64 ((addW A T S id).err:Nat)])∧SysNext w w' lab b ab tb A (addW A T S id).T (addW A T S id).S:=by
  intro n he hc
  rw[he]
  refine hc.mono ?_
  rintro e w' ⟨rfl,hb⟩
  exact⟨rfl,SysNext.refl h hb⟩
 cases hk:S.kn id with
 | some k=>exact no 130 (by unfold addW;rw[hk]) (wa_add_known b ab tb A T S id k w lab h hwf hk)
 | none=>
  cases hg:A.get id with
  | none=>exact no 30 (by unfold addW;rw[hk,hg]) (wa_add_none b ab tb A T S id w lab h hwf hk hg)
  | some c=>
   obtain⟨h1,h2,h3⟩:=hA c hg
   by_cases hbg:c.any T.big=true
   ·exact no 40 (by unfold addW;rw[hk,hg];exact if_pos hbg) (wa_add_big b ab tb A T S id c w lab h hwf hk hg hbg h1)
   ·have he:addW A T S id=addOk T S id c:=by
     unfold addW
     rw[hk,hg]
     exact if_neg hbg
    rw[he,addOk_err]
    exact wa_add_ok b ab tb A T S id c w lab h hwf hk hg (by simpa using hbg) h1 h2 h3 hno hL
end Go.Proofs.YtoojmhjagipmdaaGreat
namespace Go.Proofs.YtoojmhjagipmdaaGreat
open Go.RowKit Go.Maps Go.Shelf
end Go.Proofs.YtoojmhjagipmdaaGreat
namespace Go.Proofs.YtoojmhjagipmdaaGreat
open Go.RowKit Go.Maps Go.Shelf
end Go.Proofs.YtoojmhjagipmdaaGreat
namespace Go.Proofs.YtoojmhjagipmdaaGreat
open Go.RowKit Go.Maps Go.Shelf
def labNew (w:World) (lab:Nat→Nat) (g:Nat):Nat:=if g<w.heap.size then lab g else if g<w.heap.size+3 then 3 else 0
theorem Labs.made {w w':World} {lab:Nat→Nat} (hb:Below w.heap.size w w'):Labs lab (labNew w lab) w w':=
 ⟨Kept.of_below hb,fun _ hg=>if_pos hg⟩
set_option maxRecDepth 100000 in
set_option maxHeartbeats 2000000 in
theorem wa_new (ab tb:Nat) (w:World):
  Calls Tryz.prog 50 #[.pointer (some ⟨ab,0,none⟩),.pointer (some ⟨tb,0,none⟩)] w fun e w'=>e= .returned (.tuple #[.pointer (some ⟨w.heap.size+2,0,none⟩),.int .i64 0])∧w'=((w.alloc (.map #[] 0)).alloc (.map #[] 0)).alloc (.cells #[.pointer (some ⟨ab,0,none⟩),.pointer (some ⟨tb,0,none⟩),.map (some w.heap.size),.map (some (w.heap.size+1)),.int .i64 0] 157):=by
 have hmm:=@run_makeMap Tryz.prog
 go_enter Tryz.func50,Tryz.ntmps50
 go_wp2
 go_ret2
 exact⟨rfl,rfl⟩
end Go.Proofs.YtoojmhjagipmdaaGreat
namespace Go.Proofs.YtoojmhjagipmdaaGreat
open Go
theorem posOf_append (l:List Ent) (e:Ent) (j:Int):posOf (l++ [e]) j=if posOf l j<l.length then posOf l j else if e.id<j then l.length+1 else l.length:=by
 induction l with
 | nil=>simp[posOf]
 | cons x l ih=>
  simp only[List.cons_append,posOf,List.length_cons]
  by_cases hx:x.id<j
  ·simp only[hx,if_true,ih]
   by_cases h1:posOf l j<l.length
   ·simp only[if_pos h1,if_pos (Nat.succ_lt_succ h1)]
   ·simp only[if_neg h1,if_neg (fun h=>h1 (Nat.lt_of_succ_lt_succ h))]
    split <;> rfl
  ·simp only[hx,if_false]
   rw[if_pos (Nat.succ_pos _)]
theorem posOf_all {l:List Ent} {j:Int} (h: ∀e∈l,e.id<j):posOf l j=l.length:=by
 induction l with
 | nil=>rfl
 | cons x l ih=>simp only[posOf,if_pos (h x (List.mem_cons_self ..)),ih (fun e he=>h e (List.mem_cons_of_mem _ he)),List.length_cons]
structure Arn.Inv (A:Arn):Prop where
 last: ∀e∈A.all,e.id≤A.last
 span: ∀e∈A.all,e.fr≤e.upto∧e.upto≤A.store.length
 low:0≤A.last
theorem Arn.Ok.inv {A:Arn} (h:A.Ok):A.Inv:=⟨h.last,fun e he=>⟨(h.each e he).2.2.1,(h.each e he).2.2.2⟩,h.nums.2.2.1⟩
theorem inv0:arn0.Inv:=⟨fun e h=>(by cases h),fun e h=>(by cases h),Int.le_refl 0⟩
theorem Arn.Inv.add {A:Arn} (h:A.Inv) {id:Int} (c:List Int) (hid:A.last<id):(A.add id c).Inv:=by
 refine⟨fun e he=>?_,fun e he=>?_,?_⟩
 ·rcases List.mem_append.1 he with he|he
  ·have:=h.last e he
   show e.id≤id
   omega
  ·obtain rfl:=List.mem_singleton.1 he
   exact Int.le_refl _
 ·rcases List.mem_append.1 he with he|he
  ·have:=h.span e he
   show e.fr≤e.upto∧e.upto≤(A.store++c).length
   rw[List.length_append]
   omega
  ·obtain rfl:=List.mem_singleton.1 he
   show A.store.length≤A.store.length+c.length∧A.store.length+c.length≤(A.store++c).length
   rw[List.length_append]
   omega
 ·have:=h.low
  show(0:Int)≤id
  omega
theorem Arn.Inv.gone {A:Arn} (h:A.Inv) {j:Int} (hj:A.last<j):A.get j=none:=by
 have hp:posOf A.all j=A.all.length:=posOf_all (fun e he=>by have:=h.last e he;omega)
 have hf:A.find j=Option.none:=by
  unfold Arn.find
  rw[hp,List.getElem?_eq_none (Nat.le_refl _)]
  split <;> rfl
 unfold Arn.get Arn.ent
 rw[hf]
theorem Arn.get_low (A:Arn) {j:Int} (hj:j<1):A.get j=none:=by
 have hf:A.find j=Option.none:=by
  unfold Arn.find
  rw[if_neg (by omega)]
 unfold Arn.get Arn.ent
 rw[hf]
theorem Arn.Inv.get_add {A:Arn} (h:A.Inv) {id:Int} (c:List Int) (hid:A.last<id) (h2:id≤1073741824):(A.add id c).get id=some c:=by
 have hp:posOf A.all id=A.all.length:=posOf_all (fun e he=>by have:=h.last e he;omega)
 have hlow:=h.low
 have hf:(A.add id c).find id=some A.all.length:=by
  unfold Arn.find Arn.add
  simp only[posOf_append,hp,Nat.lt_irrefl,if_false,Int.lt_irrefl]
  rw[if_pos (by omega)]
  simp
 unfold Arn.get Arn.ent
 rw[hf]
 simp[Arn.add]
theorem Arn.Inv.get_add_ne {A:Arn} (h:A.Inv) {id j:Int} (c:List Int) (hj:j≠id):(A.add id c).get j=A.get j:=by
 by_cases hp:posOf A.all j<A.all.length
 ·have hx:=List.getElem?_eq_getElem hp
  have hf:(A.add id c).find j=A.find j:=by
   unfold Arn.find Arn.add
   simp only[posOf_append,if_pos hp,List.getElem?_append_left hp]
  unfold Arn.get Arn.ent
  rw[hf]
  cases hq:A.find j with
  | none=>rfl
  | some p=>
   obtain⟨x,hx,_,_⟩:=Arn.find_lt hq
   have hpl:p<A.all.length:=(List.getElem?_eq_some_iff.1 hx).1
   have hsp:=h.span x (List.mem_of_getElem? hx)
   simp only[Arn.add,List.getElem?_append_left hpl,hx]
   congr 1
   rw[List.drop_append_of_le_length (by omega),List.take_append_of_le_length (by rw[List.length_drop];omega)]
 ·have h1:A.find j=none:=by
   unfold Arn.find
   rw[List.getElem?_eq_none (by omega)]
   split <;> rfl
  have h2:(A.add id c).find j=none:=by
   unfold Arn.find Arn.add
   simp only[posOf_append,if_neg hp]
   by_cases hlt:id<j
   ·simp only[if_pos hlt,List.getElem?_eq_none (show(A.all++ [(⟨A.store.length,A.store.length+c.length,id,false⟩:Ent)]).length≤A.all.length+1 by simp)]
    split <;> rfl
   ·simp only[if_neg hlt,List.getElem?_append_right (Nat.le_refl _),Nat.sub_self,List.getElem?_cons_zero]
    split
    ·rw[if_neg (fun hh=>hj hh.1.symm)]
    ·rfl
  unfold Arn.get Arn.ent
  rw[h1,h2]
theorem addAll_get (cs:List (List Int)) (A:Arn) (i:Nat) (h:A.Inv) (hl:A.last≤i) (hn:i+cs.length≤1000) (j:Int):
  (addAll A i cs).get j=(if(i:Int)<j then(cs[(j-i-1).toNat]?).bind (fun c=>if clauseB c=true then some c else none)else A.get j)∧(addAll A i cs).Inv∧(addAll A i cs).last≤(i+cs.length:Nat):=by
 induction cs generalizing A i with
 | nil=>
  refine⟨?_,h,by simpa [addAll] using hl⟩
  simp only[addAll]
  split
  ·rw[h.gone (by omega)]
   simp
  ·rfl
 | cons c cs ih=>
  simp only[List.length_cons]at hn
  by_cases hc:clauseB c=true
  ·have hput:A.put ((i:Int)+1) c=A.add ((i:Int)+1) c:=by unfold Arn.put;rw[if_pos hc]
   obtain⟨e1,e2,e3⟩:=ih (A.add ((i:Int)+1) c) (i+1) (h.add c (by omega)) (by show(i:Int)+1≤((i+1:Nat):Int);omega) (by omega)
   simp only[addAll,hput]
   refine⟨?_,e2,by simp only[List.length_cons];omega⟩
   rw[e1]
   by_cases h1:(i:Int)+1<j
   ·rw[if_pos (by omega),if_pos (by omega)]
    obtain⟨n,hn1⟩: ∃n:Nat,j=i+1+1+n:=⟨(j-i-1-1).toNat,by omega⟩
    subst hn1
    rw[show((i:Int)+1+1+n-((i+1:Nat):Int)-1).toNat=n by omega,show((i:Int)+1+1+n-i-1).toNat=n+1 by omega,List.getElem?_cons_succ]
   ·rw[if_neg (by omega)]
    by_cases h2:j=(i:Int)+1
    ·subst h2
     rw[if_pos (by omega),h.get_add c (by omega) (by omega),show((i:Int)+1-i-1).toNat=0 by omega]
     simp[hc]
    ·rw[if_neg (by omega),h.get_add_ne c h2]
  ·have hput:A.put ((i:Int)+1) c=A:=by unfold Arn.put;rw[if_neg hc]
   obtain⟨e1,e2,e3⟩:=ih A (i+1) h (by omega) (by omega)
   simp only[addAll,hput]
   refine⟨?_,e2,by simp only[List.length_cons];omega⟩
   rw[e1]
   by_cases h1:(i:Int)+1<j
   ·rw[if_pos (by omega),if_pos (by omega)]
    obtain⟨n,hn1⟩: ∃n:Nat,j=i+1+1+n:=⟨(j-i-1-1).toNat,by omega⟩
    subst hn1
    rw[show((i:Int)+1+1+n-((i+1:Nat):Int)-1).toNat=n by omega,show((i:Int)+1+1+n-i-1).toNat=n+1 by omega,List.getElem?_cons_succ]
   ·rw[if_neg (by omega)]
    by_cases h2:j=(i:Int)+1
    ·subst h2
     rw[if_pos (by omega),h.gone (by omega),show((i:Int)+1-i-1).toNat=0 by omega]
     simp[hc]
    ·rw[if_neg (by omega)]
def Arn.del (A:Arn) (p:Nat) (x:Ent):Arn:=⟨A.store,A.all.set p ⟨x.fr,x.upto,x.id,true⟩,A.used-(x.upto-x.fr),A.count-1,A.last⟩
end Go.Proofs.YtoojmhjagipmdaaGreat
namespace Go.Proofs.YtoojmhjagipmdaaGreat
open Go.RowKit Go.Maps Go.Shelf
def Fr (w:World) (lab:Nat→Nat) (g:Nat):Prop:=g<w.heap.size∧lab g=0
section
variable {w w':World} {lab lab':Nat→Nat} {b ab tb N:Nat} {A:Arn} {T:Trl} {S:Wst} {v:Value} {xs:List Int} {cs:List (List Int)}
theorem Fr.next {g:Nat} (h:Fr w lab g) (k:Labs lab lab' w w'):Fr w' lab' g:=⟨Nat.lt_of_lt_of_le h.1 k.kept.size,(k.same g h.1).trans h.2⟩
theorem IntsIn.next (h:IntsIn (Fr w lab) w v xs) (k:Labs lab lab' w w'):IntsIn (Fr w' lab') w' v xs:=
 (h.kept k.kept (fun _ hg e=>e hg.2)).mono (fun _ hg=>hg.next k)
theorem ClsIn.next (h:ClsIn (Fr w lab) w v cs) (k:Labs lab lab' w w'):ClsIn (Fr w' lab') w' v cs:=
 (h.kept k.kept (fun _ hg e=>e hg.2)).mono (fun _ hg=>hg.next k)
theorem ClsIn.at {O:Nat→Prop} (h:ClsIn O w v cs):ClsAt w v cs:=by
 obtain⟨A,c,hv,_,_,hx⟩:=h
 refine⟨A,c,hv,fun i xs hi=>?_⟩
 obtain⟨g,o,u,h1,h2,_,h4,h5⟩:=hx i xs hi
 exact⟨g,o,u,h1,h2,h4,h5.lt.mono (fun _ hg=>hg.2)⟩
theorem Labs.ge (k:Labs lab lab' w w') (h: ∀g,lab g≠0→N≤g) (hN:N≤w.heap.size): ∀g,lab' g≠0→N≤g:=fun g hg=>Classical.byContradiction fun e=>by
 have h1:=k.same g (by omega)
 rw[h1]at hg
 exact e (h g hg)
theorem Labs.below (k:Labs lab lab' w w') (h: ∀g,lab g≠0→N≤g) (hN:N≤w.heap.size):Below N w w':=k.kept.below h hN
theorem sys_new {x:Nat} (h:PutAt N w ab tb A T) (hx:x=w.heap.size): ∃lab,SysAt (((w.alloc (.map #[] 0)).alloc (.map #[] 0)).alloc (.cells #[.pointer (some ⟨ab,0,none⟩),.pointer (some ⟨tb,0,none⟩),.map (some x),.map (some (x+1)),.int .i64 0] 157)) lab (x+2) ab tb A T ⟨[],[],0⟩∧(∀g,lab g≠0→N≤g):=by
 subst hx
 obtain⟨h0,OA,OT,h1,h2,h3,h4,h5⟩:=h
 have hoA:=h1.own
 have hoT:=h2.own
 obtain⟨W1,hW1⟩: ∃y,w.alloc (.map #[] 0)=y:=⟨_,rfl⟩
 have hb1:Below w.heap.size w W1:=by rw[←hW1];exact mx_al _ _
 have hz1:W1.heap.size=w.heap.size+1:=by rw[←hW1];simp
 have hm1:MapK W1 w.heap.size []:=by rw[←hW1];exact MapS.made w
 obtain⟨W2,hW2⟩: ∃y,W1.alloc (.map #[] 0)=y:=⟨_,rfl⟩
 have hb2:Below W1.heap.size W1 W2:=by rw[←hW2];exact mx_al _ _
 have hz2:W2.heap.size=w.heap.size+2:=by rw[←hW2];simp;omega
 have hm2:MapO W2 W1.heap.size []:=by rw[←hW2];exact MapS.made W1
 rw[hz1]at hm2
 obtain⟨W3,hW3⟩: ∃y,W2.alloc (.cells #[.pointer (some ⟨ab,0,none⟩),.pointer (some ⟨tb,0,none⟩),.map (some w.heap.size),.map (some (w.heap.size+1)),.int .i64 0] 157)=y:=⟨_,rfl⟩
 have hb3:Below W2.heap.size W2 W3:=by rw[←hW3];exact mx_al _ _
 have hz3:W3.heap.size=w.heap.size+3:=by rw[←hW3];simp;omega
 have hB:W3.heap[w.heap.size+2]? =some (.cells #[.pointer (some ⟨ab,0,none⟩),.pointer (some ⟨tb,0,none⟩),.map (some w.heap.size),.map (some (w.heap.size+1)),.int .i64 0] 157 (0,0)):=by
  rw[←hW3,←hz2]
  exact World.alloc_heap_new _ _
 rw[hW1,hW2,hW3]
 have hbw:Below w.heap.size w W3:=hb1.trans ((hb2.trans (hb3.mono (by omega))).mono (by omega))
 classical
 refine⟨fun g=>if OA g then 1 else if OT g then 2 else if w.heap.size≤g∧g<w.heap.size+3 then 3 else 0,⟨?_,?_,?_,fun g hg=>?_⟩,fun g hg=>?_⟩
 ·refine(h1.below hbw).congr (fun g=>?_)
  by_cases ha:OA g
  ·simp[ha]
  ·by_cases ht:OT g
   ·simp[ha,ht]
   ·simp only[ha,ht,if_false]
    split <;> simp
 ·refine(h2.below hbw).congr (fun g=>?_)
  by_cases ha:OA g
  ·simp[ha,h5 g ha]
  ·by_cases ht:OT g
   ·simp[ha,ht]
   ·simp only[ha,ht,if_false]
    split <;> simp
 ·have key: ∀g,w.heap.size≤g→g<w.heap.size+3→(if OA g then 1 else if OT g then 2 else if w.heap.size≤g∧g<w.heap.size+3 then 3 else 0)=3:=fun g g1 g2=>by
   rw[if_neg (fun e=>by have:=hoA g e;omega),if_neg (fun e=>by have:=hoT g e;omega),if_pos ⟨g1,g2⟩]
  refine⟨⟨List.Pairwise.nil,(fun p hp=>by cases hp),(fun p hp=>by cases hp),List.Pairwise.nil,(fun p hp=>by cases hp)⟩,w.heap.size,w.heap.size+1,[],[],fun _=>none,?_⟩
  refine⟨fun g hg=>?_,key _ (by omega) (by omega),key _ (by omega) (by omega),key _ (by omega) (by omega),by omega,(fun g t ht=>by cases ht),hB,?_,?_,rfl,rfl,(fun p hp=>by cases hp),fun p hp=>by cases hp⟩
  ·split at hg
   ·cases hg
   ·split at hg
    ·cases hg
    ·split at hg
     ·omega
     ·cases hg
  ·exact(hm1.below hb2).below hb3
  ·exact hm2.below hb3
 ·split at hg
  ·rename_i e
   have:=hoA g e
   omega
  ·split at hg
   ·rename_i e
    have:=hoT g e
    omega
   ·split at hg
    ·omega
    ·exact absurd rfl hg
 ·dsimp only at hg
  split at hg
  ·rename_i e
   exact h3 g e
  ·split at hg
   ·rename_i e
    exact h4 g e
   ·split at hg
    ·omega
    ·exact absurd rfl hg
theorem wa_new_at (h:PutAt N w ab tb A T):
  Calls Tryz.prog 50 #[.pointer (some ⟨ab,0,none⟩),.pointer (some ⟨tb,0,none⟩)] w fun e w'=> ∃b lab,e= .returned (.tuple #[.pointer (some ⟨b,0,none⟩),.int .i64 0])∧SysAt w' lab b ab tb A T ⟨[],[],0⟩∧(∀g,lab g≠0→N≤g)∧Below w.heap.size w w':=by
 refine(wa_new ab tb w).mono ?_
 rintro e w' ⟨rfl,rfl⟩
 obtain⟨lab,h1,h2⟩:=sys_new h rfl
 exact⟨_,lab,rfl,h1,h2,((mx_al _ _).alloc (by simp) _).alloc (by simp;omega) _⟩
end
def Trl.backErr (T:Trl) (j:Int):Nat:=if j<0∨(T.starts.length:Int)≤j then 42 else 0
def Trl.backed (T:Trl) (j:Int):Trl:=if 0≤j∧j+1<(T.starts.length:Int)then T.back j.toNat ((T.starts.getD (j.toNat+1) 0).toNat)else T
end Go.Proofs.YtoojmhjagipmdaaGreat
