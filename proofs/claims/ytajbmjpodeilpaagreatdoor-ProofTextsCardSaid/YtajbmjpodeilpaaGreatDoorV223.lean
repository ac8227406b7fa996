/- slices.AppendSeq over a checker's entries: the walk. package proof: Entries. Steps in memory. package proof: add, whole; Do. -/
import Derived.Test.YtajbmjpodeilpaaGreatDoorV220
import Derived.Test.YtajbmjpodeilpaaGreatDoorV222
import Derived.Test.YtajbmjpodeilpaaGreatDoorV204
namespace Go.Proofs.YtajbmjpodeilpaaGreatDoor
open Go.RowKit Go.Maps Go.Shelf Go.Sort
attribute [local go_sem] Oper.semAt_some
theorem einfo:(Tryz.prog.info? 86).map (fun i=>(i.zero,i.size,i.bytes))=some (some (.agg #[.int .i64 0,.slice none 0 0]),2,32):=by kernel_rfl
structure EMid (w:World) (r:Nat) (E:Ents) (n:Nat) (pre:List EX) (x:EX) (W:World) (B:Nat) (W':World):Prop where
 ej:EJ w r E pre W'
 pr:EPre E n pre x W'
 po:EPost (fun g=>g=r) x W W'
 lo:x.2.2≤B
 box:W'.heap[B]? =some (.cells #[.int .i64 x.1,x.2.1] 86 (0,0))
theorem EMid.turn {w:World} {r:Nat} {E:Ents} {n N:Nat} {pre:List EX} {x:EX} {W W':World} {B l:Nat} {q q':Loop} (hN:w.heap.size≤N) (hl:N≤l) (h2:W'.heap[l]? =some (.loop q)) (h:EMid w r E n pre x W B W'):EMid w r E n pre x W B (W'.putObj l (.loop q')) where
 ej:=(ej_own w r E hN).putObj _ h.ej hl h2 rfl
 pr:=⟨h.pr.lon,Nat.le_trans h.pr.size (grownBy_putObj' W' l (.loop q')).size,h.pr.same,by
  obtain⟨c,a,b⟩:=h.pr.row
  exact⟨c,a,own_nocells b (grownBy_putObj' W' l (.loop q')) (fun g e=>by cases e;exact⟨_,h2,rfl⟩)⟩⟩
 po:=EPost.turn h.po h2
 lo:=h.lo
 box:=(World.putObj_heap_other (by
  rintro rfl
  rw[h.box]at h2
  cases h2)).trans h.box
set_option maxRecDepth 100000 in
set_option maxHeartbeats 4000000 in
theorem append_all {X:Nat→Prop} {base:Nat} (Bb b mb:Nat) (k:Ckr) (K:List (Int×(Value×List Int))) (w:World) (hm:CkMem X base w b mb k K) (hB:w.cell? ⟨Bb,0,none⟩=some (.pointer (some ⟨b,0,none⟩))) (hl:K.length≤1000000) (hcl: ∀p∈K,p.2.2.length≤1000000) (hwf: ∀p∈K,(Lit.int .i64 p.1).wf=true):
  Calls Tryz.prog 81 #[.slice none 0 0,.func (.func 82) #[] #[.pointer (some ⟨Bb,0,none⟩)]] w fun e w'=> ∃v,e= .returned v∧EntOwn w.heap.size w' v k.ents∧Below w.heap.size w w':=by
 obtain⟨i0,hi,iz0,iz1,iz2⟩:=info_parts einfo
 obtain⟨WR,hWR⟩: ∃x,w.alloc (.cells #[.slice none 0 0] 47)=x:=⟨_,rfl⟩
 have hbR:Below w.heap.size w WR:=by rw[←hWR];exact mx_al _ _
 have hcR:Boxed WR w.heap.size 47 (.slice none 0 0):=by rw[←hWR];exact Boxed.new _ _ _
 have hzR:WR.heap.size=w.heap.size+1:=by rw[←hWR];simp
 have HSEQ:=Lib.hid (all_stops (fun g=>g=w.heap.size) Bb b mb k K w WR hm hB hbR (fun g hg=>by omega) hl hcl hwf)
 have HI0:=Lib.hid (show EJ w w.heap.size k.ents [] WR from⟨⟨_,hcR,World.ownsRow_nil _ _ _ _,fun g hg=>by cases hg⟩,fun i x hx=>by simp at hx,hbR⟩)
 have HLEN:=Lib.hid (show k.ents.length≤1000000 from by rw[←hm.len];exact hl)
 have HWR:=Lib.hid hWR
 clear hm hB hWR hbR hcR hcl hwf
 refine(callsIn_wide (n:=10)).1 ?_
 refine callsIn_of_wp_marks Tryz.func81 rfl trivial ?_ rfl
 simp only[Tryz.ntmps81,List.size_toArray,List.length_cons,List.length_nil,Nat.reduceAdd,Nat.reduceSub,Array.replicate_succ,Array.replicate_zero,List.push_toArray,List.append_toArray,List.nil_append,List.cons_append]
 gi_wp2_with fail
 rw[HWR.out]
 refine wpIn_range_M (gf:=82) (lb:= #[.pointer (some ⟨Bb,0,none⟩)]) rfl (enters_of Tryz.func82 (by kernel_rfl) rfl) HSEQ.out (Below.refl _ _) (fun _=>rfl)
  (fun pre x W W3 l r r' h1 h2 h3 h4=>EPost.turn h4 h3) (fun pre x W W3 l r r' h1 h2 h3 h4=>trivial)
  (EJ w w.heap.size k.ents) (fun _ _=>False) (ej_own _ _ _ (by omega)) (fun pre W W' row h _ _=>h) HI0.out
  (fun x Bx=>{ tmps:= #[.slice none 0 0,.func (.func 82) #[] #[.pointer (some ⟨Bb,0,none⟩)],.pointer (some ⟨w.heap.size,0,none⟩),undef,.slice none 0 0,.pointer (some ⟨Bx,0,none⟩),.func (.func 82) #[] #[.pointer (some ⟨Bb,0,none⟩)],.agg #[.int .i64 x.1,x.2.1],undef,undef,undef,undef,undef],defers:= [] }) (EMid w w.heap.size k.ents (WR.heap.size+2))
  (fun pre x W Bx W' l r r' h1 h2 h3 h4=>h4.turn (by omega) h1 h3)
  ?assign ?body ?done ?stop
 case assign=>
  rintro l pre x W K hi hp hK
  dsimp only[exv]
  obtain⟨x1,x2,x3⟩:=x
  obtain⟨W1,W2,W3,hW1,hW2,hW3,f0,f1,f2,y0,y1,y2,hbx,hb3⟩:=two_new W (.int .i64 0) (.slice none 0 0) (.int .i64 x1) x2 86
  have hpr:=hp.row
  obtain⟨c,hec,hrow⟩:=hpr
  have hlo:=hp.lon
  have hsi:=hp.size
  simp only at hec hrow hlo hsi
  have hm:EMid w w.heap.size k.ents (WR.heap.size+2) pre (x1,x2,x3) W W.heap.size W3:=⟨(by
   obtain⟨v,h1,h2,h3⟩:=hi.ex
   exact⟨⟨v,(hb3.block _ (heap_lt h1)).trans h1,own_below h2 hb3,h3⟩,fun i z hz=>by
    obtain⟨c',a,a2,b'⟩:=hi.row i z hz
    exact⟨c',a,a2,own_below b' hb3⟩,hi.low.trans (hb3.mono hi.low.size)⟩),⟨hlo,Nat.le_trans hsi hb3.size,hp.same,⟨c,hec,own_below hrow hb3⟩⟩,KpC.of_below hb3,hsi,hbx⟩
  have hK2:=hK _ _ (KeepsRec.of_below hb3) hm
  obtain⟨A2,c2,rfl,_⟩:=mx_slice hrow
  clear hm hK hp hi hrow hec hbx
  gi_wp2
  revert hK2
  generalize W.heap.size=Bx
  intro hK2
  exact hK2
 case body=>
  rintro l pre x W Bx W' hm
  obtain⟨v,hv,hr,hf⟩:=hm.ej.ex
  have q1:=hv.cell
  have q2:=hv.frozen
  have z0:=mx_cell (j:=0) hm.box
  have z1:=mx_cell (j:=1) hm.box
  obtain⟨c,hec,hrow⟩:=hm.pr.row
  have hr':=own_rebase (b':=x.2.2) hr (fun g hg=>by
   have h:=hf g hg
   obtain⟨y,hy⟩:=List.exists_mem_of_ne_nil _ h.1
   rw[←hm.pr.same y hy]
   exact h.2 y hy)
  obtain⟨A,cc,rfl,hc⟩:=mx_slice hr
  have hln:pre.length≤1000000:=by
   have h1:=(List.getElem?_eq_some_iff.1 hec).1
   have h2:=HLEN.out
   omega
  obtain⟨x1,x2,x3⟩:=x
  simp only at hec hrow hr' z0 z1
  obtain⟨A2,c2,rfl,_⟩:=mx_slice hrow
  have hx3:x3≤W'.heap.size:=hm.pr.size
  have hx0:w.heap.size≤x3:=by have:=hm.pr.lon;simp only at this;omega
  have hz:w.heap.size≤W'.heap.size:=hm.ej.low.size
  have HV:=Lib.hid hv
  have HR:=Lib.hid hr
  have HR':=Lib.hid hr'
  have HF:=Lib.hid hf
  have HM:=Lib.hid hm
  have HEC:=Lib.hid hec
  have HRW:=Lib.hid hrow
  clear hv hr hr' hf hm hec hrow
  gi_wp2_with (gi_at_builtin;refine wpListIn_append_own_at _ rfl _ _ 47 rfl x3 86 i0 (.agg #[.int .i64 0,.slice none 0 0]) 2 32 Tryz.underlying47 hi iz0 iz1 iz2 rfl (by decide) _ pre.length _ rfl (own_below HR'.out (mx_al W' _)) ⟨W'.heap.size,0,none⟩ 1 1 [.int .i64 x1,.slice A2 c.length c2] rfl rfl (fun j u hj=>cells_list_new W' [.int .i64 x1,.slice A2 c.length c2] 86 j u hj) (by simp[Value.oneCell']) (by unfold maxLen;omega) (by omega) (by simp;omega) ?_;intro v' w1 hown' hgrow hnl hat;obtain⟨g1,cap,rfl⟩:=ownsRow_succ hown';have hnew:=own_rebase (b':=w.heap.size) hown' (fun g hg=>by have:=(own_lt hown' g hg).1;omega);have hA:=Boxed.appended HV.out (by decide) HR.out hz (Nat.le_refl _) hnew hgrow;have q3:=hA.1.cell;have q4:=hA.1.frozen)
  obtain⟨a1,a2,a3,a4,a5⟩:=hA
  have hg1:=(own_lt hown' g1 rfl).1
  have hkA:Kept (fun g=>(Value.slice A pre.length cc).ownBlock=some g) W' w1:=(Kept.of_below (mx_al W' (.cells #[.int .i64 x1,.slice A2 c.length c2] 86))).trans (Kept.grown hgrow) (fun i _ h=>h.symm)
  have hkS:Kept (fun g=>g=w.heap.size) w1 (w1.setCell ⟨w.heap.size,0,none⟩ (.slice (some ⟨g1,0,none⟩) (pre.length+1) cap)):=(Kept.refl (fun g=>g=w.heap.size) w1).setCell ⟨w.heap.size,0,none⟩ _ rfl
  have hkeep: ∀{bs n':Nat} {vv:Value} {xs':List Value},W'.ownsRow bs 28 1 vv n' xs'→(w1.setCell ⟨w.heap.size,0,none⟩ (.slice (some ⟨g1,0,none⟩) (pre.length+1) cap)).ownsRow bs 28 1 vv n' xs':=fun {bs n' vv xs'} h=>by
   have h1:=own_kept h hkA (fun g ha hb=>mx_apart h HR.out (by decide) ha hb)
   exact own_kept h1 hkS (fun g ha e=>mx_not h1 a1 (by decide) (by rw[←e];exact ha))
  have A6:EPost (fun g=>g=w.heap.size) (x1,.slice A2 c.length c2,x3) W' (w1.setCell ⟨w.heap.size,0,none⟩ (.slice (some ⟨g1,0,none⟩) (pre.length+1) cap)):=
   ((KpC.of_below (mx_al W' _)).trans ((KpC.of_grown hgrow).mono (fun g _ h=>.inl (by
    have hq:=HF.out g h.symm
    obtain⟨y,hy⟩:=List.exists_mem_of_ne_nil _ hq.1
    rw[←HM.out.pr.same y hy]
    exact hq.2 y hy)))).trans ((KpC.of_grown (grownBy_setCell' w1 w.heap.size _)).mono (fun g _ h=>.inr (by cases h;rfl)))
  have HFIN:=Lib.hid (show KeepsRec W' (w1.setCell ⟨w.heap.size,0,none⟩ (.slice (some ⟨g1,0,none⟩) (pre.length+1) cap))∧EJ w w.heap.size k.ents (pre++ [(x1,.slice A2 c.length c2,x3)]) (w1.setCell ⟨w.heap.size,0,none⟩ (.slice (some ⟨g1,0,none⟩) (pre.length+1) cap))∧EPost (fun g=>g=w.heap.size) (x1,.slice A2 c.length c2,x3) W (w1.setCell ⟨w.heap.size,0,none⟩ (.slice (some ⟨g1,0,none⟩) (pre.length+1) cap))from
   ⟨keepsRec_others a4,⟨⟨_,a2,(by rw[List.length_append,List.flatMap_append];exact a3),fun g hg=>⟨by simp,fun y hy=>by
    have e:g1=g:=by simpa [Value.ownBlock] using hg
    rcases List.mem_append.1 hy with h|h
    ·rw[HM.out.pr.same y h]
     show x3≤g
     omega
    ·rw[List.mem_singleton.1 h]
     show x3≤g
     omega⟩⟩,fun i z hzz=>by
    rcases Nat.lt_or_ge i pre.length with hi2|hi2
    ·rw[List.getElem?_append_left hi2]at hzz
     obtain⟨c',a,a2',b'⟩:=HM.out.ej.row i z hzz
     exact⟨c',a,a2',hkeep b'⟩
    ·have hi3:=(List.getElem?_eq_some_iff.1 hzz).1
     rw[List.length_append,List.length_singleton]at hi3
     obtain rfl:i=pre.length:=by omega
     rw[List.getElem?_append_right (Nat.le_refl _),Nat.sub_self]at hzz
     obtain rfl:=Option.some.inj hzz
     exact⟨c,HEC.out,hx0,hkeep HRW.out⟩,HM.out.ej.low.trans a5⟩,KpC.trans HM.out.po A6⟩)
  clear a1 a2 a3 a4 a5 hown' hgrow hnl hat hnew hkA hkS A6 q1 q2 q3 q4 z0 z1
  try gi_wp2
  exact HFIN.out
 case done=>
  rintro D zs W hD hS hej hDf
  obtain⟨v,hv,hr,-⟩:=hej.ex
  have q1:=hv.cell
  have hlz:zs.length=k.ents.length:=by
   have:=congrArg List.length (show zs.map Prod.fst=k.ents.map Prod.fst from hS)
   rwa [List.length_map,List.length_map]at this
  have HE:=Lib.hid (show EntOwn w.heap.size W v k.ents from⟨zs,hlz,by rw[←hlz];exact hr,fun i x hx=>by
   obtain⟨c,a,b,d⟩:=hej.row i x hx
   exact⟨c,a,own_mono d b⟩⟩)
  have HB:=Lib.hid hej.low
  have HD:=Lib.hid hDf
  obtain⟨A,c,rfl,hc⟩:=mx_slice hr
  rw[hlz]at HE
  clear hv hr hej hDf hS
  gi_wp2
  refine⟨by simp,.inl ⟨_,_,rfl,run_takeDeferred HD.out,?_⟩⟩
  have hD0:w.heap.size≤D:=by omega
  refine⟨_,results_tmp rfl _ _ _,_,rfl,?_,HB.out.trans ?_⟩
  ·exact HE.out.grownNo (grownBy_putObj' W D (.deferred none)) (fun g e=>by
    cases e
    exact⟨_,HD.out,rfl⟩)
  ·exact(Below.refl _ _).grown (grownBy_putObj' W D _) HB.out.size (fun g e=>by cases e;exact hD0)
 case stop=>
  rintro D pre W hD _ hf _
  exact hf.elim
end Go.Proofs.YtajbmjpodeilpaaGreatDoor
namespace Go.Proofs.YtajbmjpodeilpaaGreatDoor
open Go.RowKit Go.Maps
theorem all_run (b:Nat) (w:World):Calls Tryz.prog 43 #[.pointer (some ⟨b,0,none⟩)] w fun e w'=>e= .returned (.func (.func 82) #[] #[.pointer (some ⟨w.heap.size,0,none⟩)])∧w.alloc (.cells #[.pointer (some ⟨b,0,none⟩)] 39)=w':=by
 go_enter Tryz.func43,Tryz.ntmps43
 go_wp2
 go_ret
 exact⟨rfl,rfl⟩
set_option maxRecDepth 100000 in
set_option maxHeartbeats 2000000 in
theorem ck_entries_own {base N:Nat} (b:Nat) (k:Ckr) (w:World) (h:CkAt base w b k) (hk:k.Ok N) (hN:N≤1000000):
  Calls Tryz.prog 16 #[.pointer (some ⟨b,0,none⟩)] w fun e w'=> ∃v,e= .returned v∧EntOwn w.heap.size w' v k.ents∧Below w.heap.size w w':=by
 obtain⟨mb,K,hm⟩:=h
 obtain⟨W,hW⟩: ∃W,w.alloc (.cells #[.pointer (some ⟨b,0,none⟩)] 39)=W:=⟨_,rfl⟩
 have hb:Below w.heap.size w W:=by rw[←hW];exact mx_al _ _
 have hB:W.cell? ⟨w.heap.size,0,none⟩=some (.pointer (some ⟨b,0,none⟩)):=by rw[←hW];exact mx_cell (j:=0) (World.alloc_heap_new _ _)
 have hmem: ∀p∈K,(p.1,p.2.2)∈k.ents:=fun p hp=>by
  rw[hm.ents]
  unfold mapV
  exact List.mem_map.2 ⟨p,hp,rfl⟩
 have HAP:=Lib.hid (append_all w.heap.size b mb k K W (hm.below hb) hB (by have:=hm.len;have:=hk.len;omega) (fun p hp=>by
  have h1:=clause_len (hk.cls _ (hmem p hp))
  have h2:p.2.2.length≤4096:=h1
  omega) (fun p hp=>by
  obtain⟨h1,h2,_⟩:=hk.ids _ (hmem p hp)
  simp only at h1 h2
  exact wf64 (by omega) (by omega)))
 have HAL:=all_run b w
 rw[hW]at HAL
 have HAL:=Lib.hid HAL
 have HB:=Lib.hid hb
 clear hm hk hb hB hmem hW
 go_enter Tryz.func16,Tryz.ntmps16
 go_wp2_with fail
 refine HAL.out.mono ?_
 rintro e w' ⟨rfl,rfl⟩
 have HCO:Calls Tryz.prog 42 #[.func (.func 82) #[] #[.pointer (some ⟨w.heap.size,0,none⟩)]] W fun e w'=> ∃v,e= .returned v∧EntOwn W.heap.size w' v k.ents∧Below W.heap.size W w':=by
  go_enter Tryz.func42,Tryz.ntmps42
  go_wp2_with fail
  refine HAP.out.mono ?_
  rintro e w2 ⟨v,rfl,he,hb2⟩
  have HE:=Lib.hid he
  have HB2:=Lib.hid hb2
  clear he hb2
  go_wp2_with fail
  go_ret
  exact⟨_,rfl,HE.out,HB2.out⟩
 have HCO:=Lib.hid HCO
 go_wp2_with fail
 refine HCO.out.mono ?_
 rintro e w2 ⟨v,rfl,he,hb2⟩
 have HE:=Lib.hid (he.mono HB.out.size)
 have HB2:=Lib.hid (HB.out.trans (hb2.mono HB.out.size))
 clear he hb2
 go_wp2_with fail
 go_ret
 exact⟨_,rfl,HE.out,HB2.out⟩
theorem ck_entries {base N:Nat} (b:Nat) (k:Ckr) (w:World) (h:CkAt base w b k) (hk:k.Ok N) (hN:N≤1000000):
  Calls Tryz.prog 16 #[.pointer (some ⟨b,0,none⟩)] w fun e w'=> ∃v,e= .returned v∧EntIn (fun _=>True) w' v k.ents∧Below w.heap.size w w':=
 (ck_entries_own b k w h hk hN).mono fun _ _ ⟨v,h1,h2,h3⟩=>⟨v,h1,h2.entIn.mono fun _ _=>trivial,h3⟩
theorem Ckr.Ok.entOk {k:Ckr} {N:Nat} (h:k.Ok N) (hN:N≤1000000):EntOk k.ents:=⟨h.rise,fun p hp=>⟨(h.ids p hp).1,(h.ids p hp).2.1⟩,h.cls,by have:=h.len;omega⟩
end Go.Proofs.YtajbmjpodeilpaaGreatDoor

namespace Go.Proofs.YtajbmjpodeilpaaGreatDoor
open Go.RowKit Go.Maps
theorem splitGo_grp: ∀(hs out:List Int) (gs:List (Int×List Int)) (M:Nat),(∀g∈gs,g.2.length≤M)→(splitGo out gs hs).2.length≤gs.length+hs.length∧∀g∈(splitGo out gs hs).2,g.2.length≤M+hs.length
 | [],out,gs,M,h=>⟨Nat.le_refl _,h⟩
 | x::r,out,gs,M,h=>by
  unfold splitGo
  rw[List.length_cons]
  split
  ·obtain⟨h1,h2⟩:=splitGo_grp r out (gs++ [(-x,[])]) M (fun g hg=>by
    rcases List.mem_append.1 hg with hg|hg
    ·exact h g hg
    ·rw[List.mem_singleton.1 hg]
     exact Nat.zero_le _)
   rw[List.length_append,List.length_singleton]at h1
   exact⟨by omega,fun g hg=>by have:=h2 g hg;omega⟩
  ·split
   ·rename_i g hg
    obtain⟨ys,hys⟩:=List.getLast?_eq_some_iff.1 hg
    obtain⟨h1,h2⟩:=splitGo_grp r out (gs.dropLast++ [(g.1,g.2++ [x])]) (M+1) (fun z hz=>by
     rcases List.mem_append.1 hz with hz|hz
     ·have:=h z (List.dropLast_subset _ hz)
      omega
     ·rw[List.mem_singleton.1 hz]
      have:=h g (by rw[hys];simp)
      show(g.2++ [x]).length≤_
      rw[List.length_append,List.length_singleton]
      omega)
    have hl:(gs.dropLast++ [(g.1,g.2++ [x])]).length=gs.length:=by
     rw[hys,List.dropLast_concat,List.length_append,List.length_append]
     rfl
    rw[hl]at h1
    exact⟨by omega,fun z hz=>by have:=h2 z hz;omega⟩
   ·obtain⟨h1,h2⟩:=splitGo_grp r (out++ [x]) gs M h
    exact⟨by omega,fun z hz=>by have:=h2 z hz;omega⟩
set_option maxRecDepth 100000 in
set_option maxHeartbeats 4000000 in
theorem ck_add {base N:Nat} {O Oc:Nat→Prop} (b:Nat) (k:Ckr) (lv hv:Value) (dl:Bool) (id:Int) (c hs:List Int) (w:World) (h:CkAt base w b k) (hk:k.Ok N) (hN:N≤1000000) (hc:IntsIn Oc w lv c) (hcb:clauseB c=true) (hh:IntsIn O w hv hs) (hok: ∀x∈hs,x≠0∧ -1073741824≤x∧x≤1073741824) (hl:hs.length≤65536):
  Calls Tryz.prog 40 #[.pointer (some ⟨b,0,none⟩),.agg #[.bool dl,.int .i64 id,lv,hv]] w fun e w'=>e= .returned (.tuple #[.int .u8 ((ckAdd k.ents c hs).1:Nat),.int .i64 (ckAdd k.ents c hs).2.1,.int .i64 ((ckAdd k.ents c hs).2.2:Nat)])∧Below w.heap.size w w':=by
 by_cases hd:(ckFol k.ents c (splitL hs).1).2.2≠0∨(ckFol k.ents c (splitL hs).1).1=true
 ·exact ck_add_dec b k lv hv dl id c hs w h hk.cls hc hcb hh hok hl hd
 obtain⟨W,hW⟩: ∃W,w.alloc (.cells #[.bool dl,.int .i64 id,lv,hv] 34)=W:=⟨_,rfl⟩
 have hbW:Below w.heap.size w W:=by rw[←hW];exact mx_al _ _
 have hn:W.heap[w.heap.size]? =some (.cells #[.bool dl,.int .i64 id,lv,hv] 34 (0,0)):=by rw[←hW];exact World.alloc_heap_new _ _
 have b3:W.cell? ⟨w.heap.size,3,none⟩=some hv:=mx_cell (j:=3) hn
 have hlt:=heap_lt hn
 have B2:=Lib.hid (show W.cell? ⟨w.heap.size,2,none⟩=some lv from mx_cell (j:=2) hn)
 have HSP:=Lib.hid (rat_split hv hs W (hh.below hbW) hok (by omega))
 obtain⟨F,hF⟩: ∃F,ckFol k.ents c (splitL hs).1=F:=⟨_,rfl⟩
 have hA:ckAdd k.ents c hs=if F.2.2≠0 then(0,F.2)else if F.1=true then(1,0,0)else ratP k.ents c (splitL hs).1 (splitL hs).2:=by
  unfold ckAdd
  rw[hF]
 rw[hF]at hd
 obtain⟨R,hR⟩: ∃R,ckAdd k.ents c hs=R:=⟨_,rfl⟩
 rw[hR]at hA⊢
 have HFO:=Lib.hid (fun(X:World) (u:Value) (hx:Below W.heap.size W X) (hu:IntsIn (fun _=>True) X u (splitL hs).1)=>ck_follows b k lv u c (splitL hs).1 X ((h.below hbW).below hx) hk.cls ((hc.below hbW).below hx) hcb hu (fun x hx=>by
  obtain⟨_,h1,h2⟩:=hok x (splitL_mem hx)
  exact wf64 (by omega) (by omega)) (Nat.le_trans (splitL_len hs) hl))
 rw[hF]at HFO
 have HB:=Lib.hid hbW
 have HCK:=Lib.hid (fun(X:World) (hx:Below W.heap.size W X)=>(h.below hbW).below hx)
 have HCC:=Lib.hid (fun(X:World) (hx:Below W.heap.size W X)=>(hc.below hbW).below hx)
 have HK:=Lib.hid hk
 have HCB:=Lib.hid hcb
 have hgr:=splitGo_grp hs [] [] 0 (fun g hg=>by cases hg)
 rw[List.length_nil]at hgr
 have HGR:=Lib.hid (show(splitL hs).2.length≤70000∧∀g∈(splitL hs).2,g.2.length≤70000 from⟨by have:(splitL hs).2.length≤0+hs.length:=hgr.1;omega,fun g hg=>by have:=hgr.2 g hg;omega⟩)
 have hsl:=splitL_len hs
 obtain⟨S1,hS1⟩: ∃S1,(splitL hs).1=S1:=⟨_,rfl⟩
 obtain⟨S2,hS2⟩: ∃S2,(splitL hs).2=S2:=⟨_,rfl⟩
 rw[hS1,hS2]at HSP hA
 rw[hS1]at HFO hsl
 rw[hS2]at HGR
 obtain⟨fb,fi,fe⟩:=F
 obtain rfl:fe=0:=Classical.byContradiction fun h0=>hd (.inl h0)
 obtain rfl:fb=false:=by
  cases fb with
  | false=>rfl
  | true=>exact absurd (.inr rfl) hd
 have HR:=Lib.hid (show R=ratP k.ents c S1 S2 from hA.trans ((if_neg (fun h=>h rfl)).trans (if_neg (fun h=>by cases h))))
 obtain⟨Al,cl,rfl,_⟩:=hc
 obtain⟨Ah,ch,rfl,_⟩:=hh
 clear hbW hn hA hF hR hS1 hS2 h hok hd hk hcb hgr
 go_enter Tryz.func40,Tryz.ntmps40
 go_wp2_with fail
 refine HSP.out.mono ?_
 rintro e w1 ⟨u,v,K,rfl,hu,hg,hK,hb1⟩
 obtain⟨Au,cu,rfl,_⟩:=mx_slice hu
 have hge:=hg.ents
 rw[hK]at hge
 have HGE:=Lib.hid hge
 obtain⟨Ag,cg,rfl,_⟩:=hge
 have HU:=Lib.hid ((IntsIn.of_own hu).mono (O':=fun _=>True) fun _ _=>trivial)
 have HB1:=Lib.hid hb1
 have b2:=(HB1.out.cell (p:=⟨w.heap.size,2,none⟩) hlt).trans B2.out
 clear hu hb1 b3 HSP hg hK
 go_wp2_with fail
 refine(HFO.out w1 _ HB1.out HU.out).mono ?_
 rintro e w2 ⟨rfl,hb2⟩
 have HB2:=Lib.hid (HB1.out.trans (hb2.mono HB1.out.size))
 have HU2:=Lib.hid (HU.out.below hb2)
 have HG2:=Lib.hid (HGE.out.below hb2)
 clear hb2 b2 HFO
 go_upto_region 7 with fail
 have d2:=(HB2.out.cell (p:=⟨w.heap.size,2,none⟩) hlt).trans B2.out
 have hlt2:w.heap.size<w2.heap.size:=Nat.lt_of_lt_of_le hlt HB2.out.size
 refine wp_region_held_drew (S:=fun w'=>Below w2.heap.size w2 w') (by kernel_rfl) (mx_drew w2) (fun hS=>?_)
 obtain⟨xD,hxD⟩: ∃z,w2.drew=z:=⟨_,rfl⟩
 rw[hxD]at hS⊢
 clear hxD
 refine takeE 0 36 ?_
 refine takeE 2 38 ?_
 refine takeF 3 39 (fun wq hSw=>(hSw.cell (p:=⟨w.heap.size,2,none⟩) hlt2).trans d2) ?_
 refine takeE 4 40 ?_
 refine takeE 5 41 ?_
 refine takeE 6 42 ?_
 refine ready1 1 (fun K hK=>?_)
 go_simp
 refine(ck_entries b k xD ((HCK.out w2 HB2.out).below hS) HK.out hN).mono ?_
 rintro e w3 ⟨ev,rfl,he,hb3⟩
 have hS3:=hS.trans (hb3.mono hS.size)
 have HE:=Lib.hid he
 obtain⟨Ae,ce,rfl,_⟩:=he
 refine hK.out _ _ hS3 (fun _=>?_)
 clear hK
 refine ready1 7 (fun K hK=>?_)
 go_simp
 have hrc:=rat_check _ _ _ _ k.ents c S1 S2 w3 HE.out (HK.out.entOk hN) ((HCC.out w2 HB2.out).below hS3) HCB.out (HU2.out.below hS3) (HG2.out.below hS3) (by omega) HGR.out.1 HGR.out.2
 rw[←HR.out]at hrc
 refine hrc.mono ?_
 rintro e w4 ⟨rfl,hb4⟩
 have hS4:=hS3.trans (hb4.mono hS3.size)
 refine hK.out _ _ hS4 (fun _=>?_)
 have HB4:=Lib.hid (HB.out.trans ((HB2.out.trans (hS4.mono HB2.out.size)).mono HB.out.size))
 clear hK hrc hb3 hb4 hS3 d2 hlt2
 refine takeE 8 44 ?_
 refine takeE 9 45 ?_
 refine takeE 10 46 ?_
 refine takeE 11 4 ?_
 refine takeE 12 5 ?_
 refine takeE 13 6 ?_
 refine wpAnyH_done (by kernel_rfl) ?_ _
 go_wp2_with fail
 refine bodyPost_ret (v:=.tuple #[.int .u8 (R.1:Nat),.int .i64 R.2.1,.int .i64 (R.2.2:Nat)]) (by simp[results,Tryz.results40,go_sem]) rfl ?_
 exact⟨rfl,HB4.out⟩
theorem ck_do_all {XX:Nat→Prop} {base N:Nat} {O Oc:Nat→Prop} (b:Nat) (k:Ckr) (s:EStep) (lv hv:Value) (w:World) (h:CkAtX XX base w b k) (hbase:base≤w.heap.size) (hk:k.Ok N) (hN:N≤1000000) (hc:IntsIn Oc w lv s.lits) (hh:IntsIn O w hv s.hints) (hll:s.lits.length≤100000000000) (hhl:s.hints.length≤100000000000) (hXX: ∀g,XX g→g<w.heap.size:=by exact fun _ h=>h.elim):
  Calls Tryz.prog 12 #[.pointer (some ⟨b,0,none⟩),.agg #[.bool s.del,.int .i64 s.id,lv,hv]] w fun e w'=>e= .returned (.tuple #[.int .u8 ((k.do_ s).2.1:Nat),.int .i64 (k.do_ s).2.2.1,.int .i64 ((k.do_ s).2.2.2:Nat)])∧CkAtX XX base w' b (k.do_ s).1∧Below base w w'∧CkF b w w':=
 ck_do b k s lv hv N w h hbase hk hN hc hh hll hhl (hXX:=hXX) fun hsb _ W hW=>by
  have ho:=stepO hsb
  exact ck_add b k lv hv s.del s.id s.lits s.hints W (h.below hW).at_ hk hN (hc.below hW) ho.cls (hh.below hW) ho.hok ho.len
end Go.Proofs.YtajbmjpodeilpaaGreatDoor
