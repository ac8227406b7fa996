/- package proof: Entries. Steps in memory. package proof: add, whole; Do. -/
import Derived.Test.YtajbmjpodeilpaaGreatV119
import Derived.Test.YtajbmjpodeilpaaGreatV101
import Derived.Test.YtajbmjpodeilpaaGreatV118
namespace Go.Proofs.YtajbmjpodeilpaaGreat
open Go.RowKit Go.Maps
theorem all_run (b:Nat) (w:World):Calls Tryz.prog 68 #[.pointer (some ⟨b,0,none⟩)] w fun e w'=>e= .returned (.func (.func 98) #[] #[.pointer (some ⟨w.heap.size,0,none⟩)])∧w.alloc (.cells #[.pointer (some ⟨b,0,none⟩)] 60)=w':=by
 go_enter Tryz.func68,Tryz.ntmps68
 go_wp2
 go_ret
 exact⟨rfl,rfl⟩
set_option maxRecDepth 100000 in
set_option maxHeartbeats 2000000 in
theorem ck_entries_own {base N:Nat} (b:Nat) (k:Ckr) (w:World) (h:CkAt base w b k) (hk:k.Ok N) (hN:N≤1000000):
  Calls Tryz.prog 31 #[.pointer (some ⟨b,0,none⟩)] w fun e w'=> ∃v,e= .returned v∧EntOwn w.heap.size w' v k.ents∧Below w.heap.size w w':=by
 obtain⟨mb,K,hm⟩:=h
 obtain⟨W,hW⟩: ∃W,w.alloc (.cells #[.pointer (some ⟨b,0,none⟩)] 60)=W:=⟨_,rfl⟩
 have hb:Below w.heap.size w W:=by rw[←hW];exact mx_al _ _
 have hB:W.cell? ⟨w.heap.size,0,none⟩=some (.pointer (some ⟨b,0,none⟩)):=by rw[←hW];exact mx_cell (j:=0) (World.alloc_heap_new _ _)
 have hmem: ∀p∈K,(p.1,p.2.2)∈k.ents:=fun p hp=>by
  rw[hm.ents]
  unfold mapV
  exact List.mem_map.2 ⟨p,hp,rfl⟩
 have HAP:=Lib.hid (append_all w.heap.size b mb k K W (hm.below hb) hB (by have:=hm.len;have:=hk.len;omega) (fun p hp=>by
  have h1:=clause_len (hk.cls _ (hmem p hp))
  have h2:p.2.2.length≤4096:=h1
  omega) (fun p hp=>by
  obtain⟨h1,h2,_⟩:=hk.ids _ (hmem p hp)
  simp only at h1 h2
  exact wf64 (by omega) (by omega)))
 have HAL:=all_run b w
 rw[hW]at HAL
 have HAL:=Lib.hid HAL
 have HB:=Lib.hid hb
 clear hm hk hb hB hmem hW
 go_enter Tryz.func31,Tryz.ntmps31
 go_wp2_with fail
 refine HAL.out.mono ?_
 rintro e w' ⟨rfl,rfl⟩
 have HCO:Calls Tryz.prog 67 #[.func (.func 98) #[] #[.pointer (some ⟨w.heap.size,0,none⟩)]] W fun e w'=> ∃v,e= .returned v∧EntOwn W.heap.size w' v k.ents∧Below W.heap.size W w':=by
  go_enter Tryz.func67,Tryz.ntmps67
  go_wp2_with fail
  refine HAP.out.mono ?_
  rintro e w2 ⟨v,rfl,he,hb2⟩
  have HE:=Lib.hid he
  have HB2:=Lib.hid hb2
  clear he hb2
  go_wp2_with fail
  go_ret
  exact⟨_,rfl,HE.out,HB2.out⟩
 have HCO:=Lib.hid HCO
 go_wp2_with fail
 refine HCO.out.mono ?_
 rintro e w2 ⟨v,rfl,he,hb2⟩
 have HE:=Lib.hid (he.mono HB.out.size)
 have HB2:=Lib.hid (HB.out.trans (hb2.mono HB.out.size))
 clear he hb2
 go_wp2_with fail
 go_ret
 exact⟨_,rfl,HE.out,HB2.out⟩
theorem ck_entries {base N:Nat} (b:Nat) (k:Ckr) (w:World) (h:CkAt base w b k) (hk:k.Ok N) (hN:N≤1000000):
  Calls Tryz.prog 31 #[.pointer (some ⟨b,0,none⟩)] w fun e w'=> ∃v,e= .returned v∧EntIn (fun _=>True) w' v k.ents∧Below w.heap.size w w':=
 (ck_entries_own b k w h hk hN).mono fun _ _ ⟨v,h1,h2,h3⟩=>⟨v,h1,h2.entIn.mono fun _ _=>trivial,h3⟩
theorem Ckr.Ok.entOk {k:Ckr} {N:Nat} (h:k.Ok N) (hN:N≤1000000):EntOk k.ents:=⟨h.rise,fun p hp=>⟨(h.ids p hp).1,(h.ids p hp).2.1⟩,h.cls,by have:=h.len;omega⟩
end Go.Proofs.YtajbmjpodeilpaaGreat

namespace Go.Proofs.YtajbmjpodeilpaaGreat
open Go.RowKit Go.Maps
theorem splitGo_grp: ∀(hs out:List Int) (gs:List (Int×List Int)) (M:Nat),(∀g∈gs,g.2.length≤M)→(splitGo out gs hs).2.length≤gs.length+hs.length∧∀g∈(splitGo out gs hs).2,g.2.length≤M+hs.length
 | [],out,gs,M,h=>⟨Nat.le_refl _,h⟩
 | x::r,out,gs,M,h=>by
  unfold splitGo
  rw[List.length_cons]
  split
  ·obtain⟨h1,h2⟩:=splitGo_grp r out (gs++ [(-x,[])]) M (fun g hg=>by
    rcases List.mem_append.1 hg with hg|hg
    ·exact h g hg
    ·rw[List.mem_singleton.1 hg]
     exact Nat.zero_le _)
   rw[List.length_append,List.length_singleton]at h1
   exact⟨by omega,fun g hg=>by have:=h2 g hg;omega⟩
  ·split
   ·rename_i g hg
    obtain⟨ys,hys⟩:=List.getLast?_eq_some_iff.1 hg
    obtain⟨h1,h2⟩:=splitGo_grp r out (gs.dropLast++ [(g.1,g.2++ [x])]) (M+1) (fun z hz=>by
     rcases List.mem_append.1 hz with hz|hz
     ·have:=h z (List.dropLast_subset _ hz)
      omega
     ·rw[List.mem_singleton.1 hz]
      have:=h g (by rw[hys];simp)
      show(g.2++ [x]).length≤_
      rw[List.length_append,List.length_singleton]
      omega)
    have hl:(gs.dropLast++ [(g.1,g.2++ [x])]).length=gs.length:=by
     rw[hys,List.dropLast_concat,List.length_append,List.length_append]
     rfl
    rw[hl]at h1
    exact⟨by omega,fun z hz=>by have:=h2 z hz;omega⟩
   ·obtain⟨h1,h2⟩:=splitGo_grp r (out++ [x]) gs M h
    exact⟨by omega,fun z hz=>by have:=h2 z hz;omega⟩
set_option maxRecDepth 100000 in
set_option maxHeartbeats 4000000 in
theorem ck_add {base N:Nat} {O Oc:Nat→Prop} (b:Nat) (k:Ckr) (lv hv:Value) (dl:Bool) (id:Int) (c hs:List Int) (w:World) (h:CkAt base w b k) (hk:k.Ok N) (hN:N≤1000000) (hc:IntsIn Oc w lv c) (hcb:clauseB c=true) (hh:IntsIn O w hv hs) (hok: ∀x∈hs,x≠0∧ -1073741824≤x∧x≤1073741824) (hl:hs.length≤65536):
  Calls Tryz.prog 63 #[.pointer (some ⟨b,0,none⟩),.agg #[.bool dl,.int .i64 id,lv,hv]] w fun e w'=>e= .returned (.tuple #[.int .u8 ((ckAdd k.ents c hs).1:Nat),.int .i64 (ckAdd k.ents c hs).2.1,.int .i64 ((ckAdd k.ents c hs).2.2:Nat)])∧Below w.heap.size w w':=by
 by_cases hd:(ckFol k.ents c (splitL hs).1).2.2≠0∨(ckFol k.ents c (splitL hs).1).1=true
 ·exact ck_add_dec b k lv hv dl id c hs w h hk.cls hc hcb hh hok hl hd
 obtain⟨W,hW⟩: ∃W,w.alloc (.cells #[.bool dl,.int .i64 id,lv,hv] 34)=W:=⟨_,rfl⟩
 have hbW:Below w.heap.size w W:=by rw[←hW];exact mx_al _ _
 have hn:W.heap[w.heap.size]? =some (.cells #[.bool dl,.int .i64 id,lv,hv] 34 (0,0)):=by rw[←hW];exact World.alloc_heap_new _ _
 have b3:W.cell? ⟨w.heap.size,3,none⟩=some hv:=mx_cell (j:=3) hn
 have hlt:=heap_lt hn
 have B2:=Lib.hid (show W.cell? ⟨w.heap.size,2,none⟩=some lv from mx_cell (j:=2) hn)
 have HSP:=Lib.hid (rat_split hv hs W (hh.below hbW) hok (by omega))
 obtain⟨F,hF⟩: ∃F,ckFol k.ents c (splitL hs).1=F:=⟨_,rfl⟩
 have hA:ckAdd k.ents c hs=if F.2.2≠0 then(0,F.2)else if F.1=true then(1,0,0)else ratP k.ents c (splitL hs).1 (splitL hs).2:=by
  unfold ckAdd
  rw[hF]
 rw[hF]at hd
 obtain⟨R,hR⟩: ∃R,ckAdd k.ents c hs=R:=⟨_,rfl⟩
 rw[hR]at hA⊢
 have HFO:=Lib.hid (fun(X:World) (u:Value) (hx:Below W.heap.size W X) (hu:IntsIn (fun _=>True) X u (splitL hs).1)=>ck_follows b k lv u c (splitL hs).1 X ((h.below hbW).below hx) hk.cls ((hc.below hbW).below hx) hcb hu (fun x hx=>by
  obtain⟨_,h1,h2⟩:=hok x (splitL_mem hx)
  exact wf64 (by omega) (by omega)) (Nat.le_trans (splitL_len hs) hl))
 rw[hF]at HFO
 have HB:=Lib.hid hbW
 have HCK:=Lib.hid (fun(X:World) (hx:Below W.heap.size W X)=>(h.below hbW).below hx)
 have HCC:=Lib.hid (fun(X:World) (hx:Below W.heap.size W X)=>(hc.below hbW).below hx)
 have HK:=Lib.hid hk
 have HCB:=Lib.hid hcb
 have hgr:=splitGo_grp hs [] [] 0 (fun g hg=>by cases hg)
 rw[List.length_nil]at hgr
 have HGR:=Lib.hid (show(splitL hs).2.length≤70000∧∀g∈(splitL hs).2,g.2.length≤70000 from⟨by have:(splitL hs).2.length≤0+hs.length:=hgr.1;omega,fun g hg=>by have:=hgr.2 g hg;omega⟩)
 have hsl:=splitL_len hs
 obtain⟨S1,hS1⟩: ∃S1,(splitL hs).1=S1:=⟨_,rfl⟩
 obtain⟨S2,hS2⟩: ∃S2,(splitL hs).2=S2:=⟨_,rfl⟩
 rw[hS1,hS2]at HSP hA
 rw[hS1]at HFO hsl
 rw[hS2]at HGR
 obtain⟨fb,fi,fe⟩:=F
 obtain rfl:fe=0:=Classical.byContradiction fun h0=>hd (.inl h0)
 obtain rfl:fb=false:=by
  cases fb with
  | false=>rfl
  | true=>exact absurd (.inr rfl) hd
 have HR:=Lib.hid (show R=ratP k.ents c S1 S2 from hA.trans ((if_neg (fun h=>h rfl)).trans (if_neg (fun h=>by cases h))))
 obtain⟨Al,cl,rfl,_⟩:=hc
 obtain⟨Ah,ch,rfl,_⟩:=hh
 clear hbW hn hA hF hR hS1 hS2 h hok hd hk hcb hgr
 go_enter Tryz.func63,Tryz.ntmps63
 go_wp2_with fail
 refine HSP.out.mono ?_
 rintro e w1 ⟨u,v,K,rfl,hu,hg,hK,hb1⟩
 obtain⟨Au,cu,rfl,_⟩:=mx_slice hu
 have hge:=hg.ents
 rw[hK]at hge
 have HGE:=Lib.hid hge
 obtain⟨Ag,cg,rfl,_⟩:=hge
 have HU:=Lib.hid ((IntsIn.of_own hu).mono (O':=fun _=>True) fun _ _=>trivial)
 have HB1:=Lib.hid hb1
 have b2:=(HB1.out.cell (p:=⟨w.heap.size,2,none⟩) hlt).trans B2.out
 clear hu hb1 b3 HSP hg hK
 go_wp2_with fail
 refine(HFO.out w1 _ HB1.out HU.out).mono ?_
 rintro e w2 ⟨rfl,hb2⟩
 have HB2:=Lib.hid (HB1.out.trans (hb2.mono HB1.out.size))
 have HU2:=Lib.hid (HU.out.below hb2)
 have HG2:=Lib.hid (HGE.out.below hb2)
 clear hb2 b2 HFO
 go_upto_region 7 with fail
 have d2:=(HB2.out.cell (p:=⟨w.heap.size,2,none⟩) hlt).trans B2.out
 have hlt2:w.heap.size<w2.heap.size:=Nat.lt_of_lt_of_le hlt HB2.out.size
 refine wp_region_held_drew (S:=fun w'=>Below w2.heap.size w2 w') (by kernel_rfl) (mx_drew w2) (fun hS=>?_)
 obtain⟨xD,hxD⟩: ∃z,w2.drew=z:=⟨_,rfl⟩
 rw[hxD]at hS⊢
 clear hxD
 refine takeE 0 36 ?_
 refine takeE 2 38 ?_
 refine takeF 3 39 (fun wq hSw=>(hSw.cell (p:=⟨w.heap.size,2,none⟩) hlt2).trans d2) ?_
 refine takeE 4 40 ?_
 refine takeE 5 41 ?_
 refine takeE 6 42 ?_
 refine ready1 1 (fun K hK=>?_)
 go_simp
 refine(ck_entries b k xD ((HCK.out w2 HB2.out).below hS) HK.out hN).mono ?_
 rintro e w3 ⟨ev,rfl,he,hb3⟩
 have hS3:=hS.trans (hb3.mono hS.size)
 have HE:=Lib.hid he
 obtain⟨Ae,ce,rfl,_⟩:=he
 refine hK.out _ _ hS3 (fun _=>?_)
 clear hK
 refine ready1 7 (fun K hK=>?_)
 go_simp
 have hrc:=rat_check _ _ _ _ k.ents c S1 S2 w3 HE.out (HK.out.entOk hN) ((HCC.out w2 HB2.out).below hS3) HCB.out (HU2.out.below hS3) (HG2.out.below hS3) (by omega) HGR.out.1 HGR.out.2
 rw[←HR.out]at hrc
 refine hrc.mono ?_
 rintro e w4 ⟨rfl,hb4⟩
 have hS4:=hS3.trans (hb4.mono hS3.size)
 refine hK.out _ _ hS4 (fun _=>?_)
 have HB4:=Lib.hid (HB.out.trans ((HB2.out.trans (hS4.mono HB2.out.size)).mono HB.out.size))
 clear hK hrc hb3 hb4 hS3 d2 hlt2
 refine takeE 8 44 ?_
 refine takeE 9 45 ?_
 refine takeE 10 46 ?_
 refine takeE 11 4 ?_
 refine takeE 12 5 ?_
 refine takeE 13 6 ?_
 refine wpAnyH_done (by kernel_rfl) ?_ _
 go_wp2_with fail
 refine bodyPost_ret (v:=.tuple #[.int .u8 (R.1:Nat),.int .i64 R.2.1,.int .i64 (R.2.2:Nat)]) (by simp[results,Tryz.results63,go_sem]) rfl ?_
 exact⟨rfl,HB4.out⟩
theorem ck_do_all {XX:Nat→Prop} {base N:Nat} {O Oc:Nat→Prop} (b:Nat) (k:Ckr) (s:EStep) (lv hv:Value) (w:World) (h:CkAtX XX base w b k) (hbase:base≤w.heap.size) (hk:k.Ok N) (hN:N≤1000000) (hc:IntsIn Oc w lv s.lits) (hh:IntsIn O w hv s.hints) (hll:s.lits.length≤100000000000) (hhl:s.hints.length≤100000000000) (hXX: ∀g,XX g→g<w.heap.size:=by exact fun _ h=>h.elim):
  Calls Tryz.prog 29 #[.pointer (some ⟨b,0,none⟩),.agg #[.bool s.del,.int .i64 s.id,lv,hv]] w fun e w'=>e= .returned (.tuple #[.int .u8 ((k.do_ s).2.1:Nat),.int .i64 (k.do_ s).2.2.1,.int .i64 ((k.do_ s).2.2.2:Nat)])∧CkAtX XX base w' b (k.do_ s).1∧Below base w w'∧CkF b w w':=
 ck_do b k s lv hv N w h hbase hk hN hc hh hll hhl (hXX:=hXX) fun hsb _ W hW=>by
  have ho:=stepO hsb
  exact ck_add b k lv hv s.del s.id s.lits s.hints W (h.below hW).at_ hk hN (hc.below hW) ho.cls (hh.below hW) ho.hok ho.len
end Go.Proofs.YtajbmjpodeilpaaGreat
