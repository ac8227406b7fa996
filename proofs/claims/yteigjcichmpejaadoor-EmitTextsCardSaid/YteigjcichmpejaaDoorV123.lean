/- Forget (package emit): at a step that forgets. -/
import Derived.Test.YteigjcichmpejaaDoorV122
namespace Go.Proofs.YteigjcichmpejaaDoor
open Go.RowKit Go.Shelf Go.Maps
attribute [local go_sem] Oper.semAt_some
theorem LogMem.join {O:Nat→Prop} {w w5:World} {b mb:Nat} {L L':ELog} {sv:Value} {msp:List MStep} {m m':MStep} (h:LogMem O w b L mb sv (msp++ [m]))
  (hk:Kept (fun g=>g=b∨g=mb∨sv.ownBlock=some g∨m.hv.ownBlock=some g) w w5)
  (hblk:w5.heap[b]? =some (.cells #[.int .i64 L'.last,.int .i64 L'.count,.map (some mb),sv,.bool L'.done] 55 (0,0)))
  (hmap:MapAt w5 mb L'.gone.length (goneF L'.gone)) (hrow:w5.ownsRow 0 49 4 sv (msp.length+1) (msp.flatMap MStep.cells++m'.cells))
  (hlv:m'.lv=m.lv) (hsteps:L'.steps=msp.map MStep.s++ [m'.s]) (hsl:m'.s.lits=m.s.lits)
  (hh:w5.ownsRow 0 3 1 m'.hv m'.s.hints.length (m'.s.hints.map (Value.int .i64))) (hhb:m'.hv.ownBlock=m.hv.ownBlock∨∃g,m'.hv.ownBlock=some g∧w.heap.size≤g):
  LogMem (fun g=>O g∨w.heap.size≤g∧g<w5.heap.size) w5 b L' mb sv (msp++ [m']):=by
 have hm:=h.each m (by simp)
 have hty: ∀{n:Nat} {e:TypeId} {v:Value} {xs:List Value},w.ownsRow 0 e 1 v n xs→(e=51∨e=3)→∀g,v.ownBlock=some g→¬(g=b∨g=mb∨sv.ownBlock=some g):=fun {n e v xs} ho he g hg hc=>by
  obtain⟨c',hc'⟩:=own_type ho g hg
  rcases hc with rfl|rfl|hc
  ·rw[h.block]at hc'
   simp only[Option.some.injEq,Obj.cells.injEq]at hc'
   rcases he with rfl|rfl
   ·exact absurd hc'.2.1 (by decide)
   ·exact absurd hc'.2.1 (by decide)
  ·obtain⟨D,⟨es,cl,hb,_⟩,_⟩:=h.map
   rw[hb]at hc'
   cases hc'
  ·obtain⟨c2,hc2⟩:=own_type h.row g hc
   rw[hc2]at hc'
   simp only[Option.some.injEq,Obj.cells.injEq]at hc'
   rcases he with rfl|rfl
   ·exact absurd hc'.2.1 (by decide)
   ·exact absurd hc'.2.1 (by decide)
 have hlit: ∀x∈msp++ [m],w5.ownsRow 0 51 1 x.lv x.s.lits.length (x.s.lits.map (Value.int .i64)):=fun x hx=>by
  refine own_kept (h.each x hx).lits hk (fun g hg hc=>?_)
  have h1:=hty (h.each x hx).lits (.inl rfl) g hg
  rcases hc with hc|hc|hc|hc
  ·exact h1 (.inl hc)
  ·exact h1 (.inr (.inl hc))
  ·exact h1 (.inr (.inr hc))
  ·obtain⟨c1,hc1⟩:=own_type (h.each x hx).lits g hg
   obtain⟨c2,hc2⟩:=own_type hm.hints g hc
   rw[hc1]at hc2
   simp only[Option.some.injEq,Obj.cells.injEq]at hc2
   exact absurd hc2.2.1 (by decide)
 have hap:=List.pairwise_append.1 h.apart
 refine⟨fun g hg=>hg.elim (fun h'=>Nat.lt_of_lt_of_le (h.own g h') hk.size) (fun h'=>h'.2),.inl h.inb,.inl h.inm,hblk,hmap,by rw[List.length_append,List.flatMap_append];simpa using hrow,fun g hg=>.inl (h.rowb g hg),by rw[List.map_append,hsteps];rfl,fun x hx=>?_,?_⟩
 ·rcases List.mem_append.1 hx with h1|h1
  ·have hxm:x∈msp++ [m]:=List.mem_append_left _ h1
   refine⟨hlit x hxm,fun g hg=>.inl ((h.each x hxm).litb g hg),own_kept (h.each x hxm).hints hk (fun g hg hc=>?_),fun g hg=>.inl ((h.each x hxm).block g hg)⟩
   have h2:=hty (h.each x hxm).hints (.inr rfl) g hg
   rcases hc with hc|hc|hc|hc
   ·exact h2 (.inl hc)
   ·exact h2 (.inr (.inl hc))
   ·exact h2 (.inr (.inr hc))
   ·exact hap.2.2 x h1 m (by simp) g hg hc
  ·obtain rfl:x=m':=by simpa using h1
   refine⟨by rw[hlv,hsl];exact hlit m (by simp),fun g hg=>.inl (hm.litb g (by rw[←hlv];exact hg)),hh,fun g hg=>?_⟩
   rcases hhb with e|⟨g',e,hle⟩
   ·exact .inl (hm.block g (by rw[←e];exact hg))
   ·rw[e]at hg
    obtain rfl:=Option.some.inj hg
    exact .inr ⟨hle,(own_lt hh _ e).2⟩
 ·refine List.pairwise_append.2 ⟨hap.1,List.pairwise_singleton _ _,fun x hx y hy g hg hg'=>?_⟩
  obtain rfl:y=m':=by simpa using hy
  rcases hhb with e|⟨g',e,hle⟩
  ·exact hap.2.2 x hx m (by simp) g hg (by rw[←e];exact hg')
  ·rw[e]at hg'
   obtain rfl:=Option.some.inj hg'
   have:=h.own _ ((h.each x (List.mem_append_left _ hx)).block _ hg)
   omega
set_option maxRecDepth 100000 in
set_option maxHeartbeats 4000000 in
theorem forget_join {O Oi:Nat→Prop} (b:Nat) (L:ELog) (iv:Value) (ids:List Int) (w:World) (hL:LogAt O w b L) (hi:IntsIn Oi w iv ids) (hlen:ids.length≤140737488355328) (hwf: ∀x∈ids,(Lit.int .i64 x).wf=true) (hd:L.done=false) (mp:List EStep) (s:EStep) (hs:L.steps=mp++ [s]) (hsd:s.del=true) (hbound:s.hints.length≤65536) (hmp:mp.length≤262144) (hb:badGo L [] ids= []) (he:0<ids.length) (ht:ids.length+s.hints.length≤65536) (hgl:L.gone.length≤1073741824) (hcn:L.count≤1073741824) (hcl:ids.length≤L.count) (hiO: ∀g,Oi g→¬O g):
  Calls Tryd.prog 8 #[.pointer (some ⟨b,0,none⟩),iv] w fun e w'=>e= .returned (.tuple #[.int .i64 (ids.length:Int),.int .i64 0])∧LogAt (fun g=>O g∨w.heap.size≤g∧g<w'.heap.size) w' b (L.joinDel mp s ids)∧Kept O w w':=by
 have hw2:Below w.heap.size w ((((w.alloc (.cells #[.int .i64 0] 3)).alloc (.cells #[.bool false] 4)).alloc (.cells #[.pointer (some ⟨b,0,none⟩)] 25)).alloc (.cells #[iv] 30)):=((((Below.refl _ w).alloc (Nat.le_refl _) _).alloc (by simp) _).alloc (by simp;omega) _).alloc (by simp;omega) _
 have hbi:((((w.alloc (.cells #[.int .i64 0] 3)).alloc (.cells #[.bool false] 4)).alloc (.cells #[.pointer (some ⟨b,0,none⟩)] 25)).alloc (.cells #[iv] 30)).cell? ⟨w.heap.size+1+1+1,0,none⟩=some iv:=by
  have:=cell_new (((w.alloc (.cells #[.int .i64 0] 3)).alloc (.cells #[.bool false] 4)).alloc (.cells #[.pointer (some ⟨b,0,none⟩)] 25)) #[iv] 30 0
  simpa using this
 have hbl:((((w.alloc (.cells #[.int .i64 0] 3)).alloc (.cells #[.bool false] 4)).alloc (.cells #[.pointer (some ⟨b,0,none⟩)] 25)).alloc (.cells #[iv] 30)).cell? ⟨w.heap.size+1+1,0,none⟩=some (.pointer (some ⟨b,0,none⟩)):=by
  rw[((Below.refl _ _).alloc (Nat.le_refl _) _).cell (p:=⟨w.heap.size+1+1,0,none⟩) (by simp)]
  have:=cell_new ((w.alloc (.cells #[.int .i64 0] 3)).alloc (.cells #[.bool false] 4)) #[.pointer (some ⟨b,0,none⟩)] 25 0
  simpa using this
 have bO:Boxed ((((w.alloc (.cells #[.int .i64 0] 3)).alloc (.cells #[.bool false] 4)).alloc (.cells #[.pointer (some ⟨b,0,none⟩)] 25)).alloc (.cells #[iv] 30)) w.heap.size 3 (.int .i64 0):=(((Boxed.new w 3 (.int .i64 0)).alloc _).alloc _).alloc _
 have bB:Boxed ((((w.alloc (.cells #[.int .i64 0] 3)).alloc (.cells #[.bool false] 4)).alloc (.cells #[.pointer (some ⟨b,0,none⟩)] 25)).alloc (.cells #[iv] 30)) (w.heap.size+1) 4 (.bool false):=by
  have h:=((Boxed.new (w.alloc (.cells #[.int .i64 0] 3)) 4 (.bool false)).alloc (.cells #[.pointer (some ⟨b,0,none⟩)] 25)).alloc (.cells #[iv] 30)
  rwa [World.size_alloc]at h
 have HST:=Lib.hid (none_stops (w.heap.size+1+1+1) (w.heap.size+1+1) b L ids iv _ hbi hbl (hi.below hw2) hlen hwf (hL.below hw2))
 obtain⟨w2,hw2e⟩: ∃w2,((((w.alloc (.cells #[.int .i64 0] 3)).alloc (.cells #[.bool false] 4)).alloc (.cells #[.pointer (some ⟨b,0,none⟩)] 25)).alloc (.cells #[iv] 30))=w2:=⟨_,rfl⟩
 have hz2:w2.heap.size=w.heap.size+4:=by rw[←hw2e];simp
 rw[hw2e]at HST hw2 bO bB
 have HW2:=Lib.hid hw2
 have HZ2:=Lib.hid hz2
 have HE2:=Lib.hid hw2e
 have BO:=Lib.hid bO
 have BB:=Lib.hid bB
 have HL:=Lib.hid hL
 have HI:=Lib.hid hi
 have HWF:=Lib.hid hwf
 obtain⟨A,ci,rfl,hci,_⟩:=hi
 obtain⟨mb,sv,ms,hm⟩:=hL
 obtain⟨c0,c1,c2,c3,c4⟩:=hm.cells
 have hbL:=hm.own b hm.inb
 rw[hd]at c4
 have HD:=Lib.hid hd
 have HM:=Lib.hid hm
 obtain⟨msp,m,g,cs,rfl,hms,rfl,hpl,hg,hOg,e0,e3,hat⟩:=last_cells hm hs
 obtain⟨A3,k3,hhv,hk3⟩:=own_slice hat.hints
 rw[hhv,hms]at e3
 rw[hsd]at e0
 have HMS:=Lib.hid hms
 have HSD:=Lib.hid hsd
 have HHV:=Lib.hid hhv
 have HAT:=Lib.hid hat
 have HPL:=Lib.hid hpl
 have HSS:=Lib.hid hs
 have hsl:=hbound
 clear hms hsd hhv hat hpl hs
 obtain⟨i1,hi1,jz0,jz1,jz2⟩:=info_parts info_i
 obtain⟨i0,hi0,iz0,iz1,iz2⟩:=info_parts info_step
 clear hw2 hbi hbl hz2 hw2e bO bB hwf hd hm c0 c1 c2
 refine(callsIn_wide (n:=9)).1 ?_
 refine callsIn_of_wp_marks Tryd.func8 rfl trivial ?_ rfl
 simp only[Tryd.ntmps8,List.size_toArray,List.length_cons,List.length_nil,Nat.reduceAdd,Nat.reduceSub,Array.replicate_succ,Array.replicate_zero,List.push_toArray,List.append_toArray,List.nil_append,List.cons_append]
 gi_wp2
 refine wpIn_wide.2 (wp_scope_straight ((wpIn_wide (n:=9)).1 ?_))
 gi_wp2
 refine wpIn_label ?_
 gi_wp2_with (refine⟨trivial,?_⟩;gi_at_call 19;refine(none_in b _ _ _ _).mono ?_;rintro e w' ⟨rfl,rfl⟩)
 rw[HE2.out]
 refine wpIn_rangeFunc_ownG rfl (by omega) (gf:=36) (lb:= #[.pointer (some ⟨w.heap.size+1+1+1,0,none⟩),.pointer (some ⟨w.heap.size+1+1,0,none⟩)]) rfl trivial (enters_of Tryd.func36 (by kernel_rfl) rfl)
  HST.out (fun h k=>h.trans k) (fun W l o o' _ h hc hw=>KpC.putObj W l o o' h hc hw) (Below.refl _ _) (fun _=>rfl)
  (fun pre W=>(Boxed W w.heap.size 3 (.int .i64 0)∧Boxed W (w.heap.size+1) 4 (.bool false))∧Below w.heap.size w W∧pre= [])
  (fun c pre W=>c= .exit 1∧∃x,pre= [x]∧Boxed W w.heap.size 3 (.int .i64 x)∧Boxed W (w.heap.size+1) 4 (.bool true)∧Below w.heap.size w W)
  (OwnFrom.and (OwnFrom.and (Own.from (boxed_own _ _ _) _) (Own.from (boxed_own _ _ _) _)) (OwnFrom.and (ownFrom_below (Nat.le_refl _) (by have:=HZ2.out;omega)) (ownFrom_pure _ _)))
  (fun c pre X Y row hS hg hr=>by
   obtain⟨hc,x,hx,h1,h2,hB⟩:=hS
   exact⟨hc,x,hx,Own.from (boxed_own (β:=Unit) w.heap.size 3 (fun _=>.int .i64 x)) w2.heap.size () X Y row h1 hg hr,Own.from (boxed_own (β:=Unit) (w.heap.size+1) 4 (fun _=>.bool true)) w2.heap.size () X Y row h2 hg hr,
    ownFrom_below (β:=Unit) (Nat.le_refl _) (by have:=HZ2.out;omega) () X Y row hB hg hr⟩)
  ⟨⟨BO.out,BB.out⟩,HW2.out,rfl⟩
  (fun x=>{ tmps:= #[.pointer (some ⟨b,0,none⟩),.slice A ids.length ci,undef,undef,.int .i64 0,.int .i64 0,.pointer (some ⟨w.heap.size,0,none⟩),.pointer (some ⟨w.heap.size+1,0,none⟩),.int .i64 x,undef,undef,undef,undef,undef,.bool false,.pointer (some ⟨b,0,none⟩),.bool false,.bool false,.pointer (some ⟨b,0,none⟩),.pointer (some ⟨b,0,none⟩),.pointer (some ⟨b,4,none⟩),.bool false,.pointer (some ⟨b,0,none⟩),.slice A ids.length ci,.func (.func 36) #[] #[.pointer (some ⟨w.heap.size+1+1+1,0,none⟩),.pointer (some ⟨w.heap.size+1+1,0,none⟩)],.int .i64 x,undef,undef,undef,undef,undef,undef,undef,undef,undef,undef,undef,undef,undef,undef,undef,undef,undef,undef,undef,undef,undef,undef,undef,undef,undef,undef,undef,undef,undef,undef,undef,undef,undef,undef,undef,undef,undef,undef,undef,undef,undef,undef,undef,undef,undef,undef,undef,undef,undef,undef,undef,undef,undef,undef,undef,undef,undef,undef,undef,undef,undef,undef,undef,undef,undef,undef,undef,undef,undef,undef,undef,undef,undef,undef,undef,undef,undef,undef,undef,undef,undef,undef,undef,undef,undef,undef,undef,undef,undef,undef,undef,undef,undef,undef,undef,undef,undef,undef,undef,undef,undef,undef,undef,undef,undef,undef,undef,undef,undef,undef],defers:= [] }) ?assign ?body ?done ?stop
 case assign=>
  intro l x W K hK
  gi_wp2
  exact hK
 case body=>
  rintro l pre x W ⟨⟨h1,h2⟩,hB,rfl⟩ _
  have q1:=h1.cell
  have q2:=h1.frozen
  have q3:=h2.cell
  have q4:=h2.frozen
  have hlt1:=h1.lt
  have hlt2:=h2.lt
  gi_wp2
  refine⟨((KeepsOthers.setCell _ _ _).trans (KeepsOthers.setCell _ _ _)).from _,rfl,x,rfl,(h1.set _).other (by omega) _,?_,(hB.setCell (p:=⟨w.heap.size,0,none⟩) (Nat.le_refl _) _).setCell (p:=⟨w.heap.size+1,0,none⟩) (Nat.le_succ _) _⟩
  exact(h2.other (by omega) _).set _
 case done=>
  rintro D ys W hD rfl ⟨⟨h1,h2⟩,hB,_⟩ hK
  have q1:=h1.cell
  have q2:=h2.cell
  have hmw:LogMem O W b L mb (.slice (some ⟨g,0,none⟩) (mp.length+1) cs) (msp++ [m]):=HM.out.kept (O':=fun _=>False) ⟨hB.os,hB.tape,hB.output,hB.size,fun k hk _=>hB.block k hk⟩ (fun _ _ h=>h)
  obtain⟨k0,k1,k2,k3,k4⟩:=hmw.cells
  have hbk:W.heap[b]? =_:=hmw.block
  have f1:=free_of_block (j:=1) hbk
  have hinW:IntsIn Oi W (.slice A ids.length ci) ids:=HI.out.below hB
  have hbmb:b≠mb:=fun e=>by
   obtain⟨D,⟨es,cl,hb',_⟩,_⟩:=hmw.map
   rw[←e,hmw.block]at hb'
   cases hb'
  have qe:((ids.length:Int)==0)=false:=by rw[beq_eq_false_iff_ne];omega
  have qt:decide ((65536:Int)<(ids.length:Int)+(s.hints.length:Int))=false:=by simp;omega
  have q5:=(hB.cell (p:=⟨g,mp.length*4,none⟩) hg).trans e0
  have q6:=(hB.cell (p:=⟨g,mp.length*4+3,none⟩) hg).trans e3
  have hzW:=hB.size
  have HB:=Lib.hid hB
  have HK:=Lib.hid hK
  have HMW:=Lib.hid hmw
  have HIW:=Lib.hid hinW
  clear hB hK c3 c4 h1 h2 hmw hinW hbk
  gi_wp2
  gi_loopw [79] (fun i wr=> ∃k:Nat,k≤ids.length∧i= .int .i64 k∧Hid (Kept (fun g=>g=mb) W wr)∧Hid (MapAt wr mb (L.gone.length+k) (goneF (L.gone++ids.take k)))) (fun i _=>ids.length-(intOf i).toNat)
  case atStart=>exact⟨0,Nat.zero_le _,rfl,Lib.hid (Kept.refl _ _),Lib.hid (by simpa using HMW.out.map)⟩
  case round=>
   obtain⟨k,hk,rfl,HKW,HMP⟩:=hrel
   have r2:=(HKW.out.cell (p:=⟨b,2,none⟩) (heap_lt HMW.out.block) hbmb).trans k2
   by_cases hlt:k<ids.length
   ·obtain⟨x,hxk⟩:=getElem_of hlt
    have hinr:IntsIn Oi wr (.slice A ids.length ci) ids:=HIW.out.kept HKW.out (fun g hg e=>hiO g hg (e▸HMW.out.inm))
    obtain⟨A',c',hAc,_,_,hxs⟩:=hinr
    simp only[Value.slice.injEq,true_and]at hAc
    obtain⟨rfl,rfl⟩:=hAc
    obtain⟨gi,oi,rfl,hgi,hgo,d0⟩:=hxs k x hxk
    have hwx:=HWF.out x (List.mem_of_getElem? hxk)
    have htk:ids.take (k+1)=ids.take k++ [x]:=by rw[List.take_add_one,hxk];rfl
    have HTK:=Lib.hid htk
    have HWX:=Lib.hid hwx
    clear hxs hxk htk hwx k0 k1 k2 k3 k4 f1
    gi_wp2_with (gi_at_mapUpdate;refine wpListIn_put HMP.out rfl _ _ _ rfl rfl (by unfold maxLen;omega) x 1 rfl rfl HWX.out rfl ?_;intro w4 hm4 hg4)
    have hm4':MapAt w4 mb (L.gone.length+(k+1)) (goneF (L.gone++ids.take (k+1))):=by rw[HTK.out,←List.append_assoc,←goneF_put];exact hm4
    have hk4:Kept (fun g=>g=mb) W w4:=HKW.out.trans (Kept.grown hg4) (fun g _ h=>by cases h;rfl)
    have HM4:=Lib.hid hm4'
    have HK4:=Lib.hid hk4
    clear hm4 hm4' hk4 hg4
    gi_wp2
    go_roundw
    case rel=>exact⟨k+1,by omega,by go_num,HK4,HM4⟩
    case measure=>simp[intOf];omega
   ·obtain rfl:k=ids.length:=by omega
    have s0:=(HKW.out.cell (p:=⟨b,0,none⟩) (heap_lt HMW.out.block) hbmb).trans k0
    have s1:=(HKW.out.cell (p:=⟨b,1,none⟩) (heap_lt HMW.out.block) hbmb).trans k1
    have s3:=(HKW.out.cell (p:=⟨b,3,none⟩) (heap_lt HMW.out.block) hbmb).trans k3
    have g1:=(HKW.out.frozen (p:=⟨b,1,none⟩) (heap_lt HMW.out.block) hbmb).trans f1
    clear k0 k1 k2 k3 k4 f1 r2
    gi_wp2
    obtain⟨W1,hW1⟩: ∃W1,wr.setCell ⟨b,1,none⟩ (.int .i64 ((L.count:Int)-(ids.length:Int)))=W1:=⟨_,rfl⟩
    have hbr:wr.heap[b]? =_:=(HKW.out.block b (heap_lt HMW.out.block) hbmb).trans HMW.out.block
    have hb1:W1.heap[b]? =some (.cells #[.int .i64 L.last,.int .i64 ((L.count:Int)-(ids.length:Int)),.map (some mb),.slice (some ⟨g,0,none⟩) (mp.length+1) cs,.bool L.done] 55 (0,0)):=by
     rw[←hW1];exact block_set hbr _
    have hkr1:Kept (fun g=>g=b) wr W1:=by rw[←hW1];exact(Kept.refl (fun g=>g=b) wr).setCell ⟨b,1,none⟩ _ rfl
    have hk1:Kept (fun g=>g=mb∨g=b) W W1:=(HKW.out.mono (fun g _ h=>.inl h)).trans hkr1 (fun g _ h=>.inr h)
    have hm1:MapAt W1 mb (L.gone++ids).length (goneF (L.gone++ids)):=by
     have:=HMP.out.kept hkr1 (Ne.symm hbmb)
     rwa [List.take_length,←List.length_append]at this
    have hin1:IntsIn Oi W1 (.slice A ids.length ci) ids:=HIW.out.kept hk1 (fun g hg e=>hiO g hg (e.elim (fun h=>h▸HMW.out.inm) (fun h=>h▸HMW.out.inb)))
    have hmr:(Value.ownBlock (.slice (some ⟨g,0,none⟩) (mp.length+1) cs))≠some mb:=fun hg=>by
     obtain⟨D,⟨es,cl,hb',_⟩,_⟩:=HMW.out.map
     obtain⟨c',hc'⟩:=own_type HMW.out.row mb hg
     rw[hb']at hc'
     cases hc'
    have hrt:(Value.ownBlock (.slice (some ⟨g,0,none⟩) (mp.length+1) cs))≠some b:=fun hg=>by
     obtain⟨cc',hc'⟩:=own_type HMW.out.row b hg
     rw[HMW.out.block]at hc'
     simp only[Option.some.injEq,Obj.cells.injEq]at hc'
     exact absurd hc'.2.1 (by decide)
    have hgb:g≠b:=fun e=>hrt (by rw[←e];rfl)
    have hgm:g≠mb:=fun e=>hmr (by rw[←e];rfl)
    have hgW:g<W.heap.size:=Nat.lt_of_lt_of_le hg hzW
    have q6W:W1.cell? ⟨g,mp.length*4+3,none⟩=some (.slice A3 s.hints.length k3):=(hk1.cell (p:=⟨g,mp.length*4+3,none⟩) hgW (fun h=>h.elim hgm hgb)).trans q6
    have c3:=(cell_of_block (j:=3) hb1).trans rfl
    have hgty:=own_type HMW.out.row g rfl
    have hmW:=HMW.out.each m (by simp)
    have hhW:W.ownsRow 0 3 1 (.slice A3 s.hints.length k3) s.hints.length (s.hints.map (Value.int .i64)):=by
     have:=hmW.hints
     rw[HHV.out,HMS.out]at this
     exact this
    have hne3: ∀g',(Value.ownBlock (.slice A3 s.hints.length k3))=some g'→g'≠b∧g'≠mb∧g'≠g:=fun g' hg'=>by
     obtain⟨c',hc'⟩:=own_type hhW g' hg'
     refine⟨fun e=>?_,fun e=>?_,fun e=>?_⟩
     ·rw[e,HMW.out.block]at hc'
      simp only[Option.some.injEq,Obj.cells.injEq]at hc'
      exact absurd hc'.2.1 (by decide)
     ·obtain⟨D,⟨es,cl,hb',_⟩,_⟩:=HMW.out.map
      rw[e,hb']at hc'
      cases hc'
     ·obtain⟨c2,hc2⟩:=hgty
      rw[e,hc2]at hc'
      simp only[Option.some.injEq,Obj.cells.injEq]at hc'
      exact absurd hc'.2.1 (by decide)
    have hh1:W1.ownsRow 0 3 1 (.slice A3 s.hints.length k3) s.hints.length (s.hints.map (Value.int .i64)):=own_kept hhW hk1 (fun g' hg' h=>h.elim (hne3 g' hg').2.1 (hne3 g' hg').1)
    have hrow1:W1.ownsRow 0 49 4 (.slice (some ⟨g,0,none⟩) (mp.length+1) cs) (mp.length+1) ((msp++ [m]).flatMap MStep.cells):=by
     have:=own_kept HMW.out.row hk1 (fun g' hg' h=>by
      cases hg'
      exact h.elim hgm hgb)
     rwa [show(msp++ [m]).length=mp.length+1 by simp[HPL.out]]at this
    have hnews: ∃gi oi,A=some ⟨gi,oi,none⟩∧∀j u,(ids.map (Value.int .i64))[j]? =some u→W1.drew.cell? ((⟨gi,oi,none⟩:Addr).add j)=some u:=by
     obtain⟨A',c',hAc,_,_,hxs⟩:=hin1
     simp only[Value.slice.injEq,true_and]at hAc
     obtain⟨rfl,rfl⟩:=hAc
     obtain⟨x0,hx0⟩:=getElem_of he
     obtain⟨gi,oi,hA,_⟩:=hxs 0 x0 hx0
     refine⟨gi,oi,hA,fun j u hj=>?_⟩
     rw[List.getElem?_map]at hj
     cases hxj:ids[j]? with
     | none=>rw[hxj]at hj;cases hj
     | some x=>
      rw[hxj]at hj
      obtain rfl:=Option.some.inj hj
      obtain⟨g',o',hA',_,_,hc⟩:=hxs j x hxj
      rw[hA]at hA'
      cases hA'
      rw[addr_add2]
      exact hc
    obtain⟨gi,oi,rfl,hnews⟩:=hnews
    rw[hW1]
    have HB1:=Lib.hid hb1
    have HK1:=Lib.hid hk1
    have HM1:=Lib.hid hm1
    have HR1:=Lib.hid hrow1
    have HH1:=Lib.hid hh1
    have HN1:=Lib.hid hnews
    have HNE:=Lib.hid hne3
    have HGT:=Lib.hid hgty
    have HMA:=Lib.hid hmW
    have hbl1:=heap_lt hb1
    have hgl1:g<W1.heap.size:=Nat.lt_of_lt_of_le hgW hk1.size
    have hw9:IntKind.i64.wrap (mp.length:Int)=(mp.length:Int):=IntWalk.i64_in _ (by omega)
    have hlt9:(mp.length:Int)<(mp.length:Int)+1:=by omega
    have hge9:(0:Int)≤(mp.length:Int):=by omega
    clear hW1 hbr hb1 hkr1 hk1 hm1 hin1 s0 s1 s3 g1 hrow1 hh1 hnews hne3 hgty hmW hhW
    refine wpIn_wide.2 (wp_region_noPanic ?_)
    refine wp_region_sink_at (fun w'=>w'.cell? ⟨b,3,none⟩=some (.slice (some ⟨g,0,none⟩) (mp.length+1) cs)∧w'.cell? ⟨g,mp.length*4+3,none⟩=some (.slice A3 s.hints.length k3)) (by kernel_rfl) rfl (by kernel_rfl) ⟨c3,q6W⟩ (fun hHeld=>?_)
    simp only[List.dropLast]
    refine takeS 0 99 ?_
    refine takeS 1 100 ?_
    refine takeS 2 101 ?_
    refine takeS 3 102 ?_
    refine takeS 4 103 ?_
    refine takeS 5 104 ?_
    refine takeS 6 105 ?_
    refine takeS 7 106 ?_
    refine takeS 8 107 ?_
    refine takeS 9 108 ?_
    refine takeS 10 109 ?_
    refine takeS 11 110 ?_
    refine takeS 12 111 ?_
    refine takeS 13 112 ?_
    refine takeS 14 113 ?_
    refine takeS 15 114 ?_
    refine ready1 16 (fun K hK=>?_)
    rw[if_pos (by rfl)]
    refine wp_append_at 115 (by rfl) _ _ 30 rfl 0 3 i1 (.int .i64 0) 1 8 Tryd.underlying30 hi1 jz0 jz1 jz2 rfl (by decide) _ s.hints.length _ (by rfl) HH1.out ⟨gi,oi,none⟩ ids.length ci (ids.map (Value.int .i64)) (by rfl) (by simp) HN1.out (by simp[Value.oneCell']) (by unfold maxLen;omega) (by omega) (Nat.zero_le _) ?_
    intro v' w4 hown' hgrow hat
    obtain⟨Av,kv,rfl,_⟩:=own_slice hown'
    have hz4:W1.heap.size≤w4.heap.size:=hgrow.size
    have hg4:Kept (fun g'=>(Value.ownBlock (.slice A3 s.hints.length k3))=some g') W1 w4:=((Kept.of_below (O:=fun g'=>(Value.ownBlock (.slice A3 s.hints.length k3))=some g') ((Below.refl _ W1).drew)).trans (Kept.grown hgrow) (fun g _ hg=>hg.symm))
    have HG4:=Lib.hid hg4
    have HOWN:=Lib.hid hown'
    have HATT:=Lib.hid hat
    refine hK.out _ _ ⟨(hg4.cell (p:=⟨b,3,none⟩) hbl1 (fun h=>(HNE.out b h).1 rfl)).trans c3,(hg4.cell (p:=⟨g,mp.length*4+3,none⟩) hgl1 (fun h=>(HNE.out g h).2.2 rfl)).trans q6W⟩ (fun hHeld4=>?_)
    clear hK hHeld hgrow hg4 hown' hat
    simp only[Act.put,List.setIfInBounds_toArray,List.set_cons_zero,List.set_cons_succ]
    refine takeS 17 116 ?_
    refine takeS 18 117 ?_
    refine wpAnyH_done (by kernel_rfl) ?_ _
    refine lastPost_normal ?_
    have hrow4:w4.ownsRow 0 49 4 (.slice (some ⟨g,0,none⟩) (mp.length+1) cs) (mp.length+1) ((msp++ [m]).flatMap MStep.cells):=own_kept HR1.out HG4.out (fun g' hg' h=>by
     cases hg'
     exact(HNE.out g h).2.2 rfl)
    obtain⟨cg,hcg⟩:=own_type hrow4 g rfl
    have fr3:=free_of_block (j:=mp.length*4+3) hcg
    obtain⟨y1,y2⟩:=hHeld4
    have HROW4:=Lib.hid hrow4
    clear hrow4 hcg
    refine wpOp_step rfl (fun K hK=>?_)
    go_simp
    refine hK _ _ ?_
    clear hK
    refine NoPanic.normal ?_
    gi_wp2
    rw[Exit.noGoto_ret]
    obtain⟨Wf,hWf⟩: ∃Wf,w4.setCell ⟨g,mp.length*4+3,none⟩ (.slice Av (s.hints.length+ids.length) kv)=Wf:=⟨_,rfl⟩
    have hS5:Kept (fun g'=>g'=g) w4 Wf:=by rw[←hWf];exact(Kept.refl (fun g'=>g'=g) w4).setCell ⟨g,mp.length*4+3,none⟩ _ rfl
    have hrowF:Wf.ownsRow 0 49 4 (.slice (some ⟨g,0,none⟩) (mp.length+1) cs) (mp.length+1) (((msp++ [m]).flatMap MStep.cells).set (mp.length*4+3) (.slice Av (s.hints.length+ids.length) kv)):=by
     rw[←hWf];exact own_set HROW4.out _ _
    rw[hWf]
    have hK5:Kept (fun g'=>g'=b∨g'=mb∨g'=g∨(Value.ownBlock (.slice A3 s.hints.length k3))=some g') W Wf:=
     ((HK1.out.mono (O':=fun g'=>g'=b∨g'=mb∨g'=g∨(Value.ownBlock (.slice A3 s.hints.length k3))=some g') (fun g _ h=>h.elim (fun e=>.inr (.inl e)) .inl)).trans HG4.out (fun g _ h=>.inr (.inr (.inr h)))).trans hS5 (fun g _ h=>.inr (.inr (.inl h)))
    have hOlt: ∀g',(g'=b∨g'=mb∨g'=g∨(Value.ownBlock (.slice A3 s.hints.length k3))=some g')→O g':=fun g' h=>by
     rcases h with rfl|rfl|rfl|h
     ·exact HM.out.inb
     ·exact HM.out.inm
     ·exact hOg
     ·exact HMA.out.block g' (by rw[HHV.out,HMS.out];exact h)
    have hD5:Wf.heap[D]? =some (.deferred (some [])):=(hK5.block D (heap_lt HK.out) (fun h=>by
     have:=HM.out.own D (hOlt D h)
     have:=HW2.out.size
     omega)).trans HK.out
    have hcnt:((L.count-ids.length:Nat):Int)=(L.count:Int)-(ids.length:Int):=Int.ofNat_sub hcl
    have hbF:Wf.heap[b]? =some (.cells #[.int .i64 L.last,.int .i64 ((L.count:Int)-(ids.length:Int)),.map (some mb),.slice (some ⟨g,0,none⟩) (mp.length+1) cs,.bool L.done] 55 (0,0)):=by
     rw[hS5.block b (Nat.lt_of_lt_of_le hbl1 hz4) (Ne.symm hgb),HG4.out.block b hbl1 (fun h=>(HNE.out b h).1 rfl)]
     exact HB1.out
    have hjoin:=HMW.out.join (L':=L.joinDel mp s ids) (w5:=Wf) (m':=⟨m.lv,.slice Av (s.hints.length+ids.length) kv,⟨true,s.id,s.lits,s.hints++ids⟩⟩) (by rw[HHV.out,HMS.out];exact hK5.mono (fun g' _ h=>by
      rcases h with h|h|h|h
      ·exact .inl h
      ·exact .inr (.inl h)
      ·exact .inr (.inr (.inl (by rw[h];rfl)))
      ·exact .inr (.inr (.inr h))))
     (by simp only[ELog.joinDel];rw[hcnt];exact hbF)
     ((HM1.out.kept HG4.out (fun h=>(HNE.out mb h).2.1 rfl)).kept hS5 (Ne.symm hgm))
     (by
      have e:((msp++ [m]).flatMap MStep.cells).set (mp.length*4+3) (.slice Av (s.hints.length+ids.length) kv)=msp.flatMap MStep.cells++MStep.cells ⟨m.lv,.slice Av (s.hints.length+ids.length) kv,⟨true,s.id,s.lits,s.hints++ids⟩⟩:=by
       rw[List.flatMap_append,List.set_append_right _ _ (by rw[cells_len,HPL.out];omega),cells_len,HPL.out]
       rw[show mp.length*4+3-mp.length*4=3 by omega]
       simp[MStep.cells,HMS.out,HSD.out]
      rw[e]at hrowF
      rw[HPL.out]
      exact hrowF)
     rfl
     (by
      have h1:=HMW.out.steps
      have h2:msp.map MStep.s++ [m.s]=mp++ [s]:=by
       rw[←HSS.out,←h1];simp
      have h3:msp.map MStep.s=mp:=by
       have:=congrArg List.dropLast h2
       simpa using this
      rw[h3];rfl)
     (by rw[HMS.out])
     (by
      have:=own_kept HOWN.out hS5 (fun g' hg' h=>by
       obtain⟨c',hc'⟩:=own_type HOWN.out g' hg'
       obtain⟨c2,hc2⟩:=own_type HROW4.out g rfl
       rw[h,hc2]at hc'
       simp only[Option.some.injEq,Obj.cells.injEq]at hc'
       exact absurd hc'.2.1 (by decide))
      simpa using this)
     (by
      rw[HHV.out,HMS.out]
      rcases HATT.out with e|e
      ·exact .inl e
      ·refine .inr ⟨_,e,?_⟩
       have:=HK1.out.size
       exact this)
    refine⟨by simp,.inl ⟨_,_,rfl,run_takeDeferred hD5,?_⟩⟩
    refine⟨_,results_tmp2 rfl _ _ _,rfl,?_⟩
    exact forget_end (LogAt.of_mem hjoin) hD5 HB.out hK5 hOlt (by have:=HW2.out.size;omega)
 case stop=>
  rintro D c pre W hD ⟨hpre,_⟩ ⟨rfl,y,rfl,_⟩ hK
  rw[hb]at hpre
  have:=hpre.length_le
  simp at this
end Go.Proofs.YteigjcichmpejaaDoor
