/- Forget (package emit): a new step. -/
import Derived.Test.YteigjcichmpejaaDoorV121
namespace Go.Proofs.YteigjcichmpejaaDoor
open Go.RowKit Go.Shelf Go.Maps
attribute [local go_sem] Oper.semAt_some
def ELog.addDel (L:ELog) (ids:List Int):ELog:=⟨L.last,L.count-ids.length,L.gone++ids,L.steps++ [⟨true,L.last,[],ids⟩],L.done⟩
def ELog.joinDel (L:ELog) (mp:List EStep) (s:EStep) (ids:List Int):ELog:=⟨L.last,L.count-ids.length,L.gone++ids,mp++ [⟨true,s.id,s.lits,s.hints++ids⟩],L.done⟩
theorem LogAt.of_mem {O:Nat→Prop} {w:World} {b:Nat} {L:ELog} {mb:Nat} {sv:Value} {ms:List MStep} (h:LogMem O w b L mb sv ms):LogAt O w b L:=⟨mb,sv,ms,h⟩
theorem LogAt.mono {O O':Nat→Prop} {w:World} {b:Nat} {L:ELog} (h:LogAt O w b L) (hO: ∀g,O g→O' g) (hl: ∀g,O' g→g<w.heap.size):LogAt O' w b L:=by
 obtain⟨mb,sv,ms,h⟩:=h
 exact⟨mb,sv,ms,hl,hO _ h.inb,hO _ h.inm,h.block,h.map,h.row,fun g hg=>hO g (h.rowb g hg),h.steps,fun m hm=>(h.each m hm).mono hO,h.apart⟩
theorem forget_end {O X:Nat→Prop} {w W Wf:World} {b D:Nat} {L':ELog} {o:Obj} (h:LogAt (fun g=>O g∨W.heap.size≤g∧g<Wf.heap.size) Wf b L') (hD:Wf.heap[D]? =some (.deferred (some []))) (hB:Below w.heap.size w W) (hK:Kept X W Wf) (hX: ∀g,X g→O g) (hDw:w.heap.size≤D):
  LogAt (fun g=>O g∨w.heap.size≤g∧g<(Wf.putObj D o).heap.size) (Wf.putObj D o) b L'∧Kept O w (Wf.putObj D o):=by
 have hg:=grownBy_putObj' Wf D o
 have hk:Kept (fun g=>g=D) Wf (Wf.putObj D o):=(Kept.grown hg).mono (fun g _ h=>by cases h;rfl)
 have hlt: ∀g,(O g∨W.heap.size≤g∧g<Wf.heap.size)→g<Wf.heap.size:=by
  obtain⟨mb,sv,ms,hm⟩:=h
  exact hm.own
 constructor
 ·refine(h.narrow.kept hk (fun g hg e=>hg.2 ⟨.deferred (some []),by rw[e];exact hD,rfl,rfl⟩)).mono (fun g hg=>?_) (fun g hg=>?_)
  ·rcases hg.1 with h1|h1
   ·exact .inl h1
   ·exact .inr ⟨Nat.le_trans hB.size h1.1,Nat.lt_of_lt_of_le h1.2 hk.size⟩
  ·rcases hg with h1|h1
   ·exact Nat.lt_of_lt_of_le (hlt g (.inl h1)) hk.size
   ·exact h1.2
 ·exact(((Kept.of_below (O:=O) hB).trans hK (fun g _ hx=>hX g hx))).trans hk (fun g hl e=>by omega)
set_option maxRecDepth 100000 in
set_option maxHeartbeats 4000000 in
theorem forget_newA {O Oi:Nat→Prop} (b:Nat) (L:ELog) (iv:Value) (ids:List Int) (w:World) (hL:LogAt O w b L) (hi:IntsIn Oi w iv ids) (hlen:ids.length≤140737488355328) (hwf: ∀x∈ids,(Lit.int .i64 x).wf=true) (hd:L.done=false) (hA:L.steps= []) (hb:badGo L [] ids= []) (he:0<ids.length) (ht:ids.length≤65536) (hgl:L.gone.length≤1073741824) (hcn:L.count≤1073741824) (hcl:ids.length≤L.count) (hiO: ∀g,Oi g→¬O g):
  Calls Tryd.prog 8 #[.pointer (some ⟨b,0,none⟩),iv] w fun e w'=>e= .returned (.tuple #[.int .i64 (ids.length:Int),.int .i64 0])∧LogAt (fun g=>O g∨w.heap.size≤g∧g<w'.heap.size) w' b (L.addDel ids)∧Kept O w w':=by
 have hw2:Below w.heap.size w ((((w.alloc (.cells #[.int .i64 0] 3)).alloc (.cells #[.bool false] 4)).alloc (.cells #[.pointer (some ⟨b,0,none⟩)] 25)).alloc (.cells #[iv] 30)):=((((Below.refl _ w).alloc (Nat.le_refl _) _).alloc (by simp) _).alloc (by simp;omega) _).alloc (by simp;omega) _
 have hbi:((((w.alloc (.cells #[.int .i64 0] 3)).alloc (.cells #[.bool false] 4)).alloc (.cells #[.pointer (some ⟨b,0,none⟩)] 25)).alloc (.cells #[iv] 30)).cell? ⟨w.heap.size+1+1+1,0,none⟩=some iv:=by
  have:=cell_new (((w.alloc (.cells #[.int .i64 0] 3)).alloc (.cells #[.bool false] 4)).alloc (.cells #[.pointer (some ⟨b,0,none⟩)] 25)) #[iv] 30 0
  simpa using this
 have hbl:((((w.alloc (.cells #[.int .i64 0] 3)).alloc (.cells #[.bool false] 4)).alloc (.cells #[.pointer (some ⟨b,0,none⟩)] 25)).alloc (.cells #[iv] 30)).cell? ⟨w.heap.size+1+1,0,none⟩=some (.pointer (some ⟨b,0,none⟩)):=by
  rw[((Below.refl _ _).alloc (Nat.le_refl _) _).cell (p:=⟨w.heap.size+1+1,0,none⟩) (by simp)]
  have:=cell_new ((w.alloc (.cells #[.int .i64 0] 3)).alloc (.cells #[.bool false] 4)) #[.pointer (some ⟨b,0,none⟩)] 25 0
  simpa using this
 have bO:Boxed ((((w.alloc (.cells #[.int .i64 0] 3)).alloc (.cells #[.bool false] 4)).alloc (.cells #[.pointer (some ⟨b,0,none⟩)] 25)).alloc (.cells #[iv] 30)) w.heap.size 3 (.int .i64 0):=(((Boxed.new w 3 (.int .i64 0)).alloc _).alloc _).alloc _
 have bB:Boxed ((((w.alloc (.cells #[.int .i64 0] 3)).alloc (.cells #[.bool false] 4)).alloc (.cells #[.pointer (some ⟨b,0,none⟩)] 25)).alloc (.cells #[iv] 30)) (w.heap.size+1) 4 (.bool false):=by
  have h:=((Boxed.new (w.alloc (.cells #[.int .i64 0] 3)) 4 (.bool false)).alloc (.cells #[.pointer (some ⟨b,0,none⟩)] 25)).alloc (.cells #[iv] 30)
  rwa [World.size_alloc]at h
 have HST:=Lib.hid (none_stops (w.heap.size+1+1+1) (w.heap.size+1+1) b L ids iv _ hbi hbl (hi.below hw2) hlen hwf (hL.below hw2))
 obtain⟨w2,hw2e⟩: ∃w2,((((w.alloc (.cells #[.int .i64 0] 3)).alloc (.cells #[.bool false] 4)).alloc (.cells #[.pointer (some ⟨b,0,none⟩)] 25)).alloc (.cells #[iv] 30))=w2:=⟨_,rfl⟩
 have hz2:w2.heap.size=w.heap.size+4:=by rw[←hw2e];simp
 rw[hw2e]at HST hw2 bO bB
 have HW2:=Lib.hid hw2
 have HZ2:=Lib.hid hz2
 have HE2:=Lib.hid hw2e
 have BO:=Lib.hid bO
 have BB:=Lib.hid bB
 have HL:=Lib.hid hL
 have HI:=Lib.hid hi
 have HWF:=Lib.hid hwf
 obtain⟨A,ci,rfl,hci,_⟩:=hi
 obtain⟨mb,sv,ms,hm⟩:=hL
 obtain⟨c0,c1,c2,c3,c4⟩:=hm.cells
 have hbL:=hm.own b hm.inb
 rw[hd]at c4
 have HD:=Lib.hid hd
 have HM:=Lib.hid hm
 have hms0:ms= []:=by
  have:=hm.steps
  rw[hA]at this
  exact List.map_eq_nil_iff.1 this
 subst hms0
 obtain⟨As,cs,rfl,hcs⟩:=own_slice hm.row
 simp only[List.length_nil]at c3
 obtain⟨i0,hi0,iz0,iz1,iz2⟩:=info_parts info_step
 clear hw2 hbi hbl hz2 hw2e bO bB hwf hd hm c0 c1 c2
 refine(callsIn_wide (n:=9)).1 ?_
 refine callsIn_of_wp_marks Tryd.func8 rfl trivial ?_ rfl
 simp only[Tryd.ntmps8,List.size_toArray,List.length_cons,List.length_nil,Nat.reduceAdd,Nat.reduceSub,Array.replicate_succ,Array.replicate_zero,List.push_toArray,List.append_toArray,List.nil_append,List.cons_append]
 gi_wp2
 refine wpIn_wide.2 (wp_scope_straight ((wpIn_wide (n:=9)).1 ?_))
 gi_wp2
 refine wpIn_label ?_
 gi_wp2_with (refine⟨trivial,?_⟩;gi_at_call 19;refine(none_in b _ _ _ _).mono ?_;rintro e w' ⟨rfl,rfl⟩)
 rw[HE2.out]
 refine wpIn_rangeFunc_ownG rfl (by omega) (gf:=36) (lb:= #[.pointer (some ⟨w.heap.size+1+1+1,0,none⟩),.pointer (some ⟨w.heap.size+1+1,0,none⟩)]) rfl trivial (enters_of Tryd.func36 (by kernel_rfl) rfl)
  HST.out (fun h k=>h.trans k) (fun W l o o' _ h hc hw=>KpC.putObj W l o o' h hc hw) (Below.refl _ _) (fun _=>rfl)
  (fun pre W=>(Boxed W w.heap.size 3 (.int .i64 0)∧Boxed W (w.heap.size+1) 4 (.bool false))∧Below w.heap.size w W∧pre= [])
  (fun c pre W=>c= .exit 1∧∃x,pre= [x]∧Boxed W w.heap.size 3 (.int .i64 x)∧Boxed W (w.heap.size+1) 4 (.bool true)∧Below w.heap.size w W)
  (OwnFrom.and (OwnFrom.and (Own.from (boxed_own _ _ _) _) (Own.from (boxed_own _ _ _) _)) (OwnFrom.and (ownFrom_below (Nat.le_refl _) (by have:=HZ2.out;omega)) (ownFrom_pure _ _)))
  (fun c pre X Y row hS hg hr=>by
   obtain⟨hc,x,hx,h1,h2,hB⟩:=hS
   exact⟨hc,x,hx,Own.from (boxed_own (β:=Unit) w.heap.size 3 (fun _=>.int .i64 x)) w2.heap.size () X Y row h1 hg hr,Own.from (boxed_own (β:=Unit) (w.heap.size+1) 4 (fun _=>.bool true)) w2.heap.size () X Y row h2 hg hr,
    ownFrom_below (β:=Unit) (Nat.le_refl _) (by have:=HZ2.out;omega) () X Y row hB hg hr⟩)
  ⟨⟨BO.out,BB.out⟩,HW2.out,rfl⟩
  (fun x=>{ tmps:= #[.pointer (some ⟨b,0,none⟩),.slice A ids.length ci,undef,undef,.int .i64 0,.int .i64 0,.pointer (some ⟨w.heap.size,0,none⟩),.pointer (some ⟨w.heap.size+1,0,none⟩),.int .i64 x,undef,undef,undef,undef,undef,.bool false,.pointer (some ⟨b,0,none⟩),.bool false,.bool false,.pointer (some ⟨b,0,none⟩),.pointer (some ⟨b,0,none⟩),.pointer (some ⟨b,4,none⟩),.bool false,.pointer (some ⟨b,0,none⟩),.slice A ids.length ci,.func (.func 36) #[] #[.pointer (some ⟨w.heap.size+1+1+1,0,none⟩),.pointer (some ⟨w.heap.size+1+1,0,none⟩)],.int .i64 x,undef,undef,undef,undef,undef,undef,undef,undef,undef,undef,undef,undef,undef,undef,undef,undef,undef,undef,undef,undef,undef,undef,undef,undef,undef,undef,undef,undef,undef,undef,undef,undef,undef,undef,undef,undef,undef,undef,undef,undef,undef,undef,undef,undef,undef,undef,undef,undef,undef,undef,undef,undef,undef,undef,undef,undef,undef,undef,undef,undef,undef,undef,undef,undef,undef,undef,undef,undef,undef,undef,undef,undef,undef,undef,undef,undef,undef,undef,undef,undef,undef,undef,undef,undef,undef,undef,undef,undef,undef,undef,undef,undef,undef,undef,undef,undef,undef,undef,undef,undef,undef,undef,undef,undef,undef,undef,undef,undef,undef,undef],defers:= [] }) ?assign ?body ?done ?stop
 case assign=>
  intro l x W K hK
  gi_wp2
  exact hK
 case body=>
  rintro l pre x W ⟨⟨h1,h2⟩,hB,rfl⟩ _
  have q1:=h1.cell
  have q2:=h1.frozen
  have q3:=h2.cell
  have q4:=h2.frozen
  have hlt1:=h1.lt
  have hlt2:=h2.lt
  gi_wp2
  refine⟨((KeepsOthers.setCell _ _ _).trans (KeepsOthers.setCell _ _ _)).from _,rfl,x,rfl,(h1.set _).other (by omega) _,?_,(hB.setCell (p:=⟨w.heap.size,0,none⟩) (Nat.le_refl _) _).setCell (p:=⟨w.heap.size+1,0,none⟩) (Nat.le_succ _) _⟩
  exact(h2.other (by omega) _).set _
 case done=>
  rintro D ys W hD rfl ⟨⟨h1,h2⟩,hB,_⟩ hK
  have q1:=h1.cell
  have q2:=h2.cell
  have hmw:LogMem O W b L mb (.slice As 0 cs) []:=HM.out.kept (O':=fun _=>False) ⟨hB.os,hB.tape,hB.output,hB.size,fun k hk _=>hB.block k hk⟩ (fun _ _ h=>h)
  obtain⟨k0,k1,k2,k3,k4⟩:=hmw.cells
  have hbk:W.heap[b]? =_:=hmw.block
  have f1:=free_of_block (j:=1) hbk
  have hinW:IntsIn Oi W (.slice A ids.length ci) ids:=HI.out.below hB
  have hbmb:b≠mb:=fun e=>by
   obtain⟨D,⟨es,cl,hb',_⟩,_⟩:=hmw.map
   rw[←e,hmw.block]at hb'
   cases hb'
  have qe:((ids.length:Int)==0)=false:=by rw[beq_eq_false_iff_ne];omega
  have qt:decide ((65536:Int)<(ids.length:Int))=false:=by simp;omega
  have qt2:decide (65536<ids.length)=false:=by simp;omega
  have hzW:=hB.size
  have HB:=Lib.hid hB
  have HK:=Lib.hid hK
  have HMW:=Lib.hid hmw
  have HIW:=Lib.hid hinW
  clear hB hK c3 c4 h1 h2 hmw hinW hbk
  gi_wp2
  gi_loopw [79] (fun i wr=> ∃k:Nat,k≤ids.length∧i= .int .i64 k∧Hid (Kept (fun g=>g=mb) W wr)∧Hid (MapAt wr mb (L.gone.length+k) (goneF (L.gone++ids.take k)))) (fun i _=>ids.length-(intOf i).toNat)
  case atStart=>exact⟨0,Nat.zero_le _,rfl,Lib.hid (Kept.refl _ _),Lib.hid (by simpa using HMW.out.map)⟩
  case round=>
   obtain⟨k,hk,rfl,HKW,HMP⟩:=hrel
   have r2:=(HKW.out.cell (p:=⟨b,2,none⟩) (heap_lt HMW.out.block) hbmb).trans k2
   by_cases hlt:k<ids.length
   ·obtain⟨x,hxk⟩:=getElem_of hlt
    have hinr:IntsIn Oi wr (.slice A ids.length ci) ids:=HIW.out.kept HKW.out (fun g hg e=>hiO g hg (e▸HMW.out.inm))
    obtain⟨A',c',hAc,_,_,hxs⟩:=hinr
    simp only[Value.slice.injEq,true_and]at hAc
    obtain⟨rfl,rfl⟩:=hAc
    obtain⟨gi,oi,rfl,hgi,hgo,d0⟩:=hxs k x hxk
    have hwx:=HWF.out x (List.mem_of_getElem? hxk)
    have htk:ids.take (k+1)=ids.take k++ [x]:=by rw[List.take_add_one,hxk];rfl
    have HTK:=Lib.hid htk
    have HWX:=Lib.hid hwx
    clear hxs hxk htk hwx k0 k1 k2 k3 k4 f1
    gi_wp2_with (gi_at_mapUpdate;refine wpListIn_put HMP.out rfl _ _ _ rfl rfl (by unfold maxLen;omega) x 1 rfl rfl HWX.out rfl ?_;intro w4 hm4 hg4)
    have hm4':MapAt w4 mb (L.gone.length+(k+1)) (goneF (L.gone++ids.take (k+1))):=by rw[HTK.out,←List.append_assoc,←goneF_put];exact hm4
    have hk4:Kept (fun g=>g=mb) W w4:=HKW.out.trans (Kept.grown hg4) (fun g _ h=>by cases h;rfl)
    have HM4:=Lib.hid hm4'
    have HK4:=Lib.hid hk4
    clear hm4 hm4' hk4 hg4
    gi_wp2
    go_roundw
    case rel=>exact⟨k+1,by omega,by go_num,HK4,HM4⟩
    case measure=>simp[intOf];omega
   ·obtain rfl:k=ids.length:=by omega
    have s0:=(HKW.out.cell (p:=⟨b,0,none⟩) (heap_lt HMW.out.block) hbmb).trans k0
    have s1:=(HKW.out.cell (p:=⟨b,1,none⟩) (heap_lt HMW.out.block) hbmb).trans k1
    have s3:=(HKW.out.cell (p:=⟨b,3,none⟩) (heap_lt HMW.out.block) hbmb).trans k3
    have g1:=(HKW.out.frozen (p:=⟨b,1,none⟩) (heap_lt HMW.out.block) hbmb).trans f1
    clear k0 k1 k2 k3 k4 f1 r2
    gi_wp2
    obtain⟨W1,hW1⟩: ∃W1,wr.setCell ⟨b,1,none⟩ (.int .i64 ((L.count:Int)-(ids.length:Int)))=W1:=⟨_,rfl⟩
    have hbr:wr.heap[b]? =_:=(HKW.out.block b (heap_lt HMW.out.block) hbmb).trans HMW.out.block
    have hb1:W1.heap[b]? =some (.cells #[.int .i64 L.last,.int .i64 ((L.count:Int)-(ids.length:Int)),.map (some mb),.slice As 0 cs,.bool L.done] 55 (0,0)):=by
     rw[←hW1];exact block_set hbr _
    have hkr1:Kept (fun g=>g=b) wr W1:=by rw[←hW1];exact(Kept.refl (fun g=>g=b) wr).setCell ⟨b,1,none⟩ _ rfl
    have hk1:Kept (fun g=>g=mb∨g=b) W W1:=(HKW.out.mono (fun g _ h=>.inl h)).trans hkr1 (fun g _ h=>.inr h)
    have hm1:MapAt W1 mb (L.gone++ids).length (goneF (L.gone++ids)):=by
     have:=HMP.out.kept hkr1 (Ne.symm hbmb)
     rwa [List.take_length,←List.length_append]at this
    have hin1:IntsIn Oi W1 (.slice A ids.length ci) ids:=HIW.out.kept hk1 (fun g hg e=>hiO g hg (e.elim (fun h=>h▸HMW.out.inm) (fun h=>h▸HMW.out.inb)))
    have c0:=(cell_of_block (j:=0) hb1).trans rfl
    have c3:=(cell_of_block (j:=3) hb1).trans rfl
    rw[hW1]
    have HB1:=Lib.hid hb1
    have HK1:=Lib.hid hk1
    have HM1:=Lib.hid hm1
    have HIN1:=Lib.hid hin1
    have hbl1:=heap_lt hb1
    clear hW1 hbr hb1 hkr1 hk1 hm1 hin1 s0 s1 s3 g1
    refine wpIn_wide.2 (wp_region_noPanic ?_)
    refine wp_region_sink_at (fun w'=>w'.cell? ⟨b,0,none⟩=some (.int .i64 L.last)∧w'.cell? ⟨b,3,none⟩=some (.slice As 0 cs)) (by kernel_rfl) rfl (by kernel_rfl) ⟨c0,c3⟩ (fun hHeld=>?_)
    simp only[List.dropLast]
    refine takeS 0 118 ?_
    refine takeS 1 119 ?_
    refine takeS 2 120 ?_
    refine takeS 3 121 ?_
    refine takeS 4 122 ?_
    refine takeS 5 123 ?_
    refine takeS 6 124 ?_
    refine takeS 7 125 ?_
    refine takeS 8 126 ?_
    refine takeS 9 127 ?_
    refine ready1 10 (fun K hK=>?_)
    go_simp
    have hbD:Below W1.heap.size W1 W1.drew:=(Below.refl _ _).drew
    refine(clone_i _ ids _ (HIN1.out.below hbD) (by omega)).mono ?_
    rintro e w2' ⟨v2,rfl,hown2,hbc⟩
    refine hK.out _ _ ⟨(hbc.cell (p:=⟨b,0,none⟩) hbl1).trans hHeld.1,(hbc.cell (p:=⟨b,3,none⟩) hbl1).trans hHeld.2⟩ (fun hHeld1=>?_)
    clear hK hHeld
    obtain⟨A2,k2,rfl,_⟩:=own_slice hown2
    have hz2:W1.heap.size≤w2'.heap.size:=hbc.size
    have HO2:=Lib.hid hown2
    have HBC:=Lib.hid (hbD.trans hbc)
    clear hown2 hbc hbD
    refine takeS 11 129 ?_
    refine ready1 12 (fun K hK=>?_)
    go_simp
    have hb2:b<w2'.heap.size:=by omega
    have hbA:Below w2'.heap.size w2' (w2'.alloc (.cells #[.bool true,.int .i64 L.last,.slice none 0 0,.slice A2 ids.length k2] 49)):=(Below.refl _ _).alloc (Nat.le_refl _) _
    refine hK.out _ _ ⟨(hbA.cell (p:=⟨b,0,none⟩) hb2).trans hHeld1.1,(hbA.cell (p:=⟨b,3,none⟩) hb2).trans hHeld1.2⟩ (fun hHeld3=>?_)
    clear hK hHeld1
    have hrow1:W1.ownsRow 0 49 4 (.slice As 0 cs) 0 (([] :List MStep).flatMap MStep.cells):=by
     have:=own_kept HMW.out.row HK1.out (fun g hg he=>by
      obtain⟨cc',hc'⟩:=own_type HMW.out.row g hg
      rcases he with rfl|rfl
      ·obtain⟨D,⟨es,cl,hb',_⟩,_⟩:=HMW.out.map
       rw[hb']at hc'
       cases hc'
      ·rw[HMW.out.block]at hc'
       simp only[Option.some.injEq,Obj.cells.injEq]at hc'
       exact absurd hc'.2.1 (by decide))
     simpa using this
    have hrow3:=own_below hrow1 (HBC.out.trans (hbA.mono HBC.out.size))
    have hnews:=cells_list_new w2' [.bool true,.int .i64 L.last,.slice none 0 0,.slice A2 ids.length k2] 49
    have HR1:=Lib.hid hrow1
    have HR3:=Lib.hid hrow3
    have HN3:=Lib.hid hnews
    have HBA:=Lib.hid hbA
    clear hrow1 hrow3 hnews hbA
    refine ready1 13 (fun K hK=>?_)
    rw[if_pos (by rfl)]
    refine wp_append_at 131 (by rfl) _ _ 40 rfl 0 49 i0 (.agg #[.bool false,.int .i64 0,.slice none 0 0,.slice none 0 0]) 4 64 Tryd.underlying40 hi0 iz0 iz1 iz2 rfl (by decide) _ 0 _ (by rfl) HR3.out ⟨w2'.heap.size,0,none⟩ 1 1 [.bool true,.int .i64 L.last,.slice none 0 0,.slice A2 ids.length k2] (by rfl) rfl HN3.out (by simp[Value.oneCell']) (by unfold maxLen;omega) (by omega) (Nat.zero_le _) ?_
    intro v' w4 hown' hgrow hat
    obtain⟨Av,kv,rfl,_⟩:=own_slice hown'
    have hnb:(Value.ownBlock (.slice As 0 cs))≠some b:=fun hg=>by
     obtain⟨cc',hc'⟩:=own_type HMW.out.row b hg
     rw[HMW.out.block]at hc'
     simp only[Option.some.injEq,Obj.cells.injEq]at hc'
     exact absurd hc'.2.1 (by decide)
    have hz3:=HBA.out.size
    have hz4:=hgrow.size
    have hg4:Kept (fun g'=>(Value.ownBlock (.slice As 0 cs))=some g') _ w4:=(Kept.grown hgrow).mono (fun g _ hg=>hg.symm)
    have HG4:=Lib.hid hg4
    have HOWN:=Lib.hid hown'
    have HAT:=Lib.hid hat
    refine hK.out _ _ ⟨(hg4.cell (p:=⟨b,0,none⟩) (Nat.lt_of_lt_of_le hb2 hz3) hnb).trans hHeld3.1,(hg4.cell (p:=⟨b,3,none⟩) (Nat.lt_of_lt_of_le hb2 hz3) hnb).trans hHeld3.2⟩ (fun hHeld4=>?_)
    clear hK hHeld3 hgrow hg4 hown' hat
    simp only[Act.put,List.setIfInBounds_toArray,List.set_cons_zero,List.set_cons_succ]
    refine takeS 14 132 ?_
    refine takeS 15 133 ?_
    refine wpAnyH_done (by kernel_rfl) ?_ _
    refine lastPost_normal ?_
    have hblk:w4.heap[b]? =some (.cells #[.int .i64 L.last,.int .i64 ((L.count:Int)-(ids.length:Int)),.map (some mb),.slice As 0 cs,.bool L.done] 55 (0,0)):=by
     rw[HG4.out.block b (Nat.lt_of_lt_of_le hb2 hz3) hnb,HBA.out.block b hb2,HBC.out.block b hbl1]
     exact HB1.out
    have fr3:=free_of_block (j:=3) hblk
    have HBLK:=Lib.hid hblk
    clear hblk
    refine wpOp_step rfl (fun K hK=>?_)
    go_simp
    refine hK _ _ ?_
    clear hK
    refine NoPanic.normal ?_
    gi_wp2
    rw[Exit.noGoto_ret]
    obtain⟨Wf,hWf⟩: ∃Wf,w4.setCell ⟨b,3,none⟩ (.slice Av 1 kv)=Wf:=⟨_,rfl⟩
    have hS5:Kept (fun g=>g=b) w4 Wf:=by rw[←hWf];exact(Kept.refl (fun g=>g=b) w4).setCell ⟨b,3,none⟩ _ rfl
    have hbF:Wf.heap[b]? =some (.cells #[.int .i64 L.last,.int .i64 ((L.count:Int)-(ids.length:Int)),.map (some mb),.slice Av 1 kv,.bool L.done] 55 (0,0)):=by
     rw[←hWf];exact block_set HBLK.out _
    rw[hWf]
    have hB1A:=HBC.out.trans (HBA.out.mono HBC.out.size)
    have hKA:Kept (fun g'=>(Value.ownBlock (.slice As 0 cs))=some g') W1 w4:=(Kept.of_below (O:=fun g'=>(Value.ownBlock (.slice As 0 cs))=some g') hB1A).trans HG4.out (fun _ _ h=>h)
    have hK5:Kept (fun g'=>g'=b∨g'=mb∨(Value.ownBlock (.slice As 0 cs))=some g') W Wf:=
     ((HK1.out.mono (O':=fun g'=>g'=b∨g'=mb∨(Value.ownBlock (.slice As 0 cs))=some g') (fun g _ h=>h.elim (fun e=>.inr (.inl e)) .inl)).trans hKA (fun g _ h=>.inr (.inr h))).trans hS5 (fun g _ h=>.inl h)
    have hOlt: ∀g',(g'=b∨g'=mb∨(Value.ownBlock (.slice As 0 cs))=some g')→O g':=fun g' h=>by
     rcases h with rfl|rfl|h
     ·exact HM.out.inb
     ·exact HM.out.inm
     ·exact HM.out.rowb g' h
    have hD5:Wf.heap[D]? =some (.deferred (some [])):=(hK5.block D (heap_lt HK.out) (fun h=>by
     have:=HM.out.own D (hOlt D h)
     have:=HW2.out.size
     omega)).trans HK.out
    have hmr:(Value.ownBlock (.slice As 0 cs))≠some mb:=fun hg=>by
     obtain⟨D,⟨es,cl,hb',_⟩,_⟩:=HMW.out.map
     obtain⟨c',hc'⟩:=own_type HMW.out.row mb hg
     rw[hb']at hc'
     cases hc'
    have hkeep: ∀{e:TypeId} {v:Value} {n:Nat} {xs:List Value},w2'.ownsRow W1.heap.size e 1 v n xs→Wf.ownsRow 0 e 1 v n xs:=fun {e v n xs} ho=>by
     have h1:=own_below ho HBA.out
     have h2:=own_kept h1 HG4.out (fun g hg hg'=>by
      have:=(own_lt HR1.out g hg').2
      have:=(own_lt ho g hg).1
      omega)
     exact own_mono (own_kept h2 hS5 (fun g hg hg'=>by have h1:W1.heap.size≤g:=(own_lt ho g hg).1;omega)) (Nat.zero_le _)
    have hcnt:((L.count-ids.length:Nat):Int)=(L.count:Int)-(ids.length:Int):=Int.ofNat_sub hcl
    have hpush:=HMW.out.push (L':=L.addDel ids) (w5:=Wf) (sv':=.slice Av 1 kv) (m':=⟨.slice none 0 0,.slice A2 ids.length k2,⟨true,L.last,[],ids⟩⟩) hK5
     (by simp only[ELog.addDel];rw[hcnt];exact hbF)
     ((HM1.out.kept (hKA) hmr).kept hS5 (Ne.symm hbmb))
     (by
      have:=own_kept HOWN.out hS5 (fun g hg hg'=>by
       obtain⟨c',hc'⟩:=own_type HOWN.out g hg
       rw[hg',HBLK.out]at hc'
       simp only[Option.some.injEq,Obj.cells.injEq]at hc'
       exact absurd hc'.2.1 (by decide))
      simpa [MStep.cells] using this)
     (by
      rcases HAT.out with e|e
      ·exact .inl e
      ·refine .inr ⟨_,e,?_⟩
       have:=HBA.out.size
       have:=HK1.out.size
       have hsz:(w2'.alloc (.cells #[.bool true,.int .i64 L.last,.slice none 0 0,.slice A2 ids.length k2] 49)).heap.size=w2'.heap.size+1:=by simp
       omega)
     rfl
     ⟨own_mono (World.ownsRow_nil _ _ _ _) (Nat.zero_le 0),(fun g hg=>by cases hg),hkeep HO2.out,fun g hg=>by have h1:W1.heap.size≤g:=(own_lt HO2.out g hg).1;have:=HK1.out.size;omega⟩
    refine⟨by simp,.inl ⟨_,_,rfl,run_takeDeferred hD5,?_⟩⟩
    refine⟨_,results_tmp2 rfl _ _ _,rfl,?_⟩
    exact forget_end (LogAt.of_mem hpush) hD5 HB.out hK5 hOlt (by have:=HW2.out.size;omega)
 case stop=>
  rintro D c pre W hD ⟨hpre,_⟩ ⟨rfl,y,rfl,_⟩ hK
  rw[hb]at hpre
  have:=hpre.length_le
  simp at this
set_option maxRecDepth 100000 in
set_option maxHeartbeats 4000000 in
theorem forget_newB {O Oi:Nat→Prop} (b:Nat) (L:ELog) (iv:Value) (ids:List Int) (w:World) (hL:LogAt O w b L) (hi:IntsIn Oi w iv ids) (hlen:ids.length≤140737488355328) (hwf: ∀x∈ids,(Lit.int .i64 x).wf=true) (hd:L.done=false) (mp:List EStep) (s:EStep) (hs:L.steps=mp++ [s]) (hsd:s.del=false) (hbound:s.hints.length≤65536) (hmp:mp.length≤262144) (hb:badGo L [] ids= []) (he:0<ids.length) (ht:ids.length≤65536) (hf:mp.length+1<262144) (hgl:L.gone.length≤1073741824) (hcn:L.count≤1073741824) (hcl:ids.length≤L.count) (hiO: ∀g,Oi g→¬O g):
  Calls Tryd.prog 8 #[.pointer (some ⟨b,0,none⟩),iv] w fun e w'=>e= .returned (.tuple #[.int .i64 (ids.length:Int),.int .i64 0])∧LogAt (fun g=>O g∨w.heap.size≤g∧g<w'.heap.size) w' b (L.addDel ids)∧Kept O w w':=by
 have hw2:Below w.heap.size w ((((w.alloc (.cells #[.int .i64 0] 3)).alloc (.cells #[.bool false] 4)).alloc (.cells #[.pointer (some ⟨b,0,none⟩)] 25)).alloc (.cells #[iv] 30)):=((((Below.refl _ w).alloc (Nat.le_refl _) _).alloc (by simp) _).alloc (by simp;omega) _).alloc (by simp;omega) _
 have hbi:((((w.alloc (.cells #[.int .i64 0] 3)).alloc (.cells #[.bool false] 4)).alloc (.cells #[.pointer (some ⟨b,0,none⟩)] 25)).alloc (.cells #[iv] 30)).cell? ⟨w.heap.size+1+1+1,0,none⟩=some iv:=by
  have:=cell_new (((w.alloc (.cells #[.int .i64 0] 3)).alloc (.cells #[.bool false] 4)).alloc (.cells #[.pointer (some ⟨b,0,none⟩)] 25)) #[iv] 30 0
  simpa using this
 have hbl:((((w.alloc (.cells #[.int .i64 0] 3)).alloc (.cells #[.bool false] 4)).alloc (.cells #[.pointer (some ⟨b,0,none⟩)] 25)).alloc (.cells #[iv] 30)).cell? ⟨w.heap.size+1+1,0,none⟩=some (.pointer (some ⟨b,0,none⟩)):=by
  rw[((Below.refl _ _).alloc (Nat.le_refl _) _).cell (p:=⟨w.heap.size+1+1,0,none⟩) (by simp)]
  have:=cell_new ((w.alloc (.cells #[.int .i64 0] 3)).alloc (.cells #[.bool false] 4)) #[.pointer (some ⟨b,0,none⟩)] 25 0
  simpa using this
 have bO:Boxed ((((w.alloc (.cells #[.int .i64 0] 3)).alloc (.cells #[.bool false] 4)).alloc (.cells #[.pointer (some ⟨b,0,none⟩)] 25)).alloc (.cells #[iv] 30)) w.heap.size 3 (.int .i64 0):=(((Boxed.new w 3 (.int .i64 0)).alloc _).alloc _).alloc _
 have bB:Boxed ((((w.alloc (.cells #[.int .i64 0] 3)).alloc (.cells #[.bool false] 4)).alloc (.cells #[.pointer (some ⟨b,0,none⟩)] 25)).alloc (.cells #[iv] 30)) (w.heap.size+1) 4 (.bool false):=by
  have h:=((Boxed.new (w.alloc (.cells #[.int .i64 0] 3)) 4 (.bool false)).alloc (.cells #[.pointer (some ⟨b,0,none⟩)] 25)).alloc (.cells #[iv] 30)
  rwa [World.size_alloc]at h
 have HST:=Lib.hid (none_stops (w.heap.size+1+1+1) (w.heap.size+1+1) b L ids iv _ hbi hbl (hi.below hw2) hlen hwf (hL.below hw2))
 obtain⟨w2,hw2e⟩: ∃w2,((((w.alloc (.cells #[.int .i64 0] 3)).alloc (.cells #[.bool false] 4)).alloc (.cells #[.pointer (some ⟨b,0,none⟩)] 25)).alloc (.cells #[iv] 30))=w2:=⟨_,rfl⟩
 have hz2:w2.heap.size=w.heap.size+4:=by rw[←hw2e];simp
 rw[hw2e]at HST hw2 bO bB
 have HW2:=Lib.hid hw2
 have HZ2:=Lib.hid hz2
 have HE2:=Lib.hid hw2e
 have BO:=Lib.hid bO
 have BB:=Lib.hid bB
 have HL:=Lib.hid hL
 have HI:=Lib.hid hi
 have HWF:=Lib.hid hwf
 obtain⟨A,ci,rfl,hci,_⟩:=hi
 obtain⟨mb,sv,ms,hm⟩:=hL
 obtain⟨c0,c1,c2,c3,c4⟩:=hm.cells
 have hbL:=hm.own b hm.inb
 rw[hd]at c4
 have HD:=Lib.hid hd
 have HM:=Lib.hid hm
 obtain⟨msp,m,g,cs,rfl,hms,rfl,hpl,hg,hOg,e0,e3,hat⟩:=last_cells hm hs
 obtain⟨A3,k3,hhv,hk3⟩:=own_slice hat.hints
 rw[hhv,hms]at e3
 rw[hsd]at e0
 have HMS:=Lib.hid hms
 have HSD:=Lib.hid hsd
 have HHV:=Lib.hid hhv
 have HAT:=Lib.hid hat
 have HPL:=Lib.hid hpl
 have HSS:=Lib.hid hs
 have hsl:=hbound
 clear hms hsd hhv hat hpl hs
 obtain⟨i0,hi0,iz0,iz1,iz2⟩:=info_parts info_step
 clear hw2 hbi hbl hz2 hw2e bO bB hwf hd hm c0 c1 c2
 refine(callsIn_wide (n:=9)).1 ?_
 refine callsIn_of_wp_marks Tryd.func8 rfl trivial ?_ rfl
 simp only[Tryd.ntmps8,List.size_toArray,List.length_cons,List.length_nil,Nat.reduceAdd,Nat.reduceSub,Array.replicate_succ,Array.replicate_zero,List.push_toArray,List.append_toArray,List.nil_append,List.cons_append]
 gi_wp2
 refine wpIn_wide.2 (wp_scope_straight ((wpIn_wide (n:=9)).1 ?_))
 gi_wp2
 refine wpIn_label ?_
 gi_wp2_with (refine⟨trivial,?_⟩;gi_at_call 19;refine(none_in b _ _ _ _).mono ?_;rintro e w' ⟨rfl,rfl⟩)
 rw[HE2.out]
 refine wpIn_rangeFunc_ownG rfl (by omega) (gf:=36) (lb:= #[.pointer (some ⟨w.heap.size+1+1+1,0,none⟩),.pointer (some ⟨w.heap.size+1+1,0,none⟩)]) rfl trivial (enters_of Tryd.func36 (by kernel_rfl) rfl)
  HST.out (fun h k=>h.trans k) (fun W l o o' _ h hc hw=>KpC.putObj W l o o' h hc hw) (Below.refl _ _) (fun _=>rfl)
  (fun pre W=>(Boxed W w.heap.size 3 (.int .i64 0)∧Boxed W (w.heap.size+1) 4 (.bool false))∧Below w.heap.size w W∧pre= [])
  (fun c pre W=>c= .exit 1∧∃x,pre= [x]∧Boxed W w.heap.size 3 (.int .i64 x)∧Boxed W (w.heap.size+1) 4 (.bool true)∧Below w.heap.size w W)
  (OwnFrom.and (OwnFrom.and (Own.from (boxed_own _ _ _) _) (Own.from (boxed_own _ _ _) _)) (OwnFrom.and (ownFrom_below (Nat.le_refl _) (by have:=HZ2.out;omega)) (ownFrom_pure _ _)))
  (fun c pre X Y row hS hg hr=>by
   obtain⟨hc,x,hx,h1,h2,hB⟩:=hS
   exact⟨hc,x,hx,Own.from (boxed_own (β:=Unit) w.heap.size 3 (fun _=>.int .i64 x)) w2.heap.size () X Y row h1 hg hr,Own.from (boxed_own (β:=Unit) (w.heap.size+1) 4 (fun _=>.bool true)) w2.heap.size () X Y row h2 hg hr,
    ownFrom_below (β:=Unit) (Nat.le_refl _) (by have:=HZ2.out;omega) () X Y row hB hg hr⟩)
  ⟨⟨BO.out,BB.out⟩,HW2.out,rfl⟩
  (fun x=>{ tmps:= #[.pointer (some ⟨b,0,none⟩),.slice A ids.length ci,undef,undef,.int .i64 0,.int .i64 0,.pointer (some ⟨w.heap.size,0,none⟩),.pointer (some ⟨w.heap.size+1,0,none⟩),.int .i64 x,undef,undef,undef,undef,undef,.bool false,.pointer (some ⟨b,0,none⟩),.bool false,.bool false,.pointer (some ⟨b,0,none⟩),.pointer (some ⟨b,0,none⟩),.pointer (some ⟨b,4,none⟩),.bool false,.pointer (some ⟨b,0,none⟩),.slice A ids.length ci,.func (.func 36) #[] #[.pointer (some ⟨w.heap.size+1+1+1,0,none⟩),.pointer (some ⟨w.heap.size+1+1,0,none⟩)],.int .i64 x,undef,undef,undef,undef,undef,undef,undef,undef,undef,undef,undef,undef,undef,undef,undef,undef,undef,undef,undef,undef,undef,undef,undef,undef,undef,undef,undef,undef,undef,undef,undef,undef,undef,undef,undef,undef,undef,undef,undef,undef,undef,undef,undef,undef,undef,undef,undef,undef,undef,undef,undef,undef,undef,undef,undef,undef,undef,undef,undef,undef,undef,undef,undef,undef,undef,undef,undef,undef,undef,undef,undef,undef,undef,undef,undef,undef,undef,undef,undef,undef,undef,undef,undef,undef,undef,undef,undef,undef,undef,undef,undef,undef,undef,undef,undef,undef,undef,undef,undef,undef,undef,undef,undef,undef,undef,undef,undef,undef,undef,undef],defers:= [] }) ?assign ?body ?done ?stop
 case assign=>
  intro l x W K hK
  gi_wp2
  exact hK
 case body=>
  rintro l pre x W ⟨⟨h1,h2⟩,hB,rfl⟩ _
  have q1:=h1.cell
  have q2:=h1.frozen
  have q3:=h2.cell
  have q4:=h2.frozen
  have hlt1:=h1.lt
  have hlt2:=h2.lt
  gi_wp2
  refine⟨((KeepsOthers.setCell _ _ _).trans (KeepsOthers.setCell _ _ _)).from _,rfl,x,rfl,(h1.set _).other (by omega) _,?_,(hB.setCell (p:=⟨w.heap.size,0,none⟩) (Nat.le_refl _) _).setCell (p:=⟨w.heap.size+1,0,none⟩) (Nat.le_succ _) _⟩
  exact(h2.other (by omega) _).set _
 case done=>
  rintro D ys W hD rfl ⟨⟨h1,h2⟩,hB,_⟩ hK
  have q1:=h1.cell
  have q2:=h2.cell
  have hmw:LogMem O W b L mb (.slice (some ⟨g,0,none⟩) (mp.length+1) cs) (msp++ [m]):=HM.out.kept (O':=fun _=>False) ⟨hB.os,hB.tape,hB.output,hB.size,fun k hk _=>hB.block k hk⟩ (fun _ _ h=>h)
  obtain⟨k0,k1,k2,k3,k4⟩:=hmw.cells
  have hbk:W.heap[b]? =_:=hmw.block
  have f1:=free_of_block (j:=1) hbk
  have hinW:IntsIn Oi W (.slice A ids.length ci) ids:=HI.out.below hB
  have hbmb:b≠mb:=fun e=>by
   obtain⟨D,⟨es,cl,hb',_⟩,_⟩:=hmw.map
   rw[←e,hmw.block]at hb'
   cases hb'
  have qe:((ids.length:Int)==0)=false:=by rw[beq_eq_false_iff_ne];omega
  have qt:decide ((65536:Int)<(ids.length:Int))=false:=by simp;omega
  have qt2:decide (65536<ids.length)=false:=by simp;omega
  have q5:=(hB.cell (p:=⟨g,mp.length*4,none⟩) hg).trans e0
  have q6:=(hB.cell (p:=⟨g,mp.length*4+3,none⟩) hg).trans e3
  have qf:decide ((262144:Int)≤(mp.length:Int)+1)=false:=by simp;omega
  have hzW:=hB.size
  have HB:=Lib.hid hB
  have HK:=Lib.hid hK
  have HMW:=Lib.hid hmw
  have HIW:=Lib.hid hinW
  clear hB hK c3 c4 h1 h2 hmw hinW hbk
  gi_wp2
  gi_loopw [79] (fun i wr=> ∃k:Nat,k≤ids.length∧i= .int .i64 k∧Hid (Kept (fun g=>g=mb) W wr)∧Hid (MapAt wr mb (L.gone.length+k) (goneF (L.gone++ids.take k)))) (fun i _=>ids.length-(intOf i).toNat)
  case atStart=>exact⟨0,Nat.zero_le _,rfl,Lib.hid (Kept.refl _ _),Lib.hid (by simpa using HMW.out.map)⟩
  case round=>
   obtain⟨k,hk,rfl,HKW,HMP⟩:=hrel
   have r2:=(HKW.out.cell (p:=⟨b,2,none⟩) (heap_lt HMW.out.block) hbmb).trans k2
   by_cases hlt:k<ids.length
   ·obtain⟨x,hxk⟩:=getElem_of hlt
    have hinr:IntsIn Oi wr (.slice A ids.length ci) ids:=HIW.out.kept HKW.out (fun g hg e=>hiO g hg (e▸HMW.out.inm))
    obtain⟨A',c',hAc,_,_,hxs⟩:=hinr
    simp only[Value.slice.injEq,true_and]at hAc
    obtain⟨rfl,rfl⟩:=hAc
    obtain⟨gi,oi,rfl,hgi,hgo,d0⟩:=hxs k x hxk
    have hwx:=HWF.out x (List.mem_of_getElem? hxk)
    have htk:ids.take (k+1)=ids.take k++ [x]:=by rw[List.take_add_one,hxk];rfl
    have HTK:=Lib.hid htk
    have HWX:=Lib.hid hwx
    clear hxs hxk htk hwx k0 k1 k2 k3 k4 f1
    gi_wp2_with (gi_at_mapUpdate;refine wpListIn_put HMP.out rfl _ _ _ rfl rfl (by unfold maxLen;omega) x 1 rfl rfl HWX.out rfl ?_;intro w4 hm4 hg4)
    have hm4':MapAt w4 mb (L.gone.length+(k+1)) (goneF (L.gone++ids.take (k+1))):=by rw[HTK.out,←List.append_assoc,←goneF_put];exact hm4
    have hk4:Kept (fun g=>g=mb) W w4:=HKW.out.trans (Kept.grown hg4) (fun g _ h=>by cases h;rfl)
    have HM4:=Lib.hid hm4'
    have HK4:=Lib.hid hk4
    clear hm4 hm4' hk4 hg4
    gi_wp2
    go_roundw
    case rel=>exact⟨k+1,by omega,by go_num,HK4,HM4⟩
    case measure=>simp[intOf];omega
   ·obtain rfl:k=ids.length:=by omega
    have s0:=(HKW.out.cell (p:=⟨b,0,none⟩) (heap_lt HMW.out.block) hbmb).trans k0
    have s1:=(HKW.out.cell (p:=⟨b,1,none⟩) (heap_lt HMW.out.block) hbmb).trans k1
    have s3:=(HKW.out.cell (p:=⟨b,3,none⟩) (heap_lt HMW.out.block) hbmb).trans k3
    have g1:=(HKW.out.frozen (p:=⟨b,1,none⟩) (heap_lt HMW.out.block) hbmb).trans f1
    clear k0 k1 k2 k3 k4 f1 r2
    gi_wp2
    obtain⟨W1,hW1⟩: ∃W1,wr.setCell ⟨b,1,none⟩ (.int .i64 ((L.count:Int)-(ids.length:Int)))=W1:=⟨_,rfl⟩
    have hbr:wr.heap[b]? =_:=(HKW.out.block b (heap_lt HMW.out.block) hbmb).trans HMW.out.block
    have hb1:W1.heap[b]? =some (.cells #[.int .i64 L.last,.int .i64 ((L.count:Int)-(ids.length:Int)),.map (some mb),.slice (some ⟨g,0,none⟩) (mp.length+1) cs,.bool L.done] 55 (0,0)):=by
     rw[←hW1];exact block_set hbr _
    have hkr1:Kept (fun g=>g=b) wr W1:=by rw[←hW1];exact(Kept.refl (fun g=>g=b) wr).setCell ⟨b,1,none⟩ _ rfl
    have hk1:Kept (fun g=>g=mb∨g=b) W W1:=(HKW.out.mono (fun g _ h=>.inl h)).trans hkr1 (fun g _ h=>.inr h)
    have hm1:MapAt W1 mb (L.gone++ids).length (goneF (L.gone++ids)):=by
     have:=HMP.out.kept hkr1 (Ne.symm hbmb)
     rwa [List.take_length,←List.length_append]at this
    have hin1:IntsIn Oi W1 (.slice A ids.length ci) ids:=HIW.out.kept hk1 (fun g hg e=>hiO g hg (e.elim (fun h=>h▸HMW.out.inm) (fun h=>h▸HMW.out.inb)))
    have c0:=(cell_of_block (j:=0) hb1).trans rfl
    have c3:=(cell_of_block (j:=3) hb1).trans rfl
    rw[hW1]
    have HB1:=Lib.hid hb1
    have HK1:=Lib.hid hk1
    have HM1:=Lib.hid hm1
    have HIN1:=Lib.hid hin1
    have hbl1:=heap_lt hb1
    clear hW1 hbr hb1 hkr1 hk1 hm1 hin1 s0 s1 s3 g1
    refine wpIn_wide.2 (wp_region_noPanic ?_)
    refine wp_region_sink_at (fun w'=>w'.cell? ⟨b,0,none⟩=some (.int .i64 L.last)∧w'.cell? ⟨b,3,none⟩=some (.slice (some ⟨g,0,none⟩) (mp.length+1) cs)) (by kernel_rfl) rfl (by kernel_rfl) ⟨c0,c3⟩ (fun hHeld=>?_)
    simp only[List.dropLast]
    refine takeS 0 118 ?_
    refine takeS 1 119 ?_
    refine takeS 2 120 ?_
    refine takeS 3 121 ?_
    refine takeS 4 122 ?_
    refine takeS 5 123 ?_
    refine takeS 6 124 ?_
    refine takeS 7 125 ?_
    refine takeS 8 126 ?_
    refine takeS 9 127 ?_
    refine ready1 10 (fun K hK=>?_)
    go_simp
    have hbD:Below W1.heap.size W1 W1.drew:=(Below.refl _ _).drew
    refine(clone_i _ ids _ (HIN1.out.below hbD) (by omega)).mono ?_
    rintro e w2' ⟨v2,rfl,hown2,hbc⟩
    refine hK.out _ _ ⟨(hbc.cell (p:=⟨b,0,none⟩) hbl1).trans hHeld.1,(hbc.cell (p:=⟨b,3,none⟩) hbl1).trans hHeld.2⟩ (fun hHeld1=>?_)
    clear hK hHeld
    obtain⟨A2,k2,rfl,_⟩:=own_slice hown2
    have hz2:W1.heap.size≤w2'.heap.size:=hbc.size
    have HO2:=Lib.hid hown2
    have HBC:=Lib.hid (hbD.trans hbc)
    clear hown2 hbc hbD
    refine takeS 11 129 ?_
    refine ready1 12 (fun K hK=>?_)
    go_simp
    have hb2:b<w2'.heap.size:=by omega
    have hbA:Below w2'.heap.size w2' (w2'.alloc (.cells #[.bool true,.int .i64 L.last,.slice none 0 0,.slice A2 ids.length k2] 49)):=(Below.refl _ _).alloc (Nat.le_refl _) _
    refine hK.out _ _ ⟨(hbA.cell (p:=⟨b,0,none⟩) hb2).trans hHeld1.1,(hbA.cell (p:=⟨b,3,none⟩) hb2).trans hHeld1.2⟩ (fun hHeld3=>?_)
    clear hK hHeld1
    have hrow1:W1.ownsRow 0 49 4 (.slice (some ⟨g,0,none⟩) (mp.length+1) cs) (mp.length+1) ((msp++ [m]).flatMap MStep.cells):=by
     have:=own_kept HMW.out.row HK1.out (fun g hg he=>by
      obtain⟨cc',hc'⟩:=own_type HMW.out.row g hg
      rcases he with rfl|rfl
      ·obtain⟨D,⟨es,cl,hb',_⟩,_⟩:=HMW.out.map
       rw[hb']at hc'
       cases hc'
      ·rw[HMW.out.block]at hc'
       simp only[Option.some.injEq,Obj.cells.injEq]at hc'
       exact absurd hc'.2.1 (by decide))
     rwa [show(msp++ [m]).length=mp.length+1 by simp[HPL.out]]at this
    have hrow3:=own_below hrow1 (HBC.out.trans (hbA.mono HBC.out.size))
    have hnews:=cells_list_new w2' [.bool true,.int .i64 L.last,.slice none 0 0,.slice A2 ids.length k2] 49
    have HR1:=Lib.hid hrow1
    have HR3:=Lib.hid hrow3
    have HN3:=Lib.hid hnews
    have HBA:=Lib.hid hbA
    clear hrow1 hrow3 hnews hbA
    refine ready1 13 (fun K hK=>?_)
    rw[if_pos (by rfl)]
    refine wp_append_at 131 (by rfl) _ _ 40 rfl 0 49 i0 (.agg #[.bool false,.int .i64 0,.slice none 0 0,.slice none 0 0]) 4 64 Tryd.underlying40 hi0 iz0 iz1 iz2 rfl (by decide) _ (mp.length+1) _ (by rfl) HR3.out ⟨w2'.heap.size,0,none⟩ 1 1 [.bool true,.int .i64 L.last,.slice none 0 0,.slice A2 ids.length k2] (by rfl) rfl HN3.out (by simp[Value.oneCell']) (by unfold maxLen;omega) (by omega) (Nat.zero_le _) ?_
    intro v' w4 hown' hgrow hat
    obtain⟨Av,kv,rfl,_⟩:=own_slice hown'
    have hnb:(Value.ownBlock (.slice (some ⟨g,0,none⟩) (mp.length+1) cs))≠some b:=fun hg=>by
     obtain⟨cc',hc'⟩:=own_type HMW.out.row b hg
     rw[HMW.out.block]at hc'
     simp only[Option.some.injEq,Obj.cells.injEq]at hc'
     exact absurd hc'.2.1 (by decide)
    have hz3:=HBA.out.size
    have hz4:=hgrow.size
    have hg4:Kept (fun g'=>(Value.ownBlock (.slice (some ⟨g,0,none⟩) (mp.length+1) cs))=some g') _ w4:=(Kept.grown hgrow).mono (fun g _ hg=>hg.symm)
    have HG4:=Lib.hid hg4
    have HOWN:=Lib.hid hown'
    have HAT:=Lib.hid hat
    refine hK.out _ _ ⟨(hg4.cell (p:=⟨b,0,none⟩) (Nat.lt_of_lt_of_le hb2 hz3) hnb).trans hHeld3.1,(hg4.cell (p:=⟨b,3,none⟩) (Nat.lt_of_lt_of_le hb2 hz3) hnb).trans hHeld3.2⟩ (fun hHeld4=>?_)
    clear hK hHeld3 hgrow hg4 hown' hat
    simp only[Act.put,List.setIfInBounds_toArray,List.set_cons_zero,List.set_cons_succ]
    refine takeS 14 132 ?_
    refine takeS 15 133 ?_
    refine wpAnyH_done (by kernel_rfl) ?_ _
    refine lastPost_normal ?_
    have hblk:w4.heap[b]? =some (.cells #[.int .i64 L.last,.int .i64 ((L.count:Int)-(ids.length:Int)),.map (some mb),.slice (some ⟨g,0,none⟩) (mp.length+1) cs,.bool L.done] 55 (0,0)):=by
     rw[HG4.out.block b (Nat.lt_of_lt_of_le hb2 hz3) hnb,HBA.out.block b hb2,HBC.out.block b hbl1]
     exact HB1.out
    have fr3:=free_of_block (j:=3) hblk
    have HBLK:=Lib.hid hblk
    clear hblk
    refine wpOp_step rfl (fun K hK=>?_)
    go_simp
    refine hK _ _ ?_
    clear hK
    refine NoPanic.normal ?_
    gi_wp2
    rw[Exit.noGoto_ret]
    obtain⟨Wf,hWf⟩: ∃Wf,w4.setCell ⟨b,3,none⟩ (.slice Av (mp.length+1+1) kv)=Wf:=⟨_,rfl⟩
    have hS5:Kept (fun g=>g=b) w4 Wf:=by rw[←hWf];exact(Kept.refl (fun g=>g=b) w4).setCell ⟨b,3,none⟩ _ rfl
    have hbF:Wf.heap[b]? =some (.cells #[.int .i64 L.last,.int .i64 ((L.count:Int)-(ids.length:Int)),.map (some mb),.slice Av (mp.length+1+1) kv,.bool L.done] 55 (0,0)):=by
     rw[←hWf];exact block_set HBLK.out _
    rw[hWf]
    have hB1A:=HBC.out.trans (HBA.out.mono HBC.out.size)
    have hKA:Kept (fun g'=>(Value.ownBlock (.slice (some ⟨g,0,none⟩) (mp.length+1) cs))=some g') W1 w4:=(Kept.of_below (O:=fun g'=>(Value.ownBlock (.slice (some ⟨g,0,none⟩) (mp.length+1) cs))=some g') hB1A).trans HG4.out (fun _ _ h=>h)
    have hK5:Kept (fun g'=>g'=b∨g'=mb∨(Value.ownBlock (.slice (some ⟨g,0,none⟩) (mp.length+1) cs))=some g') W Wf:=
     ((HK1.out.mono (O':=fun g'=>g'=b∨g'=mb∨(Value.ownBlock (.slice (some ⟨g,0,none⟩) (mp.length+1) cs))=some g') (fun g _ h=>h.elim (fun e=>.inr (.inl e)) .inl)).trans hKA (fun g _ h=>.inr (.inr h))).trans hS5 (fun g _ h=>.inl h)
    have hOlt: ∀g',(g'=b∨g'=mb∨(Value.ownBlock (.slice (some ⟨g,0,none⟩) (mp.length+1) cs))=some g')→O g':=fun g' h=>by
     rcases h with rfl|rfl|h
     ·exact HM.out.inb
     ·exact HM.out.inm
     ·exact HM.out.rowb g' h
    have hD5:Wf.heap[D]? =some (.deferred (some [])):=(hK5.block D (heap_lt HK.out) (fun h=>by
     have:=HM.out.own D (hOlt D h)
     have:=HW2.out.size
     omega)).trans HK.out
    have hmr:(Value.ownBlock (.slice (some ⟨g,0,none⟩) (mp.length+1) cs))≠some mb:=fun hg=>by
     obtain⟨D,⟨es,cl,hb',_⟩,_⟩:=HMW.out.map
     obtain⟨c',hc'⟩:=own_type HMW.out.row mb hg
     rw[hb']at hc'
     cases hc'
    have hkeep: ∀{e:TypeId} {v:Value} {n:Nat} {xs:List Value},w2'.ownsRow W1.heap.size e 1 v n xs→Wf.ownsRow 0 e 1 v n xs:=fun {e v n xs} ho=>by
     have h1:=own_below ho HBA.out
     have h2:=own_kept h1 HG4.out (fun g hg hg'=>by
      have:=(own_lt HR1.out g hg').2
      have:=(own_lt ho g hg).1
      omega)
     exact own_mono (own_kept h2 hS5 (fun g hg hg'=>by have h1:W1.heap.size≤g:=(own_lt ho g hg).1;omega)) (Nat.zero_le _)
    have hcnt:((L.count-ids.length:Nat):Int)=(L.count:Int)-(ids.length:Int):=Int.ofNat_sub hcl
    have hpush:=HMW.out.push (L':=L.addDel ids) (w5:=Wf) (sv':=.slice Av (mp.length+1+1) kv) (m':=⟨.slice none 0 0,.slice A2 ids.length k2,⟨true,L.last,[],ids⟩⟩) hK5
     (by simp only[ELog.addDel];rw[hcnt];exact hbF)
     ((HM1.out.kept (hKA) hmr).kept hS5 (Ne.symm hbmb))
     (by
      have:=own_kept HOWN.out hS5 (fun g hg hg'=>by
       obtain⟨c',hc'⟩:=own_type HOWN.out g hg
       rw[hg',HBLK.out]at hc'
       simp only[Option.some.injEq,Obj.cells.injEq]at hc'
       exact absurd hc'.2.1 (by decide))
      rw[show(msp++ [m]).length=mp.length+1 by simp[HPL.out]];exact this)
     (by
      rcases HAT.out with e|e
      ·exact .inl e
      ·refine .inr ⟨_,e,?_⟩
       have:=HBA.out.size
       have:=HK1.out.size
       have hsz:(w2'.alloc (.cells #[.bool true,.int .i64 L.last,.slice none 0 0,.slice A2 ids.length k2] 49)).heap.size=w2'.heap.size+1:=by simp
       omega)
     rfl
     ⟨own_mono (World.ownsRow_nil _ _ _ _) (Nat.zero_le 0),(fun g hg=>by cases hg),hkeep HO2.out,fun g hg=>by have h1:W1.heap.size≤g:=(own_lt HO2.out g hg).1;have:=HK1.out.size;omega⟩
    refine⟨by simp,.inl ⟨_,_,rfl,run_takeDeferred hD5,?_⟩⟩
    refine⟨_,results_tmp2 rfl _ _ _,rfl,?_⟩
    exact forget_end (LogAt.of_mem hpush) hD5 HB.out hK5 hOlt (by have:=HW2.out.size;omega)
 case stop=>
  rintro D c pre W hD ⟨hpre,_⟩ ⟨rfl,y,rfl,_⟩ hK
  rw[hb]at hpre
  have:=hpre.length_le
  simp at this
end Go.Proofs.YteigjcichmpejaaDoor
