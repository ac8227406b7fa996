/- Forget (package emit): what is refused. -/
import Derived.Test.YteigjcichmpejaaDoorV119
namespace Go.Proofs.YteigjcichmpejaaDoor
open Go.RowKit Go.Shelf Go.Maps
attribute [local go_sem] Oper.semAt_some
set_option maxRecDepth 100000 in
theorem forget_done {O:Nat→Prop} (b:Nat) (L:ELog) (u:Value) (w:World) (h:LogAt O w b L) (hd:L.done=true):
  Calls Tryd.prog 8 #[.pointer (some ⟨b,0,none⟩),u] w fun e w'=>e= .returned (.tuple #[.int .i64 0,.int .i64 171])∧w=w':=by
 obtain⟨mb,sv,ms,h⟩:=h
 obtain⟨c0,c1,c2,c3,c4⟩:=h.cells
 rw[hd]at c4
 clear h c0 c1 c2 c3 hd
 refine(callsIn_wide (n:=9)).1 ?_
 refine callsIn_of_wp_marks Tryd.func8 rfl trivial ?_ rfl
 simp only[Tryd.ntmps8,List.size_toArray,List.length_cons,List.length_nil,Nat.reduceAdd,Nat.reduceSub,Array.replicate_succ,Array.replicate_zero,List.push_toArray,List.append_toArray,List.nil_append,List.cons_append]
 gi_wp2
 refine wpIn_wide.2 (wp_scope_straight ((wpIn_wide (n:=9)).1 ?_))
 gi_wp2
 rw[Exit.noGoto_ret]
 exact⟨_,results_tmp2 rfl _ _ _,rfl,rfl⟩
theorem none_in (b:Nat) (A:Option Addr) (n c:Nat) (w:World):
  CallsIn Fence.wide 8 Tryd.prog 19 #[.pointer (some ⟨b,0,none⟩),.slice A n c] w fun e w'=>e= .returned (.func (.func 36) #[] #[.pointer (some ⟨w.heap.size+1,0,none⟩),.pointer (some ⟨w.heap.size,0,none⟩)])∧(w.alloc (.cells #[.pointer (some ⟨b,0,none⟩)] 25)).alloc (.cells #[.slice A n c] 30)=w':=by
 refine callsIn_of_wp Tryd.func19 rfl trivial ?_ rfl
 simp only[Tryd.ntmps19,List.size_toArray,List.length_cons,List.length_nil,Nat.reduceAdd,Nat.reduceSub,Array.replicate_succ,Array.replicate_zero,List.push_toArray,List.append_toArray,List.nil_append,List.cons_append]
 gi_wp2
 go_ret
 exact⟨rfl,rfl⟩
theorem none_stops {O Oi:Nat→Prop} (Bi Bl b:Nat) (L:ELog) (ids:List Int) (iv:Value) (w:World) (hBi:w.cell? ⟨Bi,0,none⟩=some iv) (hBl:w.cell? ⟨Bl,0,none⟩=some (.pointer (some ⟨b,0,none⟩))) (hi:IntsIn Oi w iv ids) (hlen:ids.length≤140737488355328)
  (hwf: ∀x∈ids,(Lit.int .i64 x).wf=true) (hL:LogAt O w b L):
  SeqStopsK Fence.wide 8 Tryd.prog 36 #[.pointer (some ⟨Bi,0,none⟩),.pointer (some ⟨Bl,0,none⟩)] (fun x:Int=> #[Value.int .i64 x]) (KpC (fun _=>False)) (fun ys=>ys=badGo L [] ids) (fun pre=>pre <+: badGo L [] ids∧pre≠ []) ids.length w:=fun l J Jx W hW hJ _ hY h0=>
 none1_in l Bi Bl b L ids iv J Jx W hJ hY ((hW.cell (p:=⟨Bi,0,none⟩) (World.block_lt_of_cell? w _ hBi)).trans hBi) ((hW.cell (p:=⟨Bl,0,none⟩) (World.block_lt_of_cell? w _ hBl)).trans hBl) (hi.below hW) hlen hwf (hL.below hW) h0
theorem last_cells {O:Nat→Prop} {w:World} {b mb:Nat} {L:ELog} {sv:Value} {ms:List MStep} (h:LogMem O w b L mb sv ms) {mp:List EStep} {s:EStep} (hs:L.steps=mp++ [s]):
  ∃msp m g cs,ms=msp++ [m]∧m.s=s∧sv= .slice (some ⟨g,0,none⟩) (mp.length+1) cs∧msp.length=mp.length∧g<w.heap.size∧O g∧
   w.cell? ⟨g,mp.length*4,none⟩=some (.bool s.del)∧w.cell? ⟨g,mp.length*4+3,none⟩=some m.hv∧m.At O w:=by
 have hst:=h.steps
 rw[hs]at hst
 obtain⟨msp,m1,e1,e2,e3⟩:=List.map_eq_append_iff.1 hst
 obtain⟨m,hm1,hms⟩:=List.map_eq_singleton_iff.1 e3
 subst hm1
 subst e1
 have hlen:msp.length=mp.length:=by rw[←e2,List.length_map]
 have hk:mp.length<(msp++ [m]).length:=by simp;omega
 obtain⟨m',g,hm',_,hat,⟨c,hv⟩,hg,c0,_,_,c3⟩:=step_cells (l:=L.steps) (O:=O) (v:=sv) ⟨h.row,h.steps,h.each⟩ hk
 have e:m'=m:=by
  rw[List.getElem?_append_right (by omega),hlen,Nat.sub_self]at hm'
  simpa using hm'.symm
 subst e
 refine⟨msp,m',g,c,rfl,hms,?_,hlen,hg,h.rowb g (by rw[hv];rfl),?_,c3,hat⟩
 ·rw[hv];simp[hlen]
 ·rw[c0,hms]
set_option maxRecDepth 100000 in
set_option maxHeartbeats 4000000 in
theorem forget_hintA {O Oi:Nat→Prop} (b:Nat) (L:ELog) (iv:Value) (ids:List Int) (w:World) (hL:LogAt O w b L) (hi:IntsIn Oi w iv ids) (hlen:ids.length≤140737488355328) (hwf: ∀x∈ids,(Lit.int .i64 x).wf=true) (hd:L.done=false) (hA:L.steps= []) (x:Int) (hb: ∃r,badGo L [] ids=x::r):
  Calls Tryd.prog 8 #[.pointer (some ⟨b,0,none⟩),iv] w fun e w'=>e= .returned (.tuple #[.int .i64 x,.int .i64 170])∧Below w.heap.size w w':=by
 have hw2:Below w.heap.size w ((((w.alloc (.cells #[.int .i64 0] 3)).alloc (.cells #[.bool false] 4)).alloc (.cells #[.pointer (some ⟨b,0,none⟩)] 25)).alloc (.cells #[iv] 30)):=((((Below.refl _ w).alloc (Nat.le_refl _) _).alloc (by simp) _).alloc (by simp;omega) _).alloc (by simp;omega) _
 have hbi:((((w.alloc (.cells #[.int .i64 0] 3)).alloc (.cells #[.bool false] 4)).alloc (.cells #[.pointer (some ⟨b,0,none⟩)] 25)).alloc (.cells #[iv] 30)).cell? ⟨w.heap.size+1+1+1,0,none⟩=some iv:=by
  have:=cell_new (((w.alloc (.cells #[.int .i64 0] 3)).alloc (.cells #[.bool false] 4)).alloc (.cells #[.pointer (some ⟨b,0,none⟩)] 25)) #[iv] 30 0
  simpa using this
 have hbl:((((w.alloc (.cells #[.int .i64 0] 3)).alloc (.cells #[.bool false] 4)).alloc (.cells #[.pointer (some ⟨b,0,none⟩)] 25)).alloc (.cells #[iv] 30)).cell? ⟨w.heap.size+1+1,0,none⟩=some (.pointer (some ⟨b,0,none⟩)):=by
  rw[((Below.refl _ _).alloc (Nat.le_refl _) _).cell (p:=⟨w.heap.size+1+1,0,none⟩) (by simp)]
  have:=cell_new ((w.alloc (.cells #[.int .i64 0] 3)).alloc (.cells #[.bool false] 4)) #[.pointer (some ⟨b,0,none⟩)] 25 0
  simpa using this
 have bO:Boxed ((((w.alloc (.cells #[.int .i64 0] 3)).alloc (.cells #[.bool false] 4)).alloc (.cells #[.pointer (some ⟨b,0,none⟩)] 25)).alloc (.cells #[iv] 30)) w.heap.size 3 (.int .i64 0):=(((Boxed.new w 3 (.int .i64 0)).alloc _).alloc _).alloc _
 have bB:Boxed ((((w.alloc (.cells #[.int .i64 0] 3)).alloc (.cells #[.bool false] 4)).alloc (.cells #[.pointer (some ⟨b,0,none⟩)] 25)).alloc (.cells #[iv] 30)) (w.heap.size+1) 4 (.bool false):=by
  have h:=((Boxed.new (w.alloc (.cells #[.int .i64 0] 3)) 4 (.bool false)).alloc (.cells #[.pointer (some ⟨b,0,none⟩)] 25)).alloc (.cells #[iv] 30)
  rwa [World.size_alloc]at h
 have HST:=Lib.hid (none_stops (w.heap.size+1+1+1) (w.heap.size+1+1) b L ids iv _ hbi hbl (hi.below hw2) hlen hwf (hL.below hw2))
 obtain⟨w2,hw2e⟩: ∃w2,((((w.alloc (.cells #[.int .i64 0] 3)).alloc (.cells #[.bool false] 4)).alloc (.cells #[.pointer (some ⟨b,0,none⟩)] 25)).alloc (.cells #[iv] 30))=w2:=⟨_,rfl⟩
 have hz2:w2.heap.size=w.heap.size+4:=by rw[←hw2e];simp
 rw[hw2e]at HST hw2 bO bB
 have HW2:=Lib.hid hw2
 have HZ2:=Lib.hid hz2
 have HE2:=Lib.hid hw2e
 have BO:=Lib.hid bO
 have BB:=Lib.hid bB
 have HL:=Lib.hid hL
 have HI:=Lib.hid hi
 have HWF:=Lib.hid hwf
 obtain⟨A,ci,rfl,hci,_⟩:=hi
 obtain⟨mb,sv,ms,hm⟩:=hL
 obtain⟨c0,c1,c2,c3,c4⟩:=hm.cells
 have hbL:=hm.own b hm.inb
 rw[hd]at c4
 have HD:=Lib.hid hd
 have HM:=Lib.hid hm
 have hms0:ms= []:=by
  have:=hm.steps
  rw[hA]at this
  exact List.map_eq_nil_iff.1 this
 subst hms0
 obtain⟨As,cs,rfl,hcs⟩:=own_slice hm.row
 simp only[List.length_nil]at c3
 clear hw2 hbi hbl hz2 hw2e bO bB hwf hd hm c0 c1 c2
 refine(callsIn_wide (n:=9)).1 ?_
 refine callsIn_of_wp_marks Tryd.func8 rfl trivial ?_ rfl
 simp only[Tryd.ntmps8,List.size_toArray,List.length_cons,List.length_nil,Nat.reduceAdd,Nat.reduceSub,Array.replicate_succ,Array.replicate_zero,List.push_toArray,List.append_toArray,List.nil_append,List.cons_append]
 gi_wp2
 refine wpIn_wide.2 (wp_scope_straight ((wpIn_wide (n:=9)).1 ?_))
 gi_wp2
 refine wpIn_label ?_
 gi_wp2_with (refine⟨trivial,?_⟩;gi_at_call 19;refine(none_in b _ _ _ _).mono ?_;rintro e w' ⟨rfl,rfl⟩)
 rw[HE2.out]
 refine wpIn_rangeFunc_ownG rfl (by omega) (gf:=36) (lb:= #[.pointer (some ⟨w.heap.size+1+1+1,0,none⟩),.pointer (some ⟨w.heap.size+1+1,0,none⟩)]) rfl trivial (enters_of Tryd.func36 (by kernel_rfl) rfl)
  HST.out (fun h k=>h.trans k) (fun W l o o' _ h hc hw=>KpC.putObj W l o o' h hc hw) (Below.refl _ _) (fun _=>rfl)
  (fun pre W=>(Boxed W w.heap.size 3 (.int .i64 0)∧Boxed W (w.heap.size+1) 4 (.bool false))∧Below w.heap.size w W∧pre= [])
  (fun c pre W=>c= .exit 1∧∃x,pre= [x]∧Boxed W w.heap.size 3 (.int .i64 x)∧Boxed W (w.heap.size+1) 4 (.bool true)∧Below w.heap.size w W)
  (OwnFrom.and (OwnFrom.and (Own.from (boxed_own _ _ _) _) (Own.from (boxed_own _ _ _) _)) (OwnFrom.and (ownFrom_below (Nat.le_refl _) (by have:=HZ2.out;omega)) (ownFrom_pure _ _)))
  (fun c pre X Y row hS hg hr=>by
   obtain⟨hc,x,hx,h1,h2,hB⟩:=hS
   exact⟨hc,x,hx,Own.from (boxed_own (β:=Unit) w.heap.size 3 (fun _=>.int .i64 x)) w2.heap.size () X Y row h1 hg hr,Own.from (boxed_own (β:=Unit) (w.heap.size+1) 4 (fun _=>.bool true)) w2.heap.size () X Y row h2 hg hr,
    ownFrom_below (β:=Unit) (Nat.le_refl _) (by have:=HZ2.out;omega) () X Y row hB hg hr⟩)
  ⟨⟨BO.out,BB.out⟩,HW2.out,rfl⟩
  (fun x=>{ tmps:= #[.pointer (some ⟨b,0,none⟩),.slice A ids.length ci,undef,undef,.int .i64 0,.int .i64 0,.pointer (some ⟨w.heap.size,0,none⟩),.pointer (some ⟨w.heap.size+1,0,none⟩),.int .i64 x,undef,undef,undef,undef,undef,.bool false,.pointer (some ⟨b,0,none⟩),.bool false,.bool false,.pointer (some ⟨b,0,none⟩),.pointer (some ⟨b,0,none⟩),.pointer (some ⟨b,4,none⟩),.bool false,.pointer (some ⟨b,0,none⟩),.slice A ids.length ci,.func (.func 36) #[] #[.pointer (some ⟨w.heap.size+1+1+1,0,none⟩),.pointer (some ⟨w.heap.size+1+1,0,none⟩)],.int .i64 x,undef,undef,undef,undef,undef,undef,undef,undef,undef,undef,undef,undef,undef,undef,undef,undef,undef,undef,undef,undef,undef,undef,undef,undef,undef,undef,undef,undef,undef,undef,undef,undef,undef,undef,undef,undef,undef,undef,undef,undef,undef,undef,undef,undef,undef,undef,undef,undef,undef,undef,undef,undef,undef,undef,undef,undef,undef,undef,undef,undef,undef,undef,undef,undef,undef,undef,undef,undef,undef,undef,undef,undef,undef,undef,undef,undef,undef,undef,undef,undef,undef,undef,undef,undef,undef,undef,undef,undef,undef,undef,undef,undef,undef,undef,undef,undef,undef,undef,undef,undef,undef,undef,undef,undef,undef,undef,undef,undef,undef,undef],defers:= [] }) ?assign ?body ?done ?stop
 case assign=>
  intro l x W K hK
  gi_wp2
  exact hK
 case body=>
  rintro l pre x W ⟨⟨h1,h2⟩,hB,rfl⟩ _
  have q1:=h1.cell
  have q2:=h1.frozen
  have q3:=h2.cell
  have q4:=h2.frozen
  have hlt1:=h1.lt
  have hlt2:=h2.lt
  gi_wp2
  refine⟨((KeepsOthers.setCell _ _ _).trans (KeepsOthers.setCell _ _ _)).from _,rfl,x,rfl,(h1.set _).other (by omega) _,?_,(hB.setCell (p:=⟨w.heap.size,0,none⟩) (Nat.le_refl _) _).setCell (p:=⟨w.heap.size+1,0,none⟩) (Nat.le_succ _) _⟩
  exact(h2.other (by omega) _).set _
 case done=>
  rintro D ys W hD rfl ⟨⟨h1,h2⟩,hB,hnil⟩ hK
  obtain⟨r,hr⟩:=hb
  rw[hr]at hnil
  cases hnil
 case stop=>
  rintro D c pre W hD ⟨hpre,_⟩ ⟨rfl,y,rfl,h1,h2,hB⟩ hK
  obtain⟨r,hr⟩:=hb
  rw[hr]at hpre
  obtain rfl:y=x:=by
   obtain⟨t,ht⟩:=hpre
   simp only[List.cons_append,List.nil_append,List.cons.injEq]at ht
   exact ht.1
  have q1:=h1.cell
  have q2:=h2.cell
  have q3:=(hB.cell (p:=⟨b,3,none⟩) hbL).trans c3
  have HB:=Lib.hid hB
  have HK:=Lib.hid hK
  clear hB hK hpre hr c3 c4
  gi_wp2
  rw[Exit.noGoto_ret]
  refine⟨by simp,.inl ⟨_,_,rfl,run_takeDeferred HK.out,?_⟩⟩
  refine⟨_,results_tmp2 rfl _ _ _,rfl,HB.out.trans (belowK_b (w:=w) (Nat.le_refl _) W D _ _ (by have:=HZ2.out;omega) HK.out rfl rfl)⟩
set_option maxRecDepth 100000 in
set_option maxHeartbeats 4000000 in
theorem forget_hintB {O Oi:Nat→Prop} (b:Nat) (L:ELog) (iv:Value) (ids:List Int) (w:World) (hL:LogAt O w b L) (hi:IntsIn Oi w iv ids) (hlen:ids.length≤140737488355328) (hwf: ∀x∈ids,(Lit.int .i64 x).wf=true) (hd:L.done=false) (mp:List EStep) (s:EStep) (hs:L.steps=mp++ [s]) (hsd:s.del=false) (hbound:s.hints.length≤65536) (hmp:mp.length≤262144) (x:Int) (hb: ∃r,badGo L [] ids=x::r):
  Calls Tryd.prog 8 #[.pointer (some ⟨b,0,none⟩),iv] w fun e w'=>e= .returned (.tuple #[.int .i64 x,.int .i64 170])∧Below w.heap.size w w':=by
 have hw2:Below w.heap.size w ((((w.alloc (.cells #[.int .i64 0] 3)).alloc (.cells #[.bool false] 4)).alloc (.cells #[.pointer (some ⟨b,0,none⟩)] 25)).alloc (.cells #[iv] 30)):=((((Below.refl _ w).alloc (Nat.le_refl _) _).alloc (by simp) _).alloc (by simp;omega) _).alloc (by simp;omega) _
 have hbi:((((w.alloc (.cells #[.int .i64 0] 3)).alloc (.cells #[.bool false] 4)).alloc (.cells #[.pointer (some ⟨b,0,none⟩)] 25)).alloc (.cells #[iv] 30)).cell? ⟨w.heap.size+1+1+1,0,none⟩=some iv:=by
  have:=cell_new (((w.alloc (.cells #[.int .i64 0] 3)).alloc (.cells #[.bool false] 4)).alloc (.cells #[.pointer (some ⟨b,0,none⟩)] 25)) #[iv] 30 0
  simpa using this
 have hbl:((((w.alloc (.cells #[.int .i64 0] 3)).alloc (.cells #[.bool false] 4)).alloc (.cells #[.pointer (some ⟨b,0,none⟩)] 25)).alloc (.cells #[iv] 30)).cell? ⟨w.heap.size+1+1,0,none⟩=some (.pointer (some ⟨b,0,none⟩)):=by
  rw[((Below.refl _ _).alloc (Nat.le_refl _) _).cell (p:=⟨w.heap.size+1+1,0,none⟩) (by simp)]
  have:=cell_new ((w.alloc (.cells #[.int .i64 0] 3)).alloc (.cells #[.bool false] 4)) #[.pointer (some ⟨b,0,none⟩)] 25 0
  simpa using this
 have bO:Boxed ((((w.alloc (.cells #[.int .i64 0] 3)).alloc (.cells #[.bool false] 4)).alloc (.cells #[.pointer (some ⟨b,0,none⟩)] 25)).alloc (.cells #[iv] 30)) w.heap.size 3 (.int .i64 0):=(((Boxed.new w 3 (.int .i64 0)).alloc _).alloc _).alloc _
 have bB:Boxed ((((w.alloc (.cells #[.int .i64 0] 3)).alloc (.cells #[.bool false] 4)).alloc (.cells #[.pointer (some ⟨b,0,none⟩)] 25)).alloc (.cells #[iv] 30)) (w.heap.size+1) 4 (.bool false):=by
  have h:=((Boxed.new (w.alloc (.cells #[.int .i64 0] 3)) 4 (.bool false)).alloc (.cells #[.pointer (some ⟨b,0,none⟩)] 25)).alloc (.cells #[iv] 30)
  rwa [World.size_alloc]at h
 have HST:=Lib.hid (none_stops (w.heap.size+1+1+1) (w.heap.size+1+1) b L ids iv _ hbi hbl (hi.below hw2) hlen hwf (hL.below hw2))
 obtain⟨w2,hw2e⟩: ∃w2,((((w.alloc (.cells #[.int .i64 0] 3)).alloc (.cells #[.bool false] 4)).alloc (.cells #[.pointer (some ⟨b,0,none⟩)] 25)).alloc (.cells #[iv] 30))=w2:=⟨_,rfl⟩
 have hz2:w2.heap.size=w.heap.size+4:=by rw[←hw2e];simp
 rw[hw2e]at HST hw2 bO bB
 have HW2:=Lib.hid hw2
 have HZ2:=Lib.hid hz2
 have HE2:=Lib.hid hw2e
 have BO:=Lib.hid bO
 have BB:=Lib.hid bB
 have HL:=Lib.hid hL
 have HI:=Lib.hid hi
 have HWF:=Lib.hid hwf
 obtain⟨A,ci,rfl,hci,_⟩:=hi
 obtain⟨mb,sv,ms,hm⟩:=hL
 obtain⟨c0,c1,c2,c3,c4⟩:=hm.cells
 have hbL:=hm.own b hm.inb
 rw[hd]at c4
 have HD:=Lib.hid hd
 have HM:=Lib.hid hm
 obtain⟨msp,m,g,cs,rfl,hms,rfl,hpl,hg,hOg,e0,e3,hat⟩:=last_cells hm hs
 obtain⟨A3,k3,hhv,hk3⟩:=own_slice hat.hints
 rw[hhv,hms]at e3
 rw[hsd]at e0
 have HMS:=Lib.hid hms
 have HSD:=Lib.hid hsd
 have HHV:=Lib.hid hhv
 have HAT:=Lib.hid hat
 have HPL:=Lib.hid hpl
 have HSS:=Lib.hid hs
 have hsl:=hbound
 clear hms hsd hhv hat hpl hs
 clear hw2 hbi hbl hz2 hw2e bO bB hwf hd hm c0 c1 c2
 refine(callsIn_wide (n:=9)).1 ?_
 refine callsIn_of_wp_marks Tryd.func8 rfl trivial ?_ rfl
 simp only[Tryd.ntmps8,List.size_toArray,List.length_cons,List.length_nil,Nat.reduceAdd,Nat.reduceSub,Array.replicate_succ,Array.replicate_zero,List.push_toArray,List.append_toArray,List.nil_append,List.cons_append]
 gi_wp2
 refine wpIn_wide.2 (wp_scope_straight ((wpIn_wide (n:=9)).1 ?_))
 gi_wp2
 refine wpIn_label ?_
 gi_wp2_with (refine⟨trivial,?_⟩;gi_at_call 19;refine(none_in b _ _ _ _).mono ?_;rintro e w' ⟨rfl,rfl⟩)
 rw[HE2.out]
 refine wpIn_rangeFunc_ownG rfl (by omega) (gf:=36) (lb:= #[.pointer (some ⟨w.heap.size+1+1+1,0,none⟩),.pointer (some ⟨w.heap.size+1+1,0,none⟩)]) rfl trivial (enters_of Tryd.func36 (by kernel_rfl) rfl)
  HST.out (fun h k=>h.trans k) (fun W l o o' _ h hc hw=>KpC.putObj W l o o' h hc hw) (Below.refl _ _) (fun _=>rfl)
  (fun pre W=>(Boxed W w.heap.size 3 (.int .i64 0)∧Boxed W (w.heap.size+1) 4 (.bool false))∧Below w.heap.size w W∧pre= [])
  (fun c pre W=>c= .exit 1∧∃x,pre= [x]∧Boxed W w.heap.size 3 (.int .i64 x)∧Boxed W (w.heap.size+1) 4 (.bool true)∧Below w.heap.size w W)
  (OwnFrom.and (OwnFrom.and (Own.from (boxed_own _ _ _) _) (Own.from (boxed_own _ _ _) _)) (OwnFrom.and (ownFrom_below (Nat.le_refl _) (by have:=HZ2.out;omega)) (ownFrom_pure _ _)))
  (fun c pre X Y row hS hg hr=>by
   obtain⟨hc,x,hx,h1,h2,hB⟩:=hS
   exact⟨hc,x,hx,Own.from (boxed_own (β:=Unit) w.heap.size 3 (fun _=>.int .i64 x)) w2.heap.size () X Y row h1 hg hr,Own.from (boxed_own (β:=Unit) (w.heap.size+1) 4 (fun _=>.bool true)) w2.heap.size () X Y row h2 hg hr,
    ownFrom_below (β:=Unit) (Nat.le_refl _) (by have:=HZ2.out;omega) () X Y row hB hg hr⟩)
  ⟨⟨BO.out,BB.out⟩,HW2.out,rfl⟩
  (fun x=>{ tmps:= #[.pointer (some ⟨b,0,none⟩),.slice A ids.length ci,undef,undef,.int .i64 0,.int .i64 0,.pointer (some ⟨w.heap.size,0,none⟩),.pointer (some ⟨w.heap.size+1,0,none⟩),.int .i64 x,undef,undef,undef,undef,undef,.bool false,.pointer (some ⟨b,0,none⟩),.bool false,.bool false,.pointer (some ⟨b,0,none⟩),.pointer (some ⟨b,0,none⟩),.pointer (some ⟨b,4,none⟩),.bool false,.pointer (some ⟨b,0,none⟩),.slice A ids.length ci,.func (.func 36) #[] #[.pointer (some ⟨w.heap.size+1+1+1,0,none⟩),.pointer (some ⟨w.heap.size+1+1,0,none⟩)],.int .i64 x,undef,undef,undef,undef,undef,undef,undef,undef,undef,undef,undef,undef,undef,undef,undef,undef,undef,undef,undef,undef,undef,undef,undef,undef,undef,undef,undef,undef,undef,undef,undef,undef,undef,undef,undef,undef,undef,undef,undef,undef,undef,undef,undef,undef,undef,undef,undef,undef,undef,undef,undef,undef,undef,undef,undef,undef,undef,undef,undef,undef,undef,undef,undef,undef,undef,undef,undef,undef,undef,undef,undef,undef,undef,undef,undef,undef,undef,undef,undef,undef,undef,undef,undef,undef,undef,undef,undef,undef,undef,undef,undef,undef,undef,undef,undef,undef,undef,undef,undef,undef,undef,undef,undef,undef,undef,undef,undef,undef,undef,undef],defers:= [] }) ?assign ?body ?done ?stop
 case assign=>
  intro l x W K hK
  gi_wp2
  exact hK
 case body=>
  rintro l pre x W ⟨⟨h1,h2⟩,hB,rfl⟩ _
  have q1:=h1.cell
  have q2:=h1.frozen
  have q3:=h2.cell
  have q4:=h2.frozen
  have hlt1:=h1.lt
  have hlt2:=h2.lt
  gi_wp2
  refine⟨((KeepsOthers.setCell _ _ _).trans (KeepsOthers.setCell _ _ _)).from _,rfl,x,rfl,(h1.set _).other (by omega) _,?_,(hB.setCell (p:=⟨w.heap.size,0,none⟩) (Nat.le_refl _) _).setCell (p:=⟨w.heap.size+1,0,none⟩) (Nat.le_succ _) _⟩
  exact(h2.other (by omega) _).set _
 case done=>
  rintro D ys W hD rfl ⟨⟨h1,h2⟩,hB,hnil⟩ hK
  obtain⟨r,hr⟩:=hb
  rw[hr]at hnil
  cases hnil
 case stop=>
  rintro D c pre W hD ⟨hpre,_⟩ ⟨rfl,y,rfl,h1,h2,hB⟩ hK
  obtain⟨r,hr⟩:=hb
  rw[hr]at hpre
  obtain rfl:y=x:=by
   obtain⟨t,ht⟩:=hpre
   simp only[List.cons_append,List.nil_append,List.cons.injEq]at ht
   exact ht.1
  have q1:=h1.cell
  have q2:=h2.cell
  have q3:=(hB.cell (p:=⟨b,3,none⟩) hbL).trans c3
  have q5:=(hB.cell (p:=⟨g,mp.length*4,none⟩) hg).trans e0
  have q6:=(hB.cell (p:=⟨g,mp.length*4+3,none⟩) hg).trans e3
  have HB:=Lib.hid hB
  have HK:=Lib.hid hK
  clear hB hK hpre hr c3 c4
  gi_wp2
  rw[Exit.noGoto_ret]
  refine⟨by simp,.inl ⟨_,_,rfl,run_takeDeferred HK.out,?_⟩⟩
  refine⟨_,results_tmp2 rfl _ _ _,rfl,HB.out.trans (belowK_b (w:=w) (Nat.le_refl _) W D _ _ (by have:=HZ2.out;omega) HK.out rfl rfl)⟩
set_option maxRecDepth 100000 in
set_option maxHeartbeats 4000000 in
theorem forget_hintC {O Oi:Nat→Prop} (b:Nat) (L:ELog) (iv:Value) (ids:List Int) (w:World) (hL:LogAt O w b L) (hi:IntsIn Oi w iv ids) (hlen:ids.length≤140737488355328) (hwf: ∀x∈ids,(Lit.int .i64 x).wf=true) (hd:L.done=false) (mp:List EStep) (s:EStep) (hs:L.steps=mp++ [s]) (hsd:s.del=true) (hbound:s.hints.length≤65536) (hmp:mp.length≤262144) (x:Int) (hb: ∃r,badGo L [] ids=x::r):
  Calls Tryd.prog 8 #[.pointer (some ⟨b,0,none⟩),iv] w fun e w'=>e= .returned (.tuple #[.int .i64 x,.int .i64 170])∧Below w.heap.size w w':=by
 have hw2:Below w.heap.size w ((((w.alloc (.cells #[.int .i64 0] 3)).alloc (.cells #[.bool false] 4)).alloc (.cells #[.pointer (some ⟨b,0,none⟩)] 25)).alloc (.cells #[iv] 30)):=((((Below.refl _ w).alloc (Nat.le_refl _) _).alloc (by simp) _).alloc (by simp;omega) _).alloc (by simp;omega) _
 have hbi:((((w.alloc (.cells #[.int .i64 0] 3)).alloc (.cells #[.bool false] 4)).alloc (.cells #[.pointer (some ⟨b,0,none⟩)] 25)).alloc (.cells #[iv] 30)).cell? ⟨w.heap.size+1+1+1,0,none⟩=some iv:=by
  have:=cell_new (((w.alloc (.cells #[.int .i64 0] 3)).alloc (.cells #[.bool false] 4)).alloc (.cells #[.pointer (some ⟨b,0,none⟩)] 25)) #[iv] 30 0
  simpa using this
 have hbl:((((w.alloc (.cells #[.int .i64 0] 3)).alloc (.cells #[.bool false] 4)).alloc (.cells #[.pointer (some ⟨b,0,none⟩)] 25)).alloc (.cells #[iv] 30)).cell? ⟨w.heap.size+1+1,0,none⟩=some (.pointer (some ⟨b,0,none⟩)):=by
  rw[((Below.refl _ _).alloc (Nat.le_refl _) _).cell (p:=⟨w.heap.size+1+1,0,none⟩) (by simp)]
  have:=cell_new ((w.alloc (.cells #[.int .i64 0] 3)).alloc (.cells #[.bool false] 4)) #[.pointer (some ⟨b,0,none⟩)] 25 0
  simpa using this
 have bO:Boxed ((((w.alloc (.cells #[.int .i64 0] 3)).alloc (.cells #[.bool false] 4)).alloc (.cells #[.pointer (some ⟨b,0,none⟩)] 25)).alloc (.cells #[iv] 30)) w.heap.size 3 (.int .i64 0):=(((Boxed.new w 3 (.int .i64 0)).alloc _).alloc _).alloc _
 have bB:Boxed ((((w.alloc (.cells #[.int .i64 0] 3)).alloc (.cells #[.bool false] 4)).alloc (.cells #[.pointer (some ⟨b,0,none⟩)] 25)).alloc (.cells #[iv] 30)) (w.heap.size+1) 4 (.bool false):=by
  have h:=((Boxed.new (w.alloc (.cells #[.int .i64 0] 3)) 4 (.bool false)).alloc (.cells #[.pointer (some ⟨b,0,none⟩)] 25)).alloc (.cells #[iv] 30)
  rwa [World.size_alloc]at h
 have HST:=Lib.hid (none_stops (w.heap.size+1+1+1) (w.heap.size+1+1) b L ids iv _ hbi hbl (hi.below hw2) hlen hwf (hL.below hw2))
 obtain⟨w2,hw2e⟩: ∃w2,((((w.alloc (.cells #[.int .i64 0] 3)).alloc (.cells #[.bool false] 4)).alloc (.cells #[.pointer (some ⟨b,0,none⟩)] 25)).alloc (.cells #[iv] 30))=w2:=⟨_,rfl⟩
 have hz2:w2.heap.size=w.heap.size+4:=by rw[←hw2e];simp
 rw[hw2e]at HST hw2 bO bB
 have HW2:=Lib.hid hw2
 have HZ2:=Lib.hid hz2
 have HE2:=Lib.hid hw2e
 have BO:=Lib.hid bO
 have BB:=Lib.hid bB
 have HL:=Lib.hid hL
 have HI:=Lib.hid hi
 have HWF:=Lib.hid hwf
 obtain⟨A,ci,rfl,hci,_⟩:=hi
 obtain⟨mb,sv,ms,hm⟩:=hL
 obtain⟨c0,c1,c2,c3,c4⟩:=hm.cells
 have hbL:=hm.own b hm.inb
 rw[hd]at c4
 have HD:=Lib.hid hd
 have HM:=Lib.hid hm
 obtain⟨msp,m,g,cs,rfl,hms,rfl,hpl,hg,hOg,e0,e3,hat⟩:=last_cells hm hs
 obtain⟨A3,k3,hhv,hk3⟩:=own_slice hat.hints
 rw[hhv,hms]at e3
 rw[hsd]at e0
 have HMS:=Lib.hid hms
 have HSD:=Lib.hid hsd
 have HHV:=Lib.hid hhv
 have HAT:=Lib.hid hat
 have HPL:=Lib.hid hpl
 have HSS:=Lib.hid hs
 have hsl:=hbound
 clear hms hsd hhv hat hpl hs
 clear hw2 hbi hbl hz2 hw2e bO bB hwf hd hm c0 c1 c2
 refine(callsIn_wide (n:=9)).1 ?_
 refine callsIn_of_wp_marks Tryd.func8 rfl trivial ?_ rfl
 simp only[Tryd.ntmps8,List.size_toArray,List.length_cons,List.length_nil,Nat.reduceAdd,Nat.reduceSub,Array.replicate_succ,Array.replicate_zero,List.push_toArray,List.append_toArray,List.nil_append,List.cons_append]
 gi_wp2
 refine wpIn_wide.2 (wp_scope_straight ((wpIn_wide (n:=9)).1 ?_))
 gi_wp2
 refine wpIn_label ?_
 gi_wp2_with (refine⟨trivial,?_⟩;gi_at_call 19;refine(none_in b _ _ _ _).mono ?_;rintro e w' ⟨rfl,rfl⟩)
 rw[HE2.out]
 refine wpIn_rangeFunc_ownG rfl (by omega) (gf:=36) (lb:= #[.pointer (some ⟨w.heap.size+1+1+1,0,none⟩),.pointer (some ⟨w.heap.size+1+1,0,none⟩)]) rfl trivial (enters_of Tryd.func36 (by kernel_rfl) rfl)
  HST.out (fun h k=>h.trans k) (fun W l o o' _ h hc hw=>KpC.putObj W l o o' h hc hw) (Below.refl _ _) (fun _=>rfl)
  (fun pre W=>(Boxed W w.heap.size 3 (.int .i64 0)∧Boxed W (w.heap.size+1) 4 (.bool false))∧Below w.heap.size w W∧pre= [])
  (fun c pre W=>c= .exit 1∧∃x,pre= [x]∧Boxed W w.heap.size 3 (.int .i64 x)∧Boxed W (w.heap.size+1) 4 (.bool true)∧Below w.heap.size w W)
  (OwnFrom.and (OwnFrom.and (Own.from (boxed_own _ _ _) _) (Own.from (boxed_own _ _ _) _)) (OwnFrom.and (ownFrom_below (Nat.le_refl _) (by have:=HZ2.out;omega)) (ownFrom_pure _ _)))
  (fun c pre X Y row hS hg hr=>by
   obtain⟨hc,x,hx,h1,h2,hB⟩:=hS
   exact⟨hc,x,hx,Own.from (boxed_own (β:=Unit) w.heap.size 3 (fun _=>.int .i64 x)) w2.heap.size () X Y row h1 hg hr,Own.from (boxed_own (β:=Unit) (w.heap.size+1) 4 (fun _=>.bool true)) w2.heap.size () X Y row h2 hg hr,
    ownFrom_below (β:=Unit) (Nat.le_refl _) (by have:=HZ2.out;omega) () X Y row hB hg hr⟩)
  ⟨⟨BO.out,BB.out⟩,HW2.out,rfl⟩
  (fun x=>{ tmps:= #[.pointer (some ⟨b,0,none⟩),.slice A ids.length ci,undef,undef,.int .i64 0,.int .i64 0,.pointer (some ⟨w.heap.size,0,none⟩),.pointer (some ⟨w.heap.size+1,0,none⟩),.int .i64 x,undef,undef,undef,undef,undef,.bool false,.pointer (some ⟨b,0,none⟩),.bool false,.bool false,.pointer (some ⟨b,0,none⟩),.pointer (some ⟨b,0,none⟩),.pointer (some ⟨b,4,none⟩),.bool false,.pointer (some ⟨b,0,none⟩),.slice A ids.length ci,.func (.func 36) #[] #[.pointer (some ⟨w.heap.size+1+1+1,0,none⟩),.pointer (some ⟨w.heap.size+1+1,0,none⟩)],.int .i64 x,undef,undef,undef,undef,undef,undef,undef,undef,undef,undef,undef,undef,undef,undef,undef,undef,undef,undef,undef,undef,undef,undef,undef,undef,undef,undef,undef,undef,undef,undef,undef,undef,undef,undef,undef,undef,undef,undef,undef,undef,undef,undef,undef,undef,undef,undef,undef,undef,undef,undef,undef,undef,undef,undef,undef,undef,undef,undef,undef,undef,undef,undef,undef,undef,undef,undef,undef,undef,undef,undef,undef,undef,undef,undef,undef,undef,undef,undef,undef,undef,undef,undef,undef,undef,undef,undef,undef,undef,undef,undef,undef,undef,undef,undef,undef,undef,undef,undef,undef,undef,undef,undef,undef,undef,undef,undef,undef,undef,undef,undef],defers:= [] }) ?assign ?body ?done ?stop
 case assign=>
  intro l x W K hK
  gi_wp2
  exact hK
 case body=>
  rintro l pre x W ⟨⟨h1,h2⟩,hB,rfl⟩ _
  have q1:=h1.cell
  have q2:=h1.frozen
  have q3:=h2.cell
  have q4:=h2.frozen
  have hlt1:=h1.lt
  have hlt2:=h2.lt
  gi_wp2
  refine⟨((KeepsOthers.setCell _ _ _).trans (KeepsOthers.setCell _ _ _)).from _,rfl,x,rfl,(h1.set _).other (by omega) _,?_,(hB.setCell (p:=⟨w.heap.size,0,none⟩) (Nat.le_refl _) _).setCell (p:=⟨w.heap.size+1,0,none⟩) (Nat.le_succ _) _⟩
  exact(h2.other (by omega) _).set _
 case done=>
  rintro D ys W hD rfl ⟨⟨h1,h2⟩,hB,hnil⟩ hK
  obtain⟨r,hr⟩:=hb
  rw[hr]at hnil
  cases hnil
 case stop=>
  rintro D c pre W hD ⟨hpre,_⟩ ⟨rfl,y,rfl,h1,h2,hB⟩ hK
  obtain⟨r,hr⟩:=hb
  rw[hr]at hpre
  obtain rfl:y=x:=by
   obtain⟨t,ht⟩:=hpre
   simp only[List.cons_append,List.nil_append,List.cons.injEq]at ht
   exact ht.1
  have q1:=h1.cell
  have q2:=h2.cell
  have q3:=(hB.cell (p:=⟨b,3,none⟩) hbL).trans c3
  have q5:=(hB.cell (p:=⟨g,mp.length*4,none⟩) hg).trans e0
  have q6:=(hB.cell (p:=⟨g,mp.length*4+3,none⟩) hg).trans e3
  have HB:=Lib.hid hB
  have HK:=Lib.hid hK
  clear hB hK hpre hr c3 c4
  gi_wp2
  rw[Exit.noGoto_ret]
  refine⟨by simp,.inl ⟨_,_,rfl,run_takeDeferred HK.out,?_⟩⟩
  refine⟨_,results_tmp2 rfl _ _ _,rfl,HB.out.trans (belowK_b (w:=w) (Nat.le_refl _) W D _ _ (by have:=HZ2.out;omega) HK.out rfl rfl)⟩
end Go.Proofs.YteigjcichmpejaaDoor
