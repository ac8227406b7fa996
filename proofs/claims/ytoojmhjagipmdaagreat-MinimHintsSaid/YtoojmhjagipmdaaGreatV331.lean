/- minim: Hints, Conflict. -/
import Derived.Test.YtoojmhjagipmdaaGreatV330
namespace Go.Proofs.YtoojmhjagipmdaaGreat
open Go.RowKit
theorem hints_all {OA OT OC:Nat→Prop} (a b mk:Nat) (A:Arn) (T:Trl) (its:List RIt) (Ac:Option Addr) (cc:Nat) (c:List Int) (id:Int) (w:World) (hs:Sim T its) (ha:ArAt OA w a A) (ht:TrAt OT w b T) (hc:IntsIn OC w (.slice Ac c.length cc) c) (hcl:c.length≤4194304) (hmw:mk<w.heap.size) (hma: ¬OA mk) (hmt: ¬OT mk) (hmc: ¬OC mk):
  Calls Tryz.prog 97 #[.agg #[.pointer (some ⟨a,0,none⟩),.pointer (some ⟨b,0,none⟩),.slice Ac c.length cc,.map (some mk)],.int .i64 id] w fun e w'=>(∃u',e= .returned (.tuple #[u',.int .i64 ((hintP A T c id).2:Nat)])∧w'.ownsRow w.heap.size 3 1 u' (hintP A T c id).1.length ((hintP A T c id).1.map (Value.int .i64)))∧Below w.heap.size w w':=by
 cases hg:A.get id with
 | none=>
  have hp:hintP A T c id=([],30):=by unfold hintP;rw[hg]
  rw[hp]
  refine(hints_none a b mk A T Ac cc c id w ha ht hc hg).mono ?_
  rintro e w' ⟨rfl,hb⟩
  exact⟨⟨_,rfl,World.ownsRow_nil _ _ _ _⟩,hb⟩
 | some f=>
  by_cases hf:failE T f=0
  ·
   exact hints_main a b mk A T its Ac cc c id f w hs ha ht hc hcl hmw hma hmt hmc hg hf
  ·
   have hp:hintP A T c id=([],failE T f):=by unfold hintP;rw[hg];simp only;rw[if_pos hf]
   rw[hp]
   refine(hints_fail a b mk A T Ac cc c id f w ha ht hc hg hf).mono ?_
   rintro e w' ⟨rfl,hb⟩
   exact⟨⟨_,rfl,World.ownsRow_nil _ _ _ _⟩,hb⟩
theorem Wk.hints {w:World} {a b mb:Nat} {A:Arn} {T:Trl} {its:List RIt} {Ac:Option Addr} {cc:Nat} {c:List Int} (h:Wk w a b mb A T (.slice Ac c.length cc) c) (hs:Sim T its) (hcl:c.length≤4194304) (id:Int):
  Calls Tryz.prog 97 #[.agg #[.pointer (some ⟨a,0,none⟩),.pointer (some ⟨b,0,none⟩),.slice Ac c.length cc,.map (some mb)],.int .i64 id] w fun e w'=>(∃u',e= .returned (.tuple #[u',.int .i64 ((hintP A T c id).2:Nat)])∧w'.ownsRow w.heap.size 3 1 u' (hintP A T c id).1.length ((hintP A T c id).1.map (Value.int .i64)))∧Below w.heap.size w w':=by
 obtain⟨OA,OT,OC,h1,h2,h3,h4,h5,h6,h7⟩:=h
 exact hints_all a b mb A T its Ac cc c id w hs h1 h2 h3 hcl h7 h4 h5 h6
def hintsP (A:Arn) (T:Trl) (c:List Int) (id:Int):List Int×Nat:=if failE T c=0 then hintP A T c id else([],failE T c)
set_option maxRecDepth 100000 in
set_option maxHeartbeats 1000000 in
theorem mn_hints {OA OT OC:Nat→Prop} (a b:Nat) (A:Arn) (T:Trl) (its:List RIt) (Ac:Option Addr) (cc:Nat) (c:List Int) (id:Int) (w:World) (hsim:Sim T its) (ha:ArAt OA w a A) (ht:TrAt OT w b T) (hc:IntsIn OC w (.slice Ac c.length cc) c) (hs:c.length≤4194304):
  Calls Tryz.prog 40 #[.pointer (some ⟨a,0,none⟩),.pointer (some ⟨b,0,none⟩),.int .i64 id,.slice Ac c.length cc] w fun e w'=>(∃u',e= .returned (.tuple #[u',.int .i64 ((hintsP A T c id).2:Nat)])∧w'.ownsRow w.heap.size 3 1 u' (hintsP A T c id).1.length ((hintsP A T c id).1.map (Value.int .i64)))∧Below w.heap.size w w':=by
 have HS:=Lib.hid (mn_start a b A T Ac cc c w ha ht hc hs)
 have HSI:=Lib.hid hsim
 clear ha ht hc hsim
 by_cases h0:failE T c=0
 ·
  rw[show hintsP A T c id=hintP A T c id from by unfold hintsP;rw[if_pos h0]]
  rw[h0]at HS
  obtain⟨hp,hhp⟩: ∃z,hintP A T c id=z:=⟨_,rfl⟩
  have HHI:=Lib.hid (fun(mb:Nat) (W:World) (h:Wk W a b mb A T (.slice Ac c.length cc) c)=>h.hints HSI.out hs id)
  rw[hhp]at HHI⊢
  obtain⟨hp1,hp2⟩:=hp
  simp only[Int.natCast_zero]at HS HHI⊢
  clear h0 hhp
  go_enter Tryz.func40,Tryz.ntmps40
  go_wp2_with fail
  refine HS.out.mono ?_
  rintro e w1 ⟨⟨mb,rfl,hw,hm,hmb⟩,hb⟩
  obtain⟨wx,hwx⟩: ∃x,w1.alloc (.cells #[.pointer (some ⟨a,0,none⟩),.pointer (some ⟨b,0,none⟩),.slice Ac c.length cc,.map (some mb)] 123)=x:=⟨_,rfl⟩
  have hbx:Below w1.heap.size w1 wx:=by rw[←hwx];exact mx_al _ _
  have hbn:wx.heap[w1.heap.size]? =some (.cells #[.pointer (some ⟨a,0,none⟩),.pointer (some ⟨b,0,none⟩),.slice Ac c.length cc,.map (some mb)] 123 (0,0)):=by rw[←hwx];exact World.alloc_heap_new _ _
  have HWX:=Lib.hid hwx
  have HB:=Lib.hid (hb.trans (hbx.mono hb.size))
  have HHC:=Lib.hid (HHI.out mb wx (hw.below hbx))
  obtain⟨⟨e0,e1,e2,e3⟩,_⟩:=cells4 hbn
  clear hw hm hb HS hwx hbx hbn HHI
  rw[←HWX.out]at e0 e1 e2 e3
  go_wp2_with fail
  rw[HWX.out]
  refine HHC.out.mono ?_
  rintro e w3 ⟨⟨u',rfl,ho⟩,hb3⟩
  have HO:=Lib.hid (own_mono ho HB.out.size)
  have HB3:=Lib.hid (HB.out.trans (hb3.mono HB.out.size))
  clear hb3 HHC ho
  go_wp2_with fail
  go_ret2
  exact⟨⟨_,rfl,HO.out⟩,HB3.out⟩
 ·
  rw[show hintsP A T c id=([],failE T c)from by unfold hintsP;rw[if_neg h0]]
  have q0:(((failE T c:Nat):Int) != 0)=true:=by simp;omega
  obtain⟨FE,hfe⟩: ∃z:Int,((failE T c:Nat):Int)=z:=⟨_,rfl⟩
  rw[hfe]at HS q0⊢
  clear hfe h0
  go_enter Tryz.func40,Tryz.ntmps40
  go_wp2_with fail
  refine HS.out.mono ?_
  rintro e w1 ⟨⟨mb,rfl,hw,hm,hmb⟩,hb⟩
  have HB:=Lib.hid hb
  clear hw hm hb HS
  go_wp2_with fail
  go_ret2
  exact⟨⟨_,rfl,World.ownsRow_nil _ _ _ _⟩,HB.out.trans ((mx_al _ _).mono HB.out.size)⟩
theorem cfRun_lits {A:Arn} {T:Trl} {lv:Int} (P:Int→Prop): ∀(ls:List Int) (s s':CSt),cfRun A T lv s ls=some s'→(∀l∈s.lits,P l)→(∀u∈ls,P (litN u))→∀l∈s'.lits,P l:=by
 intro ls
 induction ls with
 | nil=>
  intro s s' h h1 _
  obtain rfl:=Option.some.inj h
  exact h1
 | cons u ls ih=>
  intro s s' h h1 h2
  unfold cfRun at h
  cases hs:cfStep A T lv s u with
  | none=>rw[hs]at h;cases h
  | some s1=>
   rw[hs]at h
   refine ih s1 s' h ?_ (fun z hz=>h2 z (List.mem_cons_of_mem _ hz))
   unfold cfStep at hs
   split at hs
   ·
    obtain rfl:=Option.some.inj hs
    exact h1
   split at hs
   ·
    obtain rfl:=Option.some.inj hs
    intro l hl
    rcases List.mem_append.1 hl with hl|hl
    ·
     exact h1 l hl
    ·
     rw[List.mem_singleton.1 hl]
     exact h2 u List.mem_cons_self
   split at hs
   ·
    cases hs
   ·
    obtain rfl:=Option.some.inj hs
    exact h1
theorem conf_false {A:Arn} {T:Trl} {its:List RIt} (h:Sim T its) (id:Int): ∀l∈(confP A T id).1.lits,rVl its l<0:=by
 unfold confP
 split
 ·
  intro l hl
  cases hl
 split
 ·
  intro l hl
  cases hl
 split
 ·
  intro l hl
  cases hl
 rename_i s hs
 unfold cfEnd at hs
 refine cfRun_lits (fun l=>rVl its l<0) _ _ _ hs (fun l hl=>by cases hl) (fun u hu=>?_)
 have hu:=List.mem_reverse.1 hu
 rw[h.order]at hu
 obtain⟨x,hx,rfl⟩:=List.mem_map.1 hu
 obtain⟨p,hp⟩:=List.getElem?_of_mem hx
 rw[show litN x.lit= -x.lit from by unfold litN;rw[if_pos (h.litb hx)]]
 exact h.fal_of hp
theorem shor_sub (A:Arn) (T:Trl) (c:List Int): ∀(r out:List Int),(∀l∈out,l∈c)→(∀l∈r,l∈c)→(∀l∈shor15 A T c out r,l∈c)∧(shor15 A T c out r).length≤out.length+r.length:=by
 intro r
 induction r with
 | nil=>exact fun out h1 _=>⟨h1,Nat.le_refl _⟩
 | cons l r ih=>
  intro out h1 h2
  have h3: ∀x∈r,x∈c:=fun x hx=>h2 x (List.mem_cons_of_mem _ hx)
  by_cases hc:out.contains l=false∧(c.head? =some l∨impl15 A T c (litV l)=false)
  ·
   rw[shor15_cons (if_pos hc)]
   obtain⟨h4,h5⟩:=ih (out++ [l]) (fun x hx=>(List.mem_append.1 hx).elim (h1 x) (fun hx=>by rw[List.mem_singleton.1 hx];exact h2 l List.mem_cons_self)) h3
   exact⟨h4,by simp at h5⊢;omega⟩
  ·
   rw[shor15_cons (if_neg hc)]
   obtain⟨h4,h5⟩:=ih out h1 h3
   exact⟨h4,by simp;omega⟩
theorem short_sub (A:Arn) (T:Trl) (c:List Int):(∀l∈short15 A T c,l∈c)∧(short15 A T c).length≤c.length:=by
 obtain⟨h1,h2⟩:=shor_sub A T c c [] (fun l hl=>by cases hl) (fun _ h=>h)
 exact⟨h1,by unfold short15;simpa using h2⟩
def minP (A:Arn) (T:Trl) (id:Int):Lrn×Nat:=if(confP A T id).2≠0 then(lrn0,(confP A T id).2)else
 if(hintP A T (short15 A T (confP A T id).1.lits) id).2≠0 then(lrn0,(hintP A T (short15 A T (confP A T id).1.lits) id).2)else
 (⟨short15 A T (confP A T id).1.lits,T.backOf (short15 A T (confP A T id).1.lits),T.levelsOf (short15 A T (confP A T id).1.lits),(hintP A T (short15 A T (confP A T id).1.lits) id).1,(confP A T id).1.met⟩,0)
theorem cfRun_len {A:Arn} {T:Trl} {lv:Int}: ∀(ls:List Int) (s s':CSt),cfRun A T lv s ls=some s'→s'.lits.length≤s.lits.length+ls.length:=by
 intro ls
 induction ls with
 | nil=>
  intro s s' h
  obtain rfl:=Option.some.inj h
  exact Nat.le_refl _
 | cons u ls ih=>
  intro s s' h
  unfold cfRun at h
  cases hs:cfStep A T lv s u with
  | none=>rw[hs]at h;cases h
  | some s1=>
   rw[hs]at h
   refine Nat.le_trans (ih s1 s' h) ?_
   unfold cfStep at hs
   split at hs
   ·
    obtain rfl:=Option.some.inj hs
    simp
   split at hs
   ·
    obtain rfl:=Option.some.inj hs
    simp
    omega
   split at hs
   ·
    cases hs
   ·
    obtain rfl:=Option.some.inj hs
    simp
theorem conf_len (A:Arn) (T:Trl) (id:Int):(confP A T id).1.lits.length≤T.order.length:=by
 unfold confP
 split
 ·
  exact Nat.zero_le _
 split
 ·
  exact Nat.zero_le _
 split
 ·
  exact Nat.zero_le _
 rename_i s hs
 have:=cfRun_len _ _ _ hs
 simpa using this
structure McAt (w:World) (W:World):Prop where
 below:Below w.heap.size w W
 size:w.heap.size+1≤W.heap.size
 res:W.heap[w.heap.size]? =some (.cells #[.slice none 0 0,.int .i64 0,.int .i64 0,.slice none 0 0,.slice none 0 0] 65 (0,0))
theorem McAt.more {w W W':World} (h:McAt w W) (hb:Below W.heap.size W W'):McAt w W':=
 ⟨h.below.trans (hb.mono h.below.size),Nat.le_trans h.size hb.size,(hb.block _ (heap_lt h.res)).trans h.res⟩
theorem McAt.kept {O:Nat→Prop} {w W W':World} (h:McAt w W) (k:Kept O W W') (hO: ∀g,O g→w.heap.size+1≤g):McAt w W':=
 ⟨h.below.trans (k.below (fun i hi=>by have:=hO i hi;omega) h.below.size),Nat.le_trans h.size k.size,(k.block _ (heap_lt h.res) (fun e=>by have:=hO _ e;omega)).trans h.res⟩
theorem res_mlrn {fn:Func} (h:fn.results= #[.cell 6 65,.tmp 7]) {w:World} {r:Nat} {c0 c1 c2 c3 c4 v:Value} {t:TypeId} (h6:w.heap[r]? =some (.cells #[c0,c1,c2,c3,c4] t (0,0)))
  (tmps:Array Value) (t6:tmps[6]?.getD undef= .pointer (some ⟨r,0,none⟩)) (t7:tmps[7]?.getD undef=v):
  (results fn tmps).run Tryz.prog w= .ok (.tuple #[.agg #[c0,c1,c2,c3,c4],v]) w:=by
 obtain⟨⟨p0,p1,p2,p3,p4⟩,_⟩:=cells5 h6
 simp[results,h,go_sem,t6,t7,p0,p1,p2,p3,p4]
theorem mc_bad {w W:World} (h:McAt w W): ∃Wf,((((W.setCell ⟨w.heap.size,0,none⟩ (.slice none 0 0)).setCell ⟨w.heap.size,1,none⟩ (.int .i64 0)).setCell ⟨w.heap.size,2,none⟩ (.int .i64 0)).setCell ⟨w.heap.size,3,none⟩ (.slice none 0 0)).setCell ⟨w.heap.size,4,none⟩ (.slice none 0 0)=Wf∧Below w.heap.size w Wf∧Wf.heap[w.heap.size]? =some (.cells #[.slice none 0 0,.int .i64 0,.int .i64 0,.slice none 0 0,.slice none 0 0] 65 (0,0)):=
 ⟨_,rfl,((((h.below.setCell (Nat.le_refl _) _).setCell (Nat.le_refl _) _).setCell (Nat.le_refl _) _).setCell (Nat.le_refl _) _).setCell (Nat.le_refl _) _,mx_set (j:=4) (mx_set (j:=3) (mx_set (j:=2) (mx_set (j:=1) (mx_set (j:=0) h.res _) _) _) _) _⟩
set_option maxRecDepth 100000 in
set_option maxHeartbeats 8000000 in
theorem mn_conflict {OA OT:Nat→Prop} (a b:Nat) (A:Arn) (T:Trl) (its:List RIt) (id:Int) (w:World) (hsim:Sim T its) (hil:its.length≤500000) (ha:ArAt OA w a A) (ht:TrAt OT w b T):
  Calls Tryz.prog 45 #[.pointer (some ⟨a,0,none⟩),.pointer (some ⟨b,0,none⟩),.int .i64 id] w fun e w'=>(∃v,e= .returned (.tuple #[v,.int .i64 ((minP A T id).2:Nat)])∧LrnAt w.heap.size w' v (minP A T id).1)∧Below w.heap.size w w':=by
 obtain⟨W0,hW0⟩: ∃z,w.alloc (.cells #[.slice none 0 0,.int .i64 0,.int .i64 0,.slice none 0 0,.slice none 0 0] 65)=z:=⟨_,rfl⟩
 have hm0:McAt w W0:=by
  rw[←hW0]
  exact⟨mx_al _ _,by simp,World.alloc_heap_new _ _⟩
 have HSI:=Lib.hid hsim
 have HA:=Lib.hid (fun(W:World) (h:McAt w W)=>ha.below h.below)
 have HT:=Lib.hid (fun(W:World) (h:McAt w W)=>ht.below h.below)
 have HCO:=Lib.hid (an_conflict a b A T id W0 (ha.below hm0.below) (ht.below hm0.below))
 have hfl:=conf_false (A:=A) hsim id
 have hcl:=conf_len A T id
 have hor:=ht.1.order
 have HOA:=Lib.hid ha.own
 have HOT:=Lib.hid ht.own
 have HM0:=Lib.hid hm0
 have HW0:=Lib.hid hW0
 obtain⟨cp,hcp⟩: ∃z,confP A T id=z:=⟨_,rfl⟩
 unfold minP
 rw[hcp]at HCO hfl hcl⊢
 obtain⟨⟨cl,cbk,clv,chi,cme⟩,ce⟩:=cp
 simp only at HCO hfl hcl⊢
 have HFL:=Lib.hid hfl
 clear ha ht hsim hm0 hW0 hcp hfl
 by_cases hce:ce=0
 ·
  subst hce
  rw[if_neg (by simp)]
  obtain⟨hsb,hsl⟩:=short_sub A T cl
  obtain⟨sh,hsh⟩: ∃z,short15 A T cl=z:=⟨_,rfl⟩
  have HSH:=Lib.hid hsh
  rw[hsh]at hsb hsl⊢
  obtain⟨hp,hhp⟩: ∃z,hintP A T sh id=z:=⟨_,rfl⟩
  have HHP:=Lib.hid hhp
  rw[hhp]
  obtain⟨hpl,hpe⟩:=hp
  simp only
  have hshl:sh.length≤1048576:=by omega
  have hcll:cl.length≤1048576:=by omega
  clear hsh hhp hsb hsl hcl
  obtain⟨bk,hbk⟩: ∃z,T.backOf sh=z:=⟨_,rfl⟩
  obtain⟨lvs,hlvs⟩: ∃z,T.levelsOf sh=z:=⟨_,rfl⟩
  have HBK:=Lib.hid hbk
  have HLVS:=Lib.hid hlvs
  rw[hbk,hlvs]
  clear hbk hlvs
  obtain⟨pe,hpe2⟩: ∃z:Int,((hpe:Nat):Int)=z:=⟨_,rfl⟩
  by_cases hpz:hpe=0
  ·
   have q9:(pe != 0)=false:=by rw[←hpe2];simp;exact hpz
   rw[if_neg (by simpa using hpz)]
   have hp0:pe=0:=by rw[←hpe2,hpz];rfl
   have HPZX:=hp0.symm
   have HPE:=Lib.hid hpe2
   clear hpz hpe2 hp0 q9
   subst HPZX
   have q9:((0:Int) != 0)=false:=rfl
   go_enter Tryz.func45,Tryz.ntmps45
   go_wp2_with fail
   rw[HW0.out]
   refine HCO.out.mono ?_
   rintro e W1 ⟨⟨v,rfl,x,y,z,rfl,hx,hy,hz⟩,hb1⟩
   dsimp only at hx hy hz⊢
   obtain⟨Ax,kx,rfl,_⟩:=mx_slice hx
   obtain⟨Ay,ky,rfl,_⟩:=mx_slice hy
   obtain⟨Az,kz,rfl,_⟩:=mx_slice hz
   have HM1:=Lib.hid (HM0.out.more hb1)
   have hz1:=HM0.out.size
   have HMC:=Lib.hid (fun(W:World) (hb:Below W1.heap.size W1 W)=>HM1.out.more hb)
   obtain⟨W2,hW2⟩: ∃q,W1.alloc (.cells #[.slice Ax cl.length kx,.int .i64 cbk,.int .i64 clv,.slice Ay chi.length ky,.slice Az cme.length kz] 65)=q:=⟨_,rfl⟩
   have HB2:=Lib.hid (show Below W1.heap.size W1 W2 from by rw[←hW2];exact mx_al _ _)
   have HO2:=Lib.hid (show W2.heap[W1.heap.size]? =some (.cells #[.slice Ax cl.length kx,.int .i64 cbk,.int .i64 clv,.slice Ay chi.length ky,.slice Az cme.length kz] 65 (0,0))from by rw[←hW2];exact World.alloc_heap_new _ _)
   have HW2:=Lib.hid hW2
   have hlt2:=heap_lt HO2.out
   have HZQ:=Lib.hid hz
   have HZ1:=Lib.hid (own_mono hz HM0.out.below.size)
   have HST:=Lib.hid (mn_start a b A T Ax kx cl W2 (HA.out W2 (HMC.out W2 HB2.out)) (HT.out W2 (HMC.out W2 HB2.out)) (IntsIn.of_own (own_below hx HB2.out)) (by omega))
   obtain⟨⟨p0,p1,p2,p3,p4⟩,f0,f1,f2,f3,f4⟩:=cells5 HO2.out
   rw[←HW2.out]at p0
   clear hx hy hz hb1 hW2 HCO p1 p2 p3 p4 f0 f1 f2 f3 f4
   go_wp2_with fail
   rw[HW2.out]
   refine HST.out.mono ?_
   rintro e W3 ⟨⟨mb,rfl,hw3,hmp3,hmb⟩,hb3⟩
   have HB3:=Lib.hid (HB2.out.trans (hb3.mono HB2.out.size))
   have HO3:=Lib.hid ((hb3.block _ (heap_lt HO2.out)).trans HO2.out)
   obtain⟨W4,hW4⟩: ∃q,W3.alloc (.cells #[.pointer (some ⟨a,0,none⟩),.pointer (some ⟨b,0,none⟩),.slice Ax cl.length kx,.map (some mb)] 123)=q:=⟨_,rfl⟩
   have hb4:Below W3.heap.size W3 W4:=by rw[←hW4];exact mx_al _ _
   have HK4:=Lib.hid (show W4.heap[W3.heap.size]? =some (.cells #[.pointer (some ⟨a,0,none⟩),.pointer (some ⟨b,0,none⟩),.slice Ax cl.length kx,.map (some mb)] 123 (0,0))from by rw[←hW4];exact World.alloc_heap_new _ _)
   have HB4:=Lib.hid (HB3.out.trans (hb4.mono HB3.out.size))
   have HO4:=Lib.hid ((hb4.block _ (heap_lt HO3.out)).trans HO3.out)
   have HW4:=Lib.hid hW4
   have hlt4:=heap_lt HK4.out
   have hb3s:=hb3.size
   have hmb3:=hmp3.lt
   have HSO:=Lib.hid (mn_shorten a b mb A T its Ax kx cl (0+2*zer its (fun _=>0)) W4 _ 0 HSI.out (by have:=zer_le its (fun _=>0);omega) (by omega) HFL.out (hw3.below hb4) (hmp3.below hb4) (fun q y _ _=>.inl rfl) (Nat.le_refl _))
   rw[HSH.out]at HSO
   obtain⟨⟨e0,e1,e2,e3⟩,_⟩:=cells4 HK4.out
   rw[←HW4.out]at e0 e1 e2 e3
   clear hb3 hb4 hw3 hmp3 hW4 p0 HST
   go_wp2_with fail
   rw[HW4.out]
   refine HSO.out.mono ?_
   rintro e W5 ⟨⟨u',rfl,hu5⟩,hk5⟩
   obtain⟨Au,ku,rfl,_⟩:=mx_slice hu5
   have HB5:=Lib.hid (HB4.out.trans (hk5.below (B:=W1.heap.size) (fun i e=>by omega) HB4.out.size))
   have HO5:=Lib.hid ((hk5.block _ (heap_lt HO4.out) (by omega)).trans HO4.out)
   have HK5:=Lib.hid ((hk5.block _ (heap_lt HK4.out) (by omega)).trans HK4.out)
   have HU5:=Lib.hid hu5
   obtain⟨⟨p0,p1,p2,p3,p4⟩,f0,f1,f2,f3,f4⟩:=cells5 HO5.out
   clear hu5 hk5 e0 e1 e2 e3 HSO p1 p2 p3 p4 f1 f2 f3 f4
   go_wp2_with fail
   obtain⟨W6,hW6⟩: ∃q,W5.setCell ⟨W1.heap.size,0,none⟩ (.slice Au sh.length ku)=q:=⟨_,rfl⟩
   have hk6:Kept (fun g=>g=W1.heap.size) W5 W6:=by rw[←hW6];exact(Kept.refl (fun g=>g=W1.heap.size) W5).setCell _ _ rfl
   have HB6:=Lib.hid (HB5.out.trans (hk6.below (B:=W1.heap.size) (fun i e=>by omega) HB5.out.size))
   have HO6:=Lib.hid (show W6.heap[W1.heap.size]? =some (.cells #[.slice Au sh.length ku,.int .i64 cbk,.int .i64 clv,.slice Ay chi.length ky,.slice Az cme.length kz] 65 (0,0))from by rw[←hW6];exact mx_set (j:=0) HO5.out _)
   rw[hW6]
   have HK6:=Lib.hid ((hk6.block _ (heap_lt HK5.out) (by omega)).trans HK5.out)
   have HU6:=Lib.hid (own_kept HU5.out hk6 (fun g hg e=>by have h1:=(own_lt HU5.out g hg).1;omega))
   have HUB:=Lib.hid (fun g (hg:(Value.slice Au sh.length ku).ownBlock=some g)=>own_lt HU6.out g hg)
   have HST2:=Lib.hid (mn_start a b A T Au ku sh W6 (HA.out W6 (HMC.out W6 HB6.out)) (HT.out W6 (HMC.out W6 HB6.out)) (IntsIn.of_own HU6.out) (by omega))
   clear hW6 hk6 p0 f0
   obtain⟨⟨p0,p1,p2,p3,p4⟩,f0,f1,f2,f3,f4⟩:=cells5 HO6.out
   clear p1 p2 p3 p4 f0 f1 f2 f3 f4
   go_wp2_with fail
   refine HST2.out.mono ?_
   rintro e W7 ⟨⟨mb2,rfl,hw7,_,hmb2⟩,hb7⟩
   have HB7:=Lib.hid (HB6.out.trans (hb7.mono HB6.out.size))
   have HO7:=Lib.hid ((hb7.block _ (heap_lt HO6.out)).trans HO6.out)
   have HU7:=Lib.hid (own_below HU6.out hb7)
   have HK7:=Lib.hid ((hb7.block _ (heap_lt HK6.out)).trans HK6.out)
   obtain⟨_,_,_,_,_,_,_,_,_,hmb7⟩:=hw7
   obtain⟨⟨e0,e1,e2,e3⟩,g0,g1,g2,g3⟩:=cells4 HK7.out
   have hz67:=hb7.size
   clear hb7 p0 HST2
   go_wp2_with fail
   obtain⟨W8,hW8⟩: ∃q,(((W7.setCell ⟨W3.heap.size,0,none⟩ (.pointer (some ⟨a,0,none⟩))).setCell ⟨W3.heap.size,1,none⟩ (.pointer (some ⟨b,0,none⟩))).setCell ⟨W3.heap.size,2,none⟩ (.slice Au sh.length ku)).setCell ⟨W3.heap.size,3,none⟩ (.map (some mb2))=q:=⟨_,rfl⟩
   have hk8:Kept (fun g=>g=W3.heap.size) W7 W8:=by rw[←hW8];exact((((Kept.refl (fun g=>g=W3.heap.size) W7).setCell _ _ rfl).setCell _ _ rfl).setCell _ _ rfl).setCell _ _ rfl
   have HK8:=Lib.hid (show W8.heap[W3.heap.size]? =some (.cells #[.pointer (some ⟨a,0,none⟩),.pointer (some ⟨b,0,none⟩),.slice Au sh.length ku,.map (some mb2)] 123 (0,0))from by rw[←hW8];exact mx_set (j:=3) (mx_set (j:=2) (mx_set (j:=1) (mx_set (j:=0) HK7.out _) _) _) _)
   have HB8:=Lib.hid (HB7.out.trans (hk8.below (B:=W1.heap.size) (fun i e=>by omega) HB7.out.size))
   have HO8:=Lib.hid ((hk8.block _ (heap_lt HO7.out) (by omega)).trans HO7.out)
   have HU8:=Lib.hid (own_kept HU7.out hk8 (fun g hg e=>by have h1:=(own_lt HU7.out g hg).1;omega))
   rw[hW8]
   have hz8:=hk8.size
   have HHN:=Lib.hid ((show Wk W8 a b mb2 A T (.slice Au sh.length ku) sh from⟨OA,OT,_,HA.out W8 (HMC.out W8 HB8.out),HT.out W8 (HMC.out W8 HB8.out),IntsIn.of_own HU8.out,fun h=>by have:=HOA.out _ h;have:=HB6.out.size;have:=HM1.out.below.size;omega,fun h=>by have:=HOT.out _ h;have:=HB6.out.size;have:=HM1.out.below.size;omega,fun h=>by have:=(HUB.out _ h.2).2;omega,by omega⟩).hints HSI.out (by omega) id)
   rw[HHP.out,HPE.out]at HHN
   dsimp only at HHN
   clear hW8 hk8 e0 e1 e2 e3 g0 g1 g2 g3
   obtain⟨⟨e0,e1,e2,e3⟩,_⟩:=cells4 HK8.out
   go_wp2_with fail
   refine HHN.out.mono ?_
   rintro e W9 ⟨⟨v9,rfl,hh9⟩,hb9⟩
   obtain⟨Ah,kh,rfl,_⟩:=mx_slice hh9
   have HB9:=Lib.hid (HB8.out.trans (hb9.mono HB8.out.size))
   have HO9:=Lib.hid ((hb9.block _ (heap_lt HO8.out)).trans HO8.out)
   have HU9:=Lib.hid (own_below HU8.out hb9)
   have HH9:=Lib.hid hh9
   obtain⟨⟨p0,p1,p2,p3,p4⟩,f0,f1,f2,f3,f4⟩:=cells5 HO9.out
   have hlt8:=heap_lt HK8.out
   clear hb9 hh9 e0 e1 e2 e3 HHN p0 p1 p2 p4 f0 f1 f2 f4
   go_upto_region 8 with fail
   obtain⟨W10,hW10⟩: ∃q,W9.setCell ⟨W1.heap.size,3,none⟩ (.slice Ah hpl.length kh)=q:=⟨_,rfl⟩
   have hk10:Kept (fun g=>g=W1.heap.size) W9 W10:=by rw[←hW10];exact(Kept.refl (fun g=>g=W1.heap.size) W9).setCell _ _ rfl
   have HB10:=Lib.hid (HB9.out.trans (hk10.below (B:=W1.heap.size) (fun i e=>by omega) HB9.out.size))
   have HO10:=Lib.hid (show W10.heap[W1.heap.size]? =some (.cells #[.slice Au sh.length ku,.int .i64 cbk,.int .i64 clv,.slice Ah hpl.length kh,.slice Az cme.length kz] 65 (0,0))from by rw[←hW10];exact mx_set (j:=3) HO9.out _)
   have HU10:=Lib.hid (own_kept HU9.out hk10 (fun g hg e=>by have h1:=(own_lt HU9.out g hg).1;omega))
   have HH10:=Lib.hid (own_kept HH9.out hk10 (fun g hg e=>by have h1:=(own_lt HH9.out g hg).1;omega))
   rw[hW10]
   clear hW10 hk10 p3 f3
   obtain⟨⟨p0,p1,p2,p3,p4⟩,f0,f1,f2,f3,f4⟩:=cells5 HO10.out
   go_upto_region 11 with fail
   obtain⟨W11,hW11⟩: ∃q,W10.setCell ⟨W1.heap.size,1,none⟩ (.int .i64 0)=q:=⟨_,rfl⟩
   have hk11:Kept (fun g=>g=W1.heap.size) W10 W11:=by rw[←hW11];exact(Kept.refl (fun g=>g=W1.heap.size) W10).setCell _ _ rfl
   have HB11:=Lib.hid (HB10.out.trans (hk11.below (B:=W1.heap.size) (fun i e=>by omega) HB10.out.size))
   have HO11:=Lib.hid (show W11.heap[W1.heap.size]? =some (.cells #[.slice Au sh.length ku,.int .i64 0,.int .i64 clv,.slice Ah hpl.length kh,.slice Az cme.length kz] 65 (0,0))from by rw[←hW11];exact mx_set (j:=1) HO10.out _)
   have HU11:=Lib.hid (own_kept HU10.out hk11 (fun g hg e=>by have h1:=(own_lt HU10.out g hg).1;omega))
   have HH11:=Lib.hid (own_kept HH10.out hk11 (fun g hg e=>by have h1:=(own_lt HH10.out g hg).1;omega))
   rw[hW11]
   clear hW11 hk11
   clear p0 p1 p2 p3 p4 f0 f1 f2 f3 f4
   obtain⟨⟨p0,p1,p2,p3,p4⟩,f0,f1,f2,f3,f4⟩:=cells5 HO11.out
   by_cases hl1:1<sh.length
   ·
    have q1:decide ((1:Int)<(sh.length:Int))=true:=by simp;omega
    have q2:decide (1<sh.length)=true:=by simpa using hl1
    obtain⟨l1,hl1'⟩:=getElem_of hl1
    have HBV:=Lib.hid (show T.level (litV l1:Nat)=bk from by
     rw[←HBK.out]
     match sh,hl1,hl1' with
     | a0::a1::r,_,h=>simp only[List.getElem?_cons_succ,List.getElem?_cons_zero,Option.some.injEq]at h;rw[←h];rfl)
    obtain⟨gu,cu',cs',hvu,_,_,hgu,_⟩:=mx_some HU11.out (by omega)
    simp only[Value.slice.injEq]at hvu
    obtain⟨hAu,_,hku⟩:=hvu
    subst hAu
    subst hku
    have d1:W11.cell? ⟨gu,1,none⟩=some (.int .i64 l1):=mx_at HU11.out (by rw[List.getElem?_map,hl1'];rfl)
    have HV:=Lib.hid (fun W=>lit_var l1 W)
    have HLE:=Lib.hid (tr_level b T (litV l1:Nat) W11 (HT.out W11 (HMC.out W11 HB11.out)))
    rw[HBV.out]at HLE
    clear hl1' hgu
    go_wp2_with fail
    refine(HV.out _).mono ?_
    rintro e wq ⟨rfl,rfl⟩
    go_wp2_with fail
    refine HLE.out.mono ?_
    rintro e W12 ⟨rfl,hb12⟩
    have HB12:=Lib.hid (HB11.out.trans (hb12.mono HB11.out.size))
    have HO12:=Lib.hid ((hb12.block _ (heap_lt HO11.out)).trans HO11.out)
    have HU12:=Lib.hid (own_below HU11.out hb12)
    have HH12:=Lib.hid (own_below HH11.out hb12)
    clear hb12 HLE d1 HV
    clear p0 p1 p2 p3 p4 f0 f1 f2 f3 f4
    obtain⟨⟨p0,p1,p2,p3,p4⟩,f0,f1,f2,f3,f4⟩:=cells5 HO12.out
    go_upto_region 13 with fail
    obtain⟨W13,hW13⟩: ∃q,W12.setCell ⟨W1.heap.size,1,none⟩ (.int .i64 bk)=q:=⟨_,rfl⟩
    have hk13:Kept (fun g=>g=W1.heap.size) W12 W13:=by rw[←hW13];exact(Kept.refl (fun g=>g=W1.heap.size) W12).setCell _ _ rfl
    have HB13:=Lib.hid (HB12.out.trans (hk13.below (B:=W1.heap.size) (fun i e=>by omega) HB12.out.size))
    have HO13:=Lib.hid (show W13.heap[W1.heap.size]? =some (.cells #[.slice (some ⟨gu,0,none⟩) sh.length ku,.int .i64 bk,.int .i64 clv,.slice Ah hpl.length kh,.slice Az cme.length kz] 65 (0,0))from by rw[←hW13];exact mx_set (j:=1) HO12.out _)
    have HU13:=Lib.hid (own_kept HU12.out hk13 (fun g hg e=>by have h1:=(own_lt HU12.out g hg).1;omega))
    have HH13:=Lib.hid (own_kept HH12.out hk13 (fun g hg e=>by have h1:=(own_lt HH12.out g hg).1;omega))
    rw[hW13]
    clear hW13 hk13
    clear p0 p1 p2 p3 p4 f0 f1 f2 f3 f4
    obtain⟨⟨p0,p1,p2,p3,p4⟩,f0,f1,f2,f3,f4⟩:=cells5 HO13.out
    have HLV:=Lib.hid (an_levels_any b T (.slice (some ⟨gu,0,none⟩) sh.length ku) sh W13 (HT.out W13 (HMC.out W13 HB13.out)) (IntsIn.of_own HU13.out) (by omega))
    rw[HLVS.out]at HLV
    go_wp2_with fail
    refine HLV.out.mono ?_
    rintro e W14 ⟨⟨kq,rfl⟩,hb14⟩
    have HB14:=Lib.hid (HB13.out.trans (hb14.mono HB13.out.size))
    have HO14:=Lib.hid ((hb14.block _ (heap_lt HO13.out)).trans HO13.out)
    have HU14:=Lib.hid (own_below HU13.out hb14)
    have HH14:=Lib.hid (own_below HH13.out hb14)
    clear p0 p1 p2 p3 p4 f0 f1 f2 f3 f4
    clear hb14 HLV
    obtain⟨⟨p0,p1,p2,p3,p4⟩,f0,f1,f2,f3,f4⟩:=cells5 HO14.out
    go_upto_region 14 with fail
    obtain⟨W15,hW15⟩: ∃q,W14.setCell ⟨W1.heap.size,2,none⟩ (.int .i64 lvs)=q:=⟨_,rfl⟩
    have hk15:Kept (fun g=>g=W1.heap.size) W14 W15:=by rw[←hW15];exact(Kept.refl (fun g=>g=W1.heap.size) W14).setCell _ _ rfl
    have HB15:=Lib.hid (HB14.out.trans (hk15.below (B:=W1.heap.size) (fun i e=>by omega) HB14.out.size))
    have HO15:=Lib.hid (show W15.heap[W1.heap.size]? =some (.cells #[.slice (some ⟨gu,0,none⟩) sh.length ku,.int .i64 bk,.int .i64 lvs,.slice Ah hpl.length kh,.slice Az cme.length kz] 65 (0,0))from by rw[←hW15];exact mx_set (j:=2) HO14.out _)
    have HU15:=Lib.hid (own_kept HU14.out hk15 (fun g hg e=>by have h1:=(own_lt HU14.out g hg).1;omega))
    have HH15:=Lib.hid (own_kept HH14.out hk15 (fun g hg e=>by have h1:=(own_lt HH14.out g hg).1;omega))
    rw[hW15]
    clear hW15 hk15
    clear p0 p1 p2 p3 p4 f0 f1 f2 f3 f4
    obtain⟨⟨p0,p1,p2,p3,p4⟩,f0,f1,f2,f3,f4⟩:=cells5 HO15.out
    have HM15:=Lib.hid (HMC.out W15 HB15.out)
    obtain⟨⟨r0,r1,r2,r3,r4⟩,s0,s1,s2,s3,s4⟩:=cells5 HM15.out.res
    go_wp2_with fail
    obtain⟨W16,hW16⟩: ∃q,((((W15.setCell ⟨w.heap.size,0,none⟩ (.slice (some ⟨gu,0,none⟩) sh.length ku)).setCell ⟨w.heap.size,1,none⟩ (.int .i64 bk)).setCell ⟨w.heap.size,2,none⟩ (.int .i64 lvs)).setCell ⟨w.heap.size,3,none⟩ (.slice Ah hpl.length kh)).setCell ⟨w.heap.size,4,none⟩ (.slice Az cme.length kz)=q:=⟨_,rfl⟩
    rw[hW16]
    have hk16:Kept (fun g=>g=w.heap.size) W15 W16:=by rw[←hW16];exact(((((Kept.refl (fun g=>g=w.heap.size) W15).setCell _ _ rfl).setCell _ _ rfl).setCell _ _ rfl).setCell _ _ rfl).setCell _ _ rfl
    have r6:W16.heap[w.heap.size]? =some (.cells #[.slice (some ⟨gu,0,none⟩) sh.length ku,.int .i64 bk,.int .i64 lvs,.slice Ah hpl.length kh,.slice Az cme.length kz] 65 (0,0)):=by rw[←hW16];exact mx_set (j:=4) (mx_set (j:=3) (mx_set (j:=2) (mx_set (j:=1) (mx_set (j:=0) HM15.out.res _) _) _) _) _
    have hbf:Below w.heap.size w W16:=HM15.out.below.trans (hk16.below (fun i e=>by omega) HM15.out.below.size)
    have hzz:=HM1.out.below.size
    have hzk:=HM1.out.size
    have hzW0:=HM0.out.size
    have hrU:=own_kept (own_mono HU15.out (base':=w.heap.size) (by omega)) hk16 (fun g hg e=>by have h1:=(own_lt HU15.out g hg).1;omega)
    have hrV:=own_kept (own_mono HH15.out (base':=w.heap.size) (by omega)) hk16 (fun g hg e=>by have h1:=(own_lt HH15.out g hg).1;omega)
    have hrZ:=own_kept (own_below HZ1.out HB15.out) hk16 (fun g hg e=>by have h1:=(own_lt HZQ.out g hg).1;omega)
    clear hW16 hk16 r0 r1 r2 r3 r4 s0 s1 s2 s3 s4
    clear p0 p1 p2 p3 p4 f0 f1 f2 f3 f4
    exact bodyPost_ret (v:=.tuple #[.agg #[.slice (some ⟨gu,0,none⟩) sh.length ku,.int .i64 bk,.int .i64 lvs,.slice Ah hpl.length kh,.slice Az cme.length kz],.int .i64 0]) (res_mlrn rfl r6 _ rfl rfl) rfl ⟨⟨_,rfl,_,_,_,rfl,hrU,hrV,hrZ⟩,hbf⟩
   ·
    have q1:decide ((1:Int)<(sh.length:Int))=false:=by simp;omega
    have q2:decide (1<sh.length)=false:=by simpa using hl1
    obtain rfl:(0:Int)=bk:=by
     rw[←HBK.out]
     match sh,hl1 with
     | [],_=>rfl
     | [_],_=>rfl
     | _::_::_,h=>exact absurd (by simp) h
    go_upto_region 13 with fail
    clear p0 p1 p2 p3 p4 f0 f1 f2 f3 f4
    obtain⟨⟨p0,p1,p2,p3,p4⟩,f0,f1,f2,f3,f4⟩:=cells5 HO11.out
    have HLV:=Lib.hid (an_levels_any b T (.slice Au sh.length ku) sh W11 (HT.out W11 (HMC.out W11 HB11.out)) (IntsIn.of_own HU11.out) (by omega))
    rw[HLVS.out]at HLV
    go_wp2_with fail
    refine HLV.out.mono ?_
    rintro e W14 ⟨⟨kq,rfl⟩,hb14⟩
    have HB14:=Lib.hid (HB11.out.trans (hb14.mono HB11.out.size))
    have HO14:=Lib.hid ((hb14.block _ (heap_lt HO11.out)).trans HO11.out)
    have HU14:=Lib.hid (own_below HU11.out hb14)
    have HH14:=Lib.hid (own_below HH11.out hb14)
    clear p0 p1 p2 p3 p4 f0 f1 f2 f3 f4
    clear hb14 HLV
    obtain⟨⟨p0,p1,p2,p3,p4⟩,f0,f1,f2,f3,f4⟩:=cells5 HO14.out
    go_upto_region 14 with fail
    obtain⟨W15,hW15⟩: ∃q,W14.setCell ⟨W1.heap.size,2,none⟩ (.int .i64 lvs)=q:=⟨_,rfl⟩
    have hk15:Kept (fun g=>g=W1.heap.size) W14 W15:=by rw[←hW15];exact(Kept.refl (fun g=>g=W1.heap.size) W14).setCell _ _ rfl
    have HB15:=Lib.hid (HB14.out.trans (hk15.below (B:=W1.heap.size) (fun i e=>by omega) HB14.out.size))
    have HO15:=Lib.hid (show W15.heap[W1.heap.size]? =some (.cells #[.slice Au sh.length ku,.int .i64 0,.int .i64 lvs,.slice Ah hpl.length kh,.slice Az cme.length kz] 65 (0,0))from by rw[←hW15];exact mx_set (j:=2) HO14.out _)
    have HU15:=Lib.hid (own_kept HU14.out hk15 (fun g hg e=>by have h1:=(own_lt HU14.out g hg).1;omega))
    have HH15:=Lib.hid (own_kept HH14.out hk15 (fun g hg e=>by have h1:=(own_lt HH14.out g hg).1;omega))
    rw[hW15]
    clear hW15 hk15
    clear p0 p1 p2 p3 p4 f0 f1 f2 f3 f4
    obtain⟨⟨p0,p1,p2,p3,p4⟩,f0,f1,f2,f3,f4⟩:=cells5 HO15.out
    have HM15:=Lib.hid (HMC.out W15 HB15.out)
    obtain⟨⟨r0,r1,r2,r3,r4⟩,s0,s1,s2,s3,s4⟩:=cells5 HM15.out.res
    go_wp2_with fail
    obtain⟨W16,hW16⟩: ∃q,((((W15.setCell ⟨w.heap.size,0,none⟩ (.slice Au sh.length ku)).setCell ⟨w.heap.size,1,none⟩ (.int .i64 0)).setCell ⟨w.heap.size,2,none⟩ (.int .i64 lvs)).setCell ⟨w.heap.size,3,none⟩ (.slice Ah hpl.length kh)).setCell ⟨w.heap.size,4,none⟩ (.slice Az cme.length kz)=q:=⟨_,rfl⟩
    rw[hW16]
    have hk16:Kept (fun g=>g=w.heap.size) W15 W16:=by rw[←hW16];exact(((((Kept.refl (fun g=>g=w.heap.size) W15).setCell _ _ rfl).setCell _ _ rfl).setCell _ _ rfl).setCell _ _ rfl).setCell _ _ rfl
    have r6:W16.heap[w.heap.size]? =some (.cells #[.slice Au sh.length ku,.int .i64 0,.int .i64 lvs,.slice Ah hpl.length kh,.slice Az cme.length kz] 65 (0,0)):=by rw[←hW16];exact mx_set (j:=4) (mx_set (j:=3) (mx_set (j:=2) (mx_set (j:=1) (mx_set (j:=0) HM15.out.res _) _) _) _) _
    have hbf:Below w.heap.size w W16:=HM15.out.below.trans (hk16.below (fun i e=>by omega) HM15.out.below.size)
    have hzz:=HM1.out.below.size
    have hzk:=HM1.out.size
    have hzW0:=HM0.out.size
    have hrU:=own_kept (own_mono HU15.out (base':=w.heap.size) (by omega)) hk16 (fun g hg e=>by have h1:=(own_lt HU15.out g hg).1;omega)
    have hrV:=own_kept (own_mono HH15.out (base':=w.heap.size) (by omega)) hk16 (fun g hg e=>by have h1:=(own_lt HH15.out g hg).1;omega)
    have hrZ:=own_kept (own_below HZ1.out HB15.out) hk16 (fun g hg e=>by have h1:=(own_lt HZQ.out g hg).1;omega)
    clear hW16 hk16 r0 r1 r2 r3 r4 s0 s1 s2 s3 s4
    clear p0 p1 p2 p3 p4 f0 f1 f2 f3 f4
    exact bodyPost_ret (v:=.tuple #[.agg #[.slice Au sh.length ku,.int .i64 0,.int .i64 lvs,.slice Ah hpl.length kh,.slice Az cme.length kz],.int .i64 0]) (res_mlrn rfl r6 _ rfl rfl) rfl ⟨⟨_,rfl,_,_,_,rfl,hrU,hrV,hrZ⟩,hbf⟩
  ·
   have q9:(pe != 0)=true:=by rw[←hpe2];simp;exact hpz
   rw[if_pos hpz,hpe2]
   have HPE:=Lib.hid hpe2
   clear hpz hpe2
   go_enter Tryz.func45,Tryz.ntmps45
   go_wp2_with fail
   rw[HW0.out]
   refine HCO.out.mono ?_
   rintro e W1 ⟨⟨v,rfl,x,y,z,rfl,hx,hy,hz⟩,hb1⟩
   dsimp only at hx hy hz⊢
   obtain⟨Ax,kx,rfl,_⟩:=mx_slice hx
   obtain⟨Ay,ky,rfl,_⟩:=mx_slice hy
   obtain⟨Az,kz,rfl,_⟩:=mx_slice hz
   have HM1:=Lib.hid (HM0.out.more hb1)
   have hz1:=HM0.out.size
   have HMC:=Lib.hid (fun(W:World) (hb:Below W1.heap.size W1 W)=>HM1.out.more hb)
   obtain⟨W2,hW2⟩: ∃q,W1.alloc (.cells #[.slice Ax cl.length kx,.int .i64 cbk,.int .i64 clv,.slice Ay chi.length ky,.slice Az cme.length kz] 65)=q:=⟨_,rfl⟩
   have HB2:=Lib.hid (show Below W1.heap.size W1 W2 from by rw[←hW2];exact mx_al _ _)
   have HO2:=Lib.hid (show W2.heap[W1.heap.size]? =some (.cells #[.slice Ax cl.length kx,.int .i64 cbk,.int .i64 clv,.slice Ay chi.length ky,.slice Az cme.length kz] 65 (0,0))from by rw[←hW2];exact World.alloc_heap_new _ _)
   have HW2:=Lib.hid hW2
   have hlt2:=heap_lt HO2.out
   have HZQ:=Lib.hid hz
   have HZ1:=Lib.hid (own_mono hz HM0.out.below.size)
   have HST:=Lib.hid (mn_start a b A T Ax kx cl W2 (HA.out W2 (HMC.out W2 HB2.out)) (HT.out W2 (HMC.out W2 HB2.out)) (IntsIn.of_own (own_below hx HB2.out)) (by omega))
   obtain⟨⟨p0,p1,p2,p3,p4⟩,f0,f1,f2,f3,f4⟩:=cells5 HO2.out
   rw[←HW2.out]at p0
   clear hx hy hz hb1 hW2 HCO p1 p2 p3 p4 f0 f1 f2 f3 f4
   go_wp2_with fail
   rw[HW2.out]
   refine HST.out.mono ?_
   rintro e W3 ⟨⟨mb,rfl,hw3,hmp3,hmb⟩,hb3⟩
   have HB3:=Lib.hid (HB2.out.trans (hb3.mono HB2.out.size))
   have HO3:=Lib.hid ((hb3.block _ (heap_lt HO2.out)).trans HO2.out)
   obtain⟨W4,hW4⟩: ∃q,W3.alloc (.cells #[.pointer (some ⟨a,0,none⟩),.pointer (some ⟨b,0,none⟩),.slice Ax cl.length kx,.map (some mb)] 123)=q:=⟨_,rfl⟩
   have hb4:Below W3.heap.size W3 W4:=by rw[←hW4];exact mx_al _ _
   have HK4:=Lib.hid (show W4.heap[W3.heap.size]? =some (.cells #[.pointer (some ⟨a,0,none⟩),.pointer (some ⟨b,0,none⟩),.slice Ax cl.length kx,.map (some mb)] 123 (0,0))from by rw[←hW4];exact World.alloc_heap_new _ _)
   have HB4:=Lib.hid (HB3.out.trans (hb4.mono HB3.out.size))
   have HO4:=Lib.hid ((hb4.block _ (heap_lt HO3.out)).trans HO3.out)
   have HW4:=Lib.hid hW4
   have hlt4:=heap_lt HK4.out
   have hb3s:=hb3.size
   have hmb3:=hmp3.lt
   have HSO:=Lib.hid (mn_shorten a b mb A T its Ax kx cl (0+2*zer its (fun _=>0)) W4 _ 0 HSI.out (by have:=zer_le its (fun _=>0);omega) (by omega) HFL.out (hw3.below hb4) (hmp3.below hb4) (fun q y _ _=>.inl rfl) (Nat.le_refl _))
   rw[HSH.out]at HSO
   obtain⟨⟨e0,e1,e2,e3⟩,_⟩:=cells4 HK4.out
   rw[←HW4.out]at e0 e1 e2 e3
   clear hb3 hb4 hw3 hmp3 hW4 p0 HST
   go_wp2_with fail
   rw[HW4.out]
   refine HSO.out.mono ?_
   rintro e W5 ⟨⟨u',rfl,hu5⟩,hk5⟩
   obtain⟨Au,ku,rfl,_⟩:=mx_slice hu5
   have HB5:=Lib.hid (HB4.out.trans (hk5.below (B:=W1.heap.size) (fun i e=>by omega) HB4.out.size))
   have HO5:=Lib.hid ((hk5.block _ (heap_lt HO4.out) (by omega)).trans HO4.out)
   have HK5:=Lib.hid ((hk5.block _ (heap_lt HK4.out) (by omega)).trans HK4.out)
   have HU5:=Lib.hid hu5
   obtain⟨⟨p0,p1,p2,p3,p4⟩,f0,f1,f2,f3,f4⟩:=cells5 HO5.out
   clear hu5 hk5 e0 e1 e2 e3 HSO p1 p2 p3 p4 f1 f2 f3 f4
   go_wp2_with fail
   obtain⟨W6,hW6⟩: ∃q,W5.setCell ⟨W1.heap.size,0,none⟩ (.slice Au sh.length ku)=q:=⟨_,rfl⟩
   have hk6:Kept (fun g=>g=W1.heap.size) W5 W6:=by rw[←hW6];exact(Kept.refl (fun g=>g=W1.heap.size) W5).setCell _ _ rfl
   have HB6:=Lib.hid (HB5.out.trans (hk6.below (B:=W1.heap.size) (fun i e=>by omega) HB5.out.size))
   have HO6:=Lib.hid (show W6.heap[W1.heap.size]? =some (.cells #[.slice Au sh.length ku,.int .i64 cbk,.int .i64 clv,.slice Ay chi.length ky,.slice Az cme.length kz] 65 (0,0))from by rw[←hW6];exact mx_set (j:=0) HO5.out _)
   rw[hW6]
   have HK6:=Lib.hid ((hk6.block _ (heap_lt HK5.out) (by omega)).trans HK5.out)
   have HU6:=Lib.hid (own_kept HU5.out hk6 (fun g hg e=>by have h1:=(own_lt HU5.out g hg).1;omega))
   have HUB:=Lib.hid (fun g (hg:(Value.slice Au sh.length ku).ownBlock=some g)=>own_lt HU6.out g hg)
   have HST2:=Lib.hid (mn_start a b A T Au ku sh W6 (HA.out W6 (HMC.out W6 HB6.out)) (HT.out W6 (HMC.out W6 HB6.out)) (IntsIn.of_own HU6.out) (by omega))
   clear hW6 hk6 p0 f0
   obtain⟨⟨p0,p1,p2,p3,p4⟩,f0,f1,f2,f3,f4⟩:=cells5 HO6.out
   clear p1 p2 p3 p4 f0 f1 f2 f3 f4
   go_wp2_with fail
   refine HST2.out.mono ?_
   rintro e W7 ⟨⟨mb2,rfl,hw7,_,hmb2⟩,hb7⟩
   have HB7:=Lib.hid (HB6.out.trans (hb7.mono HB6.out.size))
   have HO7:=Lib.hid ((hb7.block _ (heap_lt HO6.out)).trans HO6.out)
   have HU7:=Lib.hid (own_below HU6.out hb7)
   have HK7:=Lib.hid ((hb7.block _ (heap_lt HK6.out)).trans HK6.out)
   obtain⟨_,_,_,_,_,_,_,_,_,hmb7⟩:=hw7
   obtain⟨⟨e0,e1,e2,e3⟩,g0,g1,g2,g3⟩:=cells4 HK7.out
   have hz67:=hb7.size
   clear hb7 p0 HST2
   go_wp2_with fail
   obtain⟨W8,hW8⟩: ∃q,(((W7.setCell ⟨W3.heap.size,0,none⟩ (.pointer (some ⟨a,0,none⟩))).setCell ⟨W3.heap.size,1,none⟩ (.pointer (some ⟨b,0,none⟩))).setCell ⟨W3.heap.size,2,none⟩ (.slice Au sh.length ku)).setCell ⟨W3.heap.size,3,none⟩ (.map (some mb2))=q:=⟨_,rfl⟩
   have hk8:Kept (fun g=>g=W3.heap.size) W7 W8:=by rw[←hW8];exact((((Kept.refl (fun g=>g=W3.heap.size) W7).setCell _ _ rfl).setCell _ _ rfl).setCell _ _ rfl).setCell _ _ rfl
   have HK8:=Lib.hid (show W8.heap[W3.heap.size]? =some (.cells #[.pointer (some ⟨a,0,none⟩),.pointer (some ⟨b,0,none⟩),.slice Au sh.length ku,.map (some mb2)] 123 (0,0))from by rw[←hW8];exact mx_set (j:=3) (mx_set (j:=2) (mx_set (j:=1) (mx_set (j:=0) HK7.out _) _) _) _)
   have HB8:=Lib.hid (HB7.out.trans (hk8.below (B:=W1.heap.size) (fun i e=>by omega) HB7.out.size))
   have HO8:=Lib.hid ((hk8.block _ (heap_lt HO7.out) (by omega)).trans HO7.out)
   have HU8:=Lib.hid (own_kept HU7.out hk8 (fun g hg e=>by have h1:=(own_lt HU7.out g hg).1;omega))
   rw[hW8]
   have hz8:=hk8.size
   have HHN:=Lib.hid ((show Wk W8 a b mb2 A T (.slice Au sh.length ku) sh from⟨OA,OT,_,HA.out W8 (HMC.out W8 HB8.out),HT.out W8 (HMC.out W8 HB8.out),IntsIn.of_own HU8.out,fun h=>by have:=HOA.out _ h;have:=HB6.out.size;have:=HM1.out.below.size;omega,fun h=>by have:=HOT.out _ h;have:=HB6.out.size;have:=HM1.out.below.size;omega,fun h=>by have:=(HUB.out _ h.2).2;omega,by omega⟩).hints HSI.out (by omega) id)
   rw[HHP.out,HPE.out]at HHN
   dsimp only at HHN
   clear hW8 hk8 e0 e1 e2 e3 g0 g1 g2 g3
   obtain⟨⟨e0,e1,e2,e3⟩,_⟩:=cells4 HK8.out
   go_wp2_with fail
   refine HHN.out.mono ?_
   rintro e W9 ⟨⟨v9,rfl,hh9⟩,hb9⟩
   obtain⟨Ah,kh,rfl,_⟩:=mx_slice hh9
   have HB9:=Lib.hid (HB8.out.trans (hb9.mono HB8.out.size))
   have HO9:=Lib.hid ((hb9.block _ (heap_lt HO8.out)).trans HO8.out)
   have HU9:=Lib.hid (own_below HU8.out hb9)
   have HH9:=Lib.hid hh9
   obtain⟨⟨p0,p1,p2,p3,p4⟩,f0,f1,f2,f3,f4⟩:=cells5 HO9.out
   have hlt8:=heap_lt HK8.out
   clear hb9 hh9 e0 e1 e2 e3 HHN p0 p1 p2 p4 f0 f1 f2 f4
   go_upto_region 8 with fail
   obtain⟨W10,hW10⟩: ∃q,W9.setCell ⟨W1.heap.size,3,none⟩ (.slice Ah hpl.length kh)=q:=⟨_,rfl⟩
   have hk10:Kept (fun g=>g=W1.heap.size) W9 W10:=by rw[←hW10];exact(Kept.refl (fun g=>g=W1.heap.size) W9).setCell _ _ rfl
   have HB10:=Lib.hid (HB9.out.trans (hk10.below (B:=W1.heap.size) (fun i e=>by omega) HB9.out.size))
   have HO10:=Lib.hid (show W10.heap[W1.heap.size]? =some (.cells #[.slice Au sh.length ku,.int .i64 cbk,.int .i64 clv,.slice Ah hpl.length kh,.slice Az cme.length kz] 65 (0,0))from by rw[←hW10];exact mx_set (j:=3) HO9.out _)
   have HU10:=Lib.hid (own_kept HU9.out hk10 (fun g hg e=>by have h1:=(own_lt HU9.out g hg).1;omega))
   have HH10:=Lib.hid (own_kept HH9.out hk10 (fun g hg e=>by have h1:=(own_lt HH9.out g hg).1;omega))
   rw[hW10]
   clear hW10 hk10 p3 f3
   have HM10:=Lib.hid (HMC.out W10 HB10.out)
   obtain⟨⟨p0,p1,p2,p3,p4⟩,f0,f1,f2,f3,f4⟩:=cells5 HM10.out.res
   go_wp2_with fail
   obtain⟨Wf,hWf,hbf,r6⟩:=mc_bad HM10.out
   rw[hWf]
   clear p0 p1 p2 p3 p4 f0 f1 f2 f3 f4 hWf
   exact bodyPost_ret (v:=.tuple #[.agg #[.slice none 0 0,.int .i64 0,.int .i64 0,.slice none 0 0,.slice none 0 0],.int .i64 pe]) (res_mlrn rfl r6 _ rfl rfl) rfl ⟨⟨_,rfl,lrn0_at _ _⟩,hbf⟩
 ·
  rw[if_pos hce]
  have q0:((ce:Int) != 0)=true:=by simp;omega
  go_enter Tryz.func45,Tryz.ntmps45
  go_wp2_with fail
  rw[HW0.out]
  refine HCO.out.mono ?_
  rintro e W1 ⟨⟨v,rfl,x,y,z,rfl,hx,hy,hz⟩,hb1⟩
  obtain⟨Ax,kx,rfl,_⟩:=mx_slice hx
  obtain⟨Ay,ky,rfl,_⟩:=mx_slice hy
  obtain⟨Az,kz,rfl,_⟩:=mx_slice hz
  obtain⟨W2,hW2⟩: ∃q,W1.alloc (.cells #[.slice Ax cl.length kx,.int .i64 cbk,.int .i64 clv,.slice Ay chi.length ky,.slice Az cme.length kz] 65)=q:=⟨_,rfl⟩
  have hb2:Below W1.heap.size W1 W2:=by rw[←hW2];exact mx_al _ _
  have HM2:=Lib.hid ((HM0.out.more hb1).more hb2)
  have HW2:=Lib.hid hW2
  obtain⟨⟨p0,p1,p2,p3,p4⟩,f0,f1,f2,f3,f4⟩:=cells5 HM2.out.res
  rw[←HW2.out]at p0 p1 p2 p3 p4 f0 f1 f2 f3 f4
  clear hx hy hz hb1 hb2 hW2 HCO
  go_wp2_with fail
  rw[HW2.out]
  obtain⟨Wf,hWf,hbf,r6⟩:=mc_bad HM2.out
  rw[hWf]
  clear p0 p1 p2 p3 p4 f0 f1 f2 f3 f4 hWf
  exact bodyPost_ret (v:=.tuple #[.agg #[.slice none 0 0,.int .i64 0,.int .i64 0,.slice none 0 0,.slice none 0 0],.int .i64 ce]) (res_mlrn rfl r6 _ rfl rfl) rfl ⟨⟨_,rfl,lrn0_at _ _⟩,hbf⟩
end Go.Proofs.YtoojmhjagipmdaaGreat
