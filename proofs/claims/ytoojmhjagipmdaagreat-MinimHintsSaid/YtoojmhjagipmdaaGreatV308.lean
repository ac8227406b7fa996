/- analyze: Conflict, at a clause that fails. -/
import Derived.Test.YtoojmhjagipmdaaGreatV307
import Derived.Laws.EntriesVeiled
namespace Go.Proofs.YtoojmhjagipmdaaGreat
open Go.RowKit Go.Shelf Go.Maps
attribute [local go_sem] Oper.semAt_some
theorem rightP_get {A:Arn} {T:Trl} {l id:Int} {c:List Int} (h:rightP A T l=some (id,c)):A.get id=some c:=by
 unfold rightP at h
 split at h
 ·
  cases h
 ·
  rename_i c' hc
  split at h
  ·
   cases h
   exact hc
  ·
   cases h
structure CfFix (W:World) (a b r6 mb wb lb gb ob:Nat) (lv:Int):Prop where
 wk:W.heap[wb]? =some (.cells #[.pointer (some ⟨a,0,none⟩),.pointer (some ⟨b,0,none⟩),.map (some mb)] 111 (0,0))
 lvl:W.heap[lb]? =some (.cells #[.int .i64 lv] 3 (0,0))
 go:W.heap[gb]? =some (.cells #[.func (.func 81) #[] #[.pointer (some ⟨wb,0,none⟩),.pointer (some ⟨lb,0,none⟩),.pointer (some ⟨ob,0,none⟩)]] 132 (0,0))
 res:W.heap[r6]? =some (.cells #[.slice none 0 0,.int .i64 0,.int .i64 0,.slice none 0 0,.slice none 0 0] 65 (0,0))
 err:W.heap[r6+1]? =some (.cells #[.int .i64 0] 44 (0,0))
theorem CfFix.kept {O:Nat→Prop} {W W':World} {a b r6 mb wb lb gb ob:Nat} {lv:Int} (h:CfFix W a b r6 mb wb lb gb ob lv) (k:Kept O W W') (hO: ∀g,O g→g≠wb∧g≠lb∧g≠gb∧g≠r6∧g≠r6+1):CfFix W' a b r6 mb wb lb gb ob lv:=
 ⟨(k.block wb (heap_lt h.wk) (fun e=>(hO _ e).1 rfl)).trans h.wk,(k.block lb (heap_lt h.lvl) (fun e=>(hO _ e).2.1 rfl)).trans h.lvl,(k.block gb (heap_lt h.go) (fun e=>(hO _ e).2.2.1 rfl)).trans h.go,(k.block r6 (heap_lt h.res) (fun e=>(hO _ e).2.2.2.1 rfl)).trans h.res,(k.block (r6+1) (heap_lt h.err) (fun e=>(hO _ e).2.2.2.2 rfl)).trans h.err⟩
theorem CfFix.wks {W:World} {a b r6 mb wb lb gb ob:Nat} {lv:Int} (h:CfFix W a b r6 mb wb lb gb ob lv):W.cell? ⟨wb,0,none⟩=some (.pointer (some ⟨a,0,none⟩))∧W.cell? ⟨wb,1,none⟩=some (.pointer (some ⟨b,0,none⟩))∧W.cell? ⟨wb,2,none⟩=some (.map (some mb)):=
 ⟨mx_cell (j:=0) h.wk,mx_cell (j:=1) h.wk,mx_cell (j:=2) h.wk⟩
structure CfB (k:Nat) (s:CSt) (kk:Nat):Prop where
 kk:kk≤(k+1)*4194304
 low: -(k:Int)≤s.op
 high:s.op≤((k:Int)+1)*4194304
 lits:s.lits.length≤k
 hints:s.hints.length≤k
 met:s.met.length≤k
theorem CfB.keep {k kk:Nat} {s:CSt} (h:CfB k s kk):CfB (k+1) s kk:=by
 obtain⟨h1,h2,h3,h4,h5,h6⟩:=h
 exact⟨Nat.le_trans h1 (Nat.mul_le_mul_right _ (Nat.le_succ _)),by omega,by omega,by omega,by omega,by omega⟩
theorem CfB.lit {k kk:Nat} {s:CSt} (h:CfB k s kk) (x:Int) (m:List Int) (hm:m.length≤s.met.length+1):CfB (k+1) ⟨s.ms,s.op,s.lits++ [x],s.hints,m⟩ kk:=by
 obtain⟨h1,h2,h3,h4,h5,h6⟩:=h
 exact⟨Nat.le_trans h1 (Nat.mul_le_mul_right _ (Nat.le_succ _)),by simp only;omega,by simp only;omega,by simp;omega,by simp only;omega,by simp only;omega⟩
theorem CfB.hint {k kk kk':Nat} {s:CSt} (h:CfB k s kk) (ms:List Int) (op x:Int) (m:List Int) (hm:m.length≤s.met.length+1) (hk:kk'≤kk+4194304) (ho1:s.op-1≤op) (ho2:op≤s.op+4194304):CfB (k+1) ⟨ms,op,s.lits,s.hints++ [x],m⟩ kk':=by
 obtain⟨h1,h2,h3,h4,h5,h6⟩:=h
 exact⟨(Nat.succ_mul (k+1) 4194304)▸Nat.le_trans hk (Nat.add_le_add_right h1 _),by simp only;omega,by simp only;omega,by simp only;omega,by simp;omega,by simp only;omega⟩
def CfI (A:Arn) (T:Trl) (lv:Int) (s0:CSt) (WR:World) (mb ob sb:Nat) (pre:List (Nat×Int)) (W:World):Prop:=
 ∃s kk x y z,cfRun A T lv s0 (pre.map Prod.snd)=some s∧CfMem WR W mb ob sb s kk x y z∧CfB pre.length s kk
def CfX (A:Arn) (T:Trl) (lv:Int) (s0:CSt) (r6 B:Nat) (w:World) (c:Code) (pre:List (Nat×Int)) (W:World):Prop:=
 c= .ret∧cfRun A T lv s0 (pre.map Prod.snd)=none∧W.heap[r6]? =some (.cells #[.slice none 0 0,.int .i64 0,.int .i64 0,.slice none 0 0,.slice none 0 0] 65 (0,0))∧W.heap[r6+1]? =some (.cells #[.int .i64 141] 44 (0,0))∧Below B w W
theorem cfI_own (A:Arn) (T:Trl) (lv:Int) (s0:CSt) (WR:World) (mb ob sb:Nat) (hm:mb<WR.heap.size) (ho:ob<WR.heap.size) (hs:sb<WR.heap.size):OwnFrom WR.heap.size (CfI A T lv s0 WR mb ob sb):=by
 rintro pre W W' row ⟨s,kk,x,y,z,h1,h2,h3⟩ hg hr
 exact⟨s,kk,x,y,z,h1,h2.grown hm ho hs hg hr,h3⟩
theorem cfX_own (A:Arn) (T:Trl) (lv:Int) (s0:CSt) (r6 B R:Nat) (w:World) (c:Code) (h6:r6+1<R) (hB:B≤w.heap.size) (hR:B≤R):OwnFrom R (CfX A T lv s0 r6 B w c):=by
 rintro pre W W' row ⟨h1,h2,h3,h4,h5⟩ hg hr
 refine⟨h1,h2,(hg.block r6 (heap_lt h3) (fun e=>?_)).trans h3,(hg.block (r6+1) (heap_lt h4) (fun e=>?_)).trans h4,ownFrom_below (β:=Unit) hB hR () W W' row h5 hg hr⟩
 ·
  have:=(hr _ e.symm).1
  omega
 ·
  have:=(hr _ e.symm).1
  omega
theorem downL_rev (o:List Int) (k:Nat) (h:k≤o.length):(downL o k).map Prod.snd=(o.take k).reverse:=by
 induction k with
 | zero=>simp[downL]
 | succ k ih=>
  obtain⟨x,hx⟩:=getElem_of (show k<o.length by omega)
  simp only[downL]
  rw[hx]
  simp only[List.map_cons]
  rw[ih (by omega),List.take_add_one,hx]
  simp
structure CfLoop (a b mb wb lb:Nat) (lv n:Int) (ms:List Int) (w2 WR:World):Prop where
 size:WR.heap.size=w2.heap.size+4
 kept:Below w2.heap.size w2 WR
 op:WR.heap[w2.heap.size]? =some (.cells #[.int .i64 n] 3 (0,0))
 out:WR.heap[w2.heap.size+1]? =some (.cells #[.slice none 0 0,.int .i64 0,.int .i64 0,.slice none 0 0,.slice none 0 0] 65 (0,0))
 go:WR.heap[w2.heap.size+1+1]? =some (.cells #[.func (.func 81) #[] #[.pointer (some ⟨wb,0,none⟩),.pointer (some ⟨lb,0,none⟩),.pointer (some ⟨w2.heap.size,0,none⟩)]] 132 (0,0))
 dn:WR.heap[w2.heap.size+1+1+1]? =some (.cells #[.pointer (some ⟨b,0,none⟩)] 38 (0,0))
theorem cf_loop (a b mb wb lb:Nat) (lv n:Int) (ms:List Int) (w2:World): ∃WR,(((w2.alloc (.cells #[.int .i64 n] 3)).alloc (.cells #[.slice none 0 0,.int .i64 0,.int .i64 0,.slice none 0 0,.slice none 0 0] 65)).alloc (.cells #[.func (.func 81) #[] #[.pointer (some ⟨wb,0,none⟩),.pointer (some ⟨lb,0,none⟩),.pointer (some ⟨w2.heap.size,0,none⟩)]] 132)).alloc (.cells #[.pointer (some ⟨b,0,none⟩)] 38)=WR∧CfLoop a b mb wb lb lv n ms w2 WR:=by
 refine⟨_,rfl,?_,(((mx_al _ _).alloc (by simp) _).alloc (by simp;omega) _).alloc (by simp;omega) _,?_,?_,?_,?_⟩
 ·
  simp
 ·
  rw[Below.heap_alloc _ _ _ (by simp;omega),Below.heap_alloc _ _ _ (by simp;omega),Below.heap_alloc _ _ _ (by simp)]
  exact World.alloc_heap_new _ _
 ·
  rw[Below.heap_alloc _ _ _ (by simp),Below.heap_alloc _ _ _ (by simp)]
  have:=World.alloc_heap_new (w2.alloc (.cells #[.int .i64 n] 3)) (.cells #[.slice none 0 0,.int .i64 0,.int .i64 0,.slice none 0 0,.slice none 0 0] 65)
  rwa [World.size_alloc]at this
 ·
  rw[Below.heap_alloc _ _ _ (by simp)]
  have:=World.alloc_heap_new ((w2.alloc (.cells #[.int .i64 n] 3)).alloc (.cells #[.slice none 0 0,.int .i64 0,.int .i64 0,.slice none 0 0,.slice none 0 0] 65)) (.cells #[.func (.func 81) #[] #[.pointer (some ⟨wb,0,none⟩),.pointer (some ⟨lb,0,none⟩),.pointer (some ⟨w2.heap.size,0,none⟩)]] 132)
  rwa [World.size_alloc,World.size_alloc]at this
 ·
  have:=World.alloc_heap_new (((w2.alloc (.cells #[.int .i64 n] 3)).alloc (.cells #[.slice none 0 0,.int .i64 0,.int .i64 0,.slice none 0 0,.slice none 0 0] 65)).alloc (.cells #[.func (.func 81) #[] #[.pointer (some ⟨wb,0,none⟩),.pointer (some ⟨lb,0,none⟩),.pointer (some ⟨w2.heap.size,0,none⟩)]] 132)) (.cells #[.pointer (some ⟨b,0,none⟩)] 38)
  rwa [World.size_alloc,World.size_alloc,World.size_alloc]at this
theorem downL_len (o:List Int) (k:Nat):(downL o k).length≤k:=by
 induction k with
 | zero=>exact Nat.le_refl _
 | succ k ih=>
  simp only[downL]
  split
  ·
   simp only[List.length_cons]
   omega
  ·
   exact Nat.zero_le _
def Trl.backOf (T:Trl):List Int→Int
 | _::l::_=>T.level (litV l:Nat)
 | _=>0
def Trl.levelsOf (T:Trl) (c:List Int):Int:=if clauseB c=true then(T.nLevels c:Nat)else 0
theorem an_levels_any {O Oc:Nat→Prop} (b:Nat) (T:Trl) (cv:Value) (c:List Int) (w:World) (h:TrAt O w b T) (hc:IntsIn Oc w cv c) (hcl:c.length≤140737488355328):
  Calls Tryz.prog 86 #[.pointer (some ⟨b,0,none⟩),cv] w fun e w'=>(∃k:Int,e= .returned (.tuple #[.int .i64 (T.levelsOf c),.int .i64 k]))∧Below w.heap.size w w':=by
 unfold Trl.levelsOf
 cases hr:clauseB c with
 | true=>
  refine(an_levels b T cv c w h hc hr).mono ?_
  rintro e w' ⟨rfl,hb⟩
  exact⟨⟨0,rfl⟩,hb⟩
 | false=>
  refine(an_levels_bad b cv c w hc hr hcl).mono ?_
  rintro e w' ⟨rfl,rfl⟩
  exact⟨⟨20,rfl⟩,Below.refl _ _⟩
def cfEnd (A:Arn) (T:Trl) (lv:Int) (c:List Int):Option CSt:=cfRun A T lv ⟨(T.meetGo 0 lv c [] 0).1,((T.meetGo 0 lv c [] 0).2:Nat),[],[],[]⟩ T.order.reverse
def ConfPost (A:Arn) (T:Trl) (lv id:Int) (c:List Int) (w:World) (e:Ending) (w':World):Prop:=
 (∃s x y z,cfEnd A T lv c=some s∧e= .returned (.tuple #[.agg #[x,.int .i64 (T.backOf s.lits),.int .i64 (T.levelsOf s.lits),y,z],.int .i64 0])∧
  w'.ownsRow w.heap.size 32 1 x s.lits.length (s.lits.map (Value.int .i64))∧w'.ownsRow w.heap.size 3 1 y (s.hints.reverse++ [id]).length ((s.hints.reverse++ [id]).map (Value.int .i64))∧w'.ownsRow w.heap.size 3 1 z (sortI s.met).length ((sortI s.met).map (Value.int .i64)))∨
 (cfEnd A T lv c=none∧e= .returned (.tuple #[.agg #[.slice none 0 0,.int .i64 0,.int .i64 0,.slice none 0 0,.slice none 0 0],.int .i64 141]))
set_option maxRecDepth 100000 in
set_option maxHeartbeats 8000000 in
theorem conf_main {O Oa:Nat→Prop} (a b:Nat) (A:Arn) (T:Trl) (id lv:Int) (c:List Int) (w:World) (ha:ArAt Oa w a A) (h:TrAt O w b T) (hg:A.get id=some c) (hlen: ∀id c,A.get id=some c→c.length≤4194304) (hf:T.failMax c 0=some lv):
  Calls Tryz.prog 32 #[.pointer (some ⟨a,0,none⟩),.pointer (some ⟨b,0,none⟩),.int .i64 id] w fun e w'=>ConfPost A T lv id c w e w'∧Below w.heap.size w w':=by
 have HA:=Lib.hid ha
 have HT:=Lib.hid h
 have HG:=Lib.hid hg
 have HLEN:=Lib.hid hlen
 have HF:=Lib.hid hf
 have hcl:=hlen id c hg
 clear ha h hg hlen hf
 have hmm:=@run_makeMap Tryz.prog
 obtain⟨W0,hW0,hb0,hs0⟩:=cf_start a b w
 have HW0:=Lib.hid hW0
 have HB0:=Lib.hid hb0
 have HS0:=Lib.hid hs0
 clear hW0 hb0 hs0
 refine(callsIn_wide (n:=9)).1 ?_
 refine callsIn_of_wp_marks Tryz.func32 rfl trivial ?_ rfl
 simp only[Tryz.ntmps32,List.size_toArray,List.length_cons,List.length_nil,Nat.reduceAdd,Nat.reduceSub,Array.replicate_succ,Array.replicate_zero,List.push_toArray,List.append_toArray,List.nil_append,List.cons_append]
 gi_wp2
 refine wpIn_wide.2 (wp_scope_straight ((wpIn_wide (n:=9)).1 ?_))
 gi_wp2_with fail
 rw[HW0.out]
 refine⟨trivial,?_⟩
 refine(callsIn_wide.2 (wk_fails a b _ A T id c _ (HA.out.below HB0.out) (HT.out.below HB0.out) HG.out hcl)).mono ?_
 rintro e w1 ⟨hor,hb1⟩
 obtain⟨v,n,hn,rfl,hown⟩:=hor.resolve_right (fun hh=>by rw[HF.out]at hh;cases hh.1)
 rw[HF.out]at hn
 obtain rfl:=Option.some.inj hn
 clear hor hn
 obtain⟨Av,cv,rfl,hcv⟩:=mx_slice hown
 have HB1:=Lib.hid hb1
 have HC:=Lib.hid hown
 have k8:=(hb1.block (w.heap.size+1+1+1) (by have:=HS0.out.size;omega)).trans HS0.out.wk
 have hz8:w.heap.size+1+1+1<w1.heap.size:=heap_lt k8
 have q0:=mx_cell (j:=0) k8
 have q1:=mx_cell (j:=1) k8
 have q2:=mx_cell (j:=2) k8
 clear k8 hb1 hown
 gi_wp2_with fail
 obtain⟨W1,hW1⟩: ∃x,w1.alloc (.cells #[.int .i64 lv] 3)=x:=⟨_,rfl⟩
 have hbW1:Below w1.heap.size w1 W1:=by rw[←hW1];exact mx_al _ _
 have hlW1:W1.heap[w1.heap.size]? =some (.cells #[.int .i64 lv] 3 (0,0)):=by rw[←hW1];exact World.alloc_heap_new _ _
 rw[hW1]
 have hB01:Below W0.heap.size W0 W1:=HB1.out.trans (hbW1.mono HB1.out.size)
 have HB01:=Lib.hid hB01
 have HBW1:=Lib.hid hbW1
 have HLW1:=Lib.hid hlW1
 have HM1:=Lib.hid (HS0.out.map.below hB01)
 have HTW1:=Lib.hid (HT.out.below (HB0.out.trans (hB01.mono HB0.out.size)))
 have HCW1:=Lib.hid (own_below HC.out hbW1)
 have hmt:=wk_meet (w:=W1) a b (w.heap.size+1+1) 0 T (.slice Av c.length cv) c [] 0 lv HTW1.out (IntsIn.of_own HCW1.out) HM1.out (fun hO=>by
  obtain⟨_,gv,cv',ov,sv,hm⟩:=HT.out
  have:=hm.own _ hO
  omega) (fun hO=>by
  have:=hO.1
  have:=HS0.out.size
  omega) (by omega)
 have HMT:=Lib.hid hmt
 obtain⟨n,hn⟩: ∃n,(T.meetGo 0 lv c [] 0).2=n:=⟨_,rfl⟩
 obtain⟨ms,hms⟩: ∃ms,(T.meetGo 0 lv c [] 0).1=ms:=⟨_,rfl⟩
 have hnl:n≤4194304:=by have:=meetGo_le T 0 lv c [] 0;omega
 have HN:=Lib.hid hn
 have HMS:=Lib.hid hms
 clear hW1 hbW1 hlW1 hB01 hmt hn hms q0 q1 q2
 refine⟨trivial,(callsIn_wide.2 HMT.out).mono ?_⟩
 rintro e w2 ⟨rfl,⟨kk0,hkk0,hmap2⟩,hk2⟩
 rw[HN.out]
 rw[HMS.out]at hmap2
 have HM2:=Lib.hid hmap2
 have HK2:=Lib.hid hk2
 clear HMT HM1 hmap2 hk2
 obtain⟨WR,hWR,hLP⟩:=cf_loop a b (w.heap.size+1+1) (w.heap.size+1+1+1) w1.heap.size lv (n:Int) ms w2
 have HWR:=Lib.hid hWR
 have HLP:=Lib.hid hLP
 clear hWR hLP
 gi_wp2
 refine wpIn_label ?_
 gi_wp2_with (refine⟨trivial,?_⟩;gi_at_call 83;refine(down_in b _).mono ?_;rintro e w' ⟨rfl,rfl⟩)
 rw[HWR.out]
 have hszW:=HS0.out.size
 have hsz1:=HB1.out.size
 have hszb:=HBW1.out.size
 have hlw1:=heap_lt HLW1.out
 have hsz2:=HK2.out.size
 have hszR:=HLP.out.size
 have hbR:Below w.heap.size w WR:=((HB0.out.trans (HB01.out.mono HB0.out.size)).trans ((HK2.out.below (B:=w.heap.size) (fun i e=>by omega) (by omega)))).trans (HLP.out.kept.mono (by omega))
 have HBR:=Lib.hid hbR
 have k2R:Kept (fun g=>g=(w.heap.size+1+1)) W1 WR:=HK2.out.trans (Kept.of_below (O:=fun _=>False) HLP.out.kept) (fun _ _ e=>e.elim)
 have hfix:CfFix WR a b w.heap.size (w.heap.size+1+1) (w.heap.size+1+1+1) w1.heap.size (w2.heap.size+1+1) w2.heap.size lv:=
  ⟨(k2R.block (w.heap.size+1+1+1) (by omega) (by omega)).trans ((HB01.out.block (w.heap.size+1+1+1) (by omega)).trans HS0.out.wk),(k2R.block w1.heap.size (by omega) (by omega)).trans HLW1.out,HLP.out.go,(k2R.block w.heap.size (by omega) (by omega)).trans ((HB01.out.block w.heap.size (by omega)).trans HS0.out.res),(k2R.block (w.heap.size+1) (by omega) (by omega)).trans ((HB01.out.block (w.heap.size+1) (by omega)).trans HS0.out.err)⟩
 have HFX:=Lib.hid hfix
 have HCR:WR.ownsRow W0.heap.size 32 1 (.slice Av c.length cv) c.length (c.map (Value.int .i64)):=own_kept HCW1.out k2R (fun g hg e=>by
  have:=(own_lt HCW1.out g hg).1
  omega)
 have hOw: ∀g,O g→g<w.heap.size:=by
  obtain⟨_,gv,cv',ov,sv,hm⟩:=HT.out
  exact hm.own
 have hAw: ∀g,Oa g→g<w.heap.size:=by
  obtain⟨_,stv,alv,hm⟩:=HA.out
  exact hm.own
 have hI0:CfI A T lv ⟨ms,(n:Int),[],[],[]⟩ WR (w.heap.size+1+1) w2.heap.size (w2.heap.size+1) [] WR:=
  ⟨_,kk0,.slice none 0 0,.slice none 0 0,.slice none 0 0,rfl,⟨Kept.refl _ _,HM2.out.below HLP.out.kept,HLP.out.op,HLP.out.out,World.ownsRow_nil _ _ _ _,World.ownsRow_nil _ _ _ _,World.ownsRow_nil _ _ _ _,fun _ h=>by cases h⟩,⟨by first|(simp;done)|(simp;omega),by first|(simp;done)|(simp;omega),by first|(simp;done)|(simp;omega),Nat.le_refl _,Nat.le_refl _,Nat.le_refl _⟩⟩
 have HST:=Lib.hid (down_stops (O:=O) (X:=fun g=>g=(w.heap.size+1+1)∨g=w2.heap.size∨g=(w2.heap.size+1)∨WR.heap.size≤g) (w2.heap.size+1+1+1) b T WR (mx_cell (j:=0) HLP.out.dn) (by omega) (HT.out.below hbR) (fun g hg e=>by
  have:=hOw g hg
  omega))
 have HI0:=Lib.hid hI0
 have HOW:=Lib.hid hOw
 have HAW:=Lib.hid hAw
 have HOR:=Lib.hid HT.out.1.order
 have hmbR:(w.heap.size+1+1)<WR.heap.size:=by omega
 have hobR:w2.heap.size<WR.heap.size:=by omega
 have hsbR:(w2.heap.size+1)<WR.heap.size:=by omega
 obtain⟨i1,hi1,iz1,iz2,iz3⟩:=info_parts tinfo_int
 obtain⟨i2,hi2,jz1,jz2,jz3⟩:=info_parts tinfo_lit
 have hsR4:w2.heap.size+4≤WR.heap.size:=Nat.le_of_eq hszR.symm
 have HCR2:=Lib.hid HCR
 have I1:=Lib.hid hi1
 have I2:=Lib.hid iz1
 have I3:=Lib.hid iz2
 have I4:=Lib.hid iz3
 have J1:=Lib.hid hi2
 have J2:=Lib.hid jz1
 have J3:=Lib.hid jz2
 have J4:=Lib.hid jz3
 clear hbR k2R hfix hI0 hOw hAw hmm hszW hszR HCR hi1 iz1 iz2 iz3 hi2 jz1 jz2 jz3
 refine wpIn_rangeFunc_ownG rfl (by omega) (gf:=125) (lb:= #[.pointer (some ⟨(w2.heap.size+1+1+1),0,none⟩)]) rfl trivial (enters_of Tryz.func125 (by kernel_rfl) rfl)
  HST.out (fun h k=>h.trans k) (fun W l o o' _ h hc hw=>(KpC.putObj W l o o' h hc hw).mono (fun _ _ h=>h.elim)) (Below.refl _ _) (fun _=>rfl)
  (CfI A T lv ⟨ms,(n:Int),[],[],[]⟩ WR (w.heap.size+1+1) w2.heap.size (w2.heap.size+1)) (CfX A T lv ⟨ms,(n:Int),[],[],[]⟩ w.heap.size w.heap.size w) (cfI_own _ _ _ _ _ _ _ _ hmbR hobR hsbR) (fun c=>cfX_own _ _ _ _ _ _ _ _ c (by omega) (Nat.le_refl _) (by omega)) HI0.out
  ?frame ?assign ?body ?done ?stop
 case assign=>
  intro l x W K hK
  dsimp only[dv]
  gi_wp2
  exact hK
 case body=>
  rintro l pre ⟨m,u⟩ W ⟨s,kk,vx,vy,vz,hrun,hmem,hB⟩ hlt
  have hpo:=HOR.out
  have hub:=litV_le u
  have HM0:=Lib.hid hmem
  have HC0:=Lib.hid (CfR.refl WR.heap.size (w.heap.size+1+1) w2.heap.size (w2.heap.size+1) W)
  have HRUN:=Lib.hid hrun
  have HB:=Lib.hid hB
  have hszM:=hmem.size
  have hwf:=wf64 (x:=((litV u:Nat):Int)) (by omega) (by omega)
  have hlk:=hmem.map.lookup hwf
  have HSN:=Lib.hid (show cfRun A T lv ⟨ms,(n:Int),[],[],[]⟩ ((pre++ [(m,u)]).map Prod.snd)=cfStep A T lv s u from by
   rw[List.map_append]
   exact cfRun_snoc u hrun)
  clear hrun hmem hB hwf
  have HF0:=Lib.hid (HFX.out.kept HM0.out.kept (fun g e=>by omega))
  have HW0:=Lib.hid (below_kept HBR.out HM0.out.kept (fun i e=>by omega) HBR.out.size)
  obtain⟨q0,q1,q2⟩:=HF0.out.wks
  cases hms:s.ms.contains ((litV u:Nat):Int)with
  | false=>
   have hmz:(metF s.ms ((litV u:Nat):Int)==0)=true:=by rw[metF_zero,hms];rfl
   have HMZ:=Lib.hid hms
   clear hms
   gi_wp2_with fail
   refine⟨trivial,(CallsIn.inRound l (callsIn_wide.2 (lit_var u W))).mono ?_⟩
   rintro e w' ⟨rfl,rfl⟩
   gi_wp2_with fail
   refine⟨HC0.out.keeps hmbR hobR hsbR,HC0.out.kpc,s,_,_,_,_,HSN.out.trans ?_,HM0.out,?_⟩
   ·
    unfold cfStep
    rw[if_pos HMZ.out]
   ·
    rw[List.length_append]
    exact HB.out.keep
  | true=>
   have hmz:(metF s.ms ((litV u:Nat):Int)==0)=false:=by rw[metF_zero,hms];rfl
   have HMZ:=Lib.hid hms
   clear hms
   obtain⟨y,hy⟩: ∃y,T.level (litV u:Nat)=y:=⟨_,rfl⟩
   have HY:=Lib.hid hy
   clear hy
   gi_wp2_with fail
   refine⟨trivial,(CallsIn.inRound l (callsIn_wide.2 (lit_var u W))).mono ?_⟩
   rintro e w' ⟨rfl,rfl⟩
   by_cases h0:0<y
   ·
    have hq0:decide (0<y)=true:=by simpa using h0
    have H0:=Lib.hid h0
    clear h0
    have hLV:=wk_level a b (some (w.heap.size+1+1)) T (litV u:Nat) W (HT.out.below HW0.out)
    rw[HY.out]at hLV
    have HLV:=Lib.hid hLV
    clear hLV
    gi_wp2_with fail
    refine⟨trivial,(CallsIn.inRound l (callsIn_wide.2 (HLV.out))).mono ?_⟩
    rintro e w3 ⟨rfl,hb3⟩
    clear q0 q1 q2 hlk HLV
    have HM3:=Lib.hid (HM0.out.below hb3)
    have HC3:=Lib.hid (HC0.out.trans (CfR.below hb3))
    clear hb3
    have HF3:=Lib.hid (HFX.out.kept HM3.out.kept (fun g e=>by omega))
    have HW3:=Lib.hid (below_kept HBR.out HM3.out.kept (fun i e=>by omega) HBR.out.size)
    obtain⟨⟨o0,o1,o2,o3,o4⟩,f0,f1,f2,f3,f4⟩:=cells5 HM3.out.out
    have hz5:=HM3.out.size
    have hbl5:s.met.length≤1048576:=by have:=HB.out.met;omega
    gi_wp2_with (gi_at_builtin;refine wpListIn_append_any rfl _ _ 63 rfl WR.heap.size 3 i1 (.int .i64 0) 1 8 Tryz.underlying63 I1.out I2.out I3.out I4.out rfl (by decide) _ s.met.length _ rfl (own_below HM3.out.met (mx_al w3 (.cells #[.int .i64 ((litV u:Nat):Int)] 3))) (.slice (some ⟨w3.heap.size,0,none⟩) 1 1) 1 [.int .i64 ((litV u:Nat):Int)] rfl (mx_src w3 3 [.int .i64 ((litV u:Nat):Int)]) rfl (by simp[Value.oneCell']) (by unfold maxLen;omega) (by omega) (by simp;omega) ?_;intro v' w4 hown' hgrow hat;obtain⟨A5,c5,rfl,_⟩:=mx_slice hown';obtain⟨hm4,hr4,hs4,hk4,hk5⟩:=HM3.out.pushMet hmbR hobR hsbR ((litV u:Nat):Int) (mx_al w3 (.cells #[.int .i64 ((litV u:Nat):Int)] 3)) hgrow hown' hat;have x4:=mx_cell (j:=4) hs4;have y4:=mx_free (j:=4) hs4;have g0:=mx_cell (j:=0) ((HF3.out.kept hk4 (fun g e=>by omega)).go);obtain⟨q0,q1,q2⟩:=(HF3.out.kept hk4 (fun g e=>by omega)).wks;have l0:=mx_cell (j:=0) ((HF3.out.kept hk4 (fun g e=>by omega)).lvl);have hzz:WR.heap.size≤w4.heap.size:=Nat.le_trans HM3.out.size hk4.size;have HM5:=Lib.hid hm4;have HR5:=Lib.hid hr4;have HK5:=Lib.hid hk5;clear hm4 hr4 hs4 hk4 hk5 hown' hgrow hat o0 o1 o2 o3 o4 f0 f1 f2 f3 f4)
    obtain⟨W5,hW5⟩: ∃x,w4.setCell ⟨(w2.heap.size+1),4,none⟩ (.slice A5 (s.met.length+1) c5)=x:=⟨_,rfl⟩
    rw[hW5]at HM5 HR5 HK5⊢
    have HC5:=Lib.hid (HC3.out.trans HR5.out)
    clear hW5 x4 y4 g0 q0 q1 q2 l0 HR5
    have HF5:=Lib.hid (HFX.out.kept HM5.out.kept (fun g e=>by omega))
    have HW5:=Lib.hid (below_kept HBR.out HM5.out.kept (fun i e=>by omega) HBR.out.size)
    cases hgo:T.goes lv s.op ((litV u:Nat):Int)with
    | false=>
     have HGO:=Lib.hid hgo
     clear hgo hq0
     have hGO:=goes_any a b (w.heap.size+1+1) (w.heap.size+1+1+1) w1.heap.size w2.heap.size T lv s.op ((litV u:Nat):Int) W5 (HT.out.below HW5.out) HF5.out.wk (mx_cell (j:=0) HF5.out.lvl) (mx_cell (j:=0) HM5.out.op)
     rw[HGO.out]at hGO
     have HGC:=Lib.hid hGO
     clear hGO
     refine⟨trivial,(CallsIn.inRound l (callsIn_wide.2 (HGC.out))).mono ?_⟩
     rintro e w6 ⟨rfl,hb6⟩
     clear HGC
     have HM6:=Lib.hid (HM5.out.below hb6)
     have HC6:=Lib.hid (HC5.out.trans (CfR.below hb6))
     clear hb6
     have HF6:=Lib.hid (HFX.out.kept HM6.out.kept (fun g e=>by omega))
     have HW6:=Lib.hid (below_kept HBR.out HM6.out.kept (fun i e=>by omega) HBR.out.size)
     gi_wp2
     have hz9:=HM6.out.size
     have hbl9:s.lits.length≤1048576:=by have:=HB.out.lits;omega
     refine wpIn_round_sink (fun w'=>w'.cell? ⟨(w2.heap.size+1),0,none⟩=some vx) (by kernel_rfl) rfl (by kernel_rfl) (by kernel_rfl) (fun⟨_,_,h⟩=>h) (mx_cell (j:=0) HM6.out.out) (fun hS=>?_)
     simp only[List.dropLast]
     have hbD:=mx_drew w6
     obtain⟨wD,hwD⟩: ∃x,w6.drew=x:=⟨_,rfl⟩
     rw[hwD]at hS hbD⊢
     have HBD:=Lib.hid hbD
     clear hwD hbD
     refine takeE 0 74 ?_
     refine takeF 1 75 (fun wq hSw=>hSw) ?_
     refine takeE 2 76 ?_
     refine ready1 3 (fun K hK=>?_)
     go_simp
     refine(lit_neg u wD).mono ?_
     rintro e w' ⟨rfl,rfl⟩
     refine hK.out _ _ hS (fun _=>?_)
     clear hK
     refine ready1 4 (fun K hK=>?_)
     go_simp
     have hbA:=mx_al wD (.cells #[.int .i64 (litN u)] 32)
     have hS2:=(hbA.cell (p:=⟨(w2.heap.size+1),0,none⟩) (World.block_lt_of_cell? wD _ hS)).trans hS
     refine hK.out _ _ hS2 (fun _=>?_)
     have hbE:=HBD.out.trans (hbA.mono HBD.out.size)
     have HBE:=Lib.hid hbE
     have hzE:=hbE.size
     clear hK hbA hbE hS
     refine ready1 5 (fun K hK=>?_)
     rw[if_pos (by rfl)]
     refine wp_append_any_at 79 (by rfl) _ _ 34 rfl WR.heap.size 32 i2 (.int .i64 0) 1 8 Tryz.underlying34 J1.out J2.out J3.out J4.out rfl (by decide) _ s.lits.length _ (by rfl) (own_below HM6.out.lits HBE.out) (.slice (some ⟨wD.heap.size,0,none⟩) 1 1) 1 [.int .i64 (litN u)] (by rfl) (mx_src wD 32 [.int .i64 (litN u)]) rfl (by simp[Value.oneCell']) (by unfold maxLen;omega) (by omega) (by omega) ?_
     intro v' w8 hown' hgrow _
     obtain⟨A8,c8,rfl,_⟩:=mx_slice hown'
     obtain⟨hm4,hr4,hs4,_,_⟩:=HM6.out.pushLits hmbR hobR hsbR (litN u) HBE.out hgrow hown'
     refine hK.out _ _ (mx_cell (j:=0) hs4) (fun hS3=>?_)
     have y4:=mx_free (j:=0) hs4
     have HM8:=Lib.hid hm4
     have HR8:=Lib.hid hr4
     clear hK hm4 hr4 hs4 hown' hgrow hS2
     simp only[Act.put,List.setIfInBounds_toArray,List.set_cons_zero,List.set_cons_succ]
     refine takeE 6 80 ?_
     refine wpAnyH_done (by kernel_rfl) ?_ _
     refine lastPost_normal ?_
     refine wpOp_step rfl (fun K hK=>?_)
     go_simp
     refine hK _ _ ?_
     clear hK
     obtain⟨W8,hW8⟩: ∃x,w8.setCell ⟨(w2.heap.size+1),0,none⟩ (.slice A8 (s.lits.length+1) c8)=x:=⟨_,rfl⟩
     rw[hW8]at HM8 HR8⊢
     have HC8:=Lib.hid (HC6.out.trans HR8.out)
     clear hW8 y4 hS3 HR8
     gi_wp2
     refine⟨HC8.out.keeps hmbR hobR hsbR,HC8.out.kpc,⟨s.ms,s.op,s.lits++ [litN u],s.hints,s.met++ [((litV u:Nat):Int)]⟩,_,_,_,_,HSN.out.trans ?_,HM8.out,?_⟩
     ·
      unfold cfStep
      rw[if_neg (by rw[HMZ.out];decide),if_pos HGO.out,HY.out,if_pos H0.out]
     ·
      rw[List.length_append]
      exact HB.out.lit (litN u) _ (by simp)
    | true=>
     have HGO:=Lib.hid hgo
     clear hgo hq0
     have hGO:=goes_any a b (w.heap.size+1+1) (w.heap.size+1+1+1) w1.heap.size w2.heap.size T lv s.op ((litV u:Nat):Int) W5 (HT.out.below HW5.out) HF5.out.wk (mx_cell (j:=0) HF5.out.lvl) (mx_cell (j:=0) HM5.out.op)
     rw[HGO.out]at hGO
     have HGC:=Lib.hid hGO
     clear hGO
     refine⟨trivial,(CallsIn.inRound l (callsIn_wide.2 (HGC.out))).mono ?_⟩
     rintro e w6 ⟨rfl,hb6⟩
     clear HGC
     have HM6:=Lib.hid (HM5.out.below hb6)
     have HC6:=Lib.hid (HC5.out.trans (CfR.below hb6))
     clear hb6
     have HF6:=Lib.hid (HFX.out.kept HM6.out.kept (fun g e=>by omega))
     have HW6:=Lib.hid (below_kept HBR.out HM6.out.kept (fun i e=>by omega) HBR.out.size)
     obtain⟨q0,q1,q2⟩:=HF6.out.wks
     have HRC:=Lib.hid (wk_right a b (some (w.heap.size+1+1)) A T u w6 (HA.out.below HW6.out) (HT.out.below HW6.out) HLEN.out)
     gi_wp2_with fail
     refine⟨trivial,(CallsIn.inRound l (callsIn_wide.2 (HRC.out))).mono ?_⟩
     rintro e w7 ⟨hor,hb7⟩
     clear q0 q1 q2 HRC
     cases hrt:rightP A T u with
     | none=>
      obtain⟨_,rfl⟩:=hor.resolve_left (fun⟨_,_,_,hh,_⟩=>by rw[hrt]at hh;cases hh)
      have HRT:=Lib.hid hrt
      clear hrt hor
      have HM7:=Lib.hid (HM6.out.below hb7)
      have HC7:=Lib.hid (HC6.out.trans (CfR.below hb7))
      clear hb7
      have HF7:=Lib.hid (HFX.out.kept HM7.out.kept (fun g e=>by omega))
      have HW7:=Lib.hid (below_kept HBR.out HM7.out.kept (fun i e=>by omega) HBR.out.size)
      obtain⟨⟨p0,p1,p2,p3,p4⟩,f0,f1,f2,f3,f4⟩:=cells5 HF7.out.res
      have p7:=mx_cell (j:=0) HF7.out.err
      have f7:=mx_free (j:=0) HF7.out.err
      gi_wp2
      obtain⟨Wf,hWf⟩: ∃x,((((((w7.setCell ⟨w.heap.size,0,none⟩ (.slice none 0 0)).setCell ⟨w.heap.size,1,none⟩ (.int .i64 0)).setCell ⟨w.heap.size,2,none⟩ (.int .i64 0)).setCell ⟨w.heap.size,3,none⟩ (.slice none 0 0)).setCell ⟨w.heap.size,4,none⟩ (.slice none 0 0)).setCell ⟨w.heap.size+1,0,none⟩ (.int .i64 141))=x:=⟨_,rfl⟩
      rw[hWf]
      have r6:Wf.heap[w.heap.size]? =some (.cells #[.slice none 0 0,.int .i64 0,.int .i64 0,.slice none 0 0,.slice none 0 0] 65 (0,0)):=by
       rw[←hWf,Below.heap_setCell _ _ _ _ (by simp)]
       exact mx_set (j:=4) (mx_set (j:=3) (mx_set (j:=2) (mx_set (j:=1) (mx_set (j:=0) HF7.out.res _) _) _) _) _
      have r7:Wf.heap[w.heap.size+1]? =some (.cells #[.int .i64 141] 44 (0,0)):=by
       rw[←hWf]
       exact mx_set (j:=0) ((Below.heap_setCell _ _ _ _ (by simp)).trans ((Below.heap_setCell _ _ _ _ (by simp)).trans ((Below.heap_setCell _ _ _ _ (by simp)).trans ((Below.heap_setCell _ _ _ _ (by simp)).trans ((Below.heap_setCell _ _ _ _ (by simp)).trans HF7.out.err))))) _
      have hkf:Kept (fun g=>g=w.heap.size∨g=w.heap.size+1) w7 Wf:=by
       rw[←hWf]
       exact(((((((Kept.refl (fun g=>g=w.heap.size∨g=w.heap.size+1) w7).setCell ⟨w.heap.size,0,none⟩ _ (.inl rfl)).setCell ⟨w.heap.size,1,none⟩ _ (.inl rfl)).setCell ⟨w.heap.size,2,none⟩ _ (.inl rfl)).setCell ⟨w.heap.size,3,none⟩ _ (.inl rfl)).setCell ⟨w.heap.size,4,none⟩ _ (.inl rfl)).setCell ⟨w.heap.size+1,0,none⟩ _ (.inr rfl))
      clear hWf p0 p1 p2 p3 p4 f0 f1 f2 f3 f4 p7 f7
      have hkp:=HC7.out.keeps hmbR hobR hsbR
      refine⟨⟨Nat.le_trans hkp.size hkf.size,fun k o hk hg hc=>?_⟩,rfl,HSN.out.trans ?_,r6,r7,below_kept HW7.out hkf (fun i e=>by omega) HW7.out.size⟩
      ·
       have h1:=hkp.same k o hk hg hc
       exact(hkf.block k (heap_lt h1) (fun e=>by omega)).trans h1
      ·
       unfold cfStep
       rw[if_neg (by rw[HMZ.out];decide),if_neg (by rw[HGO.out];decide),HRT.out]
     | some p=>
      obtain⟨id7,c',v7,hh,rfl,hown7⟩:=hor.resolve_right (fun hh=>by rw[hrt]at hh;cases hh.1)
      have HRT:=Lib.hid hh
      have hget7:=rightP_get hh
      clear hrt hor hh
      obtain⟨A7,c7,rfl,_⟩:=mx_slice hown7
      have HO7:=Lib.hid hown7
      have hc7:=HLEN.out _ _ hget7
      have hz6:=HM6.out.size
      clear hown7 hget7
      have HM7:=Lib.hid (HM6.out.below hb7)
      have HC7:=Lib.hid (HC6.out.trans (CfR.below hb7))
      clear hb7
      have HF7:=Lib.hid (HFX.out.kept HM7.out.kept (fun g e=>by omega))
      have HW7:=Lib.hid (below_kept HBR.out HM7.out.kept (fun i e=>by omega) HBR.out.size)
      obtain⟨⟨o0,o1,o2,o3,o4⟩,f0,f1,f2,f3,f4⟩:=cells5 HM7.out.out
      have hz8:=HM7.out.size
      have hbl8:s.hints.length≤1048576:=by have:=HB.out.hints;omega
      gi_wp2_with (gi_at_builtin;refine wpListIn_append_any rfl _ _ 63 rfl WR.heap.size 3 i1 (.int .i64 0) 1 8 Tryz.underlying63 I1.out I2.out I3.out I4.out rfl (by decide) _ s.hints.length _ rfl (own_below HM7.out.hints (mx_al w7 (.cells #[.int .i64 id7] 3))) (.slice (some ⟨w7.heap.size,0,none⟩) 1 1) 1 [.int .i64 id7] rfl (mx_src w7 3 [.int .i64 id7]) rfl (by simp[Value.oneCell']) (by unfold maxLen;omega) (by omega) (by simp;omega) ?_;intro v' w8 hown' hgrow hat;obtain⟨A8,c8,rfl,_⟩:=mx_slice hown';obtain⟨hm4,hr4,hs4,hk4,hk5⟩:=HM7.out.pushHints hmbR hobR hsbR id7 (mx_al w7 (.cells #[.int .i64 id7] 3)) hgrow hown' hat;have x4:=mx_cell (j:=3) hs4;have y4:=mx_free (j:=3) hs4;have g0:=mx_cell (j:=0) ((HF7.out.kept hk4 (fun g e=>by omega)).go);obtain⟨q0,q1,q2⟩:=(HF7.out.kept hk4 (fun g e=>by omega)).wks;have l0:=mx_cell (j:=0) ((HF7.out.kept hk4 (fun g e=>by omega)).lvl);have hzz:WR.heap.size≤w8.heap.size:=Nat.le_trans HM7.out.size hk4.size;have HM8:=Lib.hid hm4;have HR8:=Lib.hid hr4;have HK8:=Lib.hid hk5;clear hm4 hr4 hs4 hk4 hk5 hown' hgrow hat o0 o1 o2 o3 o4 f0 f1 f2 f3 f4)
      obtain⟨W8,hW8⟩: ∃x,w8.setCell ⟨(w2.heap.size+1),3,none⟩ (.slice A8 (s.hints.length+1) c8)=x:=⟨_,rfl⟩
      rw[hW8]at HM8 HR8 HK8⊢
      have HC8:=Lib.hid (HC7.out.trans HR8.out)
      clear hW8 x4 y4 g0 q0 q1 q2 l0 HR8
      have HF8:=Lib.hid (HFX.out.kept HM8.out.kept (fun g e=>by omega))
      have HW8:=Lib.hid (below_kept HBR.out HM8.out.kept (fun i e=>by omega) HBR.out.size)
      have HO8:=Lib.hid (own_kept HO7.out HK8.out (fun g hg e=>by
       have h1:=(own_lt HO7.out g hg).1
       rcases e with e|e
       ·
        omega
       ·
        exact mx_apart HO7.out HM7.out.hints (by decide) hg e.symm))
      have hkk8:=HB.out.kk
      have hmm8:(pre.length+1)*4194304≤1048577*4194304:=Nat.mul_le_mul_right _ (by omega)
      have hmt:=wk_meet (w:=W8) a b (w.heap.size+1+1) kk T (.slice A7 c'.length c7) c' s.ms ((litV u:Nat):Int) lv (HT.out.below HW8.out) (IntsIn.of_own HO8.out) HM8.out.map (fun hO=>by
       have:=HOW.out _ hO
       omega) (fun hO=>by
       have:=hO.1
       omega) (by omega)
      obtain⟨more,hmo⟩: ∃k,(T.meetGo ((litV u:Nat):Int) lv c' s.ms 0).2=k:=⟨_,rfl⟩
      have hmle:more≤4194304:=by have:=meetGo_le T ((litV u:Nat):Int) lv c' s.ms 0;omega
      rw[hmo]at hmt
      have HMO:=Lib.hid hmo
      have HMT:=Lib.hid hmt
      have hk9:kk≤1048577*4194304:=Nat.le_trans hkk8 hmm8
      clear hmo hmt HK8 hkk8 hmm8
      refine⟨trivial,(CallsIn.inRound l (callsIn_wide.2 (HMT.out))).mono ?_⟩
      rintro e w9 ⟨rfl,⟨kk9,hkk9,hmap9⟩,hk9'⟩
      obtain⟨hm9,hr9⟩:=HM8.out.meet hk9' _ hmap9
      have HM9:=Lib.hid hm9
      have HC9:=Lib.hid (HC8.out.trans hr9)
      clear hm9 hr9 hmap9 hk9' HMT
      have HF9:=Lib.hid (HFX.out.kept HM9.out.kept (fun g e=>by omega))
      have HW9:=Lib.hid (below_kept HBR.out HM9.out.kept (fun i e=>by omega) HBR.out.size)
      gi_wp2
      have hb9:=heap_lt HF9.out.wk
      have hl9:=heap_lt HF9.out.lvl
      have HLV9:=Lib.hid (show T.level ((litV u:Nat):Int)=y from HY.out)
      refine wpIn_round_region (fun w'=>Below w9.heap.size w9 w') (by kernel_rfl) (by kernel_rfl) (fun⟨_,_,h⟩=>h) (mx_drew w9) (fun hS=>?_)
      refine takeF 0 102 (fun wq hSw=>And.intro ((hSw.cell (p:=⟨(w.heap.size+1+1+1),0,none⟩) hb9).trans HF9.out.wks.1) (And.intro ((hSw.cell (p:=⟨(w.heap.size+1+1+1),1,none⟩) hb9).trans HF9.out.wks.2.1) ((hSw.cell (p:=⟨(w.heap.size+1+1+1),2,none⟩) hb9).trans HF9.out.wks.2.2))) ?_
      refine takeE 1 103 ?_
      refine takeF 3 105 (fun wq hSw=>(hSw.cell (p:=⟨w1.heap.size,0,none⟩) hl9).trans (mx_cell (j:=0) HF9.out.lvl)) ?_
      refine ready1 2 (fun K hK=>?_)
      go_simp
      refine(wk_level a b (some (w.heap.size+1+1)) T ((litV u:Nat):Int) _ (HT.out.below (HW9.out.trans (hS.mono HW9.out.size)))).mono ?_
      rintro e wE ⟨rfl,hbE⟩
      rw[HLV9.out]
      have hS3:=hS.trans (hbE.mono hS.size)
      refine hK.out _ _ hS3 (fun _=>?_)
      clear hK hbE hS
      refine takeE 4 106 ?_
      refine wpAnyH_done (by kernel_rfl) ?_ _
      have HMA:=Lib.hid (HM9.out.below hS3)
      have HCA:=Lib.hid (HC9.out.trans (CfR.below hS3))
      clear hS3
      have HFA:=Lib.hid (HFX.out.kept HMA.out.kept (fun g e=>by omega))
      have HWA:=Lib.hid (below_kept HBR.out HMA.out.kept (fun i e=>by omega) HBR.out.size)
      by_cases h1:y=lv
      ·
       have hq1:(y==lv)=true:=by simpa using h1
       have x0:=mx_cell (j:=0) HMA.out.op
       have y0:=mx_free (j:=0) HMA.out.op
       have hlo: -1048577≤s.op:=by have:=HB.out.low;omega
       have hhi:s.op≤4398050705408:=by have:=HB.out.high;omega
       have hml:(more:Int)≤4194304:=by omega
       have H1:=Lib.hid h1
       clear h1
       gi_wp2
       obtain⟨hmB,hrB⟩:=HMA.out.setop hobR (s.op+((more:Int)-1))
       have HMB:=Lib.hid hmB
       have HCB:=Lib.hid (HCA.out.trans hrB)
       clear hmB hrB x0 y0 hq1
       refine⟨HCB.out.keeps hmbR hobR hsbR,HCB.out.kpc,⟨(T.meetGo ((litV u:Nat):Int) lv c' s.ms 0).1,s.op+((more:Int)-1),s.lits,s.hints++ [id7],s.met++ [((litV u:Nat):Int)]⟩,_,_,_,_,HSN.out.trans ?_,HMB.out,?_⟩
       ·
        unfold cfStep
        rw[if_neg (by rw[HMZ.out];decide),if_neg (by rw[HGO.out];decide),HRT.out,HY.out]
        show some (CSt.mk _ _ _ _ _)=_
        rw[if_pos H0.out,if_pos H1.out,HMO.out]
       ·
        rw[List.length_append]
        exact HB.out.hint _ _ _ _ (by simp) (by omega) (by omega) (by omega)
      ·
       have hq1:(y==lv)=false:=by simpa using h1
       have H1:=Lib.hid h1
       clear h1
       gi_wp2
       refine⟨HCA.out.keeps hmbR hobR hsbR,HCA.out.kpc,⟨(T.meetGo ((litV u:Nat):Int) lv c' s.ms 0).1,s.op,s.lits,s.hints++ [id7],s.met++ [((litV u:Nat):Int)]⟩,_,_,_,_,HSN.out.trans ?_,HMA.out,?_⟩
       ·
        unfold cfStep
        rw[if_neg (by rw[HMZ.out];decide),if_neg (by rw[HGO.out];decide),HRT.out,HY.out]
        show some (CSt.mk _ _ _ _ _)=_
        rw[if_pos H0.out,if_neg H1.out]
       ·
        rw[List.length_append]
        exact HB.out.hint _ _ _ _ (by simp) (by omega) (by omega) (by omega)
   ·
    have hq0:decide (0<y)=false:=by simpa using h0
    have H0:=Lib.hid h0
    clear h0
    have hLV:=wk_level a b (some (w.heap.size+1+1)) T (litV u:Nat) W (HT.out.below HW0.out)
    rw[HY.out]at hLV
    have HLV:=Lib.hid hLV
    clear hLV
    gi_wp2_with fail
    refine⟨trivial,(CallsIn.inRound l (callsIn_wide.2 (HLV.out))).mono ?_⟩
    rintro e w3 ⟨rfl,hb3⟩
    clear q0 q1 q2 hlk HLV
    have HM3:=Lib.hid (HM0.out.below hb3)
    have HC3:=Lib.hid (HC0.out.trans (CfR.below hb3))
    clear hb3
    have HF3:=Lib.hid (HFX.out.kept HM3.out.kept (fun g e=>by omega))
    have HW3:=Lib.hid (below_kept HBR.out HM3.out.kept (fun i e=>by omega) HBR.out.size)
    have g0:=mx_cell (j:=0) HF3.out.go
    gi_wp2_with fail
    clear g0
    cases hgo:T.goes lv s.op ((litV u:Nat):Int)with
    | false=>
     have HGO:=Lib.hid hgo
     clear hgo hq0
     have hGO:=goes_any a b (w.heap.size+1+1) (w.heap.size+1+1+1) w1.heap.size w2.heap.size T lv s.op ((litV u:Nat):Int) w3 (HT.out.below HW3.out) HF3.out.wk (mx_cell (j:=0) HF3.out.lvl) (mx_cell (j:=0) HM3.out.op)
     rw[HGO.out]at hGO
     have HGC:=Lib.hid hGO
     clear hGO
     refine⟨trivial,(CallsIn.inRound l (callsIn_wide.2 (HGC.out))).mono ?_⟩
     rintro e w6 ⟨rfl,hb6⟩
     clear HGC
     have HM6:=Lib.hid (HM3.out.below hb6)
     have HC6:=Lib.hid (HC3.out.trans (CfR.below hb6))
     clear hb6
     have HF6:=Lib.hid (HFX.out.kept HM6.out.kept (fun g e=>by omega))
     have HW6:=Lib.hid (below_kept HBR.out HM6.out.kept (fun i e=>by omega) HBR.out.size)
     gi_wp2
     have hz9:=HM6.out.size
     have hbl9:s.lits.length≤1048576:=by have:=HB.out.lits;omega
     refine wpIn_round_sink (fun w'=>w'.cell? ⟨(w2.heap.size+1),0,none⟩=some vx) (by kernel_rfl) rfl (by kernel_rfl) (by kernel_rfl) (fun⟨_,_,h⟩=>h) (mx_cell (j:=0) HM6.out.out) (fun hS=>?_)
     simp only[List.dropLast]
     have hbD:=mx_drew w6
     obtain⟨wD,hwD⟩: ∃x,w6.drew=x:=⟨_,rfl⟩
     rw[hwD]at hS hbD⊢
     have HBD:=Lib.hid hbD
     clear hwD hbD
     refine takeE 0 74 ?_
     refine takeF 1 75 (fun wq hSw=>hSw) ?_
     refine takeE 2 76 ?_
     refine ready1 3 (fun K hK=>?_)
     go_simp
     refine(lit_neg u wD).mono ?_
     rintro e w' ⟨rfl,rfl⟩
     refine hK.out _ _ hS (fun _=>?_)
     clear hK
     refine ready1 4 (fun K hK=>?_)
     go_simp
     have hbA:=mx_al wD (.cells #[.int .i64 (litN u)] 32)
     have hS2:=(hbA.cell (p:=⟨(w2.heap.size+1),0,none⟩) (World.block_lt_of_cell? wD _ hS)).trans hS
     refine hK.out _ _ hS2 (fun _=>?_)
     have hbE:=HBD.out.trans (hbA.mono HBD.out.size)
     have HBE:=Lib.hid hbE
     have hzE:=hbE.size
     clear hK hbA hbE hS
     refine ready1 5 (fun K hK=>?_)
     rw[if_pos (by rfl)]
     refine wp_append_any_at 79 (by rfl) _ _ 34 rfl WR.heap.size 32 i2 (.int .i64 0) 1 8 Tryz.underlying34 J1.out J2.out J3.out J4.out rfl (by decide) _ s.lits.length _ (by rfl) (own_below HM6.out.lits HBE.out) (.slice (some ⟨wD.heap.size,0,none⟩) 1 1) 1 [.int .i64 (litN u)] (by rfl) (mx_src wD 32 [.int .i64 (litN u)]) rfl (by simp[Value.oneCell']) (by unfold maxLen;omega) (by omega) (by omega) ?_
     intro v' w8 hown' hgrow _
     obtain⟨A8,c8,rfl,_⟩:=mx_slice hown'
     obtain⟨hm4,hr4,hs4,_,_⟩:=HM6.out.pushLits hmbR hobR hsbR (litN u) HBE.out hgrow hown'
     refine hK.out _ _ (mx_cell (j:=0) hs4) (fun hS3=>?_)
     have y4:=mx_free (j:=0) hs4
     have HM8:=Lib.hid hm4
     have HR8:=Lib.hid hr4
     clear hK hm4 hr4 hs4 hown' hgrow hS2
     simp only[Act.put,List.setIfInBounds_toArray,List.set_cons_zero,List.set_cons_succ]
     refine takeE 6 80 ?_
     refine wpAnyH_done (by kernel_rfl) ?_ _
     refine lastPost_normal ?_
     refine wpOp_step rfl (fun K hK=>?_)
     go_simp
     refine hK _ _ ?_
     clear hK
     obtain⟨W8,hW8⟩: ∃x,w8.setCell ⟨(w2.heap.size+1),0,none⟩ (.slice A8 (s.lits.length+1) c8)=x:=⟨_,rfl⟩
     rw[hW8]at HM8 HR8⊢
     have HC8:=Lib.hid (HC6.out.trans HR8.out)
     clear hW8 y4 hS3 HR8
     gi_wp2
     refine⟨HC8.out.keeps hmbR hobR hsbR,HC8.out.kpc,⟨s.ms,s.op,s.lits++ [litN u],s.hints,s.met⟩,_,_,_,_,HSN.out.trans ?_,HM8.out,?_⟩
     ·
      unfold cfStep
      rw[if_neg (by rw[HMZ.out];decide),if_pos HGO.out,HY.out,if_neg (Int.not_lt.2 H0.out)]
     ·
      rw[List.length_append]
      exact HB.out.lit (litN u) _ (Nat.le_succ _)
    | true=>
     have HGO:=Lib.hid hgo
     clear hgo hq0
     have hGO:=goes_any a b (w.heap.size+1+1) (w.heap.size+1+1+1) w1.heap.size w2.heap.size T lv s.op ((litV u:Nat):Int) w3 (HT.out.below HW3.out) HF3.out.wk (mx_cell (j:=0) HF3.out.lvl) (mx_cell (j:=0) HM3.out.op)
     rw[HGO.out]at hGO
     have HGC:=Lib.hid hGO
     clear hGO
     refine⟨trivial,(CallsIn.inRound l (callsIn_wide.2 (HGC.out))).mono ?_⟩
     rintro e w6 ⟨rfl,hb6⟩
     clear HGC
     have HM6:=Lib.hid (HM3.out.below hb6)
     have HC6:=Lib.hid (HC3.out.trans (CfR.below hb6))
     clear hb6
     have HF6:=Lib.hid (HFX.out.kept HM6.out.kept (fun g e=>by omega))
     have HW6:=Lib.hid (below_kept HBR.out HM6.out.kept (fun i e=>by omega) HBR.out.size)
     obtain⟨q0,q1,q2⟩:=HF6.out.wks
     have HRC:=Lib.hid (wk_right a b (some (w.heap.size+1+1)) A T u w6 (HA.out.below HW6.out) (HT.out.below HW6.out) HLEN.out)
     gi_wp2_with fail
     refine⟨trivial,(CallsIn.inRound l (callsIn_wide.2 (HRC.out))).mono ?_⟩
     rintro e w7 ⟨hor,hb7⟩
     clear q0 q1 q2 HRC
     cases hrt:rightP A T u with
     | none=>
      obtain⟨_,rfl⟩:=hor.resolve_left (fun⟨_,_,_,hh,_⟩=>by rw[hrt]at hh;cases hh)
      have HRT:=Lib.hid hrt
      clear hrt hor
      have HM7:=Lib.hid (HM6.out.below hb7)
      have HC7:=Lib.hid (HC6.out.trans (CfR.below hb7))
      clear hb7
      have HF7:=Lib.hid (HFX.out.kept HM7.out.kept (fun g e=>by omega))
      have HW7:=Lib.hid (below_kept HBR.out HM7.out.kept (fun i e=>by omega) HBR.out.size)
      obtain⟨⟨p0,p1,p2,p3,p4⟩,f0,f1,f2,f3,f4⟩:=cells5 HF7.out.res
      have p7:=mx_cell (j:=0) HF7.out.err
      have f7:=mx_free (j:=0) HF7.out.err
      gi_wp2
      obtain⟨Wf,hWf⟩: ∃x,((((((w7.setCell ⟨w.heap.size,0,none⟩ (.slice none 0 0)).setCell ⟨w.heap.size,1,none⟩ (.int .i64 0)).setCell ⟨w.heap.size,2,none⟩ (.int .i64 0)).setCell ⟨w.heap.size,3,none⟩ (.slice none 0 0)).setCell ⟨w.heap.size,4,none⟩ (.slice none 0 0)).setCell ⟨w.heap.size+1,0,none⟩ (.int .i64 141))=x:=⟨_,rfl⟩
      rw[hWf]
      have r6:Wf.heap[w.heap.size]? =some (.cells #[.slice none 0 0,.int .i64 0,.int .i64 0,.slice none 0 0,.slice none 0 0] 65 (0,0)):=by
       rw[←hWf,Below.heap_setCell _ _ _ _ (by simp)]
       exact mx_set (j:=4) (mx_set (j:=3) (mx_set (j:=2) (mx_set (j:=1) (mx_set (j:=0) HF7.out.res _) _) _) _) _
      have r7:Wf.heap[w.heap.size+1]? =some (.cells #[.int .i64 141] 44 (0,0)):=by
       rw[←hWf]
       exact mx_set (j:=0) ((Below.heap_setCell _ _ _ _ (by simp)).trans ((Below.heap_setCell _ _ _ _ (by simp)).trans ((Below.heap_setCell _ _ _ _ (by simp)).trans ((Below.heap_setCell _ _ _ _ (by simp)).trans ((Below.heap_setCell _ _ _ _ (by simp)).trans HF7.out.err))))) _
      have hkf:Kept (fun g=>g=w.heap.size∨g=w.heap.size+1) w7 Wf:=by
       rw[←hWf]
       exact(((((((Kept.refl (fun g=>g=w.heap.size∨g=w.heap.size+1) w7).setCell ⟨w.heap.size,0,none⟩ _ (.inl rfl)).setCell ⟨w.heap.size,1,none⟩ _ (.inl rfl)).setCell ⟨w.heap.size,2,none⟩ _ (.inl rfl)).setCell ⟨w.heap.size,3,none⟩ _ (.inl rfl)).setCell ⟨w.heap.size,4,none⟩ _ (.inl rfl)).setCell ⟨w.heap.size+1,0,none⟩ _ (.inr rfl))
      clear hWf p0 p1 p2 p3 p4 f0 f1 f2 f3 f4 p7 f7
      have hkp:=HC7.out.keeps hmbR hobR hsbR
      refine⟨⟨Nat.le_trans hkp.size hkf.size,fun k o hk hg hc=>?_⟩,rfl,HSN.out.trans ?_,r6,r7,below_kept HW7.out hkf (fun i e=>by omega) HW7.out.size⟩
      ·
       have h1:=hkp.same k o hk hg hc
       exact(hkf.block k (heap_lt h1) (fun e=>by omega)).trans h1
      ·
       unfold cfStep
       rw[if_neg (by rw[HMZ.out];decide),if_neg (by rw[HGO.out];decide),HRT.out]
     | some p=>
      obtain⟨id7,c',v7,hh,rfl,hown7⟩:=hor.resolve_right (fun hh=>by rw[hrt]at hh;cases hh.1)
      have HRT:=Lib.hid hh
      have hget7:=rightP_get hh
      clear hrt hor hh
      obtain⟨A7,c7,rfl,_⟩:=mx_slice hown7
      have HO7:=Lib.hid hown7
      have hc7:=HLEN.out _ _ hget7
      have hz6:=HM6.out.size
      clear hown7 hget7
      have HM7:=Lib.hid (HM6.out.below hb7)
      have HC7:=Lib.hid (HC6.out.trans (CfR.below hb7))
      clear hb7
      have HF7:=Lib.hid (HFX.out.kept HM7.out.kept (fun g e=>by omega))
      have HW7:=Lib.hid (below_kept HBR.out HM7.out.kept (fun i e=>by omega) HBR.out.size)
      obtain⟨⟨o0,o1,o2,o3,o4⟩,f0,f1,f2,f3,f4⟩:=cells5 HM7.out.out
      have hz8:=HM7.out.size
      have hbl8:s.hints.length≤1048576:=by have:=HB.out.hints;omega
      gi_wp2_with (gi_at_builtin;refine wpListIn_append_any rfl _ _ 63 rfl WR.heap.size 3 i1 (.int .i64 0) 1 8 Tryz.underlying63 I1.out I2.out I3.out I4.out rfl (by decide) _ s.hints.length _ rfl (own_below HM7.out.hints (mx_al w7 (.cells #[.int .i64 id7] 3))) (.slice (some ⟨w7.heap.size,0,none⟩) 1 1) 1 [.int .i64 id7] rfl (mx_src w7 3 [.int .i64 id7]) rfl (by simp[Value.oneCell']) (by unfold maxLen;omega) (by omega) (by simp;omega) ?_;intro v' w8 hown' hgrow hat;obtain⟨A8,c8,rfl,_⟩:=mx_slice hown';obtain⟨hm4,hr4,hs4,hk4,hk5⟩:=HM7.out.pushHints hmbR hobR hsbR id7 (mx_al w7 (.cells #[.int .i64 id7] 3)) hgrow hown' hat;have x4:=mx_cell (j:=3) hs4;have y4:=mx_free (j:=3) hs4;have g0:=mx_cell (j:=0) ((HF7.out.kept hk4 (fun g e=>by omega)).go);obtain⟨q0,q1,q2⟩:=(HF7.out.kept hk4 (fun g e=>by omega)).wks;have l0:=mx_cell (j:=0) ((HF7.out.kept hk4 (fun g e=>by omega)).lvl);have hzz:WR.heap.size≤w8.heap.size:=Nat.le_trans HM7.out.size hk4.size;have HM8:=Lib.hid hm4;have HR8:=Lib.hid hr4;have HK8:=Lib.hid hk5;clear hm4 hr4 hs4 hk4 hk5 hown' hgrow hat o0 o1 o2 o3 o4 f0 f1 f2 f3 f4)
      obtain⟨W8,hW8⟩: ∃x,w8.setCell ⟨(w2.heap.size+1),3,none⟩ (.slice A8 (s.hints.length+1) c8)=x:=⟨_,rfl⟩
      rw[hW8]at HM8 HR8 HK8⊢
      have HC8:=Lib.hid (HC7.out.trans HR8.out)
      clear hW8 x4 y4 g0 q0 q1 q2 l0 HR8
      have HF8:=Lib.hid (HFX.out.kept HM8.out.kept (fun g e=>by omega))
      have HW8:=Lib.hid (below_kept HBR.out HM8.out.kept (fun i e=>by omega) HBR.out.size)
      have HO8:=Lib.hid (own_kept HO7.out HK8.out (fun g hg e=>by
       have h1:=(own_lt HO7.out g hg).1
       rcases e with e|e
       ·
        omega
       ·
        exact mx_apart HO7.out HM7.out.hints (by decide) hg e.symm))
      have hkk8:=HB.out.kk
      have hmm8:(pre.length+1)*4194304≤1048577*4194304:=Nat.mul_le_mul_right _ (by omega)
      have hmt:=wk_meet (w:=W8) a b (w.heap.size+1+1) kk T (.slice A7 c'.length c7) c' s.ms ((litV u:Nat):Int) lv (HT.out.below HW8.out) (IntsIn.of_own HO8.out) HM8.out.map (fun hO=>by
       have:=HOW.out _ hO
       omega) (fun hO=>by
       have:=hO.1
       omega) (by omega)
      obtain⟨more,hmo⟩: ∃k,(T.meetGo ((litV u:Nat):Int) lv c' s.ms 0).2=k:=⟨_,rfl⟩
      have hmle:more≤4194304:=by have:=meetGo_le T ((litV u:Nat):Int) lv c' s.ms 0;omega
      rw[hmo]at hmt
      have HMO:=Lib.hid hmo
      have HMT:=Lib.hid hmt
      have hk9:kk≤1048577*4194304:=Nat.le_trans hkk8 hmm8
      clear hmo hmt HK8 hkk8 hmm8
      refine⟨trivial,(CallsIn.inRound l (callsIn_wide.2 (HMT.out))).mono ?_⟩
      rintro e w9 ⟨rfl,⟨kk9,hkk9,hmap9⟩,hk9'⟩
      obtain⟨hm9,hr9⟩:=HM8.out.meet hk9' _ hmap9
      have HM9:=Lib.hid hm9
      have HC9:=Lib.hid (HC8.out.trans hr9)
      clear hm9 hr9 hmap9 hk9' HMT
      have HF9:=Lib.hid (HFX.out.kept HM9.out.kept (fun g e=>by omega))
      have HW9:=Lib.hid (below_kept HBR.out HM9.out.kept (fun i e=>by omega) HBR.out.size)
      gi_wp2
      have hb9:=heap_lt HF9.out.wk
      have hl9:=heap_lt HF9.out.lvl
      have HLV9:=Lib.hid (show T.level ((litV u:Nat):Int)=y from HY.out)
      refine wpIn_round_region (fun w'=>Below w9.heap.size w9 w') (by kernel_rfl) (by kernel_rfl) (fun⟨_,_,h⟩=>h) (mx_drew w9) (fun hS=>?_)
      refine takeF 0 102 (fun wq hSw=>And.intro ((hSw.cell (p:=⟨(w.heap.size+1+1+1),0,none⟩) hb9).trans HF9.out.wks.1) (And.intro ((hSw.cell (p:=⟨(w.heap.size+1+1+1),1,none⟩) hb9).trans HF9.out.wks.2.1) ((hSw.cell (p:=⟨(w.heap.size+1+1+1),2,none⟩) hb9).trans HF9.out.wks.2.2))) ?_
      refine takeE 1 103 ?_
      refine takeF 3 105 (fun wq hSw=>(hSw.cell (p:=⟨w1.heap.size,0,none⟩) hl9).trans (mx_cell (j:=0) HF9.out.lvl)) ?_
      refine ready1 2 (fun K hK=>?_)
      go_simp
      refine(wk_level a b (some (w.heap.size+1+1)) T ((litV u:Nat):Int) _ (HT.out.below (HW9.out.trans (hS.mono HW9.out.size)))).mono ?_
      rintro e wE ⟨rfl,hbE⟩
      rw[HLV9.out]
      have hS3:=hS.trans (hbE.mono hS.size)
      refine hK.out _ _ hS3 (fun _=>?_)
      clear hK hbE hS
      refine takeE 4 106 ?_
      refine wpAnyH_done (by kernel_rfl) ?_ _
      have HMA:=Lib.hid (HM9.out.below hS3)
      have HCA:=Lib.hid (HC9.out.trans (CfR.below hS3))
      clear hS3
      have HFA:=Lib.hid (HFX.out.kept HMA.out.kept (fun g e=>by omega))
      have HWA:=Lib.hid (below_kept HBR.out HMA.out.kept (fun i e=>by omega) HBR.out.size)
      by_cases h1:y=lv
      ·
       have hq1:(y==lv)=true:=by simpa using h1
       have x0:=mx_cell (j:=0) HMA.out.op
       have y0:=mx_free (j:=0) HMA.out.op
       have hlo: -1048577≤s.op:=by have:=HB.out.low;omega
       have hhi:s.op≤4398050705408:=by have:=HB.out.high;omega
       have hml:(more:Int)≤4194304:=by omega
       have H1:=Lib.hid h1
       clear h1
       gi_wp2
       obtain⟨hmB,hrB⟩:=HMA.out.setop hobR (s.op+((more:Int)-1))
       have HMB:=Lib.hid hmB
       have HCB:=Lib.hid (HCA.out.trans hrB)
       clear hmB hrB x0 y0 hq1
       refine⟨HCB.out.keeps hmbR hobR hsbR,HCB.out.kpc,⟨(T.meetGo ((litV u:Nat):Int) lv c' s.ms 0).1,s.op+((more:Int)-1),s.lits,s.hints++ [id7],s.met⟩,_,_,_,_,HSN.out.trans ?_,HMB.out,?_⟩
       ·
        unfold cfStep
        rw[if_neg (by rw[HMZ.out];decide),if_neg (by rw[HGO.out];decide),HRT.out,HY.out]
        show some (CSt.mk _ _ _ _ _)=_
        rw[if_neg (Int.not_lt.2 H0.out),if_pos H1.out,HMO.out]
       ·
        rw[List.length_append]
        exact HB.out.hint _ _ _ _ (Nat.le_succ _) (by omega) (by omega) (by omega)
      ·
       have hq1:(y==lv)=false:=by simpa using h1
       have H1:=Lib.hid h1
       clear h1
       gi_wp2
       refine⟨HCA.out.keeps hmbR hobR hsbR,HCA.out.kpc,⟨(T.meetGo ((litV u:Nat):Int) lv c' s.ms 0).1,s.op,s.lits,s.hints++ [id7],s.met⟩,_,_,_,_,HSN.out.trans ?_,HMA.out,?_⟩
       ·
        unfold cfStep
        rw[if_neg (by rw[HMZ.out];decide),if_neg (by rw[HGO.out];decide),HRT.out,HY.out]
        show some (CSt.mk _ _ _ _ _)=_
        rw[if_neg (Int.not_lt.2 H0.out),if_neg H1.out]
       ·
        rw[List.length_append]
        exact HB.out.hint _ _ _ _ (Nat.le_succ _) (by omega) (by omega) (by omega)
 case done=>
  rintro D ys W hD rfl ⟨s,kk,vx,vy,vz,hrun,hmem,hB⟩ hK
  rw[downL_rev _ _ (Nat.le_refl _),List.take_length]at hrun
  have HE:=Lib.hid (show cfEnd A T lv c=some s from by
   unfold cfEnd
   rw[HMS.out,HN.out]
   exact hrun)
  have hpo:=HOR.out
  have hdl:=downL_len T.order T.order.length
  have hll:s.lits.length≤1048576:=by have:=hB.lits;omega
  have hlh:s.hints.length≤1048576:=by have:=hB.hints;omega
  have hlm:s.met.length≤1048576:=by have:=hB.met;omega
  obtain⟨Ax,cx,rfl,_⟩:=mx_slice hmem.lits
  obtain⟨Ay,cy,rfl,_⟩:=mx_slice hmem.hints
  obtain⟨Az,cz,rfl,_⟩:=mx_slice hmem.met
  have HM0:=Lib.hid hmem
  have HK:=Lib.hid hK
  clear hdl hrun hB hmem hK
  obtain⟨⟨o0,o1,o2,o3,o4⟩,f0,f1,f2,f3,f4⟩:=cells5 HM0.out.out
  gi_wp2_with fail
  refine⟨trivial,(callsIn_wide.2 (own_reverse _ s.hints W HM0.out.hints (by omega))).mono ?_⟩
  rintro e w2' ⟨rfl,hown2,hk2⟩
  have HM2':=Lib.hid (HM0.out.rehints hmbR hobR hsbR hk2 _ hown2)
  have HK2':=Lib.hid ((hk2.block D (heap_lt HK.out) (fun e=>by
   obtain⟨cc,hcc⟩:=own_type HM0.out.hints D e
   rw[HK.out]at hcc
   cases hcc)).trans HK.out)
  clear hown2 hk2 o0 o1 o2 o3 o4 f0 f1 f2 f3 f4
  obtain⟨⟨o0,o1,o2,o3,o4⟩,f0,f1,f2,f3,f4⟩:=cells5 HM2'.out.out
  have hz2':=HM2'.out.size
  have hlr:s.hints.reverse.length=s.hints.length:=List.length_reverse
  have HLR:=Lib.hid hlr
  clear hlr
  gi_wp2_with (gi_at_builtin;refine wpListIn_append_any rfl _ _ 63 rfl WR.heap.size 3 i1 (.int .i64 0) 1 8 Tryz.underlying63 I1.out I2.out I3.out I4.out rfl (by decide) _ s.hints.reverse.length _ rfl (own_below HM2'.out.hints (mx_al w2' (.cells #[.int .i64 id] 3))) (.slice (some ⟨w2'.heap.size,0,none⟩) 1 1) 1 [.int .i64 id] rfl (mx_src w2' 3 [.int .i64 id]) rfl (by simp[Value.oneCell']) (by rw[HLR.out];unfold maxLen;omega) (by rw[HLR.out];omega) (by simp;omega) ?_;intro v' w4 hown' hgrow hat;obtain⟨A4,c4,rfl,_⟩:=mx_slice hown';obtain⟨hm4,hr4,hs4,_,hk5⟩:=HM2'.out.pushHints hmbR hobR hsbR id (mx_al w2' (.cells #[.int .i64 id] 3)) hgrow hown' hat;have x4:=mx_cell (j:=3) hs4;have y4:=mx_free (j:=3) hs4;have z4:=mx_cell (j:=4) hs4;have HM3:=Lib.hid hm4;have HK5:=Lib.hid hk5;clear hm4 hr4 hs4 hk5 hown' hgrow hat o0 o1 o2 o3 o4 f0 f1 f2 f3 f4)
  obtain⟨W3,hW3⟩: ∃x,w4.setCell ⟨(w2.heap.size+1),3,none⟩ (.slice A4 (s.hints.length+1) c4)=x:=⟨_,rfl⟩
  rw[HLR.out,hW3]at HM3 HK5
  rw[hW3]
  have HK3:=Lib.hid ((HK5.out.block D (heap_lt HK2'.out) (fun e=>by
   rcases e with e|e
   ·
    omega
   ·
    obtain⟨cc,hcc⟩:=own_type HM2'.out.hints D e.symm
    rw[HK2'.out]at hcc
    cases hcc)).trans HK2'.out)
  clear hW3 x4 y4 z4 HK5
  refine⟨trivial,(callsIn_wide.2 (own_sort _ s.met W3 HM3.out.met (by omega))).mono ?_⟩
  rintro e w5 ⟨rfl,hown5,hk5⟩
  have HM5:=Lib.hid (HM3.out.remet hmbR hobR hsbR hk5 _ hown5)
  have HK5:=Lib.hid ((hk5.block D (heap_lt HK3.out) (fun e=>by
   obtain⟨cc,hcc⟩:=own_type HM3.out.met D e
   rw[HK3.out]at hcc
   cases hcc)).trans HK3.out)
  clear hown5 hk5
  have HF5:=Lib.hid (HFX.out.kept HM5.out.kept (fun g e=>by omega))
  have HW5:=Lib.hid (below_kept HBR.out HM5.out.kept (fun i e=>by omega) HBR.out.size)
  have hFN0:CfFin WR.heap.size D w.heap.size (w2.heap.size+1) w w5 0 0 s.lits (s.hints.reverse++ [id]) (sortI s.met) (.slice Ax s.lits.length cx) (.slice A4 (s.hints.length+1) c4) (.slice Az s.met.length cz):=
   ⟨HW5.out,HM5.out.out,HF5.out.res,HF5.out.err,HK5.out,HM5.out.lits,HM5.out.hints,HM5.out.met⟩
  have HFN0:=Lib.hid hFN0
  clear hFN0
  by_cases hl1:1<s.lits.length
  ·
   have q1:decide ((1:Int)<(s.lits.length:Int))=true:=by simp;omega
   have q2:decide (1<s.lits.length)=true:=by simpa using hl1
   obtain⟨l1,hl1'⟩:=getElem_of hl1
   have HBK:=Lib.hid (show T.backOf s.lits=T.level (litV l1:Nat)from by
    match hs:s.lits,hl1,hl1' with
    | a0::a1::r,_,h=>simp only[List.getElem?_cons_succ,List.getElem?_cons_zero,Option.some.injEq]at h;rw[←h];rfl)
   obtain⟨gx,cx',cs',hvx,_,_,hgx,_⟩:=mx_some HM5.out.lits (by show 0<s.lits.length;omega)
   simp only[Value.slice.injEq]at hvx
   obtain⟨rfl,_,rfl⟩:=hvx
   have d1:w5.cell? ⟨gx,1,none⟩=some (.int .i64 l1):=mx_at HM5.out.lits (by show(s.lits.map _)[1]? =_;rw[List.getElem?_map,hl1'];rfl)
   have D1:=Lib.hid d1
   clear d1 hl1'
   obtain⟨⟨o0,o1,o2,o3,o4⟩,f0,f1,f2,f3,f4⟩:=cells5 HM5.out.out
   gi_wp2
   clear o0 o1 o2 o3 o4 f0 f1 f2 f3 f4
   have hb5:=heap_lt HF5.out.wk
   have hl5:=heap_lt HM5.out.out
   refine wpIn_wide.2 (wp_region_noPanic ?_)
   refine wp_region_sink_at (fun w'=>Below w5.heap.size w5 w') (by kernel_rfl) rfl (by kernel_rfl) (mx_drew w5) (fun hS=>?_)
   simp only[List.dropLast]
   refine takeF 0 127 (fun wq hSw=>And.intro ((hSw.cell (p:=⟨(w.heap.size+1+1+1),0,none⟩) hb5).trans HF5.out.wks.1) (And.intro ((hSw.cell (p:=⟨(w.heap.size+1+1+1),1,none⟩) hb5).trans HF5.out.wks.2.1) ((hSw.cell (p:=⟨(w.heap.size+1+1+1),2,none⟩) hb5).trans HF5.out.wks.2.2))) ?_
   refine takeE 1 128 ?_
   refine takeF 2 129 (fun wq hSw=>(hSw.cell (p:=⟨(w2.heap.size+1),0,none⟩) hl5).trans (mx_cell (j:=0) HM5.out.out)) ?_
   refine takeD 3 130 (v:=?_) rfl (by rfl) (by kernel_rfl) (by kernel_rfl) (by kernel_rfl) (fun _ _ _ h=>h) (Or.inl ⟨by rfl,?_⟩) (by assumption) ?_
   rotate_left
   ·
    intro wq hSw
    clear hSw
    go_simp
    rw[if_pos (by omega)]
   simp only[Act.put,List.setIfInBounds_toArray,List.set_cons_zero,List.set_cons_succ]
   refine takeF 4 131 (fun wq hSw=>(hSw.cell (p:=⟨gx,1,none⟩) hgx).trans D1.out) ?_
   refine ready1 5 (fun K hK=>?_)
   go_simp
   refine(lit_var l1 _).mono ?_
   rintro e w' ⟨rfl,rfl⟩
   refine hK.out _ _ hS (fun _=>?_)
   clear hK
   refine ready1 6 (fun K hK=>?_)
   go_simp
   refine(wk_level a b (some (w.heap.size+1+1)) T ((litV l1:Nat):Int) _ (HT.out.below (HW5.out.trans (hS.mono HW5.out.size)))).mono ?_
   rintro e wE ⟨rfl,hbE⟩
   have hS3:=hS.trans (hbE.mono hS.size)
   refine hK.out _ _ hS3 (fun _=>?_)
   clear hK hbE hS
   refine takeE 7 134 ?_
   refine wpAnyH_done (by kernel_rfl) ?_ _
   refine lastPost_normal ?_
   have HFE:=Lib.hid (HFN0.out.after hS3)
   have yE:=mx_free (j:=1) HFE.out.out
   have xE:=mx_cell (j:=1) HFE.out.out
   refine wpOp_step rfl (fun K hK=>?_)
   go_simp
   refine hK _ _ ?_
   clear hK
   refine NoPanic.normal ?_
   obtain⟨lb1,hlb1⟩: ∃k,T.level (litV l1:Nat)=k:=⟨_,rfl⟩
   rw[hlb1]at HBK⊢
   clear hlb1
   have hFN:=HFE.out.set hsbR (by omega) (by omega) (by omega) 1 (.int .i64 lb1) lb1 0 rfl
   obtain⟨W6,hW6⟩: ∃x,wE.setCell ⟨(w2.heap.size+1),1,none⟩ (.int .i64 lb1)=x:=⟨_,rfl⟩
   rw[hW6]at hFN⊢
   have HFN:=Lib.hid hFN
   clear hFN hW6 yE xE hS3 HFE
   obtain⟨⟨o0,o1,o2,o3,o4⟩,f0,f1,f2,f3,f4⟩:=cells5 HFN.out.out
   have hLS:=an_levels_any b T (.slice (some ⟨gx,0,none⟩) s.lits.length cx) s.lits W6 (HT.out.below HFN.out.below) (IntsIn.of_own HFN.out.lits) (by omega)
   obtain⟨lvs,hlvs⟩: ∃k,T.levelsOf s.lits=k:=⟨_,rfl⟩
   rw[hlvs]at hLS
   have HLVS:=Lib.hid hlvs
   have HLS:=Lib.hid hLS
   clear hlvs hLS
   gi_wp2_with fail
   refine⟨trivial,(callsIn_wide.2 (HLS.out)).mono ?_⟩
   rintro e w7 ⟨⟨kq,rfl⟩,hb7⟩
   have HFN7:=Lib.hid (HFN.out.after hb7)
   have h6lt:=heap_lt HFN7.out.res
   clear HLS hb7 o0 o1 o2 o3 o4 f0 f1 f2 f3 f4
   obtain⟨⟨o0,o1,o2,o3,o4⟩,f0,f1,f2,f3,f4⟩:=cells5 HFN7.out.out
   obtain⟨⟨p0,p1,p2,p3,p4⟩,e0,e1,e2,e3,e4⟩:=cells5 HFN7.out.res
   have p7:=mx_cell (j:=0) HFN7.out.err
   have e7:=mx_free (j:=0) HFN7.out.err
   gi_wp2
   rw[Exit.noGoto_ret]
   obtain⟨Wf,hWf⟩: ∃x,(((((((w7.setCell ⟨(w2.heap.size+1),2,none⟩ (.int .i64 lvs)).setCell ⟨w.heap.size,0,none⟩ (.slice (some ⟨gx,0,none⟩) s.lits.length cx)).setCell ⟨w.heap.size,1,none⟩ (.int .i64 lb1)).setCell ⟨w.heap.size,2,none⟩ (.int .i64 lvs)).setCell ⟨w.heap.size,3,none⟩ (.slice A4 (s.hints.length+1) c4)).setCell ⟨w.heap.size,4,none⟩ (.slice Az s.met.length cz)).setCell ⟨w.heap.size+1,0,none⟩ (.int .i64 0))=x:=⟨_,rfl⟩
   rw[hWf]
   have hF8:=HFN7.out.set hsbR (by omega) (by omega) (by omega) 2 (.int .i64 lvs) lb1 lvs rfl
   have r6:Wf.heap[w.heap.size]? =some (.cells #[.slice (some ⟨gx,0,none⟩) s.lits.length cx,.int .i64 lb1,.int .i64 lvs,.slice A4 (s.hints.length+1) c4,.slice Az s.met.length cz] 65 (0,0)):=by
    rw[←hWf,Below.heap_setCell _ _ _ _ (by simp)]
    exact mx_set (j:=4) (mx_set (j:=3) (mx_set (j:=2) (mx_set (j:=1) (mx_set (j:=0) hF8.res _) _) _) _) _
   have r7:Wf.heap[w.heap.size+1]? =some (.cells #[.int .i64 0] 44 (0,0)):=by
    rw[←hWf]
    exact mx_set (j:=0) ((Below.heap_setCell _ _ _ _ (by simp)).trans ((Below.heap_setCell _ _ _ _ (by simp)).trans ((Below.heap_setCell _ _ _ _ (by simp)).trans ((Below.heap_setCell _ _ _ _ (by simp)).trans ((Below.heap_setCell _ _ _ _ (by simp)).trans hF8.err))))) _
   have hkf:Kept (fun g=>g=w.heap.size∨g=w.heap.size+1) (w7.setCell ⟨(w2.heap.size+1),2,none⟩ (.int .i64 lvs)) Wf:=by
    rw[←hWf]
    exact(((((((Kept.refl (fun g=>g=w.heap.size∨g=w.heap.size+1) _).setCell ⟨w.heap.size,0,none⟩ _ (.inl rfl)).setCell ⟨w.heap.size,1,none⟩ _ (.inl rfl)).setCell ⟨w.heap.size,2,none⟩ _ (.inl rfl)).setCell ⟨w.heap.size,3,none⟩ _ (.inl rfl)).setCell ⟨w.heap.size,4,none⟩ _ (.inl rfl)).setCell ⟨w.heap.size+1,0,none⟩ _ (.inr rfl))
   have hbf:Below w.heap.size w Wf:=below_kept hF8.below hkf (fun i e=>by omega) hF8.below.size
   have hdf:Wf.heap[D]? =some (.deferred (some [])):=(hkf.block D (heap_lt hF8.dfr) (fun e=>by omega)).trans hF8.dfr
   have hrw: ∀{t:TypeId} {u:Value} {n:Nat} {l:List Value},(w7.setCell ⟨(w2.heap.size+1),2,none⟩ (.int .i64 lvs)).ownsRow WR.heap.size t 1 u n l→(Wf.putObj D (.deferred none)).ownsRow w.heap.size t 1 u n l:=fun hh=>ownsRow_putObj (own_mono (own_kept hh hkf (fun g hg e=>by
    have:=(own_lt hh g hg).1
    omega)) (by omega)) _ hdf rfl
   clear hWf hkf o0 o1 o2 o3 o4 f0 f1 f2 f3 f4 p0 p1 p2 p3 p4 e0 e1 e2 e3 e4 p7 e7
   refine⟨by simp,.inl ⟨_,_,rfl,run_takeDeferred hdf,?_⟩⟩
   refine⟨_,res_learned rfl ((World.putObj_heap_other (by omega)).trans r6) ((World.putObj_heap_other (by omega)).trans r7) _ rfl rfl,.inl ⟨s,_,_,_,HE.out,by rw[HBK.out,HLVS.out],hrw hF8.lits,hrw hF8.hints,hrw hF8.met⟩,hbf.trans (belowK_b (w:=w) (Nat.le_refl _) Wf D _ _ (by omega) hdf rfl rfl)⟩
  ·
   have q1:decide ((1:Int)<(s.lits.length:Int))=false:=by simp;omega
   have q2:decide (1<s.lits.length)=false:=by simpa using hl1
   have HBK:=Lib.hid (show T.backOf s.lits=0 from by
    match hs:s.lits,hl1 with
    | [],_=>rfl
    | [_],_=>rfl
    | _::_::_,h=>exact absurd (by simp) h)
   obtain⟨⟨o0,o1,o2,o3,o4⟩,f0,f1,f2,f3,f4⟩:=cells5 HM5.out.out
   obtain⟨W6,hW6⟩: ∃x,w5=x:=⟨_,rfl⟩
   rw[hW6]at HFN0 HM5 HF5 HW5 HK5 o0 o1 o2 o3 o4 f0 f1 f2 f3 f4
   rw[hW6]
   have HFN:=HFN0
   clear hW6
   clear o0 o1 o2 o3 o4 f0 f1 f2 f3 f4
   obtain⟨⟨o0,o1,o2,o3,o4⟩,f0,f1,f2,f3,f4⟩:=cells5 HFN.out.out
   have hLS:=an_levels_any b T (.slice Ax s.lits.length cx) s.lits W6 (HT.out.below HFN.out.below) (IntsIn.of_own HFN.out.lits) (by omega)
   obtain⟨lvs,hlvs⟩: ∃k,T.levelsOf s.lits=k:=⟨_,rfl⟩
   rw[hlvs]at hLS
   have HLVS:=Lib.hid hlvs
   have HLS:=Lib.hid hLS
   clear hlvs hLS
   gi_wp2_with fail
   refine⟨trivial,(callsIn_wide.2 (HLS.out)).mono ?_⟩
   rintro e w7 ⟨⟨kq,rfl⟩,hb7⟩
   have HFN7:=Lib.hid (HFN.out.after hb7)
   have h6lt:=heap_lt HFN7.out.res
   clear HLS hb7 o0 o1 o2 o3 o4 f0 f1 f2 f3 f4
   obtain⟨⟨o0,o1,o2,o3,o4⟩,f0,f1,f2,f3,f4⟩:=cells5 HFN7.out.out
   obtain⟨⟨p0,p1,p2,p3,p4⟩,e0,e1,e2,e3,e4⟩:=cells5 HFN7.out.res
   have p7:=mx_cell (j:=0) HFN7.out.err
   have e7:=mx_free (j:=0) HFN7.out.err
   gi_wp2
   rw[Exit.noGoto_ret]
   obtain⟨Wf,hWf⟩: ∃x,(((((((w7.setCell ⟨(w2.heap.size+1),2,none⟩ (.int .i64 lvs)).setCell ⟨w.heap.size,0,none⟩ (.slice Ax s.lits.length cx)).setCell ⟨w.heap.size,1,none⟩ (.int .i64 0)).setCell ⟨w.heap.size,2,none⟩ (.int .i64 lvs)).setCell ⟨w.heap.size,3,none⟩ (.slice A4 (s.hints.length+1) c4)).setCell ⟨w.heap.size,4,none⟩ (.slice Az s.met.length cz)).setCell ⟨w.heap.size+1,0,none⟩ (.int .i64 0))=x:=⟨_,rfl⟩
   rw[hWf]
   have hF8:=HFN7.out.set hsbR (by omega) (by omega) (by omega) 2 (.int .i64 lvs) 0 lvs rfl
   have r6:Wf.heap[w.heap.size]? =some (.cells #[.slice Ax s.lits.length cx,.int .i64 0,.int .i64 lvs,.slice A4 (s.hints.length+1) c4,.slice Az s.met.length cz] 65 (0,0)):=by
    rw[←hWf,Below.heap_setCell _ _ _ _ (by simp)]
    exact mx_set (j:=4) (mx_set (j:=3) (mx_set (j:=2) (mx_set (j:=1) (mx_set (j:=0) hF8.res _) _) _) _) _
   have r7:Wf.heap[w.heap.size+1]? =some (.cells #[.int .i64 0] 44 (0,0)):=by
    rw[←hWf]
    exact mx_set (j:=0) ((Below.heap_setCell _ _ _ _ (by simp)).trans ((Below.heap_setCell _ _ _ _ (by simp)).trans ((Below.heap_setCell _ _ _ _ (by simp)).trans ((Below.heap_setCell _ _ _ _ (by simp)).trans ((Below.heap_setCell _ _ _ _ (by simp)).trans hF8.err))))) _
   have hkf:Kept (fun g=>g=w.heap.size∨g=w.heap.size+1) (w7.setCell ⟨(w2.heap.size+1),2,none⟩ (.int .i64 lvs)) Wf:=by
    rw[←hWf]
    exact(((((((Kept.refl (fun g=>g=w.heap.size∨g=w.heap.size+1) _).setCell ⟨w.heap.size,0,none⟩ _ (.inl rfl)).setCell ⟨w.heap.size,1,none⟩ _ (.inl rfl)).setCell ⟨w.heap.size,2,none⟩ _ (.inl rfl)).setCell ⟨w.heap.size,3,none⟩ _ (.inl rfl)).setCell ⟨w.heap.size,4,none⟩ _ (.inl rfl)).setCell ⟨w.heap.size+1,0,none⟩ _ (.inr rfl))
   have hbf:Below w.heap.size w Wf:=below_kept hF8.below hkf (fun i e=>by omega) hF8.below.size
   have hdf:Wf.heap[D]? =some (.deferred (some [])):=(hkf.block D (heap_lt hF8.dfr) (fun e=>by omega)).trans hF8.dfr
   have hrw: ∀{t:TypeId} {u:Value} {n:Nat} {l:List Value},(w7.setCell ⟨(w2.heap.size+1),2,none⟩ (.int .i64 lvs)).ownsRow WR.heap.size t 1 u n l→(Wf.putObj D (.deferred none)).ownsRow w.heap.size t 1 u n l:=fun hh=>ownsRow_putObj (own_mono (own_kept hh hkf (fun g hg e=>by
    have:=(own_lt hh g hg).1
    omega)) (by omega)) _ hdf rfl
   clear hWf hkf o0 o1 o2 o3 o4 f0 f1 f2 f3 f4 p0 p1 p2 p3 p4 e0 e1 e2 e3 e4 p7 e7
   refine⟨by simp,.inl ⟨_,_,rfl,run_takeDeferred hdf,?_⟩⟩
   refine⟨_,res_learned rfl ((World.putObj_heap_other (by omega)).trans r6) ((World.putObj_heap_other (by omega)).trans r7) _ rfl rfl,.inl ⟨s,_,_,_,HE.out,by rw[HBK.out,HLVS.out],hrw hF8.lits,hrw hF8.hints,hrw hF8.met⟩,hbf.trans (belowK_b (w:=w) (Nat.le_refl _) Wf D _ _ (by omega) hdf rfl rfl)⟩
 case stop=>
  rintro D c0 pre W hD ⟨hpre,_⟩ ⟨rfl,hrun,r6,r7,hbel⟩ hK
  have HE:=Lib.hid (show cfEnd A T lv c=none from by
   unfold cfEnd
   rw[HMS.out,HN.out]
   have h1:=hpre.map Prod.snd
   rw[downL_rev _ _ (Nat.le_refl _),List.take_length]at h1
   exact cfRun_pre h1 hrun)
  have R6:=Lib.hid r6
  have R7:=Lib.hid r7
  have HBL:=Lib.hid hbel
  have HK:=Lib.hid hK
  clear hpre hrun r6 r7 hbel hK
  gi_wp2
  rw[Exit.noGoto_ret]
  refine⟨by simp,.inl ⟨_,_,rfl,run_takeDeferred HK.out,?_⟩⟩
  refine⟨_,res_learned rfl ((World.putObj_heap_other (by omega)).trans R6.out) ((World.putObj_heap_other (by omega)).trans R7.out) _ rfl rfl,.inr ⟨HE.out,rfl⟩,HBL.out.trans (belowK_b (w:=w) (Nat.le_refl _) W D _ _ (by omega) HK.out rfl rfl)⟩
end Go.Proofs.YtoojmhjagipmdaaGreat
