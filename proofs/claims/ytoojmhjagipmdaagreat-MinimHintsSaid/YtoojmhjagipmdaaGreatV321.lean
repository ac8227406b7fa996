/- The watch: Add. -/
import Derived.Test.YtoojmhjagipmdaaGreatV320
import Derived.Test.YtoojmhjagipmdaaGreatV314
import Derived.Test.YtoojmhjagipmdaaGreatV312
import Derived.Deep.DeepMust
namespace Go.Proofs.YtoojmhjagipmdaaGreat
open Go.RowKit Go.Maps Go.Shelf
attribute [local go_sem] Oper.semAt_some
theorem wpListIn_putS {F:Fence} {n:Nat} {P:Program} {kt t et:TypeId} {w:World} {b:Nat} {m:List (Int×Value)} {ops:Array Oper} {rest:List Oper} {o:Oper} {a:Act} {Q:Exit→Act→World→Prop} (h:MapS P kt w b m) (K:Keyed P kt) (hk:P.underlying kt=some (.int .i64)) (ht:P.underlying t=some (.map kt et))
  (hg:o.guard=none) (mm x v:Operand) (hop:o.op=Op.mapUpdate t mm x v) (hm:a.eval mm= .map (some b)) (hn:m.length<maxLen) (i:Int) (y:Value) (hx:a.eval x= .int .i64 i) (hv:a.eval v=y) (hi:(Lit.int .i64 i).wf=true)
  (hK: ∀w',MapS P kt w' b (putA m i y)→w.grownBy w' (some b)→wpListIn F n P ops Q rest (a.put o.dst undef) w'):wpListIn F n P ops Q (o::rest) a w:=
 wpListIn_mapUpdate_own w hg mm x v t hop kt et K ht mapR b m.length _ hm h.1 hn _ _ _ hx hv (keyOf_int_mk hk hi) (.held y) [] rfl (fun w' h1 h2=>hK w' (MapS.of_put h.2.1 h.2.2 hi h1) h2)
structure AddI (W0:World) (Bt:Nat) (pre:List Int) (B:Nat→Prop) (W:World):Prop where
 row: ∃v,W.heap[Bt]? =some (.cells #[v] 33 (0,0))∧W.ownsRow W0.heap.size 32 1 v pre.length (pre.map (Value.int .i64))∧∀g,v.ownBlock=some g→B g
 kept:Kept (fun g=>g=Bt) W0 W
theorem addI_own {W0:World} {Bt:Nat} (hBt:Bt<W0.heap.size) (C:List Int→Prop):OwnB W0.heap.size (fun pre B W=>AddI W0 Bt pre B W∧C pre):=by
 rintro pre B W W' row ⟨⟨⟨v,h1,h2,h3⟩,hk⟩,hc⟩ hg hr
 refine⟨⟨⟨v,(hg.block Bt (heap_lt h1) (fun e=>?_)).trans h1,own_kept h2 (Kept.grown hg) (fun g hv e=>(hr g e.symm).2 (h3 g hv)),h3⟩,hk.trans (Kept.grown hg) (fun g hl e=>?_)⟩,hc⟩
 ·have:=(hr Bt e.symm).1
  omega
 ·have:=(hr g e.symm).1
  omega
theorem addI_step {W0 W W' w2:World} {Bt:Nat} {pre:List Int} {B:Nat→Prop} {v v':Value} {x:Int} (hBt:Bt<W0.heap.size) (h1:W'.heap[Bt]? =some (.cells #[v] 33 (0,0))) (h2:W'.ownsRow W0.heap.size 32 1 v pre.length (pre.map (Value.int .i64))) (h3: ∀g,v.ownBlock=some g→B g) (hk:Kept (fun g=>g=Bt) W0 W')
  (hz:W'.heap.size=W.heap.size) (hgrow:(W'.alloc (.cells #[.int .i64 x] 32)).grownBy w2 v.ownBlock) (hown:w2.ownsRow W0.heap.size 32 1 v' (pre.length+1) (pre.map (Value.int .i64)++ [.int .i64 x])) (hat:v'.ownBlock=v.ownBlock∨v'.ownBlock=some (W'.alloc (.cells #[.int .i64 x] 32)).heap.size):
  KeepsRec W' (w2.setCell ⟨Bt,0,none⟩ v')∧KpC (fun g=>g=Bt∨B g) W' (w2.setCell ⟨Bt,0,none⟩ v')∧AddI W0 Bt (pre++ [x]) (addB B W (w2.setCell ⟨Bt,0,none⟩ v')) (w2.setCell ⟨Bt,0,none⟩ v'):=by
 have hb1:=mx_al W' (.cells #[.int .i64 x] 32)
 have hBv:v.ownBlock≠some Bt:=mx_not h2 h1 (by decide)
 have b2:w2.heap[Bt]? =some (.cells #[v] 33 (0,0)):=(hgrow.block Bt (by rw[World.size_alloc];have:=heap_lt h1;omega) (fun e=>hBv e.symm)).trans ((hb1.block Bt (heap_lt h1)).trans h1)
 have hk2:Kept (fun g=>v.ownBlock=some g) W' w2:=(Kept.of_below hb1).trans ((Kept.grown hgrow).mono (fun g _ e=>e.symm)) (fun _ _ h=>h)
 have hk3:Kept (fun g=>v.ownBlock=some g∨g=Bt) W' (w2.setCell ⟨Bt,0,none⟩ v'):=kept_or hk2 (Kept.setCell (Kept.refl (fun g=>g=Bt) w2) _ _ rfl)
 have hsz:(w2.setCell ⟨Bt,0,none⟩ v').heap.size=w2.heap.size:=by simp[World.setCell]
 have hBv':v'.ownBlock≠some Bt:=mx_not hown b2 (by decide)
 refine⟨KeepsRec.of_kept hk3 (fun k o ho hh=>?_),?_,⟨⟨v',mx_set b2 v',?_,fun g hg=>?_⟩,hk.trans hk3 (fun g hl e=>?_)⟩⟩
 ·rcases ho with ho|ho
  ·obtain⟨c,hc⟩:=own_type h2 k ho
   rw[hc]at hh
   cases hh
   exact .inl rfl
  ·subst ho
   rw[h1]at hh
   cases hh
   exact .inl rfl
 ·refine⟨hk3.os,hk3.tape,hk3.output,hk3.size,fun k o hh hn _=>?_⟩
  exact(hk3.block k (heap_lt hh) (fun e=>hn (e.elim (fun e=>.inr (h3 k e)) .inl))).trans hh
 ·rw[List.length_append,List.map_append]
  exact own_kept hown (Kept.setCell (Kept.refl (fun g=>g=Bt) w2) _ _ rfl) (fun g hg e=>hBv' (e▸hg))
 ·rcases hat with e|e
  ·exact .inl (h3 g (e▸hg))
  ·rw[e,World.size_alloc]at hg
   obtain rfl:=Option.some.inj hg
   have hl:=(own_lt hown _ (by rw[e,World.size_alloc])).2
   exact .inr ⟨by omega,by rw[hsz];exact hl⟩
 ·rcases e with e|e
  ·have:=(own_lt h2 g e).1
   omega
  ·exact e
theorem SysNext.after {w w' w2:World} {lab:Nat→Nat} {b ab tb:Nat} {A:Arn} {T:Trl} {S:Wst} (h:SysNext w w' lab b ab tb A T S) (hb:Below w'.heap.size w' w2):SysNext w w2 lab b ab tb A T S:=by
 obtain⟨l,h1,h2⟩:=h
 exact⟨l,h1.below hb,h2.trans (Labs.of_below hb)⟩
theorem SysNext.before {w w' w2:World} {lab:Nat→Nat} {b ab tb:Nat} {A:Arn} {T:Trl} {S:Wst} (hb:Below w.heap.size w w') (h:SysNext w' w2 lab b ab tb A T S):SysNext w w2 lab b ab tb A T S:=SysNext.trans (Labs.of_below hb) h
theorem putObj_kept (W:World) (D:Nat) (o:Obj):Kept (fun g=>g=D) W (W.putObj D o):=(Kept.grown (grownBy_putObj' W D o)).mono (fun _ _ e=>Option.some.inj e)
def Dead (w:World) (D:Nat):Prop:=(∀c e f,w.heap[D]? =some (.cells c e f)→e=33)∧∀es c,w.heap[D]? ≠some (.map es c)
theorem dead_def {w:World} {D:Nat} {d:Obj} (h:w.heap[D]? =some d) (h1:d.isCells=false) (h2:d.isWalk=false):Dead w D:=by
 refine⟨fun c e f hc=>?_,fun es c hc=>?_⟩
 ·rw[h]at hc
  cases hc
  cases h1
 ·rw[h]at hc
  cases hc
  cases h2
theorem dead_box {w:World} {D:Nat} {c:Array Value} {f:Nat×Nat} (h:w.heap[D]? =some (.cells c 33 f)):Dead w D:=by
 refine⟨fun c' e f' hc=>?_,fun es c' hc=>?_⟩
 ·rw[h]at hc
  cases hc
  rfl
 ·rw[h]at hc
  cases hc
section
variable {w w':World} {D:Nat}
theorem own_dead {base size n:Nat} {e:TypeId} {v:Value} {xs:List Value} (h:w.ownsRow base e size v n xs) (k:Kept (fun g=>g=D) w w') (hD:Dead w D) (he:e≠33):w'.ownsRow base e size v n xs:=
 own_kept h k (fun g hg e'=>by
  subst e'
  obtain⟨c,hc⟩:=own_type h g hg
  exact he (hD.1 _ _ _ hc))
theorem cells_dead {g:Nat} {c:Array Value} {t:TypeId} {f:Nat×Nat} (h:w.heap[g]? =some (.cells c t f)) (k:Kept (fun g=>g=D) w w') (hD:Dead w D) (he:t≠33):w'.heap[g]? =some (.cells c t f):=
 (k.block g (heap_lt h) (fun e=>by
  subst e
  exact he (hD.1 _ _ _ h))).trans h
theorem maps_dead {P:Program} {kt:TypeId} {b:Nat} {m:List (Int×Value)} (h:MapS P kt w b m) (k:Kept (fun g=>g=D) w w') (hD:Dead w D):MapS P kt w' b m:=
 h.kept k (fun e=>by
  obtain⟨es,c,hb⟩:=h.block
  exact hD.2 es c (e▸hb))
theorem SysAt.dead {lab:Nat→Nat} {b ab tb:Nat} {A:Arn} {T:Trl} {S:Wst} (h:SysAt w lab b ab tb A T S) (k:Kept (fun g=>g=D) w w') (hD:Dead w D):SysAt w' lab b ab tb A T S:=by
 refine⟨?_,?_,?_,fun g hg=>Nat.lt_of_lt_of_le (h.lt g hg) k.size⟩
 ·obtain⟨hk,stv,alv,hm⟩:=h.ar
  exact⟨hk,stv,alv,fun g hg=>Nat.lt_of_lt_of_le (hm.own g hg) k.size,hm.inb,cells_dead hm.block k hD (by decide),own_dead hm.store k hD (by decide),hm.storeb,own_dead hm.all k hD (by decide),hm.allb⟩
 ·obtain⟨hk,gv,cv,ov,sv,hm⟩:=h.tr
  exact⟨hk,gv,cv,ov,sv,fun g hg=>Nat.lt_of_lt_of_le (hm.own g hg) k.size,hm.inb,hm.invs,cells_dead hm.block k hD (by decide),own_dead hm.vars k hD (by decide),own_dead hm.order k hD (by decide),hm.orderb,own_dead hm.starts k hD (by decide),hm.startsb⟩
 ·obtain⟨hk,kb,ob,K,F,tg,hm⟩:=h.wa
  exact⟨hk,kb,ob,K,F,tg,{ own:=fun g hg=>Nat.lt_of_lt_of_le (hm.own g hg) k.size,inb:=hm.inb,ink:=hm.ink,ino:=hm.ino,ne:=hm.ne,intg:=hm.intg,block:=cells_dead hm.block k hD (by decide),kmap:=maps_dead hm.kmap k hD,omap:=maps_dead hm.omap k hD,kS:=hm.kS,oS:=hm.oS,kn:=fun p hp=>⟨cells_dead (hm.kn p hp).block k hD (by decide),(hm.kn p hp).tag,own_dead (hm.kn p hp).by_ k hD (by decide),(hm.kn p hp).byt,own_dead (hm.kn p hp).ls k hD (by decide),(hm.kn p hp).lst⟩,row:=fun p hp=>⟨own_dead (hm.row p hp).row k hD (by decide),(hm.row p hp).tag⟩ }⟩
end
theorem SysNext.dead {w Y Y':World} {lab:Nat→Nat} {b ab tb:Nat} {A:Arn} {T:Trl} {S:Wst} (h:SysNext w Y lab b ab tb A T S) {D:Nat} (hD:Dead Y D) (hw:w.heap.size≤D) (k:Kept (fun g=>g=D) Y Y'):SysNext w Y' lab b ab tb A T S:=by
 obtain⟨l,h1,h2⟩:=h
 exact⟨l,h1.dead k hD,h2.kept.trans k (fun i hi (e:i=D)=>by omega),h2.same⟩
theorem first_perm (T:Trl) (xs:List Int):(T.first xs).Perm xs:=by
 unfold Trl.first
 have h1:=(stab_perm T (xs.filter T.fal)).append_left (xs.filter fun x=> !T.fal x)
 have h2:=List.filter_append_perm (fun x=> !T.fal x) xs
 have h3:(xs.filter fun x=> !(!T.fal x))=xs.filter T.fal:=by
  congr 1
  funext x
  simp
 rw[h3]at h2
 exact h1.trans h2
theorem delA_insA {α:Type} (x:Int) (u:α) (m:List (Int×α)):delA (insA (x,u) m) x=delA m x:=by
 induction m with
 | nil=>simp[insA,delA]
 | cons y r ih=>
  unfold insA
  split
  ·unfold delA
   rw[List.filter_cons_of_neg (by simp)]
  ·unfold delA at ih⊢
   simp only[List.filter_cons]
   rw[ih]
theorem putA_putA {α:Type} (m:List (Int×α)) (x:Int) (u v:α):putA (putA m x u) x v=putA m x v:=by
 unfold putA
 rw[delA_insA]
 congr 1
 unfold delA
 rw[List.filter_filter]
 congr 1
 funext p
 simp
theorem wf_cells {O:Nat→Prop} {w:World} {ob g:Nat} {m:List (Int×Value)} (hm:MapO w ob m) {c:Array Value} {e:TypeId} {f:Nat×Nat} (h:w.heap[g]? =some (.cells c e f)) (he:e≠3): ¬WF O ob w g:=by
 rintro ⟨_,h1|⟨c',h1⟩⟩
 ·exact hm.not_cells h h1
 ·rw[h]at h1
  cases h1
  exact he rfl
theorem wf_def {O:Nat→Prop} {w:World} {ob g:Nat} {m:List (Int×Value)} (hm:MapO w ob m) {d:Obj} (h:w.heap[g]? =some d) (h1:d.isCells=false) (h2:d.isWalk=false): ¬WF O ob w g:=by
 rintro ⟨_,h3|⟨c',h3⟩⟩
 ·obtain⟨es,c,hb⟩:=hm.block
  rw[←h3,h]at hb
  cases hb
  cases h2
 ·rw[h]at h3
  cases h3
  cases h1
structure AddC (w w2 X:World) (lab:Nat→Nat) (b ab tb:Nat) (SA:Wst) (kb ob:Nat) (K:List (Int×KnM)) (Bt D gv cv:Nat) (a a2:Int):Prop where
 mem: ∃F tg,WaMem (fun g=>lab g=3∨w2.heap.size≤g∧g<X.heap.size) X b ab tb SA kb ob K F tg
 kept:Kept (fun g=>lab g=3) w2 X
 bw:X.heap[w.heap.size]? =some (.cells #[.pointer (some ⟨b,0,none⟩)] 39 (0,0))
 bt:X.heap[Bt]? =some (.cells #[.slice (some ⟨gv,0,none⟩) 2 cv] 33 (0,0))
 row:X.ownsRow 0 32 1 (.slice (some ⟨gv,0,none⟩) 2 cv) 2 [.int .i64 a,.int .i64 a2]
 df:X.heap[D]? =some (.deferred (some []))
theorem AddC.put {w w2 X:World} {lab:Nat→Nat} {b ab tb:Nat} {SA:Wst} {kb ob:Nat} {K:List (Int×KnM)} {Bt D gv cv:Nat} {a a2:Int} (h:AddC w w2 X lab b ab tb SA kb ob K Bt D gv cv a a2) (hb:SA.Bnd) {l id:Int} (hl:litB l=true) (hid:1≤id∧id≤1073741824) {x:World} (hS:Below X.heap.size X x):
  Calls Tryz.prog 109 #[.pointer (some ⟨b,0,none⟩),.int .i64 l,.int .i64 id] x fun e w'=>e= .returned (.tuple #[])∧AddC w w2 w' lab b ab tb (SA.put l id) kb ob K Bt D gv cv a a2:=by
 obtain⟨F,tg,hm⟩:=h.mem
 have hg:=hm.grow hS
 refine(wa_put_m b ab tb SA kb ob K F tg l id x hb hg hl hid).mono ?_
 rintro e w' ⟨rfl,hn⟩
 obtain⟨⟨F2,tg2,hm2⟩,hk⟩:=WaMNext.trans (Kept.of_below hS) hn
 have hxz:=hk.size
 refine⟨rfl,⟨F2,tg2,hm2.congr (fun g=>?_)⟩,h.kept.trans hk (fun i hi ho=>?_),?_,?_,?_,?_⟩
 ·have h2:=h.kept.size
  constructor
  ·rintro ((h|h)|h)
   ·exact .inl h
   ·exact .inr ⟨h.1,by omega⟩
   ·exact .inr ⟨by omega,h.2⟩
  ·rintro (h|h)
   ·exact .inl (.inl h)
   ·by_cases hgx:g<X.heap.size
    ·exact .inl (.inr ⟨h.1,hgx⟩)
    ·exact .inr ⟨by omega,h.2⟩
 ·exact ho.1.elim (fun h=>h) (fun h=>by omega)
 ·exact(hk.block _ (heap_lt h.bw) (wf_cells hm.omap h.bw (by decide))).trans h.bw
 ·exact(hk.block _ (heap_lt h.bt) (wf_cells hm.omap h.bt (by decide))).trans h.bt
 ·exact own_kept h.row hk (fun g hg=>by
   obtain⟨c,hc⟩:=own_type h.row g hg
   exact wf_cells hm.omap hc (by decide))
 ·exact(hk.block _ (heap_lt h.df) (wf_def hm.omap h.df rfl rfl)).trans h.df
theorem AddC.next {w w2 X:World} {lab:Nat→Nat} {b ab tb:Nat} {A:Arn} {T:Trl} {S SA:Wst} {kb ob:Nat} {K:List (Int×KnM)} {Bt D gv cv:Nat} {a a2:Int} (h:AddC w w2 X lab b ab tb SA kb ob K Bt D gv cv a a2) (hb:SA.Bnd) (hs:SysAt w2 lab b ab tb A T S):SysNext w2 X lab b ab tb A T SA:=by
 obtain⟨F,tg,hm⟩:=h.mem
 exact hs.wa_next ⟨⟨hb,kb,ob,K,F,tg,hm⟩,h.kept⟩
set_option maxRecDepth 100000 in
set_option maxHeartbeats 4000000 in
theorem wa_add_ok (b ab tb:Nat) (A:Arn) (T:Trl) (S:Wst) (id:Int) (c:List Int) (w:World) (lab:Nat→Nat) (h:SysAt w lab b ab tb A T S) (hwf:(Lit.int .i64 id).wf=true) (hk:S.kn id=none) (hg:A.get id=some c) (hbg:c.any T.big=false) (hcl:c.length<20) (hcb:clauseB c=true) (hid:1≤id∧id≤1073741824) (hno:T.order.length<1048576) (hL:S.Link):
  Calls Tryz.prog 52 #[.pointer (some ⟨b,0,none⟩),.int .i64 id] w fun e w'=>e= .returned (.tuple #[.int .u8 ((addOk T S id c).res:Nat),.int .i64 0])∧SysNext w w' lab b ab tb A (addOk T S id c).T (addOk T S id c).S:=by
 obtain⟨W0,hW0⟩: ∃x,w.alloc (.cells #[.pointer (some ⟨b,0,none⟩)] 39)=x:=⟨_,rfl⟩
 have hb0:Below w.heap.size w W0:=by rw[←hW0];exact mx_al _ _
 have hx0:W0.heap[w.heap.size]? =some (.cells #[.pointer (some ⟨b,0,none⟩)] 39 (0,0)):=by rw[←hW0];exact World.alloc_heap_new _ _
 have HBX:=Lib.hid hx0
 have HW0:=Lib.hid hW0
 have HB0:=Lib.hid hb0
 have hs0:=h.below hb0
 have HS0:=Lib.hid hs0
 have HGET:=Lib.hid (ar_get ab A id c W0 hs0.ar hg)
 obtain⟨hbn,kb,ob,K,F,tg,hm⟩:=hs0.wa
 have hbb:=hm.block
 have HM0:=Lib.hid hm
 have HBN:=Lib.hid hbn
 have hlk:=hm.lookK hwf
 rw[(hm.knNone hk).2]at hlk
 have p0:W0.cell? ⟨w.heap.size,0,none⟩=some (.pointer (some ⟨b,0,none⟩)):=mx_cell (j:=0) hx0
 have q0:W0.cell? ⟨b,0,none⟩=some (.pointer (some ⟨ab,0,none⟩)):=mx_cell (j:=0) hbb
 have q2:W0.cell? ⟨b,2,none⟩=some (.map (some kb)):=mx_cell (j:=2) hbb
 have hltb:=heap_lt hbb
 have hltx:=heap_lt hx0
 have HBB:=Lib.hid hbb
 have HKS:=Lib.hid hk
 have HKN:=Lib.hid (hm.knNone hk).1
 have HSW:=Lib.hid h
 clear h hs0 hm hbn hbb hx0 hb0 hW0 hk hg
 refine(callsIn_wide (n:=10)).1 ?_
 refine callsIn_of_wp_marks Tryz.func52 rfl trivial ?_ rfl
 simp only[Tryz.ntmps52,List.size_toArray,List.length_cons,List.length_nil,Nat.reduceAdd,Nat.reduceSub,Array.replicate_succ,Array.replicate_zero,List.push_toArray,List.append_toArray,List.nil_append,List.cons_append]
 have PQ:=Lib.hid (And.intro p0 (And.intro q0 q2))
 rw[←HW0.out]at p0 q0 q2 hlk
 gi_wp2_with fail
 rw[HW0.out]
 clear p0 q0 q2 hlk
 refine⟨trivial,?_⟩
 refine(callsIn_wide.2 HGET.out).mono ?_
 rintro e w1 ⟨cv,rfl,hcr,hb1⟩
 obtain⟨Ac,cc,rfl,_⟩:=mx_slice hcr
 have HCR:=Lib.hid hcr
 have HB1:=Lib.hid (HB0.out.trans (hb1.mono HB0.out.size))
 have HB01:=Lib.hid hb1
 have HS1:=Lib.hid (HSW.out.below HB1.out)
 have p1:w1.cell? ⟨w.heap.size,0,none⟩=some (.pointer (some ⟨b,0,none⟩)):=(hb1.cell (p:=⟨w.heap.size,0,none⟩) hltx).trans PQ.out.1
 have HCB:=Lib.hid (contains_big b tb w.heap.size T _ c w1 HS1.out.tr p1 HS1.out.c1 (IntsIn.of_own hcr) (by omega))
 rw[hbg]at HCB
 obtain⟨n,hn⟩: ∃n,c.length=n:=⟨_,rfl⟩
 have HN:=Lib.hid hn
 rw[hn]at hcl HCB
 have HCR':=HCR
 clear hb1 hcr hbg
 gi_wp2_with fail
 clear hn
 refine⟨trivial,?_⟩
 refine(callsIn_wide.2 HCB.out).mono ?_
 rintro e w2 ⟨rfl,hb2⟩
 have HB2:=Lib.hid (HB1.out.trans (hb2.mono HB1.out.size))
 have HA2:=Lib.hid (HB01.out.trans (hb2.mono HB01.out.size))
 have HC2:=Lib.hid (own_below HCR.out hb2)
 have HON:=Lib.hid (wa_once _ c w2 (IntsIn.of_own HC2.out) (by have:=HN.out;omega))
 rw[HN.out]at HON
 clear hb2
 gi_wp2_with fail
 refine⟨trivial,?_⟩
 refine(callsIn_wide.2 HON.out).mono ?_
 rintro e w3 ⟨lv,rfl,hlr,hb3⟩
 obtain⟨el,hel⟩: ∃z,eachL c=z:=⟨_,rfl⟩
 have hell:el.length≤n:=by rw[←hel,←HN.out];exact eachL_len c
 rw[hel]at hlr
 obtain⟨Al,cl,rfl,_⟩:=mx_slice hlr
 obtain⟨m,hm⟩: ∃m,el.length=m:=⟨_,rfl⟩
 rw[hm]at hlr hell⊢
 have HEL:=Lib.hid hel
 have HML:=Lib.hid hm
 have HLR:=Lib.hid hlr
 have HB3:=Lib.hid (HB2.out.trans (hb3.mono HB2.out.size))
 have HB23:=Lib.hid hb3
 have HA3:=Lib.hid (HA2.out.trans (hb3.mono HA2.out.size))
 obtain⟨w4,hw4⟩: ∃x,w3.alloc (.cells #[.slice none 0 0,.slice Al m cl] 171)=x:=⟨_,rfl⟩
 have hb4:Below w3.heap.size w3 w4:=by rw[←hw4];exact mx_al _ _
 have hn4:w4.heap[w3.heap.size]? =some (.cells #[.slice none 0 0,.slice Al m cl] 171 (0,0)):=by rw[←hw4];exact World.alloc_heap_new _ _
 have HB4:=Lib.hid (HB3.out.trans (hb4.mono HB3.out.size))
 have HB34:=Lib.hid hb4
 have HN4:=Lib.hid hn4
 have HW4:=Lib.hid hw4
 have HA4:=Lib.hid (HA3.out.trans (hb4.mono HA3.out.size))
 have HM4:=Lib.hid (HM0.out.kmap.kept (O:=fun _=>False) (Kept.of_below HA4.out) (fun h=>h))
 have p4:w4.cell? ⟨w.heap.size,0,none⟩=some (.pointer (some ⟨b,0,none⟩)):=(HA4.out.cell (p:=⟨w.heap.size,0,none⟩) hltx).trans PQ.out.1
 have q4:w4.cell? ⟨b,2,none⟩=some (.map (some kb)):=(HA4.out.cell (p:=⟨b,2,none⟩) hltb).trans PQ.out.2.2
 rw[←hw4]at p4 q4
 have HM4':=Lib.hid (show MapK (w3.alloc (.cells #[.slice none 0 0,.slice Al m cl] 171)) kb (mapV KnM.ptr K)from by rw[hw4];exact HM4.out)
 have hkl:(mapV KnM.ptr K).length<maxLen:=by
  have h1:=HBN.out.knownLen
  rw[HM0.out.kS,mapV_length]at h1
  rw[mapV_length]
  unfold maxLen
  omega
 clear hm hel hlr hb3 hb4 hn4 hw4 p1
 gi_wp2_with (gi_at_mapUpdate;refine wpListIn_putS HM4'.out int_law Tryz.underlying3 Tryz.underlying154 rfl _ _ _ rfl rfl hkl id (.pointer (some ⟨w3.heap.size,0,none⟩)) rfl rfl hwf ?_;intro w5 hm5 hg5)
 have HG5:=Lib.hid (show w4.grownBy w5 (some kb)from by rw[←HW4.out];exact hg5)
 have HM5:=Lib.hid hm5
 clear hm5 hg5 p4 q4 hkl
 have hm2:=HM0.out.kept (O':=fun _=>False) (Kept.of_below HA2.out) (fun _ _ h=>h)
 have hkb2:=HM0.out.kmap.lt
 have hk25:Kept (fun g=>g=kb) w2 w5:=(Kept.of_below (HB23.out.trans (HB34.out.mono HB23.out.size))).trans (Kept.grown HG5.out) (fun g _ e=>Option.some.inj e)
 have hnk:w3.heap.size≠kb:=by
  have h1:=HA3.out.size
  omega
 have hb5:w5.heap[w3.heap.size]? =some (.cells #[.slice none 0 0,.slice Al m cl] 171 (0,0)):=(HG5.out.block _ (heap_lt HN4.out) (fun e=>hnk (Option.some.inj e))).trans HN4.out
 have hl5:w5.ownsRow w2.heap.size 32 1 (.slice Al m cl) m (el.map (Value.int .i64)):=own_kept (own_below HLR.out HB34.out) (Kept.grown HG5.out) (fun g hg e=>by
  obtain⟨q,hq⟩:=own_type (own_below HLR.out HB34.out) g hg
  exact HM4.out.not_cells hq (Option.some.inj e))
 have hcb':=hcb
 unfold clauseB at hcb'
 rw[Bool.and_eq_true,decide_eq_true_eq,List.all_eq_true]at hcb'
 have hbn5:(S.set id ⟨[],el⟩).Bnd:=HBN.out.set hid ⟨.inl rfl,by show el.length≤4096;have:=HML.out;omega,fun l hl=>by
  have hl':l∈eachL c:=by rw[HEL.out];exact hl
  exact hcb'.2 l (eachL_mem.1 hl')⟩
 obtain⟨tg5,hm5⟩:=hm2.addKn (id:=id) (c:=el) hk25 hb5 HB23.out.size (by rw[HML.out];exact own_mono hl5 (Nat.zero_le _)) (fun g hg=>(own_lt hl5 g hg).1) HM5.out
 have HWM:=Lib.hid hm5
 have HBN5:=Lib.hid hbn5
 have HK25:=Lib.hid hk25
 have HX5:=Lib.hid (show getA (putA K id ⟨w3.heap.size,.slice none 0 0,.slice Al m cl,⟨[],el⟩⟩) id=some ⟨w3.heap.size,.slice none 0 0,.slice Al m cl,⟨[],el⟩⟩from by rw[getA_put hm2.kR,if_pos rfl])
 have HL5:=Lib.hid hl5
 have HS2:=Lib.hid (HSW.out.below HB2.out)
 have HC5:=Lib.hid (show IntsIn (fun _=>True) w5 (.slice Ac n cc) c from by
  have h2:=own_below HC2.out (HB23.out.trans (HB34.out.mono HB23.out.size))
  rw[←HN.out]at *
  exact(IntsIn.of_own (own_kept h2 (Kept.grown HG5.out) (fun g hg e=>by
   obtain⟨q,hq⟩:=own_type h2 g hg
   exact HM4.out.not_cells hq (Option.some.inj e)))).mono (fun _ _=>trivial))
 have hkb0:w.heap.size≠kb:=fun e=>HM0.out.kmap.not_cells HBX.out e
 have HP5:=Lib.hid (show w5.heap[w.heap.size]? =some (.cells #[.pointer (some ⟨b,0,none⟩)] 39 (0,0))from(hk25.block _ (Nat.lt_of_lt_of_le hltx HA2.out.size) hkb0).trans ((HA2.out.block _ hltx).trans HBX.out))
 have HAL:=Lib.hid (always_any _ c w5 HC5.out (by have:=HN.out;omega))
 clear hm5 hbn5 hk25 hl5 hm2 hb5 hnk hcb' hkb0
 obtain⟨q,hq⟩: ∃q,alwL c=q:=⟨_,rfl⟩
 have HQ:=Lib.hid hq
 rw[hq]at HAL
 clear hq
 refine⟨trivial,?_⟩
 refine(callsIn_wide.2 HAL.out).mono ?_
 rintro e w6 ⟨rfl,hb6⟩
 have HB6:=Lib.hid hb6
 clear hb6
 have HN5:=Lib.hid (show SysNext w2 w5 lab b ab tb A T (S.set id ⟨[],el⟩)from HS2.out.wa_next ⟨⟨HBN5.out,_,_,_,_,_,HWM.out⟩,HK25.out.mono (fun g _ e=>e▸HM0.out.ink)⟩)
 cases q with
 | true=>
  have HE:=Lib.hid (show addOk T S id c=⟨4,0,T,S.set id ⟨[],el⟩⟩from by unfold addOk;rw[if_pos HQ.out,HEL.out])
  gi_wp2_with fail
  refine⟨.tuple #[.int .u8 4,.int .i64 0],by simp[results,Tryz.results52,go_sem],by rw[HE.out];rfl,?_⟩
  rw[HE.out]
  exact(HN5.out.after HB6.out).before HB2.out
 | false=>
  obtain⟨w7,hw7⟩: ∃x,w6.alloc (.cells #[.slice none 0 0] 33)=x:=⟨_,rfl⟩
  have hb7:Below w6.heap.size w6 w7:=by rw[←hw7];exact mx_al _ _
  have hn7:w7.heap[w6.heap.size]? =some (.cells #[.slice none 0 0] 33 (0,0)):=by rw[←hw7];exact World.alloc_heap_new _ _
  have HB57:=Lib.hid (HB6.out.trans (hb7.mono HB6.out.size))
  have HN7:=Lib.hid hn7
  have HW7:=Lib.hid hw7
  have p7:w7.cell? ⟨w.heap.size,0,none⟩=some (.pointer (some ⟨b,0,none⟩)):=mx_cell (j:=0) ((HB57.out.block _ (heap_lt HP5.out)).trans HP5.out)
  have HP7:=Lib.hid p7
  have hxb:=(HWM.out.kn _ (getA_some HX5.out)).block
  have HX7:=Lib.hid (show w7.cell? ⟨w3.heap.size,1,none⟩=some (.slice Al m cl)from mx_cell (j:=1) ((HB57.out.block _ (heap_lt hxb)).trans hxb))
  have hlx:=heap_lt ((HB57.out.block _ (heap_lt hxb)).trans hxb)
  have hlp:=heap_lt ((HB57.out.block _ (heap_lt HP5.out)).trans HP5.out)
  clear hb7 hn7 hw7 p7 hxb
  gi_wp2_with fail
  rw[HW7.out]
  refine wpIn_wide.2 (wp_region_noPanic ?_)
  refine wp_region_held_drew (S:=fun w'=>Below w7.heap.size w7 w') (by kernel_rfl) (mx_drew w7) (fun hS=>?_)
  refine takeF 0 47 (fun wq hSw=>(hSw.cell (p:=⟨w.heap.size,0,none⟩) hlp).trans HP7.out) ?_
  refine takeE 1 48 ?_
  refine takeE 2 49 ?_
  refine takeE 3 50 ?_
  refine takeF 4 51 (fun wq hSw=>(hSw.cell (p:=⟨w3.heap.size,1,none⟩) hlx).trans HX7.out) ?_
  refine ready1 5 (fun KK hKK=>?_)
  go_simp
  refine(first_run b Al m cl _).mono ?_
  rintro e w8 ⟨rfl,hw8⟩
  have hb8:Below w7.heap.size w7.drew w8:=by rw[←hw8];exact((mx_al w7.drew _).trans ((mx_al _ _).mono (by simp)))
  refine hKK.out _ _ (hS.trans hb8) (fun _=>?_)
  have HB8:=Lib.hid (hS.trans hb8)
  have HW8:=Lib.hid hw8
  clear hKK hS hb8 hw8
  refine wpAnyH_done (by kernel_rfl) ?_ _
  refine NoPanic.normal ?_
  have hz2:=HB23.out.size
  have hz3:=HB34.out.size
  have hz5:=HG5.out.size
  have hz6:=HB6.out.size
  have hz7:w7.heap.size=w6.heap.size+1:=by rw[←HW7.out];simp
  have hz8:w8.heap.size=w7.heap.size+2:=by rw[←HW8.out];simp
  have HB58:=Lib.hid (HB57.out.trans (HB8.out.mono HB57.out.size))
  have hbx8:w8.heap[w7.heap.size]? =some (.cells #[.pointer (some ⟨b,0,none⟩)] 39 (0,0)):=by
   rw[←HW8.out,Below.heap_alloc _ _ _ (by simp)]
   exact World.alloc_heap_new w7.drew _
  have hlx8:w8.heap[w7.heap.size+1]? =some (.cells #[.slice Al m cl] 33 (0,0)):=by
   rw[←HW8.out]
   have:=World.alloc_heap_new (w7.drew.alloc (.cells #[.pointer (some ⟨b,0,none⟩)] 39)) (.cells #[.slice Al m cl] 33)
   rwa [World.size_alloc]at this
  have htr:=(HS2.out.tr.kept HK25.out (fun g hg e=>by
   have h3:lab kb=3:=HM0.out.ink
   rw[e,h3]at hg
   cases hg)).below HB58.out
  have hwb8:=(HB58.out.block _ (heap_lt HWM.out.block)).trans HWM.out.block
  have hlt2:=HS2.out.lt
  have hl5:=HL5.out
  have hltb5:=heap_lt HWM.out.block
  have HSEQ:=Lib.hid (first1_in (X0:=fun g=>g=w6.heap.size) b tb (w7.heap.size+1) w7.heap.size T (.slice Al m cl) el w8 htr (mx_cell (j:=0) hlx8) (IntsIn.of_own (by rw[HML.out];exact own_below hl5 HB58.out)) (mx_cell (j:=0) hbx8) (mx_cell (j:=1) hwb8) (fun g hg=>by
   subst hg
   refine⟨by omega,by omega,by omega,by omega,fun h=>?_,fun h=>?_⟩
   ·have:=hlt2 w6.heap.size (by rw[h];decide)
    omega
   ·have:=(own_lt hl5 _ h.2).2
    omega) (by have:=HML.out;omega))
  have HN8:=Lib.hid ((HB8.out.block _ (heap_lt HN7.out)).trans HN7.out)
  obtain⟨two,htwo⟩: ∃z,(T.first el).take 2=z:=⟨_,rfl⟩
  have HTWO:=Lib.hid htwo
  have HZ:=Lib.hid (show w6.heap.size<w8.heap.size by omega)
  clear hbx8 hlx8 htr hwb8 hlt2 hl5 hltb5 htwo
  gi_wp2_with fail
  refine wpIn_range_BE (gf:=144) (lb:= #[.pointer (some ⟨w7.heap.size+1,0,none⟩),.pointer (some ⟨w7.heap.size,0,none⟩)]) rfl (enters_of Tryz.func144 (by kernel_rfl) rfl) 0 HSEQ.out (Below.refl _ _) (fun _=>rfl)
   (fun pre B W=>AddI w8 w6.heap.size pre B W∧pre.length<2) (fun pre B W=>AddI w8 w6.heap.size pre B W∧pre.length=2) (addI_own HZ.out (fun pre=>pre.length<2)) (addI_own HZ.out (fun pre=>pre.length=2)) ⟨⟨⟨_,HN8.out,World.ownsRow_nil _ _ _ _,fun g e=>(by cases e)⟩,Kept.refl _ _⟩,by simp⟩
   ?frame ?assign ?body (fun ys W=>ys=two∧∃B,AddI w8 w6.heap.size ys B W) ?hf1 ?hf2 ?hexit ?hend
  case assign=>
   intro l x W KK hKK
   dsimp only[fv1]
   gi_wp2
   exact hKK
  case hf1=>
   rintro xs B W rfl ⟨h1,h2⟩
   rw[List.take_of_length_le (by omega)]at HTWO
   exact⟨HTWO.out,B,h1⟩
  case hf2=>
   rintro pre B W hpre ⟨h1,h2⟩
   refine⟨?_,B,h1⟩
   rw[←HTWO.out,←h2]
   exact List.prefix_iff_eq_take.1 hpre
  case hexit=>
   intro a W hq
   exact wpIn_exit hq
  case body=>
   rintro l pre B x W W' ⟨hi,hl2⟩ hB hsz hj hjB hz ⟨hi',_⟩
   obtain⟨⟨v,h1,h2,h3⟩,hkk⟩:=hi'
   obtain⟨i0,hi0,hz0,hz1,hzz⟩:=info_parts cinfo_lit
   obtain⟨A',c',rfl,_⟩:=mx_slice h2
   have d0:=mx_cell (j:=0) h1
   have f0:=mx_free (j:=0) h1
   have H2:=Lib.hid h2
   have hkz:=hkk.size
   have HST:=Lib.hid (fun(w2:World) (v':Value)=>addI_step (W:=W) (w2:=w2) (v':=v') (x:=x) HZ.out h1 h2 h3 hkk hz)
   have hp:pre.length=0∨pre.length=1:=by omega
   have HPL:=Lib.hid (show(pre++ [x]).length=pre.length+1 by simp)
   clear d0
   rcases hp with hp|hp
   ·have hbb:=h1
    rw[hp]at hbb H2
    have d0:=mx_cell (j:=0) hbb
    have HBB7:=Lib.hid hbb
    have HAL:=Lib.hid (mx_al W' (.cells #[.int .i64 x] 32))
    have HNB:=Lib.hid (show(Value.slice A' 0 c').ownBlock≠some w6.heap.size from mx_not H2.out hbb (by decide))
    have hgw:w8.heap.size≤W'.heap.size:=hkz
    clear h1 h2 h3 hkk hi hB hj hjB hz hsz hz2 hz3 hz5 hz6 hz7 hz8 hkz
    gi_wp2_with (gi_at_builtin;go_must (refine wpListIn_append_own_at _ rfl _ _ 33 rfl w8.heap.size 32 i0 (.int .i64 0) 1 8 Tryz.underlying33 hi0 hz0 hz1 hzz rfl (by decide) _ 0 _ rfl (own_below H2.out HAL.out) ⟨W'.heap.size,0,none⟩ 1 1 [.int .i64 x] rfl rfl (cell_one_new' _ _ _) (by simp[Value.oneCell']) (by unfold maxLen;omega) (by omega) (by simp;omega) ?_);intro v' w9 hown hgrow hnl hat;have b9:w9.heap[w6.heap.size]? =some (.cells #[.slice A' 0 c'] 33 (0,0)):=(hgrow.block _ (by rw[World.size_alloc];have:=heap_lt HBB7.out;omega) (fun e=>HNB.out e.symm)).trans ((HAL.out.block _ (heap_lt HBB7.out)).trans HBB7.out);have s0:=mx_cell (j:=0) b9;have s1:=mx_free (j:=0) b9;obtain⟨Av,cv,hvv,_⟩:=mx_slice hown;subst hvv;have HSTEP:=Lib.hid (HST.out w9 _ (by rw[hp];exact hgrow) (by rw[hp];exact hown) (by rw[hp];exact hat));clear hown hgrow hnl hat b9 d0)
    exact⟨HSTEP.out.1,HSTEP.out.2.1,HSTEP.out.2.2,by rw[HPL.out,hp];decide⟩
   ·have hbb:=h1
    rw[hp]at hbb H2
    have d0:=mx_cell (j:=0) hbb
    have HBB7:=Lib.hid hbb
    have HAL:=Lib.hid (mx_al W' (.cells #[.int .i64 x] 32))
    have HNB:=Lib.hid (show(Value.slice A' 1 c').ownBlock≠some w6.heap.size from mx_not H2.out hbb (by decide))
    have hgw:w8.heap.size≤W'.heap.size:=hkz
    clear h1 h2 h3 hkk hi hB hj hjB hz hsz hz2 hz3 hz5 hz6 hz7 hz8 hkz
    gi_wp2_with (gi_at_builtin;go_must (refine wpListIn_append_own_at _ rfl _ _ 33 rfl w8.heap.size 32 i0 (.int .i64 0) 1 8 Tryz.underlying33 hi0 hz0 hz1 hzz rfl (by decide) _ 1 _ rfl (own_below H2.out HAL.out) ⟨W'.heap.size,0,none⟩ 1 1 [.int .i64 x] rfl rfl (cell_one_new' _ _ _) (by simp[Value.oneCell']) (by unfold maxLen;omega) (by omega) (by simp;omega) ?_);intro v' w9 hown hgrow hnl hat;have b9:w9.heap[w6.heap.size]? =some (.cells #[.slice A' 1 c'] 33 (0,0)):=(hgrow.block _ (by rw[World.size_alloc];have:=heap_lt HBB7.out;omega) (fun e=>HNB.out e.symm)).trans ((HAL.out.block _ (heap_lt HBB7.out)).trans HBB7.out);have s0:=mx_cell (j:=0) b9;have s1:=mx_free (j:=0) b9;obtain⟨Av,cv,hvv,_⟩:=mx_slice hown;subst hvv;have HSTEP:=Lib.hid (HST.out w9 _ (by rw[hp];exact hgrow) (by rw[hp];exact hown) (by rw[hp];exact hat));clear hown hgrow hnl hat b9 d0)
    exact⟨rfl,HSTEP.out.1,HSTEP.out.2.1,HSTEP.out.2.2,by rw[HPL.out,hp]⟩
  case hend=>
   rintro D ys W hD ⟨hys,B,hi⟩ hDf
   obtain⟨⟨v,h1,h2,_⟩,hkw⟩:=hi
   have HKW:=Lib.hid (show Kept (fun g=>g=w6.heap.size) w8 W from hkw)
   have HB1W:=Lib.hid h1
   have HROW:=Lib.hid h2
   have HDF:=Lib.hid hDf
   have HDW:=Lib.hid (show w.heap.size≤D from by have:=HB2.out.size;omega)
   have HBWW:=Lib.hid (show W.cell? ⟨w.heap.size,0,none⟩=some (.pointer (some ⟨b,0,none⟩))from mx_cell (j:=0) ((hkw.block _ (by have:=HB2.out.size;have:=hltx;have:=HA2.out.size;omega) (by have:=HB2.out.size;have:=hltx;have:=HA2.out.size;omega)).trans ((HB58.out.block _ (heap_lt HP5.out)).trans HP5.out)))
   have HBTW:=Lib.hid (show W.cell? ⟨w6.heap.size,0,none⟩=some v from mx_cell (j:=0) h1)
   have HN58:=Lib.hid (show SysNext w W lab b ab tb A T (S.set id ⟨[],el⟩)from((HN5.out.after HB58.out).dead (dead_box HN8.out) (by omega) hkw).before HB2.out)
   have hl2:ys.length≤2:=by rw[hys,←HTWO.out,List.length_take];omega
   have HAT:=Lib.hid (show addTwo T c=ys from by unfold addTwo;rw[HEL.out,HTWO.out,hys])
   have HEX:=Lib.hid (show∀k,addKind T ys=k→k≠2→addOk T S id c=⟨k,0,T,S.addBy id el ys⟩from fun k hk h2=>by
    unfold addOk
    rw[if_neg (by rw[HQ.out];decide),HAT.out,hk,if_neg h2,HEL.out])
   have HEA:=Lib.hid (show addKind T ys=2→addOk T S id c=⟨2,0,T.assigned (ys.headD 0) id,S.addBy id el ys⟩from fun hk=>by
    unfold addOk
    rw[if_neg (by rw[HQ.out];decide),HAT.out,hk,if_pos rfl,HEL.out])
   have hys2:=hys
   clear h1 hkw hDf hys
   obtain⟨Av,kv,rfl,_⟩:=mx_slice h2
   rcases ys with _|⟨a,_|⟨a2,_|⟨a3,r⟩⟩⟩
   ·
    obtain⟨SX,hSX⟩: ∃z,S.set id ⟨[],el⟩=z:=⟨_,rfl⟩
    rw[show S.addBy id el []=S.set id ⟨[],el⟩from rfl,hSX]at HEX
    rw[hSX]at HN58
    have HN:=HN58
    have HBW:=HBWW
    have HBT:=HBTW
    have HDD:=HDF
    obtain⟨X,hX⟩: ∃X,W=X:=⟨_,rfl⟩
    rw[hX]at HN HBW HBT HDD⊢
    clear hX h2 HN58 HBWW HBTW HDF HROW HB1W HKW hSX HEA
    have hq0:=HBT.out
    simp only[List.length_nil]at HBT hq0
    gi_wp2_with fail
    obtain⟨labX,hsx,hlx⟩:=HN.out
    have HSX:=Lib.hid hsx
    clear hsx hlx
    have hlb:=World.block_lt_of_cell? X _ HBW.out
    have hlt:=World.block_lt_of_cell? X _ HBT.out
    refine wpIn_wide.2 (wp_region_noPanic ?_)
    refine wp_region_held_drew (S:=fun w'=>Below X.heap.size X w') (by kernel_rfl) (mx_drew X) (fun hS=>?_)
    refine takeF 0 82 (fun wq hSw=>(hSw.cell (p:=⟨w6.heap.size,0,none⟩) hlt).trans HBT.out) ?_
    refine takeE 1 83 ?_
    refine takeE 2 84 ?_
    refine takeE 3 85 ?_
    refine takeU 4 86 ?_
    refine takeU 5 87 ?_
    refine takeU 6 88 ?_
    refine takeU 7 89 ?_
    refine takeU 8 90 ?_
    refine takeE 9 91 ?_
    refine takeE 10 81 ?_
    refine wpAnyH_done (by kernel_rfl) ?_ _
    refine NoPanic.normal ?_
    have HNZ:=Lib.hid (HN.out.after hS)
    have HBWZ:=Lib.hid ((hS.cell (p:=⟨w.heap.size,0,none⟩) hlb).trans HBW.out)
    have HBTZ:=Lib.hid ((hS.cell (p:=⟨w6.heap.size,0,none⟩) hlt).trans HBT.out)
    have HDDZ:=Lib.hid ((hS.block D (heap_lt HDD.out)).trans HDD.out)
    clear HN HBW HBT HDD HSX hlb hlt
    clear hS
    have HN:=HNZ
    have HBW:=HBWZ
    have HBT:=HBTZ
    have HDD:=HDDZ
    clear HNZ HBWZ HBTZ HDDZ
    have HE:=Lib.hid (show addOk T S id c=⟨3,0,T,SX⟩from HEX.out 3 rfl (by decide))
    gi_wp2_with fail
    refine⟨by simp,.inl ⟨_,_,rfl,run_takeDeferred HDD.out,?_⟩⟩
    refine⟨.tuple #[.int .u8 3,.int .i64 0],by simp[results,Tryz.results52,go_sem],by rw[HE.out];rfl,?_⟩
    rw[HE.out]
    exact HN.out.dead (dead_def HDD.out rfl rfl) HDW.out (putObj_kept _ _ _)
   ·
    obtain⟨gv,kv',hv,_,hc0⟩:=own_get HROW.out (j:=0) (x:=a) rfl
    simp only[Value.slice.injEq]at hv
    obtain⟨rfl,_,rfl⟩:=hv
    obtain⟨SX,hSX⟩: ∃z,S.set id ⟨[],el⟩=z:=⟨_,rfl⟩
    rw[show S.addBy id el [a]=S.set id ⟨[],el⟩from rfl,hSX]at HEX HEA
    rw[hSX]at HN58
    have HN:=HN58
    have HBW:=HBWW
    have HBT:=HBTW
    have HV0:=Lib.hid hc0
    have HDD:=HDF
    obtain⟨X,hX⟩: ∃X,W=X:=⟨_,rfl⟩
    rw[hX]at HN HBW HBT HV0 HDD⊢
    clear hX h2 hc0 HN58 HBWW HBTW HDF HROW HB1W HKW hSX
    have hq0:=HBT.out
    simp only[List.length_cons,List.length_nil]at HBT hq0
    gi_wp2_with fail
    obtain⟨labX,hsx,hlx⟩:=HN.out
    have HSX:=Lib.hid hsx
    clear hsx hlx
    have hlb:=World.block_lt_of_cell? X _ HBW.out
    have hlt:=World.block_lt_of_cell? X _ HBT.out
    refine wpIn_wide.2 (wp_region_noPanic ?_)
    refine wp_region_held_drew (S:=fun w'=>Below X.heap.size X w') (by kernel_rfl) (mx_drew X) (fun hS=>?_)
    refine takeF 0 82 (fun wq hSw=>(hSw.cell (p:=⟨w6.heap.size,0,none⟩) hlt).trans HBT.out) ?_
    refine takeE 1 83 ?_
    refine takeE 2 84 ?_
    refine takeE 3 85 ?_
    refine takeF 4 86 (fun wq hSw=>(hSw.cell (p:=⟨w.heap.size,0,none⟩) hlb).trans HBW.out) ?_
    refine takeF 5 87 (fun wq hSw=>(hSw.cell (p:=⟨w6.heap.size,0,none⟩) hlt).trans HBT.out) ?_
    refine takeE 6 88 ?_
    refine takeF 7 89 (fun wq hSw=>(hSw.cell (p:=⟨gv,0,none⟩) (World.block_lt_of_cell? X _ HV0.out)).trans HV0.out) ?_
    obtain⟨q1,hq1⟩: ∃q,T.fal a=q:=⟨_,rfl⟩
    have HQ1:=Lib.hid hq1
    clear hq1
    refine ready1 8 (fun KK hKK=>?_)
    go_simp
    have hcc:=wa_false b tb T a _ (HSX.out.tr.below hS) ((hS.cell (p:=⟨b,1,none⟩) (World.block_lt_of_cell? X _ HSX.out.c1)).trans HSX.out.c1)
    rw[HQ1.out]at hcc
    refine hcc.mono ?_
    rintro e Y ⟨rfl,hbY⟩
    clear hcc
    have hS2:=hS.trans (hbY.mono hS.size)
    refine hKK.out _ _ hS2 (fun _=>?_)
    clear hKK hS hbY
    have hS:=hS2
    clear hS2
    refine takeE 9 91 ?_
    refine takeE 10 81 ?_
    refine wpAnyH_done (by kernel_rfl) ?_ _
    refine NoPanic.normal ?_
    have HNZ:=Lib.hid (HN.out.after hS)
    have HBWZ:=Lib.hid ((hS.cell (p:=⟨w.heap.size,0,none⟩) hlb).trans HBW.out)
    have HBTZ:=Lib.hid ((hS.cell (p:=⟨w6.heap.size,0,none⟩) hlt).trans HBT.out)
    have HDDZ:=Lib.hid ((hS.block D (heap_lt HDD.out)).trans HDD.out)
    have HVZ0:=Lib.hid ((hS.cell (p:=⟨gv,0,none⟩) (World.block_lt_of_cell? X _ HV0.out)).trans HV0.out)
    clear HN HBW HBT HDD HSX hlb hlt HV0
    clear hS
    have HN:=HNZ
    have HBW:=HBWZ
    have HBT:=HBTZ
    have HDD:=HDDZ
    have HV0:=HVZ0
    clear HNZ HBWZ HBTZ HDDZ HVZ0
    cases q1 with
    | true=>
     have HE:=Lib.hid (show addOk T S id c=⟨3,0,T,SX⟩from HEX.out 3 (by simp[addKind,HQ1.out]) (by decide))
     gi_wp2_with fail
     refine⟨by simp,.inl ⟨_,_,rfl,run_takeDeferred HDD.out,?_⟩⟩
     refine⟨.tuple #[.int .u8 3,.int .i64 0],by simp[results,Tryz.results52,go_sem],by rw[HE.out];rfl,?_⟩
     rw[HE.out]
     exact HN.out.dead (dead_def HDD.out rfl rfl) HDW.out (putObj_kept _ _ _)
    | false=>
     gi_wp2_with fail
     obtain⟨X,hXY⟩: ∃X,X=Y:=⟨_,rfl⟩
     subst hXY
     obtain⟨labX,hsx,hlx⟩:=HN.out
     have HSX:=Lib.hid hsx
     clear hsx hlx
     have hlb:=World.block_lt_of_cell? X _ HBW.out
     have hlt:=World.block_lt_of_cell? X _ HBT.out
     refine wpIn_wide.2 (wp_region_noPanic ?_)
     refine wp_region_held_drew (S:=fun w'=>Below X.heap.size X w') (by kernel_rfl) (mx_drew X) (fun hS=>?_)
     refine takeF 0 93 (fun wq hSw=>(hSw.cell (p:=⟨w.heap.size,0,none⟩) hlb).trans HBW.out) ?_
     refine takeF 1 94 (fun wq hSw=>(hSw.cell (p:=⟨w6.heap.size,0,none⟩) hlt).trans HBT.out) ?_
     refine takeE 2 95 ?_
     refine takeF 3 96 (fun wq hSw=>(hSw.cell (p:=⟨gv,0,none⟩) (World.block_lt_of_cell? X _ HV0.out)).trans HV0.out) ?_
     obtain⟨q2,hq2⟩: ∃q,T.tru a=q:=⟨_,rfl⟩
     have HQ2:=Lib.hid hq2
     clear hq2
     refine ready1 4 (fun KK hKK=>?_)
     go_simp
     have hcc:=wa_true b tb T a _ (HSX.out.tr.below hS) ((hS.cell (p:=⟨b,1,none⟩) (World.block_lt_of_cell? X _ HSX.out.c1)).trans HSX.out.c1)
     rw[HQ2.out]at hcc
     refine hcc.mono ?_
     rintro e Y ⟨rfl,hbY⟩
     clear hcc
     have hS2:=hS.trans (hbY.mono hS.size)
     refine hKK.out _ _ hS2 (fun _=>?_)
     clear hKK hS hbY
     have hS:=hS2
     clear hS2
     cases q2 with
     | true=>
      refine takeE 5 98 ?_
      refine takeU 6 99 ?_
      refine takeU 7 100 ?_
      refine takeU 8 101 ?_
      refine takeU 9 102 ?_
      refine takeU 10 103 ?_
      refine takeU 11 104 ?_
      refine takeU 12 105 ?_
      refine takeU 13 106 ?_
      refine takeU 14 107 ?_
      refine takeU 15 108 ?_
      refine takeU 16 109 ?_
      refine takeE 17 110 ?_
      refine takeE 18 92 ?_
      refine wpAnyH_done (by kernel_rfl) ?_ _
      refine NoPanic.normal ?_
      have HNZ:=Lib.hid (HN.out.after hS)
      have HBWZ:=Lib.hid ((hS.cell (p:=⟨w.heap.size,0,none⟩) hlb).trans HBW.out)
      have HBTZ:=Lib.hid ((hS.cell (p:=⟨w6.heap.size,0,none⟩) hlt).trans HBT.out)
      have HDDZ:=Lib.hid ((hS.block D (heap_lt HDD.out)).trans HDD.out)
      have HVZ0:=Lib.hid ((hS.cell (p:=⟨gv,0,none⟩) (World.block_lt_of_cell? X _ HV0.out)).trans HV0.out)
      clear HN HBW HBT HDD HSX hlb hlt HV0
      clear hS
      have HN:=HNZ
      have HBW:=HBWZ
      have HBT:=HBTZ
      have HDD:=HDDZ
      have HV0:=HVZ0
      clear HNZ HBWZ HBTZ HDDZ HVZ0
      have HE:=Lib.hid (show addOk T S id c=⟨1,0,T,SX⟩from HEX.out 1 (by simp[addKind,HQ1.out,HQ2.out]) (by decide))
      gi_wp2_with fail
      refine⟨by simp,.inl ⟨_,_,rfl,run_takeDeferred HDD.out,?_⟩⟩
      refine⟨.tuple #[.int .u8 1,.int .i64 0],by simp[results,Tryz.results52,go_sem],by rw[HE.out];rfl,?_⟩
      rw[HE.out]
      exact HN.out.dead (dead_def HDD.out rfl rfl) HDW.out (putObj_kept _ _ _)
     | false=>
      refine takeE 5 98 ?_
      refine takeF 6 99 (fun wq hSw=>(hSw.cell (p:=⟨w6.heap.size,0,none⟩) hlt).trans HBT.out) ?_
      refine takeE 7 100 ?_
      refine takeE 8 101 ?_
      refine takeE 9 102 ?_
      refine takeU 10 103 ?_
      refine takeU 11 104 ?_
      refine takeU 12 105 ?_
      refine takeU 13 106 ?_
      refine takeU 14 107 ?_
      refine takeU 15 108 ?_
      refine takeE 16 109 ?_
      refine takeE 17 110 ?_
      refine takeE 18 92 ?_
      refine wpAnyH_done (by kernel_rfl) ?_ _
      refine NoPanic.normal ?_
      have HNZ:=Lib.hid (HN.out.after hS)
      have HBWZ:=Lib.hid ((hS.cell (p:=⟨w.heap.size,0,none⟩) hlb).trans HBW.out)
      have HBTZ:=Lib.hid ((hS.cell (p:=⟨w6.heap.size,0,none⟩) hlt).trans HBT.out)
      have HDDZ:=Lib.hid ((hS.block D (heap_lt HDD.out)).trans HDD.out)
      have HVZ0:=Lib.hid ((hS.cell (p:=⟨gv,0,none⟩) (World.block_lt_of_cell? X _ HV0.out)).trans HV0.out)
      clear HN HBW HBT HDD HSX hlb hlt HV0
      clear hS
      have HN:=HNZ
      have HBW:=HBWZ
      have HBT:=HBTZ
      have HDD:=HDDZ
      have HV0:=HVZ0
      clear HNZ HBWZ HBTZ HDDZ HVZ0
      gi_wp2_with fail
      obtain⟨X,hXY⟩: ∃X,X=Y:=⟨_,rfl⟩
      subst hXY
      obtain⟨labX,hsx,hlx⟩:=HN.out
      have HSX:=Lib.hid hsx
      clear hsx hlx
      have hlb:=World.block_lt_of_cell? X _ HBW.out
      have hlt:=World.block_lt_of_cell? X _ HBT.out
      refine wpIn_wide.2 (wp_region_noPanic ?_)
      refine wp_region_sink_at (fun w'=>Below X.heap.size X w') (by kernel_rfl) (by rfl) (by kernel_rfl) (mx_drew X) (fun hS=>?_)
      refine takeF 0 111 (fun wq hSw=>(hSw.cell (p:=⟨w.heap.size,0,none⟩) hlb).trans HBW.out) ?_
      refine takeF 1 112 (fun wq hSw=>(hSw.cell (p:=⟨w6.heap.size,0,none⟩) hlt).trans HBT.out) ?_
      refine takeE 2 113 ?_
      refine takeF 3 114 (fun wq hSw=>(hSw.cell (p:=⟨gv,0,none⟩) (World.block_lt_of_cell? X _ HV0.out)).trans HV0.out) ?_
      refine takeE 4 115 ?_
      refine wpAnyH_done (by kernel_rfl) ?_ _
      refine lastPost_normal ?_
      have HNY:=Lib.hid (HN.out.after hS)
      have HDY:=Lib.hid ((hS.block D (heap_lt HDD.out)).trans HDD.out)
      obtain⟨labY,hsy,hly⟩:=HNY.out
      have hcc:=wa_assign b ab tb A T SX a id _ labY hsy hno
      refine wpOp_step rfl (fun KK hKK=>?_)
      go_simp
      refine hcc.mono ?_
      rintro e Z ⟨rfl,hnz,hkz⟩
      refine hKK _ _ ?_
      clear hKK hcc
      refine NoPanic.normal ?_
      have HN2:=Lib.hid (SysNext.trans hly hnz)
      have HE:=Lib.hid (show addOk T S id c=⟨2,0,T.assigned a id,SX⟩from HEA.out (by simp[addKind,HQ1.out,HQ2.out]))
      have HDZ:=Lib.hid (show Z.heap[D]? =some (.deferred (some []))from hkz _ _ HDY.out rfl rfl)
      clear hS hsy hly hnz hkz
      gi_wp2_with fail
      refine⟨by simp,.inl ⟨_,_,rfl,run_takeDeferred HDZ.out,?_⟩⟩
      refine⟨.tuple #[.int .u8 2,.int .i64 0],by simp[results,Tryz.results52,go_sem],by rw[HE.out];rfl,?_⟩
      rw[HE.out]
      exact HN2.out.dead (dead_def HDZ.out rfl rfl) HDW.out (putObj_kept _ _ _)
   ·
    obtain⟨gv,kv',hv,_,hc0⟩:=own_get HROW.out (j:=0) (x:=a) rfl
    simp only[Value.slice.injEq]at hv
    obtain⟨rfl,_,rfl⟩:=hv
    clear hc0 h2
    have hz34:=heap_lt HN4.out
    have hz02:=HA2.out.size
    have hfn:=(first_perm T el)
    have hnd:(T.first el).Nodup:=hfn.nodup_iff.2 (by rw[←HEL.out];exact eachL_nodup c)
    have hpre: [a,a2] <+: T.first el:=by
     have:=List.take_prefix 2 (T.first el)
     rwa [HTWO.out,←hys2]at this
    have hnd2: [a,a2].Nodup:=hnd.sublist hpre.sublist
    have hab:a≠a2:=by simpa using hnd2
    have hma:a∈el:=hfn.mem_iff.1 (hpre.subset (by simp))
    have hma2:a2∈el:=hfn.mem_iff.1 (hpre.subset (by simp))
    have hcl2: ∀l∈el,litB l=true:=(HBN5.out.kl (id,⟨[],el⟩) (putA_mem.2 (.inl rfl))).2.2
    have hel2:el.length≤4096:=(HBN5.out.kl (id,⟨[],el⟩) (putA_mem.2 (.inl rfl))).2.1
    have hwt:=watch_two HBN.out hL HKS.out hid ⟨hel2,hcl2⟩ hab hma hma2
    have HBD0:=Lib.hid hwt.1
    have HBD1:=Lib.hid hwt.2.2.1
    have HBDX:=Lib.hid hwt.2.2.2.2.1
    have HLL0:=Lib.hid (hcl2 a hma)
    have HLL1:=Lib.hid (hcl2 a2 hma2)
    clear hfn hnd hpre hnd2 hma hma2 hcl2 hel2 hwt hab
    obtain⟨V,hV⟩: ∃V,w8.setCell ⟨w6.heap.size,0,none⟩ (.slice (some ⟨gv,0,none⟩) 2 kv)=V:=⟨_,rfl⟩
    have hkV:Kept (fun g=>g=w6.heap.size) w8 V:=by rw[←hV];exact Kept.setCell (Kept.refl (fun g=>g=w6.heap.size) w8) _ _ rfl
    have hVz:V.heap.size=w8.heap.size:=by rw[←hV];simp[World.setCell]
    have hVb:V.heap[w6.heap.size]? =some (.cells #[.slice (some ⟨gv,0,none⟩) 2 kv] 33 (0,0)):=by rw[←hV];exact mx_set HN8.out _
    have hmV:=(HWM.out.kept (O':=fun _=>False) (Kept.of_below HB58.out) (fun _ _ h=>h)).kept hkV (fun g hg e=>by
     rcases hg with h|h
     ·have:=HS2.out.lt g (by rw[h];decide)
      omega
     ·omega)
    have hxV:=hmV.kn _ (getA_some HX5.out)
    obtain⟨W10,hW10⟩: ∃Z,W.setCell ⟨w3.heap.size,0,none⟩ (.slice (some ⟨gv,0,none⟩) 2 kv)=Z:=⟨_,rfl⟩
    have hxW:W.heap[w3.heap.size]? =some (.cells #[.slice none 0 0,.slice Al m cl] 171 (0,0)):=(HKW.out.block _ (by omega) (by omega)).trans ((HB58.out.block _ (heap_lt (HWM.out.kn _ (getA_some HX5.out)).block)).trans (HWM.out.kn _ (getA_some HX5.out)).block)
    have hk10:Kept (fun g=>g=w3.heap.size) W W10:=by rw[←hW10];exact Kept.setCell (Kept.refl (fun g=>g=w3.heap.size) W) _ _ rfl
    have hb10:W10.heap[w3.heap.size]? =some (.cells #[.slice (some ⟨gv,0,none⟩) 2 kv,.slice Al m cl] 171 (0,0)):=by rw[←hW10];exact mx_set hxW _
    have hkV10:Kept (fun g=>g=w3.heap.size) V W10:=by
     have h1:=HKW.out
     refine⟨hk10.os.trans (h1.os.trans hkV.os.symm),hk10.tape.trans (h1.tape.trans hkV.tape.symm),hk10.output.trans (h1.output.trans hkV.output.symm),by rw[hVz];exact Nat.le_trans h1.size hk10.size,fun g hg hn=>?_⟩
     rw[hVz]at hg
     rw[hk10.block g (Nat.lt_of_lt_of_le hg h1.size) hn]
     by_cases hgb:g=w6.heap.size
     ·rw[hgb]
      exact HB1W.out.trans hVb.symm
     ·rw[h1.block g hg hgb,hkV.block g hg hgb]
    have hr10:W10.ownsRow w8.heap.size 32 1 (.slice (some ⟨gv,0,none⟩) 2 kv) 2 [.int .i64 a,.int .i64 a2]:=own_kept HROW.out hk10 (fun g hg e=>mx_not HROW.out hxW (by decide) (e▸hg))
    obtain⟨tg10,hm10⟩:=hmV.setBy HX5.out (r':= [a,a2]) hkV10 hb10 (own_mono hr10 (Nat.zero_le _)) (fun g hg=>by
     have:=(own_lt hr10 g hg).1
     omega)
    obtain⟨K10,hK10⟩: ∃K10,putA (putA K id ⟨w3.heap.size,.slice none 0 0,.slice Al m cl,⟨[],el⟩⟩) id ⟨w3.heap.size,.slice (some ⟨gv,0,none⟩) 2 kv,.slice Al m cl,⟨[a,a2],el⟩⟩=K10:=⟨_,rfl⟩
    have hS10:(⟨putA (S.set id ⟨[],el⟩).known id ⟨[a,a2],el⟩,(S.set id ⟨[],el⟩).of,(S.set id ⟨[],el⟩).looked⟩:Wst)=S.set id ⟨[a,a2],el⟩:=by
     unfold Wst.set
     simp only[putA_putA]
    have hAC:AddC w w2 W10 lab b ab tb (S.set id ⟨[a,a2],el⟩) kb ob K10 w6.heap.size D gv kv a a2:=by
     refine⟨⟨F,tg10,?_⟩,?_,?_,?_,own_mono hr10 (Nat.zero_le _),?_⟩
     ·rw[←hS10,←hK10]
      refine WaMem.widen hm10 (fun g hg=>?_) (fun g hg=>?_)
      ·rcases hg with(h|h)|h
       ·exact .inl h
       ·exact .inr ⟨h.1,by have:=hk10.size;have:=HKW.out.size;omega⟩
       ·exact .inr ⟨by omega,h.2⟩
      ·rcases hg with h|h
       ·have h1:=HS2.out.lt g (by rw[h];decide)
        have:=hk10.size
        have:=HKW.out.size
        omega
       ·exact h.2
     ·refine((((HK25.out.mono (O':=fun g=>lab g=3) (fun g _ e=>e▸HM0.out.ink)).trans (Kept.of_below (O:=fun _=>False) HB58.out) (fun _ _ h=>h.elim)).trans HKW.out (fun g hg e=>?_)).trans hk10 (fun g hg e=>?_))
      ·omega
      ·omega
     ·refine(hk10.block _ ?_ (by omega)).trans ((HKW.out.block _ (by omega) (by omega)).trans ((HB58.out.block _ (heap_lt HP5.out)).trans HP5.out))
      have:=HKW.out.size
      omega
     ·exact(hk10.block _ (by have:=HKW.out.size;omega) (by omega)).trans HB1W.out
     ·exact(hk10.block _ (heap_lt HDF.out) (by omega)).trans HDF.out
    have AC0:=Lib.hid hAC
    have HWX:=Lib.hid hW10
    have c9:=mx_cell (j:=0) hxW
    have f9:=mx_free (j:=0) hxW
    have hq0:=HBTW.out
    clear hz34 hz02 hV hkV hVz hVb hmV hxV hxW hk10 hb10 hkV10 hr10 hm10 hK10 hS10 hAC hW10 HN58 HBWW HDF HROW HB1W HKW
    simp only[List.length_cons,List.length_nil]at hq0 HBTW
    gi_wp2_with fail
    rw[HWX.out]
    clear c9 f9 hq0 HBTW
    have hlb:=heap_lt AC0.out.bw
    have hlt:=heap_lt AC0.out.bt
    have hlg:=(own_lt AC0.out.row gv rfl).2
    refine wpIn_wide.2 (wp_region_noPanic ?_)
    refine wp_region_sink_at (fun w'=>Below W10.heap.size W10 w') (by kernel_rfl) (by rfl) (by kernel_rfl) (mx_drew W10) (fun hS=>?_)
    refine takeF 0 69 (fun wq hSw=>(hSw.cell (p:=⟨w.heap.size,0,none⟩) hlb).trans (mx_cell (j:=0) AC0.out.bw)) ?_
    refine takeF 1 70 (fun wq hSw=>(hSw.cell (p:=⟨w6.heap.size,0,none⟩) hlt).trans (mx_cell (j:=0) AC0.out.bt)) ?_
    refine takeE 2 71 ?_
    refine takeF 3 72 (fun wq hSw=>(hSw.cell (p:=⟨gv,0,none⟩) hlg).trans (mx_at AC0.out.row (j:=0) rfl)) ?_
    refine takeE 4 73 ?_
    refine wpAnyH_done (by kernel_rfl) ?_ _
    refine lastPost_normal ?_
    have hcc:=AC0.out.put HBD0.out (l:=a) (id:=id) HLL0.out hid hS
    refine wpOp_step rfl (fun KK hKK=>?_)
    go_simp
    refine hcc.mono ?_
    rintro e W11 ⟨rfl,hac⟩
    refine hKK _ _ ?_
    clear hKK hcc
    refine NoPanic.normal ?_
    have AC1:=Lib.hid hac
    clear hS hac hlb hlt hlg AC0
    gi_wp2_with fail
    have hlb:=heap_lt AC1.out.bw
    have hlt:=heap_lt AC1.out.bt
    have hlg:=(own_lt AC1.out.row gv rfl).2
    refine wpIn_wide.2 (wp_region_noPanic ?_)
    refine wp_region_sink_at (fun w'=>Below W11.heap.size W11 w') (by kernel_rfl) (by rfl) (by kernel_rfl) (mx_drew W11) (fun hS=>?_)
    refine takeF 0 75 (fun wq hSw=>(hSw.cell (p:=⟨w.heap.size,0,none⟩) hlb).trans (mx_cell (j:=0) AC1.out.bw)) ?_
    refine takeF 1 76 (fun wq hSw=>(hSw.cell (p:=⟨w6.heap.size,0,none⟩) hlt).trans (mx_cell (j:=0) AC1.out.bt)) ?_
    refine takeE 2 77 ?_
    refine takeF 3 78 (fun wq hSw=>(hSw.cell (p:=⟨gv,1,none⟩) hlg).trans (mx_at AC1.out.row (j:=1) rfl)) ?_
    refine takeE 4 79 ?_
    refine wpAnyH_done (by kernel_rfl) ?_ _
    refine lastPost_normal ?_
    have hcc:=AC1.out.put HBD1.out (l:=a2) (id:=id) HLL1.out hid hS
    refine wpOp_step rfl (fun KK hKK=>?_)
    go_simp
    refine hcc.mono ?_
    rintro e W12 ⟨rfl,hac⟩
    refine hKK _ _ ?_
    clear hKK hcc
    refine NoPanic.normal ?_
    have AC2:=Lib.hid hac
    clear hS hac hlb hlt hlg AC1
    obtain⟨SX,hSX⟩: ∃z,S.addBy id el [a,a2]=z:=⟨_,rfl⟩
    have HN:=Lib.hid ((AC2.out.next HBDX.out HS2.out).before HB2.out)
    rw[show((S.set id ⟨[a,a2],el⟩).put a id).put a2 id=S.addBy id el [a,a2]from rfl,hSX]at HN
    rw[hSX]at HEX HEA
    have HBW:=Lib.hid (mx_cell (j:=0) AC2.out.bw)
    have HBT:=Lib.hid (mx_cell (j:=0) AC2.out.bt)
    have HV0:=Lib.hid (mx_at AC2.out.row (j:=0) rfl)
    have HV1:=Lib.hid (mx_at AC2.out.row (j:=1) rfl)
    have HDD:=Lib.hid AC2.out.df
    obtain⟨X,hX⟩: ∃X,W12=X:=⟨_,rfl⟩
    rw[hX]at HN HBW HBT HV0 HV1 HDD⊢
    clear hX hSX AC2
    gi_wp2_with fail
    obtain⟨labX,hsx,hlx⟩:=HN.out
    have HSX:=Lib.hid hsx
    clear hsx hlx
    have hlb:=World.block_lt_of_cell? X _ HBW.out
    have hlt:=World.block_lt_of_cell? X _ HBT.out
    refine wpIn_wide.2 (wp_region_noPanic ?_)
    refine wp_region_held_drew (S:=fun w'=>Below X.heap.size X w') (by kernel_rfl) (mx_drew X) (fun hS=>?_)
    refine takeF 0 82 (fun wq hSw=>(hSw.cell (p:=⟨w6.heap.size,0,none⟩) hlt).trans HBT.out) ?_
    refine takeE 1 83 ?_
    refine takeE 2 84 ?_
    refine takeE 3 85 ?_
    refine takeF 4 86 (fun wq hSw=>(hSw.cell (p:=⟨w.heap.size,0,none⟩) hlb).trans HBW.out) ?_
    refine takeF 5 87 (fun wq hSw=>(hSw.cell (p:=⟨w6.heap.size,0,none⟩) hlt).trans HBT.out) ?_
    refine takeE 6 88 ?_
    refine takeF 7 89 (fun wq hSw=>(hSw.cell (p:=⟨gv,0,none⟩) (World.block_lt_of_cell? X _ HV0.out)).trans HV0.out) ?_
    obtain⟨q1,hq1⟩: ∃q,T.fal a=q:=⟨_,rfl⟩
    have HQ1:=Lib.hid hq1
    clear hq1
    refine ready1 8 (fun KK hKK=>?_)
    go_simp
    have hcc:=wa_false b tb T a _ (HSX.out.tr.below hS) ((hS.cell (p:=⟨b,1,none⟩) (World.block_lt_of_cell? X _ HSX.out.c1)).trans HSX.out.c1)
    rw[HQ1.out]at hcc
    refine hcc.mono ?_
    rintro e Y ⟨rfl,hbY⟩
    clear hcc
    have hS2:=hS.trans (hbY.mono hS.size)
    refine hKK.out _ _ hS2 (fun _=>?_)
    clear hKK hS hbY
    have hS:=hS2
    clear hS2
    refine takeE 9 91 ?_
    refine takeE 10 81 ?_
    refine wpAnyH_done (by kernel_rfl) ?_ _
    refine NoPanic.normal ?_
    have HNZ:=Lib.hid (HN.out.after hS)
    have HBWZ:=Lib.hid ((hS.cell (p:=⟨w.heap.size,0,none⟩) hlb).trans HBW.out)
    have HBTZ:=Lib.hid ((hS.cell (p:=⟨w6.heap.size,0,none⟩) hlt).trans HBT.out)
    have HDDZ:=Lib.hid ((hS.block D (heap_lt HDD.out)).trans HDD.out)
    have HVZ0:=Lib.hid ((hS.cell (p:=⟨gv,0,none⟩) (World.block_lt_of_cell? X _ HV0.out)).trans HV0.out)
    have HVZ1:=Lib.hid ((hS.cell (p:=⟨gv,1,none⟩) (World.block_lt_of_cell? X _ HV1.out)).trans HV1.out)
    clear HN HBW HBT HDD HSX hlb hlt HV0 HV1
    clear hS
    have HN:=HNZ
    have HBW:=HBWZ
    have HBT:=HBTZ
    have HDD:=HDDZ
    have HV0:=HVZ0
    have HV1:=HVZ1
    clear HNZ HBWZ HBTZ HDDZ HVZ0 HVZ1
    cases q1 with
    | true=>
     have HE:=Lib.hid (show addOk T S id c=⟨3,0,T,SX⟩from HEX.out 3 (by simp[addKind,HQ1.out]) (by decide))
     gi_wp2_with fail
     refine⟨by simp,.inl ⟨_,_,rfl,run_takeDeferred HDD.out,?_⟩⟩
     refine⟨.tuple #[.int .u8 3,.int .i64 0],by simp[results,Tryz.results52,go_sem],by rw[HE.out];rfl,?_⟩
     rw[HE.out]
     exact HN.out.dead (dead_def HDD.out rfl rfl) HDW.out (putObj_kept _ _ _)
    | false=>
     gi_wp2_with fail
     obtain⟨X,hXY⟩: ∃X,X=Y:=⟨_,rfl⟩
     subst hXY
     obtain⟨labX,hsx,hlx⟩:=HN.out
     have HSX:=Lib.hid hsx
     clear hsx hlx
     have hlb:=World.block_lt_of_cell? X _ HBW.out
     have hlt:=World.block_lt_of_cell? X _ HBT.out
     refine wpIn_wide.2 (wp_region_noPanic ?_)
     refine wp_region_held_drew (S:=fun w'=>Below X.heap.size X w') (by kernel_rfl) (mx_drew X) (fun hS=>?_)
     refine takeF 0 93 (fun wq hSw=>(hSw.cell (p:=⟨w.heap.size,0,none⟩) hlb).trans HBW.out) ?_
     refine takeF 1 94 (fun wq hSw=>(hSw.cell (p:=⟨w6.heap.size,0,none⟩) hlt).trans HBT.out) ?_
     refine takeE 2 95 ?_
     refine takeF 3 96 (fun wq hSw=>(hSw.cell (p:=⟨gv,0,none⟩) (World.block_lt_of_cell? X _ HV0.out)).trans HV0.out) ?_
     obtain⟨q2,hq2⟩: ∃q,T.tru a=q:=⟨_,rfl⟩
     have HQ2:=Lib.hid hq2
     clear hq2
     refine ready1 4 (fun KK hKK=>?_)
     go_simp
     have hcc:=wa_true b tb T a _ (HSX.out.tr.below hS) ((hS.cell (p:=⟨b,1,none⟩) (World.block_lt_of_cell? X _ HSX.out.c1)).trans HSX.out.c1)
     rw[HQ2.out]at hcc
     refine hcc.mono ?_
     rintro e Y ⟨rfl,hbY⟩
     clear hcc
     have hS2:=hS.trans (hbY.mono hS.size)
     refine hKK.out _ _ hS2 (fun _=>?_)
     clear hKK hS hbY
     have hS:=hS2
     clear hS2
     cases q2 with
     | true=>
      refine takeE 5 98 ?_
      refine takeU 6 99 ?_
      refine takeU 7 100 ?_
      refine takeU 8 101 ?_
      refine takeU 9 102 ?_
      refine takeU 10 103 ?_
      refine takeU 11 104 ?_
      refine takeU 12 105 ?_
      refine takeU 13 106 ?_
      refine takeU 14 107 ?_
      refine takeU 15 108 ?_
      refine takeU 16 109 ?_
      refine takeE 17 110 ?_
      refine takeE 18 92 ?_
      refine wpAnyH_done (by kernel_rfl) ?_ _
      refine NoPanic.normal ?_
      have HNZ:=Lib.hid (HN.out.after hS)
      have HBWZ:=Lib.hid ((hS.cell (p:=⟨w.heap.size,0,none⟩) hlb).trans HBW.out)
      have HBTZ:=Lib.hid ((hS.cell (p:=⟨w6.heap.size,0,none⟩) hlt).trans HBT.out)
      have HDDZ:=Lib.hid ((hS.block D (heap_lt HDD.out)).trans HDD.out)
      have HVZ0:=Lib.hid ((hS.cell (p:=⟨gv,0,none⟩) (World.block_lt_of_cell? X _ HV0.out)).trans HV0.out)
      have HVZ1:=Lib.hid ((hS.cell (p:=⟨gv,1,none⟩) (World.block_lt_of_cell? X _ HV1.out)).trans HV1.out)
      clear HN HBW HBT HDD HSX hlb hlt HV0 HV1
      clear hS
      have HN:=HNZ
      have HBW:=HBWZ
      have HBT:=HBTZ
      have HDD:=HDDZ
      have HV0:=HVZ0
      have HV1:=HVZ1
      clear HNZ HBWZ HBTZ HDDZ HVZ0 HVZ1
      have HE:=Lib.hid (show addOk T S id c=⟨1,0,T,SX⟩from HEX.out 1 (by simp[addKind,HQ1.out,HQ2.out]) (by decide))
      gi_wp2_with fail
      refine⟨by simp,.inl ⟨_,_,rfl,run_takeDeferred HDD.out,?_⟩⟩
      refine⟨.tuple #[.int .u8 1,.int .i64 0],by simp[results,Tryz.results52,go_sem],by rw[HE.out];rfl,?_⟩
      rw[HE.out]
      exact HN.out.dead (dead_def HDD.out rfl rfl) HDW.out (putObj_kept _ _ _)
     | false=>
      refine takeE 5 98 ?_
      refine takeF 6 99 (fun wq hSw=>(hSw.cell (p:=⟨w6.heap.size,0,none⟩) hlt).trans HBT.out) ?_
      refine takeE 7 100 ?_
      refine takeE 8 101 ?_
      refine takeE 9 102 ?_
      refine takeF 10 103 (fun wq hSw=>(hSw.cell (p:=⟨w.heap.size,0,none⟩) hlb).trans HBW.out) ?_
      refine takeF 11 104 (fun wq hSw=>(hSw.cell (p:=⟨w6.heap.size,0,none⟩) hlt).trans HBT.out) ?_
      refine takeE 12 105 ?_
      refine takeF 13 106 (fun wq hSw=>(hSw.cell (p:=⟨gv,1,none⟩) (World.block_lt_of_cell? X _ HV1.out)).trans HV1.out) ?_
      obtain⟨q3,hq3⟩: ∃q,T.fal a2=q:=⟨_,rfl⟩
      have HQ3:=Lib.hid hq3
      clear hq3
      refine ready1 14 (fun KK hKK=>?_)
      go_simp
      have hcc:=wa_false b tb T a2 _ (HSX.out.tr.below hS) ((hS.cell (p:=⟨b,1,none⟩) (World.block_lt_of_cell? X _ HSX.out.c1)).trans HSX.out.c1)
      rw[HQ3.out]at hcc
      refine hcc.mono ?_
      rintro e Y2 ⟨rfl,hbY⟩
      clear hcc
      have hS2:=hS.trans (hbY.mono hS.size)
      refine hKK.out _ _ hS2 (fun _=>?_)
      clear hKK hS hbY
      have hS:=hS2
      clear hS2
      cases q3 with
      | false=>
       refine takeE 15 108 ?_
       refine takeE 16 109 ?_
       refine takeE 17 110 ?_
       refine takeE 18 92 ?_
       refine wpAnyH_done (by kernel_rfl) ?_ _
       refine NoPanic.normal ?_
       have HNZ:=Lib.hid (HN.out.after hS)
       have HBWZ:=Lib.hid ((hS.cell (p:=⟨w.heap.size,0,none⟩) hlb).trans HBW.out)
       have HBTZ:=Lib.hid ((hS.cell (p:=⟨w6.heap.size,0,none⟩) hlt).trans HBT.out)
       have HDDZ:=Lib.hid ((hS.block D (heap_lt HDD.out)).trans HDD.out)
       have HVZ0:=Lib.hid ((hS.cell (p:=⟨gv,0,none⟩) (World.block_lt_of_cell? X _ HV0.out)).trans HV0.out)
       have HVZ1:=Lib.hid ((hS.cell (p:=⟨gv,1,none⟩) (World.block_lt_of_cell? X _ HV1.out)).trans HV1.out)
       clear HN HBW HBT HDD HSX hlb hlt HV0 HV1
       clear hS
       have HN:=HNZ
       have HBW:=HBWZ
       have HBT:=HBTZ
       have HDD:=HDDZ
       have HV0:=HVZ0
       have HV1:=HVZ1
       clear HNZ HBWZ HBTZ HDDZ HVZ0 HVZ1
       have HE:=Lib.hid (show addOk T S id c=⟨1,0,T,SX⟩from HEX.out 1 (by simp[addKind,HQ1.out,HQ2.out,HQ3.out]) (by decide))
       gi_wp2_with fail
       refine⟨by simp,.inl ⟨_,_,rfl,run_takeDeferred HDD.out,?_⟩⟩
       refine⟨.tuple #[.int .u8 1,.int .i64 0],by simp[results,Tryz.results52,go_sem],by rw[HE.out];rfl,?_⟩
       rw[HE.out]
       exact HN.out.dead (dead_def HDD.out rfl rfl) HDW.out (putObj_kept _ _ _)
      | true=>
       refine takeE 15 108 ?_
       refine takeE 16 109 ?_
       refine takeE 17 110 ?_
       refine takeE 18 92 ?_
       refine wpAnyH_done (by kernel_rfl) ?_ _
       refine NoPanic.normal ?_
       have HNZ:=Lib.hid (HN.out.after hS)
       have HBWZ:=Lib.hid ((hS.cell (p:=⟨w.heap.size,0,none⟩) hlb).trans HBW.out)
       have HBTZ:=Lib.hid ((hS.cell (p:=⟨w6.heap.size,0,none⟩) hlt).trans HBT.out)
       have HDDZ:=Lib.hid ((hS.block D (heap_lt HDD.out)).trans HDD.out)
       have HVZ0:=Lib.hid ((hS.cell (p:=⟨gv,0,none⟩) (World.block_lt_of_cell? X _ HV0.out)).trans HV0.out)
       have HVZ1:=Lib.hid ((hS.cell (p:=⟨gv,1,none⟩) (World.block_lt_of_cell? X _ HV1.out)).trans HV1.out)
       clear HN HBW HBT HDD HSX hlb hlt HV0 HV1
       clear hS
       have HN:=HNZ
       have HBW:=HBWZ
       have HBT:=HBTZ
       have HDD:=HDDZ
       have HV0:=HVZ0
       have HV1:=HVZ1
       clear HNZ HBWZ HBTZ HDDZ HVZ0 HVZ1
       gi_wp2_with fail
       obtain⟨X,hXY⟩: ∃X,X=Y2:=⟨_,rfl⟩
       subst hXY
       obtain⟨labX,hsx,hlx⟩:=HN.out
       have HSX:=Lib.hid hsx
       clear hsx hlx
       have hlb:=World.block_lt_of_cell? X _ HBW.out
       have hlt:=World.block_lt_of_cell? X _ HBT.out
       refine wpIn_wide.2 (wp_region_noPanic ?_)
       refine wp_region_sink_at (fun w'=>Below X.heap.size X w') (by kernel_rfl) (by rfl) (by kernel_rfl) (mx_drew X) (fun hS=>?_)
       refine takeF 0 111 (fun wq hSw=>(hSw.cell (p:=⟨w.heap.size,0,none⟩) hlb).trans HBW.out) ?_
       refine takeF 1 112 (fun wq hSw=>(hSw.cell (p:=⟨w6.heap.size,0,none⟩) hlt).trans HBT.out) ?_
       refine takeE 2 113 ?_
       refine takeF 3 114 (fun wq hSw=>(hSw.cell (p:=⟨gv,0,none⟩) (World.block_lt_of_cell? X _ HV0.out)).trans HV0.out) ?_
       refine takeE 4 115 ?_
       refine wpAnyH_done (by kernel_rfl) ?_ _
       refine lastPost_normal ?_
       have HNY:=Lib.hid (HN.out.after hS)
       have HDY:=Lib.hid ((hS.block D (heap_lt HDD.out)).trans HDD.out)
       obtain⟨labY,hsy,hly⟩:=HNY.out
       have hcc:=wa_assign b ab tb A T SX a id _ labY hsy hno
       refine wpOp_step rfl (fun KK hKK=>?_)
       go_simp
       refine hcc.mono ?_
       rintro e Z ⟨rfl,hnz,hkz⟩
       refine hKK _ _ ?_
       clear hKK hcc
       refine NoPanic.normal ?_
       have HN2:=Lib.hid (SysNext.trans hly hnz)
       have HE:=Lib.hid (show addOk T S id c=⟨2,0,T.assigned a id,SX⟩from HEA.out (by simp[addKind,HQ1.out,HQ2.out,HQ3.out]))
       have HDZ:=Lib.hid (show Z.heap[D]? =some (.deferred (some []))from hkz _ _ HDY.out rfl rfl)
       clear hS hsy hly hnz hkz
       gi_wp2_with fail
       refine⟨by simp,.inl ⟨_,_,rfl,run_takeDeferred HDZ.out,?_⟩⟩
       refine⟨.tuple #[.int .u8 2,.int .i64 0],by simp[results,Tryz.results52,go_sem],by rw[HE.out];rfl,?_⟩
       rw[HE.out]
       exact HN2.out.dead (dead_def HDZ.out rfl rfl) HDW.out (putObj_kept _ _ _)
   ·simp at hl2
end Go.Proofs.YtoojmhjagipmdaaGreat
