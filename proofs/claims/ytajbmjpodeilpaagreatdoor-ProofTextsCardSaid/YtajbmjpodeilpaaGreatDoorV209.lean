/- package clauses: Always, Norm. Maps of package rup: at the type values; keys that are literals. package rup: look. slices.Clone at clauses. -/
import Derived.Test.YtajbmjpodeilpaaGreatDoorV208
import Derived.Test.YtajbmjpodeilpaaGreatDoorV200
import Derived.Test.YtajbmjpodeilpaaGreatDoorV203
import Derived.Test.YtajbmjpodeilpaaGreatDoorV202
namespace Go.Proofs.YtajbmjpodeilpaaGreatDoor
open Go.RowKit Go.Shelf Go.Sort
attribute [local go_sem] Oper.semAt_some
def lastG (l:Int):List Int→Int
 | []=>l
 | x::r=>lastG x r
theorem lastG_snoc (l x:Int) (a:List Int):lastG l (a++ [x])=x:=by
 induction a generalizing l with
 | nil=>rfl
 | cons y r ih=>exact ih y
theorem alwGo_snoc (l x:Int) (a:List Int):alwGo l (a++ [x])=(alwGo l a||(lastG l a != 0&&x==litN (lastG l a))):=by
 induction a generalizing l with
 | nil=>simp[alwGo,lastG]
 | cons y r ih=>
  simp only[List.cons_append,alwGo,lastG]
  rw[ih,Bool.or_assoc]
theorem alwGo_pre {l:Int} {a ys:List Int} (h:a <+: ys) (ha:alwGo l a=true):alwGo l ys=true:=by
 obtain⟨t,rfl⟩:=h
 induction a generalizing l with
 | nil=>cases ha
 | cons y r ih=>
  simp only[List.cons_append,alwGo,Bool.or_eq_true]at ha⊢
  exact ha.imp_right ih
theorem res_bool {fn:Func} (h:fn.results= #[.cell 2 4]) {w:World} {r:Nat} {b:Bool} (hb:Boxed w r 4 (.bool b)) (tmps:Array Value) (t2:tmps[2]?.getD undef= .pointer (some ⟨r,0,none⟩)):
  (results fn tmps).run Tryz.prog w= .ok (.bool b) w:=by
 have p0:=hb.cell
 simp[results,h,go_sem,t2,p0]
structure AI (w:World) (pre:List (Int×Nat)) (W:World):Prop where
 res:Boxed W w.heap.size 4 (.bool false)
 last:Boxed W (w.heap.size+1) 28 (.int .i64 (lastG 0 (pre.map Prod.fst)))
 below:Below w.heap.size w W
 no:alwGo 0 (pre.map Prod.fst)=false
structure AX (w:World) (pre:List (Int×Nat)) (W:World):Prop where
 res:Boxed W w.heap.size 4 (.bool true)
 below:Below w.heap.size w W
 yes:alwGo 0 (pre.map Prod.fst)=true
theorem boxed_grown {W W':World} {row:Option Nat} {B:Nat} {t:TypeId} {v:Value} (h:Boxed W B t v) (hg:W.grownBy W' row) (hr: ∀r,row=some r→∃o:Obj,W.heap[r]? =some o∧o.isCells=false):Boxed W' B t v:=
 h.kept hg (fun e=>by
  obtain⟨o,ho,hc⟩:=hr B e.symm
  rw[show W.heap[B]? =_ from h]at ho
  cases ho
  cases hc)
theorem ai_own (w:World) {N:Nat} (hN:w.heap.size≤N):OwnFrom N (AI w):=fun _ _ _ _ h hg hr=>
 ⟨boxed_grown h.res hg (fun r e=>(hr r e).2),boxed_grown h.last hg (fun r e=>(hr r e).2),h.below.grown hg h.below.size (fun k e=>Nat.le_trans hN (hr k e).1),h.no⟩
theorem ax_own (w:World) {N:Nat} (hN:w.heap.size≤N):OwnFrom N (AX w):=fun _ _ _ _ h hg hr=>
 ⟨boxed_grown h.res hg (fun r e=>(hr r e).2),h.below.grown hg h.below.size (fun k e=>Nat.le_trans hN (hr k e).1),h.yes⟩
theorem boxed_neq {W:World} {B B':Nat} {t:TypeId} {v u:Value} (h:Boxed W B t v) (hne:B≠B'):Boxed (W.setCell ⟨B',0,none⟩ u) B t v:=
 h.kept (grownBy_setCell' W B' u) (fun e=>hne (Option.some.inj e))
theorem spost_set {X0:Nat→Prop} {x:Int×Nat} (W:World) (B:Nat) (v:Value) (h:X0 B):SPost X0 x W (W.setCell ⟨B,0,none⟩ v):=
 (KpC.of_grown (grownBy_setCell' W B v)).mono (fun g _ e=>.inr (by cases e;exact h))
theorem keepsRec_set (W:World) (B:Nat) (v:Value):KeepsRec W (W.setCell ⟨B,0,none⟩ v):=keepsRec_others (KeepsOthers.setCell _ _ _)
set_option maxRecDepth 100000 in
set_option maxHeartbeats 4000000 in
theorem always_any {O:Nat→Prop} (u:Value) (xs:List Int) (w:World) (hu:IntsIn O w u xs) (hlen:xs.length≤1000000000000):
  Calls Tryz.prog 180 #[u] w fun e w'=>e= .returned (.bool (alwL xs))∧Below w.heap.size w w':=by
 obtain⟨W0,hW0⟩: ∃x,w.alloc (.cells #[.bool false] 4)=x:=⟨_,rfl⟩
 have hb0:Below w.heap.size w W0:=by rw[←hW0];exact mx_al _ _
 have hc0:Boxed W0 w.heap.size 4 (.bool false):=by rw[←hW0];exact Boxed.new _ _ _
 have hz0:W0.heap.size=w.heap.size+1:=by rw[←hW0];simp
 have HU0:=Lib.hid (hu.below hb0)
 have HRC:=Lib.hid (right_clause u xs W0 (hu.below hb0) (by omega))
 obtain⟨A,c,rfl,_⟩:=hu
 have HW0:=Lib.hid hW0
 have HB0:=Lib.hid hb0
 have HC0:=Lib.hid hc0
 obtain⟨res,hres⟩: ∃b,alwL xs=b:=⟨_,rfl⟩
 rw[hres]
 unfold alwL at hres
 obtain⟨q,hq⟩: ∃b,clauseB xs=b:=⟨_,rfl⟩
 rw[hq]at HRC hres
 clear hW0 hb0 hc0 hq
 refine(callsIn_wide (n:=10)).1 ?_
 refine callsIn_of_wp_marks Tryz.func180 rfl trivial ?_ rfl
 simp only[Tryz.ntmps180,List.size_toArray,List.length_cons,List.length_nil,Nat.reduceAdd,Nat.reduceSub,Array.replicate_succ,Array.replicate_zero,List.push_toArray,List.append_toArray,List.nil_append,List.cons_append]
 gi_wp2_with fail
 rw[HW0.out]
 refine⟨trivial,?_⟩
 refine(callsIn_wide.2 HRC.out).mono ?_
 rintro e W' ⟨rfl,rfl⟩
 have q1:=HC0.out.cell
 have q2:=HC0.out.frozen
 cases q with
 | false=>
  have HRS:=Lib.hid (show false=res from hres)
  clear hres
  gi_wp2
  exact⟨_,res_bool rfl (HC0.out.set _) _ rfl,by rw[HRS.out],HB0.out.setCell (p:=⟨w.heap.size,0,none⟩) (Nat.le_refl _) _⟩
 | true=>
  rw[Bool.true_and]at hres
  obtain⟨W1,hW1⟩: ∃x,W0.alloc (.cells #[.int .i64 0] 28)=x:=⟨_,rfl⟩
  have hb1:Below W0.heap.size W0 W1:=by rw[←hW1];exact mx_al _ _
  have hc1:Boxed W1 (w.heap.size+1) 28 (.int .i64 0):=by rw[←hW1,←hz0];exact Boxed.new _ _ _
  have hz1:W1.heap.size=w.heap.size+2:=by rw[←hW1];simp[hz0]
  have hc0':Boxed W1 w.heap.size 4 (.bool false):=by rw[←hW1];exact HC0.out.alloc _
  obtain⟨W1',hW1'⟩: ∃x,W1=x:=⟨_,rfl⟩
  have hc1':Boxed W1' (w.heap.size+1) 28 (.int .i64 0):=by rw[←hW1'];exact hc1
  have hc0'':Boxed W1' w.heap.size 4 (.bool false):=by rw[←hW1'];exact hc0'
  have hz1':W1'.heap.size=w.heap.size+2:=by rw[←hW1'];exact hz1
  have hb1':Below W0.heap.size W0 W1':=by rw[←hW1'];exact hb1
  obtain⟨W2,hW2⟩: ∃x,W1'.alloc (.cells #[.slice A xs.length c] 30)=x:=⟨_,rfl⟩
  have hb2:Below W1'.heap.size W1' W2:=by rw[←hW2];exact mx_al _ _
  have hc2:W2.cell? ⟨w.heap.size+2,0,none⟩=some (.slice A xs.length c):=by rw[←hW2,←hz1'];exact mx_cell (j:=0) (World.alloc_heap_new _ _)
  have hz2:W2.heap.size=w.heap.size+3:=by rw[←hW2];simp[hz1']
  have hbw:Below w.heap.size w W2:=HB0.out.trans ((hb1'.trans (hb2.mono (by omega))).mono (by omega))
  have HSEQ:=Lib.hid (sorted_stops (fun g=>g=w.heap.size∨g=w.heap.size+1) (w.heap.size+2) _ xs W2 hc2 ((HU0.out.below hb1').below hb2) hlen (fun g hg=>by omega))
  have HI0:=Lib.hid (show AI w [] W2 from⟨by rw[←hW2];exact hc0''.alloc _,by rw[←hW2];exact hc1'.alloc _,hbw,rfl⟩)
  obtain⟨ys,hys⟩: ∃y,normL xs=y:=⟨_,rfl⟩
  rw[hys]at HSEQ hres
  have HRS:=Lib.hid hres
  have HW1:=Lib.hid hW1
  have HW1':=Lib.hid hW1'
  have HW2:=Lib.hid hW2
  have r1:=hc1.cell
  have r2:=hc1.frozen
  clear hb1 hc1 hW1 hW2 hb2 hc2 hbw hys hc0' hc1' hc0'' hb1' hW1' hres q1 q2
  rw[←HW1.out]at r1 r2
  gi_wp2_with fail
  clear r1 r2
  rw[HW1.out]
  rw[HW1'.out]
  refine⟨trivial,?_⟩
  refine(callsIn_wide.2 (sorted_run A xs.length c W1')).mono ?_
  rintro e W' ⟨rfl,rfl⟩
  rw[HW2.out]
  gi_wp2_with fail
  refine wpIn_range_M (gf:=239) (lb:= #[.pointer (some ⟨w.heap.size+2,0,none⟩)]) rfl (enters_of Tryz.func239 (by kernel_rfl) rfl) HSEQ.out (Below.refl _ _) (fun _=>rfl)
   (fun pre x W W3 l r r' h1 h2 h3 h4=>SPost.turn h4 h3) (fun pre x W W3 l r r' h1 h2 h3 h4=>trivial)
   (AI w) (AX w) (ai_own _ (by omega)) (ax_own _ (by omega)) HI0.out
   ?frame (GMid (fun g=>g=w.heap.size∨g=w.heap.size+1) (AI w) ys (W2.heap.size+2))
   (fun pre x W Bx W' l r r' h1 h2 h3 h4=>h4.turn (ai_own _ (by omega)) h1 h3)
   ?assign ?body ?done ?stop
  case assign=>
   rintro l pre x W K hi hp hK
   dsimp only[sv]
   gi_wp2
   obtain⟨Bx,hBx⟩: ∃b:Nat,b=0:=⟨0,rfl⟩
   exact hK Bx W (KeepsRec.refl W) ⟨hi,hp,KpC.refl _ _⟩
  case body=>
   rintro l pre x W Bx W' ⟨hi,hp,hk⟩
   have HK:=Lib.hid hk
   have HI:=Lib.hid hi
   have r1:=hi.last.cell
   have r2:=hi.last.frozen
   have r3:=hi.res.cell
   have r4:=hi.res.frozen
   obtain⟨x1,hx1⟩: ∃z,x.1=z:=⟨_,rfl⟩
   rw[hx1]
   have hsn:=alwGo_snoc 0 x1 (pre.map Prod.fst)
   rw[hi.no,Bool.false_or]at hsn
   have hsl:=lastG_snoc 0 x1 (pre.map Prod.fst)
   obtain⟨la,hla⟩: ∃z,lastG 0 (pre.map Prod.fst)=z:=⟨_,rfl⟩
   rw[hla]at hsn r1
   have HMP:=Lib.hid (show(pre++ [x]).map Prod.fst=pre.map Prod.fst++ [x1] by rw[List.map_append,←hx1];rfl)
   have HSL:=Lib.hid hsl
   have HSN:=Lib.hid hsn
   have HNG:=Lib.hid (lit_neg la W')
   clear hi hp hk hx1 hsl hla
   cases hz:(la != 0)with
   | false=>
    rw[hz,Bool.false_and]at hsn
    have HSN:=Lib.hid hsn
    clear hsn
    gi_wp2_with fail
    refine⟨trivial,?_⟩
    gi_wp2_with fail
    refine⟨keepsRec_set _ _ _,⟨boxed_neq HI.out.res (by omega),?_,HI.out.below.setCell (p:=⟨w.heap.size+1,0,none⟩) (Nat.le_succ _) _,by rw[HMP.out];exact HSN.out⟩,HK.out.trans (spost_set _ _ _ (.inr rfl))⟩
    rw[HMP.out,HSL.out]
    exact HI.out.last.set _
   | true=>
    rw[hz,Bool.true_and]at hsn
    cases hq:(x1==litN la)with
    | false=>
     rw[hq]at hsn
     have HSN:=Lib.hid hsn
     clear hsn
     gi_wp2_with fail
     refine⟨trivial,((CallsIn.inRound l (callsIn_wide.2 HNG.out)).mono ?_)⟩
     rintro e W4 ⟨rfl,rfl⟩
     gi_wp2_with fail
     refine⟨keepsRec_set _ _ _,⟨boxed_neq HI.out.res (by omega),?_,HI.out.below.setCell (p:=⟨w.heap.size+1,0,none⟩) (Nat.le_succ _) _,by rw[HMP.out];exact HSN.out⟩,HK.out.trans (spost_set _ _ _ (.inr rfl))⟩
     rw[HMP.out,HSL.out]
     exact HI.out.last.set _
    | true=>
     rw[hq]at hsn
     have HSN:=Lib.hid hsn
     clear hsn
     gi_wp2_with fail
     refine⟨trivial,((CallsIn.inRound l (callsIn_wide.2 HNG.out)).mono ?_)⟩
     rintro e W4 ⟨rfl,rfl⟩
     gi_wp2_with fail
     exact⟨keepsRec_set _ _ _,⟨HI.out.res.set _,HI.out.below.setCell (p:=⟨w.heap.size,0,none⟩) (Nat.le_refl _) _,by rw[HMP.out];exact HSN.out⟩,trivial⟩
  case done=>
   rintro D zs W hD hS hi hDf
   have q1:=hi.res.cell
   have q2:=hi.res.frozen
   have HI:=Lib.hid hi
   have HD:=Lib.hid hDf
   have HNO:=Lib.hid (show alwGo 0 ys=false by rw[←hS];exact hi.no)
   have hne:D≠w.heap.size:=by omega
   clear hi hDf hS
   gi_wp2
   have hD':(W.setCell ⟨w.heap.size,0,none⟩ (.bool false)).heap[D]? =some (.deferred (some [])):=((grownBy_setCell' W w.heap.size (.bool false)).block D (heap_lt HD.out) (fun e=>hne (Option.some.inj e))).trans HD.out
   refine⟨by simp,.inl ⟨_,_,rfl,run_takeDeferred hD',?_⟩⟩
   refine⟨_,res_bool rfl (boxed_grown (HI.out.res.set (.bool false)) (grownBy_putObj' _ D _) (fun r e=>by cases e;exact⟨_,hD',rfl⟩)) _ rfl,by rw[←HRS.out,HNO.out],?_⟩
   have hb:=HI.out.below.setCell (p:=⟨w.heap.size,0,none⟩) (Nat.le_refl _) (.bool false)
   exact hb.grown (grownBy_putObj' _ D _) hb.size (fun g e=>by cases e;omega)
  case stop=>
   rintro D pre W hD ⟨hpre,_⟩ hi hDf
   have HI:=Lib.hid hi
   have HD:=Lib.hid hDf
   have HYE:=Lib.hid (alwGo_pre hpre hi.yes)
   clear hi hDf hpre
   gi_wp2
   refine⟨by simp,.inl ⟨_,_,rfl,run_takeDeferred HD.out,?_⟩⟩
   refine⟨_,res_bool rfl (boxed_grown HI.out.res (grownBy_putObj' _ D _) (fun r e=>by cases e;exact⟨_,HD.out,rfl⟩)) _ rfl,by rw[←HRS.out,HYE.out],?_⟩
   exact HI.out.below.grown (grownBy_putObj' _ D _) HI.out.below.size (fun g e=>by cases e;omega)
theorem res_norm {fn:Func} (h:fn.results= #[.tmp 2,.tmp 3,.tmp 4]) (tmps:Array Value) (w:World):(results fn tmps).run Tryz.prog w= .ok (.tuple #[tmps.getD 2 undef,tmps.getD 3 undef,tmps.getD 4 undef]) w:=by
 simp[results,h]
def NormOut (w w':World) (xs:List Int) (e:Ending):Prop:=
 if clauseB xs=true then∃v,e= .returned (.tuple #[v,.bool (alwL xs),.int .i64 0])∧w'.ownsRow w.heap.size 28 1 v (normL xs).length ((normL xs).map (Value.int .i64))
 else e= .returned (.tuple #[.slice none 0 0,.bool false,.int .i64 20])
set_option maxHeartbeats 1000000 in
theorem norm_any {O:Nat→Prop} (u:Value) (xs:List Int) (w:World) (hu:IntsIn O w u xs) (hlen:xs.length≤1000000000000):
  Calls Tryz.prog 149 #[u] w fun e w'=>NormOut w w' xs e∧Below w.heap.size w w':=by
 have HR:=Lib.hid (right_clause u xs w hu (by omega))
 have HN:=Lib.hid (normal_any u xs w hu hlen)
 have HU:=Lib.hid hu
 obtain⟨A,c,rfl,_⟩:=hu
 unfold NormOut
 obtain⟨q,hq⟩: ∃b,clauseB xs=b:=⟨_,rfl⟩
 rw[hq]at HR⊢
 clear hq
 cases q with
 | false=>
  simp only[Bool.false_eq_true,if_false]
  go_enter Tryz.func149,Tryz.ntmps149
  go_wp2_with fail
  refine HR.out.mono ?_
  rintro e w' ⟨rfl,rfl⟩
  go_wp2_with fail
  refine bodyPost_ret (res_norm rfl _ _) rfl ?_
  exact⟨rfl,Below.refl _ _⟩
 | true=>
  simp only[if_true]
  go_enter Tryz.func149,Tryz.ntmps149
  go_wp2_with fail
  refine HR.out.mono ?_
  rintro e w' ⟨rfl,rfl⟩
  go_wp2_with fail
  refine HN.out.mono ?_
  rintro e w1 ⟨v,rfl,hr,hb⟩
  have HV:=Lib.hid hr
  have HB:=Lib.hid hb
  have HA:=Lib.hid (always_any _ xs w1 (HU.out.below hb) hlen)
  obtain⟨res,hres⟩: ∃b,alwL xs=b:=⟨_,rfl⟩
  rw[hres]at HA
  have HRS:=Lib.hid hres
  obtain⟨Av,cv,rfl,_⟩:=mx_slice hr
  clear hr hb hres
  go_wp2_with fail
  refine HA.out.mono ?_
  rintro e w2 ⟨rfl,hb2⟩
  have HB2:=Lib.hid hb2
  clear hb2
  go_wp2_with fail
  refine bodyPost_ret (res_norm rfl _ _) rfl ?_
  refine⟨⟨.slice Av (normL xs).length cv,?_,own_below HV.out HB2.out⟩,HB.out.trans (HB2.out.mono HB.out.size)⟩
  rw[HRS.out]
  rfl
end Go.Proofs.YtajbmjpodeilpaaGreatDoor
namespace Go.Proofs.YtajbmjpodeilpaaGreatDoor
open Go.RowKit Go.Maps Go.Shelf
theorem MapAt.lookV {w:World} {b n:Nat} {f:Int→Int} (h:MapAt w b n f) {x:Int} (hx:(Lit.int .i64 x).wf=true):
  (Instr.lookup 220 (.map (some b)) (.int .i64 x) false).run Tryz.prog w= .ok (.int .i64 (f x)) w:=by
 obtain⟨D,ho,hm,hf⟩:=h
 obtain⟨c,hrun,hat,_⟩:=ho.lookup_int int_law Tryz.underlying220 Tryz.underlying3 (int_zero _) (keyOf_int_mk Tryz.underlying3 hx)
 have:=hf x hx
 rw[hat]at this
 have hc:c=f x:=by simpa using this
 rw[hrun,hc]
theorem wpList_putV {w:World} {ops:Array Oper} {rest:List Oper} {o:Oper} {a:Act} {Q:Exit→Act→World→Prop} {b n:Nat} {f:Int→Int} (hown:MapAt w b n f)
  (hg:o.guard=none) (m x v:Operand) (hop:o.op=Op.mapUpdate 220 m x v) (hm:a.eval m= .map (some b)) (hn:n<maxLen) (i y:Int) (hx:a.eval x= .int .i64 i) (hv:a.eval v= .int .i64 y)
  (hi:(Lit.int .i64 i).wf=true) (hy:(Lit.int .i64 y).wf=true)
  (hK: ∀w',MapAt w' b (n+1) (fun z=>if z=i then y else f z)→w.grownBy w' (some b)→wpList Tryz.prog ops Q rest (a.put o.dst undef) w'):wpList Tryz.prog ops Q (o::rest) a w:=by
 obtain⟨D,ho,hmap,hf⟩:=hown
 exact wpList_mapUpdate_own w hg m x v _ hop 3 3 int_law Tryz.underlying220 _ b n D hm ho hn _ _ _ hx hv (keyOf_int_mk Tryz.underlying3 hi) _ [] (plainElem_int Tryz.underlying3 hy)
  (fun w' h1 h2=>hK w' (MapAt.put hmap hf h1) h2)
theorem lit_law:Keyed Tryz.prog 28:=int_keyed Tryz.underlying28
def MapL (w:World) (b n:Nat) (f:Int→Int):Prop:=
 ∃D:DataW Unit,w.ownsMap Tryz.prog 28 (plainElem Tryz.prog 3) b n D∧IsMap D∧∀x:Int,(Lit.int .i64 x).wf=true→D.atKey (.int .i64 x) (.lit (.int .i64 0))= .lit (.int .i64 (f x))
theorem MapL.lt {w:World} {b n:Nat} {f:Int→Int} (h:MapL w b n f):b<w.heap.size:=by
 obtain⟨D,⟨es,cl,hb,_⟩,_⟩:=h
 exact heap_lt hb
theorem MapL.kept {O:Nat→Prop} {w w':World} {b n:Nat} {f:Int→Int} (h:MapL w b n f) (k:Kept O w w') (hO: ¬O b):MapL w' b n f:=by
 obtain⟨D,⟨es,cl,hb,rest⟩,h2⟩:=h
 exact⟨D,⟨es,cl,(k.block b (heap_lt hb) hO).trans hb,rest⟩,h2⟩
theorem MapL.below {w w':World} {b n:Nat} {f:Int→Int} (h:MapL w b n f) (k:Below w.heap.size w w'):MapL w' b n f:=
 h.kept (O:=fun _=>False) (Kept.of_below k) (fun h=>h)
theorem MapL.made (w:World):MapL (w.alloc (.map #[] 0)) w.heap.size 0 (fun _=>0):=
 ⟨.map [],World.ownsMap_made _ _ _ _,isMap_empty,fun _ _=>rfl⟩
theorem MapL.put {w':World} {b n:Nat} {f:Int→Int} {D:DataW Unit} {x y:Int} (hm:IsMap D) (hf: ∀x:Int,(Lit.int .i64 x).wf=true→D.atKey (.int .i64 x) (.lit (.int .i64 0))= .lit (.int .i64 (f x)))
  (h:w'.ownsMap Tryz.prog 28 (plainElem Tryz.prog 3) b (n+1) (D.put (.int .i64 x) (.lit (.int .i64 y)))):MapL w' b (n+1) (fun z=>if z=x then y else f z):=by
 refine⟨_,h,hm.put _ _,fun z hz=>?_⟩
 show _=DataW.lit (Lit.int .i64 (if z=x then y else f z))
 by_cases hzx:z=x
 ·subst hzx
  rw[if_pos rfl,atKey_put_same hm (by simp[WideAt.IsKeyLit])]
 ·rw[if_neg hzx,atKey_put_other (by simpa using hzx),hf z hz]
theorem MapL.look {w:World} {b n:Nat} {f:Int→Int} (h:MapL w b n f) {x:Int} (hx:(Lit.int .i64 x).wf=true):
  (Instr.lookup 225 (.map (some b)) (.int .i64 x) false).run Tryz.prog w= .ok (.int .i64 (f x)) w:=by
 obtain⟨D,ho,hm,hf⟩:=h
 obtain⟨c,hrun,hat,_⟩:=ho.lookup_int lit_law Tryz.underlying225 Tryz.underlying3 (int_zero _) (keyOf_int_mk Tryz.underlying28 hx)
 have:=hf x hx
 rw[hat]at this
 have hc:c=f x:=by simpa using this
 rw[hrun,hc]
theorem wpList_putL {w:World} {ops:Array Oper} {rest:List Oper} {o:Oper} {a:Act} {Q:Exit→Act→World→Prop} {b n:Nat} {f:Int→Int} (hown:MapL w b n f)
  (hg:o.guard=none) (m x v:Operand) (hop:o.op=Op.mapUpdate 225 m x v) (hm:a.eval m= .map (some b)) (hn:n<maxLen) (i y:Int) (hx:a.eval x= .int .i64 i) (hv:a.eval v= .int .i64 y)
  (hi:(Lit.int .i64 i).wf=true) (hy:(Lit.int .i64 y).wf=true)
  (hK: ∀w',MapL w' b (n+1) (fun z=>if z=i then y else f z)→w.grownBy w' (some b)→wpList Tryz.prog ops Q rest (a.put o.dst undef) w'):wpList Tryz.prog ops Q (o::rest) a w:=by
 obtain⟨D,ho,hmap,hf⟩:=hown
 exact wpList_mapUpdate_own w hg m x v _ hop 28 3 lit_law Tryz.underlying225 _ b n D hm ho hn _ _ _ hx hv (keyOf_int_mk Tryz.underlying28 hi) _ [] (plainElem_int Tryz.underlying3 hy)
  (fun w' h1 h2=>hK w' (MapL.put hmap hf h1) h2)
end Go.Proofs.YtajbmjpodeilpaaGreatDoor
namespace Go.Proofs.YtajbmjpodeilpaaGreatDoor
open Go.RowKit Go.Maps Go.Shelf
def ofF (f:Int→Int) (l:Int):Int:=if litG l=true then-f (litV l:Nat)else f (litV l:Nat)
def putF (f:Int→Int) (l:Int):Int→Int:=fun z=>if z=((litV l:Nat):Int)then(if litG l=true then -1 else 1)else f z
def okF (f:Int→Int):Prop:= ∀z,-1≤f z∧f z≤1
theorem okF_put {f:Int→Int} (h:okF f) (l:Int):okF (putF f l):=by
 intro z
 unfold putF
 split
 ·split <;> omega
 ·exact h z
theorem wf_var (l:Int):(Lit.int .i64 ((litV l:Nat):Int)).wf=true:=by
 have h:litV l≤1048576:=by
  unfold litV
  split
  ·rename_i h
   have:=(litB_iff l).1 h
   omega
  ·omega
 exact wf64 (by omega) (by omega)
theorem rup_of (b n:Nat) (f:Int→Int) (l:Int) (w:World) (h:MapAt w b n f) (hf:okF f):
  Calls Tryz.prog 176 #[.map (some b),.int .i64 l] w fun e w'=>e= .returned (.int .i64 (ofF f l))∧w=w':=by
 have hl:=h.lookV (wf_var l)
 have HV:=Lib.hid (lit_var l w)
 have HG:=lit_negated l w
 have hx:=hf (litV l:Nat)
 unfold ofF
 obtain⟨v,hv⟩: ∃v:Int,((litV l:Nat):Int)=v:=⟨_,rfl⟩
 rw[hv]at HV hl hx⊢
 obtain⟨y,hy⟩: ∃y:Int,f v=y:=⟨_,rfl⟩
 rw[hy]at hl hx⊢
 have hw:IntKind.i64.wrap (-y)= -y:=IntWalk.i64_in _ (by omega)
 clear h hf hv hy
 cases hg:litG l with
 | false=>
  rw[hg]at HG
  rw[if_neg (by decide)]
  have HG:=Lib.hid HG
  clear hg
  go_enter Tryz.func176,Tryz.ntmps176
  go_wp2_with fail
  refine HV.out.mono ?_
  rintro e w' ⟨rfl,rfl⟩
  go_wp2_with fail
  refine HG.out.mono ?_
  rintro e w' ⟨rfl,rfl⟩
  go_wp2_with fail
  go_ret
  exact⟨rfl,rfl⟩
 | true=>
  rw[hg]at HG
  rw[if_pos rfl]
  have HG:=Lib.hid HG
  clear hg
  go_enter Tryz.func176,Tryz.ntmps176
  go_wp2_with fail
  refine HV.out.mono ?_
  rintro e w' ⟨rfl,rfl⟩
  go_wp2_with fail
  refine HG.out.mono ?_
  rintro e w' ⟨rfl,rfl⟩
  go_wp2_with fail
  go_ret
  exact⟨rfl,rfl⟩
theorem rup_put (b n:Nat) (f:Int→Int) (l:Int) (w:World) (h:MapAt w b n f) (hn:n≤1000000000000):
  Calls Tryz.prog 177 #[.map (some b),.int .i64 l] w fun e w'=>e= .returned (.tuple #[])∧(∃n',n'≤n+2∧MapAt w' b n' (putF f l))∧Kept (fun g=>g=b) w w':=by
 have HV:=Lib.hid (fun W=>lit_var l W)
 have HG:=fun W=>lit_negated l W
 have HW:=Lib.hid (wf_var l)
 have HM:=Lib.hid h
 unfold putF
 obtain⟨v,hv⟩: ∃v:Int,((litV l:Nat):Int)=v:=⟨_,rfl⟩
 rw[hv]at HV HW⊢
 clear h hv
 cases hg:litG l with
 | false=>
  rw[hg]at HG
  simp only[Bool.false_eq_true,if_false]
  have HG:=Lib.hid HG
  clear hg
  go_enter Tryz.func177,Tryz.ntmps177
  go_wp2_with fail
  refine(HV.out _).mono ?_
  rintro e w' ⟨rfl,rfl⟩
  go_wp2_with (at_mapUpdate;refine wpList_putV HM.out rfl _ _ _ rfl rfl (by unfold maxLen;omega) v 1 rfl rfl HW.out rfl ?_;intro w1 hm hg)
  have HM1:=Lib.hid hm
  have HK1:=Lib.hid (Kept.grown hg)
  clear hm hg
  go_wp2_with fail
  refine(HG.out _).mono ?_
  rintro e w' ⟨rfl,rfl⟩
  go_wp2_with fail
  go_end0
  exact⟨rfl,⟨n+1,by omega,HM1.out⟩,HK1.out.mono (fun g _ h=>by cases h;rfl)⟩
 | true=>
  rw[hg]at HG
  simp only[if_true]
  have HG:=Lib.hid HG
  clear hg
  go_enter Tryz.func177,Tryz.ntmps177
  go_wp2_with fail
  refine(HV.out _).mono ?_
  rintro e w' ⟨rfl,rfl⟩
  go_wp2_with (at_mapUpdate;refine wpList_putV HM.out rfl _ _ _ rfl rfl (by unfold maxLen;omega) v 1 rfl rfl HW.out rfl ?_;intro w1 hm hg)
  have HM1:=Lib.hid hm
  have HK1:=Lib.hid (Kept.grown hg)
  clear hm hg
  go_wp2_with fail
  refine(HG.out _).mono ?_
  rintro e w' ⟨rfl,rfl⟩
  go_wp2_with fail
  refine(HV.out _).mono ?_
  rintro e w' ⟨rfl,rfl⟩
  go_wp2_with (at_mapUpdate;refine wpList_putV HM1.out rfl _ _ _ rfl rfl (by unfold maxLen;omega) v (-1) rfl rfl HW.out rfl ?_;intro w2 hm hg)
  have HM2:=Lib.hid hm
  have HK2:=Lib.hid (Kept.grown hg)
  clear hm hg
  go_wp2_with fail
  go_end0
  refine⟨rfl,⟨n+1+1,Nat.le_refl _,?_⟩,(HK1.out.mono (O':=fun g=>g=b) (fun g _ h=>by cases h;rfl)).trans HK2.out (fun i _ h=>by cases h;rfl)⟩
  have h2:=HM2.out
  have e:(fun z=>if z=v then(-1:Int)else if z=v then 1 else f z)=(fun z=>if z=v then -1 else f z):=by
   funext z
   by_cases hz:z=v
   ·rw[if_pos hz,if_pos hz]
   ·rw[if_neg hz,if_neg hz,if_neg hz]
  rwa [e]at h2
def lukGo (f:Int→Int) (k:Nat) (u:Int):List Int→Nat×Int
 | []=>(k,if k=3 then u else 0)
 | l::r=>if 0<ofF f l then(1,0)else if ofF f l<0∨l=u then lukGo f k u r else if u=0 then lukGo f 3 l r else lukGo f 4 u r
def lookF (f:Int→Int) (c:List Int):Nat×Int:=lukGo f 2 0 c
def asgGo (f:Int→Int):List Int→Option (Int→Int)
 | []=>some f
 | x::r=>if litB x=true∧0≤ofF f x then asgGo (putF f x) r else none
def asgF (xs:List Int):Option (Int→Int):=asgGo (fun _=>0) xs
def AsgOut (w w':World) (m:Nat) (e:Ending):Option (Int→Int)→Prop
 | some f=> ∃b n,e= .returned (.tuple #[.map (some b),.bool true])∧w.heap.size≤b∧n≤2*m∧MapAt w' b n f∧okF f
 | none=>e= .returned (.tuple #[.map none,.bool false])
set_option maxRecDepth 100000 in
set_option maxHeartbeats 2000000 in
theorem rup_assigned {O:Nat→Prop} (u:Value) (xs:List Int) (w:World) (hu:IntsIn O w u xs) (hlen:xs.length≤100000000000):
  Calls Tryz.prog 138 #[u] w fun e w'=>AsgOut w w' xs.length e (asgF xs)∧Below w.heap.size w w':=by
 have hmm:=@run_makeMap Tryz.prog
 obtain⟨W0,hW0⟩: ∃x,w.alloc (.map #[] 0)=x:=⟨_,rfl⟩
 have hb0:Below w.heap.size w W0:=by rw[←hW0];exact mx_al _ _
 have hm0:MapAt W0 w.heap.size 0 (fun _=>0):=by rw[←hW0];exact MapAt.made w
 have HU:=Lib.hid hu.lt
 obtain⟨A,c,rfl,hc,_,_⟩:=hu
 have HW0:=Lib.hid hW0
 have HB0:=Lib.hid hb0
 have HM0:=Lib.hid hm0
 obtain⟨res,hres⟩: ∃r,asgF xs=r:=⟨_,rfl⟩
 have HRS:=Lib.hid hres
 rw[hres]
 clear hW0 hb0 hm0 hres
 go_enter Tryz.func138,Tryz.ntmps138
 go_wp2_with fail
 rw[HW0.out]
 go_loopw [10] (fun i wr=> ∃(k n:Nat) (f:Int→Int),k≤xs.length∧i= .int .i64 k∧n≤2*k∧Hid (asgGo f (xs.drop k)=res)∧Hid (okF f)∧Hid (MapAt wr w.heap.size n f)∧Hid (Below w.heap.size w wr)) (fun i _=>xs.length-(intOf i).toNat)
 case atStart=>exact⟨0,0,_,Nat.zero_le _,rfl,Nat.le_refl _,HRS,Lib.hid (fun z=>by simp),HM0,HB0⟩
 case round=>
  obtain⟨k,n,f,hk,rfl,hn,HG,HF,HM,HB⟩:=hrel
  by_cases hlt:k<xs.length
  ·obtain⟨x,hxk⟩:=getElem_of hlt
   obtain⟨A',c',hAc,_,_,hxs⟩:=HU.out
   simp only[Value.slice.injEq,true_and]at hAc
   obtain⟨rfl,rfl⟩:=hAc
   obtain⟨g,o,rfl,hg,_,d0⟩:=hxs k x hxk
   have d1:wr.cell? ⟨g,o+k,none⟩=some (.int .i64 x):=(HB.out.cell (p:=⟨g,o+k,none⟩) hg).trans d0
   have hdk:xs.drop k=x::xs.drop (k+1):=by
    rw[List.drop_eq_getElem_cons hlt]
    rw[List.getElem?_eq_getElem hlt]at hxk
    rw[Option.some.inj hxk]
   have hgo:=HG.out
   rw[hdk]at hgo
   simp only[asgGo]at hgo
   have HR:=right_lit x wr
   have HOF:=rup_of w.heap.size n f x wr HM.out HF.out
   have HPT:=Lib.hid (rup_put w.heap.size n f x wr HM.out (by omega))
   cases hb:litB x with
   | false=>
    rw[hb]at HR hgo
    rw[if_neg (by simp)]at hgo
    have HN:=Lib.hid hgo
    have HR:=Lib.hid HR
    clear hgo hb hdk hxk hxs d0 HOF
    go_wp2_with fail
    refine HR.out.mono ?_
    rintro e w' ⟨rfl,rfl⟩
    go_wp2_with fail
    refine bodyPost_ret (results_tmp2 rfl _ _ _) rfl ?_
    rw[←HN.out]
    exact⟨rfl,HB.out⟩
   | true=>
    rw[hb]at HR hgo
    have HR:=Lib.hid HR
    by_cases hv:0≤ofF f x
    ·rw[if_pos ⟨rfl,hv⟩]at hgo
     obtain⟨y,hy⟩: ∃y,ofF f x=y:=⟨_,rfl⟩
     rw[hy]at HOF hv
     have hd:decide (y<0)=false:=by simpa using hv
     have HOF:=Lib.hid HOF
     have HN:=Lib.hid hgo
     clear hgo hb hdk hxk hxs d0 hy hv
     go_wp2_with fail
     refine HR.out.mono ?_
     rintro e w' ⟨rfl,rfl⟩
     go_wp2_with fail
     refine HOF.out.mono ?_
     rintro e w' ⟨rfl,rfl⟩
     go_wp2_with fail
     refine HPT.out.mono ?_
     rintro e w4 ⟨rfl,⟨n',hn',hm'⟩,hk'⟩
     have HM4:=Lib.hid hm'
     have HB4:=Lib.hid (HB.out.trans (hk'.below (fun g e=>by rw[e];exact Nat.le_refl _) HB.out.size))
     clear hm' hk'
     go_wp2_with fail
     go_roundw
     case rel=>exact⟨k+1,n',_,by omega,by go_num,by omega,HN,Lib.hid (okF_put HF.out x),HM4,HB4⟩
     case measure=>simp[intOf];omega
    ·rw[if_neg (fun h=>hv h.2)]at hgo
     obtain⟨y,hy⟩: ∃y,ofF f x=y:=⟨_,rfl⟩
     rw[hy]at HOF hv
     have hd:decide (y<0)=true:=by simpa using hv
     have HOF:=Lib.hid HOF
     have HN:=Lib.hid hgo
     clear hgo hb hdk hxk hxs d0 hy hv
     go_wp2_with fail
     refine HR.out.mono ?_
     rintro e w' ⟨rfl,rfl⟩
     go_wp2_with fail
     refine HOF.out.mono ?_
     rintro e w' ⟨rfl,rfl⟩
     go_wp2_with fail
     refine bodyPost_ret (results_tmp2 rfl _ _ _) rfl ?_
     rw[←HN.out]
     exact⟨rfl,HB.out⟩
  ·obtain rfl:k=xs.length:=by omega
   have hgo:=HG.out
   rw[List.drop_length]at hgo
   have HN:=Lib.hid (show some f=res from hgo)
   clear hgo
   go_wp2_with fail
   refine bodyPost_ret (results_tmp2 rfl _ _ _) rfl ?_
   rw[←HN.out]
   exact⟨⟨_,n,rfl,Nat.le_refl _,hn,HM.out,HF.out⟩,HB.out⟩
end Go.Proofs.YtajbmjpodeilpaaGreatDoor
namespace Go.Proofs.YtajbmjpodeilpaaGreatDoor
open Go.RowKit Go.Maps Go.Shelf
set_option maxRecDepth 100000 in
set_option maxHeartbeats 2000000 in
theorem rup_look {O:Nat→Prop} (b n:Nat) (f:Int→Int) (u:Value) (xs:List Int) (w:World) (h:MapAt w b n f) (hf:okF f) (hu:IntsIn O w u xs) (hlen:xs.length≤100000000000):
  Calls Tryz.prog 178 #[.map (some b),u] w fun e w'=>e= .returned (.tuple #[.int .u8 ((lookF f xs).1:Nat),.int .i64 (lookF f xs).2])∧w=w':=by
 have HX:=Lib.hid hu
 obtain⟨A,c,rfl,hc,_,_⟩:=hu
 obtain⟨K,hK⟩: ∃z,(lookF f xs).1=z:=⟨_,rfl⟩
 obtain⟨U,hU⟩: ∃z,(lookF f xs).2=z:=⟨_,rfl⟩
 have HL:=Lib.hid (show lukGo f 2 0 xs=(K,U)from Prod.ext hK hU)
 rw[hK,hU]
 have HO:=Lib.hid (fun l=>rup_of b n f l w h hf)
 clear h hf hK hU
 go_enter Tryz.func178,Tryz.ntmps178
 go_wp2_with fail
 refine wp_scope_straight ?_
 go_wp2_with fail
 refine wp_label ?_
 go_wp2_with fail
 go_loopw [6,7,13] (fun kv uv iv wr=> ∃(j k:Nat) (t:Int),j≤xs.length∧iv= .int .i64 j∧kv= .int .u8 (k:Nat)∧uv= .int .i64 t∧Hid (lukGo f k t (xs.drop j)=(K,U))∧wr=w) (fun _ _ iv _=>xs.length-(intOf iv).toNat)
 case atStart=>exact⟨0,2,0,Nat.zero_le _,rfl,rfl,rfl,HL,rfl⟩
 case round=>
  obtain⟨j,k,t,hj,rfl,rfl,rfl,HG,rfl⟩:=hrel
  by_cases hlt:j<xs.length
  ·obtain⟨x,hxk⟩:=getElem_of hlt
   obtain⟨A',c',hAc,_,_,hxs⟩:=HX.out
   simp only[Value.slice.injEq,true_and]at hAc
   obtain⟨rfl,rfl⟩:=hAc
   obtain⟨g,o,rfl,hg,_,d0⟩:=hxs j x hxk
   have hdk:xs.drop j=x::xs.drop (j+1):=by
    rw[List.drop_eq_getElem_cons hlt]
    rw[List.getElem?_eq_getElem hlt]at hxk
    rw[Option.some.inj hxk]
   have hgo:=HG.out
   rw[hdk]at hgo
   simp only[lukGo]at hgo
   have HOF:=HO.out x
   obtain⟨y,hy⟩: ∃y,ofF f x=y:=⟨_,rfl⟩
   rw[hy]at HOF hgo
   have HOF:=Lib.hid HOF
   clear hxk hxs hdk hy HG
   by_cases h1:0<y
   ·rw[if_pos h1]at hgo
    have d1:decide (0<y)=true:=by simpa using h1
    have HKU:=Lib.hid hgo
    clear hgo h1
    go_wp2_with fail
    refine HOF.out.mono ?_
    rintro e w' ⟨rfl,rfl⟩
    go_wp2_with fail
    rw[Exit.noGoto_ret]
    refine bodyPost_ret (results_tmp2 rfl _ _ _) rfl ?_
    have h:=HKU.out
    simp only[Prod.mk.injEq]at h
    obtain⟨rfl,rfl⟩:=h
    exact⟨rfl,rfl⟩
   ·rw[if_neg h1]at hgo
    have d1:decide (0<y)=false:=by simpa using h1
    by_cases h2:y<0
    ·rw[if_pos (.inl h2)]at hgo
     have d2:decide (y<0)=true:=by simpa using h2
     have HG:=Lib.hid hgo
     clear hgo h1 h2
     go_wp2_with fail
     refine HOF.out.mono ?_
     rintro e w' ⟨rfl,rfl⟩
     go_wp2_with fail
     go_roundw
     case rel=>exact⟨j+1,k,t,by omega,by go_num,rfl,rfl,HG,trivial⟩
     case measure=>simp[intOf];omega
    ·have d2:decide (y<0)=false:=by simpa using h2
     by_cases h3:x=t
     ·rw[if_pos (.inr h3)]at hgo
      have d3:(x==t)=true:=by simpa using h3
      have HG:=Lib.hid hgo
      clear hgo h1 h2 h3
      go_wp2_with fail
      refine HOF.out.mono ?_
      rintro e w' ⟨rfl,rfl⟩
      go_wp2_with fail
      go_roundw
      case rel=>exact⟨j+1,k,t,by omega,by go_num,rfl,rfl,HG,trivial⟩
      case measure=>simp[intOf];omega
     ·rw[if_neg (fun h=>h.elim h2 h3)]at hgo
      have d3:(x==t)=false:=by simpa using h3
      by_cases h4:t=0
      ·rw[if_pos h4]at hgo
       have d4:(t==0)=true:=by simpa using h4
       have HG:=Lib.hid hgo
       clear hgo h1 h2 h3 h4
       go_wp2_with fail
       refine HOF.out.mono ?_
       rintro e w' ⟨rfl,rfl⟩
       go_wp2_with fail
       go_roundw
       case rel=>exact⟨j+1,3,x,by omega,by go_num,rfl,rfl,HG,trivial⟩
       case measure=>simp[intOf];omega
      ·rw[if_neg h4]at hgo
       have d4:(t==0)=false:=by simpa using h4
       have HG:=Lib.hid hgo
       clear hgo h1 h2 h3 h4
       go_wp2_with fail
       refine HOF.out.mono ?_
       rintro e w' ⟨rfl,rfl⟩
       go_wp2_with fail
       go_roundw
       case rel=>exact⟨j+1,4,t,by omega,by go_num,rfl,rfl,HG,trivial⟩
       case measure=>simp[intOf];omega
  ·obtain rfl:j=xs.length:=by omega
   have hgo:=HG.out
   rw[List.drop_length]at hgo
   simp only[lukGo,Prod.mk.injEq]at hgo
   obtain⟨rfl,hgo⟩:=hgo
   by_cases h3:k=3
   ·rw[if_pos h3]at hgo
    have d3:((k:Int) != 3)=false:=by simp[h3]
    have HG:=Lib.hid hgo
    clear hgo h3
    go_wp2_with fail
    rw[Exit.noGoto_ret]
    refine bodyPost_ret (results_tmp2 rfl _ _ _) rfl ?_
    rw[←HG.out]
    exact⟨rfl,rfl⟩
   ·rw[if_neg h3]at hgo
    have d3:((k:Int) != 3)=true:=by simp;omega
    have HG:=Lib.hid hgo
    clear hgo h3
    go_wp2_with fail
    rw[Exit.noGoto_ret]
    refine bodyPost_ret (results_tmp2 rfl _ _ _) rfl ?_
    rw[←HG.out]
    exact⟨rfl,rfl⟩
end Go.Proofs.YtajbmjpodeilpaaGreatDoor
namespace Go.Proofs.YtajbmjpodeilpaaGreatDoor
open Go.RowKit
set_option maxRecDepth 100000 in
set_option maxHeartbeats 2000000 in
theorem clone_row (A:Option Addr) (k c:Nat) (us:List Value) (w:World) (h:SrcAt w (.slice A k c) k us) (hn:A=none→k=0∧c=0) (hl:us.length=k) (h1: ∀z∈us,z.oneCell'=true) (hk:k≤1000000000):
  Calls Tryz.prog 175 #[.slice A k c] w fun e w'=> ∃v,e= .returned v∧w'.ownsRow w.heap.size 30 1 v k us∧Below w.heap.size w w':=by
 obtain⟨i0,hi,hz0,hz1,hz2⟩:=info_parts info_cls
 cases A with
 | none=>
  obtain⟨rfl,rfl⟩:=hn rfl
  obtain rfl:us= []:=List.eq_nil_of_length_eq_zero hl
  have hq:=fun w=>Lib.run_eql_slice_nil (P:=Tryz.prog) w 22 30 none 0 0 0 0 Tryz.underlying22
  clear h h1
  go_enter Tryz.func175,Tryz.ntmps175
  go_wp2
  go_ret
  exact⟨_,rfl,World.ownsRow_nil _ _ _ _,Below.refl _ _⟩
 | some a=>
  have hq:=fun w=>Lib.run_eql_slice_nil (P:=Tryz.prog) w 22 30 (some a) k c 0 0 Tryz.underlying22
  have hnews: ∀j u,us[j]? =some u→(w.alloc (.cells #[] 30)).cell? (a.add j)=some u:=fun j u hj=>by
   rcases h with⟨h,_⟩|⟨ad,c',hv,hx⟩
   ·cases h
   ·cases hv
    have h0:=hx j u hj
    exact((mx_al w _).cell (World.block_lt_of_cell? w _ h0)).trans h0
  have HN:=Lib.hid hnews
  have H1:=Lib.hid h1
  have h0:(w.alloc (.cells #[] 30)).ownsRow w.heap.size 30 1 (.slice (some ⟨w.heap.size,0,none⟩) 0 0) 0 []:=⟨rfl,.inr ⟨w.heap.size,0,#[],rfl,Nat.le_refl _,World.alloc_heap_new _ _,Nat.le_refl _,Nat.zero_le _,rfl,rfl⟩⟩
  have H0:=Lib.hid h0
  have HLU:=Lib.hid hl
  clear hnews h0 h h1 hn hl
  go_enter Tryz.func175,Tryz.ntmps175
  go_wp2_with (at_builtin;refine wpList_append_own_at _ rfl _ _ 22 rfl w.heap.size 30 i0 (.slice none 0 0) 1 24 Tryz.underlying22 hi hz0 hz1 hz2 rfl (by decide) _ _ _ rfl H0.out a k c us rfl (by rw[HLU.out,Nat.mul_one]) HN.out H1.out (by unfold maxLen;omega) (by omega) (by simp) ?_;intro v' w1 hown hgrow hnl hat)
  go_ret
  have hB:Below w.heap.size w w1:=((Below.refl w.heap.size w).alloc (Nat.le_refl _) (.cells #[] 30)).grown hgrow (by simp) (fun g hg=>by cases hg;exact Nat.le_refl _)
  exact⟨_,rfl,by simpa using hown,hB⟩
end Go.Proofs.YtajbmjpodeilpaaGreatDoor
