/- package clauses: normal, Always, Norm. Maps of any values at integer keys (int, or a type of its kind), that the program made: their entries in the order of the keys. The watch, plainly: what its calls do. -/
import Derived.Test.YtoojmhjagipmdaaGreatV309
import Derived.Test.YtoojmhjagipmdaaGreatV300
import Derived.Maps.OwnSet
import Derived.Maps.OwnOps
import Derived.Test.YtoojmhjagipmdaaGreatV304
import Derived.Test.YtoojmhjagipmdaaGreatV303
namespace Go.Proofs.YtoojmhjagipmdaaGreat
open Go.RowKit Go.Shelf Go.Sort
attribute [local go_sem] Oper.semAt_some
def onceL:Int→List Int→List Int
 | _,[]=> []
 | last,x::r=>if x=last then onceL last r else x::onceL x r
def normL (xs:List Int):List Int:=onceL 0 (sortL xs)
structure SPre (ys:List Int) (n:Nat) (pre:List (Int×Nat)) (x:Int×Nat) (W:World):Prop where
 lon:n≤x.2
 size:x.2≤W.heap.size
 same: ∀y∈pre,y.2=x.2
 run:pre.map Prod.fst++ [x.1] <+: ys
def SPost (X0:Nat→Prop) (x:Int×Nat) (W W':World):Prop:=KpC (fun g=>x.2≤g∨X0 g) W W'
theorem SPost.turn {X0:Nat→Prop} {x:Int×Nat} {W W3:World} {l:Nat} {r r':Loop} (h:SPost X0 x W W3) (hl:W3.heap[l]? =some (.loop r)):SPost X0 x W (W3.putObj l (.loop r')):=
 KpC.trans h ((KpC.putObj W3 l _ _ hl rfl rfl).mono (fun _ _ e=>e.elim))
def sv (x:Int×Nat):Array Value:= #[.int .i64 x.1]
theorem own_from_below' {α:Type} {B:Nat} {I:α→World→Prop} (h:OwnFrom B I) {s:α} {W W':World} (hs:I s W) (hb:Below W.heap.size W W'):I s W':=
 h s W W' none hs ⟨hb.os,hb.tape,hb.output,hb.size,fun k hk _=>hb.block k hk⟩ (fun r e=>by cases e)
theorem own_cell {w:World} {base:Nat} {t:TypeId} {v:Value} {xs:List Int} {k:Nat} {x:Int} (h:w.ownsRow base t 1 v xs.length (xs.map (Value.int .i64))) (hx:xs[k]? =some x):
  ∃g c,v= .slice (some ⟨g,0,none⟩) xs.length c∧base≤g∧g<w.heap.size∧w.cell? ⟨g,k,none⟩=some (.int .i64 x):=by
 obtain⟨g,c,cs,rfl,h1,h2,h3,_⟩:=mx_some h (by have:=(List.getElem?_eq_some_iff.1 hx).1;omega)
 exact⟨g,c,rfl,h2,h3,mx_at h (by rw[List.getElem?_map,hx];rfl)⟩
theorem sorted_run (A:Option Addr) (n c:Nat) (w:World):Calls Tryz.prog 72 #[.slice A n c] w fun e w'=>e= .returned (.func (.func 117) #[] #[.pointer (some ⟨w.heap.size,0,none⟩)])∧w.alloc (.cells #[.slice A n c] 34)=w':=by
 go_enter Tryz.func72,Tryz.ntmps72
 go_wp2
 go_ret
 exact⟨rfl,rfl⟩
set_option maxRecDepth 100000 in
set_option maxHeartbeats 4000000 in
theorem sorted_stops {O:Nat→Prop} (X0:Nat→Prop) (Bb:Nat) (u:Value) (xs:List Int) (w:World) (hB:w.cell? ⟨Bb,0,none⟩=some u) (hu:IntsIn O w u xs) (hlen:xs.length≤1000000000000) (hX0: ∀g,X0 g→g<w.heap.size):
  SeqM Tryz.prog 117 #[.pointer (some ⟨Bb,0,none⟩)] sv (SPre (normL xs)) (SPost X0) (fun _ _ _=>True) (fun ys=>ys.map Prod.fst=normL xs) (fun pre=>pre.map Prod.fst <+: normL xs∧pre≠ []) w:=by
 intro l J Jx W hW hJ hJx hY h0
 have hB':=World.block_lt_of_cell? w _ hB
 have d0:W.cell? ⟨Bb,0,none⟩=some u:=(hW.cell (p:=⟨Bb,0,none⟩) hB').trans hB
 have hzW:=hW.size
 have HU:=Lib.hid (hu.below hW)
 obtain⟨A,c,rfl,hc,_,_⟩:=hu
 obtain⟨W1,hW1⟩: ∃x,W.alloc (.cells #[.slice A xs.length c] 34)=x:=⟨_,rfl⟩
 have hb1:Below W.heap.size W W1:=by rw[←hW1];exact mx_al _ _
 have hc1:W1.cell? ⟨W.heap.size,0,none⟩=some (.slice A xs.length c):=by rw[←hW1];exact mx_cell (j:=0) (World.alloc_heap_new _ _)
 have hz1:W1.heap.size=W.heap.size+1:=by rw[←hW1];simp
 have HSV:=Lib.hid (sorted_values W.heap.size _ xs W1 hc1 (HU.out.below hb1) hlen)
 have HW1:=Lib.hid hW1
 have HB1:=Lib.hid hb1
 have HJ:=Lib.hid hJ
 have HY:=Lib.hid hY
 have HX0:=Lib.hid hX0
 have H0:=Lib.hid h0
 have HSL:=Lib.hid (show(sortL xs).length≤1000000000000 by rw[sortL_length];exact hlen)
 obtain⟨s,hs⟩: ∃s,sortL xs=s:=⟨_,rfl⟩
 have HN:=Lib.hid (show normL xs=onceL 0 s by unfold normL;rw[hs])
 rw[hs]at HSV HSL
 clear hB hW hc1 hW1 hb1 hJ hJx hY hX0 h0 hs hlen
 refine callsIn_of_wp Tryz.func117 rfl trivial ?_ rfl
 simp only[Tryz.ntmps117,List.size_toArray,List.length_cons,List.length_nil,Nat.reduceAdd,Nat.reduceSub,Array.replicate_succ,Array.replicate_zero,List.push_toArray,List.append_toArray,List.nil_append,List.cons_append]
 gi_wp2_with fail
 refine⟨trivial,?_⟩
 refine(callsIn_wide.2 (values_run A xs.length c W)).mono ?_
 rintro e W' ⟨rfl,rfl⟩
 gi_wp2_with fail
 refine⟨trivial,?_⟩
 rw[HW1.out]
 refine(callsIn_wide.2 HSV.out).mono ?_
 rintro e W2 ⟨v,rfl,hr,hb2⟩
 obtain⟨Av,cv,rfl,hcv⟩:=mx_slice hr
 have HR:=Lib.hid hr
 have HB2:=Lib.hid (HB1.out.trans (hb2.mono (by omega)))
 have hz2:=hb2.size
 have HJ2:=Lib.hid (own_from_below' HJ.out H0.out HB2.out)
 clear hr hb2 d0
 have hsl:=HSL.out
 gi_wp2
 gi_loopw [3,10] (fun la i wr=> ∃(k:Nat) (last:Int) (pre:List (Int×Nat)),k≤s.length∧i= .int .i64 k∧la= .int .i64 last∧Hid (pre.map Prod.fst++onceL last (s.drop k)=normL xs)∧Hid (∀y∈pre,y.2=W2.heap.size)∧Hid (KpC (fun g=>W2.heap.size≤g∨X0 g) W2 wr)∧Hid (J pre wr)) (fun _ i _=>s.length-(intOf i).toNat)
 case atStart=>exact⟨0,0,[],Nat.zero_le _,rfl,rfl,Lib.hid (by rw[HN.out];rfl),Lib.hid (fun y hy=>by cases hy),Lib.hid (KpC.refl _ _),HJ2⟩
 case round=>
  obtain⟨k,last,pre,hk,rfl,rfl,HP,HSM,HK,HJS⟩:=hrel
  by_cases hlt:k<s.length
  ·obtain⟨x,hxk⟩:=getElem_of hlt
   obtain⟨g,c',hv,hg0,hg,e0⟩:=own_cell HR.out hxk
   simp only[Value.slice.injEq,true_and]at hv
   obtain⟨rfl,rfl⟩:=hv
   have d1:wr.cell? ⟨g,k,none⟩=some (.int .i64 x):=((HK.out.kept.cell (p:=⟨g,k,none⟩) hg (fun h=>by
    rcases h with(h|h)|h
    ·simp only at h;omega
    ·have:=HX0.out _ h
     simp only at this;omega
    ·exact xo_cell e0 h))).trans e0
   have hdk:s.drop k=x::s.drop (k+1):=by
    rw[List.drop_eq_getElem_cons hlt]
    rw[List.getElem?_eq_getElem hlt]at hxk
    rw[Option.some.inj hxk]
   have HDK:=Lib.hid hdk
   by_cases he:x=last
   ·have q0:(x==last)=true:=by simpa using he
    have HP':=Lib.hid (show pre.map Prod.fst++onceL last (s.drop (k+1))=normL xs from by
     rw[←HP.out,hdk]
     simp only[onceL]
     rw[if_pos he])
    clear he hxk hdk e0
    gi_wp2
    go_roundw
    case rel=>exact⟨k+1,last,pre,by omega,by go_num,rfl,HP',HSM,HK,HJS⟩
    case measure=>simp[intOf];omega
   ·have q0:(x==last)=false:=by simpa using he
    have HP':=Lib.hid (show(pre++ [(x,W2.heap.size)]).map Prod.fst++onceL x (s.drop (k+1))=normL xs from by
     rw[←HP.out,hdk]
     simp only[onceL]
     rw[if_neg he]
     simp)
    obtain⟨fn,tmps,assign,body,hy,hR⟩:=yield_any 8 (HY.out pre (x,W2.heap.size) wr HJS.out ⟨by simp only;omega,HK.out.size,HSM.out,by rw[←HP'.out];simp⟩)
    dsimp only[sv]at hy
    have HRR:=Lib.hid hR
    clear he hxk hdk e0 hR
    gi_wp2_with fail
    refine HRR.out.mono ?_
    rintro e W3 (⟨rfl,hJ3,hk3⟩|⟨rfl,hJx3,_⟩)
    ·have HJ3:=Lib.hid hJ3
     have HK3:=Lib.hid (HK.out.trans hk3)
     clear hJ3 hk3 hy d1
     gi_wp2_with fail
     go_roundw
     case rel=>exact⟨k+1,x,pre++ [(x,W2.heap.size)],by omega,by go_num,rfl,HP',Lib.hid (fun y hy=>by
      rcases List.mem_append.1 hy with h|h
      ·exact HSM.out y h
      ·rw[List.mem_singleton.1 h]),HK3,HJ3⟩
     case measure=>simp[intOf];omega
    ·gi_wp2
     refine bodyPost_ret (results_none rfl _ _ _) rfl ?_
     exact⟨⟨_,rfl⟩,.inr ⟨pre++ [(x,W2.heap.size)],⟨⟨_,HP'.out⟩,by simp⟩,hJx3⟩⟩
  ·obtain rfl:k=s.length:=by omega
   gi_wp2
   go_end0
   refine⟨⟨_,rfl⟩,.inl ⟨pre,?_,HJS.out⟩⟩
   have:=HP.out
   rw[List.drop_length]at this
   simpa [onceL] using this
end Go.Proofs.YtoojmhjagipmdaaGreat
namespace Go.Proofs.YtoojmhjagipmdaaGreat
open Go.RowKit Go.Shelf Go.Sort
attribute [local go_sem] Oper.semAt_some
theorem onceL_len (l:Int) (xs:List Int):(onceL l xs).length≤xs.length:=by
 induction xs generalizing l with
 | nil=>exact Nat.le_refl _
 | cons x r ih=>
  unfold onceL
  split
  ·exact Nat.le_succ_of_le (ih l)
  ·exact Nat.succ_le_succ (ih x)
theorem normL_len (xs:List Int):(normL xs).length≤xs.length:=by
 have:=onceL_len 0 (sortL xs)
 rw[sortL_length]at this
 exact this
theorem onceL_mem {l x:Int} {xs:List Int} (h:x∈onceL l xs):x∈xs:=by
 induction xs generalizing l with
 | nil=>exact h
 | cons y r ih=>
  unfold onceL at h
  split at h
  ·exact List.mem_cons_of_mem _ (ih h)
  ·rcases List.mem_cons.1 h with rfl|h
   ·exact List.mem_cons_self
   ·exact List.mem_cons_of_mem _ (ih h)
theorem normL_mem {x:Int} {xs:List Int} (h:x∈normL xs):x∈xs:=sortL_mem.1 (onceL_mem h)
def alwGo:Int→List Int→Bool
 | _,[]=>false
 | last,x::r=>(last != 0&&x==litN last)||alwGo x r
def alwL (xs:List Int):Bool:=clauseB xs&&alwGo 0 (normL xs)
theorem own_rebase {w:World} {b b' size n:Nat} {e:TypeId} {v:Value} {xs:List Value} (h:w.ownsRow b e size v n xs) (hb: ∀g,v.ownBlock=some g→b'≤g):w.ownsRow b' e size v n xs:=by
 refine⟨h.1,?_⟩
 rcases h.2 with hn|⟨g,cap,cur,hv,_,rest⟩
 ·exact .inl hn
 ·exact .inr ⟨g,cap,cur,hv,hb g (by rw[hv];rfl),rest⟩
theorem keepsRec_others {W W':World} (h:KeepsOthers W W'):KeepsRec W W':=fun k o hk h1 _=>h.2 k o hk h1
def GI (w:World) (B:Nat) (t:TypeId) (pre:List (Int×Nat)) (W:World):Prop:=
 (∃v,Boxed W B t v∧W.ownsRow w.heap.size 32 1 v pre.length ((pre.map Prod.fst).map (Value.int .i64))∧∀g,v.ownBlock=some g→pre≠ []∧∀y∈pre,y.2≤g)∧Below w.heap.size w W∧w.heap.size≤W.heap.size
theorem gi_own (w:World) (B:Nat) (t:TypeId) {N:Nat} (hN:w.heap.size≤N):OwnFrom N (GI w B t):=by
 refine OwnFrom.and (Own.from (holdsRow_own _ _ _ _ 1 (fun pre:List (Int×Nat)=>pre.length) (fun pre=>(pre.map Prod.fst).map (Value.int .i64)) (fun pre v=> ∀g,v.ownBlock=some g→pre≠ []∧∀y∈pre,y.2≤g)) _) (OwnFrom.and (ownFrom_below (Nat.le_refl _) hN) (fun _ X Y row h hg _=>Nat.le_trans h hg.size))
def GMid (X0:Nat→Prop) (I:List (Int×Nat)→World→Prop) (ys:List Int) (n:Nat) (pre:List (Int×Nat)) (x:Int×Nat) (W:World) (_:Nat) (W':World):Prop:=I pre W'∧SPre ys n pre x W'∧SPost X0 x W W'
theorem GMid.turn {X0:Nat→Prop} {I:List (Int×Nat)→World→Prop} {N:Nat} (hI:OwnFrom N I) {ys:List Int} {n:Nat} {pre:List (Int×Nat)} {x:Int×Nat} {W W':World} {B l:Nat} {r r':Loop} (hl:N≤l) (h2:W'.heap[l]? =some (.loop r)) (h:GMid X0 I ys n pre x W B W'):GMid X0 I ys n pre x W B (W'.putObj l (.loop r')):=
 ⟨hI.putObj _ h.1 hl h2 rfl,⟨h.2.1.lon,Nat.le_trans h.2.1.size (grownBy_putObj' W' l (.loop r')).size,h.2.1.same,h.2.1.run⟩,SPost.turn h.2.2 h2⟩
set_option maxRecDepth 100000 in
set_option maxHeartbeats 4000000 in
theorem normal_any {O:Nat→Prop} (u:Value) (xs:List Int) (w:World) (hu:IntsIn O w u xs) (hlen:xs.length≤1000000000000):
  Calls Tryz.prog 65 #[u] w fun e w'=> ∃v,e= .returned v∧w'.ownsRow w.heap.size 32 1 v (normL xs).length ((normL xs).map (Value.int .i64))∧Below w.heap.size w w':=by
 obtain⟨i0,hi,iz0,iz1,iz2⟩:=info_parts cinfo_lit
 obtain⟨W1,hW1⟩: ∃x,w.alloc (.cells #[.slice none 0 0] 34)=x:=⟨_,rfl⟩
 have hb1:Below w.heap.size w W1:=by rw[←hW1];exact mx_al _ _
 have hc1:Boxed W1 w.heap.size 34 (.slice none 0 0):=by rw[←hW1];exact Boxed.new _ _ _
 have hz1:W1.heap.size=w.heap.size+1:=by rw[←hW1];simp
 have HU:=Lib.hid (hu.below hb1)
 obtain⟨A,c,rfl,_⟩:=hu
 obtain⟨W2,hW2⟩: ∃x,W1.alloc (.cells #[.slice A xs.length c] 34)=x:=⟨_,rfl⟩
 have hb2:Below W1.heap.size W1 W2:=by rw[←hW2];exact mx_al _ _
 have hc2:W2.cell? ⟨W1.heap.size,0,none⟩=some (.slice A xs.length c):=by rw[←hW2];exact mx_cell (j:=0) (World.alloc_heap_new _ _)
 have hz2:W2.heap.size=w.heap.size+2:=by rw[←hW2];simp[hz1]
 have hc12:Boxed W2 w.heap.size 34 (.slice none 0 0):=by rw[←hW2];exact hc1.alloc _
 have HW1:=Lib.hid hW1
 have HW2:=Lib.hid hW2
 have hbw:Below w.heap.size w W2:=hb1.trans (hb2.mono (by omega))
 have HSEQ:=Lib.hid (sorted_stops (fun g=>g=w.heap.size) (w.heap.size+1) _ xs W2 (hz1▸hc2) (HU.out.below hb2) hlen (fun g hg=>by omega))
 have HI0:=Lib.hid (show GI w w.heap.size 34 [] W2 from⟨⟨_,hc12,World.ownsRow_nil _ _ _ _,fun g hg=>by cases hg⟩,hbw,by omega⟩)
 have HNL:=Lib.hid (normL_len xs)
 obtain⟨ys,hys⟩: ∃y,normL xs=y:=⟨_,rfl⟩
 rw[hys]at HSEQ HNL⊢
 clear hb1 hc1 hW1 hW2 hb2 hc2 hc12 hbw hys
 refine(callsIn_wide (n:=10)).1 ?_
 refine callsIn_of_wp_marks Tryz.func65 rfl trivial ?_ rfl
 simp only[Tryz.ntmps65,List.size_toArray,List.length_cons,List.length_nil,Nat.reduceAdd,Nat.reduceSub,Array.replicate_succ,Array.replicate_zero,List.push_toArray,List.append_toArray,List.nil_append,List.cons_append]
 gi_wp2_with fail
 rw[HW1.out]
 refine⟨trivial,?_⟩
 refine(callsIn_wide.2 (sorted_run A xs.length c W1)).mono ?_
 rintro e W' ⟨rfl,rfl⟩
 rw[HW2.out]
 gi_wp2_with fail
 refine wpIn_range_M (gf:=117) (lb:= #[.pointer (some ⟨w.heap.size+1,0,none⟩)]) rfl (enters_of Tryz.func117 (by kernel_rfl) rfl) HSEQ.out (Below.refl _ _) (fun _=>rfl)
  (fun pre x W W3 l r r' h1 h2 h3 h4=>SPost.turn h4 h3) (fun pre x W W3 l r r' h1 h2 h3 h4=>trivial)
  (GI w w.heap.size 34) (fun _ _=>False) (gi_own _ _ _ (by omega)) (fun pre W W' row h _ _=>h) HI0.out
  ?frame (GMid (fun g=>g=w.heap.size) (GI w w.heap.size 34) ys (W2.heap.size+2))
  (fun pre x W Bx W' l r r' h1 h2 h3 h4=>h4.turn (gi_own _ _ _ (by omega)) h1 h3)
  ?assign ?body ?done ?stop
 case assign=>
  rintro l pre x W K hi hp hK
  dsimp only[sv]
  gi_wp2
  obtain⟨Bx,hBx⟩: ∃b:Nat,b=0:=⟨0,rfl⟩
  exact hK Bx W (KeepsRec.refl W) ⟨hi,hp,KpC.refl _ _⟩
 case body=>
  rintro l pre x W Bx W' ⟨⟨⟨v,hv,hr,hf⟩,hb,hz⟩,hp,hk⟩
  have q1:=hv.cell
  have q2:=hv.frozen
  have hr':=own_rebase (b':=x.2) hr (fun g hg=>by
   have h:=hf g hg
   obtain⟨y,hy⟩:=List.exists_mem_of_ne_nil _ h.1
   rw[←hp.same y hy]
   exact h.2 y hy)
  obtain⟨A,c,rfl,hc⟩:=mx_slice hr
  have hln:pre.length≤xs.length:=by
   have h1:=hp.run.length_le
   have h2:=HNL.out
   simp at h1
   omega
  obtain⟨x1,hx1⟩: ∃z,x.1=z:=⟨_,rfl⟩
  rw[hx1]
  have HX1:=Lib.hid hx1
  have HV:=Lib.hid hv
  have HR:=Lib.hid hr
  have HR':=Lib.hid hr'
  have HB:=Lib.hid hb
  have HF:=Lib.hid hf
  have HP:=Lib.hid hp
  have HK:=Lib.hid hk
  clear hv hr hb hr' hf hp hk hx1
  gi_wp2_with (gi_at_builtin;refine wpListIn_append_own _ rfl _ _ 34 rfl x.2 32 i0 (.int .i64 0) 1 8 Tryz.underlying34 hi iz0 iz1 iz2 rfl (by decide) _ _ _ rfl (HR'.out.alloc _) ⟨W'.heap.size,0,none⟩ 1 1 [.int .i64 x1] rfl rfl ?c1 ?c2 ?c3 ?c4 ?c5 ?_)
  case c1=>
   intro j u hj
   match j,hj with
   | 0,hj=>simp at hj;subst hj;simp[Addr.add]
  case c2=>intro u hu;simp at hu;subst hu;rfl
  case c3=>unfold maxLen;omega
  case c4=>omega
  case c5=>have:=HP.out.size;simp;omega
  ·intro v' w1 hown' hgrow _
   have hlo:=HP.out.lon
   have hnew:=own_rebase (b':=w.heap.size) hown' (fun g hg=>by have:=(own_lt hown' g hg).1;omega)
   have hA:=Boxed.appended HV.out (by decide) HR.out hz (Nat.le_refl _) hnew hgrow
   obtain⟨g1,cap,rfl⟩:=ownsRow_succ hown'
   have hg1:=(own_lt hown' g1 rfl).1
   obtain⟨a1,a2,a3,a4,a5⟩:=hA
   have q3:=a1.cell
   have q4:=a1.frozen
   have A2:=Lib.hid a2
   have A3:=Lib.hid a3
   have A4:=Lib.hid a4
   have A5:=Lib.hid a5
   have A6:=Lib.hid (show SPost (fun g=>g=w.heap.size) x W' (w1.setCell ⟨w.heap.size,0,none⟩ (.slice (some ⟨g1,0,none⟩) (pre.length+1) cap))from
    ((KpC.of_below (mx_al W' _)).trans ((KpC.of_grown hgrow).mono (fun g _ h=>.inl (by
     have hq:=HF.out g h.symm
     obtain⟨y,hy⟩:=List.exists_mem_of_ne_nil _ hq.1
     rw[←HP.out.same y hy]
     exact hq.2 y hy)))).trans ((KpC.of_grown (grownBy_setCell' w1 w.heap.size _)).mono (fun g _ h=>.inr (by cases h;rfl))))
   clear a1 a2 a3 a4 a5 hown' hgrow hnew
   gi_wp2
   refine⟨keepsRec_others A4.out,⟨⟨_,by simpa using A2.out,?_,fun g hg=>⟨by simp,fun y hy=>?_⟩⟩,HB.out.trans A5.out,Nat.le_trans hz A5.out.size⟩,HK.out.trans A6.out⟩
   ·have h:=A3.out
    rw[←HX1.out]at h
    simpa using h
   ·have:g1=g:=by simpa [Value.ownBlock] using hg
    rcases List.mem_append.1 hy with h|h
    ·rw[HP.out.same y h]
     omega
    ·rw[List.mem_singleton.1 h]
     omega
 case done=>
  rintro D zs W hD hS ⟨⟨v,hv,hr,-⟩,hb,hz⟩ hDf
  have q1:=hv.cell
  have hl:zs.length=ys.length:=by rw[←hS,List.length_map]
  rw[hS,hl]at hr
  have HR:=Lib.hid hr
  have HB:=Lib.hid hb
  have HD:=Lib.hid hDf
  obtain⟨A,c,rfl,hc⟩:=mx_slice hr
  clear hv hr hb hDf hS
  gi_wp2
  refine⟨by simp,.inl ⟨_,_,rfl,run_takeDeferred HD.out,?_⟩⟩
  have hD0:w.heap.size≤D:=by omega
  refine⟨_,results_tmp rfl _ _ _,_,rfl,ownsRow_putObj HR.out _ HD.out rfl,HB.out.trans ?_⟩
  exact(Below.refl _ _).grown (grownBy_putObj' W D _) hz (fun g e=>by cases e;exact hD0)
 case stop=>
  rintro D pre W hD _ hf _
  exact hf.elim
end Go.Proofs.YtoojmhjagipmdaaGreat
namespace Go.Proofs.YtoojmhjagipmdaaGreat
open Go.RowKit Go.Maps Go.MapKept Go.ChangeMaps
open Go.WideElems (Fit rd rg pl rd_val elemAt)
section
variable {α β:Type}
def insA (x:Int×α):List (Int×α)→List (Int×α)
 | []=> [x]
 | y::r=>if x.1<y.1 then x::y::r else y::insA x r
def delA (m:List (Int×α)) (x:Int):List (Int×α):=m.filter fun p=>decide (p.1≠x)
def putA (m:List (Int×α)) (x:Int) (v:α):List (Int×α):=insA (x,v) (delA m x)
def getA (m:List (Int×α)) (x:Int):Option α:=(m.find? fun p=>decide (p.1=x)).map (·.2)
theorem insA_mem {x:Int×α} {m:List (Int×α)} {p:Int×α}:p∈insA x m↔p=x∨p∈m:=by
 induction m with
 | nil=>simp[insA]
 | cons y r ih=>
  unfold insA
  split
  ·simp
  ·simp only[List.mem_cons,ih]
   constructor
   ·rintro (h|h|h)
    ·exact .inr (.inl h)
    ·exact .inl h
    ·exact .inr (.inr h)
   ·rintro (h|h|h)
    ·exact .inr (.inl h)
    ·exact .inl h
    ·exact .inr (.inr h)
theorem delA_mem {m:List (Int×α)} {x:Int} {p:Int×α}:p∈delA m x↔p∈m∧p.1≠x:=by
 unfold delA
 rw[List.mem_filter,decide_eq_true_eq]
def Rising (m:List (Int×α)):Prop:=m.Pairwise fun p q=>p.1<q.1
theorem Rising.del {m:List (Int×α)} (h:Rising m) (x:Int):Rising (delA m x):=List.Pairwise.filter _ h
theorem Rising.ins {m:List (Int×α)} (h:Rising m) {x:Int×α} (hx: ∀p∈m,p.1≠x.1):Rising (insA x m):=by
 induction m with
 | nil=>exact List.pairwise_singleton _ _
 | cons y r ih=>
  obtain⟨h1,h2⟩:=List.pairwise_cons.1 h
  unfold insA
  split
  ·rename_i hlt
   refine List.pairwise_cons.2 ⟨fun p hp=>?_,h⟩
   rcases List.mem_cons.1 hp with rfl|hp
   ·exact hlt
   ·exact Int.lt_trans hlt (h1 p hp)
  ·rename_i hge
   refine List.pairwise_cons.2 ⟨fun p hp=>?_,ih h2 (fun p hp=>hx p (List.mem_cons_of_mem _ hp))⟩
   rcases insA_mem.1 hp with rfl|hp
   ·have:=hx y List.mem_cons_self
    omega
   ·exact h1 p hp
theorem Rising.put {m:List (Int×α)} (h:Rising m) (x:Int) (v:α):Rising (putA m x v):=(h.del x).ins (fun _ hp=>(delA_mem.1 hp).2)
theorem Rising.eq_of {m:List (Int×α)} (h:Rising m) {p q:Int×α} (hp:p∈m) (hq:q∈m) (he:p.1=q.1):p=q:=by
 induction m with
 | nil=>cases hp
 | cons y r ih=>
  obtain⟨h1,h2⟩:=List.pairwise_cons.1 h
  rcases List.mem_cons.1 hp with rfl|hp'
  ·rcases List.mem_cons.1 hq with rfl|hq'
   ·rfl
   ·have:=h1 q hq'
    omega
  ·rcases List.mem_cons.1 hq with rfl|hq'
   ·have:=h1 p hp'
    omega
   ·exact ih h2 hp' hq'
theorem getA_some {m:List (Int×α)} {x:Int} {v:α} (h:getA m x=some v):(x,v)∈m:=by
 unfold getA at h
 cases hf:m.find? (fun p=>decide (p.1=x))with
 | none=>rw[hf]at h;cases h
 | some p=>
  rw[hf]at h
  obtain rfl:=Option.some.inj h
  have h1:=List.find?_some hf
  rw[decide_eq_true_eq]at h1
  have h2:=List.mem_of_find?_eq_some hf
  rw[←h1]
  exact h2
theorem getA_of {m:List (Int×α)} (hr:Rising m) {x:Int} {v:α} (h:(x,v)∈m):getA m x=some v:=by
 unfold getA
 cases hf:m.find? (fun p=>decide (p.1=x))with
 | none=>
  have:=List.find?_eq_none.1 hf _ h
  simp at this
 | some p=>
  have h1:=List.find?_some hf
  rw[decide_eq_true_eq]at h1
  have:=hr.eq_of (List.mem_of_find?_eq_some hf) h h1
  rw[this]
  rfl
theorem getA_none {m:List (Int×α)} {x:Int}:getA m x=none↔∀v,(x,v)∉m:=by
 constructor
 ·intro h v hv
  unfold getA at h
  rw[Option.map_eq_none_iff,List.find?_eq_none]at h
  have:=h _ hv
  simp at this
 ·intro h
  cases hg:getA m x with
  | none=>rfl
  | some v=>exact absurd (getA_some hg) (h v)
theorem getA_put {m:List (Int×α)} (hr:Rising m) (x:Int) (v:α) (y:Int):getA (putA m x v) y=if y=x then some v else getA m y:=by
 by_cases h:y=x
 ·subst h
  rw[if_pos rfl]
  exact getA_of (hr.put _ _) (insA_mem.2 (.inl rfl))
 ·rw[if_neg h]
  cases hg:getA m y with
  | some u=>exact getA_of (hr.put _ _) (insA_mem.2 (.inr (delA_mem.2 ⟨getA_some hg,h⟩)))
  | none=>
   rw[getA_none]at hg⊢
   intro u hu
   rcases insA_mem.1 hu with h'|h'
   ·simp only[Prod.mk.injEq]at h'
    exact h h'.1
   ·exact hg u (delA_mem.1 h').1
theorem getA_del {m:List (Int×α)} (hr:Rising m) (x y:Int):getA (delA m x) y=if y=x then none else getA m y:=by
 by_cases h:y=x
 ·subst h
  rw[if_pos rfl,getA_none]
  intro u hu
  exact(delA_mem.1 hu).2 rfl
 ·rw[if_neg h]
  cases hg:getA m y with
  | some u=>exact getA_of (hr.del _) (delA_mem.2 ⟨getA_some hg,h⟩)
  | none=>
   rw[getA_none]at hg⊢
   exact fun u hu=>hg u (delA_mem.1 hu).1
def mapV (f:α→β) (m:List (Int×α)):List (Int×β):=m.map fun p=>(p.1,f p.2)
theorem mapV_ins (f:α→β) (x:Int×α) (m:List (Int×α)):mapV f (insA x m)=insA (x.1,f x.2) (mapV f m):=by
 induction m with
 | nil=>rfl
 | cons y r ih=>
  unfold mapV at ih⊢
  simp only[insA,List.map_cons]
  split
  ·rfl
  ·rw[List.map_cons,ih]
theorem mapV_del (f:α→β) (m:List (Int×α)) (x:Int):mapV f (delA m x)=delA (mapV f m) x:=by
 unfold mapV delA
 rw[List.filter_map]
 rfl
theorem mapV_put (f:α→β) (m:List (Int×α)) (x:Int) (v:α):mapV f (putA m x v)=putA (mapV f m) x (f v):=by
 unfold putA
 rw[mapV_ins,mapV_del]
theorem mapV_get (f:α→β) (m:List (Int×α)) (x:Int):getA (mapV f m) x=(getA m x).map f:=by
 unfold getA mapV
 rw[List.find?_map]
 have:((fun p:Int×β=>decide (p.1=x)) ∘ fun p:Int×α=>(p.1,f p.2))=fun p:Int×α=>decide (p.1=x):=rfl
 rw[this]
 cases m.find? (fun p=>decide (p.1=x)) <;> rfl
theorem mapV_length (f:α→β) (m:List (Int×α)):(mapV f m).length=m.length:=List.length_map _
theorem mapV_rising_of {f:α→β} {m:List (Int×α)} (h:Rising (mapV f m)):Rising m:=by
 unfold Rising mapV at h
 rw[List.pairwise_map]at h
 exact h
theorem Rising.length_le {m:List (Int×α)} (h:Rising m) {lo hi:Int} (hr: ∀p∈m,lo≤p.1∧p.1≤hi) (hlo:lo≤hi+1):(m.length:Int)≤hi-lo+1:=by
 induction m generalizing lo with
 | nil=>simp;omega
 | cons y r ih=>
  obtain⟨h1,h2⟩:=List.pairwise_cons.1 h
  have hy:=hr y List.mem_cons_self
  have:=ih (lo:=y.1+1) h2 (fun p hp=>⟨by have:=h1 p hp;omega,(hr p (List.mem_cons_of_mem _ hp)).2⟩) (by omega)
  simp only[List.length_cons]
  omega
end
def mapR (v:Value):Option (DataW Value×List MemPlace):=some (.held v,[])
def encE (m:List (Int×Value)):List (Lit×DataW Value):=m.map fun p=>(.int .i64 p.1,.held p.2)
theorem encE_ins (x:Int×Value) (m:List (Int×Value)):DataW.insert (.int .i64 x.1,.held x.2) (encE m)=encE (insA x m):=by
 induction m with
 | nil=>rfl
 | cons y r ih=>
  have hb:(Lit.int .i64 x.1).before (.int .i64 y.1)=decide (x.1<y.1):=rfl
  show(if(Lit.int .i64 x.1).before (.int .i64 y.1)=true then _ else _)=_
  by_cases h:x.1<y.1
  ·rw[if_pos (by rw[hb];exact decide_eq_true h)]
   unfold insA
   rw[if_pos h]
   rfl
  ·rw[if_neg (by rw[hb];simpa using h)]
   unfold insA
   rw[if_neg h]
   show _::DataW.insert _ (encE r)=_
   rw[ih]
   rfl
theorem encE_del (m:List (Int×Value)) (x:Int):(encE m).filter (fun p=> !p.1.sameKey (.int .i64 x))=encE (delA m x):=by
 unfold encE delA
 rw[List.filter_map]
 congr 1
 refine List.filter_congr (fun p _=>?_)
 simp[Lit.sameKey]
section
variable {P:Program} {kt t et:TypeId} {w:World} {b:Nat} {m:List (Int×Value)}
def MapS (P:Program) (kt:TypeId) (w:World) (b:Nat) (m:List (Int×Value)):Prop:=
 w.ownsMap P kt mapR b m.length (.map (encE m))∧Rising m∧∀p∈m,(Lit.int .i64 p.1).wf=true
theorem MapS.lt (h:MapS P kt w b m):b<w.heap.size:=h.1.lt
theorem MapS.rising (h:MapS P kt w b m):Rising m:=h.2.1
theorem MapS.kept {O:Nat→Prop} {w':World} (h:MapS P kt w b m) (k:Kept O w w') (hO: ¬O b):MapS P kt w' b m:=by
 obtain⟨⟨es,cl,hb,rest⟩,h2⟩:=h
 exact⟨⟨es,cl,(k.block b (heap_lt hb) hO).trans hb,rest⟩,h2⟩
theorem MapS.below {w':World} (h:MapS P kt w b m) (k:Below w.heap.size w w'):MapS P kt w' b m:=h.kept (O:=fun _=>False) (Kept.of_below k) (fun h=>h)
theorem MapS.made (w:World):MapS P kt (w.alloc (.map #[] 0)) w.heap.size []:=
 ⟨World.ownsMap_made _ _ _ _,List.Pairwise.nil,fun p hp=>by cases hp⟩
theorem ownsMap_exact {R:Value→Option (DataW Value×List MemPlace)} {n:Nat} {E:List (Lit×DataW Value)} (h:w.ownsMap P kt R b n (.map E)):w.ownsMap P kt R b E.length (.map E):=by
 obtain⟨es,cl,hb,F,_,hD⟩:=h
 refine⟨es,cl,hb,F,?_,hD⟩
 cases hD
 rw[length_sorted]
 simp
theorem encE_length (m:List (Int×Value)):(encE m).length=m.length:=List.length_map _
theorem atKey_encE (m:List (Int×Value)) (x:Int) (z:DataW Value):(DataW.map (encE m)).atKey (.int .i64 x) z=match getA m x with
  | some v=>.held v
  | none=>z:=by
 have e:(encE m).find? (fun p=>p.1.sameKey (.int .i64 x))=(m.find? (fun p=>decide (p.1=x))).map fun p=>(.int .i64 p.1,.held p.2):=by
  unfold encE
  rw[List.find?_map]
  have:((fun p:Lit×DataW Value=>p.1.sameKey (.int .i64 x)) ∘ fun p:Int×Value=>(Lit.int .i64 p.1,DataW.held p.2))=fun p:Int×Value=>decide (p.1=x):=by
   funext p
   simp[Lit.sameKey]
  rw[this]
 unfold DataW.atKey getA
 simp only[e]
 cases m.find? (fun p=>decide (p.1=x)) <;> rfl
theorem MapS.look (h:MapS P kt w b m) (K:Keyed P kt) (hk:P.underlying kt=some (.int .i64)) (ht:P.underlying t=some (.map kt et)) {z:Value} (hz:(zeroValue et).run P w= .ok z w) (c:Bool) {x:Int} (hx:(Lit.int .i64 x).wf=true):
  (Instr.lookup t (.map (some b)) (.int .i64 x) c).run P w= .ok (if c then .tuple #[(getA m x).getD z,.bool (getA m x).isSome]else(getA m x).getD z) w:=by
 obtain⟨⟨es,cl,hb,F,_,hD⟩,_⟩:=h
 have hat0:=atKey_encE m x
 rw[hD]at hat0
 rcases Maps.fit_look c K ht hz hb F (keyOf_int_mk hk hx)with⟨hrun,_,hat⟩|⟨e0,y,_,_,hrun,hRv,hat,_⟩
 ·have h1:=hat0 .nil
  rw[hat]at h1
  cases hg:getA m x with
  | none=>rw[hrun];rfl
  | some v=>rw[hg]at h1;cases h1
 ·have h1:=hat0 .nil
  rw[hat]at h1
  have hy:y.1= .held e0.val:=by
   cases hRv
   rfl
  rw[hy]at h1
  cases hg:getA m x with
  | none=>rw[hg]at h1;cases h1
  | some v=>
   rw[hg]at h1
   cases h1
   rw[hrun]
   rfl
theorem MapS.of_put {w':World} {n:Nat} (hr:Rising m) (hw: ∀p∈m,(Lit.int .i64 p.1).wf=true) {x:Int} (hx:(Lit.int .i64 x).wf=true) {v:Value} (h:w'.ownsMap P kt mapR b n ((DataW.map (encE m)).put (.int .i64 x) (.held v))):MapS P kt w' b (putA m x v):=by
 have e:(DataW.map (encE m)).put (.int .i64 x) (.held v)= .map (encE (putA m x v)):=by
  show DataW.map (DataW.insert _ ((encE m).filter _))=_
  rw[encE_del,encE_ins (x,v)]
  rfl
 rw[e]at h
 have h2:=ownsMap_exact h
 rw[encE_length]at h2
 refine⟨h2,hr.put _ _,fun p hp=>?_⟩
 rcases insA_mem.1 hp with rfl|hp
 ·exact hx
 ·exact hw p (delA_mem.1 hp).1
theorem MapS.of_del {w':World} {n:Nat} (hr:Rising m) (hw: ∀p∈m,(Lit.int .i64 p.1).wf=true) {x:Int} (h:w'.ownsMap P kt mapR b n ((DataW.map (encE m)).del (.int .i64 x))):MapS P kt w' b (delA m x):=by
 have e:(DataW.map (encE m)).del (.int .i64 x)= .map (encE (delA m x)):=by
  show DataW.map ((encE m).filter _)=_
  rw[encE_del]
 rw[e]at h
 have h2:=ownsMap_exact h
 rw[encE_length]at h2
 exact⟨h2,hr.del _,fun p hp=>hw p (delA_mem.1 hp).1⟩
theorem MapS.update (h:MapS P kt w b m) (K:Keyed P kt) (hk:P.underlying kt=some (.int .i64)) (ht:P.underlying t=some (.map kt et)) (hn:m.length<maxLen) {x:Int} (hx:(Lit.int .i64 x).wf=true) (v:Value):
  ∃w',(Instr.mapUpdate t (.map (some b)) (.int .i64 x) v).run P w= .ok () w'∧MapS P kt w' b (putA m x v)∧w.grownBy w' (some b):=by
 obtain⟨w',h1,h2,h3⟩:=h.1.update K ht hn (keyOf_int_mk hk hx) (show mapR v=some (.held v,[])from rfl)
 exact⟨w',h1,MapS.of_put h.2.1 h.2.2 hx h2,h3⟩
theorem wpList_delS {ops:Array Oper} {rest:List Oper} {o:Oper} {a:Act} {Q:Exit→Act→World→Prop} (h:MapS P kt w b m) (K:Keyed P kt) (hk:P.underlying kt=some (.int .i64)) (ht:P.underlying t=some (.map kt et))
  (hg:o.guard=none) (mm x:Operand) (hop:o.op=Op.call { callee:=Callee.builtin Builtin.delete,args:= #[mm,x],argTypes:= #[t,kt] }) (hm:a.eval mm= .map (some b)) (i:Int) (hx:a.eval x= .int .i64 i) (hi:(Lit.int .i64 i).wf=true)
  (hK: ∀w',MapS P kt w' b (delA m i)→w.grownBy w' (some b)→wpList P ops Q rest (a.put o.dst (.tuple #[])) w'):wpList P ops Q (o::rest) a w:=
 wpList_delete_own w hg mm x t _ hop et K ht _ b m.length _ hm h.1 _ _ hx (keyOf_int_mk hk hi) (fun w' h1 h2=>hK w' (MapS.of_del h.2.1 h.2.2 h1) h2.grown)
end
end Go.Proofs.YtoojmhjagipmdaaGreat
namespace Go.Proofs.YtoojmhjagipmdaaGreat
open Go.RowKit Go.Shelf
def insI (r:List Int) (x:Int):List Int:=r.take (r.countP (· <x))++x::r.drop (r.countP (· <x))
def remI (r:List Int) (x:Int):List Int:=if r.contains x=true then r.eraseIdx (r.countP (· <x))else r
structure Kn where
 by_:List Int
 lits:List Int
structure Wst where
 known:List (Int×Kn)
 of:List (Int×List Int)
 looked:Nat
def Wst.row (S:Wst) (l:Int):List Int:=(getA S.of l).getD []
def Wst.kn (S:Wst) (id:Int):Option Kn:=getA S.known id
def Wst.put (S:Wst) (l id:Int):Wst:=⟨S.known,putA S.of l (insI (S.row l) id),S.looked⟩
def Wst.drop (S:Wst) (l id:Int):Wst:=if(S.row l).contains id=true then⟨S.known,putA S.of l (remI (S.row l) id),S.looked⟩else S
def Wst.set (S:Wst) (id:Int) (k:Kn):Wst:=⟨putA S.known id k,S.of,S.looked⟩
def Wst.del (S:Wst) (id:Int):Wst:=⟨delA S.known id,S.of,S.looked⟩
def eachGo (o:List Int):List Int→List Int
 | []=>o
 | l::r=>eachGo (if o.contains l=true then o else o++ [l]) r
def eachL (c:List Int):List Int:=eachGo [] c
def Trl.fal (T:Trl) (l:Int):Bool:=decide (T.val l<0)
def Trl.tru (T:Trl) (l:Int):Bool:=decide (0<T.val l)
def ordI (a b:Int):Int:=if a<b then -1 else if b<a then 1 else 0
def Trl.lvOrd (T:Trl) (a b:Int):Int:=ordI (T.level (litV b:Nat)) (T.level (litV a:Nat))
def Trl.stab (T:Trl) (xs:List Int):List Int:=(Sort.insertionSort (ltOf T.lvOrd) xs.toArray 0 xs.length).toList
def Trl.first (T:Trl) (xs:List Int):List Int:=xs.filter (fun x=> !T.fal x)++T.stab (xs.filter T.fal)
def Wst.addBy (S:Wst) (id:Int) (c:List Int):List Int→Wst
 | [a,b]=>((S.set id ⟨[a,b],c⟩).put a id).put b id
 | _=>S.set id ⟨[],c⟩
def addKind (T:Trl):List Int→Nat
 | []=>3
 | [a]=>if T.fal a=true then 3 else if T.tru a=true then 1 else 2
 | a::b::_=>if T.fal a=true then 3 else if T.tru a=true∨T.fal b=false then 1 else 2
structure WRes where
 res:Nat
 err:Nat
 T:Trl
 S:Wst
def addTwo (T:Trl) (c:List Int):List Int:=(T.first (eachL c)).take 2
def addOk (T:Trl) (S:Wst) (id:Int) (c:List Int):WRes:=
 if alwL c=true then⟨4,0,T,S.set id ⟨[],eachL c⟩⟩else
 ⟨addKind T (addTwo T c),0,if addKind T (addTwo T c)=2 then T.assigned ((addTwo T c).headD 0) id else T,S.addBy id (eachL c) (addTwo T c)⟩
def addW (A:Arn) (T:Trl) (S:Wst) (id:Int):WRes:=match S.kn id with
 | some _=>⟨0,130,T,S⟩
 | none=>match A.get id with
  | none=>⟨0,30,T,S⟩
  | some c=>if c.any (fun l=>decide ((T.vars.length:Int)-1<(litV l:Nat)))=true then⟨0,40,T,S⟩else addOk T S id c
def Wst.dropAll (S:Wst) (id:Int):List Int→Wst
 | []=>S
 | l::r=>(S.drop l id).dropAll id r
def Wst.remove (S:Wst) (id:Int):Wst:=match S.kn id with
 | none=>S
 | some k=>(S.dropAll id k.by_).del id
def Kn.other (k:Kn) (l:Int):Int:=if k.by_.getD 0 0=l then k.by_.getD 1 0 else k.by_.getD 0 0
def Kn.move (k:Kn) (l x:Int):Kn:=⟨if k.by_.getD 0 0=l then [x,k.by_.getD 1 0]else [k.by_.getD 0 0,x],k.lits⟩
def Kn.next (T:Trl) (k:Kn) (l:Int):Option Int:=k.lits.find? fun x=>decide (x≠l∧x≠k.other l)&& !T.fal x
def Wst.move (S:Wst) (id l x:Int) (k:Kn):Wst:=((S.drop l id).put x id).set id (k.move l x)
def lookOne (A:Arn) (T:Trl) (S:Wst) (l id:Int):Trl×Wst×Bool:=
 if(A.find id).isSome=false then(T,S.remove id,false)else
 match S.kn id with
 | none=>(T,S,false)
 | some k=>if T.tru (k.other l)=true then(T,S,false)else match k.next T l with
  | some x=>(T,S.move id l x k,false)
  | none=>if T.fal (k.other l)=true then(T,S,true)else(T.assigned (k.other l) id,S,false)
def lookGo (A:Arn) (T:Trl) (S:Wst) (l:Int):List Int→Trl×Wst×Option Int
 | []=>(T,S,none)
 | id::r=>if(lookOne A T S l id).2.2=true then((lookOne A T S l id).1,(lookOne A T S l id).2.1,some id)else lookGo A (lookOne A T S l id).1 (lookOne A T S l id).2.1 l r
def Wst.step (S:Wst):Wst:=⟨S.known,S.of,S.looked+1⟩
def propGo (A:Arn):Nat→Trl→Wst→Trl×Wst×Option Int
 | 0,T,S=>(T,S,none)
 | n+1,T,S=>match T.order[S.looked]? with
  | none=>(T,S,none)
  | some y=>match lookGo A T S (litN y) (S.row (litN y))with
   | (T',S',some id)=>(T',S',some id)
   | (T',S',none)=>propGo A n T' S'.step
def propW (A:Arn) (T:Trl) (S:Wst):Trl×Wst×Option Int:=propGo A (T.vars.length+1) T S
end Go.Proofs.YtoojmhjagipmdaaGreat
