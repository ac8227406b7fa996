/- package clauses: normal, Always, Norm. Plain: a clause in normal form. package clauses: Always, Norm. -/
import Derived.Test.YtajbmjpodeilpaaGreatV103
namespace Go.Proofs.YtajbmjpodeilpaaGreat
open Go.RowKit Go.Shelf Go.Sort
attribute [local go_sem] Oper.semAt_some
def onceL:Int→List Int→List Int
 | _,[]=> []
 | last,x::r=>if x=last then onceL last r else x::onceL x r
def normL (xs:List Int):List Int:=onceL 0 (sortL xs)
structure SPre (ys:List Int) (n:Nat) (pre:List (Int×Nat)) (x:Int×Nat) (W:World):Prop where
 lon:n≤x.2
 size:x.2≤W.heap.size
 same: ∀y∈pre,y.2=x.2
 run:pre.map Prod.fst++ [x.1] <+: ys
def SPost (X0:Nat→Prop) (x:Int×Nat) (W W':World):Prop:=KpC (fun g=>x.2≤g∨X0 g) W W'
theorem SPost.turn {X0:Nat→Prop} {x:Int×Nat} {W W3:World} {l:Nat} {r r':Loop} (h:SPost X0 x W W3) (hl:W3.heap[l]? =some (.loop r)):SPost X0 x W (W3.putObj l (.loop r')):=
 KpC.trans h ((KpC.putObj W3 l _ _ hl rfl rfl).mono (fun _ _ e=>e.elim))
def sv (x:Int×Nat):Array Value:= #[.int .i64 x.1]
theorem own_from_below' {α:Type} {B:Nat} {I:α→World→Prop} (h:OwnFrom B I) {s:α} {W W':World} (hs:I s W) (hb:Below W.heap.size W W'):I s W':=
 h s W W' none hs ⟨hb.os,hb.tape,hb.output,hb.size,fun k hk _=>hb.block k hk⟩ (fun r e=>by cases e)
theorem own_cell {w:World} {base:Nat} {t:TypeId} {v:Value} {xs:List Int} {k:Nat} {x:Int} (h:w.ownsRow base t 1 v xs.length (xs.map (Value.int .i64))) (hx:xs[k]? =some x):
  ∃g c,v= .slice (some ⟨g,0,none⟩) xs.length c∧base≤g∧g<w.heap.size∧w.cell? ⟨g,k,none⟩=some (.int .i64 x):=by
 obtain⟨g,c,cs,rfl,h1,h2,h3,_⟩:=mx_some h (by have:=(List.getElem?_eq_some_iff.1 hx).1;omega)
 exact⟨g,c,rfl,h2,h3,mx_at h (by rw[List.getElem?_map,hx];rfl)⟩
theorem sorted_run (A:Option Addr) (n c:Nat) (w:World):Calls Tryz.prog 176 #[.slice A n c] w fun e w'=>e= .returned (.func (.func 193) #[] #[.pointer (some ⟨w.heap.size,0,none⟩)])∧w.alloc (.cells #[.slice A n c] 31)=w':=by
 go_enter Tryz.func176,Tryz.ntmps176
 go_wp2
 go_ret
 exact⟨rfl,rfl⟩
set_option maxRecDepth 100000 in
set_option maxHeartbeats 4000000 in
theorem sorted_stops {O:Nat→Prop} (X0:Nat→Prop) (Bb:Nat) (u:Value) (xs:List Int) (w:World) (hB:w.cell? ⟨Bb,0,none⟩=some u) (hu:IntsIn O w u xs) (hlen:xs.length≤1000000000000) (hX0: ∀g,X0 g→g<w.heap.size):
  SeqM Tryz.prog 193 #[.pointer (some ⟨Bb,0,none⟩)] sv (SPre (normL xs)) (SPost X0) (fun _ _ _=>True) (fun ys=>ys.map Prod.fst=normL xs) (fun pre=>pre.map Prod.fst <+: normL xs∧pre≠ []) w:=by
 intro l J Jx W hW hJ hJx hY h0
 have hB':=World.block_lt_of_cell? w _ hB
 have d0:W.cell? ⟨Bb,0,none⟩=some u:=(hW.cell (p:=⟨Bb,0,none⟩) hB').trans hB
 have hzW:=hW.size
 have HU:=Lib.hid (hu.below hW)
 obtain⟨A,c,rfl,hc,_,_⟩:=hu
 obtain⟨W1,hW1⟩: ∃x,W.alloc (.cells #[.slice A xs.length c] 31)=x:=⟨_,rfl⟩
 have hb1:Below W.heap.size W W1:=by rw[←hW1];exact mx_al _ _
 have hc1:W1.cell? ⟨W.heap.size,0,none⟩=some (.slice A xs.length c):=by rw[←hW1];exact mx_cell (j:=0) (World.alloc_heap_new _ _)
 have hz1:W1.heap.size=W.heap.size+1:=by rw[←hW1];simp
 have HSV:=Lib.hid (sorted_values W.heap.size _ xs W1 hc1 (HU.out.below hb1) hlen)
 have HW1:=Lib.hid hW1
 have HB1:=Lib.hid hb1
 have HJ:=Lib.hid hJ
 have HY:=Lib.hid hY
 have HX0:=Lib.hid hX0
 have H0:=Lib.hid h0
 have HSL:=Lib.hid (show(sortL xs).length≤1000000000000 by rw[sortL_length];exact hlen)
 obtain⟨s,hs⟩: ∃s,sortL xs=s:=⟨_,rfl⟩
 have HN:=Lib.hid (show normL xs=onceL 0 s by unfold normL;rw[hs])
 rw[hs]at HSV HSL
 clear hB hW hc1 hW1 hb1 hJ hJx hY hX0 h0 hs hlen
 refine callsIn_of_wp Tryz.func193 rfl trivial ?_ rfl
 simp only[Tryz.ntmps193,List.size_toArray,List.length_cons,List.length_nil,Nat.reduceAdd,Nat.reduceSub,Array.replicate_succ,Array.replicate_zero,List.push_toArray,List.append_toArray,List.nil_append,List.cons_append]
 gi_wp2_with fail
 refine⟨trivial,?_⟩
 refine(callsIn_wide.2 (values_run A xs.length c W)).mono ?_
 rintro e W' ⟨rfl,rfl⟩
 gi_wp2_with fail
 refine⟨trivial,?_⟩
 rw[HW1.out]
 refine(callsIn_wide.2 HSV.out).mono ?_
 rintro e W2 ⟨v,rfl,hr,hb2⟩
 obtain⟨Av,cv,rfl,hcv⟩:=mx_slice hr
 have HR:=Lib.hid hr
 have HB2:=Lib.hid (HB1.out.trans (hb2.mono (by omega)))
 have hz2:=hb2.size
 have HJ2:=Lib.hid (own_from_below' HJ.out H0.out HB2.out)
 clear hr hb2 d0
 have hsl:=HSL.out
 gi_wp2
 gi_loopw [3,10] (fun la i wr=> ∃(k:Nat) (last:Int) (pre:List (Int×Nat)),k≤s.length∧i= .int .i64 k∧la= .int .i64 last∧Hid (pre.map Prod.fst++onceL last (s.drop k)=normL xs)∧Hid (∀y∈pre,y.2=W2.heap.size)∧Hid (KpC (fun g=>W2.heap.size≤g∨X0 g) W2 wr)∧Hid (J pre wr)) (fun _ i _=>s.length-(intOf i).toNat)
 case atStart=>exact⟨0,0,[],Nat.zero_le _,rfl,rfl,Lib.hid (by rw[HN.out];rfl),Lib.hid (fun y hy=>by cases hy),Lib.hid (KpC.refl _ _),HJ2⟩
 case round=>
  obtain⟨k,last,pre,hk,rfl,rfl,HP,HSM,HK,HJS⟩:=hrel
  by_cases hlt:k<s.length
  ·obtain⟨x,hxk⟩:=getElem_of hlt
   obtain⟨g,c',hv,hg0,hg,e0⟩:=own_cell HR.out hxk
   simp only[Value.slice.injEq,true_and]at hv
   obtain⟨rfl,rfl⟩:=hv
   have d1:wr.cell? ⟨g,k,none⟩=some (.int .i64 x):=((HK.out.kept.cell (p:=⟨g,k,none⟩) hg (fun h=>by
    rcases h with(h|h)|h
    ·simp only at h;omega
    ·have:=HX0.out _ h
     simp only at this;omega
    ·exact xo_cell e0 h))).trans e0
   have hdk:s.drop k=x::s.drop (k+1):=by
    rw[List.drop_eq_getElem_cons hlt]
    rw[List.getElem?_eq_getElem hlt]at hxk
    rw[Option.some.inj hxk]
   have HDK:=Lib.hid hdk
   by_cases he:x=last
   ·have q0:(x==last)=true:=by simpa using he
    have HP':=Lib.hid (show pre.map Prod.fst++onceL last (s.drop (k+1))=normL xs from by
     rw[←HP.out,hdk]
     simp only[onceL]
     rw[if_pos he])
    clear he hxk hdk e0
    gi_wp2
    go_roundw
    case rel=>exact⟨k+1,last,pre,by omega,by go_num,rfl,HP',HSM,HK,HJS⟩
    case measure=>simp[intOf];omega
   ·have q0:(x==last)=false:=by simpa using he
    have HP':=Lib.hid (show(pre++ [(x,W2.heap.size)]).map Prod.fst++onceL x (s.drop (k+1))=normL xs from by
     rw[←HP.out,hdk]
     simp only[onceL]
     rw[if_neg he]
     simp)
    obtain⟨fn,tmps,assign,body,hy,hR⟩:=yield_any 8 (HY.out pre (x,W2.heap.size) wr HJS.out ⟨by simp only;omega,HK.out.size,HSM.out,by rw[←HP'.out];simp⟩)
    dsimp only[sv]at hy
    have HRR:=Lib.hid hR
    clear he hxk hdk e0 hR
    gi_wp2_with fail
    refine HRR.out.mono ?_
    rintro e W3 (⟨rfl,hJ3,hk3⟩|⟨rfl,hJx3,_⟩)
    ·have HJ3:=Lib.hid hJ3
     have HK3:=Lib.hid (HK.out.trans hk3)
     clear hJ3 hk3 hy d1
     gi_wp2_with fail
     go_roundw
     case rel=>exact⟨k+1,x,pre++ [(x,W2.heap.size)],by omega,by go_num,rfl,HP',Lib.hid (fun y hy=>by
      rcases List.mem_append.1 hy with h|h
      ·exact HSM.out y h
      ·rw[List.mem_singleton.1 h]),HK3,HJ3⟩
     case measure=>simp[intOf];omega
    ·gi_wp2
     refine bodyPost_ret (results_none rfl _ _ _) rfl ?_
     exact⟨⟨_,rfl⟩,.inr ⟨pre++ [(x,W2.heap.size)],⟨⟨_,HP'.out⟩,by simp⟩,hJx3⟩⟩
  ·obtain rfl:k=s.length:=by omega
   gi_wp2
   go_end0
   refine⟨⟨_,rfl⟩,.inl ⟨pre,?_,HJS.out⟩⟩
   have:=HP.out
   rw[List.drop_length]at this
   simpa [onceL] using this
end Go.Proofs.YtajbmjpodeilpaaGreat
namespace Go.Proofs.YtajbmjpodeilpaaGreat
open Go.RowKit Go.Shelf Go.Sort
attribute [local go_sem] Oper.semAt_some
theorem onceL_len (l:Int) (xs:List Int):(onceL l xs).length≤xs.length:=by
 induction xs generalizing l with
 | nil=>exact Nat.le_refl _
 | cons x r ih=>
  unfold onceL
  split
  ·exact Nat.le_succ_of_le (ih l)
  ·exact Nat.succ_le_succ (ih x)
theorem normL_len (xs:List Int):(normL xs).length≤xs.length:=by
 have:=onceL_len 0 (sortL xs)
 rw[sortL_length]at this
 exact this
theorem onceL_mem {l x:Int} {xs:List Int} (h:x∈onceL l xs):x∈xs:=by
 induction xs generalizing l with
 | nil=>exact h
 | cons y r ih=>
  unfold onceL at h
  split at h
  ·exact List.mem_cons_of_mem _ (ih h)
  ·rcases List.mem_cons.1 h with rfl|h
   ·exact List.mem_cons_self
   ·exact List.mem_cons_of_mem _ (ih h)
theorem normL_mem {x:Int} {xs:List Int} (h:x∈normL xs):x∈xs:=sortL_mem.1 (onceL_mem h)
def alwGo:Int→List Int→Bool
 | _,[]=>false
 | last,x::r=>(last != 0&&x==litN last)||alwGo x r
def alwL (xs:List Int):Bool:=clauseB xs&&alwGo 0 (normL xs)
theorem own_rebase {w:World} {b b' size n:Nat} {e:TypeId} {v:Value} {xs:List Value} (h:w.ownsRow b e size v n xs) (hb: ∀g,v.ownBlock=some g→b'≤g):w.ownsRow b' e size v n xs:=by
 refine⟨h.1,?_⟩
 rcases h.2 with hn|⟨g,cap,cur,hv,_,rest⟩
 ·exact .inl hn
 ·exact .inr ⟨g,cap,cur,hv,hb g (by rw[hv];rfl),rest⟩
theorem keepsRec_others {W W':World} (h:KeepsOthers W W'):KeepsRec W W':=fun k o hk h1 _=>h.2 k o hk h1
def GI (w:World) (B:Nat) (t:TypeId) (pre:List (Int×Nat)) (W:World):Prop:=
 (∃v,Boxed W B t v∧W.ownsRow w.heap.size 55 1 v pre.length ((pre.map Prod.fst).map (Value.int .i64))∧∀g,v.ownBlock=some g→pre≠ []∧∀y∈pre,y.2≤g)∧Below w.heap.size w W∧w.heap.size≤W.heap.size
theorem gi_own (w:World) (B:Nat) (t:TypeId) {N:Nat} (hN:w.heap.size≤N):OwnFrom N (GI w B t):=by
 refine OwnFrom.and (Own.from (holdsRow_own _ _ _ _ 1 (fun pre:List (Int×Nat)=>pre.length) (fun pre=>(pre.map Prod.fst).map (Value.int .i64)) (fun pre v=> ∀g,v.ownBlock=some g→pre≠ []∧∀y∈pre,y.2≤g)) _) (OwnFrom.and (ownFrom_below (Nat.le_refl _) hN) (fun _ X Y row h hg _=>Nat.le_trans h hg.size))
def GMid (X0:Nat→Prop) (I:List (Int×Nat)→World→Prop) (ys:List Int) (n:Nat) (pre:List (Int×Nat)) (x:Int×Nat) (W:World) (_:Nat) (W':World):Prop:=I pre W'∧SPre ys n pre x W'∧SPost X0 x W W'
theorem GMid.turn {X0:Nat→Prop} {I:List (Int×Nat)→World→Prop} {N:Nat} (hI:OwnFrom N I) {ys:List Int} {n:Nat} {pre:List (Int×Nat)} {x:Int×Nat} {W W':World} {B l:Nat} {r r':Loop} (hl:N≤l) (h2:W'.heap[l]? =some (.loop r)) (h:GMid X0 I ys n pre x W B W'):GMid X0 I ys n pre x W B (W'.putObj l (.loop r')):=
 ⟨hI.putObj _ h.1 hl h2 rfl,⟨h.2.1.lon,Nat.le_trans h.2.1.size (grownBy_putObj' W' l (.loop r')).size,h.2.1.same,h.2.1.run⟩,SPost.turn h.2.2 h2⟩
set_option maxRecDepth 100000 in
set_option maxHeartbeats 4000000 in
theorem normal_any {O:Nat→Prop} (u:Value) (xs:List Int) (w:World) (hu:IntsIn O w u xs) (hlen:xs.length≤1000000000000):
  Calls Tryz.prog 153 #[u] w fun e w'=> ∃v,e= .returned v∧w'.ownsRow w.heap.size 55 1 v (normL xs).length ((normL xs).map (Value.int .i64))∧Below w.heap.size w w':=by
 obtain⟨i0,hi,iz0,iz1,iz2⟩:=info_parts cinfo_lit
 obtain⟨W1,hW1⟩: ∃x,w.alloc (.cells #[.slice none 0 0] 31)=x:=⟨_,rfl⟩
 have hb1:Below w.heap.size w W1:=by rw[←hW1];exact mx_al _ _
 have hc1:Boxed W1 w.heap.size 31 (.slice none 0 0):=by rw[←hW1];exact Boxed.new _ _ _
 have hz1:W1.heap.size=w.heap.size+1:=by rw[←hW1];simp
 have HU:=Lib.hid (hu.below hb1)
 obtain⟨A,c,rfl,_⟩:=hu
 obtain⟨W2,hW2⟩: ∃x,W1.alloc (.cells #[.slice A xs.length c] 31)=x:=⟨_,rfl⟩
 have hb2:Below W1.heap.size W1 W2:=by rw[←hW2];exact mx_al _ _
 have hc2:W2.cell? ⟨W1.heap.size,0,none⟩=some (.slice A xs.length c):=by rw[←hW2];exact mx_cell (j:=0) (World.alloc_heap_new _ _)
 have hz2:W2.heap.size=w.heap.size+2:=by rw[←hW2];simp[hz1]
 have hc12:Boxed W2 w.heap.size 31 (.slice none 0 0):=by rw[←hW2];exact hc1.alloc _
 have HW1:=Lib.hid hW1
 have HW2:=Lib.hid hW2
 have hbw:Below w.heap.size w W2:=hb1.trans (hb2.mono (by omega))
 have HSEQ:=Lib.hid (sorted_stops (fun g=>g=w.heap.size) (w.heap.size+1) _ xs W2 (hz1▸hc2) (HU.out.below hb2) hlen (fun g hg=>by omega))
 have HI0:=Lib.hid (show GI w w.heap.size 31 [] W2 from⟨⟨_,hc12,World.ownsRow_nil _ _ _ _,fun g hg=>by cases hg⟩,hbw,by omega⟩)
 have HNL:=Lib.hid (normL_len xs)
 obtain⟨ys,hys⟩: ∃y,normL xs=y:=⟨_,rfl⟩
 rw[hys]at HSEQ HNL⊢
 clear hb1 hc1 hW1 hW2 hb2 hc2 hc12 hbw hys
 refine(callsIn_wide (n:=10)).1 ?_
 refine callsIn_of_wp_marks Tryz.func153 rfl trivial ?_ rfl
 simp only[Tryz.ntmps153,List.size_toArray,List.length_cons,List.length_nil,Nat.reduceAdd,Nat.reduceSub,Array.replicate_succ,Array.replicate_zero,List.push_toArray,List.append_toArray,List.nil_append,List.cons_append]
 gi_wp2_with fail
 rw[HW1.out]
 refine⟨trivial,?_⟩
 refine(callsIn_wide.2 (sorted_run A xs.length c W1)).mono ?_
 rintro e W' ⟨rfl,rfl⟩
 rw[HW2.out]
 gi_wp2_with fail
 refine wpIn_range_M (gf:=193) (lb:= #[.pointer (some ⟨w.heap.size+1,0,none⟩)]) rfl (enters_of Tryz.func193 (by kernel_rfl) rfl) HSEQ.out (Below.refl _ _) (fun _=>rfl)
  (fun pre x W W3 l r r' h1 h2 h3 h4=>SPost.turn h4 h3) (fun pre x W W3 l r r' h1 h2 h3 h4=>trivial)
  (GI w w.heap.size 31) (fun _ _=>False) (gi_own _ _ _ (by omega)) (fun pre W W' row h _ _=>h) HI0.out
  ?frame (GMid (fun g=>g=w.heap.size) (GI w w.heap.size 31) ys (W2.heap.size+2))
  (fun pre x W Bx W' l r r' h1 h2 h3 h4=>h4.turn (gi_own _ _ _ (by omega)) h1 h3)
  ?assign ?body ?done ?stop
 case assign=>
  rintro l pre x W K hi hp hK
  dsimp only[sv]
  gi_wp2
  obtain⟨Bx,hBx⟩: ∃b:Nat,b=0:=⟨0,rfl⟩
  exact hK Bx W (KeepsRec.refl W) ⟨hi,hp,KpC.refl _ _⟩
 case body=>
  rintro l pre x W Bx W' ⟨⟨⟨v,hv,hr,hf⟩,hb,hz⟩,hp,hk⟩
  have q1:=hv.cell
  have q2:=hv.frozen
  have hr':=own_rebase (b':=x.2) hr (fun g hg=>by
   have h:=hf g hg
   obtain⟨y,hy⟩:=List.exists_mem_of_ne_nil _ h.1
   rw[←hp.same y hy]
   exact h.2 y hy)
  obtain⟨A,c,rfl,hc⟩:=mx_slice hr
  have hln:pre.length≤xs.length:=by
   have h1:=hp.run.length_le
   have h2:=HNL.out
   simp at h1
   omega
  obtain⟨x1,hx1⟩: ∃z,x.1=z:=⟨_,rfl⟩
  rw[hx1]
  have HX1:=Lib.hid hx1
  have HV:=Lib.hid hv
  have HR:=Lib.hid hr
  have HR':=Lib.hid hr'
  have HB:=Lib.hid hb
  have HF:=Lib.hid hf
  have HP:=Lib.hid hp
  have HK:=Lib.hid hk
  clear hv hr hb hr' hf hp hk hx1
  gi_wp2_with (gi_at_builtin;refine wpListIn_append_own _ rfl _ _ 31 rfl x.2 55 i0 (.int .i64 0) 1 8 Tryz.underlying31 hi iz0 iz1 iz2 rfl (by decide) _ _ _ rfl (HR'.out.alloc _) ⟨W'.heap.size,0,none⟩ 1 1 [.int .i64 x1] rfl rfl ?c1 ?c2 ?c3 ?c4 ?c5 ?_)
  case c1=>
   intro j u hj
   match j,hj with
   | 0,hj=>simp at hj;subst hj;simp[Addr.add]
  case c2=>intro u hu;simp at hu;subst hu;rfl
  case c3=>unfold maxLen;omega
  case c4=>omega
  case c5=>have:=HP.out.size;simp;omega
  ·intro v' w1 hown' hgrow _
   have hlo:=HP.out.lon
   have hnew:=own_rebase (b':=w.heap.size) hown' (fun g hg=>by have:=(own_lt hown' g hg).1;omega)
   have hA:=Boxed.appended HV.out (by decide) HR.out hz (Nat.le_refl _) hnew hgrow
   obtain⟨g1,cap,rfl⟩:=ownsRow_succ hown'
   have hg1:=(own_lt hown' g1 rfl).1
   obtain⟨a1,a2,a3,a4,a5⟩:=hA
   have q3:=a1.cell
   have q4:=a1.frozen
   have A2:=Lib.hid a2
   have A3:=Lib.hid a3
   have A4:=Lib.hid a4
   have A5:=Lib.hid a5
   have A6:=Lib.hid (show SPost (fun g=>g=w.heap.size) x W' (w1.setCell ⟨w.heap.size,0,none⟩ (.slice (some ⟨g1,0,none⟩) (pre.length+1) cap))from
    ((KpC.of_below (mx_al W' _)).trans ((KpC.of_grown hgrow).mono (fun g _ h=>.inl (by
     have hq:=HF.out g h.symm
     obtain⟨y,hy⟩:=List.exists_mem_of_ne_nil _ hq.1
     rw[←HP.out.same y hy]
     exact hq.2 y hy)))).trans ((KpC.of_grown (grownBy_setCell' w1 w.heap.size _)).mono (fun g _ h=>.inr (by cases h;rfl))))
   clear a1 a2 a3 a4 a5 hown' hgrow hnew
   gi_wp2
   refine⟨keepsRec_others A4.out,⟨⟨_,by simpa using A2.out,?_,fun g hg=>⟨by simp,fun y hy=>?_⟩⟩,HB.out.trans A5.out,Nat.le_trans hz A5.out.size⟩,HK.out.trans A6.out⟩
   ·have h:=A3.out
    rw[←HX1.out]at h
    simpa using h
   ·have:g1=g:=by simpa [Value.ownBlock] using hg
    rcases List.mem_append.1 hy with h|h
    ·rw[HP.out.same y h]
     omega
    ·rw[List.mem_singleton.1 h]
     omega
 case done=>
  rintro D zs W hD hS ⟨⟨v,hv,hr,-⟩,hb,hz⟩ hDf
  have q1:=hv.cell
  have hl:zs.length=ys.length:=by rw[←hS,List.length_map]
  rw[hS,hl]at hr
  have HR:=Lib.hid hr
  have HB:=Lib.hid hb
  have HD:=Lib.hid hDf
  obtain⟨A,c,rfl,hc⟩:=mx_slice hr
  clear hv hr hb hDf hS
  gi_wp2
  refine⟨by simp,.inl ⟨_,_,rfl,run_takeDeferred HD.out,?_⟩⟩
  have hD0:w.heap.size≤D:=by omega
  refine⟨_,results_tmp rfl _ _ _,_,rfl,ownsRow_putObj HR.out _ HD.out rfl,HB.out.trans ?_⟩
  exact(Below.refl _ _).grown (grownBy_putObj' W D _) hz (fun g e=>by cases e;exact hD0)
 case stop=>
  rintro D pre W hD _ hf _
  exact hf.elim
end Go.Proofs.YtajbmjpodeilpaaGreat
namespace Go.Proofs.YtajbmjpodeilpaaGreat
open Go.RowKit Go.Sort
theorem sortL_pair (xs:List Int):(sortL xs).Pairwise (fun a b=>(!(Go.Proofs.ltOf litC) b a)=true):=by
 unfold sortL
 refine List.pairwise_mergeSort (fun a b c h1 h2=>?_) (fun a b=>?_) xs
 ·simp only[Bool.not_eq_true']at *
  exact ltC_swo.ntrans c b a h2 h1
 ·cases hab:Go.Proofs.ltOf litC b a
  ·simp
  ·cases hba:Go.Proofs.ltOf litC a b
   ·simp
   ·have:=ltC_swo.trans _ _ _ hab hba
    rw[ltC_swo.irrefl]at this
    cases this
theorem onceL_pair {l:Int} {xs:List Int} (hr: ∀x∈xs,litB x=true) (hp:xs.Pairwise (fun a b=>litI a≤litI b)) (hl:l=0∨(litB l=true∧∀x∈xs,litI l≤litI x)):(onceL l xs).Pairwise (fun a b=>litI a<litI b)∧(litB l=true→∀x∈onceL l xs,litI l<litI x):=by
 induction xs generalizing l with
 | nil=>exact⟨List.Pairwise.nil,fun _ x hx=>by cases hx⟩
 | cons z r ih=>
  obtain⟨hz,hpr⟩:=List.pairwise_cons.1 hp
  have hrz:=hr z List.mem_cons_self
  have hrr: ∀x∈r,litB x=true:=fun x hx=>hr x (List.mem_cons_of_mem _ hx)
  unfold onceL
  split
  ·exact ih hrr hpr (hl.imp_right (fun h=>⟨h.1,fun x hx=>h.2 x (List.mem_cons_of_mem _ hx)⟩))
  ·rename_i hne
   obtain⟨i1,i2⟩:=ih (l:=z) hrr hpr (.inr ⟨hrz,hz⟩)
   refine⟨List.pairwise_cons.2 ⟨fun x hx=>i2 hrz x hx,i1⟩,fun hlb x hx=>?_⟩
   have hlz:litI l<litI z:=by
    rcases hl with rfl|⟨h1,h2⟩
    ·cases hlb
    ·have h3:=h2 z List.mem_cons_self
     have h4:litI l≠litI z:=fun e=>hne (litI_inj h1 hrz e).symm
     omega
   rcases List.mem_cons.1 hx with rfl|hx
   ·exact hlz
   ·have:=i2 hrz x hx
    omega
theorem normL_pair {xs:List Int} (hr: ∀x∈xs,litB x=true):(normL xs).Pairwise (fun a b=>litI a<litI b):=by
 have hrs: ∀x∈sortL xs,litB x=true:=fun x hx=>hr x (sortL_mem.1 hx)
 refine(onceL_pair hrs ?_ (.inl rfl)).1
 refine List.Pairwise.imp_of_mem (fun {a b} ha hb h=>?_) (sortL_pair xs)
 have h2: ¬Go.Proofs.ltOf litC b a=true:=by simpa using h
 rw[ltC_iff]at h2
 simp only[hrs a ha,hrs b hb,true_and,not_or]at h2
 have:=h2.2.1
 omega
theorem onceL_has {x:Int} {xs:List Int}: ∀{l:Int},x∈xs→x=l∨x∈onceL l xs:=by
 induction xs with
 | nil=>intro l h;cases h
 | cons z r ih=>
  intro l h
  unfold onceL
  by_cases hz:z=l
  ·rw[if_pos hz]
   rcases List.mem_cons.1 h with rfl|h
   ·exact .inl hz
   ·exact ih h
  ·rw[if_neg hz]
   rcases List.mem_cons.1 h with rfl|h
   ·exact .inr List.mem_cons_self
   ·rcases ih (l:=z) h with rfl|h
    ·exact .inr List.mem_cons_self
    ·exact .inr (List.mem_cons_of_mem _ h)
theorem normL_has {x:Int} {xs:List Int} (hr: ∀x∈xs,litB x=true):x∈normL xs↔x∈xs:=by
 refine⟨normL_mem,fun h=>?_⟩
 rcases onceL_has (l:=0) (sortL_mem.2 h)with e|e
 ·have:=(litB_iff x).1 (hr x h)
  omega
 ·exact e
end Go.Proofs.YtajbmjpodeilpaaGreat
namespace Go.Proofs.YtajbmjpodeilpaaGreat
open Go.RowKit Go.Shelf Go.Sort
attribute [local go_sem] Oper.semAt_some
def lastG (l:Int):List Int→Int
 | []=>l
 | x::r=>lastG x r
theorem lastG_snoc (l x:Int) (a:List Int):lastG l (a++ [x])=x:=by
 induction a generalizing l with
 | nil=>rfl
 | cons y r ih=>exact ih y
theorem alwGo_snoc (l x:Int) (a:List Int):alwGo l (a++ [x])=(alwGo l a||(lastG l a != 0&&x==litN (lastG l a))):=by
 induction a generalizing l with
 | nil=>simp[alwGo,lastG]
 | cons y r ih=>
  simp only[List.cons_append,alwGo,lastG]
  rw[ih,Bool.or_assoc]
theorem alwGo_pre {l:Int} {a ys:List Int} (h:a <+: ys) (ha:alwGo l a=true):alwGo l ys=true:=by
 obtain⟨t,rfl⟩:=h
 induction a generalizing l with
 | nil=>cases ha
 | cons y r ih=>
  simp only[List.cons_append,alwGo,Bool.or_eq_true]at ha⊢
  exact ha.imp_right ih
theorem res_bool {fn:Func} (h:fn.results= #[.cell 2 4]) {w:World} {r:Nat} {b:Bool} (hb:Boxed w r 4 (.bool b)) (tmps:Array Value) (t2:tmps[2]?.getD undef= .pointer (some ⟨r,0,none⟩)):
  (results fn tmps).run Tryz.prog w= .ok (.bool b) w:=by
 have p0:=hb.cell
 simp[results,h,go_sem,t2,p0]
structure AI (w:World) (pre:List (Int×Nat)) (W:World):Prop where
 res:Boxed W w.heap.size 4 (.bool false)
 last:Boxed W (w.heap.size+1) 55 (.int .i64 (lastG 0 (pre.map Prod.fst)))
 below:Below w.heap.size w W
 no:alwGo 0 (pre.map Prod.fst)=false
structure AX (w:World) (pre:List (Int×Nat)) (W:World):Prop where
 res:Boxed W w.heap.size 4 (.bool true)
 below:Below w.heap.size w W
 yes:alwGo 0 (pre.map Prod.fst)=true
theorem boxed_grown {W W':World} {row:Option Nat} {B:Nat} {t:TypeId} {v:Value} (h:Boxed W B t v) (hg:W.grownBy W' row) (hr: ∀r,row=some r→∃o:Obj,W.heap[r]? =some o∧o.isCells=false):Boxed W' B t v:=
 h.kept hg (fun e=>by
  obtain⟨o,ho,hc⟩:=hr B e.symm
  rw[show W.heap[B]? =_ from h]at ho
  cases ho
  cases hc)
theorem ai_own (w:World) {N:Nat} (hN:w.heap.size≤N):OwnFrom N (AI w):=fun _ _ _ _ h hg hr=>
 ⟨boxed_grown h.res hg (fun r e=>(hr r e).2),boxed_grown h.last hg (fun r e=>(hr r e).2),h.below.grown hg h.below.size (fun k e=>Nat.le_trans hN (hr k e).1),h.no⟩
theorem ax_own (w:World) {N:Nat} (hN:w.heap.size≤N):OwnFrom N (AX w):=fun _ _ _ _ h hg hr=>
 ⟨boxed_grown h.res hg (fun r e=>(hr r e).2),h.below.grown hg h.below.size (fun k e=>Nat.le_trans hN (hr k e).1),h.yes⟩
theorem boxed_neq {W:World} {B B':Nat} {t:TypeId} {v u:Value} (h:Boxed W B t v) (hne:B≠B'):Boxed (W.setCell ⟨B',0,none⟩ u) B t v:=
 h.kept (grownBy_setCell' W B' u) (fun e=>hne (Option.some.inj e))
theorem spost_set {X0:Nat→Prop} {x:Int×Nat} (W:World) (B:Nat) (v:Value) (h:X0 B):SPost X0 x W (W.setCell ⟨B,0,none⟩ v):=
 (KpC.of_grown (grownBy_setCell' W B v)).mono (fun g _ e=>.inr (by cases e;exact h))
theorem keepsRec_set (W:World) (B:Nat) (v:Value):KeepsRec W (W.setCell ⟨B,0,none⟩ v):=keepsRec_others (KeepsOthers.setCell _ _ _)
set_option maxRecDepth 100000 in
set_option maxHeartbeats 4000000 in
theorem always_any {O:Nat→Prop} (u:Value) (xs:List Int) (w:World) (hu:IntsIn O w u xs) (hlen:xs.length≤1000000000000):
  Calls Tryz.prog 154 #[u] w fun e w'=>e= .returned (.bool (alwL xs))∧Below w.heap.size w w':=by
 obtain⟨W0,hW0⟩: ∃x,w.alloc (.cells #[.bool false] 4)=x:=⟨_,rfl⟩
 have hb0:Below w.heap.size w W0:=by rw[←hW0];exact mx_al _ _
 have hc0:Boxed W0 w.heap.size 4 (.bool false):=by rw[←hW0];exact Boxed.new _ _ _
 have hz0:W0.heap.size=w.heap.size+1:=by rw[←hW0];simp
 have HU0:=Lib.hid (hu.below hb0)
 have HRC:=Lib.hid (right_clause u xs W0 (hu.below hb0) (by omega))
 obtain⟨A,c,rfl,_⟩:=hu
 have HW0:=Lib.hid hW0
 have HB0:=Lib.hid hb0
 have HC0:=Lib.hid hc0
 obtain⟨res,hres⟩: ∃b,alwL xs=b:=⟨_,rfl⟩
 rw[hres]
 unfold alwL at hres
 obtain⟨q,hq⟩: ∃b,clauseB xs=b:=⟨_,rfl⟩
 rw[hq]at HRC hres
 clear hW0 hb0 hc0 hq
 refine(callsIn_wide (n:=10)).1 ?_
 refine callsIn_of_wp_marks Tryz.func154 rfl trivial ?_ rfl
 simp only[Tryz.ntmps154,List.size_toArray,List.length_cons,List.length_nil,Nat.reduceAdd,Nat.reduceSub,Array.replicate_succ,Array.replicate_zero,List.push_toArray,List.append_toArray,List.nil_append,List.cons_append]
 gi_wp2_with fail
 rw[HW0.out]
 refine⟨trivial,?_⟩
 refine(callsIn_wide.2 HRC.out).mono ?_
 rintro e W' ⟨rfl,rfl⟩
 have q1:=HC0.out.cell
 have q2:=HC0.out.frozen
 cases q with
 | false=>
  have HRS:=Lib.hid (show false=res from hres)
  clear hres
  gi_wp2
  exact⟨_,res_bool rfl (HC0.out.set _) _ rfl,by rw[HRS.out],HB0.out.setCell (p:=⟨w.heap.size,0,none⟩) (Nat.le_refl _) _⟩
 | true=>
  rw[Bool.true_and]at hres
  obtain⟨W1,hW1⟩: ∃x,W0.alloc (.cells #[.int .i64 0] 55)=x:=⟨_,rfl⟩
  have hb1:Below W0.heap.size W0 W1:=by rw[←hW1];exact mx_al _ _
  have hc1:Boxed W1 (w.heap.size+1) 55 (.int .i64 0):=by rw[←hW1,←hz0];exact Boxed.new _ _ _
  have hz1:W1.heap.size=w.heap.size+2:=by rw[←hW1];simp[hz0]
  have hc0':Boxed W1 w.heap.size 4 (.bool false):=by rw[←hW1];exact HC0.out.alloc _
  obtain⟨W1',hW1'⟩: ∃x,W1=x:=⟨_,rfl⟩
  have hc1':Boxed W1' (w.heap.size+1) 55 (.int .i64 0):=by rw[←hW1'];exact hc1
  have hc0'':Boxed W1' w.heap.size 4 (.bool false):=by rw[←hW1'];exact hc0'
  have hz1':W1'.heap.size=w.heap.size+2:=by rw[←hW1'];exact hz1
  have hb1':Below W0.heap.size W0 W1':=by rw[←hW1'];exact hb1
  obtain⟨W2,hW2⟩: ∃x,W1'.alloc (.cells #[.slice A xs.length c] 31)=x:=⟨_,rfl⟩
  have hb2:Below W1'.heap.size W1' W2:=by rw[←hW2];exact mx_al _ _
  have hc2:W2.cell? ⟨w.heap.size+2,0,none⟩=some (.slice A xs.length c):=by rw[←hW2,←hz1'];exact mx_cell (j:=0) (World.alloc_heap_new _ _)
  have hz2:W2.heap.size=w.heap.size+3:=by rw[←hW2];simp[hz1']
  have hbw:Below w.heap.size w W2:=HB0.out.trans ((hb1'.trans (hb2.mono (by omega))).mono (by omega))
  have HSEQ:=Lib.hid (sorted_stops (fun g=>g=w.heap.size∨g=w.heap.size+1) (w.heap.size+2) _ xs W2 hc2 ((HU0.out.below hb1').below hb2) hlen (fun g hg=>by omega))
  have HI0:=Lib.hid (show AI w [] W2 from⟨by rw[←hW2];exact hc0''.alloc _,by rw[←hW2];exact hc1'.alloc _,hbw,rfl⟩)
  obtain⟨ys,hys⟩: ∃y,normL xs=y:=⟨_,rfl⟩
  rw[hys]at HSEQ hres
  have HRS:=Lib.hid hres
  have HW1:=Lib.hid hW1
  have HW1':=Lib.hid hW1'
  have HW2:=Lib.hid hW2
  have r1:=hc1.cell
  have r2:=hc1.frozen
  clear hb1 hc1 hW1 hW2 hb2 hc2 hbw hys hc0' hc1' hc0'' hb1' hW1' hres q1 q2
  rw[←HW1.out]at r1 r2
  gi_wp2_with fail
  clear r1 r2
  rw[HW1.out]
  rw[HW1'.out]
  refine⟨trivial,?_⟩
  refine(callsIn_wide.2 (sorted_run A xs.length c W1')).mono ?_
  rintro e W' ⟨rfl,rfl⟩
  rw[HW2.out]
  gi_wp2_with fail
  refine wpIn_range_M (gf:=193) (lb:= #[.pointer (some ⟨w.heap.size+2,0,none⟩)]) rfl (enters_of Tryz.func193 (by kernel_rfl) rfl) HSEQ.out (Below.refl _ _) (fun _=>rfl)
   (fun pre x W W3 l r r' h1 h2 h3 h4=>SPost.turn h4 h3) (fun pre x W W3 l r r' h1 h2 h3 h4=>trivial)
   (AI w) (AX w) (ai_own _ (by omega)) (ax_own _ (by omega)) HI0.out
   ?frame (GMid (fun g=>g=w.heap.size∨g=w.heap.size+1) (AI w) ys (W2.heap.size+2))
   (fun pre x W Bx W' l r r' h1 h2 h3 h4=>h4.turn (ai_own _ (by omega)) h1 h3)
   ?assign ?body ?done ?stop
  case assign=>
   rintro l pre x W K hi hp hK
   dsimp only[sv]
   gi_wp2
   obtain⟨Bx,hBx⟩: ∃b:Nat,b=0:=⟨0,rfl⟩
   exact hK Bx W (KeepsRec.refl W) ⟨hi,hp,KpC.refl _ _⟩
  case body=>
   rintro l pre x W Bx W' ⟨hi,hp,hk⟩
   have HK:=Lib.hid hk
   have HI:=Lib.hid hi
   have r1:=hi.last.cell
   have r2:=hi.last.frozen
   have r3:=hi.res.cell
   have r4:=hi.res.frozen
   obtain⟨x1,hx1⟩: ∃z,x.1=z:=⟨_,rfl⟩
   rw[hx1]
   have hsn:=alwGo_snoc 0 x1 (pre.map Prod.fst)
   rw[hi.no,Bool.false_or]at hsn
   have hsl:=lastG_snoc 0 x1 (pre.map Prod.fst)
   obtain⟨la,hla⟩: ∃z,lastG 0 (pre.map Prod.fst)=z:=⟨_,rfl⟩
   rw[hla]at hsn r1
   have HMP:=Lib.hid (show(pre++ [x]).map Prod.fst=pre.map Prod.fst++ [x1] by rw[List.map_append,←hx1];rfl)
   have HSL:=Lib.hid hsl
   have HSN:=Lib.hid hsn
   have HNG:=Lib.hid (lit_neg la W')
   clear hi hp hk hx1 hsl hla
   cases hz:(la != 0)with
   | false=>
    rw[hz,Bool.false_and]at hsn
    have HSN:=Lib.hid hsn
    clear hsn
    gi_wp2_with fail
    refine⟨trivial,?_⟩
    gi_wp2_with fail
    refine⟨keepsRec_set _ _ _,⟨boxed_neq HI.out.res (by omega),?_,HI.out.below.setCell (p:=⟨w.heap.size+1,0,none⟩) (Nat.le_succ _) _,by rw[HMP.out];exact HSN.out⟩,HK.out.trans (spost_set _ _ _ (.inr rfl))⟩
    rw[HMP.out,HSL.out]
    exact HI.out.last.set _
   | true=>
    rw[hz,Bool.true_and]at hsn
    cases hq:(x1==litN la)with
    | false=>
     rw[hq]at hsn
     have HSN:=Lib.hid hsn
     clear hsn
     gi_wp2_with fail
     refine⟨trivial,((CallsIn.inRound l (callsIn_wide.2 HNG.out)).mono ?_)⟩
     rintro e W4 ⟨rfl,rfl⟩
     gi_wp2_with fail
     refine⟨keepsRec_set _ _ _,⟨boxed_neq HI.out.res (by omega),?_,HI.out.below.setCell (p:=⟨w.heap.size+1,0,none⟩) (Nat.le_succ _) _,by rw[HMP.out];exact HSN.out⟩,HK.out.trans (spost_set _ _ _ (.inr rfl))⟩
     rw[HMP.out,HSL.out]
     exact HI.out.last.set _
    | true=>
     rw[hq]at hsn
     have HSN:=Lib.hid hsn
     clear hsn
     gi_wp2_with fail
     refine⟨trivial,((CallsIn.inRound l (callsIn_wide.2 HNG.out)).mono ?_)⟩
     rintro e W4 ⟨rfl,rfl⟩
     gi_wp2_with fail
     exact⟨keepsRec_set _ _ _,⟨HI.out.res.set _,HI.out.below.setCell (p:=⟨w.heap.size,0,none⟩) (Nat.le_refl _) _,by rw[HMP.out];exact HSN.out⟩,trivial⟩
  case done=>
   rintro D zs W hD hS hi hDf
   have q1:=hi.res.cell
   have q2:=hi.res.frozen
   have HI:=Lib.hid hi
   have HD:=Lib.hid hDf
   have HNO:=Lib.hid (show alwGo 0 ys=false by rw[←hS];exact hi.no)
   have hne:D≠w.heap.size:=by omega
   clear hi hDf hS
   gi_wp2
   have hD':(W.setCell ⟨w.heap.size,0,none⟩ (.bool false)).heap[D]? =some (.deferred (some [])):=((grownBy_setCell' W w.heap.size (.bool false)).block D (heap_lt HD.out) (fun e=>hne (Option.some.inj e))).trans HD.out
   refine⟨by simp,.inl ⟨_,_,rfl,run_takeDeferred hD',?_⟩⟩
   refine⟨_,res_bool rfl (boxed_grown (HI.out.res.set (.bool false)) (grownBy_putObj' _ D _) (fun r e=>by cases e;exact⟨_,hD',rfl⟩)) _ rfl,by rw[←HRS.out,HNO.out],?_⟩
   have hb:=HI.out.below.setCell (p:=⟨w.heap.size,0,none⟩) (Nat.le_refl _) (.bool false)
   exact hb.grown (grownBy_putObj' _ D _) hb.size (fun g e=>by cases e;omega)
  case stop=>
   rintro D pre W hD ⟨hpre,_⟩ hi hDf
   have HI:=Lib.hid hi
   have HD:=Lib.hid hDf
   have HYE:=Lib.hid (alwGo_pre hpre hi.yes)
   clear hi hDf hpre
   gi_wp2
   refine⟨by simp,.inl ⟨_,_,rfl,run_takeDeferred HD.out,?_⟩⟩
   refine⟨_,res_bool rfl (boxed_grown HI.out.res (grownBy_putObj' _ D _) (fun r e=>by cases e;exact⟨_,HD.out,rfl⟩)) _ rfl,by rw[←HRS.out,HYE.out],?_⟩
   exact HI.out.below.grown (grownBy_putObj' _ D _) HI.out.below.size (fun g e=>by cases e;omega)
theorem res_norm {fn:Func} (h:fn.results= #[.tmp 2,.tmp 3,.tmp 4]) (tmps:Array Value) (w:World):(results fn tmps).run Tryz.prog w= .ok (.tuple #[tmps.getD 2 undef,tmps.getD 3 undef,tmps.getD 4 undef]) w:=by
 simp[results,h]
def NormOut (w w':World) (xs:List Int) (e:Ending):Prop:=
 if clauseB xs=true then∃v,e= .returned (.tuple #[v,.bool (alwL xs),.int .i64 0])∧w'.ownsRow w.heap.size 55 1 v (normL xs).length ((normL xs).map (Value.int .i64))
 else e= .returned (.tuple #[.slice none 0 0,.bool false,.int .i64 20])
set_option maxHeartbeats 1000000 in
theorem norm_any {O:Nat→Prop} (u:Value) (xs:List Int) (w:World) (hu:IntsIn O w u xs) (hlen:xs.length≤1000000000000):
  Calls Tryz.prog 134 #[u] w fun e w'=>NormOut w w' xs e∧Below w.heap.size w w':=by
 have HR:=Lib.hid (right_clause u xs w hu (by omega))
 have HN:=Lib.hid (normal_any u xs w hu hlen)
 have HU:=Lib.hid hu
 obtain⟨A,c,rfl,_⟩:=hu
 unfold NormOut
 obtain⟨q,hq⟩: ∃b,clauseB xs=b:=⟨_,rfl⟩
 rw[hq]at HR⊢
 clear hq
 cases q with
 | false=>
  simp only[Bool.false_eq_true,if_false]
  go_enter Tryz.func134,Tryz.ntmps134
  go_wp2_with fail
  refine HR.out.mono ?_
  rintro e w' ⟨rfl,rfl⟩
  go_wp2_with fail
  refine bodyPost_ret (res_norm rfl _ _) rfl ?_
  exact⟨rfl,Below.refl _ _⟩
 | true=>
  simp only[if_true]
  go_enter Tryz.func134,Tryz.ntmps134
  go_wp2_with fail
  refine HR.out.mono ?_
  rintro e w' ⟨rfl,rfl⟩
  go_wp2_with fail
  refine HN.out.mono ?_
  rintro e w1 ⟨v,rfl,hr,hb⟩
  have HV:=Lib.hid hr
  have HB:=Lib.hid hb
  have HA:=Lib.hid (always_any _ xs w1 (HU.out.below hb) hlen)
  obtain⟨res,hres⟩: ∃b,alwL xs=b:=⟨_,rfl⟩
  rw[hres]at HA
  have HRS:=Lib.hid hres
  obtain⟨Av,cv,rfl,_⟩:=mx_slice hr
  clear hr hb hres
  go_wp2_with fail
  refine HA.out.mono ?_
  rintro e w2 ⟨rfl,hb2⟩
  have HB2:=Lib.hid hb2
  clear hb2
  go_wp2_with fail
  refine bodyPost_ret (res_norm rfl _ _) rfl ?_
  refine⟨⟨.slice Av (normL xs).length cv,?_,own_below HV.out HB2.out⟩,HB.out.trans (HB2.out.mono HB.out.size)⟩
  rw[HRS.out]
  rfl
end Go.Proofs.YtajbmjpodeilpaaGreat
