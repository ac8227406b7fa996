/- minim: hints, at a clause that fails. -/
import Derived.Test.YtoojmhjagipmdaaGreatV329
import Derived.Test.YtoojmhjagipmdaaGreatV307
import Derived.Laws.EntriesVeiled
namespace Go.Proofs.YtoojmhjagipmdaaGreat
open Go.RowKit Go.Shelf Go.Maps
attribute [local go_sem] Oper.semAt_some
theorem hint_one (q:Nat) (v x:Int) (w:World) (hq:w.cell? ⟨q,0,none⟩=some (.int .i64 v)):
  Calls Tryz.prog 139 #[.int .i64 x,.pointer (some ⟨q,0,none⟩)] w fun e w'=>e= .returned (.bool (decide ((litV x:Int)=v)))∧Below w.heap.size w w':=by
 have HV:=Lib.hid (fun w=>lit_var x w)
 have HQ:=Lib.hid hq
 have hql:=World.block_lt_of_cell? w _ hq
 obtain⟨lv,hlv⟩: ∃z:Int,((litV x:Nat):Int)=z:=⟨_,rfl⟩
 rw[hlv]at HV⊢
 clear hlv hq
 obtain⟨z,hz⟩: ∃z,decide (lv=v)=z:=⟨_,rfl⟩
 have hz2:(lv==v)=z:=by rw[←hz];rfl
 rw[hz]
 clear hz
 go_enter Tryz.func139,Tryz.ntmps139
 go_upto_region 1 with fail
 refine wp_region_held_drew (S:=fun w'=>Below w.heap.size w w') (by kernel_rfl) (mx_drew w) (fun hS=>?_)
 refine takeE 0 4 ?_
 refine takeF 2 6 (fun wq hSw=>(hSw.cell (p:=⟨q,0,none⟩) hql).trans HQ.out) ?_
 refine ready1 1 (fun K hK=>?_)
 go_simp
 refine(HV.out _).mono ?_
 rintro e w' ⟨rfl,rfl⟩
 refine hK.out _ _ hS (fun _=>?_)
 clear hK
 refine takeE 3 7 ?_
 refine takeE 4 3 ?_
 refine wpAnyH_done (by kernel_rfl) ?_ _
 go_wp2_with fail
 go_ret
 exact⟨rfl,hS⟩
set_option maxRecDepth 100000 in
set_option maxHeartbeats 1000000 in
theorem index_hint {Oc:Nat→Prop} (q:Nat) (v:Int) (u:Value) (xs:List Int) (w:World) (hq:w.cell? ⟨q,0,none⟩=some (.int .i64 v)) (h1:IntsIn Oc w u xs) (hs:xs.length≤4194304):
  Calls Tryz.prog 113 #[u,.func (.func 139) #[] #[.pointer (some ⟨q,0,none⟩)]] w fun e w'=>(∃i:Int,e= .returned (.int .i64 i)∧FstAt xs (fun l=>decide ((litV l:Int)=v)) i)∧Below w.heap.size w w':=by
 have HONE:=Lib.hid (fun(W:World) (hb:Below w.heap.size w W) (x:Int)=>hint_one q v x W ((hb.cell (p:=⟨q,0,none⟩) (World.block_lt_of_cell? w _ hq)).trans hq))
 have HX:=Lib.hid h1
 obtain⟨A,c,rfl,hc,_,_⟩:=h1
 go_enter Tryz.func113,Tryz.ntmps113
 go_wp2
 go_loopw [8] (fun i wr=> ∃k:Nat,k≤xs.length∧i= .int .i64 k∧Hid (∀j x,j<k→xs[j]? =some x→((fun l=>decide ((litV l:Int)=v))) x=false)∧Hid (Below w.heap.size w wr)) (fun i _=>xs.length-(intOf i).toNat)
 case atStart=>exact⟨0,Nat.zero_le _,rfl,Lib.hid (fun j x hj=>by omega),Lib.hid (Below.refl _ _)⟩
 case round=>
  obtain⟨k,hk,rfl,HE,HW⟩:=hrel
  by_cases hlt:k<xs.length
  ·
   obtain⟨x,hxk⟩:=getElem_of hlt
   obtain⟨A',c',hAc,_,_,hxs⟩:=HX.out.below HW.out
   simp only[Value.slice.injEq,true_and]at hAc
   obtain⟨rfl,rfl⟩:=hAc
   obtain⟨g,o,rfl,hg,_,d1⟩:=hxs k x hxk
   have HXK:=Lib.hid hxk
   have HC:=Lib.hid (HONE.out wr HW.out x)
   clear hxk hxs
   obtain⟨b,hb⟩: ∃b,((fun l=>decide ((litV l:Int)=v))) x=b:=⟨_,rfl⟩
   have HB:=Lib.hid hb
   simp only[]at hb
   rw[hb]at HC
   clear hb
   cases b with
   | true=>
    go_wp2_with fail
    refine HC.out.mono ?_
    rintro e w' ⟨rfl,hbw⟩
    have HB2:=Lib.hid (HW.out.trans (hbw.mono HW.out.size))
    clear hbw d1
    go_wp2
    go_ret
    exact⟨⟨_,rfl,.inr ⟨k,rfl,hlt,HE.out,x,HXK.out,HB.out⟩⟩,HB2.out⟩
   | false=>
    go_wp2_with fail
    refine HC.out.mono ?_
    rintro e w' ⟨rfl,hbw⟩
    have HB2:=Lib.hid (HW.out.trans (hbw.mono HW.out.size))
    clear hbw d1
    go_wp2
    go_roundw
    case rel=>exact⟨k+1,by omega,by go_num,Lib.hid (fun j y hj hy=>by
     rcases Nat.lt_or_ge j k with h|h
     ·
      exact HE.out j y h hy
     ·
      obtain rfl:j=k:=by omega
      rw[HXK.out]at hy
      obtain rfl:=Option.some.inj hy
      exact HB.out),HB2⟩
    case measure=>simp[intOf];omega
  ·
   obtain rfl:k=xs.length:=by omega
   go_wp2
   go_ret
   exact⟨⟨_,rfl,.inl ⟨rfl,fun x hx=>by
    obtain⟨j,hj⟩:=List.getElem?_of_mem hx
    exact HE.out j x (List.getElem?_eq_some_iff.1 hj).1 hj⟩⟩,HW.out⟩
set_option maxHeartbeats 400000 in
theorem contains_hint {Oc:Nat→Prop} (q:Nat) (v:Int) (u:Value) (xs:List Int) (w:World) (hq:w.cell? ⟨q,0,none⟩=some (.int .i64 v)) (h1:IntsIn Oc w u xs) (hs:xs.length≤4194304):
  Calls Tryz.prog 103 #[u,.func (.func 139) #[] #[.pointer (some ⟨q,0,none⟩)]] w fun e w'=>e= .returned (.bool (xs.any (fun l=>decide ((litV l:Int)=v))))∧Below w.heap.size w w':=by
 have H0:=index_hint q v u xs w hq h1 hs
 obtain⟨z,hz⟩: ∃z,xs.any (fun l=>decide ((litV l:Int)=v))=z:=⟨_,rfl⟩
 rw[hz]
 have HZ:=Lib.hid hz
 have H:=Lib.hid H0
 clear H0 hz
 go_enter Tryz.func103,Tryz.ntmps103
 go_wp2_with fail
 refine H.out.mono ?_
 rintro e w' ⟨⟨i,rfl,hi⟩,hb⟩
 have HI:=Lib.hid (show decide (0≤i)=z from by rw[hi.any];exact HZ.out)
 have HB:=Lib.hid hb
 clear hi hb
 go_wp2_with fail
 go_ret
 exact⟨ret_bool HI.out,HB.out⟩
def inC (c:List Int) (v:Int):Bool:=c.any (fun l=>decide ((litV l:Int)=v))
def rho (A:Arn) (T:Trl) (c:List Int) (v:Int):List Int:=if inC c v=true then []else match why15 A T v with
 | some r=>r.2
 | none=> []
def hintV (A:Arn) (T:Trl) (c:List Int) (v:Int):Option Int:=if inC c v=true then none else(why15 A T v).map Prod.fst
def badV (A:Arn) (T:Trl) (c:List Int) (v:Int):Bool:= !inC c v&&(why15 A T v).isNone
def hintP (A:Arn) (T:Trl) (c:List Int) (id:Int):List Int×Nat:=match A.get id with
 | none=>([],30)
 | some f=>if failE T f≠0 then([],failE T f)else if(mAll (rho A T c) f T.order).any (badV A T c)=true then([],150)else(((mAll (rho A T c) f T.order).filterMap (hintV A T c)).reverse++ [id],0)
theorem why15_get {A:Arn} {T:Trl} {v:Int} {r:Int×List Int} (h:why15 A T v=some r): ∃c,A.get (T.reason v)=some c∧r=(T.reason v,rest15 v c):=by
 unfold why15 at h
 split at h
 ·
  split at h
  ·
   rename_i c hc
   exact⟨c,hc,(Option.some.inj h).symm⟩
  ·
   cases h
 ·
  cases h
theorem rho_len {O:Nat→Prop} {w:World} {a:Nat} {A:Arn} (h:ArAt O w a A) (T:Trl) (c:List Int) (v:Int):(rho A T c v).length≤4194304:=by
 unfold rho
 split
 ·
  exact Nat.zero_le _
 ·
  split
  ·
   rename_i r hr
   obtain⟨c0,hc0,rfl⟩:=why15_get hr
   exact Nat.le_trans (List.length_filter_le _ _) (Arn.get_len h.1 hc0)
  ·
   exact Nat.zero_le _
structure HnAt (a b mk:Nat) (Ac:Option Addr) (c:List Int) (cc:Nat) (w W:World):Prop where
 below:Below w.heap.size w W
 size:w.heap.size+3≤W.heap.size
 wk:W.heap[w.heap.size]? =some (.cells #[.pointer (some ⟨a,0,none⟩),.pointer (some ⟨b,0,none⟩),.slice Ac c.length cc,.map (some mk)] 123 (0,0))
 res:W.heap[w.heap.size+1]? =some (.cells #[.slice none 0 0] 63 (0,0))
 err:W.heap[w.heap.size+1+1]? =some (.cells #[.int .i64 0] 44 (0,0))
theorem HnAt.more {a b mk:Nat} {Ac:Option Addr} {c:List Int} {cc:Nat} {w W W':World} (h:HnAt a b mk Ac c cc w W) (hb:Below W.heap.size W W'):HnAt a b mk Ac c cc w W':=
 ⟨h.below.trans (hb.mono h.below.size),Nat.le_trans h.size hb.size,(hb.block _ (heap_lt h.wk)).trans h.wk,(hb.block _ (heap_lt h.res)).trans h.res,(hb.block _ (heap_lt h.err)).trans h.err⟩
theorem hn_start (a b mk:Nat) (Ac:Option Addr) (c:List Int) (cc:Nat) (w:World): ∃W,((w.alloc (.cells #[.pointer (some ⟨a,0,none⟩),.pointer (some ⟨b,0,none⟩),.slice Ac c.length cc,.map (some mk)] 123)).alloc (.cells #[.slice none 0 0] 63)).alloc (.cells #[.int .i64 0] 44)=W∧HnAt a b mk Ac c cc w W:=by
 obtain⟨Wa,hWa⟩: ∃x,w.alloc (.cells #[.pointer (some ⟨a,0,none⟩),.pointer (some ⟨b,0,none⟩),.slice Ac c.length cc,.map (some mk)] 123)=x:=⟨_,rfl⟩
 obtain⟨Wb,hWb⟩: ∃x,Wa.alloc (.cells #[.slice none 0 0] 63)=x:=⟨_,rfl⟩
 obtain⟨Wc,hWc⟩: ∃x,Wb.alloc (.cells #[.int .i64 0] 44)=x:=⟨_,rfl⟩
 rw[hWa,hWb]
 have za:Wa.heap.size=w.heap.size+1:=by rw[←hWa];simp
 have zb:Wb.heap.size=w.heap.size+1+1:=by rw[←hWb];simp[za]
 have ba:Below w.heap.size w Wa:=by rw[←hWa];exact mx_al _ _
 have bb:Below Wa.heap.size Wa Wb:=by rw[←hWb];exact mx_al _ _
 have bc:Below Wb.heap.size Wb Wc:=by rw[←hWc];exact mx_al _ _
 have ha:Wa.heap[w.heap.size]? =some (.cells #[.pointer (some ⟨a,0,none⟩),.pointer (some ⟨b,0,none⟩),.slice Ac c.length cc,.map (some mk)] 123 (0,0)):=by rw[←hWa];exact World.alloc_heap_new _ _
 have hb:Wb.heap[w.heap.size+1]? =some (.cells #[.slice none 0 0] 63 (0,0)):=by rw[←hWb,←za];exact World.alloc_heap_new _ _
 have hc:Wc.heap[w.heap.size+1+1]? =some (.cells #[.int .i64 0] 44 (0,0)):=by rw[←hWc,←zb];exact World.alloc_heap_new _ _
 exact⟨Wc,hWc,ba.trans ((bb.mono (by omega)).trans (bc.mono (by omega))),by rw[←hWc];simp[zb],(bc.block _ (by omega)).trans ((bb.block _ (by omega)).trans ha),(bc.block _ (by omega)).trans hb,hc⟩
theorem cells1 {w:World} {b:Nat} {c0:Value} {t:TypeId} (h:w.heap[b]? =some (.cells #[c0] t (0,0))):w.cell? ⟨b,0,none⟩=some c0∧w.frozen? ⟨b,0,none⟩=false:=⟨mx_cell (j:=0) h,mx_free h⟩
theorem res_hints {fn:Func} (h:fn.results= #[.cell 4 63,.cell 5 44]) {w:World} {r q:Nat} {c0 v:Value} {t t':TypeId} (h4:w.heap[r]? =some (.cells #[c0] t (0,0))) (h5:w.heap[q]? =some (.cells #[v] t' (0,0)))
  (tmps:Array Value) (t4:tmps[4]?.getD undef= .pointer (some ⟨r,0,none⟩)) (t5:tmps[5]?.getD undef= .pointer (some ⟨q,0,none⟩)):
  (results fn tmps).run Tryz.prog w= .ok (.tuple #[c0,v]) w:=by
 have p4:=(cells1 h4).1
 have p5:=(cells1 h5).1
 simp[results,h,go_sem,t4,t5,p4,p5]
theorem hn_bad {a b mk:Nat} {Ac:Option Addr} {c:List Int} {cc:Nat} {w W:World} (h:HnAt a b mk Ac c cc w W) (e:Int): ∃Wf,(W.setCell ⟨w.heap.size+1,0,none⟩ (.slice none 0 0)).setCell ⟨w.heap.size+1+1,0,none⟩ (.int .i64 e)=Wf∧Below w.heap.size w Wf∧Wf.heap[w.heap.size+1]? =some (.cells #[.slice none 0 0] 63 (0,0))∧Wf.heap[w.heap.size+1+1]? =some (.cells #[.int .i64 e] 44 (0,0)):=by
 refine⟨_,rfl,(h.below.setCell (by simp only;omega) _).setCell (by simp only;omega) _,(Below.heap_setCell _ _ _ _ (by simp)).trans (mx_set (j:=0) h.res _),mx_set (j:=0) ((Below.heap_setCell _ _ _ _ (by simp)).trans h.err) _⟩
set_option maxRecDepth 100000 in
set_option maxHeartbeats 4000000 in
theorem hints_none {OA OT OC:Nat→Prop} (a b mk:Nat) (A:Arn) (T:Trl) (Ac:Option Addr) (cc:Nat) (c:List Int) (id:Int) (w:World) (ha:ArAt OA w a A) (ht:TrAt OT w b T) (hc:IntsIn OC w (.slice Ac c.length cc) c) (hg:A.get id=none):
  Calls Tryz.prog 97 #[.agg #[.pointer (some ⟨a,0,none⟩),.pointer (some ⟨b,0,none⟩),.slice Ac c.length cc,.map (some mk)],.int .i64 id] w fun e w'=>e= .returned (.tuple #[.slice none 0 0,.int .i64 30])∧Below w.heap.size w w':=by
 have HA:=Lib.hid ha
 have HT:=Lib.hid ht
 have HC:=Lib.hid hc
 obtain⟨W0,hW0,hh0⟩:=hn_start a b mk Ac c cc w
 have HW0:=Lib.hid hW0
 have HH0:=Lib.hid hh0
 have HGT:=Lib.hid (ar_get_none a A id W0 (ha.below hh0.below) hg)
 obtain⟨⟨e0,e1,e2,e3⟩,_⟩:=cells4 hh0.wk
 clear ha ht hc hW0 hh0 hg
 refine(callsIn_wide (n:=10)).1 ?_
 refine callsIn_of_wp_marks Tryz.func97 rfl trivial ?_ rfl
 simp only[Tryz.ntmps97,List.size_toArray,List.length_cons,List.length_nil,Nat.reduceAdd,Nat.reduceSub,Array.replicate_succ,Array.replicate_zero,List.push_toArray,List.append_toArray,List.nil_append,List.cons_append]
 rw[←HW0.out]at e0 e1 e2 e3
 gi_wp2_with fail
 rw[HW0.out]
 rw[HW0.out]at e0 e1 e2 e3
 refine⟨trivial,?_⟩
 refine(callsIn_wide.2 HGT.out).mono ?_
 rintro e w1 ⟨rfl,hb1⟩
 have HX:=Lib.hid (HH0.out.more hb1)
 clear hb1 e0 e1 e2 e3 HGT
 obtain⟨k4,g4⟩:=cells1 HX.out.res
 obtain⟨k5,g5⟩:=cells1 HX.out.err
 gi_wp2_with fail
 obtain⟨Wf,hWf,hbf,r4,r5⟩:=hn_bad HX.out 30
 rw[hWf]
 clear hWf k4 g4 k5 g5
 exact⟨_,res_hints rfl r4 r5 _ rfl rfl,rfl,hbf⟩
set_option maxRecDepth 100000 in
set_option maxHeartbeats 4000000 in
theorem hints_fail {OA OT OC:Nat→Prop} (a b mk:Nat) (A:Arn) (T:Trl) (Ac:Option Addr) (cc:Nat) (c:List Int) (id:Int) (f:List Int) (w:World) (ha:ArAt OA w a A) (ht:TrAt OT w b T) (hc:IntsIn OC w (.slice Ac c.length cc) c) (hg:A.get id=some f) (hf:failE T f≠0):
  Calls Tryz.prog 97 #[.agg #[.pointer (some ⟨a,0,none⟩),.pointer (some ⟨b,0,none⟩),.slice Ac c.length cc,.map (some mk)],.int .i64 id] w fun e w'=>e= .returned (.tuple #[.slice none 0 0,.int .i64 (failE T f:Nat)])∧Below w.heap.size w w':=by
 have HFA:=Lib.hid (fun(W:World) (O:Nat→Prop) (u:Value) (h:TrAt OT W b T) (hu:IntsIn O W u f)=>mn_failing b T u f W h hu (Arn.get_len ha.1 hg))
 obtain⟨FE,hfe⟩: ∃z:Int,((failE T f:Nat):Int)=z:=⟨_,rfl⟩
 have q1:(FE != 0)=true:=by
  rw[←hfe]
  simp
  exact hf
 rw[hfe]at HFA⊢
 have HA:=Lib.hid ha
 have HT:=Lib.hid ht
 have HC:=Lib.hid hc
 obtain⟨W0,hW0,hh0⟩:=hn_start a b mk Ac c cc w
 have HW0:=Lib.hid hW0
 have HH0:=Lib.hid hh0
 have HGT:=Lib.hid (ar_get a A id f W0 (ha.below hh0.below) hg)
 obtain⟨⟨e0,e1,e2,e3⟩,_⟩:=cells4 hh0.wk
 clear ha ht hc hW0 hh0 hg hf hfe
 refine(callsIn_wide (n:=10)).1 ?_
 refine callsIn_of_wp_marks Tryz.func97 rfl trivial ?_ rfl
 simp only[Tryz.ntmps97,List.size_toArray,List.length_cons,List.length_nil,Nat.reduceAdd,Nat.reduceSub,Array.replicate_succ,Array.replicate_zero,List.push_toArray,List.append_toArray,List.nil_append,List.cons_append]
 rw[←HW0.out]at e0 e1 e2 e3
 gi_wp2_with fail
 rw[HW0.out]
 rw[HW0.out]at e0 e1 e2 e3
 refine⟨trivial,?_⟩
 refine(callsIn_wide.2 HGT.out).mono ?_
 rintro e w1 ⟨uf,rfl,hof,hb1⟩
 have HX1:=Lib.hid (HH0.out.more hb1)
 have HFC:=Lib.hid (HFA.out w1 _ uf (HT.out.below HX1.out.below) (IntsIn.of_own hof))
 clear hb1 e0 e1 e2 e3 HGT hof HFA
 obtain⟨⟨e0,e1,e2,e3⟩,_⟩:=cells4 HX1.out.wk
 gi_wp2_with fail
 refine⟨trivial,?_⟩
 refine(callsIn_wide.2 HFC.out).mono ?_
 rintro e w2 ⟨rfl,hb2⟩
 have HX:=Lib.hid (HX1.out.more hb2)
 clear hb2 e0 e1 e2 e3 HFC
 obtain⟨k4,g4⟩:=cells1 HX.out.res
 obtain⟨k5,g5⟩:=cells1 HX.out.err
 gi_wp2_with fail
 obtain⟨Wf,hWf,hbf,r4,r5⟩:=hn_bad HX.out FE
 rw[hWf]
 clear hWf k4 g4 k5 g5
 exact⟨_,res_hints rfl r4 r5 _ rfl rfl,rfl,hbf⟩
theorem HnAt.kept {O:Nat→Prop} {a b mk:Nat} {Ac:Option Addr} {c:List Int} {cc:Nat} {w W W':World} (h:HnAt a b mk Ac c cc w W) (k:Kept O W W') (hO: ∀g,O g→w.heap.size+3≤g):HnAt a b mk Ac c cc w W':=by
 have ne: ∀g,g<w.heap.size+3→¬O g:=fun g hg ho=>by
  have:=hO g ho
  omega
 exact⟨h.below.trans (k.below (fun i hi=>by have:=hO i hi;omega) h.below.size),Nat.le_trans h.size k.size,(k.block _ (heap_lt h.wk) (ne _ (by omega))).trans h.wk,(k.block _ (heap_lt h.res) (ne _ (by omega))).trans h.res,(k.block _ (heap_lt h.err) (ne _ (by omega))).trans h.err⟩
def houts (A:Arn) (T:Trl) (c:List Int) (pre:List MX):List Int:=(pre.map MX.v).filterMap (hintV A T c)
theorem houts_len (A:Arn) (T:Trl) (c:List Int) (pre:List MX):(houts A T c pre).length≤pre.length:=
 Nat.le_trans (List.length_filterMap_le _ _) (by simp)
theorem houts_snoc (A:Arn) (T:Trl) (c:List Int) (pre:List MX) (x:MX):houts A T c (pre++ [x])=houts A T c pre++(hintV A T c x.v).toList:=by
 unfold houts
 rw[List.map_append,List.filterMap_append]
 cases h:hintV A T c x.v <;> simp[h]
structure HInq (A:Arn) (T:Trl) (a b mk:Nat) (Ac:Option Addr) (c:List Int) (cc:Nat) (w:World) (B ob:Nat) (ov:Value) (pre:List MX) (W:World):Prop where
 hn:HnAt a b mk Ac c cc w W
 out:W.heap[ob]? =some (.cells #[ov] 63 (0,0))
 row:W.ownsRow B 3 1 ov (houts A T c pre).length ((houts A T c pre).map (Value.int .i64))
 far: ∀g,ov.ownBlock=some g→pre≠ []∧∀y∈pre,y.R≤g
 good: ∀y∈pre,badV A T c y.v=false
 size:B≤W.heap.size
 lob:w.heap.size+3≤ob
 hob:ob<B
def HI (A:Arn) (T:Trl) (a b mk:Nat) (Ac:Option Addr) (c:List Int) (cc:Nat) (w:World) (B ob:Nat) (pre:List MX) (W:World):Prop:= ∃ov,HInq A T a b mk Ac c cc w B ob ov pre W
theorem HInq.kept {O:Nat→Prop} {A:Arn} {T:Trl} {a b mk:Nat} {Ac:Option Addr} {c:List Int} {cc:Nat} {w:World} {B ob:Nat} {ov:Value} {pre:List MX} {W W':World} (h:HInq A T a b mk Ac c cc w B ob ov pre W) (k:Kept O W W') (hO: ∀g,O g→B≤g∧ov.ownBlock≠some g):HInq A T a b mk Ac c cc w B ob ov pre W':=by
 have h1:=h.lob
 have h2:=h.hob
 exact⟨h.hn.kept k (fun g hg=>by have:=(hO g hg).1;omega),(k.block _ (heap_lt h.out) (fun e=>by have:=(hO _ e).1;omega)).trans h.out,own_kept h.row k (fun g hg e=>(hO g e).2 hg),h.far,h.good,Nat.le_trans h.size k.size,h1,h2⟩
theorem HInq.below {A:Arn} {T:Trl} {a b mk:Nat} {Ac:Option Addr} {c:List Int} {cc:Nat} {w:World} {B ob:Nat} {ov:Value} {pre:List MX} {W W':World} (h:HInq A T a b mk Ac c cc w B ob ov pre W) (k:Below W.heap.size W W'):HInq A T a b mk Ac c cc w B ob ov pre W':=h.kept (O:=fun _=>False) (Kept.of_below k) (fun _ e=>e.elim)
theorem hi_own (A:Arn) (T:Trl) (a b mk:Nat) (Ac:Option Addr) (c:List Int) (cc:Nat) (w:World) (B ob:Nat):OwnFrom B (HI A T a b mk Ac c cc w B ob):=by
 rintro pre W W' row ⟨ov,h⟩ hg hr
 exact⟨ov,h.kept (Kept.grown hg) (fun g hg'=>⟨(hr g hg'.symm).1,fun e=>by
  obtain⟨o,ho,hc⟩:=(hr g hg'.symm).2
  obtain⟨cc,hcc⟩:=own_type h.row g e
  rw[hcc]at ho
  cases ho
  cases hc⟩)⟩
theorem HInq.skip {A:Arn} {T:Trl} {a b mk:Nat} {Ac:Option Addr} {c:List Int} {cc:Nat} {w:World} {B ob:Nat} {ov:Value} {pre:List MX} {W:World} (h:HInq A T a b mk Ac c cc w B ob ov pre W) (x:MX) (hs: ∀y∈pre,y.R=x.R) (hv:hintV A T c x.v=none) (hb:badV A T c x.v=false):HInq A T a b mk Ac c cc w B ob ov (pre++ [x]) W:=by
 have e:houts A T c (pre++ [x])=houts A T c pre:=by rw[houts_snoc,hv];simp
 refine⟨h.hn,h.out,by rw[e];exact h.row,fun g hg=>⟨by simp,fun y hy=>?_⟩,fun y hy=>?_,h.size,h.lob,h.hob⟩
 ·
  rcases List.mem_append.1 hy with hy|hy
  ·
   exact(h.far g hg).2 y hy
  ·
   rw[List.mem_singleton.1 hy]
   obtain⟨z,hz⟩:=List.exists_mem_of_ne_nil _ (h.far g hg).1
   rw[←hs z hz]
   exact(h.far g hg).2 z hz
 ·
  rcases List.mem_append.1 hy with hy|hy
  ·
   exact h.good y hy
  ·
   rw[List.mem_singleton.1 hy]
   exact hb
theorem HInq.push {A:Arn} {T:Trl} {a b mk:Nat} {Ac:Option Addr} {c:List Int} {cc:Nat} {w:World} {B ob:Nat} {ov v':Value} {pre:List MX} {W W1 W2:World} (h:HInq A T a b mk Ac c cc w B ob ov pre W) (x:MX) (r:Int) (hs: ∀y∈pre,y.R=x.R) (hv:hintV A T c x.v=some r) (hbd:badV A T c x.v=false) (hR:x.R≤W.heap.size)
  (hb:Below W.heap.size W W1) (hg:W1.grownBy W2 ov.ownBlock) (hown:W2.ownsRow B 3 1 v' ((houts A T c pre).length+1) ((houts A T c pre).map (Value.int .i64)++ [.int .i64 r])) (hat:v'.ownBlock=ov.ownBlock∨v'.ownBlock=some W1.heap.size):
  HInq A T a b mk Ac c cc w B ob v' (pre++ [x]) (W2.setCell ⟨ob,0,none⟩ v')∧Kept (fun g=>g=ob∨some g=ov.ownBlock) W (W2.setCell ⟨ob,0,none⟩ v')∧W2.heap[ob]? =some (.cells #[ov] 63 (0,0)):=by
 have h1:=h.lob
 have h2:=h.hob
 have hge: ∀g,some g=ov.ownBlock→B≤g:=fun g hg=>(own_lt h.row g hg.symm).1
 have k2:Kept (fun g=>some g=ov.ownBlock) W W2:=(Kept.of_below (O:=fun g=>some g=ov.ownBlock) hb).trans (Kept.grown hg) (fun _ _ h=>h)
 have k3:Kept (fun g=>g=ob∨some g=ov.ownBlock) W (W2.setCell ⟨ob,0,none⟩ v'):=(k2.mono (O':=fun g=>g=ob∨some g=ov.ownBlock) (fun g _ h=>.inr h)).setCell ⟨ob,0,none⟩ _ (.inl rfl)
 have ho2:=(k2.block ob (heap_lt h.out) (fun e=>by have:=hge ob e;omega)).trans h.out
 have e:houts A T c (pre++ [x])=houts A T c pre++ [r]:=by rw[houts_snoc,hv];rfl
 refine⟨⟨h.hn.kept k3 (fun g hg=>hg.elim (fun e=>by omega) (fun e=>by have:=hge g e;omega)),mx_set (j:=0) ho2 _,?_,fun g hg=>⟨by simp,fun y hy=>?_⟩,fun y hy=>?_,Nat.le_trans h.size k3.size,h1,h2⟩,k3,ho2⟩
 ·
  rw[e,List.length_append,List.map_append]
  exact own_kept (O:=fun g=>g=ob) hown ((Kept.refl (fun g=>g=ob) W2).setCell ⟨ob,0,none⟩ _ rfl) (fun g hg e=>by have:=(own_lt hown g hg).1;omega)
 ·
  have hxg:x.R≤g:=by
   rcases hat with e|e
   ·
    rw[e]at hg
    obtain⟨z,hz⟩:=List.exists_mem_of_ne_nil _ (h.far g hg).1
    rw[←hs z hz]
    exact(h.far g hg).2 z hz
   ·
    rw[e]at hg
    cases hg
    exact Nat.le_trans hR hb.size
  rcases List.mem_append.1 hy with hy|hy
  ·
   rw[hs y hy]
   exact hxg
  ·
   rw[List.mem_singleton.1 hy]
   exact hxg
 ·
  rcases List.mem_append.1 hy with hy|hy
  ·
   exact h.good y hy
  ·
   rw[List.mem_singleton.1 hy]
   exact hbd
def RdK (x:MX) (ob:Nat) (A B:World):Prop:=KpC (fun g=>g=x.mb∨x.R≤g∨g=ob) A B∧KeepsFrom x.R A B
theorem RdK.trans {x:MX} {ob:Nat} {A B C:World} (h:RdK x ob A B) (k:RdK x ob B C):RdK x ob A C:=⟨h.1.trans k.1,h.2.trans k.2⟩
theorem RdK.below {x:MX} {ob:Nat} {A B:World} (h:Below A.heap.size A B):RdK x ob A B:=⟨KpC.of_below h,h.size,fun k _ _ hk _=>(h.block k (heap_lt hk)).trans hk⟩
theorem RdK.kept {O:Nat→Prop} {x:MX} {ob:Nat} {A B:World} (k:Kept O A B) (h1: ∀g,O g→g=x.mb∨x.R≤g∨g=ob) (h2: ∀g o,O g→x.R≤g→A.heap[g]? =some o→o.isCells=true):RdK x ob A B:=
 ⟨⟨k.os,k.tape,k.output,k.size,fun i _ hi hx _=>(k.block i (heap_lt hi) (fun e=>hx (h1 i e))).trans hi⟩,k.size,fun i o hR hi ho=>(k.block i (heap_lt hi) (fun e=>by
  have:=h2 i o e hR hi
  rw[ho]at this
  cases this)).trans hi⟩
theorem RdK.turn {x:MX} {ob:Nat} {A B:World} {l:Nat} {r r':Loop} (h:RdK x ob A B) (hl:B.heap[l]? =some (.loop r)) (hR:l<x.R):RdK x ob A (B.putObj l (.loop r')):=
 ⟨h.1.trans ((KpC.putObj B l _ _ hl rfl rfl).mono (fun _ _ e=>e.elim)),h.2.trans (KeepsFrom.of_grownBy (grownBy_putObj' B l (.loop r')) (fun j e=>by cases e;exact hR))⟩
theorem MPre.kept {O:Nat→Prop} {n0 n:Nat} {pre:List MX} {x:MX} {W W':World} (h:MPre n0 n pre x W) (k:Kept O W W') (hB: ¬O x.B) (hm: ¬O x.mb):MPre n0 n pre x W':=
 ⟨(k.block _ (heap_lt h.box) hB).trans h.box,h.map.kept k hm,h.kb,h.loB,h.lom,h.hiB,h.him,h.ne,h.lon,Nat.le_trans h.size k.size,h.len,h.same⟩
theorem MPre.turn {n0 n:Nat} {pre:List MX} {x:MX} {W:World} {l:Nat} {r r':Loop} (h:MPre n0 n pre x W) (hl:W.heap[l]? =some (.loop r)):MPre n0 n pre x (W.putObj l (.loop r')):=by
 refine h.kept (Kept.grown (grownBy_putObj' W l (.loop r'))) (fun e=>?_) (fun e=>?_)
 ·
  cases e
  have:=h.box
  rw[hl]at this
  cases this
 ·
  cases e
  obtain⟨D,⟨es,cl,hb,_⟩,_⟩:=h.map
  rw[hl]at hb
  cases hb
theorem MPre.below {n0 n:Nat} {pre:List MX} {x:MX} {W W':World} (h:MPre n0 n pre x W) (k:Below W.heap.size W W'):MPre n0 n pre x W':=h.kept (O:=fun _=>False) (Kept.of_below k) (fun h=>h) (fun h=>h)
structure HMiq (I:List MX→World→Prop) (B ob:Nat) (pre:List MX) (x:MX) (W:World) (Bx:Nat) (W':World):Prop where
 inv:I pre W'
 pre:MPre B (B+2) pre x W'
 kp:RdK x ob W W'
 bx:W'.heap[Bx]? =some (.cells #[.int .i64 x.v] 3 (0,0))
theorem HMiq.turn {I:List MX→World→Prop} {B ob:Nat} (hI:OwnFrom B I) {pre:List MX} {x:MX} {W:World} {Bx:Nat} {W':World} {l:Nat} {r r':Loop} (h:HMiq I B ob pre x W Bx W') (h1:B≤l) (h2:l<B+2) (hl:W'.heap[l]? =some (.loop r)):HMiq I B ob pre x W Bx (W'.putObj l (.loop r')):=by
 have hg:=grownBy_putObj' W' l (.loop r')
 refine⟨hI.putObj _ h.inv h1 hl rfl,h.pre.turn hl,h.kp.turn hl (by have:=h.pre.lon;omega),(hg.block _ (heap_lt h.bx) (fun e=>?_)).trans h.bx⟩
 cases e
 have:=h.bx
 rw[hl]at this
 cases this
def HIx (A:Arn) (T:Trl) (c:List Int) (w:World) (pre:List MX) (W:World):Prop:=W.heap[w.heap.size+1]? =some (.cells #[.slice none 0 0] 63 (0,0))∧W.heap[w.heap.size+1+1]? =some (.cells #[.int .i64 150] 44 (0,0))∧Below w.heap.size w W∧∃y∈pre,badV A T c y.v=true
theorem hix_own (A:Arn) (T:Trl) (c:List Int) (w:World) {B:Nat} (hB:w.heap.size+3≤B):OwnFrom B (HIx A T c w):=by
 rintro pre W W' row ⟨h1,h2,h3,h4⟩ hg hr
 have ne: ∀g,g<B→some g≠row:=fun g hg e=>by
  have:=(hr g e.symm).1
  omega
 exact⟨(hg.block _ (heap_lt h1) (ne _ (by omega))).trans h1,(hg.block _ (heap_lt h2) (ne _ (by omega))).trans h2,h3.trans ((Kept.grown hg).below (B:=w.heap.size) (fun i e=>by have:=(hr i e.symm).1;omega) h3.size),h4⟩
theorem mRun_len (ρ:Int→List Int) (ls:List Int): ∀s,(mRun ρ s ls).1.length≤s.1.length+ls.length:=by
 induction ls with
 | nil=>exact fun s=>Nat.le_refl _
 | cons l ls ih=>
  intro s
  refine Nat.le_trans (ih (mStep ρ s l)) ?_
  unfold mStep
  split <;> simp <;> omega
theorem met_run (a b mk:Nat) (Ac:Option Addr) (cc:Nat) (c:List Int) (Af:Option Addr) (nf cf:Nat) (w:World):
  Calls Tryz.prog 138 #[.agg #[.pointer (some ⟨a,0,none⟩),.pointer (some ⟨b,0,none⟩),.slice Ac c.length cc,.map (some mk)],.slice Af nf cf] w fun e w'=>e= .returned (.func (.func 177) #[] #[.pointer (some ⟨w.heap.size+1,0,none⟩),.pointer (some ⟨w.heap.size,0,none⟩)])∧(w.alloc (.cells #[.pointer (some ⟨a,0,none⟩),.pointer (some ⟨b,0,none⟩),.slice Ac c.length cc,.map (some mk)] 123)).alloc (.cells #[.slice Af nf cf] 33)=w':=by
 go_enter Tryz.func138,Tryz.ntmps138
 go_wp2_with fail
 go_ret
 exact⟨by simp,rfl⟩
end Go.Proofs.YtoojmhjagipmdaaGreat
namespace Go.Proofs.YtoojmhjagipmdaaGreat
open Go.RowKit Go.Shelf Go.Maps
attribute [local go_sem] Oper.semAt_some
set_option maxRecDepth 100000 in
set_option maxHeartbeats 8000000 in
theorem hints_main {OA OT OC:Nat→Prop} (a b mk:Nat) (A:Arn) (T:Trl) (its:List RIt) (Ac:Option Addr) (cc:Nat) (c:List Int) (id:Int) (f:List Int) (w:World) (hs:Sim T its) (ha:ArAt OA w a A) (ht:TrAt OT w b T) (hc:IntsIn OC w (.slice Ac c.length cc) c) (hcl:c.length≤4194304) (hmw:mk<w.heap.size) (hma: ¬OA mk) (hmt: ¬OT mk) (hmc: ¬OC mk) (hg:A.get id=some f) (hf:failE T f=0):
  Calls Tryz.prog 97 #[.agg #[.pointer (some ⟨a,0,none⟩),.pointer (some ⟨b,0,none⟩),.slice Ac c.length cc,.map (some mk)],.int .i64 id] w fun e w'=>(∃u',e= .returned (.tuple #[u',.int .i64 ((hintP A T c id).2:Nat)])∧w'.ownsRow w.heap.size 3 1 u' (hintP A T c id).1.length ((hintP A T c id).1.map (Value.int .i64)))∧Below w.heap.size w w':=by
 have HFA:=Lib.hid (fun(W:World) (O:Nat→Prop) (u:Value) (h:TrAt OT W b T) (hu:IntsIn O W u f)=>mn_failing b T u f W h hu (Arn.get_len ha.1 hg))
 have hfl:=Arn.get_len ha.1 hg
 have HHP:=Lib.hid (show hintP A T c id=if(mAll (rho A T c) f T.order).any (badV A T c)=true then([],150)else(((mAll (rho A T c) f T.order).filterMap (hintV A T c)).reverse++ [id],0)from by
  unfold hintP
  rw[hg]
  simp only[hf]
  rw[if_neg (by simp)])
 rw[hf]at HFA
 have HA:=Lib.hid ha
 have HT:=Lib.hid ht
 have HC:=Lib.hid hc
 have HSI:=Lib.hid hs
 have HMA:=Lib.hid hma
 have HMT:=Lib.hid hmt
 have HMC:=Lib.hid hmc
 obtain⟨HPL,hhpl⟩: ∃z,(hintP A T c id).1=z:=⟨_,rfl⟩
 obtain⟨HPE,hhpe⟩: ∃z:Int,(((hintP A T c id).2:Nat):Int)=z:=⟨_,rfl⟩
 rw[hhpl,hhpe]
 have HPL1:=Lib.hid hhpl
 have HPE1:=Lib.hid hhpe
 obtain⟨W0,hW0,hh0⟩:=hn_start a b mk Ac c cc w
 have HW0:=Lib.hid hW0
 have HH0:=Lib.hid hh0
 have HGT:=Lib.hid (ar_get a A id f W0 (ha.below hh0.below) hg)
 obtain⟨⟨e0,e1,e2,e3⟩,_⟩:=cells4 hh0.wk
 clear ha ht hc hW0 hh0 hs hma hmt hmc hg hf hhpl hhpe
 refine(callsIn_wide (n:=10)).1 ?_
 refine callsIn_of_wp_marks Tryz.func97 rfl trivial ?_ rfl
 simp only[Tryz.ntmps97,List.size_toArray,List.length_cons,List.length_nil,Nat.reduceAdd,Nat.reduceSub,Array.replicate_succ,Array.replicate_zero,List.push_toArray,List.append_toArray,List.nil_append,List.cons_append]
 rw[←HW0.out]at e0 e1 e2 e3
 gi_wp2_with fail
 rw[HW0.out]
 rw[HW0.out]at e0 e1 e2 e3
 refine⟨trivial,?_⟩
 refine(callsIn_wide.2 HGT.out).mono ?_
 rintro e w1 ⟨uf,rfl,hof,hb1⟩
 obtain⟨Af,cf,rfl,_⟩:=mx_slice hof
 have HX1:=Lib.hid (HH0.out.more hb1)
 have HFI1:=Lib.hid (IntsIn.of_own hof)
 have HFC:=Lib.hid (HFA.out w1 _ _ (HT.out.below HX1.out.below) HFI1.out)
 have HF1:=Lib.hid (hof)
 clear hb1 e0 e1 e2 e3 HGT hof HFA
 obtain⟨⟨e0,e1,e2,e3⟩,_⟩:=cells4 HX1.out.wk
 gi_wp2_with fail
 refine⟨trivial,?_⟩
 refine(callsIn_wide.2 HFC.out).mono ?_
 rintro e w2 ⟨rfl,hb2⟩
 have HX2:=Lib.hid (HX1.out.more hb2)
 have HFI2:=Lib.hid (HFI1.out.below hb2)
 obtain⟨w3,hw3⟩: ∃x,w2.alloc (.cells #[.slice none 0 0] 63)=x:=⟨_,rfl⟩
 have hb3:Below w2.heap.size w2 w3:=by rw[←hw3];exact mx_al _ _
 have ho3:w3.heap[w2.heap.size]? =some (.cells #[.slice none 0 0] 63 (0,0)):=by rw[←hw3];exact World.alloc_heap_new _ _
 have hz3:w3.heap.size=w2.heap.size+1:=by rw[←hw3];simp
 have HX3:=Lib.hid (HX2.out.more hb3)
 have HW3:=Lib.hid hw3
 have HO3:=Lib.hid ho3
 have HFI3:=Lib.hid (HFI2.out.below hb3)
 clear hb2 e0 e1 e2 e3 HFC hw3 hb3 ho3
 obtain⟨⟨e0,e1,e2,e3⟩,_⟩:=cells4 HX3.out.wk
 rw[←HW3.out]at e0 e1 e2 e3
 gi_wp2_with fail
 rw[HW3.out]
 rw[HW3.out]at e0 e1 e2 e3
 refine⟨trivial,?_⟩
 refine(callsIn_wide.2 (met_run a b mk Ac cc c Af f.length cf w3)).mono ?_
 rintro e WL ⟨rfl,hWL⟩
 obtain⟨w4,hw4⟩: ∃x,w3.alloc (.cells #[.pointer (some ⟨a,0,none⟩),.pointer (some ⟨b,0,none⟩),.slice Ac c.length cc,.map (some mk)] 123)=x:=⟨_,rfl⟩
 rw[hw4]at hWL
 have hb4:Below w3.heap.size w3 w4:=by rw[←hw4];exact mx_al _ _
 have hk4:w4.heap[w3.heap.size]? =some (.cells #[.pointer (some ⟨a,0,none⟩),.pointer (some ⟨b,0,none⟩),.slice Ac c.length cc,.map (some mk)] 123 (0,0)):=by rw[←hw4];exact World.alloc_heap_new _ _
 have hz4:w4.heap.size=w3.heap.size+1:=by rw[←hw4];simp
 have hb5:Below w4.heap.size w4 WL:=by rw[←hWL];exact mx_al _ _
 have hk5:WL.heap[w3.heap.size+1]? =some (.cells #[.slice Af f.length cf] 33 (0,0)):=by rw[←hWL,←hz4];exact World.alloc_heap_new _ _
 have hz5:WL.heap.size=w3.heap.size+2:=by rw[←hWL];simp[hz4]
 have hbL:Below w3.heap.size w3 WL:=hb4.trans (hb5.mono (by omega))
 have HXL:=Lib.hid (HX3.out.more hbL)
 have HFIL:=Lib.hid (HFI3.out.below hbL)
 have HOL:=Lib.hid ((hbL.block _ (heap_lt HO3.out)).trans HO3.out)
 have hszw:=HX2.out.size
 have HOT:=Lib.hid HT.out.own
 have HSEQ:=Lib.hid (met_stops (rho A T c) (fun g=>g=w2.heap.size) (w3.heap.size+1) w3.heap.size b T _ f WL (mx_cell (j:=0) hk5) ((mx_cell (j:=1) ((hb5.block _ (by omega)).trans hk4)).trans rfl) (HT.out.below HXL.out.below) HFIL.out hfl (rho_len HA.out T c) (fun g hg=>by
  subst hg
  refine⟨by omega,fun h=>?_⟩
  have:=HOT.out _ h
  omega))
 have HI0:=Lib.hid (show HI A T a b mk Ac c cc w WL.heap.size w2.heap.size [] WL from⟨.slice none 0 0,HXL.out,HOL.out,World.ownsRow_nil _ _ _ _,fun g hg=>(by cases hg),fun y hy=>(by cases hy),Nat.le_refl _,hszw,by omega⟩)
 have hOWL:w.heap.size+3≤WL.heap.size:=by omega
 have HWK:=Lib.hid (fun(W:World) (hb:Below w.heap.size w W)=>show Wk W a b mk A T (.slice Ac c.length cc) c from⟨OA,OT,OC,HA.out.below hb,HT.out.below hb,HC.out.below hb,HMA.out,HMT.out,HMC.out,Nat.lt_of_lt_of_le hmw hb.size⟩)
 have HRL:=Lib.hid (rho_len HA.out T c)
 have HORD:=Lib.hid HT.out.1.order
 have hzL:w2.heap.size<WL.heap.size:=by omega
 have hz3L:w3.heap.size<WL.heap.size:=by omega
 clear hWL hw4 hb4 hk4 hb5 hk5 hbL e0 e1 e2 e3 hz4 hz3 hz5
 gi_wp2_with fail
 obtain⟨i1,hi1,iz1,iz2,iz3⟩:=info_parts tinfo_int
 have I1:=Lib.hid hi1
 have I2:=Lib.hid iz1
 have I3:=Lib.hid iz2
 have I4:=Lib.hid iz3
 clear hi1 iz1 iz2 iz3
 refine wpIn_range_M (gf:=177) (lb:= #[.pointer (some ⟨w3.heap.size+1,0,none⟩),.pointer (some ⟨w3.heap.size,0,none⟩)]) rfl (enters_of Tryz.func177 (by kernel_rfl) rfl) HSEQ.out (Below.refl _ _) (fun _=>rfl)
  (fun pre x W W3 l r r' h1 h2 h3 h4=>h4.turn h3 (by have:=h2.lon;omega)) (fun pre x W W3 l r r' h1 h2 h3 h4=>h4.turn (by have:=h2.lon;omega))
  (HI A T a b mk Ac c cc w WL.heap.size w2.heap.size) (HIx A T c w) (hi_own _ _ _ _ _ _ _ _ _ _ _) (hix_own _ _ _ _ hOWL) HI0.out
  ?frame (fun pre x W Bx W'=>HMiq (HI A T a b mk Ac c cc w WL.heap.size w2.heap.size) WL.heap.size w2.heap.size pre x W Bx W')
  (fun pre x W Bx W' l r r' h1 h2 h3 h4=>h4.turn (hi_own _ _ _ _ _ _ _ _ _ _ _) h1 h2 h3)
  ?assign ?body ?done ?stop
 case assign=>
  rintro l pre x W K hi hp hK
  dsimp only[MX.enc,moreV]
  gi_wp2
  obtain⟨Wb,hWb⟩: ∃z,W.alloc (.cells #[.int .i64 x.v] 3)=z:=⟨_,rfl⟩
  have hbW:Below W.heap.size W Wb:=by rw[←hWb];exact mx_al _ _
  have hbx:Wb.heap[W.heap.size]? =some (.cells #[.int .i64 x.v] 3 (0,0)):=by rw[←hWb];exact World.alloc_heap_new _ _
  rw[hWb]
  obtain⟨ov,hi⟩:=hi
  have hm:HMiq (HI A T a b mk Ac c cc w WL.heap.size w2.heap.size) WL.heap.size w2.heap.size pre x W W.heap.size Wb:=⟨⟨ov,hi.below hbW⟩,hp.below hbW,RdK.below hbW,hbx⟩
  have hK2:=hK _ _ (KeepsRec.of_below hbW) hm
  clear hbx hbW hWb hi hp hm hK
  revert hK2
  generalize W.heap.size=Bx
  intro hK2
  exact hK2
 case body=>
  rintro l pre x W Bx W' hm
  obtain⟨ov,hi⟩:=hm.inv
  have HIV:=Lib.hid hi
  have HPR:=Lib.hid hm.pre
  have HKP:=Lib.hid hm.kp
  have HBX:=Lib.hid hm.bx
  obtain⟨⟨e0,e1,e2,e3⟩,_⟩:=cells4 hi.hn.wk
  have HCN:=Lib.hid (contains_hint Bx x.v (.slice Ac c.length cc) c W' (mx_cell (j:=0) hm.bx) (HC.out.below hi.hn.below) hcl)
  obtain⟨ib,hib⟩: ∃z,c.any (fun l=>decide ((litV l:Int)=x.v))=z:=⟨_,rfl⟩
  rw[hib]at HCN
  have HIB:=Lib.hid (show inC c x.v=ib from hib)
  clear hi hm hib
  gi_wp2_with fail
  refine⟨trivial,((CallsIn.inRound l (callsIn_wide.2 HCN.out)).mono ?_)⟩
  rintro e w5 ⟨rfl,hb5⟩
  have HI5:=Lib.hid (HIV.out.below hb5)
  have HP5:=Lib.hid (HPR.out.below hb5)
  have HK5:=Lib.hid (HKP.out.trans (RdK.below (x:=x) (ob:=w2.heap.size) hb5))
  have HR5:=Lib.hid (KeepsRec.of_below hb5)
  have HBX5:=Lib.hid ((hb5.block Bx (heap_lt HBX.out)).trans HBX.out)
  clear hb5 e0 e1 e2 e3 HCN HIV HKP HBX
  cases ib with
  | true=>
   gi_wp2_with fail
   have hrho:rho A T c x.v= []:=by unfold rho;rw[if_pos HIB.out]
   refine⟨HR5.out,⟨ov,HI5.out.skip x HP5.out.same (by unfold hintV;rw[if_pos HIB.out]) (by unfold badV;rw[HIB.out];rfl)⟩,HK5.out.1,HK5.out.2,HP5.out.box,?_⟩
   rw[hrho]
   simpa [varsI] using HP5.out.map
  | false=>
   obtain⟨⟨e0,e1,e2,e3⟩,_⟩:=cells4 HI5.out.hn.wk
   have kx:=mx_cell (j:=0) HBX5.out
   have HRE:=Lib.hid (mn_reason_any a b mk A T its Ac cc c x.v w5 HSI.out (HWK.out w5 HI5.out.hn.below))
   gi_wp2_with fail
   refine⟨trivial,((CallsIn.inRound l (callsIn_wide.2 HRE.out)).mono ?_)⟩
   rintro e w6 ⟨⟨hn,rfl⟩|⟨r,u',hr,rfl,hiu,hru⟩,hb6⟩
   ·
    have HI6:=Lib.hid (HI5.out.below hb6)
    have HK6:=Lib.hid (HK5.out.2.trans (RdK.below (x:=x) (ob:=w2.heap.size) hb6).2)
    have HR6:=Lib.hid (HR5.out.trans (KeepsRec.of_below hb6))
    have HN:=Lib.hid hn
    have hlon:=HP5.out.lon
    clear hb6 e0 e1 e2 e3 kx HRE hn
    obtain⟨k4,g4⟩:=cells1 HI6.out.hn.res
    obtain⟨k5,g5⟩:=cells1 HI6.out.hn.err
    gi_wp2_with fail
    obtain⟨Wf,hWf,hbf,r4,r5⟩:=hn_bad HI6.out.hn 150
    have hkf:Kept (fun g=>g=w.heap.size+1∨g=w.heap.size+1+1) w6 Wf:=by
     rw[←hWf]
     exact((Kept.refl (fun g=>g=w.heap.size+1∨g=w.heap.size+1+1) w6).setCell _ _ (.inl rfl)).setCell _ _ (.inr rfl)
    rw[hWf]
    refine⟨HR6.out.trans (KeepsRec.of_kept hkf (fun g o e ho=>.inl ?_)),⟨r4,r5,hbf,x,by simp,?_⟩,?_⟩
    ·
     rcases e with rfl|rfl
     ·
      rw[HI6.out.hn.res]at ho
      cases ho
      rfl
     ·
      rw[HI6.out.hn.err]at ho
      cases ho
      rfl
    ·
     unfold badV
     rw[HIB.out,HN.out]
     rfl
    ·
     exact KeepsFrom.trans HK6.out ⟨hkf.size,fun i o hR hi _=>(hkf.block i (heap_lt hi) (fun e=>by omega)).trans hi⟩
   ·
    obtain⟨Au,cu,hu,_⟩:=(show IntsIn _ _ _ _ from hiu)
    subst hu
    have HI6:=Lib.hid (HI5.out.below hb6)
    have HP6:=Lib.hid (HP5.out.below hb6)
    have HK6:=Lib.hid (HK5.out.trans (RdK.below (x:=x) (ob:=w2.heap.size) hb6))
    have HR6:=Lib.hid (HR5.out.trans (KeepsRec.of_below hb6))
    have HIU:=Lib.hid hiu
    have HRV:=Lib.hid hr
    have hsz6:=hb6.size
    have hsz5:=HP5.out.size
    have hrr:=HP6.out.size
    have hlob:=HI6.out.lob
    have hlom:=HP6.out.lom
    have hloB:=HP6.out.loB
    have him:=HP6.out.him
    have hiB:=HP6.out.hiB
    have hlon:=HP6.out.lon
    have hkb:=HP6.out.kb
    have hsB:=HI6.out.size
    have hlen:=HP6.out.len
    have hol:=houts_len A T c pre
    have HOW:=Lib.hid (fun g (hg:ov.ownBlock=some g)=>own_lt HI5.out.row g hg)
    have HHV:=Lib.hid (show hintV A T c x.v=some r.1 from by unfold hintV;rw[if_neg (by rw[HIB.out];decide),hr];rfl)
    have HBD:=Lib.hid (show badV A T c x.v=false from by unfold badV;rw[hr];simp)
    have HRH:=Lib.hid (show rho A T c x.v=r.2 from by unfold rho;rw[if_neg (by rw[HIB.out];decide),hr])
    obtain⟨Ao,co,hov,_⟩:=mx_slice HI6.out.row
    subst hov
    obtain⟨no,hno⟩: ∃z,(houts A T c pre).length=z:=⟨_,rfl⟩
    have hrow6:=HI6.out.row
    rw[hno]at hrow6 hol
    have HROW6:=Lib.hid hrow6
    have HNO:=Lib.hid hno
    have k8:=(cells1 HI6.out.out).1
    rw[hno]at k8
    obtain⟨r1,hr1⟩: ∃z,r.1=z:=⟨_,rfl⟩
    obtain⟨r2,hr2⟩: ∃z,r.2=z:=⟨_,rfl⟩
    rw[hr1]at HHV
    rw[hr2]at HRH HIU hru
    rw[hr1,hr2]
    clear hb6 e0 e1 e2 e3 kx HRE hiu hr hrow6 hno hr1 hr2 HRV
    gi_wp2_with (gi_at_builtin;refine wpListIn_append_any rfl _ _ 63 rfl WL.heap.size 3 i1 (.int .i64 0) 1 8 Tryz.underlying63 I1.out I2.out I3.out I4.out rfl (by decide) _ no _ rfl (own_below HROW6.out (mx_al w6 (.cells #[.int .i64 r1] 3))) (.slice (some ⟨w6.heap.size,0,none⟩) 1 1) 1 [.int .i64 r1] rfl (mx_src w6 3 [.int .i64 r1]) rfl (by simp[Value.oneCell']) (by unfold maxLen;omega) (by omega) (by simp;omega) ?_;intro v' w8 hown' hgrow hat;obtain⟨A8,c8,hv8,_⟩:=mx_slice hown';subst hv8;obtain⟨hi8,hk8,hs8⟩:=HI6.out.push x r1 HP6.out.same HHV.out HBD.out hrr (mx_al w6 (.cells #[.int .i64 r1] 3)) (by rw[HNO.out];exact hgrow) (by rw[HNO.out];exact hown') (by rw[HNO.out];exact hat);have x8:=mx_cell (j:=0) hs8;have y8:=mx_free (j:=0) hs8;have HI8:=Lib.hid hi8;have HK8:=Lib.hid hk8;clear hi8 hk8 hs8 hown' hgrow hat k8)
    obtain⟨W9,hW9⟩: ∃z,w8.setCell ⟨w2.heap.size,0,none⟩ (.slice A8 (no+1) c8)=z:=⟨_,rfl⟩
    rw[hW9]at HI8 HK8⊢
    clear x8 y8 hW9
    have hbmap: ∀g,some g=(Value.slice Ao no co).ownBlock→g≠x.B:=fun g e1 e2=>by
     obtain⟨cq,hcq⟩:=own_type HROW6.out g e1.symm
     rw[e2,HP6.out.box]at hcq
     cases hcq
    have hmmap: ∀g,some g=(Value.slice Ao no co).ownBlock→g≠x.mb:=fun g e1 e2=>by
     obtain⟨cq,hcq⟩:=own_type HROW6.out g e1.symm
     obtain⟨Dm,⟨es,cl,hb,_⟩,_⟩:=HP6.out.map
     rw[e2,hb]at hcq
     cases hcq
    have hk8:Kept (fun g=>g=w2.heap.size∨some g=(Value.slice Ao no co).ownBlock) w6 W9:=by
     have:=HK8.out
     rw[HNO.out]at this
     exact this
    have HP9:=Lib.hid (HP6.out.kept hk8 (fun e=>e.elim (fun e=>by omega) (fun e=>hbmap _ e rfl)) (fun e=>e.elim (fun e=>by omega) (fun e=>hmmap _ e rfl)))
    have HOW2:=Lib.hid (show∀g,some g=(Value.slice Ao no co).ownBlock→WL.heap.size≤g∧g<w5.heap.size from fun g e=>HOW.out g (by rw[HNO.out];exact e.symm))
    have HIU9:=Lib.hid (HIU.out.kept hk8 (fun g hg e=>e.elim (fun e=>by have:=HP5.out.size;omega) (fun e=>by have:=(HOW2.out g e).2;omega)))
    have HMR:=Lib.hid (more_run x.B x.mb x.k x.ms _ r2 W9 (mx_cell (j:=0) HP9.out.box) HP9.out.map HIU9.out (by have:=HP5.out.size;omega) HP9.out.ne (by omega))
    have hfar: ∀g,some g=(Value.slice Ao no co).ownBlock→x.R≤g:=fun g e=>by
     obtain⟨h1,h2⟩:=HI6.out.far g (by rw[HNO.out];exact e.symm)
     obtain⟨z,hz⟩:=List.exists_mem_of_ne_nil _ h1
     rw[←HP6.out.same z hz]
     exact h2 z hz
    have hcel: ∀g o,g=w2.heap.size∨some g=(Value.slice Ao no co).ownBlock→w6.heap[g]? =some o→o.isCells=true:=fun g o e ho=>by
     rcases e with rfl|e
     ·
      rw[HI6.out.out]at ho
      cases ho
      rfl
     ·
      obtain⟨cq,hcq⟩:=own_type HROW6.out g e.symm
      rw[ho]at hcq
      cases hcq
      rfl
    have HK9:=Lib.hid (HK6.out.trans (RdK.kept (x:=x) (ob:=w2.heap.size) hk8 (fun g e=>e.elim (fun e=>.inr (.inr e)) (fun e=>.inr (.inl (hfar g e)))) (fun g o e _ ho=>hcel g o e ho)))
    have HR9:=Lib.hid (HR6.out.trans (KeepsRec.of_kept hk8 (fun g o e ho=>.inl (hcel g o e ho))))
    clear hk8 hbmap hmmap hfar hcel
    refine⟨trivial,((CallsIn.inRound l (callsIn_wide.2 HMR.out)).mono ?_)⟩
    rintro e W10 ⟨⟨v0,rfl⟩,hm10,hk10⟩
    have hmc: ∀o,W9.heap[x.mb]? =some o→o.isCells=false∧o.isWalk=true:=fun o ho=>by
     obtain⟨Dm,⟨es,cl,hb,_⟩,_⟩:=HP9.out.map
     rw[hb]at ho
     cases ho
     exact⟨rfl,rfl⟩
    have HI10:=Lib.hid (HI8.out.kept hk10 (fun g e=>by
     subst e
     refine⟨hlom,fun e=>?_⟩
     obtain⟨cq,hcq⟩:=own_type HI8.out.row _ e
     have:=(hmc _ hcq).1
     cases this))
    have HK10:=Lib.hid (HK9.out.trans (RdK.kept (x:=x) (ob:=w2.heap.size) hk10 (fun g e=>.inl e) (fun g o e hR _=>by omega)))
    have HR10:=Lib.hid (HR9.out.trans (KeepsRec.of_kept hk10 (fun g o e ho=>by
     subst e
     exact .inr (hmc o ho).2)))
    have HB10:=Lib.hid ((hk10.block x.B (heap_lt HP9.out.box) HP9.out.ne).trans HP9.out.box)
    have HM10:=Lib.hid hm10
    clear hm10 hk10 hmc HMR
    gi_wp2_with fail
    refine⟨HR10.out,⟨_,HI10.out⟩,HK10.out.1,HK10.out.2,HB10.out,?_⟩
    rw[HRH.out]
    exact HM10.out
 case done=>
  rintro D ys W hD hS ⟨ov,hi⟩ hK
  have hany:(mAll (rho A T c) f T.order).any (badV A T c)=false:=by
   rw[←hS]
   refine List.any_eq_false.2 (fun z hz=>?_)
   obtain⟨y,hy,rfl⟩:=List.mem_map.1 hz
   rw[hi.good y hy]
   decide
  have hhp:=HHP.out
  rw[if_neg (by rw[hany];decide)]at hhp
  have hpl:=HPL1.out
  have hpe:=HPE1.out
  rw[hhp]at hpl hpe
  have hho:(houts A T c ys).reverse++ [id]=HPL:=by
   rw[←hpl,←hS]
   rfl
  obtain rfl:(0:Int)=HPE:=hpe
  have HHO:=Lib.hid hho
  have hlen:(houts A T c ys).length≤1048576:=by
   refine Nat.le_trans (houts_len A T c ys) ?_
   have h1:=mRun_len (rho A T c) T.order.reverse ([],varsI f)
   have h2:ys.length=(mAll (rho A T c) f T.order).length:=by rw[←hS,List.length_map]
   rw[h2]
   unfold mAll
   rw[List.length_reverse]at h1
   have h3:=HORD.out
   simp only[List.length_nil]at h1
   omega
  have HIF:=Lib.hid hi
  have HKD:=Lib.hid hK
  clear hany hhp hpl hho hi hS hK
  obtain⟨Ao,co,hov,_⟩:=mx_slice HIF.out.row
  subst hov
  obtain⟨xs,hxs⟩: ∃z,houts A T c ys=z:=⟨_,rfl⟩
  have HXL:=Lib.hid (show(houts A T c ys).length=xs.length from by rw[hxs])
  have hrow:=HIF.out.row
  rw[hxs]at hrow HHO hlen
  have k8:=(cells1 HIF.out.out).1
  rw[hxs]at k8
  have HX:=Lib.hid HIF.out.hn
  have HB:=Lib.hid (show WL.heap.size≤W.heap.size from HIF.out.size)
  have HROW:=Lib.hid hrow
  clear hrow hxs
  gi_wp2_with fail
  refine⟨trivial,(callsIn_wide.2 (own_reverse _ xs W HROW.out (by omega))).mono ?_⟩
  rintro e W2 ⟨rfl,hown2,hk2⟩
  have hne: ∀g t cq,W.heap[g]? =some (.cells cq t (0,0))→t≠3→(Value.slice Ao xs.length co).ownBlock≠some g:=fun g t cq hg ht e=>by
   obtain⟨cz,hcz⟩:=own_type HROW.out g e
   rw[hg]at hcz
   cases hcz
   exact ht rfl
  have hge: ∀g,(Value.slice Ao xs.length co).ownBlock=some g→w.heap.size+3≤g:=fun g e=>by
   have:=(own_lt HROW.out g e).1
   omega
  have HX2:=Lib.hid (HX.out.kept hk2 hge)
  have HO2:=Lib.hid ((hk2.block _ (heap_lt HIF.out.out) (hne _ _ _ HIF.out.out (by decide))).trans HIF.out.out)
  have HK2:=Lib.hid ((hk2.block D (heap_lt HKD.out) (fun e=>by
   obtain⟨cz,hcz⟩:=own_type HROW.out D e
   rw[HKD.out]at hcz
   cases hcz)).trans HKD.out)
  have hz2:=hk2.size
  have hzB:=HB.out
  have HR2:=Lib.hid hown2
  have k82:=(cells1 HO2.out).1
  have hlr:xs.reverse.length=xs.length:=List.length_reverse
  have HLR:=Lib.hid hlr
  have hh:=HIF.out.out
  clear hown2 hk2 hne hge k8 hlr hh
  have hr2:=HR2.out
  rw[HLR.out]at hr2
  obtain⟨nz,hnz⟩: ∃z,xs.length=z:=⟨_,rfl⟩
  rw[HXL.out,hnz]at k82
  rw[hnz]at hlen hr2
  have HR3:=Lib.hid hr2
  have HNZ:=Lib.hid hnz
  clear hr2 hnz
  gi_wp2_with (gi_at_builtin;refine wpListIn_append_any rfl _ _ 63 rfl WL.heap.size 3 i1 (.int .i64 0) 1 8 Tryz.underlying63 I1.out I2.out I3.out I4.out rfl (by decide) _ nz _ rfl (own_below HR3.out (mx_al W2 (.cells #[.int .i64 id] 3))) (.slice (some ⟨W2.heap.size,0,none⟩) 1 1) 1 [.int .i64 id] rfl (mx_src W2 3 [.int .i64 id]) rfl (by simp[Value.oneCell']) (by unfold maxLen;omega) (by omega) (by simp;omega) ?_;intro v' w8 hown' hgrow hat;obtain⟨A8,c8,hv8,_⟩:=mx_slice hown';subst hv8;have hkA:=(Kept.of_below (O:=fun g=>some g=(Value.slice Ao nz co).ownBlock) (mx_al W2 (.cells #[.int .i64 id] 3))).trans (Kept.grown hgrow) (fun _ _ h=>h);have hgA: ∀g,some g=(Value.slice Ao nz co).ownBlock→WL.heap.size≤g:=(fun g e=>(own_lt HR3.out g e.symm).1);have HX8:=Lib.hid (HX2.out.kept hkA (fun g e=>by have:=hgA g e;omega));have HK8:=Lib.hid ((hkA.block D (heap_lt HK2.out) (fun e=>by obtain⟨cz,hcz⟩:=own_type HR3.out D e.symm;rw[HK2.out]at hcz;cases hcz)).trans HK2.out);obtain⟨k4,g4⟩:=cells1 HX8.out.res;obtain⟨k5,g5⟩:=cells1 HX8.out.err;have HO8:=Lib.hid hown';clear hown' hgrow hat hkA hgA k82)
  obtain⟨Wf,hWf⟩: ∃z,(w8.setCell ⟨w.heap.size+1,0,none⟩ (.slice A8 (nz+1) c8)).setCell ⟨w.heap.size+1+1,0,none⟩ (.int .i64 0)=z:=⟨_,rfl⟩
  rw[hWf]
  have hkf:Kept (fun g=>g=w.heap.size+1∨g=w.heap.size+1+1) w8 Wf:=by
   rw[←hWf]
   exact((Kept.refl (fun g=>g=w.heap.size+1∨g=w.heap.size+1+1) w8).setCell _ _ (.inl rfl)).setCell _ _ (.inr rfl)
  have r4:Wf.heap[w.heap.size+1]? =some (.cells #[.slice A8 (nz+1) c8] 63 (0,0)):=by
   rw[←hWf,Below.heap_setCell _ _ _ _ (by simp)]
   exact mx_set (j:=0) HX8.out.res _
  have r5:Wf.heap[w.heap.size+1+1]? =some (.cells #[.int .i64 0] 44 (0,0)):=by
   rw[←hWf]
   exact mx_set (j:=0) ((Below.heap_setCell _ _ _ _ (by simp)).trans HX8.out.err) _
  have hDf:=(hkf.block D (heap_lt HK8.out) (fun e=>by omega)).trans HK8.out
  have hbf:Below w.heap.size w Wf:=HX8.out.below.trans (hkf.below (fun i e=>by omega) HX8.out.below.size)
  have hof:=own_kept HO8.out hkf (fun g hg e=>by
   have:=(own_lt HO8.out g hg).1
   omega)
  clear k4 g4 k5 g5 hWf
  refine⟨by simp,.inl ⟨_,_,rfl,run_takeDeferred hDf,?_⟩⟩
  refine⟨_,res_hints rfl ((World.putObj_heap_other (by omega)).trans r4) ((World.putObj_heap_other (by omega)).trans r5) _ rfl rfl,⟨⟨_,rfl,?_⟩,hbf.trans (belowK_b (w:=w) (Nat.le_refl _) Wf D _ _ (by omega) hDf rfl rfl)⟩⟩
  rw[←HHO.out,List.length_append,List.map_append,HLR.out,HNZ.out]
  exact own_mono (ownsRow_putObj hof _ hDf rfl) (by omega)
 case stop=>
  rintro D pre W hD ⟨hpre,hne⟩ ⟨r4,r5,hb,y,hy,hbad⟩ hK
  have hany:(mAll (rho A T c) f T.order).any (badV A T c)=true:=
   List.any_eq_true.2 ⟨y.v,hpre.subset (List.mem_map_of_mem hy),hbad⟩
  have hhp:=HHP.out
  rw[if_pos hany]at hhp
  have hpl:=HPL1.out
  have hpe:=HPE1.out
  rw[hhp]at hpl hpe
  subst hpl
  obtain rfl:(150:Int)=HPE:=hpe
  have R4:=Lib.hid r4
  have R5:=Lib.hid r5
  have HB:=Lib.hid hb
  have HKD:=Lib.hid hK
  clear hany hhp hpre hne r4 r5 hb hy hbad hK
  gi_wp2_with fail
  refine⟨by simp,.inl ⟨_,_,rfl,run_takeDeferred HKD.out,?_⟩⟩
  exact⟨_,res_hints rfl ((World.putObj_heap_other (by omega)).trans R4.out) ((World.putObj_heap_other (by omega)).trans R5.out) _ rfl rfl,⟨⟨_,rfl,World.ownsRow_nil _ _ _ _⟩,HB.out.trans (belowK_b (w:=w) (Nat.le_refl _) W D _ _ (by omega) HKD.out rfl rfl)⟩⟩
end Go.Proofs.YtoojmhjagipmdaaGreat
