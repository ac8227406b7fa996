/- A map of integers to integers that the program made. Literals and clauses: Right. Plain: steps of proofs. Small laws of blocks and rows that every chapter uses. A region that draws its order and ends in one operation that waits for all others: that one may be met behind them. -/
import Derived.Test.YtajbmjpodeilpaaGreatV100
import Derived.Deep.RegionHeld3
namespace Go.Proofs.YtajbmjpodeilpaaGreat
open Go.RowKit Go.Maps
theorem int_law:Keyed Tryz.prog 3:=int_keyed Tryz.underlying3
theorem int_zero (w:World):(zeroValue 3).run Tryz.prog w= .ok (.int .i64 0) w:=by kernel_rfl
theorem wf64 {x:Int} (h0: -9223372036854775808≤x) (h1:x≤9223372036854775807):(Lit.int .i64 x).wf=true:=by
 refine WalkArith.wf_i64 ?_
 omega
def MapAt (w:World) (b n:Nat) (f:Int→Int):Prop:=
 ∃D:DataW Unit,w.ownsMap Tryz.prog 3 (plainElem Tryz.prog 3) b n D∧IsMap D∧∀x:Int,(Lit.int .i64 x).wf=true→D.atKey (.int .i64 x) (.lit (.int .i64 0))= .lit (.int .i64 (f x))
theorem MapAt.lt {w:World} {b n:Nat} {f:Int→Int} (h:MapAt w b n f):b<w.heap.size:=by
 obtain⟨D,⟨es,cl,hb,_⟩,_⟩:=h
 exact heap_lt hb
theorem MapAt.kept {O:Nat→Prop} {w w':World} {b n:Nat} {f:Int→Int} (h:MapAt w b n f) (k:Kept O w w') (hO: ¬O b):MapAt w' b n f:=by
 obtain⟨D,⟨es,cl,hb,rest⟩,h2⟩:=h
 exact⟨D,⟨es,cl,(k.block b (heap_lt hb) hO).trans hb,rest⟩,h2⟩
theorem MapAt.below {w w':World} {b n:Nat} {f:Int→Int} (h:MapAt w b n f) (k:Below w.heap.size w w'):MapAt w' b n f:=
 h.kept (O:=fun _=>False) (Kept.of_below k) (fun h=>h)
theorem MapAt.made (w:World):MapAt (w.alloc (.map #[] 0)) w.heap.size 0 (fun _=>0):=
 ⟨.map [],World.ownsMap_made _ _ _ _,isMap_empty,fun _ _=>rfl⟩
theorem MapAt.lookup {w:World} {b n:Nat} {f:Int→Int} (h:MapAt w b n f) {x:Int} (hx:(Lit.int .i64 x).wf=true):
  (Instr.lookup 94 (.map (some b)) (.int .i64 x) false).run Tryz.prog w= .ok (.int .i64 (f x)) w:=by
 obtain⟨D,ho,hm,hf⟩:=h
 obtain⟨c,hrun,hat,_⟩:=ho.lookup_int int_law Tryz.underlying94 Tryz.underlying3 (int_zero _) (keyOf_int_mk Tryz.underlying3 hx)
 have:=hf x hx
 rw[hat]at this
 have hc:c=f x:=by simpa using this
 rw[hrun,hc]
theorem MapAt.put {w':World} {b n:Nat} {f:Int→Int} {D:DataW Unit} {x y:Int} (hm:IsMap D) (hf: ∀x:Int,(Lit.int .i64 x).wf=true→D.atKey (.int .i64 x) (.lit (.int .i64 0))= .lit (.int .i64 (f x)))
  (h:w'.ownsMap Tryz.prog 3 (plainElem Tryz.prog 3) b (n+1) (D.put (.int .i64 x) (.lit (.int .i64 y)))):MapAt w' b (n+1) (fun z=>if z=x then y else f z):=by
 refine⟨_,h,hm.put _ _,fun z hz=>?_⟩
 show _=DataW.lit (Lit.int .i64 (if z=x then y else f z))
 by_cases hzx:z=x
 ·subst hzx
  rw[if_pos rfl,atKey_put_same hm (by simp[WideAt.IsKeyLit])]
 ·rw[if_neg hzx,atKey_put_other (by simpa using hzx),hf z hz]
end Go.Proofs.YtajbmjpodeilpaaGreat
namespace Go.Proofs.YtajbmjpodeilpaaGreat
open Go.RowKit
def litB (x:Int):Bool:=decide (x≠0∧ -1048576≤x∧x≤1048576)
theorem litB_iff (x:Int):litB x=true↔x≠0∧ -1048576≤x∧x≤1048576:=by simp[litB]
def clauseB (xs:List Int):Bool:=decide (xs.length≤4096)&&xs.all litB
set_option maxHeartbeats 400000 in
theorem right_lit (x:Int) (w:World):Calls Tryz.prog 117 #[.int .i64 x] w fun e w'=>e= .returned (.bool (litB x))∧w=w':=by
 obtain⟨b,hb⟩: ∃b,litB x=b:=⟨_,rfl⟩
 rw[hb]
 have HB:=Lib.hid hb
 clear hb
 by_cases h0:x=0
 ·subst h0
  go_enter Tryz.func117,Tryz.ntmps117
  go_wp2
  go_ret
  exact⟨ret_bool (by rw[←HB.out];rfl),rfl⟩
 ·have h1:(x != 0)=true:=by simpa using h0
  have H0:=Lib.hid h0
  clear h0
  by_cases h2: -1048576≤x
  ·have h2':decide (-1048576≤x)=true:=by simpa using h2
   by_cases h3:x≤1048576
   ·have h3':decide (x≤1048576)=true:=by simpa using h3
    go_enter Tryz.func117,Tryz.ntmps117
    go_wp2
    go_ret
    exact⟨ret_bool (by rw[←HB.out];exact((litB_iff x).2 ⟨H0.out,h2,h3⟩).symm),rfl⟩
   ·have h3':decide (x≤1048576)=false:=by simpa using h3
    go_enter Tryz.func117,Tryz.ntmps117
    go_wp2
    go_ret
    exact⟨ret_bool (by rw[←HB.out];exact(Bool.eq_false_iff.2 (fun h=>by have:=(litB_iff x).1 h;omega)).symm),rfl⟩
  ·have h2':decide (-1048576≤x)=false:=by simpa using h2
   go_enter Tryz.func117,Tryz.ntmps117
   go_wp2
   go_ret
   exact⟨ret_bool (by rw[←HB.out];exact(Bool.eq_false_iff.2 (fun h=>by have:=(litB_iff x).1 h;omega)).symm),rfl⟩
theorem wrong_lit (x:Int) (w:World):Calls Tryz.prog 114 #[.int .i64 x] w fun e w'=>e= .returned (.bool (!litB x))∧w=w':=by
 have H:=fun w=>right_lit x w
 obtain⟨b,hb⟩: ∃b,litB x=b:=⟨_,rfl⟩
 rw[hb]
 rw[hb]at H
 clear hb
 have H:=Lib.hid H
 go_enter Tryz.func114,Tryz.ntmps114
 go_wp2_with fail
 refine(H.out _).mono ?_
 rintro e w' ⟨rfl,rfl⟩
 go_wp2_with fail
 go_ret
 exact⟨rfl,rfl⟩
set_option maxRecDepth 100000 in
set_option maxHeartbeats 1000000 in
theorem index_wrong {O:Nat→Prop} (u:Value) (xs:List Int) (w:World) (h1:IntsIn O w u xs) (hs:xs.length≤140737488355328):
  Calls Tryz.prog 115 #[u,.func (.func 114) #[] #[]] w (IdxPost (!xs.all litB) w):=by
 obtain⟨A,c,rfl,hc,_,hx⟩:=h1
 obtain⟨b,hb⟩: ∃b,(!xs.all litB)=b:=⟨_,rfl⟩
 rw[hb]
 have HB:=Lib.hid hb
 have HX:=Lib.hid hx
 clear hx hb
 go_enter Tryz.func115,Tryz.ntmps115
 go_wp2
 go_loop [8] (fun i=> ∃k:Nat,k≤xs.length∧i= .int .i64 k∧Hid (∀j x,j<k→xs[j]? =some x→litB x=true)) (fun i=>xs.length-(intOf i).toNat)
 case atStart=>exact⟨0,Nat.zero_le _,rfl,Lib.hid (fun j x hj=>by omega)⟩
 case round=>
  obtain⟨k,hk,rfl,HE⟩:=hrel
  by_cases hlt:k<xs.length
  ·obtain⟨x,hxk⟩:=getElem_of hlt
   obtain⟨g,o,rfl,hg,_,d1⟩:=HX.out k x hxk
   have HXK:=Lib.hid hxk
   have HW:=wrong_lit x
   clear hxk
   cases hl:litB x with
   | false=>
    rw[hl]at HW
    have HL:=Lib.hid hl
    have HW:=Lib.hid HW
    clear hl
    go_wp2_with fail
    refine(HW.out _).mono ?_
    rintro e w' ⟨rfl,rfl⟩
    go_wp2
    go_ret
    refine⟨⟨_,rfl,?_⟩,rfl⟩
    have hm:(xs.all litB)=false:=Bool.eq_false_iff.2 (fun h=>by
     have:=List.all_eq_true.1 h x (List.mem_of_getElem? HXK.out)
     rw[HL.out]at this
     cases this)
    rw[←HB.out,hm]
    exact decide_eq_true (by omega)
   | true=>
    rw[hl]at HW
    have HL:=Lib.hid hl
    have HW:=Lib.hid HW
    clear hl
    go_wp2_with fail
    refine(HW.out _).mono ?_
    rintro e w' ⟨rfl,rfl⟩
    go_wp2
    go_round
    case rel=>exact⟨k+1,by omega,by go_num,Lib.hid (fun j y hj hy=>by
     rcases Nat.lt_or_ge j k with h|h
     ·exact HE.out j y h hy
     ·obtain rfl:j=k:=by omega
      rw[HXK.out]at hy
      obtain rfl:=Option.some.inj hy
      exact HL.out)⟩
    case measure=>simp[intOf];omega
  ·obtain rfl:k=xs.length:=by omega
   go_wp2
   go_ret
   refine⟨⟨_,rfl,?_⟩,rfl⟩
   have hm:(xs.all litB)=true:=List.all_eq_true.2 (fun x hx=>by
    obtain⟨j,hj⟩:=List.getElem?_of_mem hx
    exact HE.out j x (List.getElem?_eq_some_iff.1 hj).1 hj)
   rw[←HB.out,hm]
   rfl
set_option maxHeartbeats 400000 in
theorem contains_wrong {O:Nat→Prop} (u:Value) (xs:List Int) (w:World) (h1:IntsIn O w u xs) (hs:xs.length≤140737488355328):
  Calls Tryz.prog 80 #[u,.func (.func 114) #[] #[]] w fun e w'=>e= .returned (.bool (!xs.all litB))∧w=w':=by
 have H0:=index_wrong u xs w h1 hs
 obtain⟨b,hb⟩: ∃b,(!xs.all litB)=b:=⟨_,rfl⟩
 rw[hb]at H0⊢
 have H:=Lib.hid H0
 clear H0 hb
 go_enter Tryz.func80,Tryz.ntmps80
 go_wp2_with fail
 refine H.out.mono ?_
 rintro e w' ⟨⟨i,rfl,hi⟩,rfl⟩
 have HI:=Lib.hid hi
 clear hi
 go_wp2_with fail
 go_ret
 exact⟨ret_bool HI.out,rfl⟩
set_option maxHeartbeats 400000 in
theorem right_clause {O:Nat→Prop} (u:Value) (xs:List Int) (w:World) (h1:IntsIn O w u xs) (hs:xs.length≤140737488355328):
  Calls Tryz.prog 79 #[u] w fun e w'=>e= .returned (.bool (clauseB xs))∧w=w':=by
 have H0:=contains_wrong u xs w h1 hs
 obtain⟨A,c,rfl,_⟩:=h1
 unfold clauseB
 by_cases hl:xs.length≤4096
 ·have hl':decide ((xs.length:Int)≤4096)=true:=by simp;omega
  rw[decide_eq_true hl,Bool.true_and]
  cases ha:xs.all litB with
  | true=>
   rw[ha]at H0
   have H:=Lib.hid H0
   clear H0 ha
   go_enter Tryz.func79,Tryz.ntmps79
   go_wp2_with fail
   refine H.out.mono ?_
   rintro e w' ⟨rfl,rfl⟩
   go_wp2_with fail
   go_ret
   exact⟨rfl,rfl⟩
  | false=>
   rw[ha]at H0
   have H:=Lib.hid H0
   clear H0 ha
   go_enter Tryz.func79,Tryz.ntmps79
   go_wp2_with fail
   refine H.out.mono ?_
   rintro e w' ⟨rfl,rfl⟩
   go_wp2_with fail
   go_ret
   exact⟨rfl,rfl⟩
 ·have hl':decide ((xs.length:Int)≤4096)=false:=by simp;omega
  rw[decide_eq_false hl,Bool.false_and]
  clear H0
  go_enter Tryz.func79,Tryz.ntmps79
  go_wp2_with fail
  go_ret
  exact⟨rfl,rfl⟩
end Go.Proofs.YtajbmjpodeilpaaGreat
namespace Go.Proofs.YtajbmjpodeilpaaGreat
structure EStep where
 del:Bool
 id:Int
 lits:List Int
 hints:List Int
end Go.Proofs.YtajbmjpodeilpaaGreat
namespace Go.Proofs.YtajbmjpodeilpaaGreat
open Go.RowKit
theorem mx_cell {w:World} {b j:Nat} {cs:Array Value} {t:TypeId} {fz:Nat×Nat} (h:w.heap[b]? =some (.cells cs t fz)):w.cell? ⟨b,j,none⟩=cs[j]? :=by
 simp[World.cell?,h]
theorem mx_set {w:World} {b j:Nat} {cs:Array Value} {t:TypeId} {fz:Nat×Nat} (h:w.heap[b]? =some (.cells cs t fz)) (v:Value):(w.setCell ⟨b,j,none⟩ v).heap[b]? =some (.cells (cs.setIfInBounds j v) t fz):=by
 unfold World.setCell
 simp only[Array.getElem?_modify]
 rw[h]
 simp
theorem mx_slice {w:World} {base size n:Nat} {e:TypeId} {v:Value} {xs:List Value} (h:w.ownsRow base e size v n xs): ∃A c,v= .slice A n c∧n≤c:=by
 rcases h.2 with⟨rfl,rfl⟩|⟨g,cap,cur,rfl,_,_,hle,_⟩
 ·exact⟨none,0,rfl,Nat.le_refl _⟩
 ·exact⟨_,cap,rfl,hle⟩
theorem mx_al (w:World) (o:Obj):Below w.heap.size w (w.alloc o):=(Below.refl _ _).alloc (Nat.le_refl _) _
theorem mx_drew (w:World):Below w.heap.size w w.drew:=(Below.refl _ _).drew
theorem mx_drewN (w:World) (n:Nat):Below w.heap.size w (w.drewN n):=⟨rfl,rfl,rfl,Nat.le_refl _,fun _ _=>rfl⟩
theorem mx_some {w:World} {base size n:Nat} {e:TypeId} {v:Value} {xs:List Value} (h:w.ownsRow base e size v n xs) (hn:0<n): ∃g c cs,v= .slice (some ⟨g,0,none⟩) n c∧n≤c∧base≤g∧g<w.heap.size∧w.heap[g]? =some (.cells cs e (0,0))∧cs.toList.take (n*size)=xs:=by
 rcases h.2 with⟨_,h0⟩|⟨g,cap,cur,hv,hb,hg,hle,_,_,hx⟩
 ·omega
 ·exact⟨g,cap,cur,hv,hle,hb,heap_lt hg,hg,hx⟩
theorem mx_at {w:World} {base size n c g j:Nat} {e:TypeId} {xs:List Value} {u:Value} (h:w.ownsRow base e size (.slice (some ⟨g,0,none⟩) n c) n xs) (hj:xs[j]? =some u):w.cell? ⟨g,j,none⟩=some u:=by
 rcases h.2 with⟨h0,_⟩|⟨g',cap,cur,hv,_,hg,_,_,_,hx⟩
 ·cases h0
 ·cases hv
  rw[mx_cell hg,←Array.getElem?_toList]
  rw[←hx,List.getElem?_take]at hj
  split at hj
  ·exact hj
  ·cases hj
theorem IntsIn.lt {O:Nat→Prop} {w:World} {v:Value} {xs:List Int} (h:IntsIn O w v xs):IntsIn (fun g=>O g∧g<w.heap.size) w v xs:=by
 obtain⟨A,c,hv,hc,hn,hx⟩:=h
 refine⟨A,c,hv,hc,hn,fun i x hi=>?_⟩
 obtain⟨g,o,h1,h2,h3,h4⟩:=hx i x hi
 exact⟨g,o,h1,h2,⟨h3,h2⟩,h4⟩
theorem mx_not {w:World} {base n size:Nat} {e T:TypeId} {v:Value} {xs:List Value} {b:Nat} {cs:Array Value} (h:w.ownsRow base e size v n xs) (hb:w.heap[b]? =some (.cells cs T (0,0))) (hT:T≠e):v.ownBlock≠some b:=by
 intro hg
 obtain⟨c',hc'⟩:=own_type h b hg
 rw[hb]at hc'
 cases hc'
 exact hT rfl
theorem mx_apart {w:World} {base n size base' n' size':Nat} {e e':TypeId} {v v':Value} {xs xs':List Value} (h:w.ownsRow base e size v n xs) (h':w.ownsRow base' e' size' v' n' xs') (he:e≠e') {g:Nat} (hg:v.ownBlock=some g):v'.ownBlock≠some g:=by
 obtain⟨c,hc⟩:=own_type h g hg
 exact mx_not h' hc he
end Go.Proofs.YtajbmjpodeilpaaGreat
namespace Go.Proofs.YtajbmjpodeilpaaGreat
open Go.RowKit
section
variable {P:Program}
def sinkOk (md:Region.Mode) (ops0:Array Oper) (o:Oper):Bool:=
 ((List.range ops0.size).all fun i=>match ops0[i]? with
  | some x=>(x.after.all fun e=> !Region.binds md e||decide (e.on<i))&&(match x.guard with|some (g,_)=>decide (g<ops0.size)|none=>true)
  | none=>true) &&
 ((List.range ops0.size).all fun i=>o.after.any fun e=>Region.binds md e&&(decide (e.on=i)||match ops0[e.on]? with
  | some x=>x.after.any fun e'=>Region.binds md e'&&(decide (e'.on=i)||match ops0[e'.on]? with
   | some y=>y.after.any fun e''=>Region.binds md e''&&decide (e''.on=i)
   | none=>false)
  | none=>false)) &&
 (o.after.all fun e=> !Region.binds md e||decide (e.on<ops0.size))
def lastPost (P:Program) (ops0:Array Oper) (o:Oper) (Q:Exit→Act→World→Prop):Exit→Act→World→Prop
 | .normal,a,w=>wpOp P (ops0.push o) Q ops0.size (Q .normal) a w
 | e,a,w=>Q e a w
structure Sink (md:Region.Mode) (ops0:Array Oper) (o:Oper):Prop where
 before: ∀(i:Nat) (x:Oper),ops0[i]? =some x→∀e∈x.after,Region.binds md e=true→e.on<i
 guard: ∀(i:Nat) (x:Oper),ops0[i]? =some x→∀g b,x.guard=some (g,b)→g<ops0.size
 waits: ∀i,i<ops0.size→∃e∈o.after,Region.binds md e=true∧(e.on=i∨∃x,ops0[e.on]? =some x∧∃e'∈x.after,Region.binds md e'=true∧(e'.on=i∨∃y,ops0[e'.on]? =some y∧∃e''∈y.after,Region.binds md e''=true∧e''.on=i))
 low: ∀e∈o.after,Region.binds md e=true→e.on<ops0.size
theorem sink_of {md:Region.Mode} {ops0:Array Oper} {o:Oper} (h:sinkOk md ops0 o=true):Sink md ops0 o:=by
 simp only[sinkOk,Bool.and_eq_true,List.all_eq_true,List.mem_range]at h
 obtain⟨⟨h1,h2⟩,h3⟩:=h
 refine⟨fun i x hx e he hb=>?_,fun i x hx g b hg=>?_,fun i hi=>?_,fun e he hb=>?_⟩
 ·have:=h1 i (Array.getElem?_eq_some_iff.1 hx).1
  rw[hx]at this
  simp only[Bool.and_eq_true]at this
  have h4:=Array.all_eq_true'.1 this.1 e he
  rw[hb]at h4
  simpa using h4
 ·have:=h1 i (Array.getElem?_eq_some_iff.1 hx).1
  rw[hx]at this
  simp only[Bool.and_eq_true,hg]at this
  simpa using this.2
 ·have:=h2 i hi
  obtain⟨e,he,h4⟩:=Array.any_eq_true'.1 this
  simp only[Bool.and_eq_true,Bool.or_eq_true,decide_eq_true_eq]at h4
  refine⟨e,he,h4.1,?_⟩
  rcases h4.2 with h5|h5
  ·exact .inl h5
  ·cases hx:ops0[e.on]? with
   | none=>rw[hx]at h5;cases h5
   | some x=>
    rw[hx]at h5
    obtain⟨e',he',h6⟩:=Array.any_eq_true'.1 h5
    simp only[Bool.and_eq_true,Bool.or_eq_true,decide_eq_true_eq]at h6
    refine .inr ⟨x,rfl,e',he',h6.1,?_⟩
    rcases h6.2 with h7|h7
    ·exact .inl h7
    ·cases hy:ops0[e'.on]? with
     | none=>rw[hy]at h7;cases h7
     | some y=>
      rw[hy]at h7
      obtain⟨e2,he2,h8⟩:=Array.any_eq_true'.1 h7
      simp only[Bool.and_eq_true,decide_eq_true_eq]at h8
      exact .inr ⟨y,rfl,e2,he2,h8.1,h8.2⟩
 ·have:=Array.all_eq_true'.1 h3 e he
  rw[hb]at this
  simpa using this
theorem wpOp_last {ops0:Array Oper} {o:Oper} {md:Region.Mode} (hk:Sink md ops0 o) {Q:Exit→Act→World→Prop} {K K':Act→World→Prop} (hK: ∀a w,K a w→K' a w) (i:Nat) (hi:i<ops0.size) (a:Act) (w:World)
  (h:wpOp P ops0 (lastPost P ops0 o Q) i K a w):wpOp P (ops0.push o) Q i K' a w:=by
 unfold wpOp at *
 have e:(ops0.push o)[i]? =ops0[i]? :=by rw[Array.getElem?_push_lt hi,Array.getElem?_eq_getElem hi]
 rw[e]
 have hx:ops0[i]? =some ops0[i]:=Array.getElem?_eq_getElem hi
 rw[hx]at h⊢
 simp only at h⊢
 have hw:Region.wanted ops0[i] (yielded (ops0.push o) a.tmps)=Region.wanted ops0[i] (yielded ops0 a.tmps):=by
  unfold Region.wanted
  split
  ·rfl
  ·rename_i j b hg
   have hj:=hk.guard i _ hx j b hg
   unfold yielded
   rw[Array.getElem?_push_lt hj,Array.getElem?_eq_getElem hj]
 rw[hw]
 have hlets:LetsOut (lastPost P ops0 o Q)→LetsOut Q:=fun⟨a',w',h'⟩=>⟨a',w',h'⟩
 split
 ·rename_i hw2
  rw[if_pos hw2]at h
  rcases h with h|⟨h1,h2⟩
  ·refine .inl ?_
   unfold Oper.wp at *
   generalize (execOp a.eval ops0[i]).run P w=r at *
   cases r with
   | ok n w'=>
    cases n <;> simp only[Oper.upon]at h⊢
    case value u=>exact hK _ _ h
    case skip=>exact hK _ _ h
    case defer d=>exact hK _ _ h
    case enter f args=>
     refine Calls.mono h fun e w'' he=>?_
     cases e with
     | returned u=>exact hK _ _ he
     | panicked c=>exact he
     | outgrown=>exact hlets he
    case row row args=>exact Rows.mono h fun u w'' he=>hK _ _ he
   | halt x w'=>
    cases x <;> simp only[Oper.upon]at h⊢
    case panic u=>exact h
  ·exact .inr ⟨h1,hlets h2⟩
 ·rename_i hw2
  rw[if_neg hw2]at h
  exact hK _ _ h
theorem getD_push_lt {l:Array Bool} {i:Nat} {d:Bool} (h:i<l.size):(l.push d).getD i true=l.getD i true:=by
 simp only[Array.getD_eq_getD_getElem?]
 rw[Array.getElem?_push_lt h,Array.getElem?_eq_getElem h]
theorem getD_push_lt' {l:Array Bool} {i:Nat} {d:Bool} (h:i<l.size):(l.push d).getD i false=l.getD i false:=by
 simp only[Array.getD_eq_getD_getElem?]
 rw[Array.getElem?_push_lt h,Array.getElem?_eq_getElem h]
theorem least_open (l:Array Bool) (h: ∃i,i<l.size∧l.getD i true=false): ∃i,i<l.size∧l.getD i true=false∧∀j,j<i→l.getD j false=true:=by
 obtain⟨i,h1,h2⟩:=h
 induction i using Nat.strongRecOn with
 | _ i ih=>
  by_cases hall: ∀j,j<i→l.getD j false=true
  ·exact⟨i,h1,h2,hall⟩
  ·simp only[Classical.not_forall]at hall
   obtain⟨j,hj,hn⟩:=hall
   refine ih j hj (by omega) ?_
   have hjl:j<l.size:=by omega
   simp only[Array.getD_eq_getD_getElem?,Array.getElem?_eq_getElem hjl,Option.getD_some]at hn⊢
   simpa using hn
def Closed (md:Region.Mode) (ops0:Array Oper) (l:Array Bool):Prop:= ∀j x,ops0[j]? =some x→l.getD j false=true→∀e∈x.after,Region.binds md e=true→l.getD e.on false=true
theorem Closed.set {md:Region.Mode} {ops0:Array Oper} {l:Array Bool} (h:Closed md ops0 l) {i:Nat} (hi:i∈Region.ready md ops0 l):Closed md ops0 (l.setIfInBounds i true):=by
 intro j x hx hj e he hb
 by_cases hji:i=j
 ·subst hji
  obtain⟨_,y,hy,h2⟩:=mem_ready.1 hi
  obtain rfl:=Option.some.inj (hx.symm.trans hy)
  exact getD_set_true (h2 e he hb)
 ·rw[getD_set_ne _ hji]at hj
  exact getD_set_true (h j x hx hj e he hb)
theorem wpAny_sink {ops0:Array Oper} {o:Oper} {md:Region.Mode} (hk:Sink md ops0 o) {Q:Exit→Act→World→Prop}: ∀(fuel:Nat) (l:Array Bool) (a:Act) (w:World),l.size=ops0.size→Closed md ops0 l→
  wpAny P md ops0 (lastPost P ops0 o Q) fuel l a w→wpAny P md (ops0.push o) Q (fuel+1) (l.push false) a w:=by
 intro fuel
 have hr: ∀(l:Array Bool) (i:Nat),l.size=ops0.size→i<ops0.size→i∈Region.ready md (ops0.push o) (l.push false)→i∈Region.ready md ops0 l:=by
  intro l i hl hi hm
  obtain⟨h1,x,hx,h2⟩:=mem_ready.1 hm
  rw[Array.getElem?_push_lt hi]at hx
  have hx':ops0[i]? =some x:=by rw[Array.getElem?_eq_getElem hi];exact hx
  refine mem_ready.2 ⟨by rwa [getD_push_lt (by omega)]at h1,x,hx',fun e he hb=>?_⟩
  have hlt:=hk.before i x hx' e he hb
  have:=h2 e he hb
  rwa [getD_push_lt' (by omega)]at this
 have hr': ∀(l:Array Bool) (i:Nat),l.size=ops0.size→i∈Region.ready md ops0 l→i∈Region.ready md (ops0.push o) (l.push false):=by
  intro l i hl hm
  obtain⟨h1,x,hx,h2⟩:=mem_ready.1 hm
  have hi:=(Array.getElem?_eq_some_iff.1 hx).1
  refine mem_ready.2 ⟨by rwa [getD_push_lt (by omega)],x,by rw[Array.getElem?_push_lt hi,←Array.getElem?_eq_getElem hi];exact hx,fun e he hb=>?_⟩
  have hlt:=hk.before i x hx e he hb
  rw[getD_push_lt' (by omega)]
  exact h2 e he hb
 have hle: ∀(l:Array Bool) (i:Nat),l.size=ops0.size→i∈Region.ready md (ops0.push o) (l.push false)→i≤ops0.size:=by
  intro l i hl hm
  obtain⟨_,x,hx,_⟩:=mem_ready.1 hm
  have:=(Array.getElem?_eq_some_iff.1 hx).1
  simp at this
  omega
 have hall: ∀(l:Array Bool),l.size=ops0.size→Closed md ops0 l→ops0.size∈Region.ready md (ops0.push o) (l.push false)→Region.ready md ops0 l= []:=by
  intro l hl hcl hm
  obtain⟨_,x,hx,h2⟩:=mem_ready.1 hm
  rw[Array.getElem?_push_size]at hx
  obtain rfl:=Option.some.inj hx
  apply List.eq_nil_iff_forall_not_mem.2
  intro i hi
  obtain⟨h1,y,hy,_⟩:=mem_ready.1 hi
  have hi2:=(Array.getElem?_eq_some_iff.1 hy).1
  obtain⟨e,he,hb,hor⟩:=hk.waits i hi2
  have hlow:=hk.low e he hb
  have h3:=h2 e he hb
  rw[getD_push_lt' (by omega)]at h3
  have this:l.getD i false=true:=by
   rcases hor with rfl|⟨x,hx,e',he',hb',rfl|⟨x2,hx2,e2,he2,hb2,rfl⟩⟩
   ·exact h3
   ·exact hcl _ x hx h3 e' he' hb'
   ·exact hcl _ x2 hx2 (hcl _ x hx h3 e' he' hb') e2 he2 hb2
  have hil:i<l.size:=by omega
  simp only[Array.getD_eq_getD_getElem?,Array.getElem?_eq_getElem hil,Option.getD_some]at this h1
  rw[this]at h1
  cases h1
 have hend: ∀(l:Array Bool),l.size=ops0.size→Region.ready md ops0 l= []→ops0.size∈Region.ready md (ops0.push o) (l.push false):=by
  intro l hl h0
  have hdone: ∀i,i<l.size→l.getD i false=true:=by
   intro i hi
   apply Classical.byContradiction
   intro hn
   obtain⟨j,hj,hj2,hj3⟩:=least_open l ⟨i,hi,by
    simp only[Array.getD_eq_getD_getElem?,Array.getElem?_eq_getElem hi,Option.getD_some]at hn⊢
    simpa using hn⟩
   have hjo:j<ops0.size:=by omega
   have:j∈Region.ready md ops0 l:=mem_ready.2 ⟨hj2,ops0[j],Array.getElem?_eq_getElem hjo,fun e he hb=>hj3 _ (hk.before j _ (Array.getElem?_eq_getElem hjo) e he hb)⟩
   rw[h0]at this
   cases this
  refine mem_ready.2 ⟨?_,o,Array.getElem?_push_size,fun e he hb=>?_⟩
  ·simp only[Array.getD_eq_getD_getElem?]
   rw[←hl,Array.getElem?_push_size]
   rfl
  ·have:=hk.low e he hb
   rw[getD_push_lt' (by omega)]
   exact hdone _ (by omega)
 have hlast: ∀(fuel:Nat) (l:Array Bool) (a:Act) (w:World),l.size=ops0.size→Region.ready md ops0 l= []→lastPost P ops0 o Q .normal a w→wpAny P md (ops0.push o) Q (fuel+1) (l.push false) a w:=by
  intro fuel l a w hl h0 h
  refine⟨fun h1=>(by have:=hend l hl h0;rw[h1]at this;cases this),fun i hi=>?_⟩
  have hin:i=ops0.size:=by
   rcases Nat.lt_or_ge i ops0.size with hlt|hge
   ·have:=hr l i hl hlt hi
    rw[h0]at this
    cases this
   ·have:=hle l i hl hi
    omega
  subst hin
  refine wpOp_mono (fun a' w' h'=>?_) h
  have hdone:Region.ready md (ops0.push o) ((l.push false).setIfInBounds ops0.size true)= []:=by
   apply List.eq_nil_iff_forall_not_mem.2
   intro j hj
   obtain⟨h1,x,hx,h2⟩:=mem_ready.1 hj
   have hjl:=(Array.getElem?_eq_some_iff.1 hx).1
   simp only[Array.size_push]at hjl
   by_cases hjn:j=ops0.size
   ·subst hjn
    simp only[Array.getD_eq_getD_getElem?]at h1
    rw[Array.getElem?_setIfInBounds_self_of_lt (by simp;omega)]at h1
    cases h1
   ·rw[getD_set_ne _ (Ne.symm hjn),getD_push_lt (by omega)]at h1
    have hj2:j<ops0.size:=by omega
    rw[Array.getElem?_push_lt hj2]at hx
    have hx':ops0[j]? =some x:=by rw[Array.getElem?_eq_getElem hj2];exact hx
    have:j∈Region.ready md ops0 l:=mem_ready.2 ⟨h1,x,hx',fun e he hb=>by
     have hlt:=hk.before j x hx' e he hb
     have:=h2 e he hb
     rw[getD_set_ne _ (by omega),getD_push_lt' (by omega)]at this
     exact this⟩
    rw[h0]at this
    cases this
  cases fuel with
  | zero=>exact⟨hdone,h'⟩
  | succ fuel=>exact⟨fun _=>h',by rw[hdone];simp⟩
 induction fuel with
 | zero=>exact fun l a w hl _ ⟨h0,h⟩=>hlast 0 l a w hl h0 h
 | succ fuel ih=>
  intro l a w hl hcl ⟨h0,h1⟩
  by_cases hz:Region.ready md ops0 l= []
  ·exact hlast (fuel+1) l a w hl hz (h0 hz)
  ·refine⟨fun h=>?_,fun i hi=>?_⟩
   ·obtain⟨i,hi⟩:=List.exists_mem_of_ne_nil _ hz
    have:=hr' l i hl hi
    rw[h]at this
    cases this
   ·have hin:i<ops0.size:=by
     rcases Nat.lt_or_ge i ops0.size with hlt|hge
     ·exact hlt
     ·have:i=ops0.size:=by have:=hle l i hl hi;omega
      subst this
      exact absurd (hall l hl hcl hi) hz
    have e:(l.push false).setIfInBounds i true=(l.setIfInBounds i true).push false:=by
     apply Array.ext_getElem?
     intro j
     by_cases hji:i=j
     ·subst hji
      rw[Array.getElem?_setIfInBounds_self_of_lt (by simp;omega),Array.getElem?_push_lt (by simp;omega)]
      simp
     ·rw[Array.getElem?_setIfInBounds_ne hji]
      rcases Nat.lt_trichotomy j l.size with h|h|h
      ·have h2:j<(l.setIfInBounds i true).size:=by simpa using h
       rw[Array.getElem?_push_lt h,Array.getElem?_push_lt h2,←Array.getElem?_eq_getElem h,←Array.getElem?_eq_getElem h2,Array.getElem?_setIfInBounds_ne hji]
      ·subst h
       rw[Array.getElem?_push_size]
       have:(l.setIfInBounds i true).size=l.size:=by simp
       rw[←this,Array.getElem?_push_size]
      ·rw[Array.getElem?_eq_none (by simp;omega),Array.getElem?_eq_none (by simp;omega)]
    rw[e]
    exact wpOp_last hk (fun a' w' h'=>ih _ a' w' (by simpa using hl) (hcl.set (hr l i hl hin hi)) h') i hin a w (h1 i (hr l i hl hin hi))
theorem wp_region_sink {id:Nat} {ops0:Array Oper} {o:Oper} {S:World→Prop} {Q:Exit→Act→World→Prop} {a:Act} {w:World} (hm:P.follows .mixedOrders=true) (hk:sinkOk .any ops0 o=true) (hS:S w.drew)
  (h:S w.drew→wpAnyH P .any ops0 (lastPost P ops0 o Q) S ops0.size (Array.replicate ops0.size false) a w.drew):(Code.region id (ops0.push o) true).wp P Q a w:=by
 refine wp_region_any hm ?_
 have:=wpAny_sink (P:=P) (sink_of hk) ops0.size (Array.replicate ops0.size false) a w.drew (by simp) (fun j x _ hj=>by
  have:(Array.replicate ops0.size false).getD j false=false:=by
   simp only[Array.getD_eq_getD_getElem?,Array.getElem?_replicate]
   split <;> rfl
  rw[this]at hj
  cases hj) (wpAny_of_held _ _ _ _ (h hS))
 rw[Array.size_push,show Array.replicate (ops0.size+1) false=(Array.replicate ops0.size false).push false by rw[Array.replicate_succ]]
 exact this
theorem wp_region_sink_at {id:Nat} {l:List Oper} {o:Oper} (S:World→Prop) {Q:Exit→Act→World→Prop} {a:Act} {w:World} (hm:P.follows .mixedOrders=true) (hl:l=l.dropLast++ [o]) (hk:sinkOk .any l.dropLast.toArray o=true) (hS:S w.drew)
  (h:S w.drew→wpAnyH P .any l.dropLast.toArray (lastPost P l.dropLast.toArray o Q) S l.dropLast.toArray.size (Array.replicate l.dropLast.toArray.size false) a w.drew):(Code.region id l.toArray true).wp P Q a w:=by
 have e:l.toArray=l.dropLast.toArray.push o:=by
  rw[List.push_toArray,←hl]
 rw[e]
 exact wp_region_sink hm hk hS h
theorem takeD {md:Region.Mode} {ops:Array Oper} {Q:Exit→Act→World→Prop} {S:World→Prop} (i d:Nat) {oi:Oper} {v:Value} {fuel:Nat} {listed:Array Bool} {a:Act} {w:World} (hi:ops[i]? =some oi) (hd:oi.dst=some d)
  (hs:Region.noSelect ops=true) (hf:Region.free md ops listed i=true) (hr:(Region.ready md ops listed).contains i=true)
  (hQ: ∀c (a:Act) w,Q (.panic c) (a.put oi.dst v) w→Q (.panic c) a w) (hy:YieldsIf P ops S oi v a) (hS:S w)
  (h:wpAnyH P md ops Q S fuel (listed.setIfInBounds i true) (a.put (some d) v) w):wpAnyH P md ops Q S (fuel+1) listed a w:=
 wpAnyH_take hi hs hf hr hQ hy hS (by rw[hd];exact h)
theorem wp_append_at (d:Nat) {w:World} {o:Oper} {a:Act} {K:Act→World→Prop} {Q:Exit→Act→World→Prop} (hd:o.dst=some d) (s x:Operand) (t:TypeId) (ho:o.op= .call { callee:=.builtin .append,args:= #[s,x],argTypes:= #[t,t] })
  (base:Nat) (e:TypeId) (i:TypeInfo) (z:Value) (size bytes:Nat) (ht:P.underlying t=some (.slice e)) (hi:P.info? e=some i) (hz:i.zero=some z) (hsize:i.size=size) (hby:i.bytes=bytes) (hzs:z.cells.size=size) (hsz:0<size)
  (v:Value) (n:Nat) (xs:List Value) (hs:a.eval s=v) (hown:w.ownsRow base e size v n xs)
  (ad:Addr) (m c:Nat) (news:List Value) (hx:a.eval x= .slice (some ad) m c) (hl:news.length=m*size) (hnews: ∀j u,news[j]? =some u→w.cell? (ad.add j)=some u) (h1: ∀u∈news,u.oneCell'=true)
  (h63:n+m≤maxLen) (hbytes:(n+m)*bytes≤140737488355328) (hbase:base≤w.heap.size)
  (h: ∀v' w',w'.ownsRow base e size v' (n+m) (xs++news)→w.grownBy w' v.ownBlock→(v'.ownBlock=v.ownBlock∨v'.ownBlock=some w.heap.size)→K (a.put (some d) v') w'):Oper.wp P o a w K Q:=by
 obtain⟨v',w',hr,h2,h3,_,h5⟩:=run_append_own_at (P:=P) w base t o.type e i z size bytes ht hi hz hsize hby hzs hsz v n xs hown ad m c news hl hnews h1 h63 hbytes hbase
 unfold Oper.wp execOp
 simp only[ho,resolve,invoke,builtin,Sem.run_bind,Sem.run_pure,Result.andThen_ok,List.map_toArray,List.map_cons,List.map_nil,hs,hx,hr]
 show K (a.put o.dst v') w'
 rw[hd]
 exact h v' w' h2 h3 h5
theorem lastPost_normal {ops0:Array Oper} {o:Oper} {Q:Exit→Act→World→Prop} {a:Act} {w:World} (h:wpOp P (ops0.push o) Q ops0.size (Q .normal) a w):lastPost P ops0 o Q .normal a w:=h
end
section
variable {P:Program}
theorem takeE {md:Region.Mode} {ops:Array Oper} {Q:Exit→Act→World→Prop} {S:World→Prop} (i d:Nat) {oi:Oper} {v:Value} {fuel:Nat} {listed:Array Bool} {a a':Act} {w:World}
  (h:wpAnyH P md ops Q S fuel (listed.setIfInBounds i true) a' w)
  (hi:ops[i]? =some oi:=by rfl) (hd:oi.dst=some d:=by rfl) (hs:Region.noSelect ops=true:=by kernel_rfl) (hf:Region.free md ops listed i=true:=by kernel_rfl) (hr:(Region.ready md ops listed).contains i=true:=by kernel_rfl)
  (hQ: ∀c (a:Act) w,Q (.panic c) (a.put oi.dst v) w→Q (.panic c) a w:=by exact fun _ _ _ h=>h) (hw:Region.wanted oi (yielded ops a.tmps)=true:=by rfl)
  (hy: ∀w,S w→(execOp a.eval oi).run P w= .ok (.value v) w:=by(intro wq hSw;clear hSw;go_simp;try with_reducible rfl)) (hS:S w:=by assumption)
  (ha:a.put (some d) v=a':=by(conv=>lhs;simp only[Act.put,List.setIfInBounds_toArray,List.set_cons_zero,List.set_cons_succ])):wpAnyH P md ops Q S (fuel+1) listed a w:=
 takeD i d hi hd hs hf hr hQ (Or.inl ⟨hw,hy⟩) hS (ha▸h)
theorem takeF {md:Region.Mode} {ops:Array Oper} {Q:Exit→Act→World→Prop} {S:World→Prop} (i d:Nat) {oi:Oper} {v:Value} {fuel:Nat} {listed:Array Bool} {a a':Act} {w:World} {F:World→Prop}
  (hF: ∀w,S w→F w) (h:wpAnyH P md ops Q S fuel (listed.setIfInBounds i true) a' w)
  (hi:ops[i]? =some oi:=by rfl) (hd:oi.dst=some d:=by rfl) (hs:Region.noSelect ops=true:=by kernel_rfl) (hf:Region.free md ops listed i=true:=by kernel_rfl) (hr:(Region.ready md ops listed).contains i=true:=by kernel_rfl)
  (hQ: ∀c (a:Act) w,Q (.panic c) (a.put oi.dst v) w→Q (.panic c) a w:=by exact fun _ _ _ h=>h) (hw:Region.wanted oi (yielded ops a.tmps)=true:=by rfl)
  (hy: ∀w,F w→(execOp a.eval oi).run P w= .ok (.value v) w:=by(intro wq hSw;go_simp;try with_reducible rfl)) (hS:S w:=by assumption)
  (ha:a.put (some d) v=a':=by(conv=>lhs;simp only[Act.put,List.setIfInBounds_toArray,List.set_cons_zero,List.set_cons_succ])):wpAnyH P md ops Q S (fuel+1) listed a w:=
 takeD i d hi hd hs hf hr hQ (Or.inl ⟨hw,fun w h=>hy w (hF w h)⟩) hS (ha▸h)
theorem takeS {md:Region.Mode} {ops:Array Oper} {Q:Exit→Act→World→Prop} {S:World→Prop} (i d:Nat) {oi:Oper} {v:Value} {fuel:Nat} {listed:Array Bool} {a a':Act} {w:World}
  (h:wpAnyH P md ops Q S fuel (listed.setIfInBounds i true) a' w)
  (hi:ops[i]? =some oi:=by rfl) (hd:oi.dst=some d:=by rfl) (hs:Region.noSelect ops=true:=by kernel_rfl) (hf:Region.free md ops listed i=true:=by kernel_rfl) (hr:(Region.ready md ops listed).contains i=true:=by kernel_rfl)
  (hQ: ∀c (a:Act) w,Q (.panic c) (a.put oi.dst v) w→Q (.panic c) a w:=by exact fun _ _ _ h=>h) (hw:Region.wanted oi (yielded ops a.tmps)=true:=by rfl)
  (hy: ∀w,S w→(execOp a.eval oi).run P w= .ok (.value v) w:=by(intro wq hSw;go_simp;try with_reducible rfl)) (hS:S w:=by assumption)
  (ha:a.put (some d) v=a':=by(conv=>lhs;simp only[Act.put,List.setIfInBounds_toArray,List.set_cons_zero,List.set_cons_succ])):wpAnyH P md ops Q S (fuel+1) listed a w:=
 takeD i d hi hd hs hf hr hQ (Or.inl ⟨hw,hy⟩) hS (ha▸h)
theorem takeU {md:Region.Mode} {ops:Array Oper} {Q:Exit→Act→World→Prop} {S:World→Prop} (i d:Nat) {oi:Oper} {fuel:Nat} {listed:Array Bool} {a a':Act} {w:World}
  (h:wpAnyH P md ops Q S fuel (listed.setIfInBounds i true) a' w)
  (hi:ops[i]? =some oi:=by rfl) (hd:oi.dst=some d:=by rfl) (hs:Region.noSelect ops=true:=by kernel_rfl) (hf:Region.free md ops listed i=true:=by kernel_rfl) (hr:(Region.ready md ops listed).contains i=true:=by kernel_rfl)
  (hQ: ∀c (a:Act) w,Q (.panic c) (a.put oi.dst undef) w→Q (.panic c) a w:=by exact fun _ _ _ h=>h) (hw:Region.wanted oi (yielded ops a.tmps)=false:=by rfl) (hS:S w:=by assumption)
  (ha:a.put (some d) undef=a':=by(conv=>lhs;simp only[Act.put,List.setIfInBounds_toArray,List.set_cons_zero,List.set_cons_succ])):wpAnyH P md ops Q S (fuel+1) listed a w:=
 takeD i d hi hd hs hf hr hQ (Or.inr ⟨hw,rfl⟩) hS (ha▸h)
theorem ready1 {md:Region.Mode} {ops:Array Oper} {Q:Exit→Act→World→Prop} {S:World→Prop} (i:Nat) {o:Oper} {fuel:Nat} {listed:Array Bool} {a:Act} {w:World}
  (h: ∀K':Act→World→Prop,Shut (∀a w,S w→(S w→wpAnyH P md ops Q S fuel (listed.setIfInBounds i true) a w)→K' a w)→if Region.wanted o (yielded ops a.tmps)=true then Oper.wp P o a w K' Q else K' (a.put o.dst undef) w)
  (ho:ops[i]? =some o:=by rfl) (hr:Region.ready md ops listed= [i]:=by kernel_rfl):wpAnyH P md ops Q S (fuel+1) listed a w:=
 wpAnyH_ready hr (by simp) (AllReadyH.cons ho h AllReadyH.nil)
end
end Go.Proofs.YtajbmjpodeilpaaGreat
