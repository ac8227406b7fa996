/- Literals and clauses: Right. Plain: steps of proofs. Logs (package emit) in memory: New, Has, Last, Count, Done. Learn (package emit): its parts. -/
import Derived.Test.YteigjcichmpejaaDoorV101
namespace Go.Proofs.YteigjcichmpejaaDoor
open Go.RowKit
def litB (x:Int):Bool:=decide (x≠0∧ -1048576≤x∧x≤1048576)
theorem litB_iff (x:Int):litB x=true↔x≠0∧ -1048576≤x∧x≤1048576:=by simp[litB]
def clauseB (xs:List Int):Bool:=decide (xs.length≤4096)&&xs.all litB
set_option maxHeartbeats 400000 in
theorem right_lit (x:Int) (w:World):Calls Tryd.prog 51 #[.int .i64 x] w fun e w'=>e= .returned (.bool (litB x))∧w=w':=by
 obtain⟨b,hb⟩: ∃b,litB x=b:=⟨_,rfl⟩
 rw[hb]
 have HB:=Lib.hid hb
 clear hb
 by_cases h0:x=0
 ·subst h0
  go_enter Tryd.func51,Tryd.ntmps51
  go_wp2
  go_ret
  exact⟨ret_bool (by rw[←HB.out];rfl),rfl⟩
 ·have h1:(x != 0)=true:=by simpa using h0
  have H0:=Lib.hid h0
  clear h0
  by_cases h2: -1048576≤x
  ·have h2':decide (-1048576≤x)=true:=by simpa using h2
   by_cases h3:x≤1048576
   ·have h3':decide (x≤1048576)=true:=by simpa using h3
    go_enter Tryd.func51,Tryd.ntmps51
    go_wp2
    go_ret
    exact⟨ret_bool (by rw[←HB.out];exact((litB_iff x).2 ⟨H0.out,h2,h3⟩).symm),rfl⟩
   ·have h3':decide (x≤1048576)=false:=by simpa using h3
    go_enter Tryd.func51,Tryd.ntmps51
    go_wp2
    go_ret
    exact⟨ret_bool (by rw[←HB.out];exact(Bool.eq_false_iff.2 (fun h=>by have:=(litB_iff x).1 h;omega)).symm),rfl⟩
  ·have h2':decide (-1048576≤x)=false:=by simpa using h2
   go_enter Tryd.func51,Tryd.ntmps51
   go_wp2
   go_ret
   exact⟨ret_bool (by rw[←HB.out];exact(Bool.eq_false_iff.2 (fun h=>by have:=(litB_iff x).1 h;omega)).symm),rfl⟩
theorem wrong_lit (x:Int) (w:World):Calls Tryd.prog 38 #[.int .i64 x] w fun e w'=>e= .returned (.bool (!litB x))∧w=w':=by
 have H:=fun w=>right_lit x w
 obtain⟨b,hb⟩: ∃b,litB x=b:=⟨_,rfl⟩
 rw[hb]
 rw[hb]at H
 clear hb
 have H:=Lib.hid H
 go_enter Tryd.func38,Tryd.ntmps38
 go_wp2_with fail
 refine(H.out _).mono ?_
 rintro e w' ⟨rfl,rfl⟩
 go_wp2_with fail
 go_ret
 exact⟨rfl,rfl⟩
set_option maxRecDepth 100000 in
set_option maxHeartbeats 1000000 in
theorem index_wrong {O:Nat→Prop} (u:Value) (xs:List Int) (w:World) (h1:IntsIn O w u xs) (hs:xs.length≤140737488355328):
  Calls Tryd.prog 50 #[u,.func (.func 38) #[] #[]] w (IdxPost (!xs.all litB) w):=by
 obtain⟨A,c,rfl,hc,_,hx⟩:=h1
 obtain⟨b,hb⟩: ∃b,(!xs.all litB)=b:=⟨_,rfl⟩
 rw[hb]
 have HB:=Lib.hid hb
 have HX:=Lib.hid hx
 clear hx hb
 go_enter Tryd.func50,Tryd.ntmps50
 go_wp2
 go_loop [8] (fun i=> ∃k:Nat,k≤xs.length∧i= .int .i64 k∧Hid (∀j x,j<k→xs[j]? =some x→litB x=true)) (fun i=>xs.length-(intOf i).toNat)
 case atStart=>exact⟨0,Nat.zero_le _,rfl,Lib.hid (fun j x hj=>by omega)⟩
 case round=>
  obtain⟨k,hk,rfl,HE⟩:=hrel
  by_cases hlt:k<xs.length
  ·obtain⟨x,hxk⟩:=getElem_of hlt
   obtain⟨g,o,rfl,hg,_,d1⟩:=HX.out k x hxk
   have HXK:=Lib.hid hxk
   have HW:=wrong_lit x
   clear hxk
   cases hl:litB x with
   | false=>
    rw[hl]at HW
    have HL:=Lib.hid hl
    have HW:=Lib.hid HW
    clear hl
    go_wp2_with fail
    refine(HW.out _).mono ?_
    rintro e w' ⟨rfl,rfl⟩
    go_wp2
    go_ret
    refine⟨⟨_,rfl,?_⟩,rfl⟩
    have hm:(xs.all litB)=false:=Bool.eq_false_iff.2 (fun h=>by
     have:=List.all_eq_true.1 h x (List.mem_of_getElem? HXK.out)
     rw[HL.out]at this
     cases this)
    rw[←HB.out,hm]
    exact decide_eq_true (by omega)
   | true=>
    rw[hl]at HW
    have HL:=Lib.hid hl
    have HW:=Lib.hid HW
    clear hl
    go_wp2_with fail
    refine(HW.out _).mono ?_
    rintro e w' ⟨rfl,rfl⟩
    go_wp2
    go_round
    case rel=>exact⟨k+1,by omega,by go_num,Lib.hid (fun j y hj hy=>by
     rcases Nat.lt_or_ge j k with h|h
     ·exact HE.out j y h hy
     ·obtain rfl:j=k:=by omega
      rw[HXK.out]at hy
      obtain rfl:=Option.some.inj hy
      exact HL.out)⟩
    case measure=>simp[intOf];omega
  ·obtain rfl:k=xs.length:=by omega
   go_wp2
   go_ret
   refine⟨⟨_,rfl,?_⟩,rfl⟩
   have hm:(xs.all litB)=true:=List.all_eq_true.2 (fun x hx=>by
    obtain⟨j,hj⟩:=List.getElem?_of_mem hx
    exact HE.out j x (List.getElem?_eq_some_iff.1 hj).1 hj)
   rw[←HB.out,hm]
   rfl
set_option maxHeartbeats 400000 in
theorem contains_wrong {O:Nat→Prop} (u:Value) (xs:List Int) (w:World) (h1:IntsIn O w u xs) (hs:xs.length≤140737488355328):
  Calls Tryd.prog 37 #[u,.func (.func 38) #[] #[]] w fun e w'=>e= .returned (.bool (!xs.all litB))∧w=w':=by
 have H0:=index_wrong u xs w h1 hs
 obtain⟨b,hb⟩: ∃b,(!xs.all litB)=b:=⟨_,rfl⟩
 rw[hb]at H0⊢
 have H:=Lib.hid H0
 clear H0 hb
 go_enter Tryd.func37,Tryd.ntmps37
 go_wp2_with fail
 refine H.out.mono ?_
 rintro e w' ⟨⟨i,rfl,hi⟩,rfl⟩
 have HI:=Lib.hid hi
 clear hi
 go_wp2_with fail
 go_ret
 exact⟨ret_bool HI.out,rfl⟩
set_option maxHeartbeats 400000 in
theorem right_clause {O:Nat→Prop} (u:Value) (xs:List Int) (w:World) (h1:IntsIn O w u xs) (hs:xs.length≤140737488355328):
  Calls Tryd.prog 21 #[u] w fun e w'=>e= .returned (.bool (clauseB xs))∧w=w':=by
 have H0:=contains_wrong u xs w h1 hs
 obtain⟨A,c,rfl,_⟩:=h1
 unfold clauseB
 by_cases hl:xs.length≤4096
 ·have hl':decide ((xs.length:Int)≤4096)=true:=by simp;omega
  rw[decide_eq_true hl,Bool.true_and]
  cases ha:xs.all litB with
  | true=>
   rw[ha]at H0
   have H:=Lib.hid H0
   clear H0 ha
   go_enter Tryd.func21,Tryd.ntmps21
   go_wp2_with fail
   refine H.out.mono ?_
   rintro e w' ⟨rfl,rfl⟩
   go_wp2_with fail
   go_ret
   exact⟨rfl,rfl⟩
  | false=>
   rw[ha]at H0
   have H:=Lib.hid H0
   clear H0 ha
   go_enter Tryd.func21,Tryd.ntmps21
   go_wp2_with fail
   refine H.out.mono ?_
   rintro e w' ⟨rfl,rfl⟩
   go_wp2_with fail
   go_ret
   exact⟨rfl,rfl⟩
 ·have hl':decide ((xs.length:Int)≤4096)=false:=by simp;omega
  rw[decide_eq_false hl,Bool.false_and]
  clear H0
  go_enter Tryd.func21,Tryd.ntmps21
  go_wp2_with fail
  go_ret
  exact⟨rfl,rfl⟩
end Go.Proofs.YteigjcichmpejaaDoor
namespace Go.Proofs.YteigjcichmpejaaDoor
structure EStep where
 del:Bool
 id:Int
 lits:List Int
 hints:List Int
end Go.Proofs.YteigjcichmpejaaDoor
namespace Go.Proofs.YteigjcichmpejaaDoor
open Go.RowKit
structure ELog where
 last:Nat
 count:Nat
 gone:List Int
 steps:List EStep
 done:Bool
def goneF (l:List Int) (x:Int):Int:=if l.contains x then 1 else 0
def ELog.has (L:ELog) (x:Int):Bool:=decide (1≤x∧x≤L.last)&& !L.gone.contains x
structure MStep where
 lv:Value
 hv:Value
 s:EStep
def MStep.cells (m:MStep):List Value:= [.bool m.s.del,.int .i64 m.s.id,m.lv,m.hv]
structure MStep.At (O:Nat→Prop) (w:World) (m:MStep):Prop where
 lits:w.ownsRow 0 51 1 m.lv m.s.lits.length (m.s.lits.map (Value.int .i64))
 litb: ∀g,m.lv.ownBlock=some g→O g
 hints:w.ownsRow 0 3 1 m.hv m.s.hints.length (m.s.hints.map (Value.int .i64))
 block: ∀g,m.hv.ownBlock=some g→O g
theorem MStep.At.mono {O O':Nat→Prop} {w:World} {m:MStep} (h:m.At O w) (hO: ∀g,O g→O' g):m.At O' w:=⟨h.lits,fun g hg=>hO g (h.litb g hg),h.hints,fun g hg=>hO g (h.block g hg)⟩
theorem MStep.At.kept {O O':Nat→Prop} {w w':World} {m:MStep} (h:m.At O w) (k:Kept O' w w') (hO: ∀g,O g→¬O' g):m.At O w':=
 ⟨own_kept h.lits k (fun g hg=>hO g (h.litb g hg)),h.litb,own_kept h.hints k (fun g hg=>hO g (h.block g hg)),h.block⟩
theorem MStep.At.typed {O O':Nat→Prop} {w w':World} {m:MStep} (h:m.At O w) (k:Kept O' w w') (hO: ∀g c t,w.heap[g]? =some (.cells c t (0,0))→O' g→t≠51∧t≠3):m.At O w':=
 ⟨own_kept h.lits k (fun g hg ho=>by obtain⟨c,hc⟩:=own_type h.lits g hg;exact(hO g c _ hc ho).1 rfl),h.litb,own_kept h.hints k (fun g hg ho=>by obtain⟨c,hc⟩:=own_type h.hints g hg;exact(hO g c _ hc ho).2 rfl),h.block⟩
structure LogMem (O:Nat→Prop) (w:World) (b:Nat) (L:ELog) (mb:Nat) (sv:Value) (ms:List MStep):Prop where
 own: ∀g,O g→g<w.heap.size
 inb:O b
 inm:O mb
 block:w.heap[b]? =some (.cells #[.int .i64 L.last,.int .i64 L.count,.map (some mb),sv,.bool L.done] 55 (0,0))
 map:MapAt w mb L.gone.length (goneF L.gone)
 row:w.ownsRow 0 49 4 sv ms.length (ms.flatMap MStep.cells)
 rowb: ∀g,sv.ownBlock=some g→O g
 steps:ms.map MStep.s=L.steps
 each: ∀m∈ms,m.At O w
 apart:ms.Pairwise fun x y=> ∀g,x.hv.ownBlock=some g→y.hv.ownBlock≠some g
def LogAt (O:Nat→Prop) (w:World) (b:Nat) (L:ELog):Prop:= ∃mb sv ms,LogMem O w b L mb sv ms
theorem LogMem.kept {O O':Nat→Prop} {w w':World} {b:Nat} {L:ELog} {mb:Nat} {sv:Value} {ms:List MStep} (h:LogMem O w b L mb sv ms) (k:Kept O' w w') (hO: ∀g,O g→¬O' g):LogMem O w' b L mb sv ms where
 own:=fun g hg=>Nat.lt_of_lt_of_le (h.own g hg) k.size
 inb:=h.inb
 inm:=h.inm
 block:=(k.block b (heap_lt h.block) (hO b h.inb)).trans h.block
 map:=h.map.kept k (hO mb h.inm)
 row:=own_kept h.row k (fun g hg=>hO g (h.rowb g hg))
 rowb:=h.rowb
 steps:=h.steps
 each:=fun m hm=>(h.each m hm).kept k hO
 apart:=h.apart
theorem LogAt.kept {O O':Nat→Prop} {w w':World} {b:Nat} {L:ELog} (h:LogAt O w b L) (k:Kept O' w w') (hO: ∀g,O g→¬O' g):LogAt O w' b L:=by
 obtain⟨mb,sv,ms,h⟩:=h
 exact⟨mb,sv,ms,h.kept k hO⟩
theorem LogAt.below {O:Nat→Prop} {w w':World} {b:Nat} {L:ELog} (h:LogAt O w b L) (k:Below w.heap.size w w'):LogAt O w' b L:=
 h.kept (O':=fun _=>False) (Kept.of_below k) (fun _ _ h=>h)
theorem cell_of_block {w:World} {b j:Nat} {cs:Array Value} {t:TypeId} {fz:Nat×Nat} (h:w.heap[b]? =some (.cells cs t fz)):w.cell? ⟨b,j,none⟩=cs[j]? :=by
 simp[World.cell?,h]
theorem free_of_block {w:World} {b j:Nat} {cs:Array Value} {t:TypeId} (h:w.heap[b]? =some (.cells cs t (0,0))):w.frozen? ⟨b,j,none⟩=false:=by
 simp[World.frozen?,h]
structure LogCells (w:World) (b:Nat) (L:ELog) (mb:Nat) (sv:Value):Prop where
 c0:w.cell? ⟨b,0,none⟩=some (.int .i64 L.last)
 c1:w.cell? ⟨b,1,none⟩=some (.int .i64 L.count)
 c2:w.cell? ⟨b,2,none⟩=some (.map (some mb))
 c3:w.cell? ⟨b,3,none⟩=some sv
 c4:w.cell? ⟨b,4,none⟩=some (.bool L.done)
theorem LogMem.cells {O:Nat→Prop} {w:World} {b:Nat} {L:ELog} {mb:Nat} {sv:Value} {ms:List MStep} (h:LogMem O w b L mb sv ms):LogCells w b L mb sv:=
 ⟨(cell_of_block h.block).trans rfl,(cell_of_block h.block).trans rfl,(cell_of_block h.block).trans rfl,(cell_of_block h.block).trans rfl,(cell_of_block h.block).trans rfl⟩
theorem goneF_eq (l:List Int) (x:Int):(goneF l x==0)= !l.contains x:=by
 unfold goneF
 cases l.contains x <;> simp
set_option maxRecDepth 100000 in
set_option maxHeartbeats 1000000 in
theorem log_has {O:Nat→Prop} (b:Nat) (L:ELog) (x:Int) (w:World) (h:LogAt O w b L) (hx:(Lit.int .i64 x).wf=true):
  Calls Tryd.prog 6 #[.pointer (some ⟨b,0,none⟩),.int .i64 x] w fun e w'=>e= .returned (.bool (L.has x))∧w=w':=by
 obtain⟨mb,sv,ms,h⟩:=h
 obtain⟨c0,c1,c2,c3,c4⟩:=h.cells
 have hlk:=h.map.lookup hx
 have hg:=goneF_eq L.gone x
 clear h c1 c3 c4
 obtain⟨bb,hb⟩: ∃bb,L.has x=bb:=⟨_,rfl⟩
 unfold ELog.has at hb
 rw[show L.has x=bb from hb]
 by_cases h1:1≤x
 ·have h1':decide (1≤x)=true:=by simpa using h1
  by_cases h2:x≤(L.last:Int)
  ·have h2':decide (x≤(L.last:Int))=true:=by simpa using h2
   rw[decide_eq_true ⟨h1,h2⟩,Bool.true_and]at hb
   rw[hb]at hg
   have HB:=Lib.hid hb
   clear hb
   go_enter Tryd.func6,Tryd.ntmps6
   go_wp2
   go_ret
   exact⟨rfl,rfl⟩
  ·have h2':decide (x≤(L.last:Int))=false:=by simpa using h2
   rw[decide_eq_false (fun h=>h2 h.2),Bool.false_and]at hb
   subst hb
   clear hlk hg
   go_enter Tryd.func6,Tryd.ntmps6
   go_wp2
   go_ret
   exact⟨rfl,rfl⟩
 ·have h1':decide (1≤x)=false:=by simpa using h1
  rw[decide_eq_false (fun h=>h1 h.1),Bool.false_and]at hb
  subst hb
  clear hlk hg
  go_enter Tryd.func6,Tryd.ntmps6
  go_wp2
  go_ret
  exact⟨rfl,rfl⟩
theorem log_count {O:Nat→Prop} (b:Nat) (L:ELog) (w:World) (h:LogAt O w b L):
  Calls Tryd.prog 16 #[.pointer (some ⟨b,0,none⟩)] w fun e w'=>e= .returned (.int .i64 L.count)∧w=w':=by
 obtain⟨mb,sv,ms,h⟩:=h
 obtain⟨c0,c1,c2,c3,c4⟩:=h.cells
 clear h c0 c2 c3 c4
 go_enter Tryd.func16,Tryd.ntmps16
 go_wp2
 go_ret
 exact⟨rfl,rfl⟩
theorem log_done {O:Nat→Prop} (b:Nat) (L:ELog) (w:World) (h:LogAt O w b L):
  Calls Tryd.prog 17 #[.pointer (some ⟨b,0,none⟩)] w fun e w'=>e= .returned (.bool L.done)∧w=w':=by
 obtain⟨mb,sv,ms,h⟩:=h
 obtain⟨c0,c1,c2,c3,c4⟩:=h.cells
 clear h c0 c1 c2 c3
 go_enter Tryd.func17,Tryd.ntmps17
 go_wp2
 go_ret
 exact⟨rfl,rfl⟩
def newLog (n:Nat):ELog:=⟨n,n,[],[],false⟩
theorem new_ok (n:Nat) (w:World) (h:n≤1048576):
  Calls Tryd.prog 5 #[.int .i64 (n:Int)] w fun e w'=>e= .returned (.tuple #[.pointer (some ⟨w.heap.size+1,0,none⟩),.int .i64 0])∧LogAt (fun g=>w.heap.size≤g∧g<w'.heap.size) w' (w.heap.size+1) (newLog n)∧Below w.heap.size w w':=by
 have hmm:=@run_makeMap Tryd.prog
 go_enter Tryd.func5,Tryd.ntmps5
 go_wp2
 go_ret2
 refine⟨rfl,⟨w.heap.size,.slice none 0 0,[],⟨fun g hg=>hg.2,⟨by omega,by simp⟩,⟨by omega,by simp;omega⟩,?_,?_,World.ownsRow_nil _ _ _ _,(fun g hg=>by cases hg),rfl,(fun m hm=>by cases hm),List.Pairwise.nil⟩⟩,?_⟩
 ·have:=World.alloc_heap_new (w.alloc (.map #[] 0)) (.cells #[.int .i64 (n:Int),.int .i64 (n:Int),.map (some w.heap.size),.slice none 0 0,.bool false] 55)
  rw[show(w.alloc (.map #[] 0)).heap.size=w.heap.size+1 by simp]at this
  exact this
 ·have:=(MapAt.made w).below ((Below.refl _ _).alloc (Nat.le_refl _) (.cells #[.int .i64 (n:Int),.int .i64 (n:Int),.map (some w.heap.size),.slice none 0 0,.bool false] 55))
  exact this
 ·exact((Below.refl _ _).alloc (Nat.le_refl _) _).alloc (by simp) _
end Go.Proofs.YteigjcichmpejaaDoor
namespace Go.Proofs.YteigjcichmpejaaDoor
open Go.RowKit
theorem learn_fn {O:Nat→Prop} (bx b:Nat) (L:ELog) (x:Int) (w:World) (hb:w.cell? ⟨bx,0,none⟩=some (.pointer (some ⟨b,0,none⟩))) (h:LogAt O w b L) (hx:(Lit.int .i64 x).wf=true):
  Calls Tryd.prog 23 #[.int .i64 x,.pointer (some ⟨bx,0,none⟩)] w fun e w'=>e= .returned (.bool (!L.has x))∧w=w':=by
 have H:=log_has b L x w h hx
 obtain⟨bb,hbb⟩: ∃bb,L.has x=bb:=⟨_,rfl⟩
 rw[hbb]at H⊢
 have H:=Lib.hid H
 clear hbb h
 go_enter Tryd.func23,Tryd.ntmps23
 go_wp2_with fail
 refine H.out.mono ?_
 rintro e w' ⟨rfl,rfl⟩
 go_wp2_with fail
 go_ret
 exact⟨rfl,rfl⟩
set_option maxRecDepth 100000 in
set_option maxHeartbeats 1000000 in
theorem index_has {O O':Nat→Prop} (u:Value) (xs:List Int) (bx b:Nat) (L:ELog) (w:World) (h1:IntsIn O' w u xs) (hs:xs.length≤140737488355328) (hw: ∀x∈xs,(Lit.int .i64 x).wf=true)
  (hb:w.cell? ⟨bx,0,none⟩=some (.pointer (some ⟨b,0,none⟩))) (h:LogAt O w b L):
  Calls Tryd.prog 39 #[u,.func (.func 23) #[] #[.pointer (some ⟨bx,0,none⟩)]] w (IdxPost (xs.any fun x=> !L.has x) w):=by
 obtain⟨A,c,rfl,hc,_,hx⟩:=h1
 obtain⟨bb,hbb⟩: ∃bb,(xs.any fun x=> !L.has x)=bb:=⟨_,rfl⟩
 rw[hbb]
 have HB:=Lib.hid hbb
 have HX:=Lib.hid hx
 have HF:=Lib.hid (fun x hx=>learn_fn bx b L x w hb h hx)
 clear hx hbb hb h
 go_enter Tryd.func39,Tryd.ntmps39
 go_wp2
 go_loop [8] (fun i=> ∃k:Nat,k≤xs.length∧i= .int .i64 k∧Hid (∀j x,j<k→xs[j]? =some x→L.has x=true)) (fun i=>xs.length-(intOf i).toNat)
 case atStart=>exact⟨0,Nat.zero_le _,rfl,Lib.hid (fun j x hj=>by omega)⟩
 case round=>
  obtain⟨k,hk,rfl,HE⟩:=hrel
  by_cases hlt:k<xs.length
  ·obtain⟨x,hxk⟩:=getElem_of hlt
   obtain⟨g,o,rfl,hg,_,d1⟩:=HX.out k x hxk
   have HXK:=Lib.hid hxk
   have HW:=HF.out x (hw x (List.mem_of_getElem? hxk))
   clear hxk
   cases hl:L.has x with
   | false=>
    rw[hl]at HW
    have HL:=Lib.hid hl
    have HW:=Lib.hid HW
    clear hl
    go_wp2_with fail
    refine HW.out.mono ?_
    rintro e w' ⟨rfl,rfl⟩
    go_wp2
    go_ret
    refine⟨⟨_,rfl,?_⟩,rfl⟩
    rw[←HB.out,List.any_eq_true.2 ⟨x,List.mem_of_getElem? HXK.out,by rw[HL.out];rfl⟩]
    exact decide_eq_true (by omega)
   | true=>
    rw[hl]at HW
    have HL:=Lib.hid hl
    have HW:=Lib.hid HW
    clear hl
    go_wp2_with fail
    refine HW.out.mono ?_
    rintro e w' ⟨rfl,rfl⟩
    go_wp2
    go_round
    case rel=>exact⟨k+1,by omega,by go_num,Lib.hid (fun j y hj hy=>by
     rcases Nat.lt_or_ge j k with h|h
     ·exact HE.out j y h hy
     ·obtain rfl:j=k:=by omega
      rw[HXK.out]at hy
      obtain rfl:=Option.some.inj hy
      exact HL.out)⟩
    case measure=>simp[intOf];omega
  ·obtain rfl:k=xs.length:=by omega
   go_wp2
   go_ret
   refine⟨⟨_,rfl,?_⟩,rfl⟩
   have hm:(xs.any fun x=> !L.has x)=false:=List.any_eq_false.2 (fun x hx=>by
    obtain⟨j,hj⟩:=List.getElem?_of_mem hx
    rw[HE.out j x (List.getElem?_eq_some_iff.1 hj).1 hj]
    decide)
   rw[←HB.out,hm]
   rfl
set_option maxHeartbeats 400000 in
theorem contains_has {O O':Nat→Prop} (u:Value) (xs:List Int) (bx b:Nat) (L:ELog) (w:World) (h1:IntsIn O' w u xs) (hs:xs.length≤140737488355328) (hw: ∀x∈xs,(Lit.int .i64 x).wf=true)
  (hb:w.cell? ⟨bx,0,none⟩=some (.pointer (some ⟨b,0,none⟩))) (h:LogAt O w b L):
  Calls Tryd.prog 22 #[u,.func (.func 23) #[] #[.pointer (some ⟨bx,0,none⟩)]] w fun e w'=>e= .returned (.bool (xs.any fun x=> !L.has x))∧w=w':=by
 have H0:=index_has u xs bx b L w h1 hs hw hb h
 obtain⟨bb,hbb⟩: ∃bb,(xs.any fun x=> !L.has x)=bb:=⟨_,rfl⟩
 rw[hbb]at H0⊢
 have H:=Lib.hid H0
 clear H0 hbb hb h
 go_enter Tryd.func22,Tryd.ntmps22
 go_wp2_with fail
 refine H.out.mono ?_
 rintro e w' ⟨⟨i,rfl,hi⟩,rfl⟩
 have HI:=Lib.hid hi
 clear hi
 go_wp2_with fail
 go_ret
 exact⟨ret_bool HI.out,rfl⟩
end Go.Proofs.YteigjcichmpejaaDoor
