/- lratext.Parse at any line. -/
import Derived.Test.YtajbmjpodeilpaaGreatDoorV204
import Derived.Test.YtajbmjpodeilpaaGreatDoorV205
import Derived.Sort.CutIn
import Derived.Sort.OwnSorted
namespace Go.Proofs.YtajbmjpodeilpaaGreatDoor
open Go.RowKit Go.Shelf
attribute [local go_sem] Oper.semAt_some
theorem frz_blk {w:World} {b j:Nat} {cs:Array Value} {t:TypeId} (h:w.heap[b]? =some (.cells cs t (0,0))):w.frozen? ⟨b,j,none⟩=false:=by
 simp[World.frozen?,h]
theorem delete_words (b:Nat) (ws:List (List UInt8)) (t:TypeId) (w:World) (hb:w.heap[b]? =some (.cells (ws.map fun x=>Value.string ⟨x.toArray⟩).toArray t (0,0))) (h2:2≤ws.length) (hl:ws.length≤140737488355328):
  Calls Tryz.prog 132 #[.slice (some ⟨b,0,none⟩) ws.length ws.length,.int .i64 1,.int .i64 2] w fun e w'=>e= .returned (.slice (some ⟨b,0,none⟩) (ws.eraseIdx 1).length ws.length)∧
   WordsAt (fun g=>g=b) w' (.slice (some ⟨b,0,none⟩) (ws.eraseIdx 1).length ws.length) (ws.eraseIdx 1)∧w.grownBy w' (some b):=by
 have hc: ∀(j:Nat) (x:List UInt8),ws[j]? =some x→w.cell? ⟨b,j,none⟩=some (.string ⟨x.toArray⟩):=fun j x hj=>by
  simp[World.cell?,hb,hj]
 have hH:Sort.Holds encStr w b 0 ws.toArray:=fun j hj=>by
  have hj':j<ws.length:=by simpa using hj
  refine⟨?_,frz_blk hb⟩
  rw[Nat.zero_add,hc j ws[j] (List.getElem?_eq_getElem hj')]
  simp[encStr,hj']
 have he:ws.eraseIdx 1=ws.take 1++ws.drop 2:=by rw[List.eraseIdx_eq_take_drop_succ]
 have hel:(ws.eraseIdx 1).length=ws.length-1:=by rw[List.length_eraseIdx,if_pos (by omega)]
 refine(Tryz.slices_Delete_string b 0 ws.length 1 2 ws w hH (Nat.le_refl _) (by omega) (by omega) h2).mono ?_
 rintro e w' ⟨rfl,q,rfl⟩
 have hg:=grownBy_sorted (w:=w) (g:=b) (n:=q) (os:= #[]) (ws.take 1++ws.drop 2++List.replicate (2-1) []).toArray
 rw[Sort.grow_empty]at hg
 refine⟨by rw[hel],⟨_,_,rfl,fun i x hx=>⟨b,0,rfl,?_,rfl,?_⟩⟩,hg⟩
 ·exact Nat.lt_of_lt_of_le (heap_lt hb) hg.size
 ·have hH2:=Sort.holds_putRow encStr (Sort.ahead w q) b 0 ws.toArray (ws.take 1++ws.drop 2++List.replicate (2-1) []).toArray hH (by simp;omega)
  have hi:=(List.getElem?_eq_some_iff.1 hx).1
  have:=(hH2 i (by simp;omega)).1
  rw[this]
  rw[he]at hx
  rw[he]at hi
  have hL:(ws.take 1++ws.drop 2++List.replicate (2-1) [])[i]? =some x:=by rw[List.getElem?_append_left hi];exact hx
  have hA:(ws.take 1++ws.drop 2++List.replicate (2-1) ([] :List UInt8)).toArray[i]! =x:=by rw[List.getElem!_toArray,List.getElem!_eq_getElem?_getD,hL];rfl
  rw[hA]
theorem TabW.cells {w:World} (h:TabW w): ∃cs t z,w.heap[(5:Nat)]? =some (.cells cs t z):=by
 unfold TabW Lib.TabIs World.var? at h
 rw[tab_named]at h
 simp only[Option.bind_some]at h
 split at h
 ·exact⟨_,_,_,by assumption⟩
 ·cases h
theorem TabW.kpc {X:Nat→Prop} {W W':World} (h:TabW W) (k:KpC X W W') (hx: ¬X 5):TabW W':=by
 obtain⟨cs,t,z,hc⟩:=h.cells
 exact h.of_block ((k.same _ _ hc hx (.inl rfl)).trans hc.symm)
theorem ErrC.kpc {X:Nat→Prop} {W W':World} (h:ErrC W) (k:KpC X W W') (h1: ¬X 3) (h2: ¬X 4):ErrC W':=by
 obtain⟨⟨e,g1,g2⟩,f,g3,g4⟩:=h
 exact⟨⟨e,(k.kept.cell (p:=⟨3,0,none⟩) (World.block_lt_of_cell? _ _ g1) (fun h=>h.elim h1 (xo_cell g1))).trans g1,g2⟩,f,(k.kept.cell (p:=⟨4,0,none⟩) (World.block_lt_of_cell? _ _ g3) (fun h=>h.elim h2 (xo_cell g3))).trans g3,g4⟩
theorem ErrC.lt {w:World} (h:ErrC w):3<w.heap.size∧4<w.heap.size:=by
 obtain⟨⟨e,g1,_⟩,f,g3,_⟩:=h
 exact⟨World.block_lt_of_cell? w ⟨3,0,none⟩ g1,World.block_lt_of_cell? w ⟨4,0,none⟩ g3⟩
theorem spl_len (c:UInt8): ∀t:List UInt8,(spl c t).length≤t.length+1
 | []=>Nat.le_refl _
 | b::r=>by
  have ih:=spl_len c r
  rw[spl]
  split
  ·rw[List.length_cons,List.length_cons]
   omega
  ·split
   ·rw[List.length_cons,List.length_nil,List.length_cons]
    omega
   ·rename_i h
    rw[h,List.length_cons]at ih
    rw[List.length_cons,List.length_cons]
    omega
theorem spl_word (c:UInt8): ∀t:List UInt8,∀x∈spl c t,x.length≤t.length
 | [],x,h=>by
  rw[List.mem_singleton.1 h]
  exact Nat.le_refl _
 | b::r,x,h=>by
  have ih:=spl_word c r
  rw[spl]at h
  rw[List.length_cons]
  split at h
  ·rcases List.mem_cons.1 h with rfl|h
   ·exact Nat.zero_le _
   ·have:=ih x h
    omega
  ·split at h
   ·rw[List.mem_singleton.1 h,List.length_singleton]
    omega
   ·rename_i y u hy
    rw[hy]at ih
    rcases List.mem_cons.1 h with rfl|h
    ·have:=ih y List.mem_cons_self
     rw[List.length_cons]
     omega
    ·have:=ih x (List.mem_cons_of_mem _ h)
     omega
theorem pWords_len (ws:List (List UInt8)):(pWords ws).length≤ws.length:=by
 unfold pWords
 split
 ·rw[List.length_eraseIdx]
  split <;> omega
 ·exact Nat.le_refl _
theorem pWords_mem {ws:List (List UInt8)} {x:List UInt8} (h:x∈pWords ws):x∈ws:=by
 unfold pWords at h
 split at h
 ·exact List.mem_of_mem_eraseIdx h
 ·exact h
def PSt.nb (p:PSt) (l:List Int):Prop:= ∀(k:Nat) (x:Int),l[k]? =some x→((p.sf (l.take k)).step x).2=false
theorem sf_snoc (p:PSt) (l:List Int) (x:Int):p.sf (l++ [x])=((p.sf l).step x).1:=by
 unfold PSt.sf
 rw[List.foldl_append]
 rfl
theorem nb_snoc {p:PSt} {l:List Int} {x:Int} (h:p.nb l) (hx:((p.sf l).step x).2=false):p.nb (l++ [x]):=fun k y hk=>by
 rcases Nat.lt_trichotomy k l.length with hl|hl|hl
 ·rw[List.getElem?_append_left hl]at hk
  rw[List.take_append_of_le_length (Nat.le_of_lt hl)]
  exact h k y hk
 ·subst hl
  rw[List.getElem?_append_right (Nat.le_refl _),Nat.sub_self]at hk
  obtain rfl:=Option.some.inj hk
  rw[List.take_append_of_le_length (Nat.le_refl _),List.take_length]
  exact hx
 ·rw[List.getElem?_eq_none (by rw[List.length_append,List.length_singleton];omega)]at hk
  cases hk
theorem nb_go: ∀(l r:List Int) (p:PSt),p.nb l→PSt.go p (l++r)=PSt.go (p.sf l) r
 | [],r,p,_=>rfl
 | n::l,r,p,h=>by
  have h0:(p.step n).2=false:=h 0 n rfl
  rw[List.cons_append,PSt.go,if_neg (by rw[h0];decide),nb_go l r (p.step n).1 fun k x hk=>h (k+1) x hk]
  rfl
theorem nb_all {p:PSt} {l:List Int} (h:p.nb l):PSt.go p l=p.sf l:=by
 have:=nb_go l [] p h
 rwa [List.append_nil]at this
theorem nb_stop {p:PSt} {l r:List Int} {x:Int} (h:p.nb l) (hx:((p.sf l).step x).2=true):PSt.go p (l++x::r)=p.sf (l++ [x]):=by
 rw[nb_go l _ p h,PSt.go,if_pos hx,sf_snoc]
structure PJ (n0 R S P C:Nat) (del:Bool) (w:World) (q:PSt) (W:World):Prop where
 st: ∃lv hv,W.heap[S]? =some (.cells #[.bool del,.int .i64 q.id,lv,hv] 34 (0,0))∧W.ownsRow R 28 1 lv q.lits.length (q.lits.map (Value.int .i64))∧W.ownsRow R 3 1 hv q.hints.length (q.hints.map (Value.int .i64))
 cnt:Boxed W C 3 (.int .i64 (q.count:Nat))
 prt:Boxed W P 3 (.int .i64 (q.part:Nat))
 res:W.heap[n0]? =some (.cells #[.bool false,.int .i64 0,.slice none 0 0,.slice none 0 0] 34 (0,0))
 low:Below n0 w W
theorem own_nocells2 {w w':World} {row:Option Nat} {base size n:Nat} {e:TypeId} {v:Value} {xs:List Value} (h:w.ownsRow base e size v n xs) (hg:w.grownBy w' row) (hr: ∀r,row=some r→∃o:Obj,w.heap[r]? =some o∧o.isCells=false):w'.ownsRow base e size v n xs:=
 own_kept h (Kept.grown hg) (fun g h1 h2=>by
  obtain⟨o,ho,hc⟩:=hr g h2.symm
  obtain⟨c,hcc⟩:=own_type h g h1
  rw[hcc]at ho
  cases ho
  cases hc)
theorem pj_own {n0 R S P C:Nat} {del:Bool} {w:World} {N:Nat} (hN:n0≤N) {q:PSt} {W W':World} {row:Option Nat} (h:PJ n0 R S P C del w q W) (hw:n0≤w.heap.size) (hg:W.grownBy W' row) (hr: ∀r,row=some r→N≤r∧∃o:Obj,W.heap[r]? =some o∧o.isCells=false):PJ n0 R S P C del w q W':=by
 obtain⟨lv,hv,h1,h2,h3⟩:=h.st
 have key: ∀{g:Nat} {c:Array Value} {t:TypeId},W.heap[g]? =some (.cells c t (0,0))→W'.heap[g]? =some (.cells c t (0,0)):=fun {g c t} hgc=>by
  rw[hg.block g (heap_lt hgc) (fun e=>by
   obtain⟨_,o,ho,hc⟩:=hr g e.symm
   rw[hgc]at ho
   cases ho
   cases hc)]
  exact hgc
 exact⟨⟨lv,hv,key h1,own_nocells2 h2 hg (fun q e=>(hr q e).2),own_nocells2 h3 hg (fun q e=>(hr q e).2)⟩,key h.cnt,key h.prt,key h.res,h.low.grown hg (Nat.le_trans hw h.low.size) (fun q e=>Nat.le_trans hN (hr q e.symm.symm).1)⟩
theorem grown_setCell (w:World) (a:Addr) (u:Value):w.grownBy (w.setCell a u) (some a.block):=
 ⟨rfl,rfl,rfl,by simp,fun k _ hk=>heap_setCell_other w a k u (fun e=>hk (by rw[e]))⟩
def PX (R S P:Nat):Nat→Prop:=fun g=>g=S∨g=P∨g=P+1∨R≤g
theorem kpc_set {X:Nat→Prop} (W:World) {g:Nat} (j:Nat) (v:Value) (h:X g):KpC X W (W.setCell ⟨g,j,none⟩ v):=(KpC.of_grown (grown_setCell W ⟨g,j,none⟩ v)).mono (fun k _ e=>by cases e;exact h)
theorem linfo_lit:(Tryz.prog.info? 28).map (fun i=>(i.zero,i.size,i.bytes))=some (some (.int .i64 0),1,8):=by kernel_rfl
theorem linfo_int:(Tryz.prog.info? 3).map (fun i=>(i.zero,i.size,i.bytes))=some (some (.int .i64 0),1,8):=by kernel_rfl
section
variable {n0 R S P:Nat} {del:Bool} {w W:World} {q:PSt}
theorem oset2 {W:World} {base size n:Nat} {e:TypeId} {v:Value} {xs:List Value} (h:W.ownsRow base e size v n xs) {g:Nat} (j:Nat) (u:Value) (hg:g<base):(W.setCell ⟨g,j,none⟩ u).ownsRow base e size v n xs:=
 own_kept h (Kept.grown (grown_setCell W ⟨g,j,none⟩ u)) (fun k h1 h2=>by
  cases h2
  have:=(own_lt h g h1).1
  omega)
theorem blk_set {W:World} {k g:Nat} {o:Obj} (h:W.heap[k]? =some o) (j:Nat) (u:Value) (hne:k≠g):(W.setCell ⟨g,j,none⟩ u).heap[k]? =some o:=
 ((grown_setCell W ⟨g,j,none⟩ u).block k (heap_lt h) (fun e=>by cases e;exact hne rfl)).trans h
theorem PJ.setC (h:PJ n0 R S P (P+1) del w q W) (hb:n0<S∧S<P∧P+1<R) (n:Nat):PJ n0 R S P (P+1) del w ⟨n,q.part,q.id,q.lits,q.hints⟩ (W.setCell ⟨P+1,0,none⟩ (.int .i64 (n:Nat))):=by
 obtain⟨lv,hv,h1,h2,h3⟩:=h.st
 exact⟨⟨lv,hv,blk_set h1 _ _ (by omega),oset2 h2 _ _ (by omega),oset2 h3 _ _ (by omega)⟩,h.cnt.set _,blk_set h.prt _ _ (by omega),blk_set h.res _ _ (by omega),h.low.setCell (p:=⟨P+1,0,none⟩) (by show n0≤P+1;omega) _⟩
theorem PJ.setP (h:PJ n0 R S P (P+1) del w q W) (hb:n0<S∧S<P∧P+1<R) (n:Nat):PJ n0 R S P (P+1) del w ⟨q.count,n,q.id,q.lits,q.hints⟩ (W.setCell ⟨P,0,none⟩ (.int .i64 (n:Nat))):=by
 obtain⟨lv,hv,h1,h2,h3⟩:=h.st
 exact⟨⟨lv,hv,blk_set h1 _ _ (by omega),oset2 h2 _ _ (by omega),oset2 h3 _ _ (by omega)⟩,blk_set h.cnt _ _ (by omega),h.prt.set _,blk_set h.res _ _ (by omega),h.low.setCell (p:=⟨P,0,none⟩) (by show n0≤P;omega) _⟩
theorem PJ.setI (h:PJ n0 R S P (P+1) del w q W) (hb:n0<S∧S<P∧P+1<R) (x:Int):PJ n0 R S P (P+1) del w ⟨q.count,q.part,x,q.lits,q.hints⟩ (W.setCell ⟨S,1,none⟩ (.int .i64 x)):=by
 obtain⟨lv,hv,h1,h2,h3⟩:=h.st
 exact⟨⟨lv,hv,mx_set h1 _,oset2 h2 _ _ (by omega),oset2 h3 _ _ (by omega)⟩,blk_set h.cnt _ _ (by omega),blk_set h.prt _ _ (by omega),blk_set h.res _ _ (by omega),h.low.setCell (p:=⟨S,1,none⟩) (by show n0≤S;omega) _⟩
theorem oapart {W:World} {b1 b2 s1 s2 n1 n2:Nat} {e1 e2:TypeId} {v1 v2:Value} {x1 x2:List Value} (h1:W.ownsRow b1 e1 s1 v1 n1 x1) (h2:W.ownsRow b2 e2 s2 v2 n2 x2) (he:e1≠e2) {g:Nat} (g1:v1.ownBlock=some g) (g2:v2.ownBlock=some g):False:=by
 obtain⟨c1,k1⟩:=own_type h1 g g1
 obtain⟨c2,k2⟩:=own_type h2 g g2
 rw[k1]at k2
 cases k2
 exact he rfl
theorem grow_keep {W w1:World} {o:Obj} {base size n:Nat} {e:TypeId} {v:Value} {xs:List Value} (h:W.ownsRow base e size v n xs) (hg:(W.alloc o).grownBy w1 v.ownBlock):
  Kept (fun g=>v.ownBlock=some g) W w1∧KpC (fun g=>base≤g) W w1∧KeepsOthers W w1:=by
 refine⟨(Kept.of_below (mx_al W o)).trans (Kept.grown hg) (fun i _ h=>h.symm),(KpC.of_below (mx_al W o)).trans ((KpC.of_grown hg).mono fun g _ e=>(own_lt h g e.symm).1),(KeepsOthers.alloc W o).trans (KeepsOthers.of_grownBy hg fun j ob hj ho=>?_)⟩
 obtain⟨c,hc⟩:=own_type h j hj
 rw[(mx_al W o).block j (heap_lt hc),hc]at ho
 cases ho
 rfl
theorem PJ.lit {o:Obj} {lv hv v':Value} {w1:World} {x:Int} (h:PJ n0 R S P (P+1) del w q W) (hb:n0<S∧S<P∧P+1<R) (h1:W.heap[S]? =some (.cells #[.bool del,.int .i64 q.id,lv,hv] 34 (0,0))) (h2:W.ownsRow R 28 1 lv q.lits.length (q.lits.map (Value.int .i64))) (h3:W.ownsRow R 3 1 hv q.hints.length (q.hints.map (Value.int .i64)))
  (hg:(W.alloc o).grownBy w1 lv.ownBlock) (hown:w1.ownsRow R 28 1 v' (q.lits.length+1) (q.lits.map (Value.int .i64)++ [.int .i64 x])):
  PJ n0 R S P (P+1) del w ⟨q.count,q.part,q.id,q.lits++ [x],q.hints⟩ (w1.setCell ⟨S,2,none⟩ v')∧KpC (PX R S P) W (w1.setCell ⟨S,2,none⟩ v')∧KeepsOthers W (w1.setCell ⟨S,2,none⟩ v'):=by
 obtain⟨k1,k2,k3⟩:=grow_keep h2 hg
 have hne: ∀{g:Nat} {ob:Obj},W.heap[g]? =some ob→g<R→w1.heap[g]? =some ob:=fun {g ob} hgo hlt=>(k1.block g (heap_lt hgo) (fun e=>by have:=(own_lt h2 g e).1;omega)).trans hgo
 refine⟨⟨⟨v',hv,mx_set (hne h1 (by omega)) _,?_,?_⟩,blk_set (hne h.cnt (by omega)) _ _ (by omega),blk_set (hne h.prt (by omega)) _ _ (by omega),blk_set (hne h.res (by omega)) _ _ (by omega),?_⟩,(k2.mono fun g _ hx=>.inr (.inr (.inr hx))).trans (kpc_set _ _ _ (.inl rfl)),k3.trans (KeepsOthers.setCell _ _ _)⟩
 ·have:=oset2 hown 2 v' (show S<R by omega)
  show World.ownsRow _ _ _ _ _ (q.lits++ [x]).length ((q.lits++ [x]).map _)
  rw[List.length_append,List.length_singleton,List.map_append]
  exact this
 ·exact oset2 (own_kept h3 k1 fun g ha hb=>oapart h3 h2 (by decide) ha hb) _ _ (by omega)
 ·refine Below.setCell (p:=⟨S,2,none⟩) (h.low.trans (k1.below (fun i hi=>?_) (Nat.le_of_lt (heap_lt h.res)))) (by show n0≤S;omega) _
  have:=(own_lt h2 i hi).1
  omega
theorem PJ.hnt {o:Obj} {lv hv v':Value} {w1:World} {x:Int} (h:PJ n0 R S P (P+1) del w q W) (hb:n0<S∧S<P∧P+1<R) (h1:W.heap[S]? =some (.cells #[.bool del,.int .i64 q.id,lv,hv] 34 (0,0))) (h2:W.ownsRow R 28 1 lv q.lits.length (q.lits.map (Value.int .i64))) (h3:W.ownsRow R 3 1 hv q.hints.length (q.hints.map (Value.int .i64)))
  (hg:(W.alloc o).grownBy w1 hv.ownBlock) (hown:w1.ownsRow R 3 1 v' (q.hints.length+1) (q.hints.map (Value.int .i64)++ [.int .i64 x])):
  PJ n0 R S P (P+1) del w ⟨q.count,q.part,q.id,q.lits,q.hints++ [x]⟩ (w1.setCell ⟨S,3,none⟩ v')∧KpC (PX R S P) W (w1.setCell ⟨S,3,none⟩ v')∧KeepsOthers W (w1.setCell ⟨S,3,none⟩ v'):=by
 obtain⟨k1,k2,k3⟩:=grow_keep h3 hg
 have hne: ∀{g:Nat} {ob:Obj},W.heap[g]? =some ob→g<R→w1.heap[g]? =some ob:=fun {g ob} hgo hlt=>(k1.block g (heap_lt hgo) (fun e=>by have:=(own_lt h3 g e).1;omega)).trans hgo
 refine⟨⟨⟨lv,v',mx_set (hne h1 (by omega)) _,?_,?_⟩,blk_set (hne h.cnt (by omega)) _ _ (by omega),blk_set (hne h.prt (by omega)) _ _ (by omega),blk_set (hne h.res (by omega)) _ _ (by omega),?_⟩,(k2.mono fun g _ hx=>.inr (.inr (.inr hx))).trans (kpc_set _ _ _ (.inl rfl)),k3.trans (KeepsOthers.setCell _ _ _)⟩
 ·exact oset2 (own_kept h2 k1 fun g ha hb=>oapart h2 h3 (by decide) ha hb) _ _ (by omega)
 ·have:=oset2 hown 3 v' (show S<R by omega)
  show World.ownsRow _ _ _ _ _ (q.hints++ [x]).length ((q.hints++ [x]).map _)
  rw[List.length_append,List.length_singleton,List.map_append]
  exact this
 ·refine Below.setCell (p:=⟨S,3,none⟩) (h.low.trans (k1.below (fun i hi=>?_) (Nat.le_of_lt (heap_lt h.res)))) (by show n0≤S;omega) _
  have:=(own_lt h3 i hi).1
  omega
end
theorem sf_part_le: ∀(l:List Int) (p:PSt),(p.sf l).part≤p.part+l.length
 | [],p=>Nat.le_refl _
 | n::l,p=>by
  show(PSt.sf (p.step n).1 l).part≤_
  have h1:=sf_part_le l (p.step n).1
  have h2:(p.step n).1.part≤p.part+1:=by
   unfold PSt.step
   split
   ·exact Nat.le_succ _
   ·split
    ·exact Nat.le_refl _
    ·split <;> exact Nat.le_succ _
  rw[List.length_cons]
  omega
theorem sf_rows: ∀(l:List Int) (p:PSt),(p.sf l).lits.length≤p.lits.length+l.length∧(p.sf l).hints.length≤p.hints.length+l.length
 | [],p=>⟨Nat.le_refl _,Nat.le_refl _⟩
 | n::l,p=>by
  have h1:=sf_rows l (p.step n).1
  have h2:(p.step n).1.lits.length≤p.lits.length+1∧(p.step n).1.hints.length≤p.hints.length+1:=by
   unfold PSt.step
   split
   ·exact⟨Nat.le_succ _,Nat.le_succ _⟩
   ·split
    ·exact⟨Nat.le_succ _,Nat.le_succ _⟩
    ·split
     ·exact⟨by simp,Nat.le_succ _⟩
     ·exact⟨Nat.le_succ _,by simp⟩
  show(PSt.sf (p.step n).1 l).lits.length≤_∧(PSt.sf (p.step n).1 l).hints.length≤_
  rw[List.length_cons]
  omega
theorem go_le: ∀(l:List Int) (p:PSt),(PSt.go p l).count≤p.count+l.length∧(PSt.go p l).lits.length≤p.lits.length+l.length∧(PSt.go p l).hints.length≤p.hints.length+l.length∧(PSt.go p l).part≤p.part+l.length
 | [],p=>⟨Nat.le_refl _,Nat.le_refl _,Nat.le_refl _,Nat.le_refl _⟩
 | n::l,p=>by
  have h1:=go_le l (p.step n).1
  have h2:(p.step n).1.count≤p.count+1∧(p.step n).1.lits.length≤p.lits.length+1∧(p.step n).1.hints.length≤p.hints.length+1∧(p.step n).1.part≤p.part+1:=by
   unfold PSt.step
   split
   ·exact⟨Nat.le_refl _,Nat.le_succ _,Nat.le_succ _,Nat.le_succ _⟩
   ·split
    ·exact⟨Nat.le_refl _,Nat.le_succ _,Nat.le_succ _,Nat.le_refl _⟩
    ·split
     ·exact⟨Nat.le_refl _,by simp,Nat.le_succ _,Nat.le_succ _⟩
     ·exact⟨Nat.le_refl _,Nat.le_succ _,by simp,Nat.le_succ _⟩
  rw[PSt.go,List.length_cons]
  split <;> omega
theorem res_step {fn:Func} (h:fn.results= #[.cell 2 34,.tmp 3]) {w:World} {r:Nat} {c0 c1 c2 c3:Value} {t:TypeId} (h6:w.heap[r]? =some (.cells #[c0,c1,c2,c3] t (0,0)))
  (tmps:Array Value) (t6:tmps[2]?.getD undef= .pointer (some ⟨r,0,none⟩)):
  (results fn tmps).run Tryz.prog w= .ok (.tuple #[.agg #[c0,c1,c2,c3],tmps[3]?.getD undef]) w:=by
 have p0:=mx_cell (j:=0) h6
 have p1:=mx_cell (j:=1) h6
 have p2:=mx_cell (j:=2) h6
 have p3:=mx_cell (j:=3) h6
 simp[results,h,go_sem,t6,p0,p1,p2,p3]
theorem viaP {T R:Prop} (f:T→R) (t:T):R:=f t
set_option maxRecDepth 100000 in
set_option maxHeartbeats 4000000 in
theorem parse_any (t:List UInt8) (w:World) (ht:TabW w) (hm:MaxC w) (he:ErrC w) (hlen:t.length≤16777216):
  Calls Tryz.prog 91 #[.string ⟨t.toArray⟩] w fun e w'=>
   ((parseF t=none∧e= .returned (.tuple #[.agg #[.bool false,.int .i64 0,.slice none 0 0,.slice none 0 0],.int .i64 71]))∨
    ∃s A m A' m',parseF t=some s∧e= .returned (.tuple #[.agg #[.bool s.del,.int .i64 s.id,.slice A s.lits.length m,.slice A' s.hints.length m'],.int .i64 0])∧
      w'.ownsRow w.heap.size 28 1 (.slice A s.lits.length m) s.lits.length (s.lits.map (Value.int .i64))∧w'.ownsRow w.heap.size 3 1 (.slice A' s.hints.length m') s.hints.length (s.hints.map (Value.int .i64)))∧Below w.heap.size w w':=by
 obtain⟨W0,hW0⟩: ∃z,w.alloc (.cells #[.bool false,.int .i64 0,.slice none 0 0,.slice none 0 0] 34)=z:=⟨_,rfl⟩
 have hb0:Below w.heap.size w W0:=by rw[←hW0];exact mx_al _ _
 have hr0:W0.heap[w.heap.size]? =some (.cells #[.bool false,.int .i64 0,.slice none 0 0,.slice none 0 0] 34 (0,0)):=by rw[←hW0];exact World.alloc_heap_new _ _
 have HSP:=Lib.hid (split_any t 32 W0 (by omega) (hm.below hb0))
 have HTE:=Lib.hid (show∀W,Below w.heap.size w W→TabW W∧ErrC W from fun W hW=>⟨ht.next hW,he.below hW⟩)
 have HTL:=Lib.hid (show 5<w.heap.size∧3<w.heap.size∧4<w.heap.size from⟨ht.lt,he.lt.1,he.lt.2⟩)
 have HW0:=Lib.hid hW0
 have HB0:=Lib.hid hb0
 have HR0:=Lib.hid hr0
 clear ht hm he hW0 hb0 hr0
 refine(callsIn_wide (n:=9)).1 ?_
 refine callsIn_of_wp_marks Tryz.func91 rfl trivial ?_ rfl
 simp only[Tryz.ntmps91,List.size_toArray,List.length_cons,List.length_nil,Nat.reduceAdd,Nat.reduceSub,Array.replicate_succ,Array.replicate_zero,List.push_toArray,List.append_toArray,List.nil_append,List.cons_append]
 gi_wp2
 refine wpIn_wide.2 (wp_scope_straight ((wpIn_wide (n:=9)).1 ?_))
 gi_upto_region 1 with fail
 rw[HW0.out]
 obtain⟨ws,hws⟩: ∃ws,spl 32 t=ws:=⟨_,rfl⟩
 have HWS:=Lib.hid hws
 rw[hws]at HSP
 have hwl:ws.length≤16777217:=by have:=spl_len 32 t;rw[hws]at this;omega
 have HWW:=Lib.hid (show∀x∈ws,x.length≤16777216 from fun x hx=>by have:=spl_word 32 t x (hws▸hx);omega)
 clear hws
 obtain⟨Wb,hWb⟩: ∃z,W0.heap.size=z:=⟨_,rfl⟩
 gi_wp2_with fail
 refine⟨trivial,?_⟩
 refine(callsIn_wide.2 HSP.out).mono ?_
 rintro e W1 ⟨rfl,hsp,hb1⟩
 have hR1:W1.heap[w.heap.size]? =some (.cells #[.bool false,.int .i64 0,.slice none 0 0,.slice none 0 0] 34 (0,0)):=(hb1.block _ (heap_lt HR0.out)).trans HR0.out
 have hRW:w.heap.size<Wb:=by rw[←hWb];exact heap_lt HR0.out
 rw[hWb]at hsp
 obtain⟨W2,hW2,hb2,hS2,hz2⟩:=al_new W1 #[.bool false,.int .i64 0,.slice none 0 0,.slice none 0 0] 34
 obtain⟨S,hS⟩: ∃S,W1.heap.size=S:=⟨_,rfl⟩
 rw[hS]at hS2 hz2
 have hbS:Wb<S:=by rw[←hS];exact heap_lt hsp
 have hRS:w.heap.size<S:=by rw[←hS];exact heap_lt hR1
 have hsp2:W2.heap[Wb]? =some (.cells (ws.map fun x=>Value.string ⟨x.toArray⟩).toArray 9 (0,0)):=(hb2.block _ (by rw[hS];exact hbS)).trans hsp
 have HR2:=Lib.hid ((hb2.block _ (by rw[hS];exact hRS)).trans hR1)
 have HB2:=Lib.hid (HB0.out.trans ((hb1.trans (hb2.mono hb1.size)).mono HB0.out.size))
 have hwcell: ∀(j:Nat) (x:List UInt8),ws[j]? =some x→W2.cell? ⟨Wb,j,none⟩=some (.string ⟨x.toArray⟩):=fun j x hj=>by
  simp[World.cell?,hsp2,hj]
 have HWC:=Lib.hid hwcell
 have HSP2:=Lib.hid hsp2
 have HS2:=Lib.hid hS2
 have HW2:=Lib.hid hW2
 have hsz2:S<W2.heap.size:=by omega
 clear hsp hb1 hR1 hb2 hsp2 hwcell HSP HR0 HB0 hW2
 gi_upto_region 3 with fail
 rw[HW2.out]
 clear hS2
 gi_cut [19]from 9 (fun v wx=>v= .bool (isDel ws)∧wx=W2)
 case first=>
  by_cases h1:1<ws.length
  ·obtain⟨x,hx⟩:=getElem_of h1
   have c1:=HWC.out 1 x hx
   have d1:decide ((1:Int)<(ws.length:Int))=true:=decide_eq_true (by omega)
   by_cases hxd:x= [100]
   · subst hxd
     have HDEL:=Lib.hid (show isDel ws=true from by unfold isDel;rw[decide_eq_true h1,hx];rfl)
     clear hx
     gi_wp2_with fail
     gi_meet
     exact⟨by rw[HDEL.out],rfl⟩
   · have HDEL:=Lib.hid (show isDel ws=false from by unfold isDel;rw[hx,decide_eq_false (fun e=>hxd (Option.some.inj e)),Bool.and_false])
     have c2:(x== [100])=false:=beq_eq_false_iff_ne.2 hxd
     clear hx
     gi_wp2_with fail
     gi_meet
     exact⟨by rw[HDEL.out],rfl⟩
  ·have HDEL:=Lib.hid (show isDel ws=false from by unfold isDel;rw[decide_eq_false h1];rfl)
   have d1:decide ((1:Int)<(ws.length:Int))=false:=decide_eq_false (by omega)
   gi_wp2_with fail
   gi_meet
   exact⟨by rw[HDEL.out],rfl⟩
 case rest=>
  obtain⟨rfl,rfl⟩:=hcut
  obtain⟨del,hdl⟩: ∃d,isDel ws=d:=⟨_,rfl⟩
  obtain⟨pw,hpw⟩: ∃p,pWords ws=p:=⟨_,rfl⟩
  have HDL:=Lib.hid hdl
  have HPW:=Lib.hid hpw
  rw[hdl]
  gi_upto_if 19 with fail
  gi_cut [4]from 9 (fun v wx=>v= .slice (some ⟨Wb,0,none⟩) pw.length ws.length∧WordsAt (fun g=>g=Wb) wx (.slice (some ⟨Wb,0,none⟩) pw.length ws.length) pw∧wx.heap[S]? =some (.cells #[.bool del,.int .i64 0,.slice none 0 0,.slice none 0 0] 34 (0,0))∧wx.heap[w.heap.size]? =some (.cells #[.bool false,.int .i64 0,.slice none 0 0,.slice none 0 0] 34 (0,0))∧Below w.heap.size w wx)
  case first=>
   cases del with
   | false=>
     have hno:pw=ws:=by rw[←hpw];unfold pWords;rw[if_neg (by rw[hdl];decide)]
     subst hno
     clear hdl hpw
     gi_wp2_with fail
     gi_meet
     exact⟨rfl,⟨_,_,rfl,fun i x hx=>⟨Wb,0,rfl,by omega,rfl,by rw[Nat.zero_add];exact HWC.out i x hx⟩⟩,HS2.out,HR2.out,HB2.out⟩
   | true=>
     have hpe:pw=ws.eraseIdx 1:=by rw[←hpw];unfold pWords;rw[if_pos hdl]
     have h1:2≤ws.length:=by
       unfold isDel at hdl
       rw[Bool.and_eq_true,decide_eq_true_eq]at hdl
       exact hdl.1
     have HBL:Hid ((wc.setCell ⟨S,0,none⟩ (.bool true)).heap[Wb]? =some (.cells (ws.map fun x=>Value.string ⟨x.toArray⟩).toArray 9 (0,0))):=Lib.hid (by
       rw[(grownBy_setCell' wc S (.bool true)).block Wb (by omega) (fun e=>by cases e;omega)]
       exact HSP2.out)
     have HDW:=Lib.hid (delete_words Wb ws 9 _ HBL.out h1 (by omega))
     rw[←hpe]at HDW
     have s0:wc.cell? ⟨S,0,none⟩=some (.bool false):=mx_cell (j:=0) HS2.out
     have s1:wc.frozen? ⟨S,0,none⟩=false:=frz_blk HS2.out
     clear hdl hpw hpe
     gi_wp2_with fail
     refine⟨trivial,?_⟩
     refine(callsIn_wide.2 HDW.out).mono ?_
     rintro e W4 ⟨rfl,hwa,hg4⟩
     have hs4:W4.heap[S]? =some (.cells #[.bool true,.int .i64 0,.slice none 0 0,.slice none 0 0] 34 (0,0)):=by
       rw[hg4.block S (Nat.lt_of_lt_of_le (by omega) (grownBy_setCell' wc S (.bool true)).size) (fun e=>by cases e;omega)]
       exact mx_set HS2.out _
     have hr4:W4.heap[w.heap.size]? =some (.cells #[.bool false,.int .i64 0,.slice none 0 0,.slice none 0 0] 34 (0,0)):=by
       have hl:=heap_lt HR2.out
       rw[hg4.block _ (Nat.lt_of_lt_of_le hl (grownBy_setCell' wc S (.bool true)).size) (fun e=>by cases e;omega),(grownBy_setCell' wc S (.bool true)).block _ hl (fun e=>by cases e;omega)]
       exact HR2.out
     have hb4:Below w.heap.size w W4:=(HB2.out.setCell (p:=⟨S,0,none⟩) (Nat.le_of_lt hRS) _).grown hg4 (Nat.le_trans HB2.out.size (grownBy_setCell' wc S (.bool true)).size) (fun g e=>by cases e;omega)
     gi_wp2_with fail
     gi_meet
     exact⟨rfl,hwa,hs4,hr4,hb4⟩
  case rest=>
   obtain⟨rfl,hwa,hs4,hr4,hb4⟩:=hcut
   have HWA:=Lib.hid hwa
   have HS4:=Lib.hid hs4
   have HR4:=Lib.hid hr4
   have HB4:=Lib.hid hb4
   clear hwa hs4 hr4 hb4 HS2 HR2 HB2 HSP2 HWC HW2 hdl hpw
   obtain⟨P,hP⟩: ∃P,wc.heap.size=P:=⟨_,rfl⟩
   obtain⟨W5,hW5,hb5,hp5,hz5⟩:=al_new wc #[.int .i64 0] 3
   obtain⟨W6,hW6,hb6,hc6,hz6⟩:=al_new W5 #[.int .i64 0] 3
   rw[hP]at hp5 hz5
   rw[hz5]at hc6 hz6
   have hSP:S<P:=by rw[←hP];exact heap_lt HS4.out
   have HS6:=Lib.hid (((hb5.trans (hb6.mono hb5.size)).block _ (heap_lt HS4.out)).trans HS4.out)
   have HR6:=Lib.hid (((hb5.trans (hb6.mono hb5.size)).block _ (heap_lt HR4.out)).trans HR4.out)
   have HB6:=Lib.hid (HB4.out.trans ((hb5.trans (hb6.mono hb5.size)).mono HB4.out.size))
   have HWA6:=Lib.hid (HWA.out.below (hb5.trans (hb6.mono hb5.size)))
   have HP6:Hid (Boxed W6 P 3 (.int .i64 0)):=Lib.hid ((hb6.block _ (by omega)).trans hp5)
   have HC6:Hid (Boxed W6 (P+1) 3 (.int .i64 0)):=Lib.hid hc6
   have HW6:=Lib.hid (show(wc.alloc (.cells #[.int .i64 0] 3)).alloc (.cells #[.int .i64 0] 3)=W6 from by rw[hW5];exact hW6)
   clear hW5 hb5 hp5 hz5 hW6 hb6 hc6 HS4 HR4 HB4 HWA
   gi_upto_region 7 with fail
   rw[HW6.out]
   have s0:W6.cell? ⟨S,0,none⟩=some (.bool del):=mx_cell (j:=0) HS6.out
   gi_upto_if 24 with fail
   gi_cut []from 9 (fun wx=>Boxed wx P 3 (.int .i64 (if del=true then 1 else 0))∧Boxed wx (P+1) 3 (.int .i64 0)∧wx.heap[S]? =some (.cells #[.bool del,.int .i64 0,.slice none 0 0,.slice none 0 0] 34 (0,0))∧wx.heap[w.heap.size]? =some (.cells #[.bool false,.int .i64 0,.slice none 0 0,.slice none 0 0] 34 (0,0))∧WordsAt (fun g=>g=Wb) wx (.slice (some ⟨Wb,0,none⟩) pw.length ws.length) pw∧Below w.heap.size w wx)
   case first=>
     cases del with
     | false=>
       gi_wp2_with fail
       gi_meet
       exact⟨HP6.out,HC6.out,HS6.out,HR6.out,HWA6.out,HB6.out⟩
     | true=>
       have p1:=HP6.out.frozen
       have p2:=HP6.out.cell
       gi_wp2_with fail
       gi_meet
       exact⟨HP6.out.set _,HC6.out.other (by omega) _,((grownBy_setCell' _ _ _).block _ (heap_lt HS6.out) (fun e=>by cases e;omega)).trans HS6.out,((grownBy_setCell' _ _ _).block _ (heap_lt HR6.out) (fun e=>by cases e;omega)).trans HR6.out,HWA6.out.kept (Kept.grown (grownBy_setCell' _ _ _)) (fun g hg e=>by cases e;omega),HB6.out.setCell (p:=⟨P,0,none⟩) (by show w.heap.size≤P;omega) _⟩
   case rest=>
     obtain⟨hp7,hc7,hs7,hr7,hwa7,hb7⟩:=hcut
     obtain⟨k0,hk0⟩: ∃k:Nat,(if del=true then 1 else 0)=k:=⟨_,rfl⟩
     have hp7:Boxed wc P 3 (.int .i64 (k0:Nat)):=by
       rw[←hk0]
       cases del <;> exact hp7
     have HP7:=Lib.hid hp7
     have HC7:=Lib.hid hc7
     have HS7:=Lib.hid hs7
     have HR7:=Lib.hid hr7
     have HWA7:=Lib.hid hwa7
     have HB7:=Lib.hid hb7
     have HK0:=Lib.hid hk0
     have hP2:P+1<wc.heap.size:=hc7.lt
     obtain⟨Bb,hBb⟩: ∃B,wc.heap.size=B:=⟨_,rfl⟩
     have HNU:=Lib.hid (numbers_any (some ⟨Wb,0,none⟩) pw.length ws.length wc)
     rw[hBb]at HNU hP2
     have hwcs:=hBb
     clear hp7 hc7 hs7 hr7 hwa7 hb7 hk0 HP6 HC6 HS6 HR6 HB6 HWA6 HW6 hP s0 hBb
     have HWCS:=Lib.hid hwcs
     clear hwcs
     gi_wp2_with fail
     refine wpIn_label ?_
     gi_wp2_with fail
     refine⟨trivial,?_⟩
     refine(callsIn_wide.2 HNU.out).mono ?_
     rintro e W8 ⟨rfl,hbc,hb8⟩
     obtain⟨q0,hq0⟩: ∃q:PSt,(⟨0,k0,0,[],[]⟩:PSt)=q:=⟨_,rfl⟩
     obtain⟨R,hR⟩: ∃R,W8.heap.size=R:=⟨_,rfl⟩
     have HRR:=Lib.hid hR
     have hBR:Bb<R:=by rw[←hR];exact World.block_lt_of_cell? W8 ⟨Bb,0,none⟩ hbc
     have hk8: ∀{g:Nat} {c:Array Value} {ty:TypeId},wc.heap[g]? =some (.cells c ty (0,0))→W8.heap[g]? =some (.cells c ty (0,0)):=fun {g c ty} h=>by
       have hl:=heap_lt h
       rw[HWCS.out]at hl
       rw[hb8.block g hl]
       exact h
     have hb8w:Below w.heap.size w W8:=HB7.out.trans (hb8.mono (by rw[←HWCS.out];exact HB7.out.size))
     have HJ0:Hid (PJ w.heap.size R S P (P+1) del w q0 W8):=Lib.hid (by
       subst hq0
       exact⟨⟨_,_,hk8 HS7.out,World.ownsRow_nil _ _ _ _,World.ownsRow_nil _ _ _ _⟩,hk8 HC7.out,hk8 HP7.out,hk8 HR7.out,hb8w⟩)
     have hX: ∀g,(g=S∨g=P∨g=P+1∨R≤g)→w.heap.size≤g:=fun g h=>by
       rcases h with h|h|h|h <;> omega
     have HST:=Lib.hid (numbersW_stops (O:=fun g=>g=Wb) (X:=PX R S P) Bb (.slice (some ⟨Wb,0,none⟩) pw.length ws.length) pw W8 hbc (fun h=>by unfold PX at h;omega) (HWA7.out.below (by rw[HWCS.out];exact hb8)) (fun g hg h=>by unfold PX at h;omega) (by
        have:=pWords_len ws
        rw[HPW.out]at this
        omega)
       (fun x hx=>by
        have:=HWW.out x (pWords_mem (HPW.out▸hx))
        omega)
       (fun W W' h k=>by
        have h1:=HTE.out W (hb8w.trans (h.mono hb8w.size))
        have h2:=HTL.out
        exact⟨h1.1.kpc k (fun hx=>by have:=hX _ hx;omega),h1.2.kpc k (fun hx=>by have:=hX _ hx;omega) (fun hx=>by have:=hX _ hx;omega)⟩))
     have HXX:=Lib.hid hX
     have HB8:=Lib.hid hb8w
     clear hbc hb8 hb8w hk8 hX HNU HP7 HC7 HS7 HR7 HWA7 HB7
     gi_wp2_with fail
     apply viaP
     · intro TAIL
       refine wpIn_rangeFunc_ownG rfl (Nat.succ_le_succ (Nat.zero_le 8)) (gf:=169) (lb:= #[.pointer (some ⟨Bb,0,none⟩)]) rfl trivial (enters_of Tryz.func169 (by kernel_rfl) rfl)
        HST.out (fun h k=>h.trans k) (fun W l o o' hB h hc hw=>(KpC.putObj W l o o' h hc hw).mono (fun _ _ h=>h.elim)) (Below.refl _ _) (fun _=>rfl)
        (fun pre W=>(q0.nb pre∧R≤W.heap.size)∧PJ w.heap.size R S P (P+1) del w (q0.sf pre) W)
        (fun c pre W=>c= .exit 0∧∃l x,pre=l++ [x]∧q0.nb l∧((q0.sf l).step x).2=true∧PJ w.heap.size R S P (P+1) del w (q0.sf pre) W) ?own ?ownx ⟨⟨fun k x h=>by simp at h,Nat.le_of_eq HRR.out.symm⟩,HJ0.out⟩
        ?frame ?assign ?body ?done ?stop
       case done=>
        rintro D ys W hD rfl ⟨⟨hnb,hrw⟩,hj⟩ hDf
        clear hrw
        dsimp only[Exit.inBlock,Exit.then]
        have hgo:=nb_all hnb
        rw[←hgo]at hj
        clear hnb hgo
        revert hDf hj hD
        revert W
        revert D
        exact TAIL
       case own=>
        intro pre X Y row h hg hr
        exact⟨⟨h.1.1,Nat.le_trans h.1.2 hg.size⟩,pj_own HB8.out.size h.2 (Nat.le_refl _) hg hr⟩
       case ownx=>
        rintro c pre X Y row ⟨hc,l,x,h1,h2,h3,h4⟩ hg hr
        exact⟨hc,l,x,h1,h2,h3,pj_own HB8.out.size h4 (Nat.le_refl _) hg hr⟩
       case assign=>
        intro l x W K hK
        dsimp only
        gi_wp2
        exact hK
       case stop=>
        rintro D c pre W hD ⟨hpre,_⟩ ⟨rfl,l,x,rfl,hnb,hbr,hj⟩ hDf
        obtain⟨r,hr⟩:=hpre
        have hgo:PSt.go q0 (numsW pw)=q0.sf (l++ [x]):=by
         rw[←hr,List.append_assoc]
         exact nb_stop hnb hbr
        rw[←hgo]at hj
        refine wpIn_exit ?_
        exact TAIL D W hD hj hDf
       case body=>
        rintro l pre x W ⟨⟨hnb,hrw⟩,hj⟩ hlt
        obtain⟨q,hq⟩: ∃q,q0.sf pre=q:=⟨_,rfl⟩
        rw[hq]at hj
        have hsn:q0.sf (pre++ [x])=(q.step x).1:=by rw[sf_snoc,hq]
        have hn1:=fun(h:(q.step x).2=false) (W':World) (hw:KeepsOthers W W')=>(⟨nb_snoc hnb (show((q0.sf pre).step x).2=false from by rw[hq];exact h),Nat.le_trans hrw hw.size⟩:q0.nb (pre++ [x])∧R≤W'.heap.size)
        have hb1:=sf_count pre q0
        have hb2:=sf_part_le pre q0
        rw[hq]at hb1 hb2
        have hq00:q0.count=0∧q0.part=k0∧q0.lits.length=0∧q0.hints.length=0:=by rw[←hq0];exact⟨rfl,rfl,rfl,rfl⟩
        have hb4:=sf_rows pre q0
        rw[hq]at hb4
        have hk01:k0≤1:=by rw[←HK0.out];split <;> omega
        have hnl:=numsW_le pw
        have hpwl:pw.length≤ws.length:=by have:=pWords_len ws;rwa [HPW.out]at this
        have hcb:q.count≤16777217:=by omega
        have hpb:q.part≤16777219:=by omega
        have hlb:q.lits.length≤33554440∧q.hints.length≤33554440:=by omega
        have hbd:w.heap.size<S∧S<P∧P+1<R:=by omega
        have hst:(fun c pre W=>c=Code.exit 0∧∃l x,pre=l++ [x]∧q0.nb l∧((q0.sf l).step x).2=true∧PJ w.heap.size R S P (P+1) del w (q0.sf pre) W)=(fun c pre W=>c=Code.exit 0∧∃l x,pre=l++ [x]∧q0.nb l∧((q0.sf l).step x).2=true∧PJ w.heap.size R S P (P+1) del w (q0.sf pre) W):=rfl
        have hxx:=fun(h:(q.step x).2=true)=>(⟨pre,x,rfl,hnb,by rw[hq];exact h⟩: ∃l y,pre++ [x]=l++ [y]∧q0.nb l∧((q0.sf l).step y).2=true)
        clear hb4 hb1 hb2 hq00 hk01 hnl hpwl hst hlt hnb hq
        obtain⟨cn,pn,id,ls,hs⟩:=q
        simp only at hcb hpb hlb
        have HBL:=Lib.hid hlb
        have HSN:=Lib.hid hsn
        have HN1:=Lib.hid hn1
        have HXT:=Lib.hid hxx
        have hJC:=hj.setC hbd (cn+1)
        simp only at hJC
        have hKC:KpC (PX R S P) W (W.setCell ⟨P+1,0,none⟩ (.int .i64 ((cn+1:Nat):Int))):=kpc_set _ _ _ (.inr (.inr (.inl rfl)))
        have hOC:KeepsOthers W (W.setCell ⟨P+1,0,none⟩ (.int .i64 ((cn+1:Nat):Int))):=KeepsOthers.setCell _ _ _
        rw[show(((cn+1:Nat):Int))=(cn:Int)+1 from by omega]at hJC hKC hOC
        have p1:W.cell? ⟨P+1,0,none⟩=some (.int .i64 (cn:Nat)):=hj.cnt.cell
        have p2:W.frozen? ⟨P+1,0,none⟩=false:=hj.cnt.frozen
        obtain⟨WC,hWC⟩: ∃z,W.setCell ⟨P+1,0,none⟩ (.int .i64 ((cn:Int)+1))=z:=⟨_,rfl⟩
        rw[hWC]at hJC hKC hOC
        have HWC:=Lib.hid hWC
        have HJC:=Lib.hid hJC
        have HKC:=Lib.hid hKC
        have HOC:=Lib.hid hOC
        have HRB:=Lib.hid (Nat.le_trans hrw hOC.size)
        have c1:WC.cell? ⟨P+1,0,none⟩=some (.int .i64 ((cn:Int)+1)):=hJC.cnt.cell
        have c2:WC.cell? ⟨P,0,none⟩=some (.int .i64 (pn:Nat)):=hJC.prt.cell
        have c3:WC.frozen? ⟨P,0,none⟩=false:=hJC.prt.frozen
        obtain⟨lv,hv,h1,h2,h3⟩:=hJC.st
        simp only at h1 h2 h3
        have s1:WC.cell? ⟨S,1,none⟩=some (.int .i64 id):=mx_cell (j:=1) h1
        have s2:WC.cell? ⟨S,2,none⟩=some lv:=mx_cell (j:=2) h1
        have s3:WC.cell? ⟨S,3,none⟩=some hv:=mx_cell (j:=3) h1
        have f1:WC.frozen? ⟨S,1,none⟩=false:=frz_blk h1
        have f2:WC.frozen? ⟨S,2,none⟩=false:=frz_blk h1
        have f3:WC.frozen? ⟨S,3,none⟩=false:=frz_blk h1
        clear hsn hn1 hxx hj hJC hKC hOC hWC
        gi_upto_region 13 with fail
        rw[HWC.out]
        by_cases e1:cn=0
        ·have d1:((cn:Int)+1==1)=true:=by rw[e1];rfl
         have hstep:PSt.step ⟨cn,pn,id,ls,hs⟩ x=(⟨cn+1,pn,x,ls,hs⟩,false):=by
          unfold PSt.step
          rw[if_pos (show cn+1=1 by omega)]
         clear e1
         gi_wp2
         refine⟨(HOC.out.trans (KeepsOthers.setCell _ _ _)).from _,HKC.out.trans (kpc_set _ _ _ (.inl rfl)),HN1.out (by rw[hstep]) _ (HOC.out.trans (KeepsOthers.setCell _ _ _)),?_⟩
         rw[HSN.out,hstep]
         exact HJC.out.setI hbd x
        ·have d1:((cn:Int)+1==1)=false:=beq_eq_false_iff_ne.2 (by omega)
         by_cases e2:x=0
         ·have d2:(x==0)=true:=by rw[e2];rfl
          have hstep:PSt.step ⟨cn,pn,id,ls,hs⟩ x=(⟨cn+1,pn+1,id,ls,hs⟩,decide (pn+1=2)):=by
           unfold PSt.step
           rw[if_neg (show¬cn+1=1 by omega),if_pos e2]
          have HJP:=Lib.hid (HJC.out.setP hbd (pn+1))
          rw[show(((pn+1:Nat):Int))=(pn:Int)+1 from by omega]at HJP
          by_cases e3:pn=1
          ·have d3:((pn:Int)+1==2)=true:=by rw[e3];rfl
           have HST:=Lib.hid hstep
           have HB3:=Lib.hid (show decide (pn+1=2)=true from by rw[e3];rfl)
           clear e1 e2 e3 hstep
           gi_wp2
           obtain⟨l,y,hl1,hl2,hl3⟩:=HXT.out (by rw[HST.out];exact HB3.out)
           refine⟨(HOC.out.trans (KeepsOthers.setCell _ _ _)).from _,rfl,l,y,hl1,hl2,hl3,?_⟩
           rw[HSN.out,HST.out]
           exact HJP.out
          ·have d3:((pn:Int)+1==2)=false:=beq_eq_false_iff_ne.2 (by omega)
           have HST:=Lib.hid hstep
           have HB3:=Lib.hid (show decide (pn+1=2)=false from decide_eq_false (by omega))
           clear e1 e2 e3 hstep
           gi_wp2
           refine⟨(HOC.out.trans (KeepsOthers.setCell _ _ _)).from _,HKC.out.trans (kpc_set _ _ _ (.inr (.inl rfl))),HN1.out (by rw[HST.out];exact HB3.out) _ (HOC.out.trans (KeepsOthers.setCell _ _ _)),?_⟩
           rw[HSN.out,HST.out]
           exact HJP.out
         ·have d2:(x==0)=false:=beq_eq_false_iff_ne.2 e2
          by_cases e3:pn=0
          ·have d3:((pn:Int)==0)=true:=by rw[e3];rfl
           have hstep:PSt.step ⟨cn,pn,id,ls,hs⟩ x=(⟨cn+1,pn,id,ls++ [x],hs⟩,false):=by
            unfold PSt.step
            rw[if_neg (show¬cn+1=1 by omega),if_neg e2,if_pos e3]
           clear e1 e2 e3
           obtain⟨Ax,cxc,rfl,hcx⟩:=mx_slice h2
           have HOWN:=Lib.hid h2
           have HH1:=Lib.hid h1
           have HH2:=Lib.hid h2
           have HH3:=Lib.hid h3
           have hRW:R≤WC.heap.size:=HRB.out
           obtain⟨i0,hi,iz0,iz1,iz2⟩:=info_parts linfo_lit
           have hxl:ls.length≤33554440:=HBL.out.1
           gi_wp2_with (gi_at_builtin;refine wpListIn_append_own_at _ rfl _ _ 30 rfl R 28 i0 (.int .i64 0) 1 8 Tryz.underlying30 hi iz0 iz1 iz2 rfl (by decide) _ ls.length _ rfl (own_below HOWN.out (mx_al WC _)) ⟨WC.heap.size,0,none⟩ 1 1 [.int .i64 x] rfl rfl (cell_one_new' _ _ _) (by simp[Value.oneCell']) (by unfold maxLen;omega) (by omega) (by simp;omega) ?_;intro v' w1 hown' hgrow hnl hat;obtain⟨Aw,kw,hv2,_⟩:=mx_slice hown';subst hv2;have HPL:=Lib.hid (PJ.lit HJC.out hbd HH1.out HH2.out HH3.out hgrow hown');have hgk:=(grow_keep HOWN.out hgrow).1;have hS1:w1.heap[S]? =_:=(hgk.block S (heap_lt HH1.out) (fun e=>by have:=(own_lt HOWN.out S e).1;omega)).trans HH1.out;have t2:=mx_cell (j:=2) hS1;have g2:w1.frozen? ⟨S,2,none⟩=false:=frz_blk hS1;clear hown' hgrow hnl hat hgk hS1)
           refine⟨(HOC.out.trans HPL.out.2.2).from _,HKC.out.trans HPL.out.2.1,HN1.out (by rw[hstep]) _ (HOC.out.trans HPL.out.2.2),?_⟩
           rw[HSN.out,hstep]
           exact HPL.out.1
          ·have d3:((pn:Int)==0)=false:=beq_eq_false_iff_ne.2 (by omega)
           have hstep:PSt.step ⟨cn,pn,id,ls,hs⟩ x=(⟨cn+1,pn,id,ls,hs++ [x]⟩,false):=by
            unfold PSt.step
            rw[if_neg (show¬cn+1=1 by omega),if_neg e2,if_neg e3]
           clear e1 e2 e3
           obtain⟨Ax,cxc,rfl,hcx⟩:=mx_slice h3
           have HOWN:=Lib.hid h3
           have HH1:=Lib.hid h1
           have HH2:=Lib.hid h2
           have HH3:=Lib.hid h3
           have hRW:R≤WC.heap.size:=HRB.out
           obtain⟨i0,hi,iz0,iz1,iz2⟩:=info_parts linfo_int
           have hxl:hs.length≤33554440:=HBL.out.2
           gi_wp2_with (gi_at_builtin;refine wpListIn_append_own_at _ rfl _ _ 31 rfl R 3 i0 (.int .i64 0) 1 8 Tryz.underlying31 hi iz0 iz1 iz2 rfl (by decide) _ hs.length _ rfl (own_below HOWN.out (mx_al WC _)) ⟨WC.heap.size,0,none⟩ 1 1 [.int .i64 x] rfl rfl (cell_one_new' _ _ _) (by simp[Value.oneCell']) (by unfold maxLen;omega) (by omega) (by simp;omega) ?_;intro v' w1 hown' hgrow hnl hat;obtain⟨Aw,kw,hv2,_⟩:=mx_slice hown';subst hv2;have HPL:=Lib.hid (PJ.hnt HJC.out hbd HH1.out HH2.out HH3.out hgrow hown');have hgk:=(grow_keep HOWN.out hgrow).1;have hS1:w1.heap[S]? =_:=(hgk.block S (heap_lt HH1.out) (fun e=>by have:=(own_lt HOWN.out S e).1;omega)).trans HH1.out;have t2:=mx_cell (j:=3) hS1;have g2:w1.frozen? ⟨S,3,none⟩=false:=frz_blk hS1;clear hown' hgrow hnl hat hgk hS1)
           refine⟨(HOC.out.trans HPL.out.2.2).from _,HKC.out.trans HPL.out.2.1,HN1.out (by rw[hstep]) _ (HOC.out.trans HPL.out.2.2),?_⟩
           rw[HSN.out,hstep]
           exact HPL.out.1
     · intro D W hD hj hDf
       obtain⟨q,hq⟩: ∃q,PSt.go q0 (numsW pw)=q:=⟨_,rfl⟩
       rw[hq]at hj
       have hpst:pSt ws=q:=by unfold pSt;rw[HDL.out,HPW.out,HK0.out,hq0,hq]
       have hpwl:pw.length≤ws.length:=by have:=pWords_len ws;rwa [HPW.out]at this
       have hqs:=go_le (numsW pw) q0
       rw[hq]at hqs
       have hnl:=numsW_le pw
       have hq00:q0.count=0∧q0.lits.length=0∧q0.hints.length=0:=by rw[←hq0];exact⟨rfl,rfl,rfl⟩
       obtain⟨cn,pn,id,ls,hs⟩:=q
       simp only at hqs
       obtain⟨s,hsd⟩: ∃s:EStep,(⟨del,id,ls,hs⟩:EStep)=s:=⟨_,rfl⟩
       have hps:pStep ws=s:=by unfold pStep;rw[hpst,HDL.out,hsd]
       have HF:=Lib.hid (show parseF t=if cn=pw.length∧pn=2∧stepB s=true∧stepT s=t then some s else none from by
        unfold parseF
        rw[HWS.out,hpst,hps,HPW.out])
       obtain⟨lv,hv,h1,h2,h3⟩:=hj.st
       simp only at h1 h2 h3
       obtain⟨Al,cl,rfl,_⟩:=mx_slice h2
       obtain⟨Ah,ch,rfl,_⟩:=mx_slice h3
       have p1:W.cell? ⟨P,0,none⟩=some (.int .i64 (pn:Nat)):=hj.prt.cell
       have p2:W.cell? ⟨P+1,0,none⟩=some (.int .i64 (cn:Nat)):=hj.cnt.cell
       have s0:W.cell? ⟨S,0,none⟩=some (.bool del):=mx_cell (j:=0) h1
       have s1:W.cell? ⟨S,1,none⟩=some (.int .i64 id):=mx_cell (j:=1) h1
       have s2:W.cell? ⟨S,2,none⟩=some (.slice Al ls.length cl):=mx_cell (j:=2) h1
       have s3:W.cell? ⟨S,3,none⟩=some (.slice Ah hs.length ch):=mx_cell (j:=3) h1
       have HRT:=Lib.hid (step_right (O:=fun _=>True) (O':=fun _=>True) s (.slice Al ls.length cl) (.slice Ah hs.length ch) W (by rw[←hsd];exact(IntsIn.of_own h2).mono fun _ _=>trivial) (by rw[←hsd];exact(IntsIn.of_own h3).mono fun _ _=>trivial) (by rw[←hsd];show ls.length≤_;omega) (by rw[←hsd];show hs.length≤_;omega))
       have HLN:=Lib.hid (show∀w',Below W.heap.size W w'→stepB s=true→Calls Tryz.prog 134 #[.agg #[.bool s.del,.int .i64 s.id,.slice Al ls.length cl,.slice Ah hs.length ch]] w' fun e w''=>e= .returned (.string ⟨(stepT s).toArray⟩)∧Below w'.heap.size w' w'' from fun w' hw' hb=>by
        obtain⟨g1,g2,g3,g4,g5⟩:=stepB_prts hb
        have hc:s.lits.length≤4096:=by
         unfold stepB clauseB at hb
         simp only[Bool.and_eq_true,decide_eq_true_eq]at hb
         exact hb.2.1.1.1
        refine line_any (O:=fun _=>True) (O':=fun _=>True) s (.slice Al ls.length cl) (.slice Ah hs.length ch) w' ⟨⟨by omega,by omega⟩,fun x hx=>⟨by have:=g3 x hx;omega,by have:=g3 x hx;omega⟩,fun x hx=>⟨by have:=g5 x hx;omega,by have:=g5 x hx;omega⟩,hc,g4⟩ ?_ ?_ (HTE.out w' (hj.low.trans (hw'.mono hj.low.size))).1
        ·rw[←hsd];exact((IntsIn.of_own h2).mono fun _ _=>trivial).below hw'
        ·rw[←hsd];exact((IntsIn.of_own h3).mono fun _ _=>trivial).below hw')
       have HJ:=Lib.hid hj
       have HDF:=Lib.hid hDf
       have HSD:=Lib.hid hsd
       rw[←hsd]at HRT HLN
       simp only at HRT HLN
       have h1':=Lib.hid h1
       have h2':=Lib.hid h2
       have h3':=Lib.hid h3
       clear hj hDf hsd h1 h2 h3 hpst hps hqs hq00 hq hq0 HST
       gi_upto_region 20 with fail
       gi_cut [75]from 9 (fun v wx=>v= .bool (parseF t).isNone∧Below W.heap.size W wx)
       case first=>
        by_cases e1:cn=pw.length
        ·have f1:((cn:Int) != (pw.length:Int))=false:=by rw[e1];exact bne_self_eq_false _
         by_cases e2:pn=2
         ·have f2:((pn:Int) != 2)=false:=by rw[e2];rfl
          cases hb:stepB s with
          | false=>
           have HFN:=Lib.hid (show parseF t=none from by rw[HF.out,if_neg (fun h=>by rw[hb]at h;cases h.2.2.1)])
           rw[HSD.out,hb]at HRT
           clear hb e1 e2
           gi_wp2_with fail
           refine⟨trivial,?_⟩
           refine(callsIn_wide.2 HRT.out).mono ?_
           rintro e w1 ⟨rfl,hb1⟩
           gi_wp2_with fail
           refine⟨trivial,?_⟩
           gi_wp2_with fail
           gi_meet
           exact⟨by rw[HFN.out];rfl,hb1⟩
          | true=>
           rw[HSD.out,hb]at HRT
           have HBT:=Lib.hid hb
           obtain⟨L,hL⟩: ∃L,stepT s=L:=⟨_,rfl⟩
           rw[HSD.out,hL]at HLN
           by_cases e4:L=t
           ·have HFN:=Lib.hid (show parseF t=some s from by rw[HF.out,if_pos ⟨e1,e2,hb,hL.trans e4⟩])
            subst e4
            clear hb e1 e2 hL
            gi_wp2_with fail
            refine⟨trivial,?_⟩
            refine(callsIn_wide.2 HRT.out).mono ?_
            rintro e w1 ⟨rfl,hb1⟩
            have HB1:=Lib.hid hb1
            have s0':=(hb1.cell (p:=⟨S,0,none⟩) (heap_lt h1'.out)).trans s0
            have s1':=(hb1.cell (p:=⟨S,1,none⟩) (heap_lt h1'.out)).trans s1
            have s2':=(hb1.cell (p:=⟨S,2,none⟩) (heap_lt h1'.out)).trans s2
            have s3':=(hb1.cell (p:=⟨S,3,none⟩) (heap_lt h1'.out)).trans s3
            clear hb1
            gi_wp2_with fail
            refine⟨trivial,?_⟩
            refine(callsIn_wide.2 (HLN.out w1 HB1.out HBT.out)).mono ?_
            rintro e w2 ⟨rfl,hb2⟩
            have HB2:=Lib.hid (HB1.out.trans (hb2.mono HB1.out.size))
            clear hb2
            gi_wp2_with fail
            gi_meet
            exact⟨by rw[HFN.out];simp,HB2.out⟩
           ·have HFN:=Lib.hid (show parseF t=none from by rw[HF.out,if_neg (fun h=>e4 (hL.symm.trans h.2.2.2))])
            have e5:(L==t)=false:=beq_eq_false_iff_ne.2 e4
            have e6:(L != t)=true:=bne_iff_ne.2 e4
            clear hb e1 e2 hL
            gi_wp2_with fail
            refine⟨trivial,?_⟩
            refine(callsIn_wide.2 HRT.out).mono ?_
            rintro e w1 ⟨rfl,hb1⟩
            have HB1:=Lib.hid hb1
            have s0':=(hb1.cell (p:=⟨S,0,none⟩) (heap_lt h1'.out)).trans s0
            have s1':=(hb1.cell (p:=⟨S,1,none⟩) (heap_lt h1'.out)).trans s1
            have s2':=(hb1.cell (p:=⟨S,2,none⟩) (heap_lt h1'.out)).trans s2
            have s3':=(hb1.cell (p:=⟨S,3,none⟩) (heap_lt h1'.out)).trans s3
            clear hb1
            gi_wp2_with fail
            refine⟨trivial,?_⟩
            refine(callsIn_wide.2 (HLN.out w1 HB1.out HBT.out)).mono ?_
            rintro e w2 ⟨rfl,hb2⟩
            have HB2:=Lib.hid (HB1.out.trans (hb2.mono HB1.out.size))
            clear hb2
            gi_wp2_with fail
            gi_meet
            exact⟨by rw[HFN.out];rfl,HB2.out⟩
         ·have f2:((pn:Int) != 2)=true:=bne_iff_ne.2 (by omega)
          have HFN:=Lib.hid (show parseF t=none from by rw[HF.out,if_neg (fun h=>e2 h.2.1)])
          clear e1
          gi_wp2_with fail
          refine⟨trivial,?_⟩
          gi_wp2_with fail
          refine⟨trivial,?_⟩
          gi_wp2_with fail
          gi_meet
          exact⟨by rw[HFN.out];rfl,Below.refl _ _⟩
        ·have f1:((cn:Int) != (pw.length:Int))=true:=bne_iff_ne.2 (by omega)
         have HFN:=Lib.hid (show parseF t=none from by rw[HF.out,if_neg (fun h=>e1 h.1)])
         gi_wp2_with fail
         refine⟨trivial,?_⟩
         gi_wp2_with fail
         refine⟨trivial,?_⟩
         gi_wp2_with fail
         gi_meet
         exact⟨by rw[HFN.out];rfl,Below.refl _ _⟩
       case rest=>
        obtain⟨rfl,hbx⟩:=hcut
        have r0:=(hbx.block _ (heap_lt HJ.out.res)).trans HJ.out.res
        have d0:=(hbx.block _ (heap_lt HDF.out)).trans HDF.out
        have HR0:=Lib.hid r0
        have HD0:=Lib.hid d0
        have HBX:=Lib.hid (HJ.out.low.trans (hbx.mono HJ.out.low.size))
        have H2:=Lib.hid (own_below h2'.out hbx)
        have H3:=Lib.hid (own_below h3'.out hbx)
        have hDw:w.heap.size<D:=by have:=HRR.out;omega
        have fz:=fun j=>frz_blk (j:=j) r0
        have fz0:=fz 0
        have fz1:=fz 1
        have fz2:=fz 2
        have fz3:=fz 3
        have z0:=mx_cell (j:=0) r0
        have z1:=mx_cell (j:=1) r0
        have z2:=mx_cell (j:=2) r0
        have z3:=mx_cell (j:=3) r0
        have y0:=(hbx.cell (p:=⟨S,0,none⟩) (heap_lt h1'.out)).trans s0
        have y1:=(hbx.cell (p:=⟨S,1,none⟩) (heap_lt h1'.out)).trans s1
        have y2:=(hbx.cell (p:=⟨S,2,none⟩) (heap_lt h1'.out)).trans s2
        have y3:=(hbx.cell (p:=⟨S,3,none⟩) (heap_lt h1'.out)).trans s3
        obtain⟨r,hr⟩: ∃r,parseF t=r:=⟨_,rfl⟩
        have HPR:=Lib.hid hr
        have hrs:r=none∨r=some s:=by
         have h:=HF.out
         rw[hr]at h
         rw[h]
         split
         ·exact .inr rfl
         ·exact .inl rfl
        clear r0 d0 hbx fz s0 s1 s2 s3 p1 p2 HRT HLN HF
        rw[hr]
        clear hr
        rcases hrs with rfl|rfl
        ·gi_wp2
         clear fz0 fz1 fz2 fz3 z0 z1 z2 z3 y0 y1 y2 y3
         have r6:((((wc.setCell ⟨w.heap.size,0,none⟩ (.bool false)).setCell ⟨w.heap.size,1,none⟩ (.int .i64 0)).setCell ⟨w.heap.size,2,none⟩ (.slice none 0 0)).setCell ⟨w.heap.size,3,none⟩ (.slice none 0 0)).heap[w.heap.size]? =some (.cells #[.bool false,.int .i64 0,.slice none 0 0,.slice none 0 0] 34 (0,0)):=mx_set (j:=3) (mx_set (j:=2) (mx_set (j:=1) (mx_set (j:=0) HR0.out _) _) _) _
         have hdf:((((wc.setCell ⟨w.heap.size,0,none⟩ (.bool false)).setCell ⟨w.heap.size,1,none⟩ (.int .i64 0)).setCell ⟨w.heap.size,2,none⟩ (.slice none 0 0)).setCell ⟨w.heap.size,3,none⟩ (.slice none 0 0)).heap[D]? =some (.deferred (some [])):=blk_set (blk_set (blk_set (blk_set HD0.out _ _ (by omega)) _ _ (by omega)) _ _ (by omega)) _ _ (by omega)
         have hbf:Below w.heap.size w ((((wc.setCell ⟨w.heap.size,0,none⟩ (.bool false)).setCell ⟨w.heap.size,1,none⟩ (.int .i64 0)).setCell ⟨w.heap.size,2,none⟩ (.slice none 0 0)).setCell ⟨w.heap.size,3,none⟩ (.slice none 0 0)):=(((HBX.out.setCell (p:=⟨w.heap.size,0,none⟩) (Nat.le_refl _) _).setCell (p:=⟨w.heap.size,1,none⟩) (Nat.le_refl _) _).setCell (p:=⟨w.heap.size,2,none⟩) (Nat.le_refl _) _).setCell (p:=⟨w.heap.size,3,none⟩) (Nat.le_refl _) _
         obtain⟨Wf,hWf⟩: ∃x,((((wc.setCell ⟨w.heap.size,0,none⟩ (.bool false)).setCell ⟨w.heap.size,1,none⟩ (.int .i64 0)).setCell ⟨w.heap.size,2,none⟩ (.slice none 0 0)).setCell ⟨w.heap.size,3,none⟩ (.slice none 0 0))=x:=⟨_,rfl⟩
         rw[hWf]at r6 hdf hbf⊢
         rw[Exit.noGoto_ret]
         refine⟨by simp,.inl ⟨_,_,rfl,run_takeDeferred hdf,?_⟩⟩
         refine⟨_,res_step rfl ((World.putObj_heap_other (by omega)).trans r6) _ rfl,.inl ⟨HPR.out,rfl⟩,hbf.trans ((Below.refl _ _).grown (grownBy_putObj' Wf D _) hbf.size (fun g e=>by cases e;exact Nat.le_of_lt hDw))⟩
        ·gi_wp2
         clear fz0 fz1 fz2 fz3 z0 z1 z2 z3 y0 y1 y2 y3
         have r6:((((wc.setCell ⟨w.heap.size,0,none⟩ (.bool del)).setCell ⟨w.heap.size,1,none⟩ (.int .i64 id)).setCell ⟨w.heap.size,2,none⟩ (.slice Al ls.length cl)).setCell ⟨w.heap.size,3,none⟩ (.slice Ah hs.length ch)).heap[w.heap.size]? =some (.cells #[.bool del,.int .i64 id,.slice Al ls.length cl,.slice Ah hs.length ch] 34 (0,0)):=mx_set (j:=3) (mx_set (j:=2) (mx_set (j:=1) (mx_set (j:=0) HR0.out _) _) _) _
         have hdf:((((wc.setCell ⟨w.heap.size,0,none⟩ (.bool del)).setCell ⟨w.heap.size,1,none⟩ (.int .i64 id)).setCell ⟨w.heap.size,2,none⟩ (.slice Al ls.length cl)).setCell ⟨w.heap.size,3,none⟩ (.slice Ah hs.length ch)).heap[D]? =some (.deferred (some [])):=blk_set (blk_set (blk_set (blk_set HD0.out _ _ (by omega)) _ _ (by omega)) _ _ (by omega)) _ _ (by omega)
         have hbf:Below w.heap.size w ((((wc.setCell ⟨w.heap.size,0,none⟩ (.bool del)).setCell ⟨w.heap.size,1,none⟩ (.int .i64 id)).setCell ⟨w.heap.size,2,none⟩ (.slice Al ls.length cl)).setCell ⟨w.heap.size,3,none⟩ (.slice Ah hs.length ch)):=(((HBX.out.setCell (p:=⟨w.heap.size,0,none⟩) (Nat.le_refl _) _).setCell (p:=⟨w.heap.size,1,none⟩) (Nat.le_refl _) _).setCell (p:=⟨w.heap.size,2,none⟩) (Nat.le_refl _) _).setCell (p:=⟨w.heap.size,3,none⟩) (Nat.le_refl _) _
         have hrw: ∀{t:TypeId} {u:Value} {n:Nat} {l:List Value},wc.ownsRow R t 1 u n l→(((((wc.setCell ⟨w.heap.size,0,none⟩ (.bool del)).setCell ⟨w.heap.size,1,none⟩ (.int .i64 id)).setCell ⟨w.heap.size,2,none⟩ (.slice Al ls.length cl)).setCell ⟨w.heap.size,3,none⟩ (.slice Ah hs.length ch)).putObj D (.deferred none)).ownsRow w.heap.size t 1 u n l:=fun hh=>ownsRow_putObj (own_mono (oset2 (oset2 (oset2 (oset2 hh _ _ (by omega)) _ _ (by omega)) _ _ (by omega)) _ _ (by omega)) (by omega)) _ hdf rfl
         obtain⟨Wf,hWf⟩: ∃x,((((wc.setCell ⟨w.heap.size,0,none⟩ (.bool del)).setCell ⟨w.heap.size,1,none⟩ (.int .i64 id)).setCell ⟨w.heap.size,2,none⟩ (.slice Al ls.length cl)).setCell ⟨w.heap.size,3,none⟩ (.slice Ah hs.length ch))=x:=⟨_,rfl⟩
         rw[hWf]at r6 hdf hbf hrw⊢
         rw[Exit.noGoto_ret]
         refine⟨by simp,.inl ⟨_,_,rfl,run_takeDeferred hdf,?_⟩⟩
         refine⟨_,res_step rfl ((World.putObj_heap_other (by omega)).trans r6) _ rfl,.inr ⟨s,Al,cl,Ah,ch,HPR.out,by rw[←HSD.out];rfl,by rw[←HSD.out];exact hrw H2.out,by rw[←HSD.out];exact hrw H3.out⟩,hbf.trans ((Below.refl _ _).grown (grownBy_putObj' Wf D _) hbf.size (fun g e=>by cases e;exact Nat.le_of_lt hDw))⟩
end Go.Proofs.YtajbmjpodeilpaaGreatDoor
