/- Rising rows of integers: a number's place, put in, taken out. The watch in memory. -/
import Derived.Test.YtoojmhjagipmdaaGreatV112
import Derived.Test.YtoojmhjagipmdaaGreatShelf
import Derived.Test.YtoojmhjagipmdaaGreatV109
import Derived.Test.YtoojmhjagipmdaaGreatV113
import Derived.Shelf.SlSortFuncK.RowK2
import Derived.Deep.Upon
import Derived.Test.YtoojmhjagipmdaaGreatV116
namespace Go.Proofs.YtoojmhjagipmdaaGreat
open Go.RowKit Go.Lib Go.Shelf Go.Sort
theorem own_of_cells {w:World} {base g n cap:Nat} {e:TypeId} {cur:Array Value} {xs:List Value} (hg:w.heap[g]? =some (.cells cur e (0,0))) (hb:base≤g) (hn:n≤cap) (hc:cap≤maxLen) (hs:cur.size=cap) (hl:xs.length=n)
  (hx: ∀j x,xs[j]? =some x→w.cell? ⟨g,j,none⟩=some x):w.ownsRow base e 1 (.slice (some ⟨g,0,none⟩) n cap) n xs:=by
 refine⟨by omega,.inr ⟨g,cap,cur,rfl,hb,hg,hn,hc,by omega,?_⟩⟩
 rw[Nat.mul_one]
 apply List.ext_getElem?
 intro j
 rw[List.getElem?_take]
 by_cases hj:j<n
 ·rw[if_pos hj]
  have hjx:xs[j]? =some xs[j]:=List.getElem?_eq_getElem (by omega)
  have:=hx j _ hjx
  rw[mx_cell hg]at this
  rw[hjx,Array.getElem?_toList]
  exact this
 ·rw[if_neg hj,List.getElem?_eq_none (by omega)]
theorem block_setCells {g:Nat} {e:TypeId} {fz:Nat×Nat} (vs:List Value): ∀(o:Nat) (w:World) (cur:Array Value),w.heap[g]? =some (.cells cur e fz)→∃cur',(w.setCells g o vs).heap[g]? =some (.cells cur' e fz)∧cur'.size=cur.size:=by
 induction vs with
 | nil=>exact fun o w cur h=>⟨cur,h,rfl⟩
 | cons v r ih=>
  intro o w cur h
  obtain⟨c',h1,h2⟩:=ih (o+1) (w.setCell ⟨g,o,none⟩ v) _ (mx_set h v)
  exact⟨c',h1,by rw[h2];simp⟩
theorem kept_setCells (w:World) (g o:Nat) (vs:List Value):Kept (fun k=>k=g) w (w.setCells g o vs):=by
 induction vs generalizing o w with
 | nil=>exact Kept.refl _ _
 | cons v r ih=>exact(Kept.setCell (Kept.refl (fun k=>k=g) w) _ _ rfl).trans (ih _ _) (fun _ _ h=>h)
theorem ints_one (r:List Int): ∀v∈r.map (Value.int .i64),v.oneCell'=true:=fun v hv=>by
 obtain⟨x,_,rfl⟩:=List.mem_map.1 hv
 rfl
theorem row_search {base:Nat} (v:Value) (r:List Int) (x:Int) (w:World) (h:w.ownsRow base 3 1 v r.length (r.map (Value.int .i64))) (hr:r.Pairwise (· < ·)) (hl:r.length≤1073741824):
  Calls Tryz.prog 148 #[v,.int .i64 x] w fun e w'=>e= .returned (.tuple #[.int .i64 (r.countP (· <x):Nat),.bool (r.contains x)])∧∃q,w'=w.drewN q:=by
 rcases h.2 with⟨rfl,h0⟩|⟨g,cap,cur,rfl,hb,hg,h1,h2,h3,h4⟩
 ·obtain rfl:r= []:=List.eq_nil_of_length_eq_zero h0
  refine(Tryz.slices_BinarySearch_int_empty none 0 x w).mono ?_
  rintro e w' ⟨rfl,rfl⟩
  exact⟨rfl,0,rfl⟩
 ·refine(Tryz.slices_BinarySearch_int g 0 r.length cap r x w (Nat.le_refl _) (by omega) (fun j hj=>?_) ?_).mono ?_
  ·rw[Nat.zero_add]
   refine mx_at h ?_
   rw[List.getElem?_map,List.getElem?_eq_getElem hj]
   simp[List.getD_eq_getElem?_getD,List.getElem?_eq_getElem hj]
  ·rw[List.take_length]
   exact hr.imp (fun h=>Int.le_of_lt h)
  ·rintro e w' ⟨rfl,hq⟩
   rw[List.take_length]
   exact⟨rfl,hq⟩
theorem row_delete {base:Nat} (v:Value) (r:List Int) (i:Nat) (w:World) (h:w.ownsRow base 3 1 v r.length (r.map (Value.int .i64))) (hi:i<r.length):
  Calls Tryz.prog 176 #[v,.int .i64 (i:Nat),.int .i64 ((i:Int)+1)] w fun e w'=> ∃v',e= .returned v'∧w'.ownsRow base 3 1 v' (r.length-1) ((r.eraseIdx i).map (Value.int .i64))∧Kept (fun g=>v.ownBlock=some g) w w'∧v'.ownBlock=v.ownBlock:=by
 rcases h.2 with⟨rfl,h0⟩|⟨g,cap,cur,rfl,hb,hg,h1,h2,h3,h4⟩
 ·omega
 ·have hle:(r.eraseIdx i).length=r.length-1:=by rw[List.length_eraseIdx,if_pos hi]
  have H:=Tryz.slices_Delete_int g 0 cap i (i+1) r w (st_holds hg (by simpa using h4)) h1 h2 (by omega) (by omega)
  rw[show((i+1:Nat):Int)=(i:Int)+1 from by omega]at H
  refine H.mono ?_
  rintro e w' ⟨rfl,q,rfl⟩
  have e1:i+1-i=1:=by omega
  rw[e1,←List.eraseIdx_eq_take_drop_succ]
  refine⟨_,rfl,?_,st_kept1 _,rfl⟩
  refine⟨by simp[hle],.inr ⟨g,cap,_,rfl,hb,st_heap1 _ hg,by omega,h2,by simp[putCells,h3],?_⟩⟩
  have ht:=st_take cur (r.eraseIdx i++ [0]) (by rw[List.length_append,hle,List.length_singleton];omega)
  have e2:(r.length-1)*1=(r.eraseIdx i).length:=by rw[hle,Nat.mul_one]
  rw[e2]
  have e3:=congrArg (List.take (r.eraseIdx i).length) ht
  rw[List.take_take,Nat.min_eq_left (by simp)]at e3
  rw[show List.replicate 1 (0:Int)= [0]from rfl,e3,List.map_append,List.take_append_of_le_length (by simp),List.take_of_length_le (by simp)]
theorem insI_get {r:List Int} {x:Int} {i:Nat} (hi:r.countP (· <x)=i) (hil:i≤r.length) (j:Nat):(insI r x)[j]? =if j<i then r[j]? else if j=i then some x else r[j-1]? :=by
 unfold insI
 rw[hi]
 have hl:(r.take i).length=i:=by rw[List.length_take];omega
 by_cases h1:j<i
 ·rw[if_pos h1,List.getElem?_append_left (by omega),List.getElem?_take,if_pos h1]
 ·rw[if_neg h1,List.getElem?_append_right (by omega),hl]
  by_cases h2:j=i
  ·rw[if_pos h2,h2,Nat.sub_self]
   rfl
  ·rw[if_neg h2]
   obtain⟨k,hk⟩: ∃k,j-i=k+1:=⟨j-i-1,by omega⟩
   rw[hk,List.getElem?_cons_succ,List.getElem?_drop]
   congr 1
   omega
theorem own_insI {w:World} {base g n cap i:Nat} {cur:Array Value} {r:List Int} {x:Int} (hg:w.heap[g]? =some (.cells cur 3 (0,0))) (hb:base≤g) (hn:r.length+1≤cap) (hc:cap≤maxLen) (hs:cur.size=cap) (hrn:r.length=n) (hi:r.countP (· <x)=i) (hil:i≤n)
  (h1: ∀j y,j<i→r[j]? =some y→w.cell? ⟨g,j,none⟩=some (.int .i64 y)) (h2:w.cell? ⟨g,i,none⟩=some (.int .i64 x)) (h3: ∀j y,i≤j→r[j]? =some y→w.cell? ⟨g,j+1,none⟩=some (.int .i64 y)):
  w.ownsRow base 3 1 (.slice (some ⟨g,0,none⟩) (n+1) cap) (n+1) ((insI r x).map (Value.int .i64)):=by
 refine own_of_cells hg hb (by omega) hc hs (by rw[List.length_map,insI_length];omega) (fun j u hu=>?_)
 rw[List.getElem?_map,Option.map_eq_some_iff]at hu
 obtain⟨y,hy,rfl⟩:=hu
 rw[insI_get hi (by omega)]at hy
 split at hy
 ·rename_i hj
  exact h1 j y hj hy
 ·split at hy
  ·rename_i hj
   rw[hj,h2,Option.some.inj hy]
  ·rename_i hj hj2
   have:=h3 (j-1) y (by omega) hy
   rwa [show j-1+1=j by omega]at this
theorem zero_size (k:Nat):(Builtin.zeroCells (Value.int .i64 0).cells k).size=k:=by
 show(Builtin.zeroCells #[Value.int .i64 0] k).size=k
 simp[Builtin.zeroCells]
theorem row_insert {base vb:Nat} (v:Value) (r:List Int) (x:Int) (w:World) (h:w.ownsRow base 3 1 v r.length (r.map (Value.int .i64))) (hbase:base≤w.heap.size) (hvb:w.heap[vb]? =some (.cells #[.int .i64 x] 3 (0,0))) (hne:v.ownBlock≠some vb) (hl:r.length≤1073741824):
  Calls Tryz.prog 149 #[v,.int .i64 (r.countP (· <x):Nat),.slice (some ⟨vb,0,none⟩) 1 1] w fun e w'=> ∃v',e= .returned v'∧w'.ownsRow base 3 1 v' (r.length+1) ((insI r x).map (Value.int .i64))∧Kept (fun g=>v.ownBlock=some g) w w'∧(v'.ownBlock=v.ownBlock∨v'.ownBlock=some w.heap.size):=by
 have hvs: ∀(W:World),Below w.heap.size w W→∀j u,[Value.int .i64 x][j]? =some u→W.cell? ⟨vb,0+j,none⟩=some u:=fun W hW j u hu=>by
  match j,hu with
  | 0,hu=>
   rw[(hW.cell (p:=⟨vb,0+0,none⟩) (heap_lt hvb)),mx_cell hvb]
   exact hu
 have hvs0:=hvs w (Below.refl _ _)
 have h1v: ∀u∈ [Value.int .i64 x],u.oneCell'=true:=fun u hu=>by rw[List.mem_singleton.1 hu];rfl
 obtain⟨i,hi⟩: ∃i,r.countP (· <x)=i:=⟨_,rfl⟩
 have hil:i≤r.length:=by rw[←hi];exact countP_le_len r x
 obtain⟨n,hn⟩: ∃n,r.length=n:=⟨_,rfl⟩
 have hget: ∀j y,r[j]? =some y→(r.map (Value.int .i64))[j]? =some (Value.int .i64 y):=fun j y hj=>by rw[List.getElem?_map,hj];rfl
 have hml:(r.map (Value.int .i64)).length=n:=by rw[List.length_map,hn]
 rw[hi]
 rw[hn]at h hl hil⊢
 have fresh: ∀(W:World) (cur:Array Value) (c:Nat),W.heap[w.heap.size]? =some (.cells cur 3 (0,0))→cur.size=c→n+1≤c→c≤maxLen→(∀j y,j<i→r[j]? =some y→W.cell? ⟨w.heap.size,j,none⟩=some (.int .i64 y))→W.cell? ⟨w.heap.size,i,none⟩=some (.int .i64 x)→(∀j y,i≤j→r[j]? =some y→W.cell? ⟨w.heap.size,j+1,none⟩=some (.int .i64 y))→
   W.ownsRow base 3 1 (.slice (some ⟨w.heap.size,0,none⟩) (n+1) c) (n+1) ((insI r x).map (Value.int .i64)):=fun W cur c hW hs hc hm h1 h2 h3=>
  own_insI hW hbase (by omega) hm hs hn hi hil h1 h2 h3
 rcases h.2 with⟨rfl,h0⟩|⟨g,cap,cur,rfl,hb,hg,h1,h2,h3,h4⟩
 ·obtain rfl:r= []:=List.eq_nil_of_length_eq_zero (by omega)
  obtain rfl:n=0:=by rw[←hn];rfl
  obtain rfl:i=0:=by omega
  have H:=Tryz.slices_Insert_int_end_grow none 0 0 vb 0 1 1 [] [.int .i64 x] w (by omega) (by omega) (by omega) (by decide) rfl rfl (fun _=>rfl) (fun a ha=>by cases ha) hvs0 h1v
  refine H.mono ?_
  rintro e w' ⟨rfl,rfl⟩
  have hge:=grownCap_ge w 1 0 3
  have hmx:=grownCap_le_maxLen w 1 0 3 (by unfold maxLen;omega)
  refine⟨_,rfl,?_,(Kept.drew (Kept.refl _ w) 1).alloc _,.inr rfl⟩
  refine fresh _ _ _ (World.alloc_heap_new w.drew _) ?_ hge hmx (fun j y hj=>by omega) ?_ (fun j y _ hj=>by simp at hj)
  ·rw[Array.size_append,zero_size]
   simp
   omega
  ·rw[show w.heap.size=w.drew.heap.size from rfl,cell_new,Array.getElem?_append_left (by simp)]
   rfl
 ·have hcell: ∀(W:World),Below w.heap.size w W→∀j y,r[j]? =some y→W.cell? ⟨g,j,none⟩=some (.int .i64 y):=fun W hW j y hj=>(hW.cell (p:=⟨g,j,none⟩) (heap_lt hg)).trans (mx_at h (hget j y hj))
  have hcs: ∀j u,(r.map (Value.int .i64))[j]? =some u→w.cell? ⟨g,0+j,none⟩=some u:=fun j u hu=>by rw[Nat.zero_add];exact mx_at h hu
  have hsp: ∀j,j<cap→(w.cell? ⟨g,j,none⟩).isSome=true:=fun j hj=>by
   rw[mx_cell hg,Array.getElem?_eq_getElem (by omega)]
   rfl
  have hfz: ∀j,w.frozen? ⟨g,j,none⟩=false:=fun j=>by simp[World.frozen?,hg]
  have hgv:vb≠g:=fun e=>hne (by rw[e];rfl)
  by_cases hin:i<n
  ·by_cases hroom:n+1≤cap
   ·have H:=Tryz.slices_Insert_int_shift g 0 n cap i vb 0 1 1 (r.map (Value.int .i64)) [.int .i64 x] w hin (by omega) hroom (by unfold maxLen at h2;omega) hgv hml rfl hcs (fun j hj=>by rw[Nat.zero_add];exact hsp j (by omega)) (fun j _=>by rw[Nat.zero_add];exact hfz j) hvs0 (ints_one r) h1v 3 3 1 cap (by simp[World.shape?,hvb]) (by simp[World.shape?,hg];omega) (by omega) (by simp[World.frozen?,hvb]) (by simp[World.frozen?,hvb])
    refine H.mono ?_
    rintro e w' ⟨rfl,rfl⟩
    obtain⟨c1,hc1,hs1⟩:=block_setCells ((r.map (Value.int .i64)).drop i) (0+(i+1)) w.drew cur hg
    obtain⟨c2,hc2,hs2⟩:=block_setCells [Value.int .i64 x] (0+i) _ c1 hc1
    have hdl:((r.map (Value.int .i64)).drop i).length=n-i:=by rw[List.length_drop,hml]
    have q1: ∀j,j<((r.map (Value.int .i64)).drop i).length→(w.drew.cell? ⟨g,0+(i+1)+j,none⟩).isSome=true:=fun j hj=>hsp _ (by omega)
    refine⟨_,rfl,?_,((((Kept.drew (Kept.refl _ w) 1).trans (kept_setCells _ _ _ _) (fun _ _ h=>h)).trans (kept_setCells _ _ _ _) (fun _ _ h=>h)).mono (fun k _ h=>by rw[h];rfl)),.inl rfl⟩
    refine own_insI hc2 hb (by omega) h2 (by omega) hn hi hil (fun j y hj hy=>?_) ?_ (fun j y hj hy=>?_)
    ·rw[World.cell?_setCells_out _ _ _ _ _ (fun _ _=>.inl (by show j<0+i;omega)),World.cell?_setCells_out _ _ _ _ _ (fun _ _=>.inl (by show j<0+(i+1);omega))]
     exact hcell w.drew (mx_drew w) j y hy
    ·have:=World.cell?_setCells_in g [Value.int .i64 x] (0+i) (w.drew.setCells g (0+(i+1)) ((r.map (Value.int .i64)).drop i)) (fun j hj=>by
      have:j=0:=by simpa using hj
      subst this
      rw[World.cell?_setCells_out _ _ _ _ _ (fun _ _=>.inl (by show 0+i+0<0+(i+1);omega))]
      exact hsp _ (by omega)) 0 (by simp)
     rw[show 0+i+0=i by omega]at this
     exact this
    ·have hjn:=(List.getElem?_eq_some_iff.1 hy).1
     have:=World.cell?_setCells_in g ((r.map (Value.int .i64)).drop i) (0+(i+1)) w.drew q1 (j-i) (by omega)
     rw[World.cell?_setCells_out _ _ _ _ _ (fun _ _=>.inr (by show 0+i+1≤j+1;omega)),show j+1=0+(i+1)+(j-i) by omega,this]
     have hm:=hget j y hy
     rw[←List.getElem?_eq_getElem,List.getElem?_drop,show i+(j-i)=j by omega,hm]
   ·have H:=Tryz.slices_Insert_int_grow g 0 n cap i vb 0 1 1 (r.map (Value.int .i64)) [.int .i64 x] w hin (by omega) h1 (by omega) (by omega) hml rfl hcs hvs0 (ints_one r) h1v
    refine H.mono ?_
    rintro e w' ⟨rfl,rfl⟩
    have hge:=grownCap_ge w (n+1) cap 3
    have hmx:=grownCap_le_maxLen w (n+1) cap 3 (by unfold maxLen;omega)
    obtain⟨G,hG⟩: ∃G,grownCap w (n+1) cap 3=G:=⟨_,rfl⟩
    rw[hG]at hge hmx⊢
    obtain⟨C,hC⟩: ∃C,((r.map (Value.int .i64)).take i).toArray++Builtin.zeroCells (Value.int .i64 0).cells (n+1-i)++Builtin.zeroCells (Value.int .i64 0).cells (G-(n+1))=C:=⟨_,rfl⟩
    have hCs:C.size=G:=by
     rw[←hC,Array.size_append,Array.size_append,zero_size,zero_size]
     simp
     omega
    have hCx: ∀j y,j<i→r[j]? =some y→C[j]? =some (Value.int .i64 y):=fun j y hj hy=>by
     have hjn:=(List.getElem?_eq_some_iff.1 hy).1
     rw[←hC,Array.append_assoc,Array.getElem?_append_left (by simp;omega)]
     rw[List.getElem?_toArray,List.getElem?_take,if_pos hj]
     exact hget j y hy
    rw[hC]
    obtain⟨W0,hW0⟩: ∃W,w.alloc (.cells C 3)=W:=⟨_,rfl⟩
    have hb0:Below w.heap.size w W0:=by rw[←hW0];exact mx_al _ _
    have hg0:W0.heap[w.heap.size]? =some (.cells C 3 (0,0)):=by rw[←hW0];exact World.alloc_heap_new _ _
    rw[hW0]
    obtain⟨c1,hc1,hs1⟩:=block_setCells [Value.int .i64 x] i W0.drew C hg0
    obtain⟨c2,hc2,hs2⟩:=block_setCells ((r.map (Value.int .i64)).drop i) (i+1) _ c1 (show(W0.drew.setCells w.heap.size i [.int .i64 x]).drew.heap[w.heap.size]? =_ from hc1)
    have hdl:((r.map (Value.int .i64)).drop i).length=n-i:=by rw[List.length_drop,hml]
    have hs0: ∀j,j<G→(W0.drew.cell? ⟨w.heap.size,j,none⟩).isSome=true:=fun j hj=>by
     rw[show W0.drew.cell? ⟨w.heap.size,j,none⟩=C[j]? from mx_cell (w:=W0.drew) hg0,Array.getElem?_eq_getElem (by omega)]
     rfl
    have hs1': ∀j,j<G→((W0.drew.setCells w.heap.size i [.int .i64 x]).drew.cell? ⟨w.heap.size,j,none⟩).isSome=true:=fun j hj=>World.isSome_setCells w.heap.size [Value.int .i64 x] i W0.drew ⟨w.heap.size,j,none⟩ (hs0 j hj)
    have hkb:Below w.heap.size w ((W0.drew.setCells w.heap.size i [.int .i64 x]).drew.setCells w.heap.size (i+1) ((r.map (Value.int .i64)).drop i)):=
     ((hb0.drew.trans ((kept_setCells _ _ _ _).below (fun k e=>by omega) (by show w.heap.size≤W0.heap.size;exact hb0.size))).drew).trans ((kept_setCells _ _ _ _).below (fun k e=>by omega) (by show w.heap.size≤(W0.drew.setCells w.heap.size i [.int .i64 x]).heap.size;have:=(kept_setCells W0.drew w.heap.size i [.int .i64 x]).size;have h0:w.heap.size≤W0.drew.heap.size:=hb0.size;omega))
    refine⟨_,rfl,?_,Kept.of_below hkb,.inr rfl⟩
    refine fresh _ c2 G hc2 (by omega) hge hmx (fun j y hj hy=>?_) ?_ (fun j y hj hy=>?_)
    ·rw[World.cell?_setCells_out _ _ _ _ _ (fun _ _=>.inl (by show j<i+1;omega))]
     show(W0.drew.setCells w.heap.size i [.int .i64 x]).cell? _=_
     rw[World.cell?_setCells_out _ _ _ _ _ (fun _ _=>.inl (by show j<i;omega)),show W0.drew.cell? ⟨w.heap.size,j,none⟩=C[j]? from mx_cell (w:=W0.drew) hg0]
     exact hCx j y hj hy
    ·rw[World.cell?_setCells_out _ _ _ _ _ (fun _ _=>.inl (by show i<i+1;omega))]
     have:=World.cell?_setCells_in w.heap.size [Value.int .i64 x] i W0.drew (fun j hj=>hs0 _ (by simp at hj;omega)) 0 (by simp)
     exact this
    ·have hjn:=(List.getElem?_eq_some_iff.1 hy).1
     have:=World.cell?_setCells_in w.heap.size ((r.map (Value.int .i64)).drop i) (i+1) (W0.drew.setCells w.heap.size i [.int .i64 x]).drew (fun j hj=>hs1' _ (by omega)) (j-i) (by omega)
     rw[show j+1=i+1+(j-i) by omega,this]
     have hm:=hget j y hy
     rw[←List.getElem?_eq_getElem,List.getElem?_drop,show i+(j-i)=j by omega,hm]
  ·obtain rfl:i=n:=by omega
   by_cases hroom:i+1≤cap
   ·have H:=Tryz.slices_Insert_int_end_room g 0 i cap vb 0 1 1 [.int .i64 x] w (by omega) hroom (by unfold maxLen at h2;omega) rfl (fun j hj=>hsp _ (by omega)) (fun j _=>hfz _) hvs0 h1v
    refine H.mono ?_
    rintro e w' ⟨rfl,rfl⟩
    obtain⟨c2,hc2,hs2⟩:=block_setCells [Value.int .i64 x] (0+i) _ cur hg
    refine⟨_,rfl,?_,(kept_setCells _ _ _ _).mono (fun k _ h=>by rw[h];rfl),.inl rfl⟩
    refine own_insI hc2 hb (by omega) h2 (by omega) hn hi hil (fun j y hj hy=>?_) ?_ (fun j y hj hy=>?_)
    ·rw[World.cell?_setCells_out _ _ _ _ _ (fun _ _=>.inl (by show j<0+i;omega))]
     exact hcell w (Below.refl _ _) j y hy
    ·have:=World.cell?_setCells_in g [Value.int .i64 x] (0+i) w (fun j hj=>hsp _ (by simp at hj;omega)) 0 (by simp)
     rw[show 0+i+0=i by omega]at this
     exact this
    ·have hjn:=(List.getElem?_eq_some_iff.1 hy).1
     omega
   ·have H:=Tryz.slices_Insert_int_end_grow (some ⟨g,0,none⟩) i cap vb 0 1 1 (r.map (Value.int .i64)) [.int .i64 x] w (by omega) h1 (by omega) (by omega) hml rfl (fun h=>by cases h) (fun a ha j u hu=>by
     obtain rfl:=Option.some.inj ha
     rw[addr_add2]
     exact hcs j u hu) hvs0 h1v
    refine H.mono ?_
    rintro e w' ⟨rfl,rfl⟩
    have hge:=grownCap_ge w (i+1) cap 3
    have hmx:=grownCap_le_maxLen w (i+1) cap 3 (by unfold maxLen;omega)
    refine⟨_,rfl,?_,(Kept.drew (Kept.refl _ w) 1).alloc _,.inr rfl⟩
    refine fresh _ _ _ (World.alloc_heap_new w.drew _) ?_ hge hmx (fun j y hj hy=>?_) ?_ (fun j y hj hy=>?_)
    ·rw[Array.size_append,zero_size]
     simp
     omega
    ·have hjn:=(List.getElem?_eq_some_iff.1 hy).1
     rw[show w.heap.size=w.drew.heap.size from rfl,cell_new,Array.getElem?_append_left (by simp;omega),List.getElem?_toArray,List.getElem?_append_left (by simp;omega)]
     exact hget j y hy
    ·rw[show w.heap.size=w.drew.heap.size from rfl,cell_new,Array.getElem?_append_left (by simp;omega),List.getElem?_toArray,List.getElem?_append_right (by omega),hml,Nat.sub_self]
     rfl
    ·have hjn:=(List.getElem?_eq_some_iff.1 hy).1
     omega
end Go.Proofs.YtoojmhjagipmdaaGreat
namespace Go.Proofs.YtoojmhjagipmdaaGreat
open Go.RowKit Go.Maps Go.Shelf
inductive WTag
 | kn (id:Int)
 | by_ (id:Int)
 | ls (id:Int)
 | of (l:Int)
structure KnM where
 g:Nat
 bv:Value
 lv:Value
 k:Kn
def KnM.ptr (x:KnM):Value:=.pointer (some ⟨x.g,0,none⟩)
structure OfM where
 v:Value
 r:List Int
structure KnAt (w:World) (tg:Nat→Option WTag) (id:Int) (x:KnM):Prop where
 block:w.heap[x.g]? =some (.cells #[x.bv,x.lv] 171 (0,0))
 tag:tg x.g=some (.kn id)
 by_:w.ownsRow 0 32 1 x.bv x.k.by_.length (x.k.by_.map (Value.int .i64))
 byt: ∀g,x.bv.ownBlock=some g→tg g=some (.by_ id)
 ls:w.ownsRow 0 32 1 x.lv x.k.lits.length (x.k.lits.map (Value.int .i64))
 lst: ∀g,x.lv.ownBlock=some g→tg g=some (.ls id)
structure RowAt13 (w:World) (tg:Nat→Option WTag) (l:Int) (x:OfM):Prop where
 row:w.ownsRow 0 3 1 x.v x.r.length (x.r.map (Value.int .i64))
 tag: ∀g,x.v.ownBlock=some g→tg g=some (.of l)
abbrev MapK (w:World) (b:Nat) (m:List (Int×Value)):Prop:=MapS Tryz.prog 3 w b m
abbrev MapO (w:World) (b:Nat) (m:List (Int×Value)):Prop:=MapS Tryz.prog 32 w b m
structure WaMem (O:Nat→Prop) (w:World) (b ab tb:Nat) (S:Wst) (kb ob:Nat) (K:List (Int×KnM)) (F:List (Int×OfM)) (tg:Nat→Option WTag):Prop where
 own: ∀g,O g→g<w.heap.size
 inb:O b
 ink:O kb
 ino:O ob
 ne:kb≠ob
 intg: ∀g t,tg g=some t→O g
 block:w.heap[b]? =some (.cells #[.pointer (some ⟨ab,0,none⟩),.pointer (some ⟨tb,0,none⟩),.map (some kb),.map (some ob),.int .i64 (S.looked:Nat)] 157 (0,0))
 kmap:MapK w kb (mapV KnM.ptr K)
 omap:MapO w ob (mapV OfM.v F)
 kS:S.known=mapV KnM.k K
 oS:S.of=mapV OfM.r F
 kn: ∀p∈K,KnAt w tg p.1 p.2
 row: ∀p∈F,RowAt13 w tg p.1 p.2
def WaAt (O:Nat→Prop) (w:World) (b ab tb:Nat) (S:Wst):Prop:=S.Bnd∧∃kb ob K F tg,WaMem O w b ab tb S kb ob K F tg
theorem MapS.block {P:Program} {kt:TypeId} {w:World} {b:Nat} {m:List (Int×Value)} (h:MapS P kt w b m): ∃es c,w.heap[b]? =some (.map es c):=by
 obtain⟨⟨es,cl,hb,_⟩,_⟩:=h
 exact⟨es,cl,hb⟩
theorem MapS.not_cells {P:Program} {kt:TypeId} {w:World} {b g:Nat} {m:List (Int×Value)} (h:MapS P kt w b m) {cs:Array Value} {t:TypeId} {f:Nat×Nat} (hg:w.heap[g]? =some (.cells cs t f)):g≠b:=by
 rintro rfl
 obtain⟨es,c,hb⟩:=h.block
 rw[hg]at hb
 cases hb
theorem KnAt.kept {O:Nat→Prop} {w w':World} {tg tg':Nat→Option WTag} {id:Int} {x:KnM} (h:KnAt w tg id x) (k:Kept O w w') (ht: ∀g,g<w.heap.size→tg' g=tg g) (hO: ∀g t,tg g=some t→(t= .kn id∨t= .by_ id∨t= .ls id)→(∃c e f,w.heap[g]? =some (.cells c e f))→¬O g):KnAt w' tg' id x where
 block:=(k.block _ (heap_lt h.block) (hO _ _ h.tag (.inl rfl) ⟨_,_,_,h.block⟩)).trans h.block
 tag:=(ht _ (heap_lt h.block)).trans h.tag
 by_:=own_kept h.by_ k (fun g hg=>hO g _ (h.byt g hg) (.inr (.inl rfl)) (by
  obtain⟨c,hc⟩:=own_type h.by_ g hg
  exact⟨_,_,_,hc⟩))
 byt:=fun g hg=>(ht g (own_lt h.by_ g hg).2).trans (h.byt g hg)
 ls:=own_kept h.ls k (fun g hg=>hO g _ (h.lst g hg) (.inr (.inr rfl)) (by
  obtain⟨c,hc⟩:=own_type h.ls g hg
  exact⟨_,_,_,hc⟩))
 lst:=fun g hg=>(ht g (own_lt h.ls g hg).2).trans (h.lst g hg)
theorem RowAt13.kept {O:Nat→Prop} {w w':World} {tg tg':Nat→Option WTag} {l:Int} {x:OfM} (h:RowAt13 w tg l x) (k:Kept O w w') (ht: ∀g,g<w.heap.size→tg' g=tg g) (hO: ∀g,tg g=some (.of l)→(∃c e f,w.heap[g]? =some (.cells c e f))→¬O g):RowAt13 w' tg' l x where
 row:=own_kept h.row k (fun g hg=>hO g (h.tag g hg) (by
  obtain⟨c,hc⟩:=own_type h.row g hg
  exact⟨_,_,_,hc⟩))
 tag:=fun g hg=>(ht g (own_lt h.row g hg).2).trans (h.tag g hg)
section
variable {O:Nat→Prop} {w:World} {b ab tb kb ob:Nat} {S:Wst} {K:List (Int×KnM)} {F:List (Int×OfM)} {tg:Nat→Option WTag}
theorem WaMem.kept (h:WaMem O w b ab tb S kb ob K F tg) {O':Nat→Prop} {w':World} (k:Kept O' w w') (hO: ∀g,O g→¬O' g):WaMem O w' b ab tb S kb ob K F tg where
 own:=fun g hg=>Nat.lt_of_lt_of_le (h.own g hg) k.size
 inb:=h.inb
 ink:=h.ink
 ino:=h.ino
 ne:=h.ne
 intg:=h.intg
 block:=(k.block b (heap_lt h.block) (hO b h.inb)).trans h.block
 kmap:=h.kmap.kept k (hO kb h.ink)
 omap:=h.omap.kept k (hO ob h.ino)
 kS:=h.kS
 oS:=h.oS
 kn:=fun p hp=>(h.kn p hp).kept k (fun _ _=>rfl) (fun g t ht _ _=>hO g (h.intg g t ht))
 row:=fun p hp=>(h.row p hp).kept k (fun _ _=>rfl) (fun g ht _=>hO g (h.intg g _ ht))
theorem WaAt.kept {O':Nat→Prop} {w':World} (h:WaAt O w b ab tb S) (k:Kept O' w w') (hO: ∀g,O g→¬O' g):WaAt O w' b ab tb S:=by
 obtain⟨hb,kb,ob,K,F,tg,h⟩:=h
 exact⟨hb,kb,ob,K,F,tg,h.kept k hO⟩
theorem WaAt.below {w':World} (h:WaAt O w b ab tb S) (k:Below w.heap.size w w'):WaAt O w' b ab tb S:=
 h.kept (O':=fun _=>False) (Kept.of_below k) (fun _ _ h=>h)
theorem WaMem.congr (h:WaMem O w b ab tb S kb ob K F tg) {O':Nat→Prop} (hO: ∀g,O g↔O' g):WaMem O' w b ab tb S kb ob K F tg:=
 { h with own:=fun g hg=>h.own g ((hO g).2 hg),inb:=(hO _).1 h.inb,ink:=(hO _).1 h.ink,ino:=(hO _).1 h.ino,intg:=fun g t ht=>(hO g).1 (h.intg g t ht) }
theorem WaMem.kR (h:WaMem O w b ab tb S kb ob K F tg):Rising K:=mapV_rising_of h.kmap.2.1
theorem WaMem.knGet (h:WaMem O w b ab tb S kb ob K F tg) (id:Int):S.kn id=(getA K id).map KnM.k:=by
 unfold Wst.kn
 rw[h.kS,mapV_get]
theorem WaMem.rowGet (h:WaMem O w b ab tb S kb ob K F tg) (l:Int):S.row l=((getA F l).map OfM.r).getD []:=by
 unfold Wst.row
 rw[h.oS,mapV_get]
def rowV (F:List (Int×OfM)) (l:Int):Value:=((getA F l).map OfM.v).getD (.slice none 0 0)
theorem WaMem.rowAt (h:WaMem O w b ab tb S kb ob K F tg) (l:Int):w.ownsRow 0 3 1 (rowV F l) (S.row l).length ((S.row l).map (Value.int .i64))∧∀g,(rowV F l).ownBlock=some g→tg g=some (.of l):=by
 rw[h.rowGet]
 unfold rowV
 cases hg:getA F l with
 | none=>exact⟨World.ownsRow_nil _ _ _ _,fun g hg=>by cases hg⟩
 | some x=>
  have:=h.row _ (getA_some hg)
  exact⟨this.row,this.tag⟩
theorem lit_zero_slice (w:World):(zeroValue 63).run Tryz.prog w= .ok (.slice none 0 0) w:=by kernel_rfl
theorem known_zero (w:World):(zeroValue 164).run Tryz.prog w= .ok (.pointer none) w:=by kernel_rfl
theorem WaMem.lookO (h:WaMem O w b ab tb S kb ob K F tg) {l:Int} (hl:(Lit.int .i64 l).wf=true):(Instr.lookup 155 (.map (some ob)) (.int .i64 l) false).run Tryz.prog w= .ok (rowV F l) w:=by
 have:=h.omap.look lit_law Tryz.underlying32 Tryz.underlying155 (lit_zero_slice w) false hl
 rw[mapV_get]at this
 exact this
def knV (K:List (Int×KnM)) (id:Int):Value:=((getA K id).map KnM.ptr).getD (.pointer none)
theorem WaMem.lookK (h:WaMem O w b ab tb S kb ob K F tg) {id:Int} (hl:(Lit.int .i64 id).wf=true):(Instr.lookup 154 (.map (some kb)) (.int .i64 id) false).run Tryz.prog w= .ok (knV K id) w:=by
 have:=h.kmap.look int_law Tryz.underlying3 Tryz.underlying154 (known_zero w) false hl
 rw[mapV_get]at this
 exact this
theorem WaMem.knAt (h:WaMem O w b ab tb S kb ob K F tg) {id:Int} {k:Kn} (hk:S.kn id=some k): ∃x,getA K id=some x∧x.k=k∧KnAt w tg id x∧knV K id= .pointer (some ⟨x.g,0,none⟩):=by
 rw[h.knGet]at hk
 cases hg:getA K id with
 | none=>rw[hg]at hk;cases hk
 | some x=>
  rw[hg]at hk
  exact⟨x,rfl,Option.some.inj hk,h.kn _ (getA_some hg),by unfold knV;rw[hg];rfl⟩
theorem WaMem.knNone (h:WaMem O w b ab tb S kb ob K F tg) {id:Int} (hk:S.kn id=none):getA K id=none∧knV K id= .pointer none:=by
 rw[h.knGet,Option.map_eq_none_iff]at hk
 exact⟨hk,by unfold knV;rw[hk];rfl⟩
theorem putA_same {α:Type} {m:List (Int×α)} (hr:Rising m) {x:Int} {v:α} (h:getA m x=some v):putA m x v=m:=by
 have hm:=getA_some h
 clear h
 induction m with
 | nil=>cases hm
 | cons y r ih=>
  obtain⟨h1,h2⟩:=List.pairwise_cons.1 hr
  rcases List.mem_cons.1 hm with e|hm'
  ·subst e
   have hd:delA ((x,v)::r) x=r:=by
    unfold delA
    rw[List.filter_cons_of_neg (by simp),List.filter_eq_self.2]
    intro p hp
    have:=h1 p hp
    simp at this⊢
    omega
   unfold putA
   rw[hd]
   cases r with
   | nil=>rfl
   | cons z t=>
    unfold insA
    rw[if_pos (h1 z List.mem_cons_self)]
  ·have hyx:y.1<x:=h1 _ hm'
   have hd:delA (y::r) x=y::delA r x:=by
    unfold delA
    rw[List.filter_cons_of_pos (by simp;omega)]
   have:=ih h2 hm'
   unfold putA at this⊢
   rw[hd]
   unfold insA
   rw[if_neg (by show¬x<y.1;omega),this]
theorem WaMem.setRow (h:WaMem O w b ab tb S kb ob K F tg) {w2:World} {l:Int} {v':Value} {r':List Int} (k:Kept (fun g=>(rowV F l).ownBlock=some g∨g=ob) w w2) (hr:w2.ownsRow 0 3 1 v' r'.length (r'.map (Value.int .i64))) (hb:v'.ownBlock=(rowV F l).ownBlock∨∃g,v'.ownBlock=some g∧w.heap.size≤g) (hm:MapO w2 ob (putA (mapV OfM.v F) l v')):
  ∃tg',WaMem (fun g=>O g∨w.heap.size≤g∧g<w2.heap.size) w2 b ab tb ⟨S.known,putA S.of l r',S.looked⟩ kb ob K (putA F l ⟨v',r'⟩) tg':=by
 obtain⟨hrow,htag⟩:=h.rowAt l
 have hown: ∀g,(rowV F l).ownBlock=some g→∀t,tg g=some t→t= .of l:=fun g hg t ht=>by
  rw[htag g hg]at ht
  exact(Option.some.inj ht).symm
 have hneb: ∀g,(rowV F l).ownBlock=some g∨g=ob→b≠g:=by
  rintro g (hg|hg) rfl
  ·exact mx_not hrow h.block (by decide) hg
  ·exact h.omap.not_cells h.block hg
 have hnek: ¬((rowV F l).ownBlock=some kb∨kb=ob):=by
  rintro (hg|hg)
  ·obtain⟨c,hc⟩:=own_type hrow kb hg
   exact h.kmap.not_cells hc rfl
  ·exact h.ne hg
 refine⟨fun g=>if g<w.heap.size then tg g else if v'.ownBlock=some g then some (.of l)else none,?_⟩
 have ht: ∀g,g<w.heap.size→(if g<w.heap.size then tg g else if v'.ownBlock=some g then some (WTag.of l)else none)=tg g:=fun g hg=>if_pos hg
 refine { own:=?_,inb:=.inl h.inb,ink:=.inl h.ink,ino:=.inl h.ino,ne:=h.ne,intg:=?_,block:=?_,kmap:=?_,omap:=?_,kS:=h.kS,oS:=?_,kn:=?_,row:=?_ }
 ·rintro g (hg|hg)
  ·exact Nat.lt_of_lt_of_le (h.own g hg) k.size
  ·exact hg.2
 ·intro g t hgt
  split at hgt
  ·exact .inl (h.intg g t hgt)
  ·rename_i hge
   split at hgt
   ·rename_i hv
    exact .inr ⟨by omega,(own_lt hr g hv).2⟩
   ·cases hgt
 ·exact(k.block b (heap_lt h.block) (fun e=>hneb b e rfl)).trans h.block
 ·exact h.kmap.kept k hnek
 ·rw[mapV_put]
  exact hm
 ·show putA S.of l r'=_
  rw[mapV_put,h.oS]
 ·intro p hp
  refine(h.kn p hp).kept k ht (fun g t htg hcase hcells=>?_)
  rintro (hg|hg)
  ·have:=hown g hg t htg
   rw[this]at hcase
   rcases hcase with e|e|e <;> cases e
  ·obtain⟨c,e,f,hc⟩:=hcells
   exact h.omap.not_cells hc hg
 ·intro p hp
  rcases putA_mem.1 hp with rfl|⟨hp,hne⟩
  ·refine⟨hr,fun g hg=>?_⟩
   show(if g<w.heap.size then tg g else if v'.ownBlock=some g then some (WTag.of l)else none)=some (.of l)
   split
   ·rename_i hlt
    rcases hb with e|⟨g',e,hge⟩
    ·exact htag g (e▸hg)
    ·rw[e]at hg
     obtain rfl:=Option.some.inj hg
     omega
   ·rfl
  ·refine(h.row p hp).kept k ht (fun g htg hcells=>?_)
   rintro (hg|hg)
   ·have:=hown g hg _ htg
    injection this with e
    exact hne e
   ·obtain⟨c,e,f,hc⟩:=hcells
    exact h.omap.not_cells hc hg
theorem WaMem.setKn (h:WaMem O w b ab tb S kb ob K F tg) {w2:World} {id:Int} {x:KnM} (hx:getA K id=some x) {k':Kn} (hl:k'.lits=x.k.lits) (k:Kept (fun g=>x.bv.ownBlock=some g) w w2) (hr:w2.ownsRow 0 32 1 x.bv k'.by_.length (k'.by_.map (Value.int .i64))):
  WaMem O w2 b ab tb ⟨putA S.known id k',S.of,S.looked⟩ kb ob (putA K id ⟨x.g,x.bv,x.lv,k'⟩) F tg:=by
 have hk:=h.kn _ (getA_some hx)
 have hown: ∀g,x.bv.ownBlock=some g→∀t,tg g=some t→t= .by_ id:=fun g hg t ht=>by
  rw[hk.byt g hg]at ht
  exact(Option.some.inj ht).symm
 have hcell: ∀g,x.bv.ownBlock=some g→∃c,w.heap[g]? =some (.cells c 32 (0,0)):=own_type hk.by_
 refine { own:=fun g hg=>Nat.lt_of_lt_of_le (h.own g hg) k.size,inb:=h.inb,ink:=h.ink,ino:=h.ino,ne:=h.ne,intg:=h.intg,block:=?_,kmap:=?_,omap:=?_,kS:=?_,oS:=h.oS,kn:=?_,row:=?_ }
 ·refine(k.block b (heap_lt h.block) (fun e=>?_)).trans h.block
  exact mx_not hk.by_ h.block (by decide) e
 ·have e:mapV KnM.ptr (putA K id ⟨x.g,x.bv,x.lv,k'⟩)=mapV KnM.ptr K:=by
   rw[mapV_put]
   refine putA_same h.kmap.2.1 ?_
   rw[mapV_get,hx]
   rfl
  rw[e]
  refine h.kmap.kept k (fun e=>?_)
  obtain⟨c,hc⟩:=hcell kb e
  exact h.kmap.not_cells hc rfl
 ·refine h.omap.kept k (fun e=>?_)
  obtain⟨c,hc⟩:=hcell ob e
  exact h.omap.not_cells hc rfl
 ·show putA S.known id k'=_
  rw[mapV_put,h.kS]
 ·intro p hp
  rcases putA_mem.1 hp with rfl|⟨hp,hne⟩
  ·refine⟨?_,hk.tag,hr,hk.byt,?_,hk.lst⟩
   ·refine(k.block x.g (heap_lt hk.block) (fun e=>?_)).trans hk.block
    exact mx_not hk.by_ hk.block (by decide) e
   ·show w2.ownsRow 0 _ 1 x.lv k'.lits.length (k'.lits.map _)
    rw[hl]
    refine own_kept hk.ls k (fun g hg e=>?_)
    have:=hown g e _ (hk.lst g hg)
    cases this
  ·refine(h.kn p hp).kept k (fun _ _=>rfl) (fun g t htg hcase _ hg=>?_)
   have:=hown g hg t htg
   rw[this]at hcase
   rcases hcase with e|e|e
   ·cases e
   ·injection e with e
    exact hne e.symm
   ·cases e
 ·intro p hp
  refine(h.row p hp).kept k (fun _ _=>rfl) (fun g htg _ hg=>?_)
  have:=hown g hg _ htg
  cases this
theorem WaMem.addKn (h:WaMem O w b ab tb S kb ob K F tg) {w2:World} {id:Int} {g:Nat} {lv:Value} {c:List Int} (k:Kept (fun g=>g=kb) w w2) (hb:w2.heap[g]? =some (.cells #[.slice none 0 0,lv] 171 (0,0))) (hg:w.heap.size≤g)
  (hr:w2.ownsRow 0 32 1 lv c.length (c.map (Value.int .i64))) (hf: ∀g,lv.ownBlock=some g→w.heap.size≤g) (hm:MapK w2 kb (putA (mapV KnM.ptr K) id (.pointer (some ⟨g,0,none⟩)))):
  ∃tg',WaMem (fun g=>O g∨w.heap.size≤g∧g<w2.heap.size) w2 b ab tb ⟨putA S.known id ⟨[],c⟩,S.of,S.looked⟩ kb ob (putA K id ⟨g,.slice none 0 0,lv,⟨[],c⟩⟩) F tg':=by
 refine⟨fun j=>if j<w.heap.size then tg j else if j=g then some (.kn id)else if lv.ownBlock=some j then some (.ls id)else none,?_⟩
 have ht: ∀j,j<w.heap.size→(if j<w.heap.size then tg j else if j=g then some (WTag.kn id)else if lv.ownBlock=some j then some (.ls id)else none)=tg j:=fun j hj=>if_pos hj
 refine { own:=?_,inb:=.inl h.inb,ink:=.inl h.ink,ino:=.inl h.ino,ne:=h.ne,intg:=?_,block:=?_,kmap:=?_,omap:=?_,kS:=?_,oS:=h.oS,kn:=?_,row:=?_ }
 ·rintro g (hg|hg)
  ·exact Nat.lt_of_lt_of_le (h.own g hg) k.size
  ·exact hg.2
 ·intro j t hjt
  split at hjt
  ·exact .inl (h.intg j t hjt)
  ·rename_i hge
   split at hjt
   ·rename_i e
    exact .inr ⟨by omega,by rw[e];exact heap_lt hb⟩
   ·split at hjt
    ·rename_i hv
     exact .inr ⟨by omega,(own_lt hr j hv).2⟩
    ·cases hjt
 ·exact(k.block b (heap_lt h.block) (fun e=>h.kmap.not_cells h.block e)).trans h.block
 ·rw[mapV_put]
  exact hm
 ·exact h.omap.kept k (fun e=>h.ne e.symm)
 ·show putA S.known id _=_
  rw[mapV_put,h.kS]
 ·intro p hp
  rcases putA_mem.1 hp with rfl|⟨hp,hne⟩
  ·refine⟨hb,?_,World.ownsRow_nil _ _ _ _,fun j hj=>(by cases hj),hr,fun j hj=>?_⟩
   ·show(if g<w.heap.size then tg g else if g=g then some (WTag.kn id)else _)=_
    rw[if_neg (by omega),if_pos rfl]
   ·show(if j<w.heap.size then tg j else if j=g then some (WTag.kn id)else if lv.ownBlock=some j then some (.ls id)else none)=_
    have h1:=hf j hj
    have h2:j≠g:=fun e=>mx_not hr hb (by decide) (e▸hj)
    rw[if_neg (by omega),if_neg h2,if_pos hj]
  ·refine(h.kn p hp).kept k ht (fun j t _ _ hcells e=>?_)
   obtain⟨c,e',f,hc⟩:=hcells
   exact h.kmap.not_cells hc e
 ·intro p hp
  refine(h.row p hp).kept k ht (fun j _ hcells e=>?_)
  obtain⟨c,e',f,hc⟩:=hcells
  exact h.kmap.not_cells hc e
theorem WaMem.setBy (h:WaMem O w b ab tb S kb ob K F tg) {w2:World} {id:Int} {x:KnM} (hx:getA K id=some x) {v':Value} {r':List Int} (k:Kept (fun g=>g=x.g) w w2) (hb:w2.heap[x.g]? =some (.cells #[v',x.lv] 171 (0,0)))
  (hr:w2.ownsRow 0 32 1 v' r'.length (r'.map (Value.int .i64))) (hf: ∀g,v'.ownBlock=some g→w.heap.size≤g):
  ∃tg',WaMem (fun g=>O g∨w.heap.size≤g∧g<w2.heap.size) w2 b ab tb ⟨putA S.known id ⟨r',x.k.lits⟩,S.of,S.looked⟩ kb ob (putA K id ⟨x.g,v',x.lv,⟨r',x.k.lits⟩⟩) F tg':=by
 have hk:=h.kn _ (getA_some hx)
 refine⟨fun j=>if j<w.heap.size then tg j else if v'.ownBlock=some j then some (.by_ id)else none,?_⟩
 have ht: ∀j,j<w.heap.size→(if j<w.heap.size then tg j else if v'.ownBlock=some j then some (WTag.by_ id)else none)=tg j:=fun j hj=>if_pos hj
 refine { own:=?_,inb:=.inl h.inb,ink:=.inl h.ink,ino:=.inl h.ino,ne:=h.ne,intg:=?_,block:=?_,kmap:=?_,omap:=?_,kS:=?_,oS:=h.oS,kn:=?_,row:=?_ }
 ·rintro g (hg|hg)
  ·exact Nat.lt_of_lt_of_le (h.own g hg) k.size
  ·exact hg.2
 ·intro j t hjt
  split at hjt
  ·exact .inl (h.intg j t hjt)
  ·rename_i hge
   split at hjt
   ·rename_i hv
    exact .inr ⟨by omega,(own_lt hr j hv).2⟩
   ·cases hjt
 ·refine(k.block b (heap_lt h.block) (fun e=>?_)).trans h.block
  have h1:=h.block
  rw[e,hk.block]at h1
  simp at h1
 ·have e:mapV KnM.ptr (putA K id ⟨x.g,v',x.lv,⟨r',x.k.lits⟩⟩)=mapV KnM.ptr K:=by
   rw[mapV_put]
   refine putA_same h.kmap.2.1 ?_
   rw[mapV_get,hx]
   rfl
  rw[e]
  exact h.kmap.kept k (fun e=>h.kmap.not_cells hk.block e.symm)
 ·exact h.omap.kept k (fun e=>h.omap.not_cells hk.block e.symm)
 ·show putA S.known id _=_
  rw[mapV_put,h.kS]
 ·intro p hp
  rcases putA_mem.1 hp with rfl|⟨hp,hne⟩
  ·refine⟨hb,(ht _ (heap_lt hk.block)).trans hk.tag,hr,fun j hj=>?_,?_,fun j hj=>(ht _ (own_lt hk.ls j hj).2).trans (hk.lst j hj)⟩
   ·show(if j<w.heap.size then tg j else if v'.ownBlock=some j then some (WTag.by_ id)else none)=_
    have h1:=hf j hj
    rw[if_neg (by omega),if_pos hj]
   ·exact own_kept hk.ls k (fun g hg e=>mx_not hk.ls hk.block (by decide) (e▸hg))
  ·refine(h.kn p hp).kept k ht (fun j t htj hcase _ e=>?_)
   rw[e,hk.tag]at htj
   obtain rfl:=Option.some.inj htj
   rcases hcase with e|e|e
   ·injection e with e
    exact hne e.symm
   ·cases e
   ·cases e
 ·intro p hp
  refine(h.row p hp).kept k ht (fun j htj _ e=>?_)
  rw[e,hk.tag]at htj
  cases htj
theorem WaMem.delKn (h:WaMem O w b ab tb S kb ob K F tg) {w2:World} {id:Int} (k:Kept (fun g=>g=kb) w w2) (hm:MapK w2 kb (delA (mapV KnM.ptr K) id)):
  WaMem O w2 b ab tb ⟨delA S.known id,S.of,S.looked⟩ kb ob (delA K id) F tg:=by
 refine { own:=fun g hg=>Nat.lt_of_lt_of_le (h.own g hg) k.size,inb:=h.inb,ink:=h.ink,ino:=h.ino,ne:=h.ne,intg:=h.intg,block:=(k.block b (heap_lt h.block) (fun e=>h.kmap.not_cells h.block e)).trans h.block,kmap:=?_,omap:=h.omap.kept k (fun e=>h.ne e.symm),kS:=?_,oS:=h.oS,kn:=?_,row:=?_ }
 ·rw[mapV_del]
  exact hm
 ·show delA S.known id=_
  rw[mapV_del,h.kS]
 ·intro p hp
  refine(h.kn p (delA_mem.1 hp).1).kept k (fun _ _=>rfl) (fun j t _ _ hcells e=>?_)
  obtain⟨c,e',f,hc⟩:=hcells
  exact h.kmap.not_cells hc e
 ·intro p hp
  refine(h.row p hp).kept k (fun _ _=>rfl) (fun j _ hcells e=>?_)
  obtain⟨c,e',f,hc⟩:=hcells
  exact h.kmap.not_cells hc e
theorem WaMem.setLooked (h:WaMem O w b ab tb S kb ob K F tg) (n:Nat):WaMem O (w.setCell ⟨b,4,none⟩ (.int .i64 (n:Nat))) b ab tb ⟨S.known,S.of,n⟩ kb ob K F tg:=by
 have k:Kept (fun g=>g=b) w (w.setCell ⟨b,4,none⟩ (.int .i64 (n:Nat))):=Kept.setCell (Kept.refl (fun g=>g=b) w) _ _ rfl
 refine { own:=fun g hg=>Nat.lt_of_lt_of_le (h.own g hg) k.size,inb:=h.inb,ink:=h.ink,ino:=h.ino,ne:=h.ne,intg:=h.intg,block:=mx_set h.block _,kmap:=h.kmap.kept k (fun e=>h.kmap.not_cells h.block e.symm),omap:=h.omap.kept k (fun e=>h.omap.not_cells h.block e.symm),kS:=h.kS,oS:=h.oS,kn:=?_,row:=?_ }
 ·intro p hp
  have hk:=h.kn p hp
  refine⟨(k.block _ (heap_lt hk.block) (fun e=>?_)).trans hk.block,hk.tag,own_kept hk.by_ k (fun g hg e=>mx_not hk.by_ h.block (by decide) (e▸hg)),hk.byt,own_kept hk.ls k (fun g hg e=>mx_not hk.ls h.block (by decide) (e▸hg)),hk.lst⟩
  have h1:=h.block
  rw[←e,hk.block]at h1
  simp at h1
 ·intro p hp
  refine⟨own_kept (h.row p hp).row k (fun g hg e=>mx_not (h.row p hp).row h.block (by decide) (e▸hg)),(h.row p hp).tag⟩
end
end Go.Proofs.YtoojmhjagipmdaaGreat
