/- The watch in memory. The watch: put, drop. -/
import Derived.Test.YtoojmhjagipmdaaGreatV316
import Derived.Test.YtoojmhjagipmdaaGreatV314
import Derived.Test.YtoojmhjagipmdaaGreatV300
namespace Go.Proofs.YtoojmhjagipmdaaGreat
open Go.RowKit Go.Maps Go.Shelf
inductive WTag
 | kn (id:Int)
 | by_ (id:Int)
 | ls (id:Int)
 | of (l:Int)
structure KnM where
 g:Nat
 bv:Value
 lv:Value
 k:Kn
def KnM.ptr (x:KnM):Value:=.pointer (some ⟨x.g,0,none⟩)
structure OfM where
 v:Value
 r:List Int
structure KnAt (w:World) (tg:Nat→Option WTag) (id:Int) (x:KnM):Prop where
 block:w.heap[x.g]? =some (.cells #[x.bv,x.lv] 171 (0,0))
 tag:tg x.g=some (.kn id)
 by_:w.ownsRow 0 32 1 x.bv x.k.by_.length (x.k.by_.map (Value.int .i64))
 byt: ∀g,x.bv.ownBlock=some g→tg g=some (.by_ id)
 ls:w.ownsRow 0 32 1 x.lv x.k.lits.length (x.k.lits.map (Value.int .i64))
 lst: ∀g,x.lv.ownBlock=some g→tg g=some (.ls id)
structure RowAt13 (w:World) (tg:Nat→Option WTag) (l:Int) (x:OfM):Prop where
 row:w.ownsRow 0 3 1 x.v x.r.length (x.r.map (Value.int .i64))
 tag: ∀g,x.v.ownBlock=some g→tg g=some (.of l)
abbrev MapK (w:World) (b:Nat) (m:List (Int×Value)):Prop:=MapS Tryz.prog 3 w b m
abbrev MapO (w:World) (b:Nat) (m:List (Int×Value)):Prop:=MapS Tryz.prog 32 w b m
structure WaMem (O:Nat→Prop) (w:World) (b ab tb:Nat) (S:Wst) (kb ob:Nat) (K:List (Int×KnM)) (F:List (Int×OfM)) (tg:Nat→Option WTag):Prop where
 own: ∀g,O g→g<w.heap.size
 inb:O b
 ink:O kb
 ino:O ob
 ne:kb≠ob
 intg: ∀g t,tg g=some t→O g
 block:w.heap[b]? =some (.cells #[.pointer (some ⟨ab,0,none⟩),.pointer (some ⟨tb,0,none⟩),.map (some kb),.map (some ob),.int .i64 (S.looked:Nat)] 157 (0,0))
 kmap:MapK w kb (mapV KnM.ptr K)
 omap:MapO w ob (mapV OfM.v F)
 kS:S.known=mapV KnM.k K
 oS:S.of=mapV OfM.r F
 kn: ∀p∈K,KnAt w tg p.1 p.2
 row: ∀p∈F,RowAt13 w tg p.1 p.2
def WaAt (O:Nat→Prop) (w:World) (b ab tb:Nat) (S:Wst):Prop:=S.Bnd∧∃kb ob K F tg,WaMem O w b ab tb S kb ob K F tg
theorem MapS.block {P:Program} {kt:TypeId} {w:World} {b:Nat} {m:List (Int×Value)} (h:MapS P kt w b m): ∃es c,w.heap[b]? =some (.map es c):=by
 obtain⟨⟨es,cl,hb,_⟩,_⟩:=h
 exact⟨es,cl,hb⟩
theorem MapS.not_cells {P:Program} {kt:TypeId} {w:World} {b g:Nat} {m:List (Int×Value)} (h:MapS P kt w b m) {cs:Array Value} {t:TypeId} {f:Nat×Nat} (hg:w.heap[g]? =some (.cells cs t f)):g≠b:=by
 rintro rfl
 obtain⟨es,c,hb⟩:=h.block
 rw[hg]at hb
 cases hb
theorem KnAt.kept {O:Nat→Prop} {w w':World} {tg tg':Nat→Option WTag} {id:Int} {x:KnM} (h:KnAt w tg id x) (k:Kept O w w') (ht: ∀g,g<w.heap.size→tg' g=tg g) (hO: ∀g t,tg g=some t→(t= .kn id∨t= .by_ id∨t= .ls id)→(∃c e f,w.heap[g]? =some (.cells c e f))→¬O g):KnAt w' tg' id x where
 block:=(k.block _ (heap_lt h.block) (hO _ _ h.tag (.inl rfl) ⟨_,_,_,h.block⟩)).trans h.block
 tag:=(ht _ (heap_lt h.block)).trans h.tag
 by_:=own_kept h.by_ k (fun g hg=>hO g _ (h.byt g hg) (.inr (.inl rfl)) (by
  obtain⟨c,hc⟩:=own_type h.by_ g hg
  exact⟨_,_,_,hc⟩))
 byt:=fun g hg=>(ht g (own_lt h.by_ g hg).2).trans (h.byt g hg)
 ls:=own_kept h.ls k (fun g hg=>hO g _ (h.lst g hg) (.inr (.inr rfl)) (by
  obtain⟨c,hc⟩:=own_type h.ls g hg
  exact⟨_,_,_,hc⟩))
 lst:=fun g hg=>(ht g (own_lt h.ls g hg).2).trans (h.lst g hg)
theorem RowAt13.kept {O:Nat→Prop} {w w':World} {tg tg':Nat→Option WTag} {l:Int} {x:OfM} (h:RowAt13 w tg l x) (k:Kept O w w') (ht: ∀g,g<w.heap.size→tg' g=tg g) (hO: ∀g,tg g=some (.of l)→(∃c e f,w.heap[g]? =some (.cells c e f))→¬O g):RowAt13 w' tg' l x where
 row:=own_kept h.row k (fun g hg=>hO g (h.tag g hg) (by
  obtain⟨c,hc⟩:=own_type h.row g hg
  exact⟨_,_,_,hc⟩))
 tag:=fun g hg=>(ht g (own_lt h.row g hg).2).trans (h.tag g hg)
section
variable {O:Nat→Prop} {w:World} {b ab tb kb ob:Nat} {S:Wst} {K:List (Int×KnM)} {F:List (Int×OfM)} {tg:Nat→Option WTag}
theorem WaMem.kept (h:WaMem O w b ab tb S kb ob K F tg) {O':Nat→Prop} {w':World} (k:Kept O' w w') (hO: ∀g,O g→¬O' g):WaMem O w' b ab tb S kb ob K F tg where
 own:=fun g hg=>Nat.lt_of_lt_of_le (h.own g hg) k.size
 inb:=h.inb
 ink:=h.ink
 ino:=h.ino
 ne:=h.ne
 intg:=h.intg
 block:=(k.block b (heap_lt h.block) (hO b h.inb)).trans h.block
 kmap:=h.kmap.kept k (hO kb h.ink)
 omap:=h.omap.kept k (hO ob h.ino)
 kS:=h.kS
 oS:=h.oS
 kn:=fun p hp=>(h.kn p hp).kept k (fun _ _=>rfl) (fun g t ht _ _=>hO g (h.intg g t ht))
 row:=fun p hp=>(h.row p hp).kept k (fun _ _=>rfl) (fun g ht _=>hO g (h.intg g _ ht))
theorem WaAt.kept {O':Nat→Prop} {w':World} (h:WaAt O w b ab tb S) (k:Kept O' w w') (hO: ∀g,O g→¬O' g):WaAt O w' b ab tb S:=by
 obtain⟨hb,kb,ob,K,F,tg,h⟩:=h
 exact⟨hb,kb,ob,K,F,tg,h.kept k hO⟩
theorem WaAt.below {w':World} (h:WaAt O w b ab tb S) (k:Below w.heap.size w w'):WaAt O w' b ab tb S:=
 h.kept (O':=fun _=>False) (Kept.of_below k) (fun _ _ h=>h)
theorem WaMem.congr (h:WaMem O w b ab tb S kb ob K F tg) {O':Nat→Prop} (hO: ∀g,O g↔O' g):WaMem O' w b ab tb S kb ob K F tg:=
 { h with own:=fun g hg=>h.own g ((hO g).2 hg),inb:=(hO _).1 h.inb,ink:=(hO _).1 h.ink,ino:=(hO _).1 h.ino,intg:=fun g t ht=>(hO g).1 (h.intg g t ht) }
theorem WaMem.kR (h:WaMem O w b ab tb S kb ob K F tg):Rising K:=mapV_rising_of h.kmap.2.1
theorem WaMem.knGet (h:WaMem O w b ab tb S kb ob K F tg) (id:Int):S.kn id=(getA K id).map KnM.k:=by
 unfold Wst.kn
 rw[h.kS,mapV_get]
theorem WaMem.rowGet (h:WaMem O w b ab tb S kb ob K F tg) (l:Int):S.row l=((getA F l).map OfM.r).getD []:=by
 unfold Wst.row
 rw[h.oS,mapV_get]
def rowV (F:List (Int×OfM)) (l:Int):Value:=((getA F l).map OfM.v).getD (.slice none 0 0)
theorem WaMem.rowAt (h:WaMem O w b ab tb S kb ob K F tg) (l:Int):w.ownsRow 0 3 1 (rowV F l) (S.row l).length ((S.row l).map (Value.int .i64))∧∀g,(rowV F l).ownBlock=some g→tg g=some (.of l):=by
 rw[h.rowGet]
 unfold rowV
 cases hg:getA F l with
 | none=>exact⟨World.ownsRow_nil _ _ _ _,fun g hg=>by cases hg⟩
 | some x=>
  have:=h.row _ (getA_some hg)
  exact⟨this.row,this.tag⟩
theorem lit_zero_slice (w:World):(zeroValue 63).run Tryz.prog w= .ok (.slice none 0 0) w:=by kernel_rfl
theorem known_zero (w:World):(zeroValue 164).run Tryz.prog w= .ok (.pointer none) w:=by kernel_rfl
theorem WaMem.lookO (h:WaMem O w b ab tb S kb ob K F tg) {l:Int} (hl:(Lit.int .i64 l).wf=true):(Instr.lookup 155 (.map (some ob)) (.int .i64 l) false).run Tryz.prog w= .ok (rowV F l) w:=by
 have:=h.omap.look lit_law Tryz.underlying32 Tryz.underlying155 (lit_zero_slice w) false hl
 rw[mapV_get]at this
 exact this
def knV (K:List (Int×KnM)) (id:Int):Value:=((getA K id).map KnM.ptr).getD (.pointer none)
theorem WaMem.lookK (h:WaMem O w b ab tb S kb ob K F tg) {id:Int} (hl:(Lit.int .i64 id).wf=true):(Instr.lookup 154 (.map (some kb)) (.int .i64 id) false).run Tryz.prog w= .ok (knV K id) w:=by
 have:=h.kmap.look int_law Tryz.underlying3 Tryz.underlying154 (known_zero w) false hl
 rw[mapV_get]at this
 exact this
theorem WaMem.knAt (h:WaMem O w b ab tb S kb ob K F tg) {id:Int} {k:Kn} (hk:S.kn id=some k): ∃x,getA K id=some x∧x.k=k∧KnAt w tg id x∧knV K id= .pointer (some ⟨x.g,0,none⟩):=by
 rw[h.knGet]at hk
 cases hg:getA K id with
 | none=>rw[hg]at hk;cases hk
 | some x=>
  rw[hg]at hk
  exact⟨x,rfl,Option.some.inj hk,h.kn _ (getA_some hg),by unfold knV;rw[hg];rfl⟩
theorem WaMem.knNone (h:WaMem O w b ab tb S kb ob K F tg) {id:Int} (hk:S.kn id=none):getA K id=none∧knV K id= .pointer none:=by
 rw[h.knGet,Option.map_eq_none_iff]at hk
 exact⟨hk,by unfold knV;rw[hk];rfl⟩
theorem putA_same {α:Type} {m:List (Int×α)} (hr:Rising m) {x:Int} {v:α} (h:getA m x=some v):putA m x v=m:=by
 have hm:=getA_some h
 clear h
 induction m with
 | nil=>cases hm
 | cons y r ih=>
  obtain⟨h1,h2⟩:=List.pairwise_cons.1 hr
  rcases List.mem_cons.1 hm with e|hm'
  ·subst e
   have hd:delA ((x,v)::r) x=r:=by
    unfold delA
    rw[List.filter_cons_of_neg (by simp),List.filter_eq_self.2]
    intro p hp
    have:=h1 p hp
    simp at this⊢
    omega
   unfold putA
   rw[hd]
   cases r with
   | nil=>rfl
   | cons z t=>
    unfold insA
    rw[if_pos (h1 z List.mem_cons_self)]
  ·have hyx:y.1<x:=h1 _ hm'
   have hd:delA (y::r) x=y::delA r x:=by
    unfold delA
    rw[List.filter_cons_of_pos (by simp;omega)]
   have:=ih h2 hm'
   unfold putA at this⊢
   rw[hd]
   unfold insA
   rw[if_neg (by show¬x<y.1;omega),this]
theorem WaMem.setRow (h:WaMem O w b ab tb S kb ob K F tg) {w2:World} {l:Int} {v':Value} {r':List Int} (k:Kept (fun g=>(rowV F l).ownBlock=some g∨g=ob) w w2) (hr:w2.ownsRow 0 3 1 v' r'.length (r'.map (Value.int .i64))) (hb:v'.ownBlock=(rowV F l).ownBlock∨∃g,v'.ownBlock=some g∧w.heap.size≤g) (hm:MapO w2 ob (putA (mapV OfM.v F) l v')):
  ∃tg',WaMem (fun g=>O g∨w.heap.size≤g∧g<w2.heap.size) w2 b ab tb ⟨S.known,putA S.of l r',S.looked⟩ kb ob K (putA F l ⟨v',r'⟩) tg':=by
 obtain⟨hrow,htag⟩:=h.rowAt l
 have hown: ∀g,(rowV F l).ownBlock=some g→∀t,tg g=some t→t= .of l:=fun g hg t ht=>by
  rw[htag g hg]at ht
  exact(Option.some.inj ht).symm
 have hneb: ∀g,(rowV F l).ownBlock=some g∨g=ob→b≠g:=by
  rintro g (hg|hg) rfl
  ·exact mx_not hrow h.block (by decide) hg
  ·exact h.omap.not_cells h.block hg
 have hnek: ¬((rowV F l).ownBlock=some kb∨kb=ob):=by
  rintro (hg|hg)
  ·obtain⟨c,hc⟩:=own_type hrow kb hg
   exact h.kmap.not_cells hc rfl
  ·exact h.ne hg
 refine⟨fun g=>if g<w.heap.size then tg g else if v'.ownBlock=some g then some (.of l)else none,?_⟩
 have ht: ∀g,g<w.heap.size→(if g<w.heap.size then tg g else if v'.ownBlock=some g then some (WTag.of l)else none)=tg g:=fun g hg=>if_pos hg
 refine { own:=?_,inb:=.inl h.inb,ink:=.inl h.ink,ino:=.inl h.ino,ne:=h.ne,intg:=?_,block:=?_,kmap:=?_,omap:=?_,kS:=h.kS,oS:=?_,kn:=?_,row:=?_ }
 ·rintro g (hg|hg)
  ·exact Nat.lt_of_lt_of_le (h.own g hg) k.size
  ·exact hg.2
 ·intro g t hgt
  split at hgt
  ·exact .inl (h.intg g t hgt)
  ·rename_i hge
   split at hgt
   ·rename_i hv
    exact .inr ⟨by omega,(own_lt hr g hv).2⟩
   ·cases hgt
 ·exact(k.block b (heap_lt h.block) (fun e=>hneb b e rfl)).trans h.block
 ·exact h.kmap.kept k hnek
 ·rw[mapV_put]
  exact hm
 ·show putA S.of l r'=_
  rw[mapV_put,h.oS]
 ·intro p hp
  refine(h.kn p hp).kept k ht (fun g t htg hcase hcells=>?_)
  rintro (hg|hg)
  ·have:=hown g hg t htg
   rw[this]at hcase
   rcases hcase with e|e|e <;> cases e
  ·obtain⟨c,e,f,hc⟩:=hcells
   exact h.omap.not_cells hc hg
 ·intro p hp
  rcases putA_mem.1 hp with rfl|⟨hp,hne⟩
  ·refine⟨hr,fun g hg=>?_⟩
   show(if g<w.heap.size then tg g else if v'.ownBlock=some g then some (WTag.of l)else none)=some (.of l)
   split
   ·rename_i hlt
    rcases hb with e|⟨g',e,hge⟩
    ·exact htag g (e▸hg)
    ·rw[e]at hg
     obtain rfl:=Option.some.inj hg
     omega
   ·rfl
  ·refine(h.row p hp).kept k ht (fun g htg hcells=>?_)
   rintro (hg|hg)
   ·have:=hown g hg _ htg
    injection this with e
    exact hne e
   ·obtain⟨c,e,f,hc⟩:=hcells
    exact h.omap.not_cells hc hg
theorem WaMem.setKn (h:WaMem O w b ab tb S kb ob K F tg) {w2:World} {id:Int} {x:KnM} (hx:getA K id=some x) {k':Kn} (hl:k'.lits=x.k.lits) (k:Kept (fun g=>x.bv.ownBlock=some g) w w2) (hr:w2.ownsRow 0 32 1 x.bv k'.by_.length (k'.by_.map (Value.int .i64))):
  WaMem O w2 b ab tb ⟨putA S.known id k',S.of,S.looked⟩ kb ob (putA K id ⟨x.g,x.bv,x.lv,k'⟩) F tg:=by
 have hk:=h.kn _ (getA_some hx)
 have hown: ∀g,x.bv.ownBlock=some g→∀t,tg g=some t→t= .by_ id:=fun g hg t ht=>by
  rw[hk.byt g hg]at ht
  exact(Option.some.inj ht).symm
 have hcell: ∀g,x.bv.ownBlock=some g→∃c,w.heap[g]? =some (.cells c 32 (0,0)):=own_type hk.by_
 refine { own:=fun g hg=>Nat.lt_of_lt_of_le (h.own g hg) k.size,inb:=h.inb,ink:=h.ink,ino:=h.ino,ne:=h.ne,intg:=h.intg,block:=?_,kmap:=?_,omap:=?_,kS:=?_,oS:=h.oS,kn:=?_,row:=?_ }
 ·refine(k.block b (heap_lt h.block) (fun e=>?_)).trans h.block
  exact mx_not hk.by_ h.block (by decide) e
 ·have e:mapV KnM.ptr (putA K id ⟨x.g,x.bv,x.lv,k'⟩)=mapV KnM.ptr K:=by
   rw[mapV_put]
   refine putA_same h.kmap.2.1 ?_
   rw[mapV_get,hx]
   rfl
  rw[e]
  refine h.kmap.kept k (fun e=>?_)
  obtain⟨c,hc⟩:=hcell kb e
  exact h.kmap.not_cells hc rfl
 ·refine h.omap.kept k (fun e=>?_)
  obtain⟨c,hc⟩:=hcell ob e
  exact h.omap.not_cells hc rfl
 ·show putA S.known id k'=_
  rw[mapV_put,h.kS]
 ·intro p hp
  rcases putA_mem.1 hp with rfl|⟨hp,hne⟩
  ·refine⟨?_,hk.tag,hr,hk.byt,?_,hk.lst⟩
   ·refine(k.block x.g (heap_lt hk.block) (fun e=>?_)).trans hk.block
    exact mx_not hk.by_ hk.block (by decide) e
   ·show w2.ownsRow 0 _ 1 x.lv k'.lits.length (k'.lits.map _)
    rw[hl]
    refine own_kept hk.ls k (fun g hg e=>?_)
    have:=hown g e _ (hk.lst g hg)
    cases this
  ·refine(h.kn p hp).kept k (fun _ _=>rfl) (fun g t htg hcase _ hg=>?_)
   have:=hown g hg t htg
   rw[this]at hcase
   rcases hcase with e|e|e
   ·cases e
   ·injection e with e
    exact hne e.symm
   ·cases e
 ·intro p hp
  refine(h.row p hp).kept k (fun _ _=>rfl) (fun g htg _ hg=>?_)
  have:=hown g hg _ htg
  cases this
theorem WaMem.addKn (h:WaMem O w b ab tb S kb ob K F tg) {w2:World} {id:Int} {g:Nat} {lv:Value} {c:List Int} (k:Kept (fun g=>g=kb) w w2) (hb:w2.heap[g]? =some (.cells #[.slice none 0 0,lv] 171 (0,0))) (hg:w.heap.size≤g)
  (hr:w2.ownsRow 0 32 1 lv c.length (c.map (Value.int .i64))) (hf: ∀g,lv.ownBlock=some g→w.heap.size≤g) (hm:MapK w2 kb (putA (mapV KnM.ptr K) id (.pointer (some ⟨g,0,none⟩)))):
  ∃tg',WaMem (fun g=>O g∨w.heap.size≤g∧g<w2.heap.size) w2 b ab tb ⟨putA S.known id ⟨[],c⟩,S.of,S.looked⟩ kb ob (putA K id ⟨g,.slice none 0 0,lv,⟨[],c⟩⟩) F tg':=by
 refine⟨fun j=>if j<w.heap.size then tg j else if j=g then some (.kn id)else if lv.ownBlock=some j then some (.ls id)else none,?_⟩
 have ht: ∀j,j<w.heap.size→(if j<w.heap.size then tg j else if j=g then some (WTag.kn id)else if lv.ownBlock=some j then some (.ls id)else none)=tg j:=fun j hj=>if_pos hj
 refine { own:=?_,inb:=.inl h.inb,ink:=.inl h.ink,ino:=.inl h.ino,ne:=h.ne,intg:=?_,block:=?_,kmap:=?_,omap:=?_,kS:=?_,oS:=h.oS,kn:=?_,row:=?_ }
 ·rintro g (hg|hg)
  ·exact Nat.lt_of_lt_of_le (h.own g hg) k.size
  ·exact hg.2
 ·intro j t hjt
  split at hjt
  ·exact .inl (h.intg j t hjt)
  ·rename_i hge
   split at hjt
   ·rename_i e
    exact .inr ⟨by omega,by rw[e];exact heap_lt hb⟩
   ·split at hjt
    ·rename_i hv
     exact .inr ⟨by omega,(own_lt hr j hv).2⟩
    ·cases hjt
 ·exact(k.block b (heap_lt h.block) (fun e=>h.kmap.not_cells h.block e)).trans h.block
 ·rw[mapV_put]
  exact hm
 ·exact h.omap.kept k (fun e=>h.ne e.symm)
 ·show putA S.known id _=_
  rw[mapV_put,h.kS]
 ·intro p hp
  rcases putA_mem.1 hp with rfl|⟨hp,hne⟩
  ·refine⟨hb,?_,World.ownsRow_nil _ _ _ _,fun j hj=>(by cases hj),hr,fun j hj=>?_⟩
   ·show(if g<w.heap.size then tg g else if g=g then some (WTag.kn id)else _)=_
    rw[if_neg (by omega),if_pos rfl]
   ·show(if j<w.heap.size then tg j else if j=g then some (WTag.kn id)else if lv.ownBlock=some j then some (.ls id)else none)=_
    have h1:=hf j hj
    have h2:j≠g:=fun e=>mx_not hr hb (by decide) (e▸hj)
    rw[if_neg (by omega),if_neg h2,if_pos hj]
  ·refine(h.kn p hp).kept k ht (fun j t _ _ hcells e=>?_)
   obtain⟨c,e',f,hc⟩:=hcells
   exact h.kmap.not_cells hc e
 ·intro p hp
  refine(h.row p hp).kept k ht (fun j _ hcells e=>?_)
  obtain⟨c,e',f,hc⟩:=hcells
  exact h.kmap.not_cells hc e
theorem WaMem.setBy (h:WaMem O w b ab tb S kb ob K F tg) {w2:World} {id:Int} {x:KnM} (hx:getA K id=some x) {v':Value} {r':List Int} (k:Kept (fun g=>g=x.g) w w2) (hb:w2.heap[x.g]? =some (.cells #[v',x.lv] 171 (0,0)))
  (hr:w2.ownsRow 0 32 1 v' r'.length (r'.map (Value.int .i64))) (hf: ∀g,v'.ownBlock=some g→w.heap.size≤g):
  ∃tg',WaMem (fun g=>O g∨w.heap.size≤g∧g<w2.heap.size) w2 b ab tb ⟨putA S.known id ⟨r',x.k.lits⟩,S.of,S.looked⟩ kb ob (putA K id ⟨x.g,v',x.lv,⟨r',x.k.lits⟩⟩) F tg':=by
 have hk:=h.kn _ (getA_some hx)
 refine⟨fun j=>if j<w.heap.size then tg j else if v'.ownBlock=some j then some (.by_ id)else none,?_⟩
 have ht: ∀j,j<w.heap.size→(if j<w.heap.size then tg j else if v'.ownBlock=some j then some (WTag.by_ id)else none)=tg j:=fun j hj=>if_pos hj
 refine { own:=?_,inb:=.inl h.inb,ink:=.inl h.ink,ino:=.inl h.ino,ne:=h.ne,intg:=?_,block:=?_,kmap:=?_,omap:=?_,kS:=?_,oS:=h.oS,kn:=?_,row:=?_ }
 ·rintro g (hg|hg)
  ·exact Nat.lt_of_lt_of_le (h.own g hg) k.size
  ·exact hg.2
 ·intro j t hjt
  split at hjt
  ·exact .inl (h.intg j t hjt)
  ·rename_i hge
   split at hjt
   ·rename_i hv
    exact .inr ⟨by omega,(own_lt hr j hv).2⟩
   ·cases hjt
 ·refine(k.block b (heap_lt h.block) (fun e=>?_)).trans h.block
  have h1:=h.block
  rw[e,hk.block]at h1
  simp at h1
 ·have e:mapV KnM.ptr (putA K id ⟨x.g,v',x.lv,⟨r',x.k.lits⟩⟩)=mapV KnM.ptr K:=by
   rw[mapV_put]
   refine putA_same h.kmap.2.1 ?_
   rw[mapV_get,hx]
   rfl
  rw[e]
  exact h.kmap.kept k (fun e=>h.kmap.not_cells hk.block e.symm)
 ·exact h.omap.kept k (fun e=>h.omap.not_cells hk.block e.symm)
 ·show putA S.known id _=_
  rw[mapV_put,h.kS]
 ·intro p hp
  rcases putA_mem.1 hp with rfl|⟨hp,hne⟩
  ·refine⟨hb,(ht _ (heap_lt hk.block)).trans hk.tag,hr,fun j hj=>?_,?_,fun j hj=>(ht _ (own_lt hk.ls j hj).2).trans (hk.lst j hj)⟩
   ·show(if j<w.heap.size then tg j else if v'.ownBlock=some j then some (WTag.by_ id)else none)=_
    have h1:=hf j hj
    rw[if_neg (by omega),if_pos hj]
   ·exact own_kept hk.ls k (fun g hg e=>mx_not hk.ls hk.block (by decide) (e▸hg))
  ·refine(h.kn p hp).kept k ht (fun j t htj hcase _ e=>?_)
   rw[e,hk.tag]at htj
   obtain rfl:=Option.some.inj htj
   rcases hcase with e|e|e
   ·injection e with e
    exact hne e.symm
   ·cases e
   ·cases e
 ·intro p hp
  refine(h.row p hp).kept k ht (fun j htj _ e=>?_)
  rw[e,hk.tag]at htj
  cases htj
theorem WaMem.delKn (h:WaMem O w b ab tb S kb ob K F tg) {w2:World} {id:Int} (k:Kept (fun g=>g=kb) w w2) (hm:MapK w2 kb (delA (mapV KnM.ptr K) id)):
  WaMem O w2 b ab tb ⟨delA S.known id,S.of,S.looked⟩ kb ob (delA K id) F tg:=by
 refine { own:=fun g hg=>Nat.lt_of_lt_of_le (h.own g hg) k.size,inb:=h.inb,ink:=h.ink,ino:=h.ino,ne:=h.ne,intg:=h.intg,block:=(k.block b (heap_lt h.block) (fun e=>h.kmap.not_cells h.block e)).trans h.block,kmap:=?_,omap:=h.omap.kept k (fun e=>h.ne e.symm),kS:=?_,oS:=h.oS,kn:=?_,row:=?_ }
 ·rw[mapV_del]
  exact hm
 ·show delA S.known id=_
  rw[mapV_del,h.kS]
 ·intro p hp
  refine(h.kn p (delA_mem.1 hp).1).kept k (fun _ _=>rfl) (fun j t _ _ hcells e=>?_)
  obtain⟨c,e',f,hc⟩:=hcells
  exact h.kmap.not_cells hc e
 ·intro p hp
  refine(h.row p hp).kept k (fun _ _=>rfl) (fun j _ hcells e=>?_)
  obtain⟨c,e',f,hc⟩:=hcells
  exact h.kmap.not_cells hc e
theorem WaMem.setLooked (h:WaMem O w b ab tb S kb ob K F tg) (n:Nat):WaMem O (w.setCell ⟨b,4,none⟩ (.int .i64 (n:Nat))) b ab tb ⟨S.known,S.of,n⟩ kb ob K F tg:=by
 have k:Kept (fun g=>g=b) w (w.setCell ⟨b,4,none⟩ (.int .i64 (n:Nat))):=Kept.setCell (Kept.refl (fun g=>g=b) w) _ _ rfl
 refine { own:=fun g hg=>Nat.lt_of_lt_of_le (h.own g hg) k.size,inb:=h.inb,ink:=h.ink,ino:=h.ino,ne:=h.ne,intg:=h.intg,block:=mx_set h.block _,kmap:=h.kmap.kept k (fun e=>h.kmap.not_cells h.block e.symm),omap:=h.omap.kept k (fun e=>h.omap.not_cells h.block e.symm),kS:=h.kS,oS:=h.oS,kn:=?_,row:=?_ }
 ·intro p hp
  have hk:=h.kn p hp
  refine⟨(k.block _ (heap_lt hk.block) (fun e=>?_)).trans hk.block,hk.tag,own_kept hk.by_ k (fun g hg e=>mx_not hk.by_ h.block (by decide) (e▸hg)),hk.byt,own_kept hk.ls k (fun g hg e=>mx_not hk.ls h.block (by decide) (e▸hg)),hk.lst⟩
  have h1:=h.block
  rw[←e,hk.block]at h1
  simp at h1
 ·intro p hp
  refine⟨own_kept (h.row p hp).row k (fun g hg e=>mx_not (h.row p hp).row h.block (by decide) (e▸hg)),(h.row p hp).tag⟩
end
end Go.Proofs.YtoojmhjagipmdaaGreat
namespace Go.Proofs.YtoojmhjagipmdaaGreat
open Go.RowKit Go.Maps Go.Shelf
theorem wp_putS_at {P:Program} {kt t et:TypeId} {w:World} {b:Nat} {m:List (Int×Value)} {o:Oper} {a:Act} {K:Act→World→Prop} {Q:Exit→Act→World→Prop} (h:MapS P kt w b m) (KK:Keyed P kt) (hk:P.underlying kt=some (.int .i64)) (ht:P.underlying t=some (.map kt et))
  (mm x v:Operand) (hop:o.op=Op.mapUpdate t mm x v) (hm:a.eval mm= .map (some b)) (hn:m.length<maxLen) (i:Int) (y:Value) (hx:a.eval x= .int .i64 i) (hv:a.eval v=y) (hi:(Lit.int .i64 i).wf=true)
  (hK: ∀w',MapS P kt w' b (putA m i y)→w.grownBy w' (some b)→K (a.put o.dst undef) w'):Oper.wp P o a w K Q:=by
 obtain⟨w',hr,h2,h3⟩:=h.update KK hk ht hn hi y
 unfold Oper.wp execOp
 simp only[hop,hm,hx,hv,Sem.run_bind,Sem.run_pure,Result.andThen_ok,hr]
 exact hK w' h2 h3
theorem look_rows {w:World} {ob:Nat} {F:List (Int×OfM)} (h:MapO w ob (mapV OfM.v F)) {l:Int} (hl:(Lit.int .i64 l).wf=true):(Instr.lookup 155 (.map (some ob)) (.int .i64 l) false).run Tryz.prog w= .ok (rowV F l) w:=by
 have:=h.look lit_law Tryz.underlying32 Tryz.underlying155 (lit_zero_slice w) false hl
 rw[mapV_get]at this
 exact this
theorem kept_or {O O':Nat→Prop} {a b c:World} (h:Kept O a b) (k:Kept O' b c):Kept (fun g=>O g∨O' g) a c:=(h.mono (fun _ _ h=>Or.inl h)).trans k (fun _ _ h=>.inr h)
def WF (O:Nat→Prop) (ob:Nat) (w:World) (g:Nat):Prop:=O g∧(g=ob∨∃c,w.heap[g]? =some (.cells c 3 (0,0)))
def WaMNext (O:Nat→Prop) (w w':World) (b ab tb:Nat) (S':Wst) (kb ob:Nat) (K:List (Int×KnM)):Prop:=(∃F' tg',WaMem (fun g=>O g∨w.heap.size≤g∧g<w'.heap.size) w' b ab tb S' kb ob K F' tg')∧Kept (WF O ob w) w w'
def WaNext (O:Nat→Prop) (w w':World) (b ab tb:Nat) (S':Wst):Prop:=WaAt (fun g=>O g∨w.heap.size≤g∧g<w'.heap.size) w' b ab tb S'∧Kept O w w'
theorem wf_lit {l:Int} (h:litB l=true):(Lit.int .i64 l).wf=true:=by
 have:=(litB_iff l).1 h
 exact wf64 (by omega) (by omega)
set_option maxRecDepth 100000 in
set_option maxHeartbeats 2000000 in
theorem wa_put_m {O:Nat→Prop} (b ab tb:Nat) (S:Wst) (kb ob:Nat) (K:List (Int×KnM)) (F:List (Int×OfM)) (tg:Nat→Option WTag) (l id:Int) (w:World) (hb:S.Bnd) (hm:WaMem O w b ab tb S kb ob K F tg) (hl:litB l=true) (hid:1≤id∧id≤1073741824):
  Calls Tryz.prog 109 #[.pointer (some ⟨b,0,none⟩),.int .i64 l,.int .i64 id] w fun e w'=>e= .returned (.tuple #[])∧WaMNext O w w' b ab tb (S.put l id) kb ob K:=by
 obtain⟨hrow,htag⟩:=hm.rowAt l
 have hwf:=wf_lit hl
 have c3:w.cell? ⟨b,3,none⟩=some (.map (some ob)):=mx_cell (j:=3) hm.block
 have hse:=row_search (rowV F l) (S.row l) id w hrow (hb.row l).1 (hb.rowLen l)
 have hins:=fun(vb:Nat) (W:World) (h1:W.ownsRow 0 3 1 (rowV F l) (S.row l).length ((S.row l).map (Value.int .i64))) (h2:W.heap[vb]? =some (.cells #[.int .i64 id] 3 (0,0))) (h3:(rowV F l).ownBlock≠some vb)=>row_insert (vb:=vb) (rowV F l) (S.row l) id W h1 (Nat.zero_le _) h2 h3 (hb.rowLen l)
 have hil:=insI_length (S.row l) id
 obtain⟨i,hi⟩: ∃i,(S.row l).countP (· <id)=i:=⟨_,rfl⟩
 obtain⟨q,hq⟩: ∃q,(S.row l).contains id=q:=⟨_,rfl⟩
 rw[hi,hq]at hse
 rw[hi]at hins
 have HM:=Lib.hid hm
 have HB:=Lib.hid hb
 have hlt:=heap_lt hm.block
 obtain⟨v,hv⟩: ∃v,rowV F l=v:=⟨_,rfl⟩
 have HV:=Lib.hid hv
 rw[hv]at hse hins
 have HSE:=Lib.hid hse
 have HIN:=Lib.hid hins
 have HLK:=Lib.hid (hv▸hm.lookO hwf)
 have HROW:=Lib.hid (hv▸hrow)
 have HIL:=Lib.hid hil
 have HWI:=Lib.hid (wf64 (x:=id) (by omega) (by omega))
 have hlk:=HLK.out
 clear hb hm hrow htag hl hid hv hi hq hse hins hil
 go_enter Tryz.func109,Tryz.ntmps109
 go_wp2_with fail
 refine HSE.out.mono ?_
 rintro e w1 ⟨rfl,n,rfl⟩
 obtain⟨W,hW⟩: ∃W,w.drewN n=W:=⟨_,rfl⟩
 have hbW:Below w.heap.size w W:=by rw[←hW];exact mx_drewN _ _
 have HZW:=Lib.hid (show W.heap.size=w.heap.size by rw[←hW];rfl)
 rw[hW]
 clear hW
 have HRW:=Lib.hid (own_below HROW.out hbW)
 have HBW:=Lib.hid hbW
 have HMW:=Lib.hid (HM.out.kept (O':=fun _=>False) (Kept.of_below hbW) (fun _ _ h=>h))
 clear hlk c3
 go_upto_region 1 with fail
 have HVO:=Lib.hid (show v.ownBlock≠some b from fun e=>mx_not HRW.out HMW.out.block (by decide) e)
 have HVM:=Lib.hid (show v.ownBlock≠some ob from fun e=>by
  obtain⟨c,hc⟩:=own_type HRW.out ob e
  exact HMW.out.omap.not_cells hc rfl)
 have HC3:=Lib.hid (show∀wq,Kept (fun g=>v.ownBlock=some g) W wq→wq.cell? ⟨b,3,none⟩=some (.map (some ob))from fun wq hq=>mx_cell (j:=3) ((hq.block b (heap_lt HMW.out.block) HVO.out).trans HMW.out.block))
 have HLW:=Lib.hid (show∀wq,Kept (fun g=>v.ownBlock=some g) W wq→(Instr.lookup 155 (.map (some ob)) (.int .i64 l) false).run Tryz.prog wq= .ok v wq from fun wq hq=>by
  have:=look_rows (HMW.out.omap.kept hq HVM.out) hwf
  rwa [HV.out]at this)
 refine wp_region_sink_at (fun w'=>Kept (fun g=>v.ownBlock=some g) W w') (by kernel_rfl) (by rfl) (by kernel_rfl) (Kept.of_below (mx_drew W)) (fun hS=>?_)
 refine takeE 0 19 ?_
 refine takeE 1 20 ?_
 refine takeE 2 21 ?_
 refine takeF 3 22 (fun wq hSw=>HC3.out wq hSw) ?_
 refine takeE 4 23 ?_
 refine takeE 5 24 ?_
 refine takeE 6 25 ?_
 refine takeE 7 26 ?_
 refine takeF 8 27 (fun wq hSw=>HC3.out wq hSw) ?_
 refine takeE 9 28 ?_
 refine takeF 10 29 (fun wq hSw=>HLW.out wq hSw) ?_
 refine takeE 11 30 ?_
 refine takeE 12 31 ?_
 refine ready1 13 (fun KK hKK=>?_)
 go_simp
 obtain⟨W2,hW2⟩: ∃X,(W.alloc (.cells #[.int .i64 id] 3)).drew=X:=⟨_,rfl⟩
 have hb2:Below W.heap.size W W2:=by rw[←hW2];exact(mx_al _ _).drew
 have hn2:W2.heap[W.heap.size]? =some (.cells #[.int .i64 id] 3 (0,0)):=by rw[←hW2];exact World.alloc_heap_new _ _
 rw[hW2]
 have HB2':=Lib.hid hb2
 have HN2:=Lib.hid hn2
 have HR2:=Lib.hid (own_below HRW.out hb2)
 have HNE:=Lib.hid (show v.ownBlock≠some W.heap.size from fun e=>by have:=(own_lt HRW.out _ e).2;omega)
 clear hW2 hn2
 refine hKK.out _ _ (Kept.of_below hb2) (fun _=>?_)
 clear hKK hS
 refine ready1 14 (fun KK hKK=>?_)
 go_simp
 refine(HIN.out W.heap.size W2 HR2.out HN2.out HNE.out).mono ?_
 rintro e w3 ⟨v',rfl,hr3,hk3,hv3⟩
 have hk3':=(Kept.of_below (O:=fun g=>v.ownBlock=some g) hb2).trans hk3 (fun _ _ h=>h)
 refine hKK.out _ _ hk3' (fun _=>?_)
 clear hKK hb2
 refine wpAnyH_done (by kernel_rfl) ?_ _
 refine lastPost_normal ?_
 refine wpOp_step rfl (fun KK hKK=>?_)
 rw[if_pos (by rfl)]
 refine wp_putS_at (HMW.out.omap.kept hk3' HVM.out) lit_law Tryz.underlying32 Tryz.underlying155 _ _ _ rfl rfl (by have:=HB.out.ofLen;have h2:=mapV_length OfM.v F;have h3:=congrArg List.length HMW.out.oS;rw[mapV_length]at h3;unfold maxLen;omega) l v' rfl rfl hwf ?_
 intro w4 hm4 hg4
 refine hKK _ _ ?_
 clear hKK
 have hk4:Kept (fun g=>(rowV F l).ownBlock=some g∨g=ob) W w4:=by
  rw[HV.out]
  exact(kept_or hk3' (Kept.grown hg4)).mono (fun g _ h=>h.imp_right (fun e=>Option.some.inj e))
 have hr4:=own_kept hr3 (Kept.grown hg4) (fun g hg e=>by
  obtain⟨c,hc⟩:=own_type hr3 g hg
  exact(HMW.out.omap.kept hk3' HVM.out).not_cells hc (Option.some.inj e))
 obtain⟨tg',hm'⟩:=HMW.out.setRow (l:=l) (r':=insI (S.row l) id) hk4 (by rw[HIL.out];exact hr4) (by
  rw[HV.out]
  refine hv3.imp_right (fun e=>⟨_,e,?_⟩)
  exact HB2'.out.size) hm4
 have hzw:=HZW.out
 have HKW:=Lib.hid (show Kept (WF O ob w) w w4 from(Kept.of_below HBW.out).trans hk4 (fun g _ h=>by
  rcases h with h|h
  ·obtain⟨hr,ht⟩:=HM.out.rowAt l
   exact⟨HM.out.intg _ _ (ht g h),.inr (own_type hr g h)⟩
  ·exact⟨h▸HM.out.ino,.inl h⟩))
 rw[hzw]at hm'
 have HFIN:=Lib.hid (show∃F' tg',WaMem (fun g=>O g∨w.heap.size≤g∧g<w4.heap.size) w4 b ab tb (S.put l id) kb ob K F' tg' from⟨_,_,hm'⟩)
 clear hm' hk4 hr4 hm4 hg4 hr3 hk3 hv3 hk3' hzw
 go_wp2_with fail
 go_end0
 exact⟨rfl,HFIN.out,HKW.out⟩
theorem WaMem.grow {O:Nat→Prop} {w w':World} {b ab tb kb ob:Nat} {S:Wst} {K:List (Int×KnM)} {F:List (Int×OfM)} {tg:Nat→Option WTag} (hm:WaMem O w b ab tb S kb ob K F tg) (hb:Below w.heap.size w w'):WaMem (fun g=>O g∨w.heap.size≤g∧g<w'.heap.size) w' b ab tb S kb ob K F tg:=by
 have h2:=hm.kept (O':=fun _=>False) (Kept.of_below hb) (fun _ _ h=>h)
 exact { h2 with own:=fun g hg=>hg.elim (fun h=>Nat.lt_of_lt_of_le (hm.own g h) hb.size) (fun h=>h.2),inb:=.inl h2.inb,ink:=.inl h2.ink,ino:=.inl h2.ino,intg:=fun g t ht=>.inl (h2.intg g t ht) }
theorem WaMNext.refl {O:Nat→Prop} {w w':World} {b ab tb kb ob:Nat} {S:Wst} {K:List (Int×KnM)} {F:List (Int×OfM)} {tg:Nat→Option WTag} (hm:WaMem O w b ab tb S kb ob K F tg) (hb:Below w.heap.size w w'):WaMNext O w w' b ab tb S kb ob K:=
 ⟨⟨F,tg,hm.grow hb⟩,Kept.of_below hb⟩
theorem WaNext.refl {O:Nat→Prop} {w w':World} {b ab tb:Nat} {S:Wst} (h:WaAt O w b ab tb S) (hb:Below w.heap.size w w'):WaNext O w w' b ab tb S:=by
 obtain⟨hbn,kb,ob,K,F,tg,hm⟩:=h
 exact⟨⟨hbn,kb,ob,K,F,tg,hm.grow hb⟩,Kept.of_below hb⟩
theorem WaMNext.trans {O:Nat→Prop} {w w1 w2:World} {b ab tb kb ob:Nat} {S:Wst} {K:List (Int×KnM)} (hk:Kept (WF O ob w) w w1) (h:WaMNext (fun g=>O g∨w.heap.size≤g∧g<w1.heap.size) w1 w2 b ab tb S kb ob K):WaMNext O w w2 b ab tb S kb ob K:=by
 obtain⟨⟨F,tg,hm⟩,k⟩:=h
 refine⟨⟨F,tg,hm.congr (fun g=>?_)⟩,hk.trans k (fun i hi h=>?_)⟩
 ·have h1:=hk.size
  have h2:=k.size
  constructor
  ·rintro ((h|h)|h)
   ·exact .inl h
   ·exact .inr ⟨h.1,by omega⟩
   ·exact .inr ⟨by omega,h.2⟩
  ·rintro (h|h)
   ·exact .inl (.inl h)
   ·by_cases hg:g<w1.heap.size
    ·exact .inl (.inr ⟨h.1,hg⟩)
    ·exact .inr ⟨by omega,h.2⟩
 ·obtain⟨ho,hc⟩:=h
  have ho':O i:=ho.elim (fun h=>h) (fun h=>by omega)
  refine⟨ho',?_⟩
  rcases hc with hc|hc
  ·exact .inl hc
  ·by_cases hw:WF O ob w i
   ·exact hw.2
   ·rw[hk.block i hi hw]at hc
    exact .inr hc
theorem WaMNext.at_ {O:Nat→Prop} {w w':World} {b ab tb kb ob:Nat} {S':Wst} {K:List (Int×KnM)} (h:WaMNext O w w' b ab tb S' kb ob K) (hb:S'.Bnd):WaNext O w w' b ab tb S':=by
 obtain⟨⟨F,tg,hm⟩,k⟩:=h
 exact⟨⟨hb,kb,ob,K,F,tg,hm⟩,k.mono (fun _ _ h=>h.1)⟩
set_option maxRecDepth 100000 in
set_option maxHeartbeats 2000000 in
theorem wa_drop_m {O:Nat→Prop} (b ab tb:Nat) (S:Wst) (kb ob:Nat) (K:List (Int×KnM)) (F:List (Int×OfM)) (tg:Nat→Option WTag) (l id:Int) (w:World) (hb:S.Bnd) (hm:WaMem O w b ab tb S kb ob K F tg) (hwf:(Lit.int .i64 l).wf=true):
  Calls Tryz.prog 137 #[.pointer (some ⟨b,0,none⟩),.int .i64 l,.int .i64 id] w fun e w'=>e= .returned (.tuple #[])∧WaMNext O w w' b ab tb (S.drop l id) kb ob K:=by
 obtain⟨hrow,htag⟩:=hm.rowAt l
 have c3:w.cell? ⟨b,3,none⟩=some (.map (some ob)):=mx_cell (j:=3) hm.block
 have hse:=row_search (rowV F l) (S.row l) id w hrow (hb.row l).1 (hb.rowLen l)
 have hrl:=hb.rowLen l
 have hil:=countP_le_len (S.row l) id
 have hat:=fun hx=>up_at (hb.row l).1 (x:=id) hx
 have hrem: ∀j,(S.row l).countP (· <id)=j→(S.row l).contains id=true→remI (S.row l) id=(S.row l).eraseIdx j:=fun j hj hc=>by
  unfold remI
  rw[if_pos hc,hj]
 have HDN:(S.row l).contains id=false→S.drop l id=S:=fun hc=>by
  unfold Wst.drop
  rw[if_neg (by rw[hc];decide)]
 have HDY:(S.row l).contains id=true→S.drop l id=⟨S.known,putA S.of l (remI (S.row l) id),S.looked⟩:=fun hc=>by
  unfold Wst.drop
  rw[if_pos hc]
 have hmem:(S.row l).contains id=true→id∈S.row l:=fun hc=>by simpa using hc
 obtain⟨i,hi⟩: ∃i,(S.row l).countP (· <id)=i:=⟨_,rfl⟩
 obtain⟨q,hq⟩: ∃q,(S.row l).contains id=q:=⟨_,rfl⟩
 rw[hi]at hse hil hat
 have hrem:=hrem i hi
 rw[hq]at hse HDN HDY hrem hmem
 have HM:=Lib.hid hm
 have HB:=Lib.hid hb
 have hlt:=heap_lt hm.block
 obtain⟨v,hv⟩: ∃v,rowV F l=v:=⟨_,rfl⟩
 have HV:=Lib.hid hv
 rw[hv]at hse
 have HSE:=Lib.hid hse
 have hlk:=hv▸hm.lookO hwf
 have HROW:=Lib.hid (hv▸hrow)
 have hwi:IntKind.i64.wrap ((i:Int)+1)=(i:Int)+1:=IntWalk.i64_in _ (by omega)
 cases q with
 | false=>
  have HDD:=Lib.hid (HDN rfl)
  clear hb hm hrow htag hv hi hq hse hil HDN HDY hrem hat hmem hrl
  go_enter Tryz.func137,Tryz.ntmps137
  go_wp2_with fail
  refine HSE.out.mono ?_
  rintro e w1 ⟨rfl,n,rfl⟩
  clear hlk c3
  go_wp2_with fail
  go_end0
  refine⟨rfl,?_⟩
  rw[HDD.out]
  exact WaMNext.refl HM.out (mx_drewN _ _)
 | true=>
  have HDD:=Lib.hid (HDY rfl)
  have hilt:=(List.getElem?_eq_some_iff.1 (hat (hmem rfl))).1
  have HRE:=Lib.hid (hrem rfl)
  have HEL:=Lib.hid (show((S.row l).eraseIdx i).length=(S.row l).length-1 by rw[List.length_eraseIdx,if_pos hilt])
  have HIN:=Lib.hid (fun(W:World) (h1:W.ownsRow 0 3 1 v (S.row l).length ((S.row l).map (Value.int .i64)))=>row_delete v (S.row l) i W h1 hilt)
  clear hb hm hrow htag hv hi hq hse hil HDN HDY hrem hat hmem hilt hrl
  go_enter Tryz.func137,Tryz.ntmps137
  go_wp2_with fail
  refine HSE.out.mono ?_
  rintro e w1 ⟨rfl,n,rfl⟩
  obtain⟨W,hW⟩: ∃W,w.drewN n=W:=⟨_,rfl⟩
  have hbW:Below w.heap.size w W:=by rw[←hW];exact mx_drewN _ _
  have HZW:=Lib.hid (show W.heap.size=w.heap.size by rw[←hW];rfl)
  rw[hW]
  clear hW
  have HRW:=Lib.hid (own_below HROW.out hbW)
  have HBW:=Lib.hid hbW
  have HMW:=Lib.hid (HM.out.kept (O':=fun _=>False) (Kept.of_below hbW) (fun _ _ h=>h))
  clear hlk c3
  go_upto_region 2 with fail
  have HVO:=Lib.hid (show v.ownBlock≠some b from fun e=>mx_not HRW.out HMW.out.block (by decide) e)
  have HVM:=Lib.hid (show v.ownBlock≠some ob from fun e=>by
   obtain⟨c,hc⟩:=own_type HRW.out ob e
   exact HMW.out.omap.not_cells hc rfl)
  have HC3:=Lib.hid (show∀wq,Kept (fun g=>v.ownBlock=some g) W wq→wq.cell? ⟨b,3,none⟩=some (.map (some ob))from fun wq hq=>mx_cell (j:=3) ((hq.block b (heap_lt HMW.out.block) HVO.out).trans HMW.out.block))
  have HLW:=Lib.hid (show∀wq,Kept (fun g=>v.ownBlock=some g) W wq→(Instr.lookup 155 (.map (some ob)) (.int .i64 l) false).run Tryz.prog wq= .ok v wq from fun wq hq=>by
   have:=look_rows (HMW.out.omap.kept hq HVM.out) hwf
   rwa [HV.out]at this)
  refine wp_region_sink_at (fun w'=>Kept (fun g=>v.ownBlock=some g) W w') (by kernel_rfl) (by rfl) (by kernel_rfl) (Kept.of_below (mx_drew W)) (fun hS=>?_)
  refine takeE 0 20 ?_
  refine takeE 1 21 ?_
  refine takeE 2 22 ?_
  refine takeF 3 23 (fun wq hSw=>HC3.out wq hSw) ?_
  refine takeE 4 24 ?_
  refine takeE 5 25 ?_
  refine takeE 6 26 ?_
  refine takeE 7 27 ?_
  refine takeF 8 28 (fun wq hSw=>HC3.out wq hSw) ?_
  refine takeE 9 29 ?_
  refine takeF 10 30 (fun wq hSw=>HLW.out wq hSw) ?_
  refine takeE 11 31 ?_
  refine takeE 12 32 ?_
  refine takeE 13 33 ?_
  refine ready1 14 (fun KK hKK=>?_)
  go_simp
  refine(HIN.out _ (own_below HRW.out (mx_drew W))).mono ?_
  rintro e w3 ⟨v',rfl,hr3,hk3,hv3⟩
  have hk3':=hS.trans hk3 (fun _ _ h=>h)
  refine hKK.out _ _ hk3' (fun _=>?_)
  clear hKK hS
  refine wpAnyH_done (by kernel_rfl) ?_ _
  refine lastPost_normal ?_
  refine wpOp_step rfl (fun KK hKK=>?_)
  rw[if_pos (by rfl)]
  refine wp_putS_at (HMW.out.omap.kept hk3' HVM.out) lit_law Tryz.underlying32 Tryz.underlying155 _ _ _ rfl rfl (by have:=HB.out.ofLen;have h2:=mapV_length OfM.v F;have h3:=congrArg List.length HMW.out.oS;rw[mapV_length]at h3;unfold maxLen;omega) l v' rfl rfl hwf ?_
  intro w4 hm4 hg4
  refine hKK _ _ ?_
  clear hKK
  have hk4:Kept (fun g=>(rowV F l).ownBlock=some g∨g=ob) W w4:=by
   rw[HV.out]
   exact(kept_or hk3' (Kept.grown hg4)).mono (fun g _ h=>h.imp_right (fun e=>Option.some.inj e))
  have hr4:=own_kept hr3 (Kept.grown hg4) (fun g hg e=>by
   obtain⟨c,hc⟩:=own_type hr3 g hg
   exact(HMW.out.omap.kept hk3' HVM.out).not_cells hc (Option.some.inj e))
  obtain⟨tg',hm'⟩:=HMW.out.setRow (l:=l) (r':=(S.row l).eraseIdx i) hk4 (by rw[HEL.out];exact hr4) (by
   rw[HV.out]
   exact .inl hv3) hm4
  have hzw:=HZW.out
  have HKW:=Lib.hid (show Kept (WF O ob w) w w4 from(Kept.of_below HBW.out).trans hk4 (fun g _ h=>by
   rcases h with h|h
   ·obtain⟨hr,ht⟩:=HM.out.rowAt l
    exact⟨HM.out.intg _ _ (ht g h),.inr (own_type hr g h)⟩
   ·exact⟨h▸HM.out.ino,.inl h⟩))
  rw[hzw,←HRE.out]at hm'
  have HFIN:=Lib.hid (show∃F' tg',WaMem (fun g=>O g∨w.heap.size≤g∧g<w4.heap.size) w4 b ab tb (S.drop l id) kb ob K F' tg' from by
   rw[HDD.out]
   exact⟨_,_,hm'⟩)
  clear hm' hk4 hr4 hm4 hg4 hr3 hk3 hv3 hk3' hzw
  go_wp2_with fail
  go_end0
  exact⟨rfl,HFIN.out,HKW.out⟩
end Go.Proofs.YtoojmhjagipmdaaGreat
