/- The watch, plainly: bounds and links, and what keeps them. Plain: variables of literals. Plain: a trail, and a list of what was assigned. Plain: what a trail says of literals, by the list of what was assigned. -/
import Derived.Test.YtoojmhjagipmdaaGreatV310
import Derived.Test.YtoojmhjagipmdaaGreatV301
import Derived.Test.YtoojmhjagipmdaaGreatV304
import Derived.Test.YtoojmhjagipmdaaGreatV302
namespace Go.Proofs.YtoojmhjagipmdaaGreat
open Go.RowKit
theorem countP_le_len (r:List Int) (x:Int):r.countP (· <x)≤r.length:=List.countP_le_length
theorem up_split {r:List Int} (h:r.Pairwise (· < ·)) (x:Int):(∀y∈r.take (r.countP (· <x)),y<x)∧(∀y∈r.drop (r.countP (· <x)),x≤y):=by
 induction r with
 | nil=>simp
 | cons z r ih=>
  obtain⟨h1,h2⟩:=List.pairwise_cons.1 h
  obtain⟨i1,i2⟩:=ih h2
  by_cases hz:z<x
  ·rw[List.countP_cons_of_pos (by simpa using hz)]
   constructor
   ·intro y hy
    rw[List.take_succ_cons]at hy
    rcases List.mem_cons.1 hy with rfl|hy
    ·exact hz
    ·exact i1 y hy
   ·intro y hy
    rw[List.drop_succ_cons]at hy
    exact i2 y hy
  ·have h0:(z::r).countP (· <x)=0:=by
    rw[List.countP_eq_zero]
    intro y hy
    rcases List.mem_cons.1 hy with rfl|hy
    ·simpa using hz
    ·have:=h1 y hy
     simp
     omega
   rw[h0]
   constructor
   ·simp
   ·intro y hy
    rcases List.mem_cons.1 hy with rfl|hy
    ·omega
    ·have:=h1 y hy
     omega
theorem insI_mem {r:List Int} {x y:Int}:y∈insI r x↔y=x∨y∈r:=by
 unfold insI
 rw[List.mem_append,List.mem_cons]
 have:y∈r↔y∈r.take (r.countP (· <x))∨y∈r.drop (r.countP (· <x)):=by
  rw[←List.mem_append,List.take_append_drop]
 rw[this]
 constructor
 ·rintro (h|h|h)
  ·exact .inr (.inl h)
  ·exact .inl h
  ·exact .inr (.inr h)
 ·rintro (h|h|h)
  ·exact .inr (.inl h)
  ·exact .inl h
  ·exact .inr (.inr h)
theorem insI_up {r:List Int} (h:r.Pairwise (· < ·)) {x:Int} (hx:x∉r):(insI r x).Pairwise (· < ·):=by
 obtain⟨h1,h2⟩:=up_split h x
 unfold insI
 rw[List.pairwise_append]
 refine⟨h.sublist (List.take_sublist _ _),?_,?_⟩
 ·rw[List.pairwise_cons]
  refine⟨fun y hy=>?_,h.sublist (List.drop_sublist _ _)⟩
  have:=h2 y hy
  have:y≠x:=fun e=>hx (e▸List.mem_of_mem_drop hy)
  omega
 ·intro a ha b hb
  have:=h1 a ha
  rcases List.mem_cons.1 hb with rfl|hb
  ·exact this
  ·have:=h2 b hb
   omega
theorem insI_length (r:List Int) (x:Int):(insI r x).length=r.length+1:=by
 unfold insI
 have:=countP_le_len r x
 simp
 omega
theorem up_at {r:List Int} (h:r.Pairwise (· < ·)) {x:Int} (hx:x∈r):r[r.countP (· <x)]? =some x:=by
 obtain⟨h1,h2⟩:=up_split h x
 have hm:x∈r.drop (r.countP (· <x)):=by
  have:x∈r.take (r.countP (· <x))∨x∈r.drop (r.countP (· <x)):=by
   rw[←List.mem_append,List.take_append_drop]
   exact hx
  rcases this with h|h
  ·have:=h1 x h
   omega
  ·exact h
 have hs:=h.sublist (List.drop_sublist (r.countP (· <x)) r)
 cases hd:r.drop (r.countP (· <x))with
 | nil=>rw[hd]at hm;cases hm
 | cons z t=>
  rw[hd]at hm hs h2
  have hz:z=x:=by
   rcases List.mem_cons.1 hm with e|e
   ·exact e.symm
   ·have:=(List.pairwise_cons.1 hs).1 x e
    have:=h2 z List.mem_cons_self
    omega
  have:(r.drop (r.countP (· <x)))[0]? =some z:=by rw[hd];rfl
  rw[List.getElem?_drop,Nat.add_zero]at this
  rw[this,hz]
theorem remI_eq {r:List Int} (h:r.Pairwise (· < ·)) (x:Int):remI r x=r.filter fun y=>decide (y≠x):=by
 unfold remI
 split
 ·rename_i hc
  have hx:x∈r:=by simpa using hc
  have hat:=up_at h hx
  generalize hn:r.countP (· <x)=n at hat
  clear hn hc
  induction r generalizing n with
  | nil=>cases hx
  | cons z r ih=>
   obtain⟨h1,h2⟩:=List.pairwise_cons.1 h
   cases n with
   | zero=>
    obtain rfl:z=x:=by simpa using hat
    rw[List.eraseIdx_cons_zero,List.filter_cons_of_neg (by simp),List.filter_eq_self.2]
    intro a ha
    have:=h1 a ha
    simp
    omega
   | succ n=>
    rw[List.getElem?_cons_succ]at hat
    have hm:=List.mem_of_getElem? hat
    have:=h1 x hm
    rw[List.eraseIdx_cons_succ,List.filter_cons_of_pos (by simp;omega),ih h2 hm n hat]
 ·rename_i hc
  have hx:x∉r:=by simpa using hc
  rw[List.filter_eq_self.2]
  intro a ha
  simp
  rintro rfl
  exact hx ha
structure Wst.Bnd (S:Wst):Prop where
 kr:Rising S.known
 kb: ∀p∈S.known,1≤p.1∧p.1≤1073741824
 kl: ∀p∈S.known,(p.2.by_= []∨∃a b,a≠b∧p.2.by_= [a,b]∧a∈p.2.lits∧b∈p.2.lits)∧p.2.lits.length≤4096∧∀l∈p.2.lits,litB l=true
 orr:Rising S.of
 ob: ∀p∈S.of,litB p.1=true∧p.2.Pairwise (· < ·)∧∀x∈p.2,1≤x∧x≤1073741824
def Wst.Link (S:Wst):Prop:= ∀l id,id∈S.row l↔∃k,S.kn id=some k∧l∈k.by_
theorem Wst.Bnd.row {S:Wst} (h:S.Bnd) (l:Int):(S.row l).Pairwise (· < ·)∧∀x∈S.row l,1≤x∧x≤1073741824:=by
 unfold Wst.row
 cases hg:getA S.of l with
 | none=>exact⟨List.Pairwise.nil,fun x hx=>by cases hx⟩
 | some r=>exact(h.ob _ (getA_some hg)).2
theorem Wst.Bnd.kn {S:Wst} (h:S.Bnd) {id:Int} {k:Kn} (hk:S.kn id=some k):(1≤id∧id≤1073741824)∧(k.by_= []∨∃a b,a≠b∧k.by_= [a,b]∧a∈k.lits∧b∈k.lits)∧k.lits.length≤4096∧∀l∈k.lits,litB l=true:=
 ⟨h.kb _ (getA_some hk),h.kl _ (getA_some hk)⟩
theorem up_len {r:List Int} (h:r.Pairwise (· < ·)) {lo hi:Int} (hb: ∀x∈r,lo≤x∧x≤hi) (hl:lo≤hi+1):(r.length:Int)≤hi-lo+1:=by
 have:=(Rising.length_le (m:=r.map fun x=>(x,())) (by unfold Rising;rw[List.pairwise_map];exact h) (lo:=lo) (hi:=hi) (fun p hp=>by
  obtain⟨x,hx,rfl⟩:=List.mem_map.1 hp
  exact hb x hx) hl)
 rwa [List.length_map]at this
theorem Wst.Bnd.rowLen {S:Wst} (h:S.Bnd) (l:Int):(S.row l).length≤1073741824:=by
 obtain⟨h1,h2⟩:=h.row l
 have:=up_len h1 h2 (by omega)
 omega
theorem Wst.Bnd.knownLen {S:Wst} (h:S.Bnd):S.known.length≤1073741824:=by
 have:=h.kr.length_le h.kb (by omega)
 omega
theorem Wst.Bnd.ofLen {S:Wst} (h:S.Bnd):S.of.length≤2097153:=by
 have:=h.orr.length_le (lo:= -1048576) (hi:=1048576) (fun p hp=>by
  have:=(h.ob p hp).1
  unfold litB at this
  rw[decide_eq_true_eq]at this
  omega) (by omega)
 omega
theorem putA_mem {α:Type} {m:List (Int×α)} {x:Int} {v:α} {p:Int×α}:p∈putA m x v↔p=(x,v)∨(p∈m∧p.1≠x):=by
 unfold putA
 rw[insA_mem,delA_mem]
theorem Wst.Bnd.set {S:Wst} (h:S.Bnd) {id:Int} {k:Kn} (hid:1≤id∧id≤1073741824) (hk:(k.by_= []∨∃a b,a≠b∧k.by_= [a,b]∧a∈k.lits∧b∈k.lits)∧k.lits.length≤4096∧∀l∈k.lits,litB l=true):(S.set id k).Bnd where
 kr:=h.kr.put _ _
 kb:=fun p hp=>by
  rcases putA_mem.1 hp with rfl|hp
  ·exact hid
  ·exact h.kb p hp.1
 kl:=fun p hp=>by
  rcases putA_mem.1 hp with rfl|hp
  ·exact hk
  ·exact h.kl p hp.1
 orr:=h.orr
 ob:=h.ob
theorem Wst.Bnd.put {S:Wst} (h:S.Bnd) {l id:Int} (hid:1≤id∧id≤1073741824) (hl:litB l=true) (hn:id∉S.row l):(S.put l id).Bnd where
 kr:=h.kr
 kb:=h.kb
 kl:=h.kl
 orr:=h.orr.put _ _
 ob:=fun p hp=>by
  rcases putA_mem.1 hp with rfl|hp
  ·refine⟨hl,insI_up (h.row l).1 hn,fun x hx=>?_⟩
   rcases insI_mem.1 hx with rfl|hx
   ·exact hid
   ·exact(h.row l).2 x hx
  ·exact h.ob p hp.1
theorem remI_mem {r:List Int} (h:r.Pairwise (· < ·)) {x y:Int}:y∈remI r x↔y∈r∧y≠x:=by
 rw[remI_eq h,List.mem_filter,decide_eq_true_eq]
theorem Wst.Bnd.drop {S:Wst} (h:S.Bnd) (l id:Int):(S.drop l id).Bnd:=by
 unfold Wst.drop
 split
 ·rename_i hc
  have hm:id∈S.row l:=by simpa using hc
  have hr:=h.row l
  refine⟨h.kr,h.kb,h.kl,h.orr.put _ _,fun p hp=>?_⟩
  rcases putA_mem.1 hp with rfl|hp
  ·have hl:litB l=true:=by
    unfold Wst.row at hm
    cases hg:getA S.of l with
    | none=>rw[hg]at hm;cases hm
    | some r=>exact(h.ob _ (getA_some hg)).1
   refine⟨hl,?_,fun x hx=>?_⟩
   ·rw[remI_eq hr.1]
    exact hr.1.filter _
   ·exact hr.2 x ((remI_mem hr.1).1 hx).1
  ·exact h.ob p hp.1
 ·exact h
theorem Wst.Bnd.del {S:Wst} (h:S.Bnd) (id:Int):(S.del id).Bnd:=
 ⟨h.kr.del _,fun p hp=>h.kb p (delA_mem.1 hp).1,fun p hp=>h.kl p (delA_mem.1 hp).1,h.orr,h.ob⟩
theorem Wst.row_put {S:Wst} (h:S.Bnd) (l id m:Int):(S.put l id).row m=if m=l then insI (S.row l) id else S.row m:=by
 unfold Wst.put Wst.row
 rw[getA_put h.orr]
 split <;> rfl
theorem Wst.row_drop {S:Wst} (h:S.Bnd) (l id m:Int):(S.drop l id).row m=if m=l then remI (S.row l) id else S.row m:=by
 unfold Wst.drop
 split
 ·show(getA (putA S.of l _) m).getD []=_
  rw[getA_put h.orr]
  split <;> rfl
 ·rename_i hc
  split
  ·rename_i e
   subst e
   unfold remI
   rw[if_neg hc]
  ·rfl
theorem Wst.kn_drop (S:Wst) (l id j:Int):(S.drop l id).kn j=S.kn j:=by
 unfold Wst.drop
 split <;> rfl
theorem Wst.kn_set {S:Wst} (h:S.Bnd) (id:Int) (k:Kn) (j:Int):(S.set id k).kn j=if j=id then some k else S.kn j:=getA_put h.kr _ _ _
theorem Wst.kn_del {S:Wst} (h:S.Bnd) (id j:Int):(S.del id).kn j=if j=id then none else S.kn j:=getA_del h.kr _ _
theorem Wst.row_set (S:Wst) (id:Int) (k:Kn) (m:Int):(S.set id k).row m=S.row m:=rfl
theorem Wst.kn_put (S:Wst) (l id j:Int):(S.put l id).kn j=S.kn j:=rfl
theorem mem_row_put {S:Wst} (h:S.Bnd) (l id m x:Int):x∈(S.put l id).row m↔(m=l∧x=id)∨x∈S.row m:=by
 rw[Wst.row_put h]
 split
 ·rename_i e
  subst e
  rw[insI_mem]
  constructor
  ·rintro (h|h)
   ·exact .inl ⟨rfl,h⟩
   ·exact .inr h
  ·rintro (h|h)
   ·exact .inl h.2
   ·exact .inr h
 ·rename_i e
  constructor
  ·exact .inr
  ·rintro (h|h)
   ·exact absurd h.1 e
   ·exact h
theorem mem_row_drop {S:Wst} (h:S.Bnd) (l id m x:Int):x∈(S.drop l id).row m↔x∈S.row m∧¬(m=l∧x=id):=by
 rw[Wst.row_drop h]
 split
 ·rename_i e
  subst e
  rw[remI_mem (h.row _).1]
  constructor
  ·rintro ⟨h1,h2⟩
   exact⟨h1,fun e=>h2 e.2⟩
  ·rintro ⟨h1,h2⟩
   exact⟨h1,fun e=>h2 ⟨rfl,e⟩⟩
 ·rename_i e
  constructor
  ·exact fun h=>⟨h,fun e'=>e e'.1⟩
  ·exact fun h=>h.1
theorem Wst.Link.none {S:Wst} (h:S.Link) {id:Int} (hn:S.kn id=none) (l:Int):id∉S.row l:=fun hm=>by
 obtain⟨k,hk,_⟩:=(h l id).1 hm
 rw[hn]at hk
 cases hk
theorem watch_two {S:Wst} (h:S.Bnd) (hL:S.Link) {id a b:Int} {c:List Int} (hn:S.kn id=none) (hid:1≤id∧id≤1073741824) (hc:c.length≤4096∧∀l∈c,litB l=true) (hab:a≠b) (ha:a∈c) (hb:b∈c):
  (S.set id ⟨[a,b],c⟩).Bnd∧id∉(S.set id ⟨[a,b],c⟩).row a∧((S.set id ⟨[a,b],c⟩).put a id).Bnd∧id∉((S.set id ⟨[a,b],c⟩).put a id).row b∧(((S.set id ⟨[a,b],c⟩).put a id).put b id).Bnd∧(((S.set id ⟨[a,b],c⟩).put a id).put b id).Link:=by
 have h1:(S.set id ⟨[a,b],c⟩).Bnd:=h.set hid ⟨.inr ⟨a,b,hab,rfl,ha,hb⟩,hc⟩
 have h2:id∉(S.set id ⟨[a,b],c⟩).row a:=hL.none hn a
 have h3:=h1.put hid (hc.2 a ha) h2
 have h4:id∉((S.set id ⟨[a,b],c⟩).put a id).row b:=fun hm=>by
  rcases (mem_row_put h1 _ _ _ _).1 hm with h|h
  ·exact hab h.1.symm
  ·exact hL.none hn b h
 refine⟨h1,h2,h3,h4,h3.put hid (hc.2 b hb) h4,fun l j=>?_⟩
 rw[mem_row_put h3,mem_row_put h1,Wst.row_set,Wst.kn_put,Wst.kn_put,Wst.kn_set h,hL l j]
 by_cases hj:j=id
 ·subst hj
  rw[if_pos rfl,hn]
  constructor
  ·rintro (h|h|h)
   ·exact⟨_,rfl,by rw[h.1];simp⟩
   ·exact⟨_,rfl,by rw[h.1];simp⟩
   ·obtain⟨k,hk,_⟩:=h
    cases hk
  ·rintro ⟨k,hk,hl⟩
   obtain rfl:=Option.some.inj hk
   rcases List.mem_cons.1 hl with e|hl
   ·exact .inr (.inl ⟨e,rfl⟩)
   ·exact .inl ⟨List.mem_singleton.1 hl,rfl⟩
 ·rw[if_neg hj]
  constructor
  ·rintro (h|h|h)
   ·exact absurd h.2 hj
   ·exact absurd h.2 hj
   ·exact h
  ·exact fun h=>.inr (.inr h)
theorem watch_none {S:Wst} (h:S.Bnd) (hL:S.Link) {id:Int} {c:List Int} (hn:S.kn id=none) (hid:1≤id∧id≤1073741824) (hc:c.length≤4096∧∀l∈c,litB l=true):
  (S.set id ⟨[],c⟩).Bnd∧(S.set id ⟨[],c⟩).Link:=by
 refine⟨h.set hid ⟨.inl rfl,hc⟩,fun l j=>?_⟩
 rw[Wst.row_set,Wst.kn_set h,hL l j]
 by_cases hj:j=id
 ·subst hj
  rw[if_pos rfl,hn]
  constructor
  ·rintro ⟨k,hk,_⟩
   cases hk
  ·rintro ⟨k,hk,hl⟩
   obtain rfl:=Option.some.inj hk
   cases hl
 ·rw[if_neg hj]
theorem dropAll_bnd (id:Int) (ls:List Int) {S:Wst} (h:S.Bnd):(S.dropAll id ls).Bnd∧(∀j,(S.dropAll id ls).kn j=S.kn j)∧∀l x,x∈(S.dropAll id ls).row l↔x∈S.row l∧¬(l∈ls∧x=id):=by
 induction ls generalizing S with
 | nil=>exact⟨h,fun j=>rfl,fun l x=>by simp[Wst.dropAll]⟩
 | cons y r ih=>
  obtain⟨h1,h2,h3⟩:=ih (h.drop y id)
  refine⟨h1,fun j=>(h2 j).trans (Wst.kn_drop _ _ _ _),fun l x=>?_⟩
  show x∈((S.drop y id).dropAll id r).row l↔_
  rw[h3,mem_row_drop h,List.mem_cons]
  constructor
  ·rintro ⟨⟨h1,h2⟩,h3⟩
   exact⟨h1,fun⟨e,ex⟩=>e.elim (fun e=>h2 ⟨e,ex⟩) (fun e=>h3 ⟨e,ex⟩)⟩
  ·rintro ⟨h1,h2⟩
   exact⟨⟨h1,fun e=>h2 ⟨.inl e.1,e.2⟩⟩,fun e=>h2 ⟨.inr e.1,e.2⟩⟩
theorem remove_ok {S:Wst} (h:S.Bnd) (hL:S.Link) (id:Int):(S.remove id).Bnd∧(S.remove id).Link∧(∀j,(S.remove id).kn j=if j=id then none else S.kn j):=by
 cases hk:S.kn id with
 | none=>
  have e:S.remove id=S:=by unfold Wst.remove;rw[hk]
  rw[e]
  refine⟨h,hL,fun j=>?_⟩
  by_cases hj:j=id
  ·rw[if_pos hj,hj,hk]
  ·rw[if_neg hj]
 | some k=>
  have e:S.remove id=(S.dropAll id k.by_).del id:=by unfold Wst.remove;rw[hk]
  rw[e]
  obtain⟨h1,h2,h3⟩:=dropAll_bnd id k.by_ h
  have hkn: ∀j,((S.dropAll id k.by_).del id).kn j=if j=id then none else S.kn j:=fun j=>by
   rw[Wst.kn_del h1,h2]
  refine⟨h1.del id,fun l j=>?_,hkn⟩
  show j∈(S.dropAll id k.by_).row l↔∃k',((S.dropAll id k.by_).del id).kn j=some k'∧l∈k'.by_
  rw[h3,hL l j,hkn]
  by_cases hj:j=id
  ·subst hj
   rw[if_pos rfl]
   constructor
   ·rintro ⟨⟨k',hk',hl⟩,hn⟩
    rw[hk]at hk'
    obtain rfl:=Option.some.inj hk'
    exact absurd ⟨hl,rfl⟩ hn
   ·rintro ⟨k',hk',_⟩
    cases hk'
  ·rw[if_neg hj]
   constructor
   ·exact fun h=>h.1
   ·exact fun h=>⟨h,fun e=>hj e.2⟩
theorem Kn.other_mem {k:Kn} {a b l:Int} (hab:a≠b) (hk:k.by_= [a,b]) (hl:l∈k.by_):k.other l∈k.by_∧k.other l≠l∧∀x,x∈k.by_↔x=l∨x=k.other l:=by
 have e:k.other l=if a=l then b else a:=by unfold Kn.other;rw[hk];rfl
 rw[e,hk]
 rw[hk]at hl
 rcases List.mem_cons.1 hl with rfl|hl
 ·rw[if_pos rfl]
  exact⟨by simp,Ne.symm hab,fun x=>by simp⟩
 ·obtain rfl:=List.mem_singleton.1 hl
  rw[if_neg hab]
  refine⟨by simp,hab,fun x=>?_⟩
  simp
  exact Or.comm
theorem Kn.move_mem {k:Kn} {a b l:Int} (x:Int) (hk:k.by_= [a,b]): ∀y,y∈(k.move l x).by_↔y=x∨y=k.other l:=by
 intro y
 have e:k.other l=if a=l then b else a:=by unfold Kn.other;rw[hk];rfl
 have e2:(k.move l x).by_=if a=l then [x,b]else [a,x]:=by unfold Kn.move;rw[hk];rfl
 rw[e,e2]
 split
 ·simp
 ·simp
  exact Or.comm
theorem move_ok {S:Wst} (h:S.Bnd) (hL:S.Link) {id l x:Int} {k:Kn} (hk:S.kn id=some k) (hl:l∈k.by_) (hx:x∈k.lits) (hxl:x≠l) (hxo:x≠k.other l):
  (S.drop l id).Bnd∧id∉(S.drop l id).row x∧((S.drop l id).put x id).Bnd∧(S.move id l x k).Bnd∧(S.move id l x k).Link∧(∀j,(S.move id l x k).kn j=if j=id then some (k.move l x)else S.kn j):=by
 obtain⟨hid,hby,hlen,hlit⟩:=h.kn hk
 rcases hby with h0|⟨a,b,hab,hab2,ha,hb⟩
 ·rw[h0]at hl
  cases hl
 obtain⟨o1,o2,o3⟩:=Kn.other_mem hab hab2 hl
 have o4:=Kn.move_mem (l:=l) x hab2
 have h1:=h.drop l id
 have h2:id∉(S.drop l id).row x:=fun hm=>by
  have:=((mem_row_drop h _ _ _ _).1 hm).1
  obtain⟨k',hk',hx'⟩:=(hL x id).1 this
  rw[hk]at hk'
  obtain rfl:=Option.some.inj hk'
  rcases (o3 x).1 hx' with e|e
  ·exact hxl e
  ·exact hxo e
 have h3:=h1.put hid (hlit x hx) h2
 have hmv:((k.move l x).by_= []∨∃a b,a≠b∧(k.move l x).by_= [a,b]∧a∈(k.move l x).lits∧b∈(k.move l x).lits):=by
  have e:k.other l=if a=l then b else a:=by unfold Kn.other;rw[hab2];rfl
  have e2:(k.move l x).by_=if a=l then [x,b]else [a,x]:=by unfold Kn.move;rw[hab2];rfl
  rw[e]at hxo
  right
  rw[e2]
  split
  ·rename_i hal
   rw[if_pos hal]at hxo
   exact⟨x,b,hxo,rfl,hx,hb⟩
  ·rename_i hal
   rw[if_neg hal]at hxo
   exact⟨a,x,Ne.symm hxo,rfl,ha,hx⟩
 have hkn: ∀j,(S.move id l x k).kn j=if j=id then some (k.move l x)else S.kn j:=fun j=>by
  unfold Wst.move
  rw[Wst.kn_set h3,Wst.kn_put,Wst.kn_drop]
 refine⟨h1,h2,h3,h3.set hid ⟨hmv,hlen,hlit⟩,fun m j=>?_,hkn⟩
 show j∈((S.drop l id).put x id).row m↔_
 rw[mem_row_put h1,mem_row_drop h,hL m j,hkn]
 by_cases hj:j=id
 ·subst hj
  rw[if_pos rfl]
  constructor
  ·rintro (⟨rfl,_⟩|⟨⟨k',hk',hm⟩,hn⟩)
   ·exact⟨_,rfl,(o4 m).2 (.inl rfl)⟩
   ·rw[hk]at hk'
    obtain rfl:=Option.some.inj hk'
    refine⟨_,rfl,(o4 m).2 (.inr ?_)⟩
    rcases (o3 m).1 hm with e|e
    ·exact absurd ⟨e,rfl⟩ hn
    ·exact e
  ·rintro ⟨k',hk',hm⟩
   obtain rfl:=Option.some.inj hk'
   rcases (o4 m).1 hm with e|e
   ·exact .inl ⟨e,rfl⟩
   ·refine .inr ⟨⟨k,hk,(o3 m).2 (.inr e)⟩,fun e2=>?_⟩
    exact o2 (e.symm.trans e2.1)
 ·rw[if_neg hj]
  constructor
  ·rintro (h|h)
   ·exact absurd h.2 hj
   ·exact h.1
  ·exact fun h=>.inr ⟨h,fun e=>hj e.2⟩
theorem lookOne_ok (A:Arn) (T:Trl) {S:Wst} (h:S.Bnd) (hL:S.Link) {l id:Int} (hm:id∈S.row l):(lookOne A T S l id).2.1.Bnd∧(lookOne A T S l id).2.1.Link:=by
 unfold lookOne
 obtain⟨k,hk,hl⟩:=(hL l id).1 hm
 split
 ·exact⟨(remove_ok h hL id).1,(remove_ok h hL id).2.1⟩
 ·rw[hk]
  simp only[]
  split
  ·exact⟨h,hL⟩
  ·split
   ·rename_i x hx
    have h1:=List.mem_of_find?_eq_some hx
    have h2:=List.find?_some hx
    rw[Bool.and_eq_true,decide_eq_true_eq]at h2
    have:=move_ok h hL hk hl h1 h2.1.1 h2.1.2
    exact⟨this.2.2.2.1,this.2.2.2.2.1⟩
   ·split
    ·exact⟨h,hL⟩
    ·exact⟨h,hL⟩
theorem lookOne_row (A:Arn) (T:Trl) {S:Wst} (h:S.Bnd) (hL:S.Link) {l id j:Int} (hm:id∈S.row l) (hj:j∈S.row l) (hne:j≠id):j∈(lookOne A T S l id).2.1.row l:=by
 have hok:=lookOne_ok A T h hL hm
 rw[hok.2 l j]
 obtain⟨k,hk,hl⟩:=(hL l j).1 hj
 refine⟨k,?_,hl⟩
 obtain⟨k',hk',hl'⟩:=(hL l id).1 hm
 unfold lookOne
 split
 ·rw[(remove_ok h hL id).2.2,if_neg hne,hk]
 ·rw[hk']
  simp only[]
  split
  ·exact hk
  ·split
   ·rename_i x hx
    have h1:=List.mem_of_find?_eq_some hx
    have h2:=List.find?_some hx
    rw[Bool.and_eq_true,decide_eq_true_eq]at h2
    have:=move_ok h hL hk' hl' h1 h2.1.1 h2.1.2
    rw[this.2.2.2.2.2,if_neg hne,hk]
   ·split
    ·exact hk
    ·exact hk
end Go.Proofs.YtoojmhjagipmdaaGreat
namespace Go.Proofs.YtoojmhjagipmdaaGreat
open Go.RowKit
theorem litV_negate (l:Int):litV (-l)=litV l:=by
 have h:litB (-l)=litB l:=by
  unfold litB
  exact decide_eq_decide.2 (by omega)
 unfold litV
 rw[h,Int.natAbs_neg]
theorem litV_pos {l:Int} (h:litB l=true):1≤litV l∧(litV l:Int)=max l (-l):=by
 have:=(litB_iff l).1 h
 unfold litV
 rw[if_pos h]
 omega
theorem litB_minus (l:Int):litB (-l)=litB l:=by
 simp only[litB,decide_eq_decide]
 omega
theorem litV_zero {l:Int} (h:litB l=false):litV l=0:=by
 unfold litV
 rw[h]
 rfl
theorem litB_of_litV {l:Int} (h:0<litV l):litB l=true:=by
 cases hb:litB l with
 | true=>rfl
 | false=>rw[litV_zero hb]at h;omega
theorem litV_two {a b:Int} (ha:litB a=true) (h:litV a=litV b):b=a∨b= -a:=by
 have h1:=litV_pos ha
 have h2:=litV_pos (litB_of_litV (l:=b) (by omega))
 omega
theorem litN_eq {l:Int} (h:litB l=true):litN l= -l:=by unfold litN;rw[if_pos h]
end Go.Proofs.YtoojmhjagipmdaaGreat
namespace Go.Proofs.YtoojmhjagipmdaaGreat
open Go.RowKit
structure RIt where
 lit:Int
 reason:Int
 level:Int
def RIt.cells (x:RIt):List Value:= [.int .i64 x.lit,.int .i64 x.reason,.int .i64 x.level]
structure RTr where
 vars:Int
 now:Int
 items:List RIt
 starts:List Int
def rPl:List RIt→Int→Nat→Int
 | [],_,_=> -1
 | x::l,v,i=>if 0<v∧(litV x.lit:Int)=v then i else rPl l v (i+1)
def rP (l:List RIt) (v:Int):Int:=rPl l v 0
def rVl:List RIt→Int→Int
 | [],_=>0
 | x::l,y=>if litB y=true∧x.lit=y then 1 else if litB y=true∧x.lit= -y then -1 else rVl l y
def rL (l:List RIt) (y:Int):Int:=match l[(rP l (litV y)).toNat]? with
 | some x=>x.level
 | none=>0
structure Sim (T:Trl) (its:List RIt):Prop where
 order:T.order=its.map RIt.lit
 size:T.vars.length≤1048577
 at_: ∀(p:Nat) (x:RIt),its[p]? =some x→litB x.lit=true∧T.vars[litV x.lit]? =some ⟨x.level,x.reason,p,litS x.lit⟩
 free: ∀(v:Nat) (s:TV),T.vars[v]? =some s→(∀x∈its,litV x.lit≠v)→s.value=0
 mono: ∀(p q:Nat) (x y:RIt),p≤q→its[p]? =some x→its[q]? =some y→x.level≤y.level
 pos: ∀x∈its,0≤x.level∧x.level≤T.now
 now:0≤T.now
variable {T:Trl} {its:List RIt}
theorem Sim.litb (h:Sim T its) {x:RIt} (hx:x∈its):litB x.lit=true:=by
 obtain⟨p,hp,e⟩:=List.getElem_of_mem hx
 exact(h.at_ p x (by rw[List.getElem?_eq_getElem hp,e])).1
theorem Sim.inj (h:Sim T its) {p q:Nat} {x y:RIt} (hp:its[p]? =some x) (hq:its[q]? =some y) (e:litV x.lit=litV y.lit):p=q:=by
 have h1:=(h.at_ p x hp).2
 have h2:=(h.at_ q y hq).2
 rw[e,h2]at h1
 have h3:=congrArg TV.place (Option.some.inj h1)
 simp only at h3
 omega
theorem Sim.atv (h:Sim T its) {p:Nat} {x:RIt} (hp:its[p]? =some x):T.at (litV x.lit:Nat)=some ⟨x.level,x.reason,p,litS x.lit⟩:=by
 obtain⟨h1,h2⟩:=h.at_ p x hp
 have h3:=(List.getElem?_eq_some_iff.1 h2).1
 have h4:=litV_pos h1
 unfold Trl.at
 rw[if_pos (by omega),Int.toNat_natCast]
 exact h2
theorem litS_ne (l:Int):litS l≠0:=by
 rcases litS_abs l with h|h <;> omega
theorem Sim.why (h:Sim T its) {p:Nat} {x:RIt} (hp:its[p]? =some x):T.why (litV x.lit:Nat)=some ⟨x.level,x.reason,p,litS x.lit⟩:=by
 unfold Trl.why
 rw[h.atv hp]
 simp only
 rw[if_neg (litS_ne _)]
theorem Sim.why_none (h:Sim T its) {v:Nat} (hn: ∀x∈its,litV x.lit≠v):T.why (v:Int)=none:=by
 unfold Trl.why Trl.at
 split
 ·
  rename_i s hs
  split at hs
  ·
   rw[Int.toNat_natCast]at hs
   rw[if_pos (h.free v s hs hn)]
  ·
   cases hs
 ·
  rfl
theorem rPl_at (l:List RIt) (v:Int) (i p:Nat) (x:RIt) (hv:0<v) (hp:l[p]? =some x) (hx:(litV x.lit:Int)=v) (hf: ∀q y,q<p→l[q]? =some y→(litV y.lit:Int)≠v):rPl l v i=(i+p:Nat):=by
 induction l generalizing i p with
 | nil=>simp at hp
 | cons y l ih=>
  unfold rPl
  cases p with
  | zero=>
   obtain rfl:y=x:=by simpa using hp
   rw[if_pos ⟨hv,hx⟩]
   rfl
  | succ p=>
   rw[if_neg (fun hh=>hf 0 y (by omega) (by simp) hh.2),ih (i+1) p (by simpa using hp) (fun q z hq hz=>hf (q+1) z (by omega) (by simpa using hz))]
   congr 1
   omega
theorem Sim.rp (h:Sim T its) {p:Nat} {x:RIt} (hp:its[p]? =some x):rP its (litV x.lit:Nat)=p:=by
 have h1:=litV_pos (h.at_ p x hp).1
 have:=rPl_at its (litV x.lit:Nat) 0 p x (by omega) hp rfl (fun q y hq hy e=>by
  have:=h.inj hy hp (by omega)
  omega)
 unfold rP
 rw[this,Nat.zero_add]
theorem rVl_at (l:List RIt) (y z:Int) (hy:litB y=true) (h1: ∃x∈l,litV x.lit=litV y) (h2: ∀x∈l,litV x.lit=litV y→x.lit=z):rVl l y=if z=y then 1 else -1:=by
 induction l with
 | nil=>
  obtain⟨x,hx,_⟩:=h1
  cases hx
 | cons x l ih=>
  unfold rVl
  by_cases hxy:litV x.lit=litV y
  ·
   have hz:=h2 x (List.mem_cons_self ..) hxy
   rcases litV_two hy hxy.symm with e|e
   ·
    rw[if_pos ⟨hy,e⟩,if_pos (by omega)]
   ·
    have:=(litB_iff y).1 hy
    rw[if_neg (fun hh=>by omega),if_pos ⟨hy,e⟩,if_neg (by omega)]
  ·
   rw[if_neg (fun hh=>hxy (by rw[hh.2])),if_neg (fun hh=>hxy (by rw[hh.2,litV_negate]))]
   obtain⟨w,hw,e⟩:=h1
   refine ih ?_ (fun x hx=>h2 x (List.mem_cons_of_mem _ hx))
   rcases List.mem_cons.1 hw with rfl|hw
   ·
    exact absurd e hxy
   ·
    exact⟨w,hw,e⟩
theorem rVl_none (l:List RIt) (y:Int) (h:litB y=true→∀x∈l,litV x.lit≠litV y):rVl l y=0:=by
 induction l with
 | nil=>rfl
 | cons x l ih=>
  unfold rVl
  rw[if_neg (fun hh=>h hh.1 x (List.mem_cons_self ..) (by rw[hh.2])),if_neg (fun hh=>h hh.1 x (List.mem_cons_self ..) (by rw[hh.2,litV_negate]))]
  exact ih (fun hb x hx=>h hb x (List.mem_cons_of_mem _ hx))
theorem Sim.val_at (h:Sim T its) {p:Nat} {x:RIt} (hp:its[p]? =some x) (y:Int) (hy:litV x.lit=litV y):T.val y=rVl its y∧rVl its y=if x.lit=y then 1 else -1:=by
 have hb:=(h.at_ p x hp).1
 have hby:litB y=true:=litB_of_litV (by have:=litV_pos hb;omega)
 have h1:=rVl_at its y x.lit hby ⟨x,List.mem_of_getElem? hp,hy⟩ (fun z hz e=>by
  obtain⟨q,hq,e2⟩:=List.getElem_of_mem hz
  have hq':its[q]? =some z:=by rw[List.getElem?_eq_getElem hq,e2]
  obtain rfl:=h.inj hq' hp (by omega)
  rw[hp]at hq'
  rw[Option.some.inj hq'])
 refine⟨?_,h1⟩
 rw[h1]
 unfold Trl.val
 rw[←hy,h.atv hp]
 simp only
 have hn:=(litB_iff x.lit).1 hb
 rcases litV_two hb hy with e|e
 ·
  rw[e,if_pos rfl]
  unfold litS
  split <;> rfl
 ·
  rw[e,if_neg (by omega)]
  unfold litS
  split
  ·
   rw[if_neg (by omega)];rfl
  ·
   rw[if_pos (by omega)];rfl
theorem Sim.cases (_:Sim T its) (y:Int):(∃(p:Nat) (x:RIt),its[p]? =some x∧litV x.lit=litV y)∨(∀x∈its,litV x.lit≠litV y):=by
 by_cases hh: ∃(p:Nat) (x:RIt),its[p]? =some x∧litV x.lit=litV y
 ·
  exact .inl hh
 ·
  refine .inr (fun x hx e=>hh ?_)
  obtain⟨p,hp,e2⟩:=List.getElem_of_mem hx
  exact⟨p,x,by rw[List.getElem?_eq_getElem hp,e2],e⟩
theorem Sim.val (h:Sim T its) (y:Int):T.val y=rVl its y:=by
 rcases h.cases y with⟨p,x,hp,e⟩|hn
 ·
  exact(h.val_at hp y e).1
 ·
  rw[rVl_none its y (fun _=>hn)]
  unfold Trl.val Trl.at
  split
  ·
   rename_i s hs
   split at hs
   ·
    rw[Int.toNat_natCast]at hs
    rw[h.free _ s hs hn,Int.zero_mul]
   ·
    cases hs
  ·
   rfl
theorem Sim.fal (h:Sim T its) {y:Int} (hy:rVl its y<0): ∃(p:Nat) (x:RIt),its[p]? =some x∧y= -x.lit∧litV x.lit=litV y:=by
 rcases h.cases y with⟨p,x,hp,e⟩|hn
 ·
  have:=(h.val_at hp y e).2
  rcases litV_two (h.at_ p x hp).1 e with e2|e2
  ·
   rw[if_pos e2.symm]at this
   omega
  ·
   exact⟨p,x,hp,e2,e⟩
 ·
  rw[rVl_none its y (fun _=>hn)]at hy
  omega
theorem Sim.fal_of (h:Sim T its) {p:Nat} {x:RIt} (hp:its[p]? =some x):rVl its (-x.lit)<0:=by
 have:=(h.val_at hp (-x.lit) (litV_negate _).symm).2
 have hb:=(litB_iff x.lit).1 (h.at_ p x hp).1
 rw[if_neg (by omega)]at this
 omega
theorem Sim.level (h:Sim T its) {p:Nat} {x:RIt} (hp:its[p]? =some x):T.level (litV x.lit:Nat)=x.level:=by
 unfold Trl.level
 rw[h.why hp]
end Go.Proofs.YtoojmhjagipmdaaGreat
namespace Go.Proofs.YtoojmhjagipmdaaGreat
open Go.RowKit
variable {T:Trl} {its:List RIt}
theorem litS_not (l:Int):litS l≠0:=by
 unfold litS
 split <;> decide
theorem Sim.fal_iff (h:Sim T its) {y:Int} (hy:litB y=true):T.fal y=true↔∃(p:Nat) (x:RIt),its[p]? =some x∧x.lit= -y:=by
 have hn:=(litB_iff y).1 hy
 unfold Trl.fal
 rw[decide_eq_true_eq,h.val]
 constructor
 ·intro hf
  obtain⟨p,x,hp,e,_⟩:=h.fal hf
  exact⟨p,x,hp,by omega⟩
 ·rintro ⟨p,x,hp,e⟩
  have:=(h.val_at hp y (by rw[e,litV_negate])).2
  rw[if_neg (by omega)]at this
  omega
theorem Sim.tru_iff (h:Sim T its) {y:Int} (hy:litB y=true):T.tru y=true↔∃(p:Nat) (x:RIt),its[p]? =some x∧x.lit=y:=by
 have hn:=(litB_iff y).1 hy
 unfold Trl.tru
 rw[decide_eq_true_eq,h.val]
 constructor
 ·intro hf
  rcases h.cases y with⟨p,x,hp,e⟩|hno
  ·have hv:=(h.val_at hp y e).2
   by_cases hxy:x.lit=y
   ·exact⟨p,x,hp,hxy⟩
   ·rw[if_neg hxy]at hv
    omega
  ·rw[rVl_none its y (fun _=>hno)]at hf
   omega
 ·rintro ⟨p,x,hp,e⟩
  have:=(h.val_at hp y (by rw[e])).2
  rw[if_pos e]at this
  omega
theorem Sim.snoc (hs:Sim T its) {l r:Int} (he:T.assignErr l r=0):Sim (T.assigned l r) (its++ [⟨l,r,T.now⟩]):=by
 unfold Trl.assigned
 rw[if_pos he]
 unfold Trl.assignErr at he
 cases hat:T.at (litV l:Nat)with
 | none=>rw[hat]at he;cases he
 | some s=>
  rw[hat]at he
  simp only at he
  have ha:=hat
  unfold Trl.at at ha
  split at ha
  ·rename_i hlt
   rw[Int.toNat_natCast]at ha
   have hb:litB l=true:=litB_of_litV (by omega)
   have hvl:litV l<T.vars.length:=by omega
   have h0:s.value=0:=by
    split at he
    ·cases he
    ·split at he
     ·cases he
     ·rename_i _ h2
      omega
   have hfree: ∀x∈its,litV x.lit≠litV l:=fun x hx e=>by
    obtain⟨p,hp,e2⟩:=List.getElem_of_mem hx
    have hx2:=(hs.at_ p x (by rw[List.getElem?_eq_getElem hp,e2])).2
    rw[e,ha]at hx2
    have h3:=congrArg TV.value (Option.some.inj hx2)
    simp only at h3
    have:=litS_not x.lit
    omega
   have hol:T.order.length=its.length:=by rw[hs.order,List.length_map]
   refine { order:=?_,size:=?_,at_:=fun p x hp=>?_,free:=fun v s hv hf=>?_,mono:=fun p q x y hpq hp hq=>?_,pos:=fun x hx=>?_,now:=hs.now }
   ·simp only[Trl.assign,hs.order,List.map_append,List.map_cons,List.map_nil]
   ·simp only[Trl.assign,List.length_set]
    exact hs.size
   ·simp only[Trl.assign]
    rw[List.getElem?_append]at hp
    split at hp
    ·obtain⟨g1,g2⟩:=hs.at_ p x hp
     refine⟨g1,?_⟩
     rw[List.getElem?_set_ne (fun e=>hfree x (List.mem_of_getElem? hp) e.symm)]
     exact g2
    ·rename_i hpl
     have hp0:p=its.length:=by
      have:=(List.getElem?_eq_some_iff.1 hp).1
      simp only[List.length_cons,List.length_nil]at this
      omega
     subst hp0
     rw[Nat.sub_self]at hp
     obtain rfl:=Option.some.inj hp
     refine⟨hb,?_⟩
     simp only
     rw[List.getElem?_set_self hvl,hol]
   ·simp only[Trl.assign]at hv
    have hvne:litV l≠v:=hf ⟨l,r,T.now⟩ (List.mem_append_right _ (List.mem_singleton.2 rfl))
    rw[List.getElem?_set_ne hvne]at hv
    exact hs.free v s hv (fun x hx=>hf x (List.mem_append_left _ hx))
   ·rw[List.getElem?_append]at hp hq
    split at hq
    ·rw[if_pos (by omega)]at hp
     exact hs.mono p q x y hpq hp hq
    ·have hyl:y.level=T.now:=by
      have:=List.mem_of_getElem? hq
      rw[List.mem_singleton.1 this]
     split at hp
     ·have:=(hs.pos x (List.mem_of_getElem? hp)).2
      omega
     ·have:=List.mem_of_getElem? hp
      rw[List.mem_singleton.1 this,hyl]
      exact Int.le_refl _
   ·rcases List.mem_append.1 hx with hx|hx
    ·exact hs.pos x hx
    ·rw[List.mem_singleton.1 hx]
     have:=hs.now
     have e:(T.assign l r).now=T.now:=rfl
     simp only
     omega
  ·cases ha
theorem Sim.lev (h:Sim T its): ∀x∈its,0≤x.level∧x.level≤T.now:=h.pos
theorem Sim.varlt (h:Sim T its) {p:Nat} {x:RIt} (hp:its[p]? =some x):1≤litV x.lit∧litV x.lit<T.vars.length:=by
 obtain⟨h1,h2⟩:=h.at_ p x hp
 exact⟨(litV_pos h1).1,(List.getElem?_eq_some_iff.1 h2).1⟩
theorem Sim.nodup (h:Sim T its):(its.map fun x=>litV x.lit).Nodup:=by
 rw[List.Nodup,List.pairwise_iff_getElem]
 intro i j hi hj hij e
 rw[List.length_map]at hi hj
 rw[List.getElem_map,List.getElem_map]at e
 have:=h.inj (List.getElem?_eq_getElem hi) (List.getElem?_eq_getElem hj) e
 omega
theorem Sim.len (h:Sim T its):its.length<T.vars.length∨its= []:=by
 cases its with
 | nil=>exact .inr rfl
 | cons x r=>
  left
  have h1:((x::r).map fun x=>litV x.lit).length≤(List.range' 1 (T.vars.length-1)).length:=by
   refine List.Nodup.length_le_of_subset h.nodup (fun v hv=>?_)
   obtain⟨z,hz,rfl⟩:=List.mem_map.1 hv
   obtain⟨p,hp,e2⟩:=List.getElem_of_mem hz
   have:=h.varlt (p:=p) (x:=z) (by rw[List.getElem?_eq_getElem hp,e2])
   rw[List.mem_range'_1]
   omega
  rw[List.length_map,List.length_range']at h1
  have:=(h.varlt (p:=0) (x:=x) rfl).2
  omega
theorem assign_ok {l r:Int} (hl:litB l=true) (hv:litV l<T.vars.length) (hr:0≤r∧r≤1073741824) (h0:T.fal l=false) (h1:T.tru l=false):T.assignErr l r=0:=by
 unfold Trl.assignErr
 have hp:=(litV_pos hl).1
 have hat:T.at (litV l:Nat)=some T.vars[litV l]:=by
  unfold Trl.at
  rw[if_pos (by omega),Int.toNat_natCast]
  exact List.getElem?_eq_getElem hv
 rw[hat]
 simp only
 rw[if_neg (by omega),if_neg]
 intro hn
 have h2:T.val l=T.vars[litV l].value*litS l:=by
  unfold Trl.val
  rw[hat]
 have h3:T.val l≠0:=by
  rw[h2]
  intro e
  rcases Int.mul_eq_zero.1 e with e|e
  ·exact hn e
  ·exact litS_not l e
 unfold Trl.fal at h0
 unfold Trl.tru at h1
 rw[decide_eq_false_iff_not]at h0 h1
 omega
theorem assigned_now (T:Trl) (l r:Int):(T.assigned l r).now=T.now:=by
 unfold Trl.assigned
 split <;> rfl
theorem assigned_vars (T:Trl) (l r:Int):(T.assigned l r).vars.length=T.vars.length:=by
 unfold Trl.assigned
 split
 ·simp[Trl.assign]
 ·rfl
end Go.Proofs.YtoojmhjagipmdaaGreat
