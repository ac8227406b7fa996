/- Maps of any values at integer keys (int, or a type of its kind), that the program made: their entries in the order of the keys. Plain: what follows by hints holds wherever the hints do. -/
import Derived.Test.YtkfgplfllddhnaaGreatDoorV700
import Derived.Maps.OwnSet
import Derived.Maps.OwnOps
import Derived.Test.YtkfgplfllddhnaaGreatDoorV709
namespace Go.Proofs.YtkfgplfllddhnaaGreatDoor
open Go.RowKit Go.Maps Go.MapKept Go.ChangeMaps
open Go.WideElems (Fit rd rg pl rd_val elemAt)
section
variable {α β:Type}
def insA (x:Int×α):List (Int×α)→List (Int×α)
 | []=> [x]
 | y::r=>if x.1<y.1 then x::y::r else y::insA x r
def delA (m:List (Int×α)) (x:Int):List (Int×α):=m.filter fun p=>decide (p.1≠x)
def putA (m:List (Int×α)) (x:Int) (v:α):List (Int×α):=insA (x,v) (delA m x)
def getA (m:List (Int×α)) (x:Int):Option α:=(m.find? fun p=>decide (p.1=x)).map (·.2)
theorem insA_mem {x:Int×α} {m:List (Int×α)} {p:Int×α}:p∈insA x m↔p=x∨p∈m:=by
 induction m with
 | nil=>simp[insA]
 | cons y r ih=>
  unfold insA
  split
  ·simp
  ·simp only[List.mem_cons,ih]
   constructor
   ·rintro (h|h|h)
    ·exact .inr (.inl h)
    ·exact .inl h
    ·exact .inr (.inr h)
   ·rintro (h|h|h)
    ·exact .inr (.inl h)
    ·exact .inl h
    ·exact .inr (.inr h)
theorem delA_mem {m:List (Int×α)} {x:Int} {p:Int×α}:p∈delA m x↔p∈m∧p.1≠x:=by
 unfold delA
 rw[List.mem_filter,decide_eq_true_eq]
def Rising (m:List (Int×α)):Prop:=m.Pairwise fun p q=>p.1<q.1
theorem Rising.del {m:List (Int×α)} (h:Rising m) (x:Int):Rising (delA m x):=List.Pairwise.filter _ h
theorem Rising.ins {m:List (Int×α)} (h:Rising m) {x:Int×α} (hx: ∀p∈m,p.1≠x.1):Rising (insA x m):=by
 induction m with
 | nil=>exact List.pairwise_singleton _ _
 | cons y r ih=>
  obtain⟨h1,h2⟩:=List.pairwise_cons.1 h
  unfold insA
  split
  ·rename_i hlt
   refine List.pairwise_cons.2 ⟨fun p hp=>?_,h⟩
   rcases List.mem_cons.1 hp with rfl|hp
   ·exact hlt
   ·exact Int.lt_trans hlt (h1 p hp)
  ·rename_i hge
   refine List.pairwise_cons.2 ⟨fun p hp=>?_,ih h2 (fun p hp=>hx p (List.mem_cons_of_mem _ hp))⟩
   rcases insA_mem.1 hp with rfl|hp
   ·have:=hx y List.mem_cons_self
    omega
   ·exact h1 p hp
theorem Rising.put {m:List (Int×α)} (h:Rising m) (x:Int) (v:α):Rising (putA m x v):=(h.del x).ins (fun _ hp=>(delA_mem.1 hp).2)
theorem Rising.eq_of {m:List (Int×α)} (h:Rising m) {p q:Int×α} (hp:p∈m) (hq:q∈m) (he:p.1=q.1):p=q:=by
 induction m with
 | nil=>cases hp
 | cons y r ih=>
  obtain⟨h1,h2⟩:=List.pairwise_cons.1 h
  rcases List.mem_cons.1 hp with rfl|hp'
  ·rcases List.mem_cons.1 hq with rfl|hq'
   ·rfl
   ·have:=h1 q hq'
    omega
  ·rcases List.mem_cons.1 hq with rfl|hq'
   ·have:=h1 p hp'
    omega
   ·exact ih h2 hp' hq'
theorem getA_some {m:List (Int×α)} {x:Int} {v:α} (h:getA m x=some v):(x,v)∈m:=by
 unfold getA at h
 cases hf:m.find? (fun p=>decide (p.1=x))with
 | none=>rw[hf]at h;cases h
 | some p=>
  rw[hf]at h
  obtain rfl:=Option.some.inj h
  have h1:=List.find?_some hf
  rw[decide_eq_true_eq]at h1
  have h2:=List.mem_of_find?_eq_some hf
  rw[←h1]
  exact h2
theorem getA_of {m:List (Int×α)} (hr:Rising m) {x:Int} {v:α} (h:(x,v)∈m):getA m x=some v:=by
 unfold getA
 cases hf:m.find? (fun p=>decide (p.1=x))with
 | none=>
  have:=List.find?_eq_none.1 hf _ h
  simp at this
 | some p=>
  have h1:=List.find?_some hf
  rw[decide_eq_true_eq]at h1
  have:=hr.eq_of (List.mem_of_find?_eq_some hf) h h1
  rw[this]
  rfl
theorem getA_none {m:List (Int×α)} {x:Int}:getA m x=none↔∀v,(x,v)∉m:=by
 constructor
 ·intro h v hv
  unfold getA at h
  rw[Option.map_eq_none_iff,List.find?_eq_none]at h
  have:=h _ hv
  simp at this
 ·intro h
  cases hg:getA m x with
  | none=>rfl
  | some v=>exact absurd (getA_some hg) (h v)
theorem insA_length (x:Int×α) (m:List (Int×α)):(insA x m).length=m.length+1:=by
 induction m with
 | nil=>rfl
 | cons y r ih=>
  unfold insA
  split
  ·rfl
  ·simp[ih]
theorem putA_length_le (m:List (Int×α)) (x:Int) (v:α):(putA m x v).length≤m.length+1:=by
 unfold putA
 rw[insA_length]
 exact Nat.succ_le_succ (List.length_filter_le _ _)
def mapV (f:α→β) (m:List (Int×α)):List (Int×β):=m.map fun p=>(p.1,f p.2)
theorem mapV_ins (f:α→β) (x:Int×α) (m:List (Int×α)):mapV f (insA x m)=insA (x.1,f x.2) (mapV f m):=by
 induction m with
 | nil=>rfl
 | cons y r ih=>
  unfold mapV at ih⊢
  simp only[insA,List.map_cons]
  split
  ·rfl
  ·rw[List.map_cons,ih]
theorem mapV_del (f:α→β) (m:List (Int×α)) (x:Int):mapV f (delA m x)=delA (mapV f m) x:=by
 unfold mapV delA
 rw[List.filter_map]
 rfl
theorem mapV_put (f:α→β) (m:List (Int×α)) (x:Int) (v:α):mapV f (putA m x v)=putA (mapV f m) x (f v):=by
 unfold putA
 rw[mapV_ins,mapV_del]
theorem mapV_get (f:α→β) (m:List (Int×α)) (x:Int):getA (mapV f m) x=(getA m x).map f:=by
 unfold getA mapV
 rw[List.find?_map]
 have:((fun p:Int×β=>decide (p.1=x)) ∘ fun p:Int×α=>(p.1,f p.2))=fun p:Int×α=>decide (p.1=x):=rfl
 rw[this]
 cases m.find? (fun p=>decide (p.1=x)) <;> rfl
theorem mapV_length (f:α→β) (m:List (Int×α)):(mapV f m).length=m.length:=List.length_map _
theorem mapV_rising_of {f:α→β} {m:List (Int×α)} (h:Rising (mapV f m)):Rising m:=by
 unfold Rising mapV at h
 rw[List.pairwise_map]at h
 exact h
theorem Rising.length_le {m:List (Int×α)} (h:Rising m) {lo hi:Int} (hr: ∀p∈m,lo≤p.1∧p.1≤hi) (hlo:lo≤hi+1):(m.length:Int)≤hi-lo+1:=by
 induction m generalizing lo with
 | nil=>simp;omega
 | cons y r ih=>
  obtain⟨h1,h2⟩:=List.pairwise_cons.1 h
  have hy:=hr y List.mem_cons_self
  have:=ih (lo:=y.1+1) h2 (fun p hp=>⟨by have:=h1 p hp;omega,(hr p (List.mem_cons_of_mem _ hp)).2⟩) (by omega)
  simp only[List.length_cons]
  omega
end
def mapR (v:Value):Option (DataW Value×List MemPlace):=some (.held v,[])
def encE (m:List (Int×Value)):List (Lit×DataW Value):=m.map fun p=>(.int .i64 p.1,.held p.2)
theorem encE_ins (x:Int×Value) (m:List (Int×Value)):DataW.insert (.int .i64 x.1,.held x.2) (encE m)=encE (insA x m):=by
 induction m with
 | nil=>rfl
 | cons y r ih=>
  have hb:(Lit.int .i64 x.1).before (.int .i64 y.1)=decide (x.1<y.1):=rfl
  show(if(Lit.int .i64 x.1).before (.int .i64 y.1)=true then _ else _)=_
  by_cases h:x.1<y.1
  ·rw[if_pos (by rw[hb];exact decide_eq_true h)]
   unfold insA
   rw[if_pos h]
   rfl
  ·rw[if_neg (by rw[hb];simpa using h)]
   unfold insA
   rw[if_neg h]
   show _::DataW.insert _ (encE r)=_
   rw[ih]
   rfl
theorem encE_del (m:List (Int×Value)) (x:Int):(encE m).filter (fun p=> !p.1.sameKey (.int .i64 x))=encE (delA m x):=by
 unfold encE delA
 rw[List.filter_map]
 congr 1
 refine List.filter_congr (fun p _=>?_)
 simp[Lit.sameKey]
section
variable {P:Program} {kt t et:TypeId} {w:World} {b:Nat} {m:List (Int×Value)}
def MapS (P:Program) (kt:TypeId) (w:World) (b:Nat) (m:List (Int×Value)):Prop:=
 w.ownsMap P kt mapR b m.length (.map (encE m))∧Rising m∧∀p∈m,(Lit.int .i64 p.1).wf=true
theorem MapS.lt (h:MapS P kt w b m):b<w.heap.size:=h.1.lt
theorem MapS.kept {O:Nat→Prop} {w':World} (h:MapS P kt w b m) (k:Kept O w w') (hO: ¬O b):MapS P kt w' b m:=by
 obtain⟨⟨es,cl,hb,rest⟩,h2⟩:=h
 exact⟨⟨es,cl,(k.block b (heap_lt hb) hO).trans hb,rest⟩,h2⟩
theorem MapS.below {w':World} (h:MapS P kt w b m) (k:Below w.heap.size w w'):MapS P kt w' b m:=h.kept (O:=fun _=>False) (Kept.of_below k) (fun h=>h)
theorem MapS.made (w:World):MapS P kt (w.alloc (.map #[] 0)) w.heap.size []:=
 ⟨World.ownsMap_made _ _ _ _,List.Pairwise.nil,fun p hp=>by cases hp⟩
theorem ownsMap_exact {R:Value→Option (DataW Value×List MemPlace)} {n:Nat} {E:List (Lit×DataW Value)} (h:w.ownsMap P kt R b n (.map E)):w.ownsMap P kt R b E.length (.map E):=by
 obtain⟨es,cl,hb,F,_,hD⟩:=h
 refine⟨es,cl,hb,F,?_,hD⟩
 cases hD
 rw[length_sorted]
 simp
theorem encE_length (m:List (Int×Value)):(encE m).length=m.length:=List.length_map _
theorem atKey_encE (m:List (Int×Value)) (x:Int) (z:DataW Value):(DataW.map (encE m)).atKey (.int .i64 x) z=match getA m x with
  | some v=>.held v
  | none=>z:=by
 have e:(encE m).find? (fun p=>p.1.sameKey (.int .i64 x))=(m.find? (fun p=>decide (p.1=x))).map fun p=>(.int .i64 p.1,.held p.2):=by
  unfold encE
  rw[List.find?_map]
  have:((fun p:Lit×DataW Value=>p.1.sameKey (.int .i64 x)) ∘ fun p:Int×Value=>(Lit.int .i64 p.1,DataW.held p.2))=fun p:Int×Value=>decide (p.1=x):=by
   funext p
   simp[Lit.sameKey]
  rw[this]
 unfold DataW.atKey getA
 simp only[e]
 cases m.find? (fun p=>decide (p.1=x)) <;> rfl
theorem MapS.look (h:MapS P kt w b m) (K:Keyed P kt) (hk:P.underlying kt=some (.int .i64)) (ht:P.underlying t=some (.map kt et)) {z:Value} (hz:(zeroValue et).run P w= .ok z w) (c:Bool) {x:Int} (hx:(Lit.int .i64 x).wf=true):
  (Instr.lookup t (.map (some b)) (.int .i64 x) c).run P w= .ok (if c then .tuple #[(getA m x).getD z,.bool (getA m x).isSome]else(getA m x).getD z) w:=by
 obtain⟨⟨es,cl,hb,F,_,hD⟩,_⟩:=h
 have hat0:=atKey_encE m x
 rw[hD]at hat0
 rcases Maps.fit_look c K ht hz hb F (keyOf_int_mk hk hx)with⟨hrun,_,hat⟩|⟨e0,y,_,_,hrun,hRv,hat,_⟩
 ·have h1:=hat0 .nil
  rw[hat]at h1
  cases hg:getA m x with
  | none=>rw[hrun];rfl
  | some v=>rw[hg]at h1;cases h1
 ·have h1:=hat0 .nil
  rw[hat]at h1
  have hy:y.1= .held e0.val:=by
   cases hRv
   rfl
  rw[hy]at h1
  cases hg:getA m x with
  | none=>rw[hg]at h1;cases h1
  | some v=>
   rw[hg]at h1
   cases h1
   rw[hrun]
   rfl
theorem MapS.of_put {w':World} {n:Nat} (hr:Rising m) (hw: ∀p∈m,(Lit.int .i64 p.1).wf=true) {x:Int} (hx:(Lit.int .i64 x).wf=true) {v:Value} (h:w'.ownsMap P kt mapR b n ((DataW.map (encE m)).put (.int .i64 x) (.held v))):MapS P kt w' b (putA m x v):=by
 have e:(DataW.map (encE m)).put (.int .i64 x) (.held v)= .map (encE (putA m x v)):=by
  show DataW.map (DataW.insert _ ((encE m).filter _))=_
  rw[encE_del,encE_ins (x,v)]
  rfl
 rw[e]at h
 have h2:=ownsMap_exact h
 rw[encE_length]at h2
 refine⟨h2,hr.put _ _,fun p hp=>?_⟩
 rcases insA_mem.1 hp with rfl|hp
 ·exact hx
 ·exact hw p (delA_mem.1 hp).1
theorem MapS.of_del {w':World} {n:Nat} (hr:Rising m) (hw: ∀p∈m,(Lit.int .i64 p.1).wf=true) {x:Int} (h:w'.ownsMap P kt mapR b n ((DataW.map (encE m)).del (.int .i64 x))):MapS P kt w' b (delA m x):=by
 have e:(DataW.map (encE m)).del (.int .i64 x)= .map (encE (delA m x)):=by
  show DataW.map ((encE m).filter _)=_
  rw[encE_del]
 rw[e]at h
 have h2:=ownsMap_exact h
 rw[encE_length]at h2
 exact⟨h2,hr.del _,fun p hp=>hw p (delA_mem.1 hp).1⟩
theorem MapS.update (h:MapS P kt w b m) (K:Keyed P kt) (hk:P.underlying kt=some (.int .i64)) (ht:P.underlying t=some (.map kt et)) (hn:m.length<maxLen) {x:Int} (hx:(Lit.int .i64 x).wf=true) (v:Value):
  ∃w',(Instr.mapUpdate t (.map (some b)) (.int .i64 x) v).run P w= .ok () w'∧MapS P kt w' b (putA m x v)∧w.grownBy w' (some b):=by
 obtain⟨w',h1,h2,h3⟩:=h.1.update K ht hn (keyOf_int_mk hk hx) (show mapR v=some (.held v,[])from rfl)
 exact⟨w',h1,MapS.of_put h.2.1 h.2.2 hx h2,h3⟩
theorem wpList_delS {ops:Array Oper} {rest:List Oper} {o:Oper} {a:Act} {Q:Exit→Act→World→Prop} (h:MapS P kt w b m) (K:Keyed P kt) (hk:P.underlying kt=some (.int .i64)) (ht:P.underlying t=some (.map kt et))
  (hg:o.guard=none) (mm x:Operand) (hop:o.op=Op.call { callee:=Callee.builtin Builtin.delete,args:= #[mm,x],argTypes:= #[t,kt] }) (hm:a.eval mm= .map (some b)) (i:Int) (hx:a.eval x= .int .i64 i) (hi:(Lit.int .i64 i).wf=true)
  (hK: ∀w',MapS P kt w' b (delA m i)→w.grownBy w' (some b)→wpList P ops Q rest (a.put o.dst (.tuple #[])) w'):wpList P ops Q (o::rest) a w:=
 wpList_delete_own w hg mm x t _ hop et K ht _ b m.length _ hm h.1 _ _ hx (keyOf_int_mk hk hi) (fun w' h1 h2=>hK w' (MapS.of_del h.2.1 h.2.2 h1) h2.grown)
end
end Go.Proofs.YtkfgplfllddhnaaGreatDoor
namespace Go.Proofs.YtkfgplfllddhnaaGreatDoor
open Go.RowKit
structure Way (P:Int→Prop):Prop where
 one: ∀y,litB y=true→P y→¬P (-y)
 all: ∀y,litB y=true→P y∨P (-y)
def Under (f:Int→Int) (P:Int→Prop):Prop:= ∀y,litB y=true→0<ofF f y→P y
theorem ofF_minus (f:Int→Int) {y:Int} (hy:litB y=true):ofF f (-y)= -ofF f y:=by
 unfold ofF
 rw[litG_minus hy,litV_negate]
 cases litG y <;> simp
theorem luk_cons (f:Int→Int) (k:Nat) (u l:Int) (r:List Int):lukGo f k u (l::r)=if 0<ofF f l then(1,0)else if ofF f l<0∨l=u then lukGo f k u r else if u=0 then lukGo f 3 l r else lukGo f 4 u r:=rfl
theorem luk_not {f:Int→Int}: ∀(c:List Int) (k:Nat) (u:Int),k≠2→(lukGo f k u c).1≠2:=by
 intro c
 induction c with
 | nil=>exact fun k u h=>h
 | cons l r ih=>
  intro k u h
  rw[luk_cons]
  by_cases h1:0<ofF f l
  ·rw[if_pos h1]
   decide
  ·rw[if_neg h1]
   by_cases h2:ofF f l<0∨l=u
   ·rw[if_pos h2]
    exact ih k u h
   ·rw[if_neg h2]
    by_cases h3:u=0
    ·rw[if_pos h3]
     exact ih 3 l (by decide)
    ·rw[if_neg h3]
     exact ih 4 u (by decide)
theorem luk_two {f:Int→Int}: ∀(c:List Int),(∀y∈c,y≠0)→(lukGo f 2 0 c).1=2→∀y∈c,ofF f y<0:=by
 intro c
 induction c with
 | nil=>exact fun _ _ y hy=>by cases hy
 | cons l r ih=>
  intro h0 h y hy
  rw[luk_cons]at h
  by_cases h1:0<ofF f l
  ·rw[if_pos h1]at h
   cases h
  ·rw[if_neg h1]at h
   by_cases h2:ofF f l<0∨l=0
   ·rw[if_pos h2]at h
    have h3:=h2.resolve_right (h0 l List.mem_cons_self)
    rcases List.mem_cons.1 hy with e|hy
    ·rw[e];exact h3
    ·exact ih (fun y hy=>h0 y (List.mem_cons_of_mem _ hy)) h y hy
   ·rw[if_neg h2,if_pos rfl]at h
    exact absurd h (luk_not r 3 l (by decide))
theorem luk_four {f:Int→Int}: ∀(c:List Int) (u:Int),u≠0→(lukGo f 4 u c).1≠3:=by
 intro c
 induction c with
 | nil=>
  intro u _
  show(4:Nat)≠3
  decide
 | cons l r ih=>
  intro u hu
  rw[luk_cons]
  by_cases h1:0<ofF f l
  ·rw[if_pos h1]
   decide
  ·rw[if_neg h1]
   by_cases h2:ofF f l<0∨l=u
   ·rw[if_pos h2]
    exact ih u hu
   ·rw[if_neg h2,if_neg hu]
    exact ih u hu
theorem luk_three {f:Int→Int}: ∀(c:List Int) (u:Int),u≠0→(lukGo f 3 u c).1=3→(lukGo f 3 u c).2=u∧∀y∈c,ofF f y<0∨y=u:=by
 intro c
 induction c with
 | nil=>exact fun u _ _=>⟨rfl,fun y hy=>by cases hy⟩
 | cons l r ih=>
  intro u hu h
  rw[luk_cons]at h⊢
  by_cases h1:0<ofF f l
  ·rw[if_pos h1]at h
   cases h
  ·rw[if_neg h1]at h⊢
   by_cases h2:ofF f l<0∨l=u
   ·rw[if_pos h2]at h⊢
    obtain⟨a,b⟩:=ih u hu h
    refine⟨a,fun y hy=>?_⟩
    rcases List.mem_cons.1 hy with e|hy
    ·rw[e];exact h2
    ·exact b y hy
   ·rw[if_neg h2,if_neg hu]at h
    exact absurd h (luk_four r u hu)
theorem luk_unit {f:Int→Int}: ∀(c:List Int),(∀y∈c,y≠0)→(lukGo f 2 0 c).1=3→(lukGo f 2 0 c).2∈c∧ofF f (lukGo f 2 0 c).2=0∧∀y∈c,ofF f y<0∨y=(lukGo f 2 0 c).2:=by
 intro c
 induction c with
 | nil=>
  intro _ h
  cases h
 | cons l r ih=>
  intro h0 h
  have hl:=h0 l List.mem_cons_self
  rw[luk_cons]at h⊢
  by_cases h1:0<ofF f l
  ·rw[if_pos h1]at h
   cases h
  ·rw[if_neg h1]at h⊢
   by_cases h2:ofF f l<0∨l=0
   ·rw[if_pos h2]at h⊢
    have h3:=h2.resolve_right hl
    obtain⟨a,b,d⟩:=ih (fun y hy=>h0 y (List.mem_cons_of_mem _ hy)) h
    refine⟨List.mem_cons_of_mem _ a,b,fun y hy=>?_⟩
    rcases List.mem_cons.1 hy with e|hy
    ·rw[e];exact .inl h3
    ·exact d y hy
   ·rw[if_neg h2,if_pos rfl]at h⊢
    obtain⟨a,b⟩:=luk_three r l hl h
    rw[a]
    refine⟨List.mem_cons_self,by omega,fun y hy=>?_⟩
    rcases List.mem_cons.1 hy with e|hy
    ·exact .inr e
    ·exact b y hy
theorem clauseB_lit {c:List Int} (h:clauseB c=true) {y:Int} (hy:y∈c):litB y=true:=by
 unfold clauseB at h
 rw[Bool.and_eq_true]at h
 exact List.all_eq_true.1 h.2 y hy
theorem litB_ne {y:Int} (h:litB y=true):y≠0:=((litB_iff y).1 h).1
section
variable {P:Int→Prop} {f:Int→Int}
theorem Under.false_ (hw:Way P) (h:Under f P) {y:Int} (hy:litB y=true) (hn:ofF f y<0): ¬P y:=fun hp=>by
 have h1:=h (-y) (by rw[litB_minus];exact hy) (by rw[ofF_minus f hy];omega)
 exact hw.one y hy hp h1
theorem Under.put (h:Under f P) {x:Int} (hx:litB x=true) (hp:P x):Under (putF f x) P:=fun y hy h0=>by
 by_cases e:litV y=litV x
 ·rcases litV_two hx e.symm with e|e
  ·rw[e];exact hp
  ·rw[e,k_put_neg f hx]at h0
   omega
 ·rw[k_put_ne f e]at h0
  exact h y hy h0
theorem Under.zero:Under (fun _=>0) P:=fun y _ h=>by
 unfold ofF at h
 simp only at h
 split at h <;> omega
theorem asg_under: ∀(xs:List Int) (f g:Int→Int),Under f P→(∀x∈xs,P x)→asgGo f xs=some g→Under g P:=by
 intro xs
 induction xs with
 | nil=>
  intro f g hf _ h
  obtain rfl:=Option.some.inj h
  exact hf
 | cons x r ih=>
  intro f g hf hx h
  unfold asgGo at h
  split at h
  ·rename_i hc
   exact ih _ g (hf.put hc.1 (hx x List.mem_cons_self)) (fun y hy=>hx y (List.mem_cons_of_mem _ hy)) h
  ·cases h
theorem look_sound (hw:Way P) (h:Under f P) {c:List Int} (hc:clauseB c=true) (ht: ∃y∈c,P y):(lookF f c).1≠2∧((lookF f c).1=3→P (lookF f c).2∧litB (lookF f c).2=true):=by
 obtain⟨y,hy,hp⟩:=ht
 have h0: ∀y∈c,y≠0:=fun y hy=>litB_ne (clauseB_lit hc hy)
 refine⟨fun e=>?_,fun e=>?_⟩
 ·exact h.false_ hw (clauseB_lit hc hy) (luk_two c h0 e y hy) hp
 ·obtain⟨a,_,b⟩:=luk_unit c h0 e
  refine⟨?_,clauseB_lit hc a⟩
  rcases b y hy with b|b
  ·exact absurd hp (h.false_ hw (clauseB_lit hc hy) b)
  ·unfold lookF
   rw[←b]
   exact hp
theorem fol_sound (hw:Way P): ∀(hs:List (List Int)) (f:Int→Int) (us:List Int) (i:Nat),Under f P→(∀c∈hs,clauseB c=true)→(∀c∈hs,∃y∈c,P y)→(folGo f hs us i).2.2.1=false:=by
 intro hs
 induction hs with
 | nil=>exact fun _ _ _ _ _ _=>rfl
 | cons c r ih=>
  intro f us i hf hb ht
  obtain⟨h1,h2⟩:=look_sound hw hf (hb c List.mem_cons_self) (ht c List.mem_cons_self)
  unfold folGo
  rw[if_neg h1]
  split
  ·rename_i h3
   obtain⟨a,b⟩:=h2 h3
   exact ih _ _ _ (hf.put b a) (fun c hc=>hb c (List.mem_cons_of_mem _ hc)) (fun c hc=>ht c (List.mem_cons_of_mem _ hc))
  ·rfl
theorem chk_sound (hw:Way P) {c:List Int} {hs:List (List Int)} (hc:clauseB c=true) (hb: ∀d∈hs,clauseB d=true) (ht: ∀d∈hs,∃y∈d,P y) (h:(chkP c hs).2.2=0): ∃y∈c,P y:=by
 refine Classical.byContradiction fun hn=>?_
 have hn: ∀y∈c,P (-y):=fun y hy=>(hw.all y (clauseB_lit hc hy)).resolve_left fun hp=>hn ⟨y,hy,hp⟩
 have hno: ∀y∈c,-y∉c:=fun y hy hm=>by
  have h1:=hn y hy
  have h2:=hn _ hm
  exact hw.one (-y) (by rw[litB_minus];exact clauseB_lit hc hy) h1 h2
 have hal:alwL c=false:=alwL_no hno
 obtain⟨f,hf,hs2⟩:=asm_ok hc hno
 have hu:Under f P:=fun y hy h0=>by
  have h3:=((hs2 y hy).1).1 h0
  have:=hn _ h3
  rwa [Int.neg_neg]at this
 have h4:=fol_sound hw hs f [] 0 hu hb ht
 unfold chkP at h
 rw[if_neg (by rw[hal];decide),hf]at h
 simp only at h
 split at h
 ·cases h
 ·rename_i h5
  exact h5 ⟨h,h4⟩
end
abbrev Ents:=List (Int×List Int)
def ratFol (es:Ents):List Int→List Int→List Int×Bool×Int×Nat
 | asg,[]=>(asg,false,0,0)
 | asg,id::r=>match getA es id with
  | none=>([],false,id,91)
  | some c=>match asgF asg with
   | none=>([],false,id,81)
   | some f=>if(lookF f c).1=2 then(asg,true,0,0)else if(lookF f c).1=3 then ratFol es (asg++ [(lookF f c).2]) r else([],false,id,81)
def candB (p:Int) (c:List Int):Bool:=c.contains (litN p)&& !alwL c
def restGo (p:Int) (asg:List Int):List Int→List Int→List Int×Bool
 | out,[]=>(out,true)
 | out,l::r=>if l=litN p then restGo p asg out r else if asg.contains l=true then([],false)else restGo p asg (out++ [litN l]) r
def ratWant (es:Ents) (p:Int):List Int:=(es.filter fun x=>candB p x.2).map Prod.fst
def ratIds (want:List Int):Int→List Int→Int×Nat
 | _,[]=>(0,0)
 | last,g::r=>if want.contains g=false∨g≤last then(g,92)else ratIds want g r
def ratGrp (es:Ents) (p:Int) (gs:List (Int×List Int)):Int×Nat:=match (ratWant es p).find? fun id=> !(gs.map Prod.fst).contains id with
 | some id=>(id,92)
 | none=>ratIds (ratWant es p) 0 (gs.map Prod.fst)
def ratLoop (es:Ents) (p:Int) (asg:List Int):List (Int×List Int)→Int×Nat
 | []=>(0,0)
 | g::r=>if(restGo p asg [] ((getA es g.1).getD [])).2=false then ratLoop es p asg r else
  if(ratFol es (asg++(restGo p asg [] ((getA es g.1).getD [])).1) g.2).2.2.2≠0 then(ratFol es (asg++(restGo p asg [] ((getA es g.1).getD [])).1) g.2).2.2 else
  if(ratFol es (asg++(restGo p asg [] ((getA es g.1).getD [])).1) g.2).2.1=false then(g.1,93)else ratLoop es p asg r
def ratP (es:Ents) (c hs:List Int) (gs:List (Int×List Int)):Nat×Int×Nat:=
 if alwL c=true then(1,0,0)else
 if(ratFol es (asmL c) hs).2.2.2≠0 then(0,(ratFol es (asmL c) hs).2.2)else
 if(ratFol es (asmL c) hs).2.1=true then(1,0,0)else
 match c with
 | []=>(0,0,82)
 | p::_=>if(ratGrp es p gs).2≠0 then(0,ratGrp es p gs)else if(ratLoop es p (ratFol es (asmL c) hs).1 gs).2≠0 then(0,ratLoop es p (ratFol es (asmL c) hs).1 gs)else(2,0,0)
section
variable {P:Int→Prop} {es:Ents}
theorem ratFol_sound (hw:Way P) (hb: ∀x∈es,clauseB x.2=true) (ht: ∀x∈es,∃y∈x.2,P y): ∀(hs asg:List Int),(∀y∈asg,P y)→(ratFol es asg hs).2.1=false∧∀y∈(ratFol es asg hs).1,P y:=by
 intro hs
 induction hs with
 | nil=>exact fun asg h=>⟨rfl,h⟩
 | cons id r ih=>
  intro asg h
  unfold ratFol
  cases hg:getA es id with
  | none=>exact⟨rfl,fun y hy=>by cases hy⟩
  | some c=>
   simp only
   cases ha:asgF asg with
   | none=>exact⟨rfl,fun y hy=>by cases hy⟩
   | some f=>
    simp only
    have hm:=getA_some hg
    obtain⟨h1,h2⟩:=look_sound hw (asg_under asg _ f Under.zero h ha) (hb _ hm) (ht _ hm)
    rw[if_neg h1]
    split
    ·rename_i h3
     refine ih _ fun y hy=>?_
     rcases List.mem_append.1 hy with hy|hy
     ·exact h y hy
     ·rw[List.mem_singleton.1 hy]
      exact(h2 h3).1
    ·exact⟨rfl,fun y hy=>by cases hy⟩
theorem asm_under (hw:Way P) {c:List Int} (hc:clauseB c=true) (hn: ¬ ∃y∈c,P y): ∀y∈asmL c,P y:=fun y hy=>by
 have hr: ∀x∈c,litB x=true:=fun x hx=>clauseB_lit hc hx
 unfold asmL at hy
 rw[sortL_mem,List.mem_map]at hy
 obtain⟨z,hz,rfl⟩:=hy
 have hz:=(normL_has hr).1 hz
 rw[litN_eq (hr z hz)]
 exact(hw.all z (hr z hz)).resolve_left fun hp=>hn ⟨z,hz,hp⟩
theorem restGo_out (p:Int) (asg:List Int): ∀(c out:List Int),(restGo p asg out c).2=true→(restGo p asg out c).1=out++(c.filter fun l=>decide (l≠litN p)).map litN:=by
 intro c
 induction c with
 | nil=>intro out _;simp[restGo]
 | cons l r ih=>
  intro out h
  unfold restGo at h⊢
  split at h
  ·rename_i e
   rw[if_pos e,ih out h,List.filter_cons_of_neg (by simp[e])]
  ·rename_i e
   split at h
   ·cases h
   ·rename_i e2
    rw[if_neg e,if_neg e2,ih _ h,List.filter_cons_of_pos (by simp[e]),List.map_cons,List.append_assoc]
    rfl
theorem restGo_no (p:Int) (asg:List Int): ∀(c out:List Int),(restGo p asg out c).2=false→∃l∈c,l≠litN p∧l∈asg:=by
 intro c
 induction c with
 | nil=>intro out h;cases h
 | cons l r ih=>
  intro out h
  unfold restGo at h
  split at h
  ·obtain⟨a,b,d⟩:=ih out h
   exact⟨a,List.mem_cons_of_mem _ b,d⟩
  ·rename_i e
   split at h
   ·rename_i e2
    exact⟨l,List.mem_cons_self,e,List.contains_iff_mem.1 e2⟩
   ·obtain⟨a,b,d⟩:=ih _ h
    exact⟨a,List.mem_cons_of_mem _ b,d⟩
theorem ratLoop_sound (hw:Way P) (hb: ∀x∈es,clauseB x.2=true) (ht: ∀x∈es,∃y∈x.2,P y) {p:Int} {asg:List Int} (ha: ∀y∈asg,P y): ∀(gs:List (Int×List Int)),(ratLoop es p asg gs).2=0→∀g∈gs,∀c,getA es g.1=some c→∃y∈c,y≠litN p∧P y:=by
 intro gs
 induction gs with
 | nil=>intro _ g hg;cases hg
 | cons g r ih=>
  intro h g' hg' c hc
  unfold ratLoop at h
  have key:(ratLoop es p asg r).2=0∧(getA es g.1=some c→∃y∈c,y≠litN p∧P y):=by
   split at h
   ·rename_i h1
    refine⟨h,fun hgc=>?_⟩
    rw[hgc]at h1
    obtain⟨l,a,b,d⟩:=restGo_no p asg c [] h1
    exact⟨l,a,b,ha l d⟩
   ·rename_i h1
    split at h
    ·rename_i h2
     exact absurd h h2
    ·split at h
     ·cases h
     ·rename_i h2 h3
      refine⟨h,fun hgc=>?_⟩
      rw[hgc]at h1 h3
      have h1':(restGo p asg [] c).2=true:=by
       cases hx:(restGo p asg [] c).2 with
       | true=>rfl
       | false=>exact absurd hx h1
      refine Classical.byContradiction fun hn=>h3 ?_
      refine(ratFol_sound hw hb ht g.2 _ fun y hy=>?_).1
      rcases List.mem_append.1 hy with hy|hy
      ·exact ha y hy
      ·have e:=restGo_out p asg c [] h1'
       rw[List.nil_append]at e
       have hy:y∈(restGo p asg [] c).1:=hy
       rw[e]at hy
       obtain⟨z,hz,rfl⟩:=List.mem_map.1 hy
       obtain⟨hz1,hz2⟩:=List.mem_filter.1 hz
       have hzb:=clauseB_lit (hb _ (getA_some hgc)) hz1
       rw[litN_eq hzb]
       exact(hw.all z hzb).resolve_left fun hp=>hn ⟨z,hz1,of_decide_eq_true hz2,hp⟩
  rcases List.mem_cons.1 hg' with e|hg'
  ·rw[e]at hc
   exact key.2 hc
  ·exact ih key.1 g' hg' c hc
end
end Go.Proofs.YtkfgplfllddhnaaGreatDoor
