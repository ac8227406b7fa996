/- Plain: variables of literals. Plain: what a clause is, by the values of literals. Plain: hints are followed from the negations of a clause. package salvorlaw08: True, AllTrue. Maps of any values at integer keys (int, or a type of its kind), that the program made: their entries in the order of the keys. Plain: what follows by hints holds wherever the hints do. Plain: a checker of proofs: its entries, the last ID, what it reports; what a step does. package proof: a checker in memory; Proved, Last, Report, put. -/
import Derived.Test.YtajbmjpodeilpaaGreatDoorV202
import Derived.Test.YtajbmjpodeilpaaGreatDoorV209
import Derived.Test.YtajbmjpodeilpaaGreatDoorV208
import Derived.Test.YtajbmjpodeilpaaGreatDoorV210
import Derived.Test.YtajbmjpodeilpaaGreatDoorV200
import Derived.Maps.OwnSet
import Derived.Maps.OwnOps
import Derived.Test.YtajbmjpodeilpaaGreatDoorV203
namespace Go.Proofs.YtajbmjpodeilpaaGreatDoor
open Go.RowKit
theorem litV_negate (l:Int):litV (-l)=litV l:=by
 have h:litB (-l)=litB l:=by
  unfold litB
  exact decide_eq_decide.2 (by omega)
 unfold litV
 rw[h,Int.natAbs_neg]
theorem litV_pos {l:Int} (h:litB l=true):1≤litV l∧(litV l:Int)=max l (-l):=by
 have:=(litB_iff l).1 h
 unfold litV
 rw[if_pos h]
 omega
theorem litB_minus (l:Int):litB (-l)=litB l:=by
 simp only[litB,decide_eq_decide]
 omega
theorem litV_zero {l:Int} (h:litB l=false):litV l=0:=by
 unfold litV
 rw[h]
 rfl
theorem litB_of_litV {l:Int} (h:0<litV l):litB l=true:=by
 cases hb:litB l with
 | true=>rfl
 | false=>rw[litV_zero hb]at h;omega
theorem litV_two {a b:Int} (ha:litB a=true) (h:litV a=litV b):b=a∨b= -a:=by
 have h1:=litV_pos ha
 have h2:=litV_pos (litB_of_litV (l:=b) (by omega))
 omega
theorem litN_eq {l:Int} (h:litB l=true):litN l= -l:=by unfold litN;rw[if_pos h]
end Go.Proofs.YtajbmjpodeilpaaGreatDoor
namespace Go.Proofs.YtajbmjpodeilpaaGreatDoor
open Go.RowKit
theorem litG_minus {x:Int} (hx:litB x=true):litG (-x)= !litG x:=by
 have h:=(litB_iff x).1 hx
 unfold litG
 rw[litB_minus,hx,Bool.true_and,Bool.true_and]
 by_cases h1:x<0
 ·rw[decide_eq_true h1,decide_eq_false (by omega)]
  rfl
 ·rw[decide_eq_false h1,decide_eq_true (by omega)]
  rfl
theorem k_put_self (f:Int→Int) (x:Int):ofF (putF f x) x=1:=by
 unfold ofF putF
 rw[if_pos rfl]
 cases litG x <;> rfl
theorem k_put_neg (f:Int→Int) {x:Int} (hx:litB x=true):ofF (putF f x) (-x)= -1:=by
 unfold ofF putF
 rw[litV_negate,if_pos rfl,litG_minus hx]
 cases litG x <;> rfl
theorem k_put_ne (f:Int→Int) {x y:Int} (h:litV y≠litV x):ofF (putF f x) y=ofF f y:=by
 unfold ofF putF
 simp only[if_neg (show¬(((litV y:Nat):Int)=((litV x:Nat):Int)) by omega)]
section
variable {f:Int→Int}
end
end Go.Proofs.YtajbmjpodeilpaaGreatDoor
namespace Go.Proofs.YtajbmjpodeilpaaGreatDoor
open Go.RowKit
def folGo (f:Int→Int):List (List Int)→List Int→Nat→List Int×Nat×Bool×Nat
 | [],us,i=>(us,i,false,0)
 | c::r,us,i=>if(lookF f c).1=2 then(us,i+1,true,0)else if(lookF f c).1=3 then folGo (putF f (lookF f c).2) r (us++ [(lookF f c).2]) (i+1)else([],i,false,81)
def chkP (c:List Int) (hs:List (List Int)):List Int×Nat×Nat:=
 if alwL c=true then([],0,0)else match asgF (asmL c)with
  | none=>([],0,82)
  | some f=>((folGo f hs [] 0).1,(folGo f hs [] 0).2.1,if(folGo f hs [] 0).2.2.2=0∧(folGo f hs [] 0).2.2.1=false then 82 else(folGo f hs [] 0).2.2.2)
def trimP (c:List Int) (hs:List (List Int)):List Int:=if(chkP c hs).2.2=0∧(chkP c hs).2.1≠0 then needL (hs.take (chkP c hs).2.1) (chkP c hs).1 else []
def Says (f:Int→Int) (P:Int→Prop):Prop:= ∀y,litB y=true→((0<ofF f y↔P y)∧(ofF f y<0↔P (-y)))
end Go.Proofs.YtajbmjpodeilpaaGreatDoor
namespace Go.Proofs.YtajbmjpodeilpaaGreatDoor
open Go.RowKit
def bitT (n:Nat) (l:Int):Bool:=if 0<l then n.testBit l.toNat else !n.testBit (-l).toNat
def allT (n:Nat) (cs:List (List Int)):Bool:=cs.all fun c=>c.any (bitT n)
def Lits6 (cs:List (List Int)):Prop:= ∀c∈cs,c.length≤1000000∧∀y∈c,y≠0∧ -7<y∧y<7
end Go.Proofs.YtajbmjpodeilpaaGreatDoor
namespace Go.Proofs.YtajbmjpodeilpaaGreatDoor
open Go.RowKit Go.Maps Go.MapKept Go.ChangeMaps
open Go.WideElems (Fit rd rg pl rd_val elemAt)
section
variable {α β:Type}
def insA (x:Int×α):List (Int×α)→List (Int×α)
 | []=> [x]
 | y::r=>if x.1<y.1 then x::y::r else y::insA x r
def delA (m:List (Int×α)) (x:Int):List (Int×α):=m.filter fun p=>decide (p.1≠x)
def putA (m:List (Int×α)) (x:Int) (v:α):List (Int×α):=insA (x,v) (delA m x)
def getA (m:List (Int×α)) (x:Int):Option α:=(m.find? fun p=>decide (p.1=x)).map (·.2)
theorem insA_mem {x:Int×α} {m:List (Int×α)} {p:Int×α}:p∈insA x m↔p=x∨p∈m:=by
 induction m with
 | nil=>simp[insA]
 | cons y r ih=>
  unfold insA
  split
  ·simp
  ·simp only[List.mem_cons,ih]
   constructor
   ·rintro (h|h|h)
    ·exact .inr (.inl h)
    ·exact .inl h
    ·exact .inr (.inr h)
   ·rintro (h|h|h)
    ·exact .inr (.inl h)
    ·exact .inl h
    ·exact .inr (.inr h)
theorem delA_mem {m:List (Int×α)} {x:Int} {p:Int×α}:p∈delA m x↔p∈m∧p.1≠x:=by
 unfold delA
 rw[List.mem_filter,decide_eq_true_eq]
def Rising (m:List (Int×α)):Prop:=m.Pairwise fun p q=>p.1<q.1
theorem Rising.del {m:List (Int×α)} (h:Rising m) (x:Int):Rising (delA m x):=List.Pairwise.filter _ h
theorem Rising.ins {m:List (Int×α)} (h:Rising m) {x:Int×α} (hx: ∀p∈m,p.1≠x.1):Rising (insA x m):=by
 induction m with
 | nil=>exact List.pairwise_singleton _ _
 | cons y r ih=>
  obtain⟨h1,h2⟩:=List.pairwise_cons.1 h
  unfold insA
  split
  ·rename_i hlt
   refine List.pairwise_cons.2 ⟨fun p hp=>?_,h⟩
   rcases List.mem_cons.1 hp with rfl|hp
   ·exact hlt
   ·exact Int.lt_trans hlt (h1 p hp)
  ·rename_i hge
   refine List.pairwise_cons.2 ⟨fun p hp=>?_,ih h2 (fun p hp=>hx p (List.mem_cons_of_mem _ hp))⟩
   rcases insA_mem.1 hp with rfl|hp
   ·have:=hx y List.mem_cons_self
    omega
   ·exact h1 p hp
theorem Rising.put {m:List (Int×α)} (h:Rising m) (x:Int) (v:α):Rising (putA m x v):=(h.del x).ins (fun _ hp=>(delA_mem.1 hp).2)
theorem Rising.eq_of {m:List (Int×α)} (h:Rising m) {p q:Int×α} (hp:p∈m) (hq:q∈m) (he:p.1=q.1):p=q:=by
 induction m with
 | nil=>cases hp
 | cons y r ih=>
  obtain⟨h1,h2⟩:=List.pairwise_cons.1 h
  rcases List.mem_cons.1 hp with rfl|hp'
  ·rcases List.mem_cons.1 hq with rfl|hq'
   ·rfl
   ·have:=h1 q hq'
    omega
  ·rcases List.mem_cons.1 hq with rfl|hq'
   ·have:=h1 p hp'
    omega
   ·exact ih h2 hp' hq'
theorem getA_some {m:List (Int×α)} {x:Int} {v:α} (h:getA m x=some v):(x,v)∈m:=by
 unfold getA at h
 cases hf:m.find? (fun p=>decide (p.1=x))with
 | none=>rw[hf]at h;cases h
 | some p=>
  rw[hf]at h
  obtain rfl:=Option.some.inj h
  have h1:=List.find?_some hf
  rw[decide_eq_true_eq]at h1
  have h2:=List.mem_of_find?_eq_some hf
  rw[←h1]
  exact h2
theorem getA_of {m:List (Int×α)} (hr:Rising m) {x:Int} {v:α} (h:(x,v)∈m):getA m x=some v:=by
 unfold getA
 cases hf:m.find? (fun p=>decide (p.1=x))with
 | none=>
  have:=List.find?_eq_none.1 hf _ h
  simp at this
 | some p=>
  have h1:=List.find?_some hf
  rw[decide_eq_true_eq]at h1
  have:=hr.eq_of (List.mem_of_find?_eq_some hf) h h1
  rw[this]
  rfl
theorem getA_none {m:List (Int×α)} {x:Int}:getA m x=none↔∀v,(x,v)∉m:=by
 constructor
 ·intro h v hv
  unfold getA at h
  rw[Option.map_eq_none_iff,List.find?_eq_none]at h
  have:=h _ hv
  simp at this
 ·intro h
  cases hg:getA m x with
  | none=>rfl
  | some v=>exact absurd (getA_some hg) (h v)
theorem insA_length (x:Int×α) (m:List (Int×α)):(insA x m).length=m.length+1:=by
 induction m with
 | nil=>rfl
 | cons y r ih=>
  unfold insA
  split
  ·rfl
  ·simp[ih]
theorem putA_length_le (m:List (Int×α)) (x:Int) (v:α):(putA m x v).length≤m.length+1:=by
 unfold putA
 rw[insA_length]
 exact Nat.succ_le_succ (List.length_filter_le _ _)
def mapV (f:α→β) (m:List (Int×α)):List (Int×β):=m.map fun p=>(p.1,f p.2)
theorem mapV_ins (f:α→β) (x:Int×α) (m:List (Int×α)):mapV f (insA x m)=insA (x.1,f x.2) (mapV f m):=by
 induction m with
 | nil=>rfl
 | cons y r ih=>
  unfold mapV at ih⊢
  simp only[insA,List.map_cons]
  split
  ·rfl
  ·rw[List.map_cons,ih]
theorem mapV_del (f:α→β) (m:List (Int×α)) (x:Int):mapV f (delA m x)=delA (mapV f m) x:=by
 unfold mapV delA
 rw[List.filter_map]
 rfl
theorem mapV_put (f:α→β) (m:List (Int×α)) (x:Int) (v:α):mapV f (putA m x v)=putA (mapV f m) x (f v):=by
 unfold putA
 rw[mapV_ins,mapV_del]
theorem mapV_get (f:α→β) (m:List (Int×α)) (x:Int):getA (mapV f m) x=(getA m x).map f:=by
 unfold getA mapV
 rw[List.find?_map]
 have:((fun p:Int×β=>decide (p.1=x)) ∘ fun p:Int×α=>(p.1,f p.2))=fun p:Int×α=>decide (p.1=x):=rfl
 rw[this]
 cases m.find? (fun p=>decide (p.1=x)) <;> rfl
theorem mapV_length (f:α→β) (m:List (Int×α)):(mapV f m).length=m.length:=List.length_map _
theorem mapV_rising_of {f:α→β} {m:List (Int×α)} (h:Rising (mapV f m)):Rising m:=by
 unfold Rising mapV at h
 rw[List.pairwise_map]at h
 exact h
theorem Rising.length_le {m:List (Int×α)} (h:Rising m) {lo hi:Int} (hr: ∀p∈m,lo≤p.1∧p.1≤hi) (hlo:lo≤hi+1):(m.length:Int)≤hi-lo+1:=by
 induction m generalizing lo with
 | nil=>simp;omega
 | cons y r ih=>
  obtain⟨h1,h2⟩:=List.pairwise_cons.1 h
  have hy:=hr y List.mem_cons_self
  have:=ih (lo:=y.1+1) h2 (fun p hp=>⟨by have:=h1 p hp;omega,(hr p (List.mem_cons_of_mem _ hp)).2⟩) (by omega)
  simp only[List.length_cons]
  omega
end
def mapR (v:Value):Option (DataW Value×List MemPlace):=some (.held v,[])
def encE (m:List (Int×Value)):List (Lit×DataW Value):=m.map fun p=>(.int .i64 p.1,.held p.2)
theorem encE_ins (x:Int×Value) (m:List (Int×Value)):DataW.insert (.int .i64 x.1,.held x.2) (encE m)=encE (insA x m):=by
 induction m with
 | nil=>rfl
 | cons y r ih=>
  have hb:(Lit.int .i64 x.1).before (.int .i64 y.1)=decide (x.1<y.1):=rfl
  show(if(Lit.int .i64 x.1).before (.int .i64 y.1)=true then _ else _)=_
  by_cases h:x.1<y.1
  ·rw[if_pos (by rw[hb];exact decide_eq_true h)]
   unfold insA
   rw[if_pos h]
   rfl
  ·rw[if_neg (by rw[hb];simpa using h)]
   unfold insA
   rw[if_neg h]
   show _::DataW.insert _ (encE r)=_
   rw[ih]
   rfl
theorem encE_del (m:List (Int×Value)) (x:Int):(encE m).filter (fun p=> !p.1.sameKey (.int .i64 x))=encE (delA m x):=by
 unfold encE delA
 rw[List.filter_map]
 congr 1
 refine List.filter_congr (fun p _=>?_)
 simp[Lit.sameKey]
section
variable {P:Program} {kt t et:TypeId} {w:World} {b:Nat} {m:List (Int×Value)}
def MapS (P:Program) (kt:TypeId) (w:World) (b:Nat) (m:List (Int×Value)):Prop:=
 w.ownsMap P kt mapR b m.length (.map (encE m))∧Rising m∧∀p∈m,(Lit.int .i64 p.1).wf=true
theorem MapS.lt (h:MapS P kt w b m):b<w.heap.size:=h.1.lt
theorem MapS.kept {O:Nat→Prop} {w':World} (h:MapS P kt w b m) (k:Kept O w w') (hO: ¬O b):MapS P kt w' b m:=by
 obtain⟨⟨es,cl,hb,rest⟩,h2⟩:=h
 exact⟨⟨es,cl,(k.block b (heap_lt hb) hO).trans hb,rest⟩,h2⟩
theorem MapS.below {w':World} (h:MapS P kt w b m) (k:Below w.heap.size w w'):MapS P kt w' b m:=h.kept (O:=fun _=>False) (Kept.of_below k) (fun h=>h)
theorem MapS.made (w:World):MapS P kt (w.alloc (.map #[] 0)) w.heap.size []:=
 ⟨World.ownsMap_made _ _ _ _,List.Pairwise.nil,fun p hp=>by cases hp⟩
theorem ownsMap_exact {R:Value→Option (DataW Value×List MemPlace)} {n:Nat} {E:List (Lit×DataW Value)} (h:w.ownsMap P kt R b n (.map E)):w.ownsMap P kt R b E.length (.map E):=by
 obtain⟨es,cl,hb,F,_,hD⟩:=h
 refine⟨es,cl,hb,F,?_,hD⟩
 cases hD
 rw[length_sorted]
 simp
theorem encE_length (m:List (Int×Value)):(encE m).length=m.length:=List.length_map _
theorem atKey_encE (m:List (Int×Value)) (x:Int) (z:DataW Value):(DataW.map (encE m)).atKey (.int .i64 x) z=match getA m x with
  | some v=>.held v
  | none=>z:=by
 have e:(encE m).find? (fun p=>p.1.sameKey (.int .i64 x))=(m.find? (fun p=>decide (p.1=x))).map fun p=>(.int .i64 p.1,.held p.2):=by
  unfold encE
  rw[List.find?_map]
  have:((fun p:Lit×DataW Value=>p.1.sameKey (.int .i64 x)) ∘ fun p:Int×Value=>(Lit.int .i64 p.1,DataW.held p.2))=fun p:Int×Value=>decide (p.1=x):=by
   funext p
   simp[Lit.sameKey]
  rw[this]
 unfold DataW.atKey getA
 simp only[e]
 cases m.find? (fun p=>decide (p.1=x)) <;> rfl
theorem MapS.look (h:MapS P kt w b m) (K:Keyed P kt) (hk:P.underlying kt=some (.int .i64)) (ht:P.underlying t=some (.map kt et)) {z:Value} (hz:(zeroValue et).run P w= .ok z w) (c:Bool) {x:Int} (hx:(Lit.int .i64 x).wf=true):
  (Instr.lookup t (.map (some b)) (.int .i64 x) c).run P w= .ok (if c then .tuple #[(getA m x).getD z,.bool (getA m x).isSome]else(getA m x).getD z) w:=by
 obtain⟨⟨es,cl,hb,F,_,hD⟩,_⟩:=h
 have hat0:=atKey_encE m x
 rw[hD]at hat0
 rcases Maps.fit_look c K ht hz hb F (keyOf_int_mk hk hx)with⟨hrun,_,hat⟩|⟨e0,y,_,_,hrun,hRv,hat,_⟩
 ·have h1:=hat0 .nil
  rw[hat]at h1
  cases hg:getA m x with
  | none=>rw[hrun];rfl
  | some v=>rw[hg]at h1;cases h1
 ·have h1:=hat0 .nil
  rw[hat]at h1
  have hy:y.1= .held e0.val:=by
   cases hRv
   rfl
  rw[hy]at h1
  cases hg:getA m x with
  | none=>rw[hg]at h1;cases h1
  | some v=>
   rw[hg]at h1
   cases h1
   rw[hrun]
   rfl
theorem MapS.of_put {w':World} {n:Nat} (hr:Rising m) (hw: ∀p∈m,(Lit.int .i64 p.1).wf=true) {x:Int} (hx:(Lit.int .i64 x).wf=true) {v:Value} (h:w'.ownsMap P kt mapR b n ((DataW.map (encE m)).put (.int .i64 x) (.held v))):MapS P kt w' b (putA m x v):=by
 have e:(DataW.map (encE m)).put (.int .i64 x) (.held v)= .map (encE (putA m x v)):=by
  show DataW.map (DataW.insert _ ((encE m).filter _))=_
  rw[encE_del,encE_ins (x,v)]
  rfl
 rw[e]at h
 have h2:=ownsMap_exact h
 rw[encE_length]at h2
 refine⟨h2,hr.put _ _,fun p hp=>?_⟩
 rcases insA_mem.1 hp with rfl|hp
 ·exact hx
 ·exact hw p (delA_mem.1 hp).1
theorem MapS.of_del {w':World} {n:Nat} (hr:Rising m) (hw: ∀p∈m,(Lit.int .i64 p.1).wf=true) {x:Int} (h:w'.ownsMap P kt mapR b n ((DataW.map (encE m)).del (.int .i64 x))):MapS P kt w' b (delA m x):=by
 have e:(DataW.map (encE m)).del (.int .i64 x)= .map (encE (delA m x)):=by
  show DataW.map ((encE m).filter _)=_
  rw[encE_del]
 rw[e]at h
 have h2:=ownsMap_exact h
 rw[encE_length]at h2
 exact⟨h2,hr.del _,fun p hp=>hw p (delA_mem.1 hp).1⟩
theorem MapS.update (h:MapS P kt w b m) (K:Keyed P kt) (hk:P.underlying kt=some (.int .i64)) (ht:P.underlying t=some (.map kt et)) (hn:m.length<maxLen) {x:Int} (hx:(Lit.int .i64 x).wf=true) (v:Value):
  ∃w',(Instr.mapUpdate t (.map (some b)) (.int .i64 x) v).run P w= .ok () w'∧MapS P kt w' b (putA m x v)∧w.grownBy w' (some b):=by
 obtain⟨w',h1,h2,h3⟩:=h.1.update K ht hn (keyOf_int_mk hk hx) (show mapR v=some (.held v,[])from rfl)
 exact⟨w',h1,MapS.of_put h.2.1 h.2.2 hx h2,h3⟩
theorem wpList_delS {ops:Array Oper} {rest:List Oper} {o:Oper} {a:Act} {Q:Exit→Act→World→Prop} (h:MapS P kt w b m) (K:Keyed P kt) (hk:P.underlying kt=some (.int .i64)) (ht:P.underlying t=some (.map kt et))
  (hg:o.guard=none) (mm x:Operand) (hop:o.op=Op.call { callee:=Callee.builtin Builtin.delete,args:= #[mm,x],argTypes:= #[t,kt] }) (hm:a.eval mm= .map (some b)) (i:Int) (hx:a.eval x= .int .i64 i) (hi:(Lit.int .i64 i).wf=true)
  (hK: ∀w',MapS P kt w' b (delA m i)→w.grownBy w' (some b)→wpList P ops Q rest (a.put o.dst (.tuple #[])) w'):wpList P ops Q (o::rest) a w:=
 wpList_delete_own w hg mm x t _ hop et K ht _ b m.length _ hm h.1 _ _ hx (keyOf_int_mk hk hi) (fun w' h1 h2=>hK w' (MapS.of_del h.2.1 h.2.2 h1) h2.grown)
end
end Go.Proofs.YtajbmjpodeilpaaGreatDoor
namespace Go.Proofs.YtajbmjpodeilpaaGreatDoor
open Go.RowKit
structure Way (P:Int→Prop):Prop where
 one: ∀y,litB y=true→P y→¬P (-y)
 all: ∀y,litB y=true→P y∨P (-y)
def Under (f:Int→Int) (P:Int→Prop):Prop:= ∀y,litB y=true→0<ofF f y→P y
theorem ofF_minus (f:Int→Int) {y:Int} (hy:litB y=true):ofF f (-y)= -ofF f y:=by
 unfold ofF
 rw[litG_minus hy,litV_negate]
 cases litG y <;> simp
theorem luk_cons (f:Int→Int) (k:Nat) (u l:Int) (r:List Int):lukGo f k u (l::r)=if 0<ofF f l then(1,0)else if ofF f l<0∨l=u then lukGo f k u r else if u=0 then lukGo f 3 l r else lukGo f 4 u r:=rfl
theorem luk_four {f:Int→Int}: ∀(c:List Int) (u:Int),u≠0→(lukGo f 4 u c).1≠3:=by
 intro c
 induction c with
 | nil=>
  intro u _
  show(4:Nat)≠3
  decide
 | cons l r ih=>
  intro u hu
  rw[luk_cons]
  by_cases h1:0<ofF f l
  ·rw[if_pos h1]
   decide
  ·rw[if_neg h1]
   by_cases h2:ofF f l<0∨l=u
   ·rw[if_pos h2]
    exact ih u hu
   ·rw[if_neg h2,if_neg hu]
    exact ih u hu
theorem luk_three {f:Int→Int}: ∀(c:List Int) (u:Int),u≠0→(lukGo f 3 u c).1=3→(lukGo f 3 u c).2=u∧∀y∈c,ofF f y<0∨y=u:=by
 intro c
 induction c with
 | nil=>exact fun u _ _=>⟨rfl,fun y hy=>by cases hy⟩
 | cons l r ih=>
  intro u hu h
  rw[luk_cons]at h⊢
  by_cases h1:0<ofF f l
  ·rw[if_pos h1]at h
   cases h
  ·rw[if_neg h1]at h⊢
   by_cases h2:ofF f l<0∨l=u
   ·rw[if_pos h2]at h⊢
    obtain⟨a,b⟩:=ih u hu h
    refine⟨a,fun y hy=>?_⟩
    rcases List.mem_cons.1 hy with e|hy
    ·rw[e];exact h2
    ·exact b y hy
   ·rw[if_neg h2,if_neg hu]at h
    exact absurd h (luk_four r u hu)
theorem luk_unit {f:Int→Int}: ∀(c:List Int),(∀y∈c,y≠0)→(lukGo f 2 0 c).1=3→(lukGo f 2 0 c).2∈c∧ofF f (lukGo f 2 0 c).2=0∧∀y∈c,ofF f y<0∨y=(lukGo f 2 0 c).2:=by
 intro c
 induction c with
 | nil=>
  intro _ h
  cases h
 | cons l r ih=>
  intro h0 h
  have hl:=h0 l List.mem_cons_self
  rw[luk_cons]at h⊢
  by_cases h1:0<ofF f l
  ·rw[if_pos h1]at h
   cases h
  ·rw[if_neg h1]at h⊢
   by_cases h2:ofF f l<0∨l=0
   ·rw[if_pos h2]at h⊢
    have h3:=h2.resolve_right hl
    obtain⟨a,b,d⟩:=ih (fun y hy=>h0 y (List.mem_cons_of_mem _ hy)) h
    refine⟨List.mem_cons_of_mem _ a,b,fun y hy=>?_⟩
    rcases List.mem_cons.1 hy with e|hy
    ·rw[e];exact .inl h3
    ·exact d y hy
   ·rw[if_neg h2,if_pos rfl]at h⊢
    obtain⟨a,b⟩:=luk_three r l hl h
    rw[a]
    refine⟨List.mem_cons_self,by omega,fun y hy=>?_⟩
    rcases List.mem_cons.1 hy with e|hy
    ·exact .inr e
    ·exact b y hy
theorem clauseB_lit {c:List Int} (h:clauseB c=true) {y:Int} (hy:y∈c):litB y=true:=by
 unfold clauseB at h
 rw[Bool.and_eq_true]at h
 exact List.all_eq_true.1 h.2 y hy
theorem litB_ne {y:Int} (h:litB y=true):y≠0:=((litB_iff y).1 h).1
section
variable {P:Int→Prop} {f:Int→Int}
theorem Under.put (h:Under f P) {x:Int} (hx:litB x=true) (hp:P x):Under (putF f x) P:=fun y hy h0=>by
 by_cases e:litV y=litV x
 ·rcases litV_two hx e.symm with e|e
  ·rw[e];exact hp
  ·rw[e,k_put_neg f hx]at h0
   omega
 ·rw[k_put_ne f e]at h0
  exact h y hy h0
theorem Under.zero:Under (fun _=>0) P:=fun y _ h=>by
 unfold ofF at h
 simp only at h
 split at h <;> omega
end
abbrev Ents:=List (Int×List Int)
def ratFol (es:Ents):List Int→List Int→List Int×Bool×Int×Nat
 | asg,[]=>(asg,false,0,0)
 | asg,id::r=>match getA es id with
  | none=>([],false,id,91)
  | some c=>match asgF asg with
   | none=>([],false,id,81)
   | some f=>if(lookF f c).1=2 then(asg,true,0,0)else if(lookF f c).1=3 then ratFol es (asg++ [(lookF f c).2]) r else([],false,id,81)
def candB (p:Int) (c:List Int):Bool:=c.contains (litN p)&& !alwL c
def restGo (p:Int) (asg:List Int):List Int→List Int→List Int×Bool
 | out,[]=>(out,true)
 | out,l::r=>if l=litN p then restGo p asg out r else if asg.contains l=true then([],false)else restGo p asg (out++ [litN l]) r
def ratWant (es:Ents) (p:Int):List Int:=(es.filter fun x=>candB p x.2).map Prod.fst
def ratIds (want:List Int):Int→List Int→Int×Nat
 | _,[]=>(0,0)
 | last,g::r=>if want.contains g=false∨g≤last then(g,92)else ratIds want g r
def ratGrp (es:Ents) (p:Int) (gs:List (Int×List Int)):Int×Nat:=match (ratWant es p).find? fun id=> !(gs.map Prod.fst).contains id with
 | some id=>(id,92)
 | none=>ratIds (ratWant es p) 0 (gs.map Prod.fst)
def ratLoop (es:Ents) (p:Int) (asg:List Int):List (Int×List Int)→Int×Nat
 | []=>(0,0)
 | g::r=>if(restGo p asg [] ((getA es g.1).getD [])).2=false then ratLoop es p asg r else
  if(ratFol es (asg++(restGo p asg [] ((getA es g.1).getD [])).1) g.2).2.2.2≠0 then(ratFol es (asg++(restGo p asg [] ((getA es g.1).getD [])).1) g.2).2.2 else
  if(ratFol es (asg++(restGo p asg [] ((getA es g.1).getD [])).1) g.2).2.1=false then(g.1,93)else ratLoop es p asg r
def ratP (es:Ents) (c hs:List Int) (gs:List (Int×List Int)):Nat×Int×Nat:=
 if alwL c=true then(1,0,0)else
 if(ratFol es (asmL c) hs).2.2.2≠0 then(0,(ratFol es (asmL c) hs).2.2)else
 if(ratFol es (asmL c) hs).2.1=true then(1,0,0)else
 match c with
 | []=>(0,0,82)
 | p::_=>if(ratGrp es p gs).2≠0 then(0,ratGrp es p gs)else if(ratLoop es p (ratFol es (asmL c) hs).1 gs).2≠0 then(0,ratLoop es p (ratFol es (asmL c) hs).1 gs)else(2,0,0)
section
variable {P:Int→Prop} {es:Ents}
theorem restGo_out (p:Int) (asg:List Int): ∀(c out:List Int),(restGo p asg out c).2=true→(restGo p asg out c).1=out++(c.filter fun l=>decide (l≠litN p)).map litN:=by
 intro c
 induction c with
 | nil=>intro out _;simp[restGo]
 | cons l r ih=>
  intro out h
  unfold restGo at h⊢
  split at h
  ·rename_i e
   rw[if_pos e,ih out h,List.filter_cons_of_neg (by simp[e])]
  ·rename_i e
   split at h
   ·cases h
   ·rename_i e2
    rw[if_neg e,if_neg e2,ih _ h,List.filter_cons_of_pos (by simp[e]),List.map_cons,List.append_assoc]
    rfl
end
end Go.Proofs.YtajbmjpodeilpaaGreatDoor
namespace Go.Proofs.YtajbmjpodeilpaaGreatDoor
open Go.RowKit
structure Ckr where
 ents:Ents
 last:Int
 proved:Bool
 adds:Int
 dels:Int
 rats:Int
 largest:Int
def ckr0:Ckr:=⟨[],0,false,0,0,0,0⟩
def Ckr.put (k:Ckr) (id:Int) (c:List Int):Ckr:=
 ⟨putA k.ents id c,id,k.proved||c.isEmpty,k.adds,k.dels,k.rats,max k.largest (putA k.ents id c).length⟩
def Ckr.putAll (k:Ckr):Nat→List (List Int)→Ckr
 | _,[]=>k
 | i,c::r=>(k.put ((i:Int)+1) c).putAll (i+1) r
def ckrNew (cs:List (List Int)):Ckr:={ (ckr0.putAll 0 cs)with last:=cs.length }
def ckNamed (es:Ents):List Int→List (List Int)
 | []=> []
 | id::r=>match getA es id with
  | some c=>c::ckNamed es r
  | none=> []
def ckFol (es:Ents) (c hs:List Int):Bool×Int×Nat:=
 if(chkP c (ckNamed es hs)).2.2=0 then(true,0,0)else
 if(chkP c (ckNamed es hs)).2.2=81 then(false,hs.getD (chkP c (ckNamed es hs)).2.1 0,81)else
 if(ckNamed es hs).length<hs.length then(false,hs.getD (ckNamed es hs).length 0,91)else(false,0,0)
def splitGo:List Int→List (Int×List Int)→List Int→List Int×List (Int×List Int)
 | out,gs,[]=>(out,gs)
 | out,gs,h::r=>if h<0 then splitGo out (gs++ [(-h,[])]) r else
  match gs.getLast? with
  | some g=>splitGo out (gs.dropLast++ [(g.1,g.2++ [h])]) r
  | none=>splitGo (out++ [h]) gs r
def splitL (hs:List Int):List Int×List (Int×List Int):=splitGo [] [] hs
def ckAdd (es:Ents) (c hs:List Int):Nat×Int×Nat:=
 if(ckFol es c (splitL hs).1).2.2≠0 then(0,(ckFol es c (splitL hs).1).2)else
 if(ckFol es c (splitL hs).1).1=true then(1,0,0)else ratP es c (splitL hs).1 (splitL hs).2
def ckDel:Ents→List Int→Ents×Int×Nat
 | es,[]=>(es,0,0)
 | es,id::r=>if(getA es id).isNone=true then(es,id,91)else ckDel (delA es id) r
def Ckr.do_ (k:Ckr) (s:EStep):Ckr×Nat×Int×Nat:=
 if k.proved=true then(k,0,0,0)else
 if stepB s=false then(k,0,0,70)else
 if s.id<k.last∨s.id=k.last∧s.del=false then(k,0,s.id,100)else
 if s.del=true then(if(ckDel k.ents s.hints).2.2=0 then({ k with ents:=(ckDel k.ents s.hints).1,last:=s.id,dels:=k.dels+1 },0,0,0)else(k,0,(ckDel k.ents s.hints).2))else
 if(ckAdd k.ents s.lits s.hints).2.2≠0 then(k,0,(ckAdd k.ents s.lits s.hints).2)else
 ({ (k.put s.id s.lits)with adds:=k.adds+1,rats:=if(ckAdd k.ents s.lits s.hints).1=2 then k.rats+1 else k.rats },(ckAdd k.ents s.lits s.hints).1,0,0)
structure Ckr.Ok (k:Ckr) (N:Nat):Prop where
 rise:Rising k.ents
 ids: ∀p∈k.ents,1≤p.1∧p.1≤1073741824∧p.1≤k.last
 cls: ∀p∈k.ents,clauseB p.2=true
 last0:0≤k.last
 last1:k.last≤1073741824
 len:k.ents.length≤N
 prv:k.proved=k.ents.any (fun p=>p.2.isEmpty)∨k.proved=false
 adds:0≤k.adds∧k.adds≤N
 dels:0≤k.dels∧k.dels≤N
 rats:0≤k.rats∧k.rats≤N
 larg:0≤k.largest∧k.largest≤N
end Go.Proofs.YtajbmjpodeilpaaGreatDoor
namespace Go.Proofs.YtajbmjpodeilpaaGreatDoor
open Go.RowKit Go.Maps
theorem wp_putK_at {P:Program} {kt t et:TypeId} {w:World} {b:Nat} {m:List (Int×Value)} {o:Oper} {a:Act} {K:Act→World→Prop} {Q:Exit→Act→World→Prop} (h:MapS P kt w b m) (KK:Keyed P kt) (hk:P.underlying kt=some (.int .i64)) (ht:P.underlying t=some (.map kt et))
  (mm x v:Operand) (hop:o.op=Op.mapUpdate t mm x v) (hm:a.eval mm= .map (some b)) (hn:m.length<maxLen) (i:Int) (y:Value) (hx:a.eval x= .int .i64 i) (hv:a.eval v=y) (hi:(Lit.int .i64 i).wf=true)
  (hK: ∀w',MapS P kt w' b (putA m i y)→w.grownBy w' (some b)→K (a.put o.dst undef) w'):Oper.wp P o a w K Q:=by
 obtain⟨w',hr,h2,h3⟩:=h.update KK hk ht hn hi y
 unfold Oper.wp execOp
 simp only[hop,hm,hx,hv,Sem.run_bind,Sem.run_pure,Result.andThen_ok,hr]
 exact hK w' h2 h3
theorem map_not_cells {P:Program} {kt:TypeId} {w:World} {b g:Nat} {m:List (Int×Value)} (h:MapS P kt w b m) {cs:Array Value} {t:TypeId} {f:Nat×Nat} (hg:w.heap[g]? =some (.cells cs t f)):g≠b:=by
 rintro rfl
 obtain⟨⟨es,cl,hb,_⟩,_⟩:=h
 rw[hg]at hb
 cases hb
abbrev MapI (w:World) (b:Nat) (m:List (Int×Value)):Prop:=MapS Tryz.prog 3 w b m
structure CkMem (X:Nat→Prop) (base:Nat) (w:World) (b mb:Nat) (k:Ckr) (K:List (Int×(Value×List Int))):Prop where
 bb:base≤b
 bm:base≤mb
 box:w.heap[b]? =some (.cells #[.map (some mb),.int .i64 k.last,.bool k.proved,.int .i64 k.adds,.int .i64 k.dels,.int .i64 k.rats,.int .i64 k.largest] 91 (0,0))
 map:MapI w mb (mapV Prod.fst K)
 ents:k.ents=mapV Prod.snd K
 row: ∀p∈K,w.ownsRow base 28 1 p.2.1 p.2.2.length (p.2.2.map (Value.int .i64))
 offb: ¬X b
 offm: ¬X mb
 off: ∀p∈K,∀g,p.2.1.ownBlock=some g→¬X g
def CkAtX (X:Nat→Prop) (base:Nat) (w:World) (b:Nat) (k:Ckr):Prop:= ∃mb K,CkMem X base w b mb k K
abbrev CkAt (base:Nat) (w:World) (b:Nat) (k:Ckr):Prop:=CkAtX (fun _=>False) base w b k
section
variable {X:Nat→Prop} {base:Nat} {w w':World} {b mb:Nat} {k:Ckr} {K:List (Int×(Value×List Int))}
theorem CkMem.kept {O:Nat→Prop} (h:CkMem X base w b mb k K) (q:Kept O w w') (hO: ∀g,base≤g→¬O g):CkMem X base w' b mb k K where
 bb:=h.bb
 bm:=h.bm
 box:=(q.block b (heap_lt h.box) (hO b h.bb)).trans h.box
 map:=h.map.kept q (hO mb h.bm)
 ents:=h.ents
 row:=fun p hp=>own_kept (h.row p hp) q (fun g hg=>hO g (own_lt (h.row p hp) g hg).1)
 offb:=h.offb
 offm:=h.offm
 off:=h.off
theorem CkMem.below (h:CkMem X base w b mb k K) (q:Below w.heap.size w w'):CkMem X base w' b mb k K:=
 h.kept (O:=fun _=>False) (Kept.of_below q) (fun _ _ h=>h)
theorem CkAtX.below (h:CkAtX X base w b k) (q:Below w.heap.size w w'):CkAtX X base w' b k:=by
 obtain⟨mb,K,h⟩:=h
 exact⟨mb,K,h.below q⟩
theorem CkAt.below (h:CkAt base w b k) (q:Below w.heap.size w w'):CkAt base w' b k:=CkAtX.below h q
theorem CkAtX.at_ (h:CkAtX X base w b k):CkAt base w b k:=by
 obtain⟨mb,K,h⟩:=h
 exact⟨mb,K,h.bb,h.bm,h.box,h.map,h.ents,h.row,fun h=>h,fun h=>h,fun _ _ _ _ h=>h⟩
theorem CkAt.fresh (h:CkAt base w b k) {Y:Nat→Prop} (hY: ∀g,Y g→w.heap.size≤g):CkAtX Y base w b k:=by
 obtain⟨mb,K,h⟩:=h
 exact⟨mb,K,h.bb,h.bm,h.box,h.map,h.ents,h.row,fun hb=>by have:=hY _ hb;have:=heap_lt h.box;omega,fun hb=>by have:=hY _ hb;have:=h.map.lt;omega,fun p hp g hg hb=>by have:=hY _ hb;have:=(own_lt (h.row p hp) g hg).2;omega⟩
theorem CkAtX.other (h:CkAtX X base w b k) {p:Nat} {cs:Array Value} {T:TypeId} (hp:w.heap[p]? =some (.cells cs T (0,0))) (h1:T≠28) (h2:T≠91) (q:Kept (fun g=>g=p) w w'):CkAtX X base w' b k:=by
 obtain⟨mb,K,h⟩:=h
 have hb:b≠p:=fun e=>by
  have:=h.box
  rw[e,hp]at this
  simp only[Option.some.injEq,Obj.cells.injEq]at this
  exact h2 this.2.1
 exact⟨mb,K,h.bb,h.bm,(q.block b (heap_lt h.box) hb).trans h.box,h.map.kept q (fun e=>map_not_cells h.map hp e.symm),h.ents,fun x hx=>own_kept (h.row x hx) q (fun g hg e=>mx_not (h.row x hx) hp h1 (by rw[←e];exact hg)),h.offb,h.offm,h.off⟩
theorem CkMem.ne (h:CkMem X base w b mb k K):b≠mb:=map_not_cells h.map h.box
theorem CkMem.notMap (h:CkMem X base w b mb k K) {n0 size n:Nat} {e:TypeId} {v:Value} {xs:List Value} (hr:w.ownsRow n0 e size v n xs) {g:Nat} (hg:v.ownBlock=some g):g≠mb:=by
 obtain⟨c,hc⟩:=own_type hr g hg
 exact map_not_cells h.map hc
theorem CkMem.rowIn (h:CkMem X base w b mb k K) {p:Int×(Value×List Int)} (hp:p∈K):IntsIn (fun g=>base≤g∧g≠b∧g≠mb) w p.2.1 p.2.2:=
 (IntsIn.of_own (h.row p hp)).mono fun g hg=>⟨hg.1,fun e=>mx_not (h.row p hp) h.box (by decide) (by rw[←e];exact hg.2),h.notMap (h.row p hp) hg.2⟩
theorem CkMem.grown (h:CkMem X base w b mb k K) {v:Value} {n0 size n:Nat} {e:TypeId} {xs:List Value} (hr:w.ownsRow n0 e size v n xs) (he:28≠e) (hc:91≠e) (hg:w.grownBy w' v.ownBlock):CkMem X base w' b mb k K where
 bb:=h.bb
 bm:=h.bm
 box:=(hg.block b (heap_lt h.box) (fun e2=>mx_not hr h.box hc e2.symm)).trans h.box
 map:=h.map.kept (Kept.grown hg) (fun e2=>h.notMap hr e2.symm rfl)
 ents:=h.ents
 row:=fun p hp=>own_kept (h.row p hp) (Kept.grown hg) (fun _ h1 h2=>mx_apart (h.row p hp) hr he h1 h2.symm)
 offb:=h.offb
 offm:=h.offm
 off:=h.off
theorem CkMem.cells (h:CkMem X base w b mb k K):w.cell? ⟨b,0,none⟩=some (.map (some mb))∧w.cell? ⟨b,1,none⟩=some (.int .i64 k.last)∧w.cell? ⟨b,2,none⟩=some (.bool k.proved)∧w.cell? ⟨b,3,none⟩=some (.int .i64 k.adds)∧w.cell? ⟨b,4,none⟩=some (.int .i64 k.dels)∧w.cell? ⟨b,5,none⟩=some (.int .i64 k.rats)∧w.cell? ⟨b,6,none⟩=some (.int .i64 k.largest):=
 ⟨mx_cell (j:=0) h.box,mx_cell (j:=1) h.box,mx_cell (j:=2) h.box,mx_cell (j:=3) h.box,mx_cell (j:=4) h.box,mx_cell (j:=5) h.box,mx_cell (j:=6) h.box⟩
theorem CkMem.free (h:CkMem X base w b mb k K) (j:Nat):w.frozen? ⟨b,j,none⟩=false:=by
 simp[World.frozen?,h.box]
theorem CkMem.len (h:CkMem X base w b mb k K):K.length=k.ents.length:=by rw[h.ents,mapV_length]
theorem CkMem.rise (h:CkMem X base w b mb k K):Rising K:=mapV_rising_of h.map.2.1
theorem CkMem.get (h:CkMem X base w b mb k K) (id:Int):getA k.ents id=(getA K id).map Prod.snd:=by rw[h.ents,mapV_get]
theorem CkMem.look (h:CkMem X base w b mb k K) {id:Int} (hid:(Lit.int .i64 id).wf=true) (c:Bool):(Instr.lookup 89 (.map (some mb)) (.int .i64 id) c).run Tryz.prog w= .ok (if c then .tuple #[((getA K id).map Prod.fst).getD (.slice none 0 0),.bool (getA K id).isSome]else((getA K id).map Prod.fst).getD (.slice none 0 0)) w:=by
 have:=h.map.look int_law Tryz.underlying3 Tryz.underlying89 (z:=.slice none 0 0) (by kernel_rfl) c hid
 rw[mapV_get,Option.isSome_map]at this
 exact this
theorem CkMem.set (h:CkMem X base w b mb k K) {k':Ckr} {j:Nat} {v:Value} (hb:(w.setCell ⟨b,j,none⟩ v).heap[b]? =some (.cells #[.map (some mb),.int .i64 k'.last,.bool k'.proved,.int .i64 k'.adds,.int .i64 k'.dels,.int .i64 k'.rats,.int .i64 k'.largest] 91 (0,0))) (he:k'.ents=k.ents):CkMem X base (w.setCell ⟨b,j,none⟩ v) b mb k' K:=by
 have hk:Kept (fun g=>g=b) w (w.setCell ⟨b,j,none⟩ v):=(Kept.refl (fun g=>g=b) w).setCell ⟨b,j,none⟩ v rfl
 exact {
  bb:=h.bb
  bm:=h.bm
  box:=hb
  map:=h.map.kept hk (fun e=>h.ne e.symm)
  ents:=by rw[he];exact h.ents
  row:=fun p hp=>own_kept (h.row p hp) hk (fun _ hg e=>mx_not (h.row p hp) h.box (by decide) (by rw[←e];exact hg))
  offb:=h.offb
  offm:=h.offm
  off:=h.off }
theorem CkMem.setBelow (h:CkMem X base w b mb k K) (j:Nat) (v:Value) (hb:base≤w.heap.size):Below base w (w.setCell ⟨b,j,none⟩ v):=
 ((Kept.refl (fun g=>g=b) w).setCell ⟨b,j,none⟩ v rfl).below (fun i e=>by rw[e];exact h.bb) hb
end
set_option maxHeartbeats 400000 in
theorem ck_proved {base:Nat} (b:Nat) (k:Ckr) (w:World) (h:CkAt base w b k):
  Calls Tryz.prog 13 #[.pointer (some ⟨b,0,none⟩)] w fun e w'=>e= .returned (.bool k.proved)∧w=w':=by
 obtain⟨mb,K,h⟩:=h
 obtain⟨-,-,c2,-⟩:=h.cells
 clear h
 go_enter Tryz.func13,Tryz.ntmps13
 go_wp2
 go_ret
 exact⟨rfl,rfl⟩
def CkF (b:Nat) (w w':World):Prop:=Kept (fun g=>g=b∨∃o:Obj,w.heap[g]? =some o∧o.isCells=false) w w'
theorem CkF.of_below {b:Nat} {w w':World} (h:Below w.heap.size w w'):CkF b w w':=Kept.of_below h
theorem CkF.trans {b:Nat} {x y z:World} (h:CkF b x y) (k:CkF b y z):CkF b x z:=Kept.trans h k fun i hi ho=>by
 refine Classical.byContradiction fun hn=>?_
 rcases ho with ho|⟨o,h1,h2⟩
 ·exact hn (.inl ho)
 ·exact hn (.inr ⟨o,(h.block i hi hn).symm.trans h1,h2⟩)
theorem CkF.set (b:Nat) (w:World) (j:Nat) (v:Value):CkF b w (w.setCell ⟨b,j,none⟩ v):=((Kept.refl (fun g=>g=b) w).setCell ⟨b,j,none⟩ v rfl).mono fun _ _ e=>.inl e
theorem CkF.box {b:Nat} {w w':World} (h:Kept (fun g=>g=b) w w'):CkF b w w':=h.mono fun _ _ e=>.inl e
theorem CkF.map {b mb:Nat} {w w':World} {m:List (Int×Value)} (hm:MapI w mb m) (h:w.grownBy w' (some mb)):CkF b w w':=(Kept.grown h).mono fun i _ e=>by
 obtain⟨⟨es,cl,hb,_⟩,_⟩:=hm
 cases e
 exact .inr ⟨_,hb,rfl⟩
def Ckr.rep (k:Ckr):Value:=.agg #[.bool k.proved,.int .i64 k.adds,.int .i64 k.dels,.int .i64 k.rats,.int .i64 k.largest]
end Go.Proofs.YtajbmjpodeilpaaGreatDoor
