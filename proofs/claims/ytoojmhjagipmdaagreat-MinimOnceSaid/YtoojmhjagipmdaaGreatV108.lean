/- analyze: what Conflict's loop keeps. analyze: Conflict. -/
import Derived.Test.YtoojmhjagipmdaaGreatV107
import Derived.Test.YtoojmhjagipmdaaGreatV101
namespace Go.Proofs.YtoojmhjagipmdaaGreat
open Go.RowKit Go.Shelf Go.Maps
attribute [local go_sem] Oper.semAt_some
theorem wpListIn_append_any {F:Fence} {n0:Nat} {P:Program} {w:World} {ops:Array Oper} {rest:List Oper} {o:Oper} {a:Act} {Q:Exit→Act→World→Prop} (hg:o.guard=none) (s x:Operand) (t:TypeId) (ho:o.op= .call { callee:=.builtin .append,args:= #[s,x],argTypes:= #[t,t] })
  (base:Nat) (e:TypeId) (i:TypeInfo) (z:Value) (size bytes:Nat) (ht:P.underlying t=some (.slice e)) (hi:P.info? e=some i) (hz:i.zero=some z) (hsize:i.size=size) (hby:i.bytes=bytes) (hzs:z.cells.size=size) (hsz:0<size)
  (v:Value) (n:Nat) (xs:List Value) (hs:a.eval s=v) (hown:w.ownsRow base e size v n xs)
  (y:Value) (m:Nat) (news:List Value) (hx:a.eval x=y) (hy:SrcAt w y m news) (hl:news.length=m*size) (h1: ∀u∈news,u.oneCell'=true)
  (h63:n+m≤maxLen) (hbytes:(n+m)*bytes≤140737488355328) (hbase:base≤w.heap.size)
  (h: ∀v' w',w'.ownsRow base e size v' (n+m) (xs++news)→w.grownBy w' v.ownBlock→(v'.ownBlock=v.ownBlock∨v'.ownBlock=some w.heap.size)→wpListIn F n0 P ops Q rest (a.put o.dst v') w'):wpListIn F n0 P ops Q (o::rest) a w:=by
 refine wpListIn_plain hg fun K hK=>?_
 obtain⟨v',w',hr,h2,h3,h5⟩:=run_append_any (P:=P) w base t o.type e i z size bytes ht hi hz hsize hby hzs hsz v n xs hown y m news hy hl h1 h63 hbytes hbase
 unfold Oper.wpIn
 refine⟨by simp[Oper.about,ho,resolve,Target.leads,Sem.run_pure],?_⟩
 rw[Oper.semAt_plain F _ _ (by rw[ho];intro c hc';cases hc')]
 simp only[execOp,ho,resolve,invoke,builtin,Sem.run_bind,Sem.run_pure,Result.andThen_ok,List.map_toArray,List.map_cons,List.map_nil,hs,hx,hr]
 exact hK _ _ (h v' w' h2 h3 h5)
structure CSt where
 ms:List Int
 op:Int
 lits:List Int
 hints:List Int
 met:List Int
def cfStep (A:Arn) (T:Trl) (lv:Int) (s:CSt) (l:Int):Option CSt:=
 if s.ms.contains (litV l:Int)=false then some s
 else if T.goes lv s.op (litV l:Int)=false then some ⟨s.ms,s.op,s.lits++ [litN l],s.hints,if 0<T.level (litV l:Nat)then s.met++ [(litV l:Int)]else s.met⟩
 else match rightP A T l with
  | none=>none
  | some (id,c)=>some ⟨(T.meetGo (litV l:Int) lv c s.ms 0).1,if T.level (litV l:Nat)=lv then s.op+(((T.meetGo (litV l:Int) lv c s.ms 0).2:Int)-1)else s.op,s.lits,s.hints++ [id],if 0<T.level (litV l:Nat)then s.met++ [(litV l:Int)]else s.met⟩
def cfRun (A:Arn) (T:Trl) (lv:Int):CSt→List Int→Option CSt
 | s,[]=>some s
 | s,l::r=>match cfStep A T lv s l with
  | none=>none
  | some s'=>cfRun A T lv s' r
theorem cfRun_snoc {A:Arn} {T:Trl} {lv:Int} {s s1:CSt} {ls:List Int} (x:Int) (h:cfRun A T lv s ls=some s1):cfRun A T lv s (ls++ [x])=cfStep A T lv s1 x:=by
 induction ls generalizing s with
 | nil=>
  obtain rfl:=Option.some.inj h
  simp only[List.nil_append,cfRun]
  cases cfStep A T lv s x <;> rfl
 | cons l r ih=>
  simp only[cfRun,List.cons_append]at h⊢
  cases hs:cfStep A T lv s l with
  | none=>rw[hs]at h;cases h
  | some s'=>
   rw[hs]at h
   exact ih h
theorem cfRun_pre {A:Arn} {T:Trl} {lv:Int} {s:CSt} {ls ks:List Int} (h:ls <+: ks) (hn:cfRun A T lv s ls=none):cfRun A T lv s ks=none:=by
 obtain⟨t,rfl⟩:=h
 induction ls generalizing s with
 | nil=>cases hn
 | cons l r ih=>
  simp only[cfRun,List.cons_append]at hn⊢
  cases hs:cfStep A T lv s l with
  | none=>rfl
  | some s'=>
   rw[hs]at hn
   exact ih hn
theorem meetGo_le (T:Trl) (wo lv:Int) (c ms:List Int) (n:Nat):(T.meetGo wo lv c ms n).2≤n+c.length:=by
 induction c generalizing ms n with
 | nil=>exact Nat.le_refl _
 | cons l c ih=>
  unfold Trl.meetGo
  split
  ·refine Nat.le_trans (ih _ _) ?_
   simp only[List.length_cons]
   split <;> omega
  ·refine Nat.le_trans (ih _ _) ?_
   simp only[List.length_cons]
   omega
def CfR (R mb ob sb:Nat) (W W':World):Prop:=Kept (fun g=>g=mb∨g=ob∨g=sb∨R≤g∧∃c t f,W.heap[g]? =some (.cells c t f)) W W'
theorem CfR.refl (R mb ob sb:Nat) (W:World):CfR R mb ob sb W W:=Kept.refl _ _
theorem CfR.trans {R mb ob sb:Nat} {A B C:World} (h:CfR R mb ob sb A B) (k:CfR R mb ob sb B C):CfR R mb ob sb A C:=by
 refine Kept.trans h k (fun i hi ho=>?_)
 rcases ho with h1|h1|h1|⟨h1,h2⟩
 ·exact .inl h1
 ·exact .inr (.inl h1)
 ·exact .inr (.inr (.inl h1))
 ·apply Classical.byContradiction
  intro hn
  have hb:=h.block i hi hn
  obtain⟨c,t,f,hc⟩:=h2
  exact hn (.inr (.inr (.inr ⟨h1,c,t,f,hb.symm.trans hc⟩)))
theorem CfR.keeps {R mb ob sb:Nat} {A B:World} (h:CfR R mb ob sb A B) (hm:mb<R) (ho:ob<R) (hs:sb<R):KeepsFrom R A B:=
 ⟨h.size,fun k o hk hg hc=>(h.block k (heap_lt hg) (fun hn=>by
  rcases hn with h1|h1|h1|⟨_,c,t,f,h2⟩
  ·omega
  ·omega
  ·omega
  ·rw[hg]at h2
   cases h2
   cases hc)).trans hg⟩
theorem CfR.kpc {R mb ob sb:Nat} {A B:World} (h:CfR R mb ob sb A B):KpC (fun g=>g=mb∨g=ob∨g=sb∨R≤g) A B:=
 ⟨h.os,h.tape,h.output,h.size,fun k o hg hX _=>(h.block k (heap_lt hg) (fun hn=>hX (by
  rcases hn with h1|h1|h1|⟨h1,_⟩
  ·exact .inl h1
  ·exact .inr (.inl h1)
  ·exact .inr (.inr (.inl h1))
  ·exact .inr (.inr (.inr h1))))).trans hg⟩
theorem CfR.below {R mb ob sb:Nat} {A B:World} (h:Below A.heap.size A B):CfR R mb ob sb A B:=Kept.of_below h
structure CfMem (WR W:World) (mb ob sb:Nat) (s:CSt) (kk:Nat) (x y z:Value):Prop where
 kept:Kept (fun g=>g=mb∨g=ob∨g=sb) WR W
 map:MapAt W mb kk (metF s.ms)
 op:W.heap[ob]? =some (.cells #[.int .i64 s.op] 3 (0,0))
 out:W.heap[sb]? =some (.cells #[x,.int .i64 0,.int .i64 0,y,z] 65 (0,0))
 lits:W.ownsRow WR.heap.size 32 1 x s.lits.length (s.lits.map (Value.int .i64))
 hints:W.ownsRow WR.heap.size 3 1 y s.hints.length (s.hints.map (Value.int .i64))
 met:W.ownsRow WR.heap.size 3 1 z s.met.length (s.met.map (Value.int .i64))
 apart: ∀g,y.ownBlock=some g→z.ownBlock≠some g
theorem cf_mne {W:World} {mb kk b:Nat} {f:Int→Int} {c:Array Value} {t:TypeId} {fz:Nat×Nat} (h:MapAt W mb kk f) (hb:W.heap[b]? =some (.cells c t fz)):mb≠b:=by
 rintro rfl
 obtain⟨D,⟨es,cl,hb',_⟩,_⟩:=h
 rw[hb]at hb'
 cases hb'
theorem CfMem.after {WR W W':World} {mb ob sb kk:Nat} {s:CSt} {x y z:Value} (h:CfMem WR W mb ob sb s kk x y z) (O:Nat→Prop) (k:Kept O W W') (h1: ¬O mb) (h2: ¬O ob) (h3: ¬O sb) (h4: ∀g,O g→WR.heap.size≤g) (h5: ∀g,(x.ownBlock=some g∨y.ownBlock=some g∨z.ownBlock=some g)→¬O g):CfMem WR W' mb ob sb s kk x y z where
 kept:=h.kept.trans k (fun i hi ho=>by have:=h4 i ho;omega)
 map:=h.map.kept k h1
 op:=(k.block ob (heap_lt h.op) h2).trans h.op
 out:=(k.block sb (heap_lt h.out) h3).trans h.out
 lits:=own_kept h.lits k (fun g hg=>h5 g (.inl hg))
 hints:=own_kept h.hints k (fun g hg=>h5 g (.inr (.inl hg)))
 met:=own_kept h.met k (fun g hg=>h5 g (.inr (.inr hg)))
 apart:=h.apart
theorem CfMem.size {WR W:World} {mb ob sb kk:Nat} {s:CSt} {x y z:Value} (h:CfMem WR W mb ob sb s kk x y z):WR.heap.size≤W.heap.size:=h.kept.size
theorem CfMem.below {WR W W':World} {mb ob sb kk:Nat} {s:CSt} {x y z:Value} (h:CfMem WR W mb ob sb s kk x y z) (k:Below W.heap.size W W'):CfMem WR W' mb ob sb s kk x y z:=
 h.after (fun _=>False) (Kept.of_below k) (fun h=>h) (fun h=>h) (fun h=>h) (fun _ h=>h.elim) (fun _ _ h=>h)
theorem CfMem.grown {WR W W':World} {mb ob sb kk:Nat} {s:CSt} {x y z:Value} (h:CfMem WR W mb ob sb s kk x y z) (hm:mb<WR.heap.size) (ho:ob<WR.heap.size) (hs:sb<WR.heap.size) {row:Option Nat} (hg:W.grownBy W' row) (hr: ∀r,row=some r→WR.heap.size≤r∧∃o:Obj,W.heap[r]? =some o∧o.isCells=false):CfMem WR W' mb ob sb s kk x y z:=by
 have hne: ∀g,g<WR.heap.size→some g≠row:=fun g hg e=>by have:=(hr g e.symm).1;omega
 refine h.after (fun g=>some g=row) (Kept.grown hg) (hne mb hm) (hne ob ho) (hne sb hs) (fun g e=>(hr g e.symm).1) (fun g hx e=>?_)
 obtain⟨_,o,h1,h2⟩:=hr g e.symm
 have hc: ∃c t,W.heap[g]? =some (.cells c t (0,0)):=by
  rcases hx with hx|hx|hx
  ·obtain⟨c,hc⟩:=own_type h.lits g hx
   exact⟨c,_,hc⟩
  ·obtain⟨c,hc⟩:=own_type h.hints g hx
   exact⟨c,_,hc⟩
  ·obtain⟨c,hc⟩:=own_type h.met g hx
   exact⟨c,_,hc⟩
 obtain⟨c,t,hc⟩:=hc
 rw[h1]at hc
 cases hc
 cases h2
theorem CfMem.setop {WR W:World} {mb ob sb kk:Nat} {s:CSt} {x y z:Value} (h:CfMem WR W mb ob sb s kk x y z) (ho:ob<WR.heap.size) (v:Int):CfMem WR (W.setCell ⟨ob,0,none⟩ (.int .i64 v)) mb ob sb { s with op:=v } kk x y z∧CfR WR.heap.size mb ob sb W (W.setCell ⟨ob,0,none⟩ (.int .i64 v)):=by
 have k:Kept (fun g=>g=ob) W (W.setCell ⟨ob,0,none⟩ (.int .i64 v)):=(Kept.refl (fun g=>g=ob) W).setCell ⟨ob,0,none⟩ _ rfl
 have hb:=mx_set (j:=0) h.op (.int .i64 v)
 have hso:sb≠ob:=fun e=>by
  have:=h.out
  rw[e,h.op]at this
  simp at this
 have hrow: ∀{t:TypeId} {u:Value} {n:Nat} {l:List Value},W.ownsRow WR.heap.size t 1 u n l→(W.setCell ⟨ob,0,none⟩ (.int .i64 v)).ownsRow WR.heap.size t 1 u n l:=fun hh=>own_kept hh k (fun g hg e=>by
  have:=(own_lt hh g hg).1
  omega)
 exact⟨⟨h.kept.trans k (fun i _ e=>.inr (.inl e)),h.map.kept k (cf_mne h.map h.op),hb,(k.block sb (heap_lt h.out) hso).trans h.out,hrow h.lits,hrow h.hints,hrow h.met,h.apart⟩,k.mono (fun g _ e=>.inr (.inl e))⟩
theorem CfMem.meet {WR W W':World} {mb ob sb kk kk':Nat} {s:CSt} {x y z:Value} (h:CfMem WR W mb ob sb s kk x y z) (k:Kept (fun g=>g=mb) W W') (ms':List Int) (hm:MapAt W' mb kk' (metF ms')):CfMem WR W' mb ob sb { s with ms:=ms' } kk' x y z∧CfR WR.heap.size mb ob sb W W':=by
 have hrow: ∀{t:TypeId} {u:Value} {n:Nat} {l:List Value},W.ownsRow WR.heap.size t 1 u n l→W'.ownsRow WR.heap.size t 1 u n l:=fun hh=>own_kept hh k (fun g hg e=>by
  obtain⟨c,hc⟩:=own_type hh g hg
  exact cf_mne h.map hc e.symm)
 exact⟨⟨h.kept.trans k (fun i _ e=>.inl e),hm,(k.block ob (heap_lt h.op) (Ne.symm (cf_mne h.map h.op))).trans h.op,(k.block sb (heap_lt h.out) (Ne.symm (cf_mne h.map h.out))).trans h.out,hrow h.lits,hrow h.hints,hrow h.met,h.apart⟩,k.mono (fun g _ e=>.inl e)⟩
theorem CfMem.pushLits {WR W W1 W2:World} {mb ob sb kk:Nat} {s:CSt} {x y z v':Value} (h:CfMem WR W mb ob sb s kk x y z) (hmR:mb<WR.heap.size) (hoR:ob<WR.heap.size) (hsR:sb<WR.heap.size) (u:Int) (hb:Below W.heap.size W W1) (hg:W1.grownBy W2 x.ownBlock) (hown:W2.ownsRow WR.heap.size 32 1 v' (s.lits.length+1) (s.lits.map (Value.int .i64)++ [.int .i64 u])):
  CfMem WR (W2.setCell ⟨sb,0,none⟩ v') mb ob sb { s with lits:=s.lits++ [u] } kk v' y z∧CfR WR.heap.size mb ob sb W (W2.setCell ⟨sb,0,none⟩ v')∧W2.heap[sb]? =some (.cells #[x,.int .i64 0,.int .i64 0,y,z] 65 (0,0))∧Kept (fun g=>WR.heap.size≤g) W W2∧Kept (fun g=>g=sb∨some g=x.ownBlock) W (W2.setCell ⟨sb,0,none⟩ v'):=by
 have hge: ∀g,some g=x.ownBlock→WR.heap.size≤g:=fun g hg=>(own_lt h.lits g hg.symm).1
 have k2:Kept (fun g=>some g=x.ownBlock) W W2:=(Kept.of_below (O:=fun g=>some g=x.ownBlock) hb).trans (Kept.grown hg) (fun _ _ h=>h)
 have k3:Kept (fun g=>g=sb∨some g=x.ownBlock) W (W2.setCell ⟨sb,0,none⟩ v'):=(k2.mono (O':=fun g=>g=sb∨some g=x.ownBlock) (fun g _ h=>.inr h)).setCell ⟨sb,0,none⟩ _ (.inl rfl)
 have hs2:=(k2.block sb (heap_lt h.out) (fun e=>by have:=hge sb e;omega)).trans h.out
 have hso:ob≠sb:=fun e=>by
  have:=h.out
  rw[←e,h.op]at this
  simp at this
 have hhints:(W2.setCell ⟨sb,0,none⟩ v').ownsRow WR.heap.size 3 1 y s.hints.length (s.hints.map (Value.int .i64)):=own_kept h.hints k3 (fun g hg e=>by
  rcases e with e|e
  ·have:=(own_lt h.hints g hg).1
   omega
  ·exact mx_apart h.hints h.lits (by decide) hg e.symm)
 have hmet:(W2.setCell ⟨sb,0,none⟩ v').ownsRow WR.heap.size 3 1 z s.met.length (s.met.map (Value.int .i64)):=own_kept h.met k3 (fun g hg e=>by
  rcases e with e|e
  ·have:=(own_lt h.met g hg).1
   omega
  ·exact mx_apart h.met h.lits (by decide) hg e.symm)
 have hlits:(W2.setCell ⟨sb,0,none⟩ v').ownsRow WR.heap.size 32 1 v' (s.lits++ [u]).length ((s.lits++ [u]).map (Value.int .i64)):=by
  rw[List.length_append,List.map_append]
  exact own_kept (O:=fun g=>g=sb) hown ((Kept.refl (fun g=>g=sb) W2).setCell ⟨sb,0,none⟩ _ rfl) (fun g hg e=>by have:=(own_lt hown g hg).1;omega)
 have hout:(W2.setCell ⟨sb,0,none⟩ v').heap[sb]? =some (.cells #[v',.int .i64 0,.int .i64 0,y,z] 65 (0,0)):=mx_set (j:=0) hs2 v'
 refine⟨⟨h.kept.trans k3 (fun i hi e=>e.elim (fun e=>.inr (.inr e)) (fun e=>by have:=hge i e;omega)),h.map.kept k3 (fun e=>e.elim (cf_mne h.map h.out) (fun e=>by have:=hge mb e;omega)),(k3.block ob (heap_lt h.op) (fun e=>e.elim hso (fun e=>by have:=hge ob e;omega))).trans h.op,hout,hlits,hhints,hmet,h.apart⟩,k3.mono (fun g _ e=>e.elim (fun e=>.inr (.inr (.inl e))) (fun e=>.inr (.inr (.inr ⟨hge g e,by obtain⟨c,hc⟩:=own_type h.lits g e.symm;exact⟨c,_,_,hc⟩⟩)))),hs2,k2.mono (fun g _ e=>hge g e),k3⟩
theorem CfMem.pushHints {WR W W1 W2:World} {mb ob sb kk:Nat} {s:CSt} {x y z v':Value} (h:CfMem WR W mb ob sb s kk x y z) (hmR:mb<WR.heap.size) (hoR:ob<WR.heap.size) (hsR:sb<WR.heap.size) (u:Int) (hb:Below W.heap.size W W1) (hg:W1.grownBy W2 y.ownBlock) (hown:W2.ownsRow WR.heap.size 3 1 v' (s.hints.length+1) (s.hints.map (Value.int .i64)++ [.int .i64 u])) (hv:v'.ownBlock=y.ownBlock∨v'.ownBlock=some W1.heap.size):
  CfMem WR (W2.setCell ⟨sb,3,none⟩ v') mb ob sb { s with hints:=s.hints++ [u] } kk x v' z∧CfR WR.heap.size mb ob sb W (W2.setCell ⟨sb,3,none⟩ v')∧W2.heap[sb]? =some (.cells #[x,.int .i64 0,.int .i64 0,y,z] 65 (0,0))∧Kept (fun g=>WR.heap.size≤g) W W2∧Kept (fun g=>g=sb∨some g=y.ownBlock) W (W2.setCell ⟨sb,3,none⟩ v'):=by
 have hge: ∀g,some g=y.ownBlock→WR.heap.size≤g:=fun g hg=>(own_lt h.hints g hg.symm).1
 have k2:Kept (fun g=>some g=y.ownBlock) W W2:=(Kept.of_below (O:=fun g=>some g=y.ownBlock) hb).trans (Kept.grown hg) (fun _ _ h=>h)
 have k3:Kept (fun g=>g=sb∨some g=y.ownBlock) W (W2.setCell ⟨sb,3,none⟩ v'):=(k2.mono (O':=fun g=>g=sb∨some g=y.ownBlock) (fun g _ h=>.inr h)).setCell ⟨sb,3,none⟩ _ (.inl rfl)
 have hs2:=(k2.block sb (heap_lt h.out) (fun e=>by have:=hge sb e;omega)).trans h.out
 have hso:ob≠sb:=fun e=>by
  have:=h.out
  rw[←e,h.op]at this
  simp at this
 have hlits:(W2.setCell ⟨sb,3,none⟩ v').ownsRow WR.heap.size 32 1 x s.lits.length (s.lits.map (Value.int .i64)):=own_kept h.lits k3 (fun g hg e=>by
  rcases e with e|e
  ·have:=(own_lt h.lits g hg).1
   omega
  ·exact mx_apart h.lits h.hints (by decide) hg e.symm)
 have hmet:(W2.setCell ⟨sb,3,none⟩ v').ownsRow WR.heap.size 3 1 z s.met.length (s.met.map (Value.int .i64)):=own_kept h.met k3 (fun g hg e=>by
  rcases e with e|e
  ·have:=(own_lt h.met g hg).1
   omega
  ·exact h.apart g e.symm hg)
 have hhints:(W2.setCell ⟨sb,3,none⟩ v').ownsRow WR.heap.size 3 1 v' (s.hints++ [u]).length ((s.hints++ [u]).map (Value.int .i64)):=by
  rw[List.length_append,List.map_append]
  exact own_kept (O:=fun g=>g=sb) hown ((Kept.refl (fun g=>g=sb) W2).setCell ⟨sb,3,none⟩ _ rfl) (fun g hg e=>by have:=(own_lt hown g hg).1;omega)
 have hout:(W2.setCell ⟨sb,3,none⟩ v').heap[sb]? =some (.cells #[x,.int .i64 0,.int .i64 0,v',z] 65 (0,0)):=mx_set (j:=3) hs2 v'
 refine⟨⟨h.kept.trans k3 (fun i hi e=>e.elim (fun e=>.inr (.inr e)) (fun e=>by have:=hge i e;omega)),h.map.kept k3 (fun e=>e.elim (cf_mne h.map h.out) (fun e=>by have:=hge mb e;omega)),(k3.block ob (heap_lt h.op) (fun e=>e.elim hso (fun e=>by have:=hge ob e;omega))).trans h.op,hout,hlits,hhints,hmet,?_⟩,k3.mono (fun g _ e=>e.elim (fun e=>.inr (.inr (.inl e))) (fun e=>.inr (.inr (.inr ⟨hge g e,by obtain⟨c,hc⟩:=own_type h.hints g e.symm;exact⟨c,_,_,hc⟩⟩)))),hs2,k2.mono (fun g _ e=>hge g e),k3⟩
 intro g hg' e
 rcases hv with hv|hv
 ·exact h.apart g (hv▸hg') e
 ·have h1:=(own_lt h.met g e).2
  rw[hv]at hg'
  have:=hb.size
  cases hg'
  omega
theorem CfMem.pushMet {WR W W1 W2:World} {mb ob sb kk:Nat} {s:CSt} {x y z v':Value} (h:CfMem WR W mb ob sb s kk x y z) (hmR:mb<WR.heap.size) (hoR:ob<WR.heap.size) (hsR:sb<WR.heap.size) (u:Int) (hb:Below W.heap.size W W1) (hg:W1.grownBy W2 z.ownBlock) (hown:W2.ownsRow WR.heap.size 3 1 v' (s.met.length+1) (s.met.map (Value.int .i64)++ [.int .i64 u])) (hv:v'.ownBlock=z.ownBlock∨v'.ownBlock=some W1.heap.size):
  CfMem WR (W2.setCell ⟨sb,4,none⟩ v') mb ob sb { s with met:=s.met++ [u] } kk x y v'∧CfR WR.heap.size mb ob sb W (W2.setCell ⟨sb,4,none⟩ v')∧W2.heap[sb]? =some (.cells #[x,.int .i64 0,.int .i64 0,y,z] 65 (0,0))∧Kept (fun g=>WR.heap.size≤g) W W2∧Kept (fun g=>g=sb∨some g=z.ownBlock) W (W2.setCell ⟨sb,4,none⟩ v'):=by
 have hge: ∀g,some g=z.ownBlock→WR.heap.size≤g:=fun g hg=>(own_lt h.met g hg.symm).1
 have k2:Kept (fun g=>some g=z.ownBlock) W W2:=(Kept.of_below (O:=fun g=>some g=z.ownBlock) hb).trans (Kept.grown hg) (fun _ _ h=>h)
 have k3:Kept (fun g=>g=sb∨some g=z.ownBlock) W (W2.setCell ⟨sb,4,none⟩ v'):=(k2.mono (O':=fun g=>g=sb∨some g=z.ownBlock) (fun g _ h=>.inr h)).setCell ⟨sb,4,none⟩ _ (.inl rfl)
 have hs2:=(k2.block sb (heap_lt h.out) (fun e=>by have:=hge sb e;omega)).trans h.out
 have hso:ob≠sb:=fun e=>by
  have:=h.out
  rw[←e,h.op]at this
  simp at this
 have hlits:(W2.setCell ⟨sb,4,none⟩ v').ownsRow WR.heap.size 32 1 x s.lits.length (s.lits.map (Value.int .i64)):=own_kept h.lits k3 (fun g hg e=>by
  rcases e with e|e
  ·have:=(own_lt h.lits g hg).1
   omega
  ·exact mx_apart h.lits h.met (by decide) hg e.symm)
 have hhints:(W2.setCell ⟨sb,4,none⟩ v').ownsRow WR.heap.size 3 1 y s.hints.length (s.hints.map (Value.int .i64)):=own_kept h.hints k3 (fun g hg e=>by
  rcases e with e|e
  ·have:=(own_lt h.hints g hg).1
   omega
  ·exact h.apart g hg e.symm)
 have hmet:(W2.setCell ⟨sb,4,none⟩ v').ownsRow WR.heap.size 3 1 v' (s.met++ [u]).length ((s.met++ [u]).map (Value.int .i64)):=by
  rw[List.length_append,List.map_append]
  exact own_kept (O:=fun g=>g=sb) hown ((Kept.refl (fun g=>g=sb) W2).setCell ⟨sb,4,none⟩ _ rfl) (fun g hg e=>by have:=(own_lt hown g hg).1;omega)
 have hout:(W2.setCell ⟨sb,4,none⟩ v').heap[sb]? =some (.cells #[x,.int .i64 0,.int .i64 0,y,v'] 65 (0,0)):=mx_set (j:=4) hs2 v'
 refine⟨⟨h.kept.trans k3 (fun i hi e=>e.elim (fun e=>.inr (.inr e)) (fun e=>by have:=hge i e;omega)),h.map.kept k3 (fun e=>e.elim (cf_mne h.map h.out) (fun e=>by have:=hge mb e;omega)),(k3.block ob (heap_lt h.op) (fun e=>e.elim hso (fun e=>by have:=hge ob e;omega))).trans h.op,hout,hlits,hhints,hmet,?_⟩,k3.mono (fun g _ e=>e.elim (fun e=>.inr (.inr (.inl e))) (fun e=>.inr (.inr (.inr ⟨hge g e,by obtain⟨c,hc⟩:=own_type h.met g e.symm;exact⟨c,_,_,hc⟩⟩)))),hs2,k2.mono (fun g _ e=>hge g e),k3⟩
 intro g hg' e
 rcases hv with hv|hv
 ·exact h.apart g hg' (hv▸e)
 ·have h1:=(own_lt h.hints g hg').2
  rw[hv]at e
  have:=hb.size
  cases e
  omega
theorem CfMem.rehints {WR W W':World} {mb ob sb kk:Nat} {s:CSt} {x y z:Value} (h:CfMem WR W mb ob sb s kk x y z) (hmR:mb<WR.heap.size) (hoR:ob<WR.heap.size) (hsR:sb<WR.heap.size) (k:Kept (fun g=>y.ownBlock=some g) W W') (hs:List Int) (hown:W'.ownsRow WR.heap.size 3 1 y hs.length (hs.map (Value.int .i64))):CfMem WR W' mb ob sb { s with hints:=hs } kk x y z:=by
 have hge: ∀g,y.ownBlock=some g→WR.heap.size≤g:=fun g hg=>(own_lt h.hints g hg).1
 exact⟨h.kept.trans k (fun i hi e=>by have:=hge i e;omega),h.map.kept k (fun e=>by have:=hge mb e;omega),(k.block ob (heap_lt h.op) (fun e=>by have:=hge ob e;omega)).trans h.op,(k.block sb (heap_lt h.out) (fun e=>by have:=hge sb e;omega)).trans h.out,own_kept h.lits k (fun g hg e=>mx_apart h.lits h.hints (by decide) hg e),hown,own_kept h.met k (fun g hg e=>h.apart g e hg),h.apart⟩
theorem CfMem.remet {WR W W':World} {mb ob sb kk:Nat} {s:CSt} {x y z:Value} (h:CfMem WR W mb ob sb s kk x y z) (hmR:mb<WR.heap.size) (hoR:ob<WR.heap.size) (hsR:sb<WR.heap.size) (k:Kept (fun g=>z.ownBlock=some g) W W') (hs:List Int) (hown:W'.ownsRow WR.heap.size 3 1 z hs.length (hs.map (Value.int .i64))):CfMem WR W' mb ob sb { s with met:=hs } kk x y z:=by
 have hge: ∀g,z.ownBlock=some g→WR.heap.size≤g:=fun g hg=>(own_lt h.met g hg).1
 exact⟨h.kept.trans k (fun i hi e=>by have:=hge i e;omega),h.map.kept k (fun e=>by have:=hge mb e;omega),(k.block ob (heap_lt h.op) (fun e=>by have:=hge ob e;omega)).trans h.op,(k.block sb (heap_lt h.out) (fun e=>by have:=hge sb e;omega)).trans h.out,own_kept h.lits k (fun g hg e=>mx_apart h.lits h.met (by decide) hg e),own_kept h.hints k (fun g hg e=>h.apart g hg e),hown,h.apart⟩
structure CfFin (R D r6 sb:Nat) (w W:World) (back lvls:Int) (ls hs ms:List Int) (x y z:Value):Prop where
 below:Below w.heap.size w W
 out:W.heap[sb]? =some (.cells #[x,.int .i64 back,.int .i64 lvls,y,z] 65 (0,0))
 res:W.heap[r6]? =some (.cells #[.slice none 0 0,.int .i64 0,.int .i64 0,.slice none 0 0,.slice none 0 0] 65 (0,0))
 err:W.heap[r6+1]? =some (.cells #[.int .i64 0] 44 (0,0))
 dfr:W.heap[D]? =some (.deferred (some []))
 lits:W.ownsRow R 32 1 x ls.length (ls.map (Value.int .i64))
 hints:W.ownsRow R 3 1 y hs.length (hs.map (Value.int .i64))
 met:W.ownsRow R 3 1 z ms.length (ms.map (Value.int .i64))
theorem CfFin.after {R D r6 sb:Nat} {w W W':World} {back lvls:Int} {ls hs ms:List Int} {x y z:Value} (h:CfFin R D r6 sb w W back lvls ls hs ms x y z) (k:Below W.heap.size W W'):CfFin R D r6 sb w W' back lvls ls hs ms x y z:=
 ⟨h.below.trans (k.mono h.below.size),(k.block sb (heap_lt h.out)).trans h.out,(k.block r6 (heap_lt h.res)).trans h.res,(k.block (r6+1) (heap_lt h.err)).trans h.err,(k.block D (heap_lt h.dfr)).trans h.dfr,own_below h.lits k,own_below h.hints k,own_below h.met k⟩
theorem CfFin.set {R D r6 sb:Nat} {w W:World} {back lvls:Int} {ls hs ms:List Int} {x y z:Value} (h:CfFin R D r6 sb w W back lvls ls hs ms x y z) (hs1:sb<R) (hsw:w.heap.size≤sb) (hsr:sb≠r6) (hsr2:sb≠r6+1) (j:Nat) (v:Value) (back' lvls':Int) (hv:(#[x,Value.int .i64 back,.int .i64 lvls,y,z]).setIfInBounds j v= #[x,.int .i64 back',.int .i64 lvls',y,z]):CfFin R D r6 sb w (W.setCell ⟨sb,j,none⟩ v) back' lvls' ls hs ms x y z:=by
 have k:Kept (fun g=>g=sb) W (W.setCell ⟨sb,j,none⟩ v):=(Kept.refl (fun g=>g=sb) W).setCell ⟨sb,j,none⟩ _ rfl
 have hD:D≠sb:=fun e=>by
  have:=h.dfr
  rw[e,h.out]at this
  cases this
 have hrow: ∀{t:TypeId} {u:Value} {n:Nat} {l:List Value},W.ownsRow R t 1 u n l→(W.setCell ⟨sb,j,none⟩ v).ownsRow R t 1 u n l:=fun hh=>own_kept hh k (fun g hg e=>by
  have:=(own_lt hh g hg).1
  omega)
 refine⟨below_kept h.below k (fun i e=>by omega) h.below.size,?_,(k.block r6 (heap_lt h.res) (Ne.symm hsr)).trans h.res,(k.block (r6+1) (heap_lt h.err) (Ne.symm hsr2)).trans h.err,(k.block D (heap_lt h.dfr) hD).trans h.dfr,hrow h.lits,hrow h.hints,hrow h.met⟩
 rw[mx_set h.out v,hv]
end Go.Proofs.YtoojmhjagipmdaaGreat
namespace Go.Proofs.YtoojmhjagipmdaaGreat
open Go.RowKit Go.Shelf Go.Maps
attribute [local go_sem] Oper.semAt_some
structure CfStart (a b:Nat) (w W0:World):Prop where
 size:W0.heap.size=w.heap.size+4
 res:W0.heap[w.heap.size]? =some (.cells #[.slice none 0 0,.int .i64 0,.int .i64 0,.slice none 0 0,.slice none 0 0] 65 (0,0))
 err:W0.heap[w.heap.size+1]? =some (.cells #[.int .i64 0] 44 (0,0))
 map:MapAt W0 (w.heap.size+1+1) 0 (metF [])
 wk:W0.heap[w.heap.size+1+1+1]? =some (.cells #[.pointer (some ⟨a,0,none⟩),.pointer (some ⟨b,0,none⟩),.map (some (w.heap.size+1+1))] 111 (0,0))
theorem cf_start (a b:Nat) (w:World): ∃W0,((((w.alloc (.cells #[.slice none 0 0,.int .i64 0,.int .i64 0,.slice none 0 0,.slice none 0 0] 65)).alloc (.cells #[.int .i64 0] 44)).alloc (.map #[] 0)).alloc (.cells #[.pointer (some ⟨a,0,none⟩),.pointer (some ⟨b,0,none⟩),.map (some (w.heap.size+1+1))] 111))=W0∧Below w.heap.size w W0∧CfStart a b w W0:=by
 refine⟨_,rfl,(((mx_al _ _).alloc (by simp) _).alloc (by simp;omega) _).alloc (by simp;omega) _,?_,?_,?_,?_,?_⟩
 ·simp
 ·rw[Below.heap_alloc _ _ _ (by simp;omega),Below.heap_alloc _ _ _ (by simp;omega),Below.heap_alloc _ _ _ (by simp)]
  exact World.alloc_heap_new _ _
 ·rw[Below.heap_alloc _ _ _ (by simp),Below.heap_alloc _ _ _ (by simp)]
  have:=World.alloc_heap_new (w.alloc (.cells #[.slice none 0 0,.int .i64 0,.int .i64 0,.slice none 0 0,.slice none 0 0] 65)) (.cells #[.int .i64 0] 44)
  rwa [World.size_alloc]at this
 ·have:=MapAt.made ((w.alloc (.cells #[.slice none 0 0,.int .i64 0,.int .i64 0,.slice none 0 0,.slice none 0 0] 65)).alloc (.cells #[.int .i64 0] 44))
  rw[World.size_alloc,World.size_alloc]at this
  exact this.below (mx_al _ _)
 ·have:=World.alloc_heap_new (((w.alloc (.cells #[.slice none 0 0,.int .i64 0,.int .i64 0,.slice none 0 0,.slice none 0 0] 65)).alloc (.cells #[.int .i64 0] 44)).alloc (.map #[] 0)) (.cells #[.pointer (some ⟨a,0,none⟩),.pointer (some ⟨b,0,none⟩),.map (some (w.heap.size+1+1))] 111)
  rwa [World.size_alloc,World.size_alloc,World.size_alloc]at this
theorem cells5 {w:World} {b:Nat} {c0 c1 c2 c3 c4:Value} {t:TypeId} (h:w.heap[b]? =some (.cells #[c0,c1,c2,c3,c4] t (0,0))):
  (w.cell? ⟨b,0,none⟩=some c0∧w.cell? ⟨b,1,none⟩=some c1∧w.cell? ⟨b,2,none⟩=some c2∧w.cell? ⟨b,3,none⟩=some c3∧w.cell? ⟨b,4,none⟩=some c4)∧w.frozen? ⟨b,0,none⟩=false∧w.frozen? ⟨b,1,none⟩=false∧w.frozen? ⟨b,2,none⟩=false∧w.frozen? ⟨b,3,none⟩=false∧w.frozen? ⟨b,4,none⟩=false:=
 ⟨⟨mx_cell (j:=0) h,mx_cell (j:=1) h,mx_cell (j:=2) h,mx_cell (j:=3) h,mx_cell (j:=4) h⟩,mx_free h,mx_free h,mx_free h,mx_free h,mx_free h⟩
theorem cells4 {w:World} {b:Nat} {c0 c1 c2 c3:Value} {t:TypeId} (h:w.heap[b]? =some (.cells #[c0,c1,c2,c3] t (0,0))):
  (w.cell? ⟨b,0,none⟩=some c0∧w.cell? ⟨b,1,none⟩=some c1∧w.cell? ⟨b,2,none⟩=some c2∧w.cell? ⟨b,3,none⟩=some c3)∧w.frozen? ⟨b,0,none⟩=false∧w.frozen? ⟨b,1,none⟩=false∧w.frozen? ⟨b,2,none⟩=false∧w.frozen? ⟨b,3,none⟩=false:=
 ⟨⟨mx_cell (j:=0) h,mx_cell (j:=1) h,mx_cell (j:=2) h,mx_cell (j:=3) h⟩,mx_free h,mx_free h,mx_free h,mx_free h⟩
theorem res_learned {fn:Func} (h:fn.results= #[.cell 6 65,.cell 7 44]) {w:World} {r q:Nat} {c0 c1 c2 c3 c4 v:Value} {t t':TypeId} (h6:w.heap[r]? =some (.cells #[c0,c1,c2,c3,c4] t (0,0))) (h7:w.heap[q]? =some (.cells #[v] t' (0,0)))
  (tmps:Array Value) (t6:tmps[6]?.getD undef= .pointer (some ⟨r,0,none⟩)) (t7:tmps[7]?.getD undef= .pointer (some ⟨q,0,none⟩)):
  (results fn tmps).run Tryz.prog w= .ok (.tuple #[.agg #[c0,c1,c2,c3,c4],v]) w:=by
 obtain⟨⟨p0,p1,p2,p3,p4⟩,_⟩:=cells5 h6
 have p7:=mx_cell (j:=0) h7
 simp[results,h,go_sem,t6,t7,p0,p1,p2,p3,p4,p7]
set_option maxRecDepth 100000 in
set_option maxHeartbeats 4000000 in
theorem conf_none {Oa:Nat→Prop} (a b:Nat) (A:Arn) (id:Int) (w:World) (ha:ArAt Oa w a A) (hg:A.get id=none):
  Calls Tryz.prog 32 #[.pointer (some ⟨a,0,none⟩),.pointer (some ⟨b,0,none⟩),.int .i64 id] w fun e w'=>e= .returned (.tuple #[.agg #[.slice none 0 0,.int .i64 0,.int .i64 0,.slice none 0 0,.slice none 0 0],.int .i64 30])∧Below w.heap.size w w':=by
 have HA:=Lib.hid ha
 have HG:=Lib.hid hg
 clear ha hg
 have hmm:=@run_makeMap Tryz.prog
 obtain⟨W0,hW0,hb0,hs0⟩:=cf_start a b w
 have HW0:=Lib.hid hW0
 have HB0:=Lib.hid hb0
 have HS0:=Lib.hid hs0
 clear hW0 hb0 hs0
 refine(callsIn_wide (n:=9)).1 ?_
 refine callsIn_of_wp_marks Tryz.func32 rfl trivial ?_ rfl
 simp only[Tryz.ntmps32,List.size_toArray,List.length_cons,List.length_nil,Nat.reduceAdd,Nat.reduceSub,Array.replicate_succ,Array.replicate_zero,List.push_toArray,List.append_toArray,List.nil_append,List.cons_append]
 gi_wp2
 refine wpIn_wide.2 (wp_scope_straight ((wpIn_wide (n:=9)).1 ?_))
 gi_wp2_with fail
 rw[HW0.out]
 refine⟨trivial,?_⟩
 refine(callsIn_wide.2 (wk_fails_none a b _ A id _ (HA.out.below HB0.out) HG.out)).mono ?_
 rintro e w1 ⟨rfl,hb1⟩
 have k6:=(hb1.block w.heap.size (by have:=HS0.out.size;omega)).trans HS0.out.res
 have k7:=(hb1.block (w.heap.size+1) (by have:=HS0.out.size;omega)).trans HS0.out.err
 have HB1:=Lib.hid (HB0.out.trans (hb1.mono HB0.out.size))
 have hz6:w.heap.size<w1.heap.size:=heap_lt k6
 have hz7:w.heap.size+1<w1.heap.size:=heap_lt k7
 obtain⟨⟨p0,p1,p2,p3,p4⟩,f0,f1,f2,f3,f4⟩:=cells5 k6
 have p7:=mx_cell (j:=0) k7
 have f7:=mx_free (j:=0) k7
 have K6:=Lib.hid k6
 have K7:=Lib.hid k7
 clear k6 k7 hb1
 gi_wp2_with fail
 rw[Exit.noGoto_ret]
 obtain⟨Wf,hWf⟩: ∃x,((((((w1.setCell ⟨w.heap.size,0,none⟩ (.slice none 0 0)).setCell ⟨w.heap.size,1,none⟩ (.int .i64 0)).setCell ⟨w.heap.size,2,none⟩ (.int .i64 0)).setCell ⟨w.heap.size,3,none⟩ (.slice none 0 0)).setCell ⟨w.heap.size,4,none⟩ (.slice none 0 0)).setCell ⟨w.heap.size+1,0,none⟩ (.int .i64 30)).alloc (.cells #[.int .i64 0] 3)=x:=⟨_,rfl⟩
 rw[hWf]
 have r6:Wf.heap[w.heap.size]? =some (.cells #[.slice none 0 0,.int .i64 0,.int .i64 0,.slice none 0 0,.slice none 0 0] 65 (0,0)):=by
  rw[←hWf,Below.heap_alloc _ _ _ (by simp[World.setCell];omega),Below.heap_setCell _ _ _ _ (by simp)]
  exact mx_set (j:=4) (mx_set (j:=3) (mx_set (j:=2) (mx_set (j:=1) (mx_set (j:=0) K6.out _) _) _) _) _
 have r7:Wf.heap[w.heap.size+1]? =some (.cells #[.int .i64 30] 44 (0,0)):=by
  rw[←hWf,Below.heap_alloc _ _ _ (by simp[World.setCell];omega)]
  exact mx_set (j:=0) ((Below.heap_setCell _ _ _ _ (by simp)).trans ((Below.heap_setCell _ _ _ _ (by simp)).trans ((Below.heap_setCell _ _ _ _ (by simp)).trans ((Below.heap_setCell _ _ _ _ (by simp)).trans ((Below.heap_setCell _ _ _ _ (by simp)).trans K7.out))))) _
 have hbf:Below w.heap.size w Wf:=by
  rw[←hWf]
  exact((((((HB1.out.setCell (Nat.le_refl _) _).setCell (Nat.le_refl _) _).setCell (Nat.le_refl _) _).setCell (Nat.le_refl _) _).setCell (Nat.le_refl _) _).setCell (Nat.le_succ _) _).alloc (by simp[World.setCell];omega) _
 clear hWf p0 p1 p2 p3 p4 f0 f1 f2 f3 f4 p7 f7
 exact⟨_,res_learned rfl r6 r7 _ rfl rfl,rfl,hbf⟩
set_option maxRecDepth 100000 in
set_option maxHeartbeats 4000000 in
theorem conf_holds {O Oa:Nat→Prop} (a b:Nat) (A:Arn) (T:Trl) (id:Int) (w:World) (ha:ArAt Oa w a A) {c:List Int} (h:TrAt O w b T) (hg:A.get id=some c) (hcl:c.length≤4194304) (hf:T.failMax c 0=none):
  Calls Tryz.prog 32 #[.pointer (some ⟨a,0,none⟩),.pointer (some ⟨b,0,none⟩),.int .i64 id] w fun e w'=>e= .returned (.tuple #[.agg #[.slice none 0 0,.int .i64 0,.int .i64 0,.slice none 0 0,.slice none 0 0],.int .i64 140])∧Below w.heap.size w w':=by
 have HA:=Lib.hid ha
 have HG:=Lib.hid hg
 have HT:=Lib.hid h
 have HF:=Lib.hid hf
 clear ha hg h hf
 have hmm:=@run_makeMap Tryz.prog
 obtain⟨W0,hW0,hb0,hs0⟩:=cf_start a b w
 have HW0:=Lib.hid hW0
 have HB0:=Lib.hid hb0
 have HS0:=Lib.hid hs0
 clear hW0 hb0 hs0
 refine(callsIn_wide (n:=9)).1 ?_
 refine callsIn_of_wp_marks Tryz.func32 rfl trivial ?_ rfl
 simp only[Tryz.ntmps32,List.size_toArray,List.length_cons,List.length_nil,Nat.reduceAdd,Nat.reduceSub,Array.replicate_succ,Array.replicate_zero,List.push_toArray,List.append_toArray,List.nil_append,List.cons_append]
 gi_wp2
 refine wpIn_wide.2 (wp_scope_straight ((wpIn_wide (n:=9)).1 ?_))
 gi_wp2_with fail
 rw[HW0.out]
 refine⟨trivial,?_⟩
 refine(callsIn_wide.2 (wk_fails a b _ A T id c _ (HA.out.below HB0.out) (HT.out.below HB0.out) HG.out hcl)).mono ?_
 rintro e w1 ⟨hor,hb1⟩
 rcases hor with⟨v,n,hn,_⟩|⟨_,rfl⟩
 ·rw[HF.out]at hn
  cases hn
 have k6:=(hb1.block w.heap.size (by have:=HS0.out.size;omega)).trans HS0.out.res
 have k7:=(hb1.block (w.heap.size+1) (by have:=HS0.out.size;omega)).trans HS0.out.err
 have HB1:=Lib.hid (HB0.out.trans (hb1.mono HB0.out.size))
 have hz6:w.heap.size<w1.heap.size:=heap_lt k6
 have hz7:w.heap.size+1<w1.heap.size:=heap_lt k7
 obtain⟨⟨p0,p1,p2,p3,p4⟩,f0,f1,f2,f3,f4⟩:=cells5 k6
 have p7:=mx_cell (j:=0) k7
 have f7:=mx_free (j:=0) k7
 have K6:=Lib.hid k6
 have K7:=Lib.hid k7
 clear k6 k7 hb1
 gi_wp2_with fail
 rw[Exit.noGoto_ret]
 obtain⟨Wf,hWf⟩: ∃x,((((((w1.setCell ⟨w.heap.size,0,none⟩ (.slice none 0 0)).setCell ⟨w.heap.size,1,none⟩ (.int .i64 0)).setCell ⟨w.heap.size,2,none⟩ (.int .i64 0)).setCell ⟨w.heap.size,3,none⟩ (.slice none 0 0)).setCell ⟨w.heap.size,4,none⟩ (.slice none 0 0)).setCell ⟨w.heap.size+1,0,none⟩ (.int .i64 140)).alloc (.cells #[.int .i64 0] 3)=x:=⟨_,rfl⟩
 rw[hWf]
 have r6:Wf.heap[w.heap.size]? =some (.cells #[.slice none 0 0,.int .i64 0,.int .i64 0,.slice none 0 0,.slice none 0 0] 65 (0,0)):=by
  rw[←hWf,Below.heap_alloc _ _ _ (by simp[World.setCell];omega),Below.heap_setCell _ _ _ _ (by simp)]
  exact mx_set (j:=4) (mx_set (j:=3) (mx_set (j:=2) (mx_set (j:=1) (mx_set (j:=0) K6.out _) _) _) _) _
 have r7:Wf.heap[w.heap.size+1]? =some (.cells #[.int .i64 140] 44 (0,0)):=by
  rw[←hWf,Below.heap_alloc _ _ _ (by simp[World.setCell];omega)]
  exact mx_set (j:=0) ((Below.heap_setCell _ _ _ _ (by simp)).trans ((Below.heap_setCell _ _ _ _ (by simp)).trans ((Below.heap_setCell _ _ _ _ (by simp)).trans ((Below.heap_setCell _ _ _ _ (by simp)).trans ((Below.heap_setCell _ _ _ _ (by simp)).trans K7.out))))) _
 have hbf:Below w.heap.size w Wf:=by
  rw[←hWf]
  exact((((((HB1.out.setCell (Nat.le_refl _) _).setCell (Nat.le_refl _) _).setCell (Nat.le_refl _) _).setCell (Nat.le_refl _) _).setCell (Nat.le_refl _) _).setCell (Nat.le_succ _) _).alloc (by simp[World.setCell];omega) _
 clear hWf p0 p1 p2 p3 p4 f0 f1 f2 f3 f4 p7 f7
 exact⟨_,res_learned rfl r6 r7 _ rfl rfl,rfl,hbf⟩
end Go.Proofs.YtoojmhjagipmdaaGreat
