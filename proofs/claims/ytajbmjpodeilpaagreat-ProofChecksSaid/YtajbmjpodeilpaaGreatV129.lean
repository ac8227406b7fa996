/- Reference of layer 10: what Trim's loop keeps. -/
import Derived.Test.YtajbmjpodeilpaaGreatV125
import Derived.Test.YtajbmjpodeilpaaGreatV128
import Derived.Test.YtajbmjpodeilpaaGreatV127
namespace Go.Proofs.YtajbmjpodeilpaaGreat
open Go.RowKit
theorem run_ge: ∀(l:List EStep) (k:Ckr) (n:Nat),n≤(runGo k l n).2.1
 | [],k,n=>Nat.le_refl _
 | s::r,k,n=>by
  rw[runGo_cons']
  split
  ·exact Nat.le_refl _
  ·split
   ·exact Nat.le_refl _
   ·have:=run_ge r (k.do_ s).1 (n+1)
    omega
where runGo_cons' (k:Ckr) (s:EStep) (r:List EStep) (n:Nat):runGo k (s::r) n=if k.proved=true then(k,n,0)else if(k.do_ s).2.2.2≠0 then((k.do_ s).1,n,(k.do_ s).2.2.2)else runGo (k.do_ s).1 r (n+1):=rfl
theorem run_le (l:List EStep): ∀(r:List EStep) (k:Ckr) (n:Nat),n+r.length=l.length→(runGo k r n).2.1≤l.length
 | [],k,n,h=>by
  show n≤_
  omega
 | s::r,k,n,h=>by
  rw[List.length_cons]at h
  rw[run_ge.runGo_cons']
  split
  ·show n≤_
   omega
  ·split
   ·show n≤_
    omega
   ·exact run_le l r _ _ (by omega)
theorem run_in {k:Ckr} {l:List EStep} {j:Nat} {R:Ckr×Nat×Nat} (hR:runGo k (l.drop j) j=R) (hj:j<R.2.1): ∃s,l[j]? =some s∧k.proved=false∧(k.do_ s).2.2.2=0∧runGo (k.do_ s).1 (l.drop (j+1)) (j+1)=R:=by
 cases hs:l[j]? with
 | none=>
  rw[List.drop_eq_nil_of_le (List.getElem?_eq_none_iff.1 hs),run_nil]at hR
  subst hR
  exact absurd hj (Nat.lt_irrefl _)
 | some s=>
  rw[run_step hs]at hR
  by_cases hp:k.proved=true
  ·rw[if_pos hp]at hR
   subst hR
   exact absurd hj (Nat.lt_irrefl _)
  ·rw[if_neg hp]at hR
   by_cases h0:(k.do_ s).2.2.2≠0
   ·rw[if_pos h0]at hR
    subst hR
    exact absurd hj (Nat.lt_irrefl _)
   ·rw[if_neg h0]at hR
    exact⟨s,rfl,by simpa using hp,by omega,hR⟩
theorem run_end {k:Ckr} {l:List EStep} {j:Nat} {R:Ckr×Nat×Nat} (hR:runGo k (l.drop j) j=R) (hE:runE R=0) (hj:R.2.1=j) (out:List EStep):trmGo k (l.drop j) j out=(out,j,true):=by
 cases hs:l[j]? with
 | none=>
  rw[List.drop_eq_nil_of_le (List.getElem?_eq_none_iff.1 hs),trm_nil]
 | some s=>
  rw[run_step hs]at hR
  rw[trm_step hs]
  by_cases hp:k.proved=true
  ·rw[if_pos hp]
  ·rw[if_neg hp]at hR
   by_cases h0:(k.do_ s).2.2.2≠0
   ·rw[if_pos h0]at hR
    subst hR
    unfold runE at hE
    rw[if_pos h0]at hE
    exact absurd hE h0
   ·rw[if_neg h0]at hR
    have:=run_ge (l.drop (j+1)) (k.do_ s).1 (j+1)
    rw[hR,hj]at this
    omega
theorem stepB_three {s:EStep} (h:stepB s=true):clauseB s.lits=true∧s.hints.length≤65536∧splitOk s.hints:=by
 unfold stepB at h
 rw[Bool.and_eq_true,Bool.and_eq_true,Bool.and_eq_true,decide_eq_true_eq]at h
 refine⟨h.2.1.1,h.2.1.2,fun x hx=>?_⟩
 have h2:=h.2.2
 rw[Bool.not_eq_true',List.any_eq_false]at h2
 have h3:=h2 x hx
 simp only[Bool.or_eq_true,decide_eq_true_eq,not_or]at h3
 refine⟨h3.1.1.1,by omega,by omega⟩
structure TSt (O:Nat→Prop) (B0 B1:Nat) (w:World) (v:Value) (K:List StV):Prop where
 row:w.ownsRow B1 78 4 v K.length (K.flatMap stcell)
 lit: ∀x∈K,IntsIn (fun g=>O g∧g<B0) w (Value.slice x.2.1.1 x.1.lits.length x.2.1.2) x.1.lits
 hnt: ∀x∈K,w.ownsRow B1 3 1 (Value.slice x.2.2.1 x.1.hints.length x.2.2.2) x.1.hints.length (x.1.hints.map (Value.int .i64))
section
variable {O:Nat→Prop} {B0 B1:Nat} {w w1:World} {v v':Value} {K:List StV}
theorem TSt.nil (O:Nat→Prop) (B0 B1:Nat) (w:World):TSt O B0 B1 w (.slice none 0 0) []:=⟨World.ownsRow_nil _ _ _ _,(fun x hx=>by cases hx),(fun x hx=>by cases hx)⟩
theorem TSt.below (h:TSt O B0 B1 w v K) (k:Below w.heap.size w w1):TSt O B0 B1 w1 v K:=⟨own_below h.row k,fun x hx=>(h.lit x hx).below k,fun x hx=>own_below (h.hnt x hx) k⟩
theorem TSt.kept (h:TSt O B0 B1 w v K) {p:Nat} (k:Kept (fun g=>g=p) w w1) (h0:B0≤p) (h1:p<B1):TSt O B0 B1 w1 v K:=
 ⟨own_kept h.row k (fun g hg e=>by have:=(own_lt h.row g hg).1;omega),fun x hx=>(h.lit x hx).kept k (fun g hg e=>by have:=hg.2;omega),fun x hx=>own_kept (h.hnt x hx) k (fun g hg e=>by have:=(own_lt (h.hnt x hx) g hg).1;omega)⟩
theorem TSt.push (h:TSt O B0 B1 w v K) (hB:B0≤B1) (hg:w.grownBy w1 v.ownBlock) (x:StV) (hr:w1.ownsRow B1 78 4 v' (K.length+1) (K.flatMap stcell++stcell x)) (hl:IntsIn (fun g=>O g∧g<B0) w (Value.slice x.2.1.1 x.1.lits.length x.2.1.2) x.1.lits) (hh:w.ownsRow B1 3 1 (Value.slice x.2.2.1 x.1.hints.length x.2.2.2) x.1.hints.length (x.1.hints.map (Value.int .i64))):TSt O B0 B1 w1 v' (K++ [x]) where
 row:=by
  rw[List.length_append,List.flatMap_append]
  simpa using hr
 lit:=fun y hy=>by
  have hy2:IntsIn (fun g=>O g∧g<B0) w (Value.slice y.2.1.1 y.1.lits.length y.2.1.2) y.1.lits:=by
   rcases List.mem_append.1 hy with hy|hy
   ·exact h.lit y hy
   ·rw[List.mem_singleton.1 hy];exact hl
  exact hy2.kept (Kept.grown hg) (fun g h1 h2=>by have:=(own_lt h.row g h2.symm).1;have:=h1.2;omega)
 hnt:=fun y hy=>by
  have hy2:w.ownsRow B1 3 1 (Value.slice y.2.2.1 y.1.hints.length y.2.2.2) y.1.hints.length (y.1.hints.map (Value.int .i64)):=by
   rcases List.mem_append.1 hy with hy|hy
   ·exact h.hnt y hy
   ·rw[List.mem_singleton.1 hy];exact hh
  exact own_kept hy2 (Kept.grown hg) (fun g h1 h2=>mx_apart hy2 h.row (by decide) h1 h2.symm)
end
structure PSt (O:Nat→Prop) (B:Nat) (w:World) (v:Value) (K:List StV):Prop where
 row:w.ownsRow B 78 4 v K.length (K.flatMap stcell)
 lit: ∀x∈K,IntsIn (fun g=>O g∧g<B) w (Value.slice x.2.1.1 x.1.lits.length x.2.1.2) x.1.lits
 hnt: ∀x∈K,IntsIn (fun g=>O g∧g<B) w (Value.slice x.2.2.1 x.1.hints.length x.2.2.2) x.1.hints
section
variable {O:Nat→Prop} {B:Nat} {w w1:World} {v v':Value} {K:List StV}
theorem PSt.nil (O:Nat→Prop) (B:Nat) (w:World):PSt O B w (.slice none 0 0) []:=⟨World.ownsRow_nil _ _ _ _,(fun x hx=>by cases hx),(fun x hx=>by cases hx)⟩
theorem PSt.grown {x:StV} (h:PSt O B w v K) (k:Below B w w1) (ho:w1.ownsRow B 78 4 v' (K.length+1) (K.flatMap stcell++stcell x)) (hl:IntsIn (fun g=>O g∧g<B) w1 (Value.slice x.2.1.1 x.1.lits.length x.2.1.2) x.1.lits) (hh:IntsIn (fun g=>O g∧g<B) w1 (Value.slice x.2.2.1 x.1.hints.length x.2.2.2) x.1.hints):PSt O B w1 v' (K++ [x]) where
 row:=by
  rw[List.length_append,List.flatMap_append]
  simpa using ho
 lit:=fun y hy=>by
  rcases List.mem_append.1 hy with hy|hy
  ·exact ints_low (h.lit y hy) k
  ·rw[List.mem_singleton.1 hy];exact hl
 hnt:=fun y hy=>by
  rcases List.mem_append.1 hy with hy|hy
  ·exact ints_low (h.hnt y hy) k
  ·rw[List.mem_singleton.1 hy];exact hh
theorem PSt.stepIn (h:PSt O B w v K):StepIn (fun g=>O g∨B≤g) w v (K.map Prod.fst):=by
 have hrow:=h.row
 rcases hrow.2 with⟨rfl,h0⟩|⟨g,cap,cur,rfl,hb,hg,hle,_⟩
 ·exact⟨none,0,by rw[List.length_map,h0],by rw[List.length_map,h0];exact Nat.le_refl _,fun _=>rfl,fun i p hi=>by
   have:=(List.getElem?_eq_some_iff.1 hi).1
   rw[List.length_map]at this
   omega⟩
 ·refine⟨_,cap,by rw[List.length_map],by rw[List.length_map];exact hle,(fun h=>by cases h),fun i p hi=>?_⟩
  rw[List.getElem?_map]at hi
  cases hx:K[i]? with
  | none=>rw[hx]at hi;cases hi
  | some x=>
   rw[hx]at hi
   obtain rfl:=Option.some.inj hi
   obtain⟨e0,e1,e2,e3⟩:=stcell_at K i x hx
   have hxm:=List.mem_of_getElem? hx
   exact⟨g,0,(Value.slice x.2.1.1 x.1.lits.length x.2.1.2),(Value.slice x.2.2.1 x.1.hints.length x.2.2.2),rfl,heap_lt hg,.inr hb,by rw[Nat.zero_add];exact mx_at hrow e0,by rw[Nat.zero_add];exact mx_at hrow e1,by rw[Nat.zero_add];exact mx_at hrow e2,by rw[Nat.zero_add];exact mx_at hrow e3,(h.lit x hxm).mono fun _ hg=>.inl hg.1,(h.hnt x hxm).mono fun _ hg=>.inl hg.1⟩
end
def kPick:List StV→List Bool→List StV
 | x::r,b::t=>if b=true then x::kPick r t else kPick r t
 | _,_=> []
theorem kPick_fst: ∀(K:List StV) (t:List Bool),(kPick K t).map Prod.fst=rPick (K.map Prod.fst) t
 | [],t=>by cases t <;> rfl
 | x::r,[]=>rfl
 | x::r,b::t=>by
  rw[List.map_cons,kPick,rPick]
  split
  ·rw[List.map_cons,kPick_fst r t]
  ·exact kPick_fst r t
theorem kPick_take: ∀(k:Nat) (K:List StV) (t:List Bool) (x:StV) (b:Bool),K[k]? =some x→t[k]? =some b→kPick (K.take (k+1)) (t.take (k+1))=kPick (K.take k) (t.take k)++if b=true then [x]else []
 | 0,y::r,c::t,x,b,h1,h2=>by
  obtain rfl:y=x:=by simpa using h1
  obtain rfl:c=b:=by simpa using h2
  simp only[List.take_succ_cons,List.take_zero,kPick]
  split <;> rfl
 | k+1,y::r,c::t,x,b,h1,h2=>by
  have:=kPick_take k r t x b (by simpa using h1) (by simpa using h2)
  simp only[List.take_succ_cons,kPick]at this⊢
  split
  ·rw[this];rfl
  ·exact this
 | k,[],t,x,b,h1,h2=>by simp at h1
 | k,y::r,[],x,b,h1,h2=>by simp at h2
def RTOut (vn:Int) (cs:List (List Int)) (ss:List EStep) (O:Nat→Prop) (w':World) (e:Ending):Prop:=
 if(fchk vn cs).2≠0 then e= .returned (.tuple #[.slice none 0 0,.int .i64 0,.int .i64 ((fchk vn cs).2:Nat)])else
 if runE (runGo (ckrNew cs) ss 0)≠0 then e= .returned (.tuple #[.slice none 0 0,.int .i64 ((runGo (ckrNew cs) ss 0).2.1:Nat),.int .i64 (runE (runGo (ckrNew cs) ss 0):Nat)])else
 if(trmGo (ckrNew cs) ss 0 []).2.2=false then e= .returned (.tuple #[.slice none 0 0,.int .i64 ((trmGo (ckrNew cs) ss 0 []).2.1:Nat),.int .i64 102])else
 ∃v,e= .returned (.tuple #[v,.int .i64 (-1),.int .i64 0])∧StepIn O w' v (bkL (trmGo (ckrNew cs) ss 0 []).1)
end Go.Proofs.YtajbmjpodeilpaaGreat
