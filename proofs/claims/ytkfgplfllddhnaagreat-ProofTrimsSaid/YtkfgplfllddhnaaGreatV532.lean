/- package salvorlaw10: ProofResolves. Plain: what Check and Trim answer of steps that follow by their hints (ProofTrims). Memory: one more hint in a step that lies in a box; rows with something in them. -/
import Derived.Test.YtkfgplfllddhnaaGreatV531
namespace Go.Proofs.YtkfgplfllddhnaaGreat
open Go.RowKit
theorem run_true {k:Ckr} {m:Nat} (hp:k.proved=true):runE (k,m,0)=0∧runRep (k,m,0)=k.rep:=by
 have e:runE (k,m,0)=0:=by
  unfold runE
  rw[if_neg (fun h=>h rfl),if_pos hp]
 exact⟨e,by unfold runRep;rw[if_pos e]⟩
theorem run_false {k:Ckr} {m:Nat} (hp:k.proved=false):runE (k,m,0)=101∧runRep (k,m,0)=repZ:=by
 have e:runE (k,m,0)=101:=by
  unfold runE
  rw[if_neg (fun h=>h rfl),if_neg (by rw[hp];decide)]
 exact⟨e,by unfold runRep;rw[if_neg (by rw[e];decide)]⟩
end Go.Proofs.YtkfgplfllddhnaaGreat
namespace Go.Proofs.YtkfgplfllddhnaaGreat
open Go.RowKit
section
variable {cs:List (List Int)} {l:List EStep}
theorem trim_ways (hl:RupL cs l):(∃E,E≠0∧runE (runGo (ckrNew cs) l 0)=E)∨∃D m G,runE (runGo (ckrNew cs) l 0)=0∧trmGo (ckrNew cs) l 0 []=(D,m,true)∧bkL D=G∧TrimW cs l G:=by
 obtain⟨m,hc⟩:=chk_rup hl
 cases hp:(ckrP cs (l.take m)).proved with
 | false=>exact .inl ⟨101,by decide,by rw[hc.run];exact(run_false hp).1⟩
 | true=>
  right
  obtain⟨m',a1,_,a3,a4,a5⟩:=hl.full.trm hl l [] [] rfl
  have e:m'=m:=by
   rcases Nat.lt_trichotomy m' m with h|h|h
   ·have h1:=a5 (by have:=hc.le;omega)
    rw[hc.pre m' h]at h1
    cases h1
   ·exact h
   ·have h1:=a4 m (Nat.zero_le _) h
    rw[hp]at h1
    cases h1
  subst e
  rw[ckrP_nil]at a3
  exact⟨(l.take m').map (tS cs l),m',_,by rw[hc.run];exact(run_true hp).1,a3,rfl,trim_whole hl hc.le hc.pre hp⟩
theorem TrimOut.err {R:Ckr×Nat×Nat} {T:List EStep×Nat×Bool} {n0:Nat} {w':World} {e:Ending} (h:TrimOut R T n0 w' e) {E:Nat} (h1:E≠0) (h2:runE R=E):e= .returned (.tuple #[.slice none 0 0,.int .i64 (R.2.1:Nat),.int .i64 (E:Nat)]):=by
 unfold TrimOut at h
 rw[if_pos (by rw[h2];exact h1),h2]at h
 exact h
theorem TrimOut.some {R:Ckr×Nat×Nat} {T:List EStep×Nat×Bool} {n0:Nat} {w':World} {e:Ending} (h:TrimOut R T n0 w' e) {D G:List EStep} {m:Nat} (h1:runE R=0) (h2:T=(D,m,true)) (h3:bkL D=G): ∃v K,e= .returned (.tuple #[v,.int .i64 (-1),.int .i64 0])∧K.map Prod.fst=G∧StMem n0 w' v K:=by
 unfold TrimOut at h
 rw[if_neg (fun h=>h h1),h2,if_neg (fun h=>by cases h)]at h
 rw[←h3]
 exact h
theorem TrimW.again {G:List EStep} (h:TrimW cs l G):runE (runGo (ckrNew cs) G 0)=0∧runRep (runGo (ckrNew cs) G 0)= .agg #[.bool true,.int .i64 (ckrP cs G).adds,.int .i64 0,.int .i64 0,.int .i64 (ckrP cs G).largest]∧(runGo (ckrNew cs) G 0).2.1=G.length:=by
 rw[h.run]
 obtain⟨a,b⟩:=run_true (m:=G.length) h.prv
 refine⟨a,?_,rfl⟩
 rw[b]
 unfold Ckr.rep
 rw[h.prv]
 rfl
end
end Go.Proofs.YtkfgplfllddhnaaGreat
namespace Go.Proofs.YtkfgplfllddhnaaGreat
open Go.RowKit
theorem own_blk {w:World} {base size n:Nat} {e:TypeId} {v:Value} {xs:List Value} (h:w.ownsRow base e size v n xs) (hn:0<n): ∃g c,v= .slice (some ⟨g,0,none⟩) n c:=by
 rcases h.2 with⟨_,h0⟩|⟨g,cap,_,hv,_⟩
 ·omega
 ·exact⟨g,cap,hv⟩
theorem snd_push {B:Nat} {wr w2 wa w3:World} {dl:Bool} {id1:Int} {lv hv v':Value} {lits hs:List Int} {nn:Int} (hB:wr.heap.size≤B) (hx:w2.heap[B]? =some (.cells #[.bool dl,.int .i64 id1,lv,hv] 39 (0,0))) (ho:w2.ownsRow (B+1) 3 1 hv hs.length (hs.map (Value.int .i64))) (hl:IntsIn (fun g=>g<B) w2 lv lits) (hb:Below wr.heap.size wr w2) (ha:Below w2.heap.size w2 wa) (hg:wa.grownBy w3 hv.ownBlock) (hn:w3.ownsRow (B+1) 3 1 v' (hs.length+1) (hs.map (Value.int .i64)++ [.int .i64 nn])):
  w3.heap[B]? =some (.cells #[.bool dl,.int .i64 id1,lv,hv] 39 (0,0))∧Hid ((w3.setCell ⟨B,3,none⟩ v').heap[B]? =some (.cells #[.bool dl,.int .i64 id1,lv,v'] 39 (0,0)))∧Hid ((w3.setCell ⟨B,3,none⟩ v').ownsRow (B+1) 3 1 v' (hs++ [nn]).length ((hs++ [nn]).map (Value.int .i64)))∧Hid (IntsIn (fun g=>g<B) (w3.setCell ⟨B,3,none⟩ v') lv lits)∧Hid (Below wr.heap.size wr (w3.setCell ⟨B,3,none⟩ v')):=by
 have hBl:=heap_lt hx
 have hxa:=(ha.block _ hBl).trans hx
 have hoa:=own_below ho ha
 have hx3:w3.heap[B]? =some (.cells #[.bool dl,.int .i64 id1,lv,hv] 39 (0,0)):=(hg.block _ (heap_lt hxa) (fun e=>mx_not hoa hxa (by decide) e.symm)).trans hxa
 have hk:Kept (fun g=>g=B) w3 (w3.setCell ⟨B,3,none⟩ v'):=(Kept.refl (fun g=>g=B) w3).setCell ⟨B,3,none⟩ _ rfl
 have hlow: ∀g,hv.ownBlock=some g→B+1≤g:=fun g e=>(own_lt hoa g e).1
 have hb3:Below wr.heap.size wr w3:=(hb.trans (ha.mono hb.size)).grown hg (by have:=hb.size;have:=ha.size;omega) (fun g e=>by have:=hlow g e;omega)
 refine⟨hx3,Lib.hid (mx_set hx3 v' (j:=3)),Lib.hid ?_,Lib.hid ?_,Lib.hid (hb3.trans (hk.below (fun i e=>by rw[e];exact hB) hb3.size))⟩
 ·rw[List.length_append,List.map_append]
  exact own_kept hn hk (fun g e1 e2=>by have:=(own_lt hn g e1).1;omega)
 ·exact((hl.below ha).kept (Kept.grown hg) (fun g h1 h2=>by have:=hlow g h2.symm;omega)).kept hk (fun g h1 h2=>by omega)
theorem erase_map {α β:Type} (f:α→β): ∀(l:List α) (i:Nat),(l.eraseIdx i).map f=(l.map f).eraseIdx i:=by
 intro l
 induction l with
 | nil=>exact fun _=>rfl
 | cons a r ih=>
  intro i
  cases i with
  | zero=>rfl
  | succ i=>exact congrArg (f a:: ·) (ih i)
theorem own_of_blk {w:World} {n0 g n:Nat} {xs:List Int} {t:TypeId} (hn:xs.length=n) (hm:n≤1000000) (hb:n0≤g) (h:w.heap[g]? =some (.cells (xs.map (Value.int .i64)).toArray t (0,0))):w.ownsRow n0 t 1 (.slice (some ⟨g,0,none⟩) n n) n (xs.map (Value.int .i64)):=
 ⟨by simp[hn],.inr ⟨g,n,_,rfl,hb,h,Nat.le_refl _,by unfold maxLen;omega,by simp[hn],by simp[List.take_of_length_le,hn]⟩⟩
theorem stm_one {w:World} {n0 gm:Nat} {s:EStep} {Al Ah:Option Addr} {cl ch:Nat} (hb:n0≤gm) (h:w.heap[gm]? =some (.cells #[.bool s.del,.int .i64 s.id,.slice Al s.lits.length cl,.slice Ah s.hints.length ch] 39 (0,0))) (hl:w.ownsRow n0 58 1 (.slice Al s.lits.length cl) s.lits.length (s.lits.map (Value.int .i64))) (hh:w.ownsRow n0 3 1 (.slice Ah s.hints.length ch) s.hints.length (s.hints.map (Value.int .i64))):StMem n0 w (.slice (some ⟨gm,0,none⟩) 1 1) [(s,(Al,cl),(Ah,ch))] where
 row:=⟨rfl,.inr ⟨gm,1,_,rfl,hb,h,Nat.le_refl _,by unfold maxLen;omega,rfl,rfl⟩⟩
 lit:=fun x hx=>by rw[List.mem_singleton.1 hx];exact hl
 hnt:=fun x hx=>by rw[List.mem_singleton.1 hx];exact hh
end Go.Proofs.YtkfgplfllddhnaaGreat
