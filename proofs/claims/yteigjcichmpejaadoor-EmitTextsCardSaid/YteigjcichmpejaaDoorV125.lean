/- Plain: what EmitTexts' calls leave in a log. -/
import Derived.Test.YteigjcichmpejaaDoorV124
import Derived.Test.YteigjcichmpejaaDoorV110
namespace Go.Proofs.YteigjcichmpejaaDoor
open Go.RowKit
theorem badGo_of (L:ELog): ∀(ids seen:List Int),(∀x∈ids,L.has x=true∧x∉seen)→ids.Nodup→badGo L seen ids= []
 | [],_,_,_=>rfl
 | x::r,seen,h,hn=>by
  have h1:=h x List.mem_cons_self
  have h2:=List.nodup_cons.1 hn
  rw[badGo,if_neg]
  ·refine badGo_of L r (seen++ [x]) (fun y hy=>⟨(h y (List.mem_cons_of_mem _ hy)).1,fun hm=>?_⟩) h2.2
   rcases List.mem_append.1 hm with hm|hm
   ·exact(h y (List.mem_cons_of_mem _ hy)).2 hm
   ·rw[List.mem_singleton]at hm
    exact h2.1 (hm▸hy)
  ·rw[h1.1]
   simpa using h1.2
structure TxI (m:Nat) (L:ELog):Prop where
 inv:L.Inv
 last:L.last≤20+m
 len:L.steps.length≤m
 sz: ∀s∈L.steps,s.lits.length≤6∧s.hints.length≤6*m
 del: ∀(k:Nat) (s t:EStep),L.steps[k]? =some s→L.steps[k+1]? =some t→s.del=true→t.del=false
 emp: ∀(k:Nat) (s:EStep),L.steps[k]? =some s→s.del=false→s.lits= []→L.done=true∧k+1=L.steps.length
theorem TxI.mono {m n:Nat} {L:ELog} (h:TxI m L) (hmn:m≤n):TxI n L where
 inv:=h.inv
 last:=by have:=h.last;omega
 len:=by have:=h.len;omega
 sz:=fun s hs=>by have:=h.sz s hs;omega
 del:=h.del
 emp:=h.emp
theorem TxI.new {n:Nat} (hn:n≤20):TxI 0 (newLog n) where
 inv:=inv_new n (by omega)
 last:=by show n≤_;omega
 len:=Nat.le_refl _
 sz:=fun s hs=>by cases hs
 del:=fun k s t h=>by simp[newLog]at h
 emp:=fun k s h=>by simp[newLog]at h
theorem getElem_snoc {l:List EStep} {s t:EStep} {k:Nat} (h:(l++ [s])[k]? =some t):(k<l.length∧l[k]? =some t)∨(k=l.length∧t=s):=by
 rcases Nat.lt_or_ge k l.length with hk|hk
 ·rw[List.getElem?_append_left hk]at h
  exact .inl ⟨hk,h⟩
 ·have hk':k=l.length:=by
   have:=(List.getElem?_eq_some_iff.1 h).1
   rw[List.length_append,List.length_singleton]at this
   omega
  subst hk'
  rw[List.getElem?_append_right (Nat.le_refl _),Nat.sub_self]at h
  exact .inr ⟨rfl,(Option.some.inj h).symm⟩
theorem TxI.learn {m:Nat} {L:ELog} (h:TxI m L) (hm:m<100) {c ids:List Int} (hc:clauseB c=true) (hcl:c.length≤6) (hi:ids.length≤6) (hh: ∀x∈ids,L.has x=true):
  (learnErr L c ids=0∨learnErr L c ids=171)∧TxI (m+1) (learnLog L c ids):=by
 have h1:=h.last
 have h2:=h.len
 by_cases hd:L.done=true
 ·have he:learnErr L c ids=171:=by unfold learnErr;rw[if_pos hd]
  refine⟨.inr he,?_⟩
  unfold learnLog
  rw[if_neg (by rw[he];decide)]
  exact h.mono (Nat.le_succ _)
 ·have hz:(ids.any fun x=> !L.has x)=false:=List.any_eq_false.2 fun x hx=>by rw[hh x hx];decide
  have hf:L.full=false:=by
   unfold ELog.full
   rw[decide_eq_false (by omega),decide_eq_false (by omega)]
   rfl
  have he:learnErr L c ids=0:=by
   unfold learnErr
   rw[if_neg hd,if_neg (by rw[hc];decide),if_neg (by omega),if_neg (by rw[hz];decide),if_neg (by rw[hf];decide)]
  refine⟨.inl he,?_⟩
  have hno: ∀(k:Nat) (s:EStep),L.steps[k]? =some s→s.del=false→s.lits≠ []:=fun k s hk hsd hsl=>hd (h.emp k s hk hsd hsl).1
  unfold learnLog
  rw[if_pos he]
  refine⟨inv_learn h.inv he,?_,?_,fun s hs=>?_,fun k s t hk ht hsd=>?_,fun k s hk hsd hsl=>?_⟩
  ·show L.last+1≤_
   omega
  ·show(L.steps++ [_]).length≤_
   rw[List.length_append,List.length_singleton]
   omega
  ·rcases List.mem_append.1 (show s∈L.steps++ [⟨false,(L.last:Int)+1,c,ids⟩]from hs)with hs|hs
   ·have:=h.sz s hs
    omega
   ·rw[List.mem_singleton.1 hs]
    exact⟨hcl,by show ids.length≤_;omega⟩
  ·rcases getElem_snoc (show(L.steps++ [⟨false,(L.last:Int)+1,c,ids⟩])[k+1]? =some t from ht)with⟨hlt,ht⟩|⟨_,rfl⟩
   ·rcases getElem_snoc (show(L.steps++ [⟨false,(L.last:Int)+1,c,ids⟩])[k]? =some s from hk)with⟨_,hk⟩|⟨hke,_⟩
    ·exact h.del k s t hk ht hsd
    ·omega
   ·rfl
  ·rcases getElem_snoc (show(L.steps++ [⟨false,(L.last:Int)+1,c,ids⟩])[k]? =some s from hk)with⟨_,hk⟩|⟨hke,rfl⟩
   ·exact absurd hsl (hno k s hk hsd)
   ·refine⟨?_,?_⟩
    ·show c.isEmpty=true
     simp only at hsl
     rw[hsl]
     rfl
    ·show k+1=(L.steps++ [_]).length
     rw[List.length_append,List.length_singleton,hke]
theorem TxI.forget {m:Nat} {L:ELog} (h:TxI m L) (hm:m<100) {ids:List Int} (hi:ids.length≤6) (hh: ∀x∈ids,L.has x=true) (hn:ids.Nodup):
  ((forgetErr L ids=0∧forgetNum L ids=ids.length)∨forgetErr L ids=171)∧TxI (m+1) (forgetLog L ids):=by
 have h1:=h.last
 have h2:=h.len
 by_cases hd:L.done=true
 ·have he:forgetErr L ids=171:=by unfold forgetErr;rw[if_pos hd]
  refine⟨.inr he,?_⟩
  unfold forgetLog
  rw[if_neg (by rw[he];exact fun h=>absurd h.1 (by decide))]
  exact h.mono (Nat.le_succ _)
 ·have hbad:badGo L [] ids= []:=badGo_of L ids [] (fun x hx=>⟨hh x hx,fun h=>by cases h⟩) hn
  have htot:L.tot ids≤6*m+6:=by
   unfold ELog.tot
   cases hl:L.steps.getLast? with
   | none=>show ids.length≤_;omega
   | some s=>
    have:=h.sz s (List.mem_of_getLast? hl)
    show(if s.del=true then ids.length+s.hints.length else ids.length)≤_
    split <;> omega
  have he:forgetErr L ids=0:=by
   unfold forgetErr
   rw[if_neg hd,if_neg (fun hc=>hc hbad)]
   split
   ·rfl
   ·rw[if_neg (by omega),if_neg (by omega)]
  refine⟨.inl ⟨he,?_⟩,?_⟩
  ·unfold forgetNum
   rw[if_neg hd,hbad]
   simp only
   rw[if_pos he]
  unfold forgetLog
  by_cases hne:ids.length≠0
  ·rw[if_pos ⟨he,hne⟩]
   have hno: ∀(k:Nat) (s:EStep),L.steps[k]? =some s→s.del=false→s.lits≠ []:=fun k s hk hsd hsl=>hd (h.emp k s hk hsd hsl).1
   have hv:=inv_forget h.inv he hne
   have hlast:(L.forget ids).last=L.last:=by
    unfold ELog.forget
    split
    ·split <;> rfl
    ·rfl
   have key:(∃mp s,L.steps=mp++ [s]∧s.del=true∧(L.forget ids).steps=mp++ [⟨true,s.id,s.lits,s.hints++ids⟩])∨
     ((∀(k:Nat) (s:EStep),L.steps[k]? =some s→k+1=L.steps.length→s.del=false)∧(L.forget ids).steps=L.steps++ [⟨true,L.last,[],ids⟩]):=by
    unfold ELog.forget
    cases hl:L.steps.getLast? with
    | none=>
     refine .inr ⟨fun k s hk _=>?_,rfl⟩
     rw[List.getLast?_eq_none_iff]at hl
     rw[hl]at hk
     cases hk
    | some s=>
     obtain⟨mp,hmp⟩: ∃mp,L.steps=mp++ [s]:=by
      rcases getLast_cases L.steps with h0|⟨mp,t,h0⟩
      ·rw[h0]at hl
       cases hl
      ·rw[h0,List.getLast?_concat]at hl
       exact⟨mp,by rw[h0,Option.some.inj hl]⟩
     simp only
     cases hsd:s.del with
     | true=>
      refine .inl ⟨mp,s,hmp,hsd,?_⟩
      show(L.joinDel L.steps.dropLast s ids).steps=_
      rw[hmp,List.dropLast_concat]
      rfl
     | false=>
      refine .inr ⟨fun k t hk hke=>?_,rfl⟩
      rw[hmp]at hk hke
      rcases getElem_snoc hk with⟨hlt,_⟩|⟨_,rfl⟩
      ·rw[List.length_append,List.length_singleton]at hke
       omega
      ·exact hsd
   rcases key with⟨mp,s,hmp,hsd,hst⟩|⟨hnd,hst⟩
   ·have hml:L.steps.length=mp.length+1:=by rw[hmp,List.length_append,List.length_singleton]
    have hmem: ∀t∈mp,t∈L.steps:=fun t ht=>by rw[hmp];exact List.mem_append_left _ ht
    have hat: ∀{k:Nat} {t:EStep},k<mp.length→mp[k]? =some t→L.steps[k]? =some t:=fun {k t} hk ht=>by rw[hmp,List.getElem?_append_left hk];exact ht
    have hs0:L.steps[mp.length]? =some s:=by rw[hmp,List.getElem?_append_right (Nat.le_refl _),Nat.sub_self];rfl
    refine⟨hv,by rw[hlast];omega,by rw[hst,List.length_append,List.length_singleton];omega,fun t ht=>?_,fun k a b hk hb hsa=>?_,fun k a hk hsa hsl=>?_⟩
    ·rw[hst]at ht
     rcases List.mem_append.1 ht with ht|ht
     ·have:=h.sz t (hmem t ht)
      omega
     ·rw[List.mem_singleton.1 ht]
      have:=h.sz s (by rw[hmp];exact List.mem_append_right _ (List.mem_singleton.2 rfl))
      refine⟨this.1,?_⟩
      show(s.hints++ids).length≤_
      rw[List.length_append]
      omega
    ·rw[hst]at hk hb
     rcases getElem_snoc hb with⟨hlt,hb⟩|⟨hke,rfl⟩
     ·rcases getElem_snoc hk with⟨hlt2,hk⟩|⟨hke,_⟩
      ·exact h.del k a b (hat hlt2 hk) (hat hlt hb) hsa
      ·omega
     ·rcases getElem_snoc hk with⟨hlt2,hk⟩|⟨hke2,_⟩
      ·have:=h.del k a s (hat hlt2 hk) (by rw[hke];exact hs0) hsa
       rw[hsd]at this
       cases this
      ·omega
    ·rw[hst]at hk
     rcases getElem_snoc hk with⟨hlt,hk⟩|⟨hke,rfl⟩
     ·exact absurd hsl (hno k a (hat hlt hk) hsa)
     ·cases hsa
   ·refine⟨hv,by rw[hlast];omega,by rw[hst,List.length_append,List.length_singleton];omega,fun t ht=>?_,fun k a b hk hb hsa=>?_,fun k a hk hsa hsl=>?_⟩
    ·rw[hst]at ht
     rcases List.mem_append.1 ht with ht|ht
     ·have:=h.sz t ht
      omega
     ·rw[List.mem_singleton.1 ht]
      exact⟨Nat.zero_le _,by show ids.length≤_;omega⟩
    ·rw[hst]at hk hb
     rcases getElem_snoc hb with⟨hlt,hb⟩|⟨hke,rfl⟩
     ·rcases getElem_snoc hk with⟨hlt2,hk⟩|⟨hke,_⟩
      ·exact h.del k a b hk hb hsa
      ·omega
     ·rcases getElem_snoc hk with⟨hlt2,hk⟩|⟨hke2,_⟩
      ·have:=hnd k a hk hke
       rw[hsa]at this
       cases this
      ·omega
    ·rw[hst]at hk
     rcases getElem_snoc hk with⟨hlt,hk⟩|⟨hke,rfl⟩
     ·exact absurd hsl (hno k a hk hsa)
     ·cases hsa
  ·rw[if_neg (fun hc=>hne hc.2)]
   exact h.mono (Nat.le_succ _)
theorem stepT_len {s:EStep} (h:StepOk s):(stepT s).length≤22*(s.lits.length+s.hints.length+3):=by
 obtain⟨r1,r2,r3,_⟩:=stepOk_rng h
 have h1:=numT_len s.id r1
 have h2:=numsT_len s.lits r2
 have h3:=numsT_len s.hints r3
 have h4:=numT_len 0 ⟨by decide,by decide⟩
 have h5:(numT s.id).length=(Lib.itoa s.id).length+1:=by unfold numT;rw[List.length_cons]
 unfold stepT
 rw[List.length_append,List.length_append,List.length_append]
 split
 ·rw[List.length_cons,List.length_cons,List.length_nil]
  omega
 ·rw[List.length_append]
  omega
theorem proofT_len {N:Nat}: ∀(l:List EStep),(∀s∈l,(stepT s).length≤N)→(proofT l).length≤l.length*(N+1)
 | [],_=>by simp[proofT]
 | s::l,h=>by
  have h1:=proofT_len l fun x hx=>h x (List.mem_cons_of_mem _ hx)
  have h2:=h s List.mem_cons_self
  have h3:proofT (s::l)=(stepT s++ [10])++proofT l:=by unfold proofT;rw[List.flatMap_cons]
  rw[h3,List.length_append,List.length_append,List.length_singleton,List.length_cons,Nat.succ_mul]
  omega
theorem TxI.text {m:Nat} {L:ELog} (h:TxI m L) (hm:m≤30):(proofT L.steps).length≤16777216:=by
 have h1:=proofT_len (N:=5000) L.steps fun s hs=>by
  have h2:=stepT_len (h.inv.proof.each s hs)
  have h3:=h.sz s hs
  omega
 have h2:=h.len
 have h3:L.steps.length*5001≤30*5001:=Nat.mul_le_mul_right _ (by omega)
 omega
end Go.Proofs.YteigjcichmpejaaDoor
