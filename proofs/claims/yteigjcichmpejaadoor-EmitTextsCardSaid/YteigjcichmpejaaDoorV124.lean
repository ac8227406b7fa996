/- Learn and Forget (package emit), each in one contract; what every log keeps. -/
import Derived.Test.YteigjcichmpejaaDoorV123
namespace Go.Proofs.YteigjcichmpejaaDoor
open Go.RowKit
theorem badGo_nil (L:ELog) (seen ids:List Int) (h:badGo L seen ids= []):(∀x∈ids,L.has x=true∧x∉seen)∧ids.Nodup:=by
 induction ids generalizing seen with
 | nil=>exact⟨(fun x hx=>by cases hx),List.nodup_nil⟩
 | cons x r ih=>
  simp only[badGo]at h
  split at h
  ·cases h
  ·rename_i hn
   simp only[Bool.or_eq_true,Bool.not_eq_true',not_or,Bool.not_eq_true]at hn
   obtain⟨h1,h2⟩:=ih _ h
   have hx:x∉seen:=by
    have:=hn.2
    simpa using this
   refine⟨fun y hy=>?_,List.nodup_cons.2 ⟨fun hm=>(h1 x hm).2 (by simp),h2⟩⟩
   rcases List.mem_cons.1 hy with rfl|hy
   ·exact⟨by simpa using hn.1,hx⟩
   ·exact⟨(h1 y hy).1,fun hm=>(h1 y hy).2 (List.mem_append_left _ hm)⟩
theorem nodup_range (l:List Int) (n:Nat) (h:l.Nodup) (hr: ∀x∈l,1≤x∧x≤(n:Int)):l.length≤n:=by
 induction n generalizing l with
 | zero=>
  cases l with
  | nil=>simp
  | cons x l=>have:=hr x List.mem_cons_self;omega
 | succ n ih=>
  have h1:=ih (l.filter fun x=>x != ((n+1:Nat):Int)) (h.filter _) (fun x hx=>by
   have:=List.mem_filter.1 hx
   have h2:=hr x this.1
   have h3:x≠((n+1:Nat):Int):=by simpa using this.2
   omega)
  have h2:l.length≤(l.filter fun x=>x != ((n+1:Nat):Int)).length+1:=by
   clear h1 hr ih
   generalize ((n+1:Nat):Int)=a
   induction l with
   | nil=>simp
   | cons x l ihl=>
    have hx:=List.nodup_cons.1 h
    have h3:=ihl hx.2
    by_cases he:x=a
    ·subst he
     have:l.filter (fun y=>y != x)=l:=List.filter_eq_self.2 (fun y hy=>by
      have:y≠x:=fun e=>hx.1 (e▸hy)
      simpa using this)
     rw[List.filter_cons,this]
     simp
    ·rw[List.filter_cons,if_pos (by simpa using he)]
     simp only[List.length_cons]
     omega
  omega
structure ELog.Inv (L:ELog):Prop where
 last:L.last≤1073741824
 proof:ProofOk L.steps
 prev:prevId L.steps L.steps.length≤(L.last:Int)
 cnt:L.count+L.gone.length=L.last
 gone:L.gone.Nodup
 rng: ∀x∈L.gone,1≤x∧x≤(L.last:Int)
theorem ELog.Inv.ok {L:ELog} (h:L.Inv):L.Ok:=
 ⟨h.proof.len,h.last,fun s hs=>⟨(stepOk_rng (h.proof.each s hs)).2.2.2,(h.proof.each s hs).len⟩⟩
theorem inv_new (n:Nat) (h:n≤1048576):(newLog n).Inv:=
 ⟨by show n≤_;omega,⟨(fun s hs=>by cases hs),(fun k s hk=>by simp[newLog]at hk),by simp[newLog]⟩,by simp[newLog,prevId],rfl,List.nodup_nil,(fun x hx=>by cases hx)⟩
theorem has_rng {L:ELog} {x:Int} (h:L.has x=true):1≤x∧x≤(L.last:Int)∧x∉L.gone:=by
 unfold ELog.has at h
 rw[Bool.and_eq_true,decide_eq_true_eq]at h
 exact⟨h.1.1,h.1.2,by simpa using h.2⟩
theorem prevId_append (l:List EStep) (s:EStep):prevId (l++ [s]) (l.length+1)=s.id:=by
 simp[prevId]
theorem prevId_lt (l r:List EStep) (k:Nat) (h:k≤l.length):prevId (l++r) k=prevId l k:=by
 cases k with
 | zero=>rfl
 | succ k=>simp only[prevId];rw[List.getElem?_append_left (by omega)]
theorem proofOk_push {l:List EStep} {s:EStep} (h:ProofOk l) (hs:StepOk s) (hl:l.length<262144) (hf:prevId l l.length<s.id∨s.del=true∧s.id=prevId l l.length):ProofOk (l++ [s]):=by
 refine⟨fun x hx=>?_,fun k x hk=>?_,by simp;omega⟩
 ·rcases List.mem_append.1 hx with h1|h1
  ·exact h.each x h1
  ·obtain rfl:x=s:=by simpa using h1
   exact hs
 ·rcases Nat.lt_or_ge k l.length with hlt|hge
  ·rw[List.getElem?_append_left hlt]at hk
   rw[prevId_lt _ _ _ (by omega)]
   exact h.fits k x hk
  ·have hk':k=l.length:=by
    have:=(List.getElem?_eq_some_iff.1 hk).1
    simp at this
    omega
   subst hk'
   rw[List.getElem?_append_right (Nat.le_refl _),Nat.sub_self]at hk
   obtain rfl:=Option.some.inj hk
   rw[prevId_lt _ _ _ (Nat.le_refl _)]
   exact hf
theorem proofOk_front {l:List EStep} {s:EStep} (h:ProofOk (l++ [s])):ProofOk l∧l.length<262144∧(prevId l l.length<s.id∨s.del=true∧s.id=prevId l l.length):=by
 have hl:=h.len
 simp at hl
 refine⟨⟨fun x hx=>h.each x (List.mem_append_left _ hx),fun k x hk=>?_,by omega⟩,by omega,?_⟩
 ·have hlt:=(List.getElem?_eq_some_iff.1 hk).1
  have:=h.fits k x (by rw[List.getElem?_append_left hlt];exact hk)
  rwa [prevId_lt _ _ _ (by omega)]at this
 ·have:=h.fits l.length s (by simp)
  rwa [prevId_lt _ _ _ (Nat.le_refl _)]at this
theorem learnErr_zero {L:ELog} {c h:List Int} (he:learnErr L c h=0):L.done=false∧clauseB c=true∧h.length≤65536∧(∀x∈h,L.has x=true)∧L.last<1073741824∧L.steps.length<262144:=by
 unfold learnErr at he
 split at he
 ·cases he
 ·rename_i h1
  split at he
  ·cases he
  ·rename_i h2
   split at he
   ·cases he
   ·rename_i h3
    split at he
    ·cases he
    ·rename_i h4
     split at he
     ·cases he
     ·rename_i h5
      unfold ELog.full at h5
      simp only[Bool.or_eq_true,decide_eq_true_eq,not_or]at h5
      refine⟨by simpa using h1,by simpa using h2,by omega,fun x hx=>?_,by omega,by omega⟩
      apply Classical.byContradiction
      intro hn
      exact h4 (List.any_eq_true.2 ⟨x,hx,by simpa using hn⟩)
theorem hintOk_has {L:ELog} (hi:L.last≤1073741824) {x:Int} (h:L.has x=true):HintOk x:=by
 have:=has_rng h
 exact⟨this.1,by omega⟩
theorem inv_learn {L:ELog} {c h:List Int} (hi:L.Inv) (he:learnErr L c h=0):(L.learn c h).Inv:=by
 obtain⟨h1,h2,h3,h4,h5,h6⟩:=learnErr_zero he
 have hs:StepOk ⟨false,(L.last:Int)+1,c,h⟩:=⟨by show(1:Int)≤(L.last:Int)+1;omega,by show(L.last:Int)+1≤_;omega,(fun h=>by cases h),h2,h3,fun x hx=>hintOk_has hi.last (h4 x hx)⟩
 refine⟨by show L.last+1≤_;omega,proofOk_push hi.proof hs h6 (.inl ?_),?_,?_,hi.gone,fun x hx=>?_⟩
 ·have:=hi.prev
  show _<(L.last:Int)+1
  omega
 ·show prevId (L.steps++ [_]) (L.steps++ [_]).length≤((L.last+1:Nat):Int)
  rw[List.length_append,List.length_singleton,prevId_append]
  show(L.last:Int)+1≤_
  omega
 ·have:=hi.cnt
  show L.count+1+L.gone.length=L.last+1
  omega
 ·have:=hi.rng x hx
  exact⟨this.1,by show x≤((L.last+1:Nat):Int);omega⟩
def ELog.join (L:ELog):Bool:=match L.steps.getLast? with
 | some s=>s.del
 | none=>false
def ELog.tot (L:ELog) (ids:List Int):Nat:=match L.steps.getLast? with
 | some s=>if s.del then ids.length+s.hints.length else ids.length
 | none=>ids.length
def forgetErr (L:ELog) (ids:List Int):Nat:=
 if L.done then 171 else if badGo L [] ids≠ []then 170 else if ids.length=0 then 0 else if 65536<L.tot ids then 5 else if L.join=false∧262144≤L.steps.length then 4 else 0
def forgetNum (L:ELog) (ids:List Int):Int:=
 if L.done then 0 else match badGo L [] ids with
  | x::_=>x
  | []=>if forgetErr L ids=0 then ids.length else 0
def ELog.forget (L:ELog) (ids:List Int):ELog:=match L.steps.getLast? with
 | some s=>if s.del then L.joinDel L.steps.dropLast s ids else L.addDel ids
 | none=>L.addDel ids
def forgetLog (L:ELog) (ids:List Int):ELog:=if forgetErr L ids=0∧ids.length≠0 then L.forget ids else L
theorem forget_count {L:ELog} (hi:L.Inv) {ids:List Int} (hb:badGo L [] ids= []):ids.length≤L.count∧(L.gone++ids).Nodup∧(∀x∈L.gone++ids,1≤x∧x≤(L.last:Int))∧∀x∈ids,HintOk x:=by
 obtain⟨h1,h2⟩:=badGo_nil L [] ids hb
 have hr: ∀x∈L.gone++ids,1≤x∧x≤(L.last:Int):=fun x hx=>by
  rcases List.mem_append.1 hx with h|h
  ·exact hi.rng x h
  ·have:=has_rng (h1 x h).1
   exact⟨this.1,this.2.1⟩
 have hn:(L.gone++ids).Nodup:=by
  rw[List.nodup_append]
  refine⟨hi.gone,h2,fun a ha b hb e=>?_⟩
  subst e
  exact(has_rng (h1 a hb).1).2.2 ha
 have:=nodup_range _ _ hn hr
 rw[List.length_append]at this
 have hc:=hi.cnt
 exact⟨by omega,hn,hr,fun x hx=>hintOk_has hi.last (h1 x hx).1⟩
theorem getLast_cases (l:List EStep):l= []∨∃mp s,l=mp++ [s]:=by
 rcases List.eq_nil_or_concat l with h|⟨mp,s,h⟩
 ·exact .inl h
 ·exact .inr ⟨mp,s,by simpa using h⟩
theorem inv_forget {L:ELog} {ids:List Int} (hi:L.Inv) (he:forgetErr L ids=0) (hne:ids.length≠0):(L.forget ids).Inv:=by
 unfold forgetErr at he
 split at he
 ·cases he
 ·split at he
  ·cases he
  ·rename_i hb
   rw[Classical.not_not]at hb
   obtain⟨c1,c2,c3,c4⟩:=forget_count hi hb
   split at he
   ·cases he
   ·rename_i ht
    split at he
    ·cases he
    ·rename_i hf
     have hcnt:=hi.cnt
     have hl1:1≤(L.last:Int):=by
      cases ids with
      | nil=>exact absurd rfl hne
      | cons x r=>have:=c3 x (by simp);omega
     have hadd:L.join=false→L.tot ids=ids.length→(L.addDel ids).Inv:=fun hj htt=>by
      have hs:StepOk ⟨true,(L.last:Int),[],ids⟩:=⟨hl1,by have:=hi.last;show(L.last:Int)≤_;omega,fun _=>rfl,rfl,by show ids.length≤_;omega,c4⟩
      refine⟨hi.last,proofOk_push hi.proof hs (by
       apply Classical.byContradiction
       intro hn
       exact hf ⟨hj,by omega⟩) ?_,?_,?_,c2,c3⟩
      ·have:=hi.prev
       show _<(L.last:Int)∨true=true∧(L.last:Int)=_
       rcases Int.lt_or_eq_of_le this with h|h
       ·exact .inl h
       ·exact .inr ⟨rfl,h.symm⟩
      ·show prevId (L.steps++ [_]) (L.steps++ [_]).length≤_
       rw[List.length_append,List.length_singleton,prevId_append]
       exact Int.le_refl _
      ·show L.count-ids.length+(L.gone++ids).length=L.last
       rw[List.length_append]
       omega
     rcases getLast_cases L.steps with h0|⟨mp,s,h0⟩
     ·have e:L.forget ids=L.addDel ids:=by unfold ELog.forget;rw[h0];rfl
      rw[e]
      exact hadd (by unfold ELog.join;rw[h0];rfl) (by unfold ELog.tot;rw[h0];rfl)
     ·have hg:L.steps.getLast? =some s:=by rw[h0];simp
      cases hsd:s.del with
      | false=>
       have e:L.forget ids=L.addDel ids:=by unfold ELog.forget;rw[hg];simp[hsd]
       rw[e]
       exact hadd (by unfold ELog.join;rw[hg];exact hsd) (by unfold ELog.tot;rw[hg];simp[hsd])
      | true=>
       have e:L.forget ids=L.joinDel mp s ids:=by unfold ELog.forget;rw[hg];simp[hsd,h0]
       rw[e]
       have htt:L.tot ids=ids.length+s.hints.length:=by unfold ELog.tot;rw[hg];simp[hsd]
       have hpo:=hi.proof
       have hpv:=hi.prev
       rw[h0]at hpo hpv
       rw[List.length_append,List.length_singleton,prevId_append]at hpv
       obtain⟨f1,f2,f3⟩:=proofOk_front hpo
       have hso:=hpo.each s (by simp)
       have hs:StepOk ⟨true,s.id,s.lits,s.hints++ids⟩:=⟨hso.id0,hso.id1,fun _=>hso.del hsd,hso.lits,by show(s.hints++ids).length≤_;rw[List.length_append];omega,fun x hx=>(List.mem_append.1 hx).elim (hso.hints x) (c4 x)⟩
       refine⟨hi.last,proofOk_push f1 hs f2 ?_,?_,?_,c2,c3⟩
       ·show _<s.id∨true=true∧s.id=_
        rcases f3 with f3|f3
        ·exact .inl f3
        ·exact .inr ⟨rfl,f3.2⟩
       ·show prevId (mp++ [_]) (mp++ [_]).length≤_
        rw[List.length_append,List.length_singleton,prevId_append]
        exact hpv
       ·show L.count-ids.length+(L.gone++ids).length=L.last
        rw[List.length_append]
        omega
theorem inv_forgetLog {L:ELog} {ids:List Int} (hi:L.Inv):(forgetLog L ids).Inv:=by
 unfold forgetLog
 split
 ·rename_i h
  exact inv_forget hi h.1 h.2
 ·exact hi
def LogNext (O:Nat→Prop) (w w':World) (b:Nat) (L':ELog):Prop:=LogAt (fun g=>O g∨w.heap.size≤g∧g<w'.heap.size) w' b L'∧Kept O w w'
theorem LogNext.of_below {O:Nat→Prop} {w w':World} {b:Nat} {L:ELog} (h:LogAt O w b L) (hb:Below w.heap.size w w'):LogNext O w w' b L:=by
 refine⟨(h.below hb).mono (fun g hg=>.inl hg) (fun g hg=>?_),Kept.of_below hb⟩
 rcases hg with hg|hg
 ·obtain⟨mb,sv,ms,h⟩:=h
  exact Nat.lt_of_lt_of_le (h.own g hg) hb.size
 ·exact hg.2
theorem forget_any {O Oi:Nat→Prop} (b:Nat) (L:ELog) (iv:Value) (ids:List Int) (w:World) (hL:LogAt O w b L) (hinv:L.Inv) (hi:IntsIn Oi w iv ids) (hlen:ids.length≤140737488355328) (hwf: ∀x∈ids,(Lit.int .i64 x).wf=true) (hiO: ∀g,Oi g→¬O g):
  Calls Tryd.prog 8 #[.pointer (some ⟨b,0,none⟩),iv] w fun e w'=>e= .returned (.tuple #[.int .i64 (forgetNum L ids),.int .i64 (forgetErr L ids:Nat)])∧LogNext O w w' b (forgetLog L ids):=by
 have hml:L.steps.length≤262144:=hinv.proof.len
 cases hd:L.done with
 | true=>
  have e1:forgetErr L ids=171:=by unfold forgetErr;rw[if_pos hd]
  have e2:forgetNum L ids=0:=by unfold forgetNum;rw[if_pos hd]
  have e3:forgetLog L ids=L:=by unfold forgetLog;rw[if_neg (by rw[e1];omega)]
  rw[e1,e2,e3]
  exact(forget_done b L iv w hL hd).mono fun e w' ⟨h1,h2⟩=>⟨h1,by subst h2;exact LogNext.of_below hL (Below.refl _ _)⟩
 | false=>
  have hfin: ∀n:Nat,(n≠0∨ids.length=0)→forgetErr L ids=n→forgetLog L ids=L:=fun n hn he=>by
   unfold forgetLog
   rw[if_neg]
   rintro ⟨h1,h2⟩
   rcases hn with hn|hn
   ·exact hn (by rw[←he];exact h1)
   ·exact h2 hn
  cases hb:badGo L [] ids with
  | cons x r=>
   have e1:forgetErr L ids=170:=by unfold forgetErr;rw[if_neg (by rw[hd];decide),if_pos (by rw[hb];simp)]
   have e2:forgetNum L ids=x:=by unfold forgetNum;rw[if_neg (by rw[hd];decide),hb]
   rw[e1,e2,hfin 170 (.inl (by decide)) e1]
   have key: ∀e w',(e=Ending.returned (.tuple #[.int .i64 x,.int .i64 170])∧Below w.heap.size w w')→(e=Ending.returned (.tuple #[.int .i64 x,.int .i64 ((170:Nat):Int)])∧LogNext O w w' b L):=fun e w' ⟨h1,h2⟩=>⟨h1,LogNext.of_below hL h2⟩
   rcases getLast_cases L.steps with h0|⟨mp,s,h0⟩
   ·exact(forget_hintA b L iv ids w hL hi hlen hwf hd h0 x ⟨r,hb⟩).mono key
   ·have hsm:s∈L.steps:=by rw[h0];simp
    have hmp:mp.length≤262144:=by rw[h0]at hml;simp at hml;omega
    cases hsd:s.del with
    | false=>exact(forget_hintB b L iv ids w hL hi hlen hwf hd mp s h0 hsd (hinv.proof.each s hsm).len hmp x ⟨r,hb⟩).mono key
    | true=>exact(forget_hintC b L iv ids w hL hi hlen hwf hd mp s h0 hsd (hinv.proof.each s hsm).len hmp x ⟨r,hb⟩).mono key
  | nil=>
   by_cases h0l:ids.length=0
   ·have e1:forgetErr L ids=0:=by unfold forgetErr;rw[if_neg (by rw[hd];decide),if_neg (by rw[hb];simp),if_pos h0l]
    have e2:forgetNum L ids=0:=by unfold forgetNum;rw[if_neg (by rw[hd];decide),hb];simp only[];rw[if_pos e1,h0l];rfl
    rw[e1,e2,hfin 0 (.inr h0l) e1]
    have key: ∀e w',(e=Ending.returned (.tuple #[.int .i64 0,.int .i64 0])∧Below w.heap.size w w')→(e=Ending.returned (.tuple #[.int .i64 0,.int .i64 ((0:Nat):Int)])∧LogNext O w w' b L):=fun e w' ⟨h1,h2⟩=>⟨h1,LogNext.of_below hL h2⟩
    rcases getLast_cases L.steps with h0|⟨mp,s,h0⟩
    ·exact(forget_emptyA b L iv ids w hL hi hlen hwf hd h0 hb (Lib.hid h0l)).mono key
    ·have hsm:s∈L.steps:=by rw[h0];simp
     have hmp:mp.length≤262144:=by rw[h0]at hml;simp at hml;omega
     cases hsd:s.del with
     | false=>exact(forget_emptyB b L iv ids w hL hi hlen hwf hd mp s h0 hsd (hinv.proof.each s hsm).len hmp hb (Lib.hid h0l)).mono key
     | true=>exact(forget_emptyC b L iv ids w hL hi hlen hwf hd mp s h0 hsd (hinv.proof.each s hsm).len hmp hb (Lib.hid h0l)).mono key
   ·have hpos:0<ids.length:=by omega
    have hbase:forgetErr L ids=if 65536<L.tot ids then 5 else if L.join=false∧262144≤L.steps.length then 4 else 0:=by
     unfold forgetErr;rw[if_neg (by rw[hd];decide),if_neg (by rw[hb];simp),if_neg h0l]
    have hnum:forgetNum L ids=if forgetErr L ids=0 then(ids.length:Int)else 0:=by unfold forgetNum;rw[if_neg (by rw[hd];decide),hb]
    obtain⟨c1,_,_,_⟩:=forget_count hinv hb
    have hcn:=hinv.cnt
    have hla:=hinv.last
    have many:(∀{e:Ending} {w':World},(e=Ending.returned (.tuple #[.int .i64 0,.int .i64 5])∧Below w.heap.size w w')→65536<L.tot ids→(e=Ending.returned (.tuple #[.int .i64 (forgetNum L ids),.int .i64 (forgetErr L ids:Nat)])∧LogNext O w w' b (forgetLog L ids))):=fun {e w'} ⟨h1,h2⟩ ht=>by
     have e1:forgetErr L ids=5:=by rw[hbase,if_pos ht]
     rw[hnum,e1,hfin 5 (.inl (by decide)) e1,if_neg (by decide)]
     exact⟨h1,LogNext.of_below hL h2⟩
    have good: ∀{e:Ending} {w':World} {L':ELog},forgetErr L ids=0→L.forget ids=L'→(e=Ending.returned (.tuple #[.int .i64 (ids.length:Int),.int .i64 0])∧LogAt (fun g=>O g∨w.heap.size≤g∧g<w'.heap.size) w' b L'∧Kept O w w')→
      (e=Ending.returned (.tuple #[.int .i64 (forgetNum L ids),.int .i64 (forgetErr L ids:Nat)])∧LogNext O w w' b (forgetLog L ids)):=fun {e w' L'} e1 hf ⟨h1,h2,h3⟩=>by
     have e3:forgetLog L ids=L':=by unfold forgetLog;rw[if_pos ⟨e1,h0l⟩,hf]
     rw[hnum,e1,if_pos rfl,e3]
     exact⟨h1,h2,h3⟩
    rcases getLast_cases L.steps with h0|⟨mp,s,h0⟩
    ·have htt:L.tot ids=ids.length:=by unfold ELog.tot;rw[h0];rfl
     by_cases ht:65536<ids.length
     ·exact(forget_manyA b L iv ids w hL hi hlen hwf hd h0 hb hpos ht).mono fun e w' h=>many h (by rw[htt];exact ht)
     ·have e1:forgetErr L ids=0:=by rw[hbase,htt,if_neg ht,if_neg (by rw[h0];simp)]
      exact(forget_newA b L iv ids w hL hi hlen hwf hd h0 hb hpos (by omega) (by omega) (by omega) c1 hiO).mono fun e w' h=>good e1 (by unfold ELog.forget;rw[h0];rfl) h
    ·have hsm:s∈L.steps:=by rw[h0];simp
     have hg:L.steps.getLast? =some s:=by rw[h0];simp
     have hll:L.steps.length=mp.length+1:=by rw[h0];simp
     have hmp:mp.length≤262144:=by omega
     have hsh:=(hinv.proof.each s hsm).len
     cases hsd:s.del with
     | false=>
      have htt:L.tot ids=ids.length:=by unfold ELog.tot;rw[hg];simp[hsd]
      have hj:L.join=false:=by unfold ELog.join;rw[hg];exact hsd
      by_cases ht:65536<ids.length
      ·exact(forget_manyB b L iv ids w hL hi hlen hwf hd mp s h0 hsd hsh hmp hb hpos ht).mono fun e w' h=>many h (by rw[htt];exact ht)
      ·by_cases hf:262144≤mp.length+1
       ·have e1:forgetErr L ids=4:=by rw[hbase,htt,if_neg ht,if_pos ⟨hj,by omega⟩]
        rw[hnum,e1,hfin 4 (.inl (by decide)) e1,if_neg (by decide)]
        exact(forget_fullB b L iv ids w hL hi hlen hwf hd mp s h0 hsd hsh hmp hb hpos (by omega) hf).mono fun e w' ⟨h1,h2⟩=>⟨h1,LogNext.of_below hL h2⟩
       ·have e1:forgetErr L ids=0:=by rw[hbase,htt,if_neg ht,if_neg (by omega)]
        exact(forget_newB b L iv ids w hL hi hlen hwf hd mp s h0 hsd hsh hmp hb hpos (by omega) (by omega) (by omega) (by omega) c1 hiO).mono fun e w' h=>good e1 (by unfold ELog.forget;rw[hg];simp[hsd]) h
     | true=>
      have htt:L.tot ids=ids.length+s.hints.length:=by unfold ELog.tot;rw[hg];simp[hsd]
      have hj:L.join=true:=by unfold ELog.join;rw[hg];exact hsd
      by_cases ht:65536<ids.length+s.hints.length
      ·exact(forget_manyC b L iv ids w hL hi hlen hwf hd mp s h0 hsd hsh hmp hb hpos ht).mono fun e w' h=>many h (by rw[htt];exact ht)
      ·have e1:forgetErr L ids=0:=by rw[hbase,htt,if_neg ht,if_neg (by rw[hj];simp)]
       exact(forget_join b L iv ids w hL hi hlen hwf hd mp s h0 hsd hsh hmp hb hpos (by omega) (by omega) (by omega) c1 hiO).mono fun e w' h=>good e1 (by unfold ELog.forget;rw[hg];simp[hsd,h0]) h
def learnNum (L:ELog) (c h:List Int):Int:=if learnErr L c h=0 then(L.last:Int)+1 else 0
def learnLog (L:ELog) (c h:List Int):ELog:=if learnErr L c h=0 then L.learn c h else L
theorem inv_learnLog {L:ELog} {c h:List Int} (hi:L.Inv):(learnLog L c h).Inv:=by
 unfold learnLog
 split
 ·rename_i he
  exact inv_learn hi he
 ·exact hi
theorem learn_any {O Oc Oh:Nat→Prop} (b:Nat) (L:ELog) (cv hv:Value) (c h:List Int) (w:World) (hL:LogAt O w b L) (hinv:L.Inv) (hc:IntsIn Oc w cv c) (hh:IntsIn Oh w hv h) (hcO: ∀g,Oc g→¬O g) (hhO: ∀g,Oh g→¬O g) (hcl:c.length≤140737488355328) (hhl:h.length≤17592186044416) (hw: ∀x∈h,(Lit.int .i64 x).wf=true):
  Calls Tryd.prog 9 #[.pointer (some ⟨b,0,none⟩),cv,hv] w fun e w'=>e= .returned (.tuple #[.int .i64 (learnNum L c h),.int .i64 (learnErr L c h:Nat)])∧LogNext O w w' b (learnLog L c h):=by
 have hla:=hinv.last
 have hcn:=hinv.cnt
 by_cases he:learnErr L c h=0
 ·have e1:learnNum L c h=(L.last:Int)+1:=by unfold learnNum;rw[if_pos he]
  have e2:learnLog L c h=L.learn c h:=by unfold learnLog;rw[if_pos he]
  rw[e1,e2,he]
  exact learn_ok b L cv hv c h w hL hc hh hcO hhO hhl hw hla (by omega) he
 ·have e1:learnNum L c h=0:=by unfold learnNum;rw[if_neg he]
  have e2:learnLog L c h=L:=by unfold learnLog;rw[if_neg he]
  rw[e1,e2]
  exact(learn_bad b L cv hv c h w hL hc hh hcl (by omega) hw hla he).mono fun e w' ⟨h1,h2⟩=>⟨h1,LogNext.of_below hL h2⟩
end Go.Proofs.YteigjcichmpejaaDoor
