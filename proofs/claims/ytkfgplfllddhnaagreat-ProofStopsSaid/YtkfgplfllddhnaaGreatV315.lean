/- Plain: steps keep a checker right; as long as the formula has a model, the entries have one. Plain: what two clauses are resolved to follows from both, in two steps. Sort at rows that are owned (some laws turned from a worked proof of the kit). Plain: sorted numbers. Plain: a checker whose entries are numbered in order; steps that resolve two clauses are done. -/
import Derived.Test.YtkfgplfllddhnaaGreatV309
import Derived.Test.YtkfgplfllddhnaaGreatV304
import Derived.Test.YtkfgplfllddhnaaGreatShelf
namespace Go.Proofs.YtkfgplfllddhnaaGreat
open Go.RowKit
theorem putA_mem {m:Ents} {x:Int} {v:List Int} {p:Int×List Int}:p∈putA m x v↔p=(x,v)∨p∈m∧p.1≠x:=by
 unfold putA
 rw[insA_mem,delA_mem]
theorem ckDel_mem: ∀(ids:List Int) (es:Ents),∀p∈(ckDel es ids).1,p∈es:=by
 intro ids
 induction ids with
 | nil=>exact fun _ _ h=>h
 | cons id r ih=>
  intro es p hp
  unfold ckDel at hp
  split at hp
  ·exact hp
  ·exact(delA_mem.1 (ih _ p hp)).1
theorem ckDel_rise: ∀(ids:List Int) (es:Ents),Rising es→Rising (ckDel es ids).1:=by
 intro ids
 induction ids with
 | nil=>exact fun _ h=>h
 | cons id r ih=>
  intro es h
  unfold ckDel
  split
  ·exact h
  ·exact ih _ (h.del id)
theorem ckDel_len: ∀(ids:List Int) (es:Ents),(ckDel es ids).1.length≤es.length:=by
 intro ids
 induction ids with
 | nil=>exact fun _=>Nat.le_refl _
 | cons id r ih=>
  intro es
  unfold ckDel
  split
  ·exact Nat.le_refl _
  ·exact Nat.le_trans (ih _) (List.length_filter_le _ _)
theorem stepB_parts {s:EStep} (h:stepB s=true):0≤s.id∧s.id≤1073741824∧(s.del=false→s.id≠0)∧(s.del=true→s.lits= [])∧clauseB s.lits=true∧s.hints.length≤65536∧∀x∈s.hints,x≠0∧x≤1073741824∧ -1073741824≤x∧(s.del=true→0<x):=by
 unfold stepB at h
 simp only[Bool.and_eq_true,Bool.not_eq_true',Bool.or_eq_false_iff,Bool.and_eq_false_iff,decide_eq_false_iff_not,decide_eq_true_eq,Bool.not_eq_false',List.any_eq_false,Bool.or_eq_true,not_or,not_and]at h
 obtain⟨⟨⟨⟨h1,h2⟩,h3⟩,h4⟩,⟨h5,h6⟩,h7⟩:=h
 refine⟨by omega,by omega,fun e=>?_,fun e=>?_,h5,h6,fun x hx=>?_⟩
 ·rcases h3 with h3|h3
  ·rw[e]at h3;cases h3
  ·exact h3
 ·rcases h4 with h4|h4
  ·rw[e]at h4;cases h4
  ·exact List.length_eq_zero_iff.1 (by omega)
 ·obtain⟨⟨⟨a,b⟩,c⟩,d⟩:=h7 x hx
  exact⟨a,by omega,by omega,fun e=>by have:=d e;omega⟩
section
variable {k:Ckr} {s:EStep} {N:Nat}
inductive DoO (k:Ckr) (s:EStep) (r:Ckr×Nat×Int×Nat):Prop
 | done (h:k.proved=true) (e:r=(k,0,0,0))
 | bad (h:k.proved=false) (h1:r.1=k) (h2:r.2.1=0) (h3:r.2.2.2≠0)
 | del (h:k.proved=false) (hs:stepB s=true) (hl:k.last≤s.id) (hd:s.del=true) (he:(ckDel k.ents s.hints).2.2=0) (e:r=({ k with ents:=(ckDel k.ents s.hints).1,last:=s.id,dels:=k.dels+1 },0,0,0))
 | add (h:k.proved=false) (hs:stepB s=true) (hl:k.last<s.id) (hd:s.del=false) (he:(ckAdd k.ents s.lits s.hints).2.2=0) (e:r=({ (k.put s.id s.lits)with adds:=k.adds+1,rats:=if(ckAdd k.ents s.lits s.hints).1=2 then k.rats+1 else k.rats },(ckAdd k.ents s.lits s.hints).1,0,0))
theorem do_or (k:Ckr) (s:EStep):DoO k s (k.do_ s):=by
 unfold Ckr.do_
 cases hp:k.proved with
 | true=>rw[if_pos rfl];exact .done hp rfl
 | false=>
  rw[if_neg (by decide)]
  cases hs:stepB s with
  | false=>rw[if_pos rfl];exact .bad hp rfl rfl (by show(70:Nat)≠0;decide)
  | true=>
   rw[if_neg (by decide)]
   split
   ·exact .bad hp rfl rfl (by show(100:Nat)≠0;decide)
   ·rename_i h1
    cases hd:s.del with
    | true=>
     rw[if_pos rfl]
     split
     ·rename_i h2
      exact .del hp hs (by omega) hd h2 (by rw[hp])
     ·rename_i h2
      exact .bad hp rfl rfl h2
    | false=>
     rw[hd]at h1
     rw[if_neg (by decide)]
     split
     ·rename_i h2
      exact .bad hp rfl rfl h2
     ·rename_i h2
      exact .add hp hs (by
       have: ¬(s.id<k.last∨s.id=k.last∧false=false):=h1
       simp only[and_true]at this
       omega) hd (Classical.byContradiction h2) rfl
theorem any_put {es:Ents} {id:Int} {c:List Int} (h: ∀p∈es,p.1≠id):(putA es id c).any (fun p=>p.2.isEmpty)=(es.any (fun p=>p.2.isEmpty)||c.isEmpty):=by
 refine Bool.eq_iff_iff.2 ?_
 rw[Bool.or_eq_true,List.any_eq_true,List.any_eq_true]
 constructor
 ·rintro ⟨p,hp,e⟩
  rcases putA_mem.1 hp with rfl|⟨hp,_⟩
  ·exact .inr e
  ·exact .inl ⟨p,hp,e⟩
 ·rintro (⟨p,hp,e⟩|e)
  ·exact⟨p,putA_mem.2 (.inr ⟨hp,h p hp⟩),e⟩
  ·exact⟨_,putA_mem.2 (.inl rfl),e⟩
theorem Ckr.Ok.put (h:k.Ok N) {id:Int} {c:List Int} (hl:k.last<id) (h1:id≤1073741824) (hc:clauseB c=true):(k.put id c).Ok (N+1) where
 rise:=h.rise.put id c
 ids:=fun p hp=>by
  show 1≤p.1∧p.1≤1073741824∧p.1≤id
  have:=h.last0
  rcases putA_mem.1 hp with rfl|⟨hp,_⟩
  ·exact⟨by show 1≤id;omega,h1,Int.le_refl _⟩
  ·obtain⟨a,b,d⟩:=h.ids p hp
   exact⟨a,b,by omega⟩
 cls:=fun p hp=>by
  rcases putA_mem.1 hp with rfl|⟨hp,_⟩
  ·exact hc
  ·exact h.cls p hp
 last0:=by show 0≤id;have:=h.last0;omega
 last1:=h1
 len:=by
  have:=putA_length_le k.ents id c
  have:=h.len
  show(putA k.ents id c).length≤_
  omega
 prv:=by
  show(k.proved||c.isEmpty)=(putA k.ents id c).any (fun p=>p.2.isEmpty)∨(k.proved||c.isEmpty)=false
  rw[any_put (fun p hp=>by have:=(h.ids p hp).2.2;omega)]
  rcases h.prv with e|e
  ·exact .inl (by rw[e])
  ·rw[e]
   cases hc:c.isEmpty with
   | false=>exact .inr rfl
   | true=>left;simp
 adds:=⟨h.adds.1,by have:=h.adds.2;show k.adds≤_;omega⟩
 dels:=⟨h.dels.1,by have:=h.dels.2;show k.dels≤_;omega⟩
 rats:=⟨h.rats.1,by have:=h.rats.2;show k.rats≤_;omega⟩
 larg:=by
  have:=putA_length_le k.ents id c
  have:=h.len
  have:=h.larg
  show 0≤max k.largest ((putA k.ents id c).length:Int)∧max k.largest ((putA k.ents id c).length:Int)≤_
  omega
theorem do_ok (h:k.Ok N):(k.do_ s).1.Ok (N+1):=by
 have hmono:k.Ok (N+1):={ h with
  len:=Nat.le_succ_of_le h.len
  adds:=⟨h.adds.1,by have:=h.adds.2;omega⟩
  dels:=⟨h.dels.1,by have:=h.dels.2;omega⟩
  rats:=⟨h.rats.1,by have:=h.rats.2;omega⟩
  larg:=⟨h.larg.1,by have:=h.larg.2;omega⟩ }
 rcases do_or k s with⟨_,e⟩|⟨_,e,_⟩|⟨hp,hs,hl,hd,he,e⟩|⟨hp,hs,hl,hd,he,e⟩
 ·rw[e];exact hmono
 ·rw[e];exact hmono
 ·rw[e]
  obtain⟨s0,s1,_⟩:=stepB_parts hs
  exact {
   rise:=ckDel_rise _ _ h.rise
   ids:=fun p hp=>by
    obtain⟨a,b,d⟩:=h.ids p (ckDel_mem _ _ p hp)
    exact⟨a,b,Int.le_trans d hl⟩
   cls:=fun p hp=>h.cls p (ckDel_mem _ _ p hp)
   last0:=s0
   last1:=s1
   len:=Nat.le_trans (ckDel_len _ _) (Nat.le_succ_of_le h.len)
   prv:=.inr hp
   adds:=hmono.adds
   dels:=by
    have:=h.dels
    show 0≤k.dels+1∧k.dels+1≤_
    omega
   rats:=hmono.rats
   larg:=hmono.larg }
 ·rw[e]
  obtain⟨s0,s1,_,_,hc,_⟩:=stepB_parts hs
  have h2:=h.put hl s1 hc
  exact { h2 with
   adds:=by
    have:=h.adds
    show 0≤k.adds+1∧k.adds+1≤_
    omega
   rats:=by
    have:=h.rats
    show 0≤(if(ckAdd k.ents s.lits s.hints).1=2 then k.rats+1 else k.rats)∧(if(ckAdd k.ents s.lits s.hints).1=2 then k.rats+1 else k.rats)≤_
    split <;> omega }
def Ckr.Exact (k:Ckr):Prop:=k.proved=k.ents.any (fun p=>p.2.isEmpty)
end
def SatE (n:Nat) (es:Ents):Prop:= ∀p∈es,p.2.any (bitT n)=true
def SatN (es:Ents):Prop:= ∃n,n<128∧n%2=0∧SatE n es
theorem ratIds_mem {want:List Int}: ∀(gs:List Int) (last:Int),(ratIds want last gs).2=0→∀g∈gs,g∈want:=by
 intro gs
 induction gs with
 | nil=>intro _ _ g hg;cases hg
 | cons x r ih=>
  intro last h g hg
  unfold ratIds at h
  split at h
  ·cases h
  ·rename_i h1
   rcases List.mem_cons.1 hg with e|hg
   ·rw[e]
    refine List.contains_iff_mem.1 ?_
    cases hx:want.contains x with
    | true=>rfl
    | false=>exact absurd (.inl hx) h1
   ·exact ih _ h g hg
end Go.Proofs.YtkfgplfllddhnaaGreat
namespace Go.Proofs.YtkfgplfllddhnaaGreat
open Go.RowKit
def clashL (c:List Int):Bool:=c.any fun l=>c.contains (-l)
theorem clash_no {c:List Int} (h:clashL c=false): ∀y∈c,-y∉c:=fun y hy hm=>by
 unfold clashL at h
 have:=List.any_eq_false.1 h y hy
 exact this (List.contains_iff_mem.2 hm)
structure ResO (a b c:List Int) (l:Int):Prop where
 la:l∈a
 lb: -l∈b
 na: ∀y∈a,-y∉a
 nb: ∀y∈b,-y∉b
 nc: ∀y∈c,-y∉c
 mem: ∀y,y∈c↔(y∈a∨y∈b)∧y≠l∧y≠ -l
section
variable {a b c:List Int} {l:Int}
theorem res_chk (h:ResO a b c l) (ha:clauseB a=true) (hb:clauseB b=true) (hc:clauseB c=true):chkP c [a,b]=([l],2,0):=by
 have hlb:=clauseB_lit ha h.la
 obtain⟨f,hf,hs⟩:=asm_ok hc h.nc
 have hneg: ∀y,litB y=true→(ofF f y<0↔y∈c):=fun y hy=>by
  rw[(hs y hy).2]
  show- -y∈c↔_
  rw[Int.neg_neg]
 have hpos: ∀y,litB y=true→(0<ofF f y↔ -y∈c):=fun y hy=>(hs y hy).1
 have hl0:ofF f l=0:=by
  have h1: ¬0<ofF f l:=fun e=>((h.mem _).1 ((hpos l hlb).1 e)).2.2 rfl
  have h2: ¬ofF f l<0:=fun e=>((h.mem _).1 ((hneg l hlb).1 e)).2.1 rfl
  omega
 have h1:lookF f a=(3,l):=by
  refine k_unit h.la hl0 (fun y hy hne=>?_) (fun y hy=>litB_ne (clauseB_lit ha hy))
  refine(hneg y (clauseB_lit ha hy)).2 ((h.mem y).2 ⟨.inl hy,hne,fun e=>?_⟩)
  exact h.na l h.la (e▸hy)
 have h2:lookF (putF f l) b=(2,0):=by
  refine k_fail fun y hy=>?_
  have hyb:=clauseB_lit hb hy
  by_cases e:y= -l
  ·rw[e,k_put_neg f hlb]
   decide
  ·have hyl:y≠l:=fun e2=>by
    have:=h.nb _ h.lb
    rw[Int.neg_neg]at this
    exact this (e2▸hy)
   have hv:litV y≠litV l:=fun ev=>by
    rcases litV_two hlb ev.symm with g|g
    ·exact hyl g
    ·exact e g
   rw[k_put_ne f hv]
   exact(hneg y hyb).2 ((h.mem y).2 ⟨.inr hy,hyl,e⟩)
 unfold chkP
 rw[if_neg (by rw[alwL_no h.nc];decide),hf]
 simp only
 have e:folGo f [a,b] [] 0=([l],2,true,0):=by
  unfold folGo
  rw[h1,if_neg (by show¬(3:Nat)=2;decide),if_pos rfl]
  unfold folGo
  rw[h2,if_pos rfl]
  rfl
 rw[e]
 rfl
end
end Go.Proofs.YtkfgplfllddhnaaGreat
namespace Go.Proofs.YtkfgplfllddhnaaGreat
open Go.RowKit Go.Sort
def sortI (xs:List Int):List Int:=xs.mergeSort fun x y=>decide (x≤y)
theorem sortI_length (xs:List Int):(sortI xs).length=xs.length:=by simp[sortI]
end Go.Proofs.YtkfgplfllddhnaaGreat
namespace Go.Proofs.YtkfgplfllddhnaaGreat
open Go.RowKit
theorem sI_mem (xs:List Int) (x:Int):x∈sortI xs↔x∈xs:=(List.mergeSort_perm xs _).mem_iff
theorem sI_sorted (xs:List Int):(sortI xs).Pairwise (· ≤ ·):=by
 have:=List.pairwise_mergeSort (le:=fun x y:Int=>decide (x≤y)) (fun a b c h1 h2=>by simp at *;omega) (fun a b=>by simp;omega) xs
 exact this.imp (fun h=>by simpa using h)
theorem sI_eq {xs ys:List Int} (hp:xs.Perm ys) (hs:ys.Pairwise (· ≤ ·)):sortI xs=ys:=
 List.Perm.eq_of_pairwise (le:=fun a b=>a≤b) (fun a b _ _ h1 h2=>by omega) (sI_sorted xs) hs ((List.mergeSort_perm _ _).trans hp)
end Go.Proofs.YtkfgplfllddhnaaGreat
namespace Go.Proofs.YtkfgplfllddhnaaGreat
open Go.RowKit
def entsFrom:Nat→List (List Int)→Ents
 | _,[]=> []
 | i,c::r=>((i:Int)+1,c)::entsFrom (i+1) r
theorem entsFrom_mem: ∀{cs:List (List Int)} {i:Nat} {p:Int×List Int},p∈entsFrom i cs↔∃(j:Nat),cs[j]? =some p.2∧p.1=((i+j:Nat):Int)+1:=by
 intro cs
 induction cs with
 | nil=>intro i p;simp[entsFrom]
 | cons c r ih=>
  intro i p
  show p∈((i:Int)+1,c)::entsFrom (i+1) r↔_
  rw[List.mem_cons,ih]
  constructor
  ·rintro (e|⟨j,h1,h2⟩)
   ·exact⟨0,by rw[e];rfl,by rw[e];rfl⟩
   ·exact⟨j+1,h1,by rw[h2,show i+1+j=i+(j+1) by omega]⟩
  ·rintro ⟨j,h1,h2⟩
   cases j with
   | zero=>
    left
    obtain⟨a,b⟩:=p
    obtain rfl:=Option.some.inj h1
    exact Prod.ext h2 rfl
   | succ j=>exact .inr ⟨j,h1,by rw[h2,show i+1+j=i+(j+1) by omega]⟩
theorem entsFrom_rise: ∀(cs:List (List Int)) (i:Nat),Rising (entsFrom i cs):=by
 intro cs
 induction cs with
 | nil=>exact fun _=>List.Pairwise.nil
 | cons c r ih=>
  intro i
  refine List.pairwise_cons.2 ⟨fun p hp=>?_,ih (i+1)⟩
  obtain⟨j,_,h2⟩:=entsFrom_mem.1 hp
  show(i:Int)+1<p.1
  omega
theorem entsFrom_len: ∀(cs:List (List Int)) (i:Nat),(entsFrom i cs).length=cs.length:=by
 intro cs
 induction cs with
 | nil=>exact fun _=>rfl
 | cons c r ih=>exact fun i=>congrArg (· +1) (ih (i+1))
theorem insA_last {es:Ents} {x:Int} {v:List Int} (h: ∀p∈es,p.1<x):insA (x,v) es=es++ [(x,v)]:=by
 induction es with
 | nil=>rfl
 | cons y r ih=>
  unfold insA
  have h1:=h y List.mem_cons_self
  rw[if_neg (by show¬x<y.1;omega),ih (fun p hp=>h p (List.mem_cons_of_mem _ hp))]
  rfl
theorem delA_none {es:Ents} {x:Int} (h: ∀p∈es,p.1≠x):delA es x=es:=by
 unfold delA
 rw[List.filter_eq_self]
 exact fun p hp=>decide_eq_true (h p hp)
theorem putA_last {es:Ents} {x:Int} {v:List Int} (h: ∀p∈es,p.1<x):putA es x v=es++ [(x,v)]:=by
 unfold putA
 rw[delA_none (fun p hp=>by have:=h p hp;omega),insA_last h]
theorem entsFrom_snoc: ∀(cs:List (List Int)) (i:Nat) (c:List Int),entsFrom i cs++ [(((i+cs.length:Nat):Int)+1,c)]=entsFrom i (cs++ [c]):=by
 intro cs
 induction cs with
 | nil=>exact fun i c=>rfl
 | cons d r ih=>
  intro i c
  show((i:Int)+1,d)::(entsFrom (i+1) r++_)=((i:Int)+1,d)::entsFrom (i+1) (r++ [c])
  rw[←ih (i+1) c,show i+(d::r).length=i+1+r.length by rw[List.length_cons];omega]
theorem entsFrom_put (cs:List (List Int)) (c:List Int):putA (entsFrom 0 cs) ((cs.length:Int)+1) c=entsFrom 0 (cs++ [c]):=by
 rw[putA_last (fun p hp=>by
  obtain⟨j,h1,h2⟩:=entsFrom_mem.1 hp
  have:=(List.getElem?_eq_some_iff.1 h1).1
  omega),←entsFrom_snoc,Nat.zero_add]
theorem entsFrom_any (cs:List (List Int)): ∀i,(entsFrom i cs).any (fun p=>p.2.isEmpty)=cs.any List.isEmpty:=by
 induction cs with
 | nil=>exact fun _=>rfl
 | cons c r ih=>
  intro i
  show(c.isEmpty||(entsFrom (i+1) r).any _)=(c.isEmpty||r.any List.isEmpty)
  rw[ih]
def ckrOf (all:List (List Int)) (j:Nat):Ckr:=⟨entsFrom 0 all,all.length,all.any List.isEmpty,j,0,0,all.length⟩
theorem ckrOf_put (all:List (List Int)) (j:Nat) (c:List Int):(ckrOf all j).put ((all.length:Int)+1) c=ckrOf (all++ [c]) j:=by
 unfold Ckr.put ckrOf
 simp only[entsFrom_put,entsFrom_len,List.any_append,List.any_cons,List.any_nil,Bool.or_false,List.length_append,List.length_singleton]
 congr 1
 ·omega
theorem putAll_of: ∀(r all:List (List Int)),(ckrOf all 0).putAll all.length r=ckrOf (all++r) 0:=by
 intro r
 induction r with
 | nil=>intro all;rw[List.append_nil];rfl
 | cons c r ih=>
  intro all
  show((ckrOf all 0).put ((all.length:Int)+1) c).putAll (all.length+1) r=_
  have:=ih (all++ [c])
  rw[List.length_append,List.length_singleton,List.append_assoc]at this
  rw[ckrOf_put,this]
  rfl
theorem ckrNew_of (cs:List (List Int)):ckrNew cs=ckrOf cs 0:=by
 unfold ckrNew
 have:=putAll_of cs []
 rw[List.nil_append]at this
 have e:ckrOf [] 0=ckr0:=rfl
 rw[e]at this
 rw[show(ckr0.putAll 0 cs)=ckrOf cs 0 from this]
 rfl
theorem ckrOf_ok {all:List (List Int)} {j:Nat} (h: ∀c∈all,clauseB c=true) (hl:all.length≤1000) (hj:j≤1000):(ckrOf all j).Ok 1000 where
 rise:=entsFrom_rise all 0
 ids:=fun p hp=>by
  obtain⟨i,h1,h2⟩:=entsFrom_mem.1 hp
  have:=(List.getElem?_eq_some_iff.1 h1).1
  show 1≤p.1∧p.1≤1073741824∧p.1≤(all.length:Int)
  omega
 cls:=fun p hp=>by
  obtain⟨i,h1,h2⟩:=entsFrom_mem.1 hp
  exact h _ (List.mem_of_getElem? h1)
 last0:=Int.natCast_nonneg _
 last1:=by show(all.length:Int)≤_;omega
 len:=by show(entsFrom 0 all).length≤_;rw[entsFrom_len];exact hl
 prv:=.inl (entsFrom_any all 0).symm
 adds:=⟨Int.natCast_nonneg _,by show(j:Int)≤_;omega⟩
 dels:=⟨Int.le_refl _,by show(0:Int)≤_;omega⟩
 rats:=⟨Int.le_refl _,by show(0:Int)≤_;omega⟩
 larg:=⟨Int.natCast_nonneg _,by show(all.length:Int)≤_;omega⟩
theorem splitGo_pos: ∀(hs out:List Int),(∀h∈hs,0<h)→splitGo out [] hs=(out++hs,[]):=by
 intro hs
 induction hs with
 | nil=>intro out _;rw[List.append_nil];rfl
 | cons h r ih=>
  intro out hp
  have h0:=hp h List.mem_cons_self
  unfold splitGo
  rw[if_neg (by omega)]
  show splitGo (out++ [h]) [] r=_
  rw[ih _ (fun x hx=>hp x (List.mem_cons_of_mem _ hx)),List.append_assoc]
  rfl
theorem split_pos {hs:List Int} (h: ∀x∈hs,0<x):splitL hs=(hs,[]):=by
 unfold splitL
 rw[splitGo_pos hs [] h,List.nil_append]
def joinGo (l:Int):List Int→List Int→List Int
 | out,[]=>out
 | out,x::r=>joinGo l (if x≠l∧x≠ -l∧out.contains x=false then out++ [x]else out) r
def joinL (a b:List Int) (l:Int):List Int:=sortI (joinGo l [] (a++b))
theorem joinGo_mem (l:Int): ∀(xs out:List Int) (y:Int),y∈joinGo l out xs↔y∈out∨y∈xs∧y≠l∧y≠ -l:=by
 intro xs
 induction xs with
 | nil=>intro out y;simp[joinGo]
 | cons x r ih=>
  intro out y
  unfold joinGo
  rw[ih]
  by_cases hc:x≠l∧x≠ -l∧out.contains x=false
  ·rw[if_pos hc]
   simp only[List.mem_append,List.mem_cons,List.not_mem_nil,or_false]
   constructor
   ·rintro ((g|g)|⟨g1,g2⟩)
    ·exact .inl g
    ·exact .inr ⟨.inl g,by rw[g];exact⟨hc.1,hc.2.1⟩⟩
    ·exact .inr ⟨.inr g1,g2⟩
   ·rintro (g|⟨g1|g1,g2⟩)
    ·exact .inl (.inl g)
    ·exact .inl (.inr g1)
    ·exact .inr ⟨g1,g2⟩
  ·rw[if_neg hc]
   simp only[List.mem_cons]
   constructor
   ·rintro (g|⟨g1,g2⟩)
    ·exact .inl g
    ·exact .inr ⟨.inr g1,g2⟩
   ·rintro (g|⟨g1|g1,g2⟩)
    ·exact .inl g
    ·left
     cases hx:out.contains x with
     | true=>rw[g1];exact List.contains_iff_mem.1 hx
     | false=>exact absurd ⟨g1▸g2.1,g1▸g2.2,hx⟩ hc
    ·exact .inr ⟨g1,g2⟩
theorem joinGo_nodup (l:Int): ∀(xs out:List Int),out.Nodup→(joinGo l out xs).Nodup:=by
 intro xs
 induction xs with
 | nil=>exact fun _ h=>h
 | cons x r ih=>
  intro out h
  unfold joinGo
  refine ih _ ?_
  split
  ·rename_i hc
   rw[List.nodup_append]
   refine⟨h,by simp,fun a ha b hb e=>?_⟩
   rw[List.mem_singleton.1 hb]at e
   have:=List.contains_iff_mem.2 (e▸ha)
   rw[hc.2.2]at this
   cases this
  ·exact h
theorem joinL_mem (a b:List Int) (l y:Int):y∈joinL a b l↔(y∈a∨y∈b)∧y≠l∧y≠ -l:=by
 unfold joinL
 rw[sI_mem,joinGo_mem,List.mem_append]
 simp
theorem joinL_nodup (a b:List Int) (l:Int):(joinL a b l).Nodup:=((List.mergeSort_perm _ _).nodup_iff).2 (joinGo_nodup l _ _ List.nodup_nil)
def Lit6 (c:List Int):Prop:=c.length≤13∧∀y∈c,litB y=true∧litV y<7
theorem Lit6.clause {c:List Int} (h:Lit6 c):clauseB c=true:=by
 unfold clauseB
 rw[Bool.and_eq_true,decide_eq_true_eq,List.all_eq_true]
 exact⟨by have:=h.1;omega,fun y hy=>(h.2 y hy).1⟩
theorem join_six {a b:List Int} (ha:Lit6 a) (hb:Lit6 b) (l:Int):Lit6 (joinL a b l):=by
 have hm: ∀y∈joinL a b l,litB y=true∧litV y<7:=fun y hy=>by
  rcases ((joinL_mem a b l y).1 hy).1 with h|h
  ·exact ha.2 y h
  ·exact hb.2 y h
 refine⟨?_,hm⟩
 have:=List.Nodup.length_le_of_subset (l₁:=joinL a b l) (l₂:= [-6,-5,-4,-3,-2,-1,0,1,2,3,4,5,6]) (joinL_nodup a b l) (fun y hy=>by
  obtain⟨h1,h2⟩:=hm y hy
  have:=litV_pos h1
  simp only[List.mem_cons,List.not_mem_nil,or_false]
  omega)
 exact this
def resPick (a b:List Int):Option Int:=a.find? fun l=>b.contains (-l)&& !clashL a&& !clashL b
def resNew (all:List (List Int)) (i k:Nat):Option (List Int):=match resPick (all.getD i []) (all.getD k [])with
 | none=>none
 | some l=>if(clashL (joinL (all.getD i []) (all.getD k []) l)||all.contains (joinL (all.getD i []) (all.getD k []) l))=true then none else some (joinL (all.getD i []) (all.getD k []) l)
theorem resNew_some {all:List (List Int)} {i k:Nat} {c:List Int} (h:resNew all i k=some c): ∃l,ResO (all.getD i []) (all.getD k []) c l∧c=joinL (all.getD i []) (all.getD k []) l∧c∉all:=by
 unfold resNew at h
 split at h
 ·cases h
 ·rename_i l hl
  split at h
  ·cases h
  ·rename_i hn
   obtain rfl:=Option.some.inj h
   unfold resPick at hl
   have h1:=List.mem_of_find?_eq_some hl
   have h2:=List.find?_some hl
   simp only[Bool.and_eq_true,Bool.not_eq_true']at h2
   rw[Bool.or_eq_true,not_or]at hn
   have hcl:clashL (joinL (all.getD i []) (all.getD k []) l)=false:=by
    cases hx:clashL (joinL (all.getD i []) (all.getD k []) l)with
    | false=>rfl
    | true=>exact absurd hx hn.1
   exact⟨l,⟨h1,List.contains_iff_mem.1 h2.1.1,clash_no h2.1.2,clash_no h2.2,clash_no hcl,joinL_mem _ _ l⟩,rfl,fun hm=>hn.2 (List.contains_iff_mem.2 hm)⟩
def resGo (most:Nat):Nat→List Int→List (List Int)→List EStep→List EStep
 | _,[],_,out=>out
 | n,o::r,all,out=>if out.length<most∧0<all.length then
   (match resNew all (o.toNat%all.length) ((o.toNat/7+n)%all.length)with
    | none=>resGo most (n+1) r all out
    | some c=>resGo most (n+1) r (all++ [c]) (out++ [⟨false,(all.length:Int)+1,c,[((o.toNat%all.length:Nat):Int)+1,(((o.toNat/7+n)%all.length:Nat):Int)+1]⟩]))
  else out
def resL (cs:List (List Int)) (order:List Int) (most:Nat):List EStep:=resGo most 0 order cs []
def ResSteps (cs:List (List Int)) (l:List EStep):Prop:= ∀(j:Nat) (s:EStep),l[j]? =some s→∃(i k:Nat) (a b:List Int) (x:Int),
 s.del=false∧s.id=((cs.length+j:Nat):Int)+1∧s.hints= [(i:Int)+1,(k:Int)+1]∧i<cs.length+j∧k<cs.length+j∧(cs++l.map EStep.lits)[i]? =some a∧(cs++l.map EStep.lits)[k]? =some b∧ResO a b s.lits x∧s.lits∉cs++(l.take j).map EStep.lits∧Lit6 s.lits
theorem ResSteps.snoc {cs:List (List Int)} {l:List EStep} (h:ResSteps cs l) (h6: ∀c∈cs++l.map EStep.lits,Lit6 c) {i k:Nat} (hi:i<cs.length+l.length) (hk:k<cs.length+l.length) {c:List Int} (hc:resNew (cs++l.map EStep.lits) i k=some c):
  ResSteps cs (l++ [⟨false,((cs.length+l.length:Nat):Int)+1,c,[(i:Int)+1,(k:Int)+1]⟩])∧Lit6 c:=by
 obtain⟨x,ho,hj,hn⟩:=resNew_some hc
 have hil:i<(cs++l.map EStep.lits).length:=by rw[List.length_append,List.length_map];exact hi
 have hkl:k<(cs++l.map EStep.lits).length:=by rw[List.length_append,List.length_map];exact hk
 obtain⟨a,ha⟩: ∃a,(cs++l.map EStep.lits)[i]? =some a:=⟨_,List.getElem?_eq_getElem hil⟩
 obtain⟨b,hb⟩: ∃b,(cs++l.map EStep.lits)[k]? =some b:=⟨_,List.getElem?_eq_getElem hkl⟩
 have ea:(cs++l.map EStep.lits).getD i []=a:=by rw[List.getD_eq_getElem?_getD,ha];rfl
 have eb:(cs++l.map EStep.lits).getD k []=b:=by rw[List.getD_eq_getElem?_getD,hb];rfl
 rw[ea,eb]at ho hj
 have h6c:Lit6 c:=by rw[hj];exact join_six (h6 a (List.mem_of_getElem? ha)) (h6 b (List.mem_of_getElem? hb)) x
 refine⟨fun j s hs=>?_,h6c⟩
 rw[List.map_append,←List.append_assoc]
 rcases Nat.lt_trichotomy j l.length with hlt|e|hgt
 ·rw[List.getElem?_append_left hlt]at hs
  obtain⟨i',k',a',b',x',h1,h2,h3,h4,h5,h7,h8,h9,h10,h11⟩:=h j s hs
  refine⟨i',k',a',b',x',h1,h2,h3,h4,h5,?_,?_,h9,?_,h11⟩
  ·rw[List.getElem?_append_left (by rw[List.length_append,List.length_map];omega)]
   exact h7
  ·rw[List.getElem?_append_left (by rw[List.length_append,List.length_map];omega)]
   exact h8
  ·rw[List.take_append_of_le_length (by omega)]
   exact h10
 ·subst e
  rw[List.getElem?_append_right (Nat.le_refl _),Nat.sub_self]at hs
  obtain rfl:=Option.some.inj hs
  refine⟨i,k,a,b,x,rfl,rfl,rfl,hi,hk,?_,?_,ho,?_,h6c⟩
  ·rw[List.getElem?_append_left hil]
   exact ha
  ·rw[List.getElem?_append_left hkl]
   exact hb
  ·rw[List.take_append_of_le_length (Nat.le_refl _),List.take_length]
   exact hn
 ·rw[List.getElem?_eq_none (by rw[List.length_append,List.length_singleton];omega)]at hs
  cases hs
theorem resGo_ok (cs:List (List Int)) (most:Nat): ∀(order:List Int) (n:Nat) (out:List EStep),ResSteps cs out→(∀c∈cs++out.map EStep.lits,Lit6 c)→out.length≤most→ResSteps cs (resGo most n order (cs++out.map EStep.lits) out)∧(resGo most n order (cs++out.map EStep.lits) out).length≤most:=by
 intro order
 induction order with
 | nil=>exact fun n out h _ hl=>⟨h,hl⟩
 | cons o r ih=>
  intro n out h h6 hl
  unfold resGo
  split
  ·rename_i hc
   have hlen:(cs++out.map EStep.lits).length=cs.length+out.length:=by rw[List.length_append,List.length_map]
   split
   ·exact ih (n+1) out h h6 hl
   ·rename_i c hr
    obtain⟨g1,g2⟩:=h.snoc h6 (i:=o.toNat%(cs++out.map EStep.lits).length) (k:=(o.toNat/7+n)%(cs++out.map EStep.lits).length) (by rw[←hlen];exact Nat.mod_lt _ hc.2) (by rw[←hlen];exact Nat.mod_lt _ hc.2) hr
    rw[←hlen]at g1
    have e:cs++out.map EStep.lits++ [c]=cs++(out++ [(⟨false,(((cs++out.map EStep.lits).length:Nat):Int)+1,c,[((o.toNat%(cs++out.map EStep.lits).length:Nat):Int)+1,(((o.toNat/7+n)%(cs++out.map EStep.lits).length:Nat):Int)+1]⟩:EStep)]).map EStep.lits:=by
     rw[List.map_append,List.append_assoc]
     rfl
    rw[e]
    refine ih (n+1) _ g1 (fun d hd=>?_) ?_
    ·rw[←e]at hd
     rcases List.mem_append.1 hd with hd|hd
     ·exact h6 d hd
     ·rw[List.mem_singleton.1 hd]
      exact g2
    ·rw[List.length_append,List.length_singleton]
     omega
  ·exact⟨h,hl⟩
theorem resL_ok {cs:List (List Int)} (h6: ∀c∈cs,Lit6 c) (order:List Int) (most:Nat):ResSteps cs (resL cs order most)∧(resL cs order most).length≤most:=by
 have:=resGo_ok cs most order 0 [] (fun j s hs=>by cases hs) (by rw[List.map_nil,List.append_nil];exact h6) (Nat.zero_le _)
 rw[List.map_nil,List.append_nil]at this
 exact this
end Go.Proofs.YtkfgplfllddhnaaGreat
