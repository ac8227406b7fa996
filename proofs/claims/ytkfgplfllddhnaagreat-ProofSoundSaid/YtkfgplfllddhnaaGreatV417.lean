/- Plain: steps keep a checker right; as long as the formula has a model, the entries have one. Plain: what two clauses are resolved to follows from both, in two steps. Sort at rows that are owned (some laws turned from a worked proof of the kit). Plain: sorted numbers. Plain: a checker whose entries are numbered in order; steps that resolve two clauses are done. -/
import Derived.Test.YtkfgplfllddhnaaGreatV411
import Derived.Test.YtkfgplfllddhnaaGreatV405
import Derived.Test.YtkfgplfllddhnaaGreatShelf
namespace Go.Proofs.YtkfgplfllddhnaaGreat
open Go.RowKit
theorem putA_mem {m:Ents} {x:Int} {v:List Int} {p:Int×List Int}:p∈putA m x v↔p=(x,v)∨p∈m∧p.1≠x:=by
 unfold putA
 rw[insA_mem,delA_mem]
theorem ckDel_mem: ∀(ids:List Int) (es:Ents),∀p∈(ckDel es ids).1,p∈es:=by
 intro ids
 induction ids with
 | nil=>exact fun _ _ h=>h
 | cons id r ih=>
  intro es p hp
  unfold ckDel at hp
  split at hp
  ·exact hp
  ·exact(delA_mem.1 (ih _ p hp)).1
theorem ckDel_rise: ∀(ids:List Int) (es:Ents),Rising es→Rising (ckDel es ids).1:=by
 intro ids
 induction ids with
 | nil=>exact fun _ h=>h
 | cons id r ih=>
  intro es h
  unfold ckDel
  split
  ·exact h
  ·exact ih _ (h.del id)
theorem ckDel_len: ∀(ids:List Int) (es:Ents),(ckDel es ids).1.length≤es.length:=by
 intro ids
 induction ids with
 | nil=>exact fun _=>Nat.le_refl _
 | cons id r ih=>
  intro es
  unfold ckDel
  split
  ·exact Nat.le_refl _
  ·exact Nat.le_trans (ih _) (List.length_filter_le _ _)
theorem stepB_parts {s:EStep} (h:stepB s=true):0≤s.id∧s.id≤1073741824∧(s.del=false→s.id≠0)∧(s.del=true→s.lits= [])∧clauseB s.lits=true∧s.hints.length≤65536∧∀x∈s.hints,x≠0∧x≤1073741824∧ -1073741824≤x∧(s.del=true→0<x):=by
 unfold stepB at h
 simp only[Bool.and_eq_true,Bool.not_eq_true',Bool.or_eq_false_iff,Bool.and_eq_false_iff,decide_eq_false_iff_not,decide_eq_true_eq,Bool.not_eq_false',List.any_eq_false,Bool.or_eq_true,not_or,not_and]at h
 obtain⟨⟨⟨⟨h1,h2⟩,h3⟩,h4⟩,⟨h5,h6⟩,h7⟩:=h
 refine⟨by omega,by omega,fun e=>?_,fun e=>?_,h5,h6,fun x hx=>?_⟩
 ·rcases h3 with h3|h3
  ·rw[e]at h3;cases h3
  ·exact h3
 ·rcases h4 with h4|h4
  ·rw[e]at h4;cases h4
  ·exact List.length_eq_zero_iff.1 (by omega)
 ·obtain⟨⟨⟨a,b⟩,c⟩,d⟩:=h7 x hx
  exact⟨a,by omega,by omega,fun e=>by have:=d e;omega⟩
section
variable {k:Ckr} {s:EStep} {N:Nat}
inductive DoO (k:Ckr) (s:EStep) (r:Ckr×Nat×Int×Nat):Prop
 | done (h:k.proved=true) (e:r=(k,0,0,0))
 | bad (h:k.proved=false) (h1:r.1=k) (h2:r.2.1=0) (h3:r.2.2.2≠0)
 | del (h:k.proved=false) (hs:stepB s=true) (hl:k.last≤s.id) (hd:s.del=true) (he:(ckDel k.ents s.hints).2.2=0) (e:r=({ k with ents:=(ckDel k.ents s.hints).1,last:=s.id,dels:=k.dels+1 },0,0,0))
 | add (h:k.proved=false) (hs:stepB s=true) (hl:k.last<s.id) (hd:s.del=false) (he:(ckAdd k.ents s.lits s.hints).2.2=0) (e:r=({ (k.put s.id s.lits)with adds:=k.adds+1,rats:=if(ckAdd k.ents s.lits s.hints).1=2 then k.rats+1 else k.rats },(ckAdd k.ents s.lits s.hints).1,0,0))
theorem do_or (k:Ckr) (s:EStep):DoO k s (k.do_ s):=by
 unfold Ckr.do_
 cases hp:k.proved with
 | true=>rw[if_pos rfl];exact .done hp rfl
 | false=>
  rw[if_neg (by decide)]
  cases hs:stepB s with
  | false=>rw[if_pos rfl];exact .bad hp rfl rfl (by show(70:Nat)≠0;decide)
  | true=>
   rw[if_neg (by decide)]
   split
   ·exact .bad hp rfl rfl (by show(100:Nat)≠0;decide)
   ·rename_i h1
    cases hd:s.del with
    | true=>
     rw[if_pos rfl]
     split
     ·rename_i h2
      exact .del hp hs (by omega) hd h2 (by rw[hp])
     ·rename_i h2
      exact .bad hp rfl rfl h2
    | false=>
     rw[hd]at h1
     rw[if_neg (by decide)]
     split
     ·rename_i h2
      exact .bad hp rfl rfl h2
     ·rename_i h2
      exact .add hp hs (by
       have: ¬(s.id<k.last∨s.id=k.last∧false=false):=h1
       simp only[and_true]at this
       omega) hd (Classical.byContradiction h2) rfl
theorem any_put {es:Ents} {id:Int} {c:List Int} (h: ∀p∈es,p.1≠id):(putA es id c).any (fun p=>p.2.isEmpty)=(es.any (fun p=>p.2.isEmpty)||c.isEmpty):=by
 refine Bool.eq_iff_iff.2 ?_
 rw[Bool.or_eq_true,List.any_eq_true,List.any_eq_true]
 constructor
 ·rintro ⟨p,hp,e⟩
  rcases putA_mem.1 hp with rfl|⟨hp,_⟩
  ·exact .inr e
  ·exact .inl ⟨p,hp,e⟩
 ·rintro (⟨p,hp,e⟩|e)
  ·exact⟨p,putA_mem.2 (.inr ⟨hp,h p hp⟩),e⟩
  ·exact⟨_,putA_mem.2 (.inl rfl),e⟩
theorem Ckr.Ok.put (h:k.Ok N) {id:Int} {c:List Int} (hl:k.last<id) (h1:id≤1073741824) (hc:clauseB c=true):(k.put id c).Ok (N+1) where
 rise:=h.rise.put id c
 ids:=fun p hp=>by
  show 1≤p.1∧p.1≤1073741824∧p.1≤id
  have:=h.last0
  rcases putA_mem.1 hp with rfl|⟨hp,_⟩
  ·exact⟨by show 1≤id;omega,h1,Int.le_refl _⟩
  ·obtain⟨a,b,d⟩:=h.ids p hp
   exact⟨a,b,by omega⟩
 cls:=fun p hp=>by
  rcases putA_mem.1 hp with rfl|⟨hp,_⟩
  ·exact hc
  ·exact h.cls p hp
 last0:=by show 0≤id;have:=h.last0;omega
 last1:=h1
 len:=by
  have:=putA_length_le k.ents id c
  have:=h.len
  show(putA k.ents id c).length≤_
  omega
 prv:=by
  show(k.proved||c.isEmpty)=(putA k.ents id c).any (fun p=>p.2.isEmpty)∨(k.proved||c.isEmpty)=false
  rw[any_put (fun p hp=>by have:=(h.ids p hp).2.2;omega)]
  rcases h.prv with e|e
  ·exact .inl (by rw[e])
  ·rw[e]
   cases hc:c.isEmpty with
   | false=>exact .inr rfl
   | true=>left;simp
 adds:=⟨h.adds.1,by have:=h.adds.2;show k.adds≤_;omega⟩
 dels:=⟨h.dels.1,by have:=h.dels.2;show k.dels≤_;omega⟩
 rats:=⟨h.rats.1,by have:=h.rats.2;show k.rats≤_;omega⟩
 larg:=by
  have:=putA_length_le k.ents id c
  have:=h.len
  have:=h.larg
  show 0≤max k.largest ((putA k.ents id c).length:Int)∧max k.largest ((putA k.ents id c).length:Int)≤_
  omega
theorem do_ok (h:k.Ok N):(k.do_ s).1.Ok (N+1):=by
 have hmono:k.Ok (N+1):={ h with
  len:=Nat.le_succ_of_le h.len
  adds:=⟨h.adds.1,by have:=h.adds.2;omega⟩
  dels:=⟨h.dels.1,by have:=h.dels.2;omega⟩
  rats:=⟨h.rats.1,by have:=h.rats.2;omega⟩
  larg:=⟨h.larg.1,by have:=h.larg.2;omega⟩ }
 rcases do_or k s with⟨_,e⟩|⟨_,e,_⟩|⟨hp,hs,hl,hd,he,e⟩|⟨hp,hs,hl,hd,he,e⟩
 ·rw[e];exact hmono
 ·rw[e];exact hmono
 ·rw[e]
  obtain⟨s0,s1,_⟩:=stepB_parts hs
  exact {
   rise:=ckDel_rise _ _ h.rise
   ids:=fun p hp=>by
    obtain⟨a,b,d⟩:=h.ids p (ckDel_mem _ _ p hp)
    exact⟨a,b,Int.le_trans d hl⟩
   cls:=fun p hp=>h.cls p (ckDel_mem _ _ p hp)
   last0:=s0
   last1:=s1
   len:=Nat.le_trans (ckDel_len _ _) (Nat.le_succ_of_le h.len)
   prv:=.inr hp
   adds:=hmono.adds
   dels:=by
    have:=h.dels
    show 0≤k.dels+1∧k.dels+1≤_
    omega
   rats:=hmono.rats
   larg:=hmono.larg }
 ·rw[e]
  obtain⟨s0,s1,_,_,hc,_⟩:=stepB_parts hs
  have h2:=h.put hl s1 hc
  exact { h2 with
   adds:=by
    have:=h.adds
    show 0≤k.adds+1∧k.adds+1≤_
    omega
   rats:=by
    have:=h.rats
    show 0≤(if(ckAdd k.ents s.lits s.hints).1=2 then k.rats+1 else k.rats)∧(if(ckAdd k.ents s.lits s.hints).1=2 then k.rats+1 else k.rats)≤_
    split <;> omega }
def Ckr.Exact (k:Ckr):Prop:=k.proved=k.ents.any (fun p=>p.2.isEmpty)
theorem do_exact (h:k.Ok N) (hx:k.Exact):(k.do_ s).1.Exact:=by
 rcases do_or k s with⟨_,e⟩|⟨_,e,_⟩|⟨hp,hs,hl,hd,he,e⟩|⟨hp,hs,hl,hd,he,e⟩
 ·rw[e];exact hx
 ·rw[e];exact hx
 ·rw[e]
  unfold Ckr.Exact at hx⊢
  show k.proved=(ckDel k.ents s.hints).1.any _
  rw[hp]at hx⊢
  symm
  rw[List.any_eq_false]
  intro p hm
  exact(List.any_eq_false.1 hx.symm) p (ckDel_mem _ _ p hm)
 ·rw[e]
  unfold Ckr.Exact at hx⊢
  show(k.proved||s.lits.isEmpty)=(putA k.ents s.id s.lits).any (fun p=>p.2.isEmpty)
  rw[any_put (fun p hp=>by have:=(h.ids p hp).2.2;omega),hx]
end
theorem bit_way (n:Nat):Way (fun y=>bitT n y=true) where
 one:=fun y hy h h2=>by
  rw[bitT_neg (litB_ne hy),h]at h2
  cases h2
 all:=fun y hy=>by
  rw[bitT_neg (litB_ne hy)]
  cases bitT n y with
  | true=>exact .inl rfl
  | false=>exact .inr rfl
theorem bit_flip (n k:Nat) {y:Int} (hy:litB y=true):bitT (n ^^^ 2^k) y=if litV y=k then !bitT n y else bitT n y:=by
 have h1:=litV_pos hy
 unfold bitT
 by_cases h0:0<y
 ·have e:y.toNat=litV y:=by omega
  rw[if_pos h0,if_pos h0,e,Nat.testBit_xor,Nat.testBit_two_pow]
  by_cases hk:litV y=k
  ·rw[if_pos hk,decide_eq_true hk.symm,Bool.xor_true]
  ·rw[if_neg hk,decide_eq_false (fun e=>hk e.symm),Bool.xor_false]
 ·have e:(-y).toNat=litV y:=by
   have:=litB_ne hy
   omega
  rw[if_neg h0,if_neg h0,e,Nat.testBit_xor,Nat.testBit_two_pow]
  by_cases hk:litV y=k
  ·rw[if_pos hk,decide_eq_true hk.symm,Bool.xor_true]
  ·rw[if_neg hk,decide_eq_false (fun e=>hk e.symm),Bool.xor_false]
def SatE (n:Nat) (es:Ents):Prop:= ∀p∈es,p.2.any (bitT n)=true
def SatN (es:Ents):Prop:= ∃n,n<128∧n%2=0∧SatE n es
theorem SatE.iff {n:Nat} {es:Ents}:SatE n es↔∀p∈es,∃y∈p.2,bitT n y=true:=by
 unfold SatE
 exact forall_congr' fun p=>forall_congr' fun _=>List.any_eq_true
theorem named_mem {es:Ents}: ∀(hs:List Int),∀d∈ckNamed es hs,∃p∈es,p.2=d:=by
 intro hs
 induction hs with
 | nil=>intro d hd;cases hd
 | cons h r ih=>
  intro d hd
  unfold ckNamed at hd
  split at hd
  ·rename_i c hc
   rcases List.mem_cons.1 hd with e|hd
   ·exact⟨_,getA_some hc,e.symm⟩
   ·exact ih d hd
  ·cases hd
theorem ratIds_mem {want:List Int}: ∀(gs:List Int) (last:Int),(ratIds want last gs).2=0→∀g∈gs,g∈want:=by
 intro gs
 induction gs with
 | nil=>intro _ _ g hg;cases hg
 | cons x r ih=>
  intro last h g hg
  unfold ratIds at h
  split at h
  ·cases h
  ·rename_i h1
   rcases List.mem_cons.1 hg with e|hg
   ·rw[e]
    refine List.contains_iff_mem.1 ?_
    cases hx:want.contains x with
    | true=>rfl
    | false=>exact absurd (.inl hx) h1
   ·exact ih _ h g hg
theorem add_sat {es:Ents} (hr:Rising es) (hb: ∀p∈es,clauseB p.2=true) {c hs:List Int} (hc:clauseB c=true) (h7: ∀y∈c,litV y<7) (he:(ckAdd es c hs).2.2=0) (id:Int) (hs2:SatN es):SatN (putA es id c):=by
 obtain⟨n,hn,hn2,hsat⟩:=hs2
 have ht:=SatE.iff.1 hsat
 by_cases hct: ∃y∈c,bitT n y=true
 ·refine⟨n,hn,hn2,fun p hp=>?_⟩
  rcases putA_mem.1 hp with rfl|⟨hp,_⟩
  ·exact List.any_eq_true.2 hct
  ·exact hsat p hp
 ·have hw:=bit_way n
  unfold ckAdd at he
  have hf:(ckFol es c (splitL hs).1).1=false∨(ckFol es c (splitL hs).1).2.2≠0:=by
   left
   unfold ckFol
   split
   ·rename_i h0
    exact absurd (chk_sound hw hc (fun d hd=>by
     obtain⟨p,hp,rfl⟩:=named_mem _ d hd
     exact hb p hp) (fun d hd=>by
     obtain⟨p,hp,rfl⟩:=named_mem _ d hd
     exact ht p hp) h0) hct
   ·split
    ·rfl
    ·split <;> rfl
  split at he
  ·rename_i h1
   exact absurd he h1
  ·rename_i h1
   rw[if_neg (by
    rcases hf with h|h
    ·rw[h];decide
    ·exact absurd h h1)]at he
   have ha:=asm_under hw hc hct
   have hal:alwL c=false:=alwL_no fun y hy hm=>by
    have h1:=(hw.all y (clauseB_lit hc hy)).resolve_left fun hp=>hct ⟨y,hy,hp⟩
    exact hct ⟨_,hm,h1⟩
   obtain⟨hF1,hF2⟩:=ratFol_sound hw hb ht (splitL hs).1 _ ha
   unfold ratP at he
   rw[if_neg (by rw[hal];decide)]at he
   split at he
   ·rename_i h2
    exact absurd he h2
   ·rw[if_neg (by rw[hF1];decide)]at he
    cases hcc:c with
    | nil=>
     rw[hcc]at he
     cases he
    | cons p r=>
     have hpm:p∈c:=by rw[hcc];exact List.mem_cons_self
     have hpb:=clauseB_lit hc hpm
     have hp7:=h7 p hpm
     have he':=he
     rw[hcc]at he'
     simp only at he'
     rw[←hcc]at he'
     split at he'
     ·rename_i h3
      exact absurd he' h3
     ·rename_i h3
      split at he'
      ·rename_i h4
       exact absurd he' h4
      ·rename_i h4
       have h3:(ratGrp es p (splitL hs).2).2=0:=Classical.byContradiction h3
       have h4:=Classical.byContradiction h4
       have hpv:=litV_pos hpb
       have hnp:bitT n p=false:=by
        cases hx:bitT n p with
        | false=>rfl
        | true=>exact absurd ⟨p,hpm,hx⟩ hct
       have hflip: ∀y,litB y=true→y≠ -p→bitT n y=true→bitT (n ^^^ 2^litV p) y=true:=fun y hy hne hyt=>by
        rw[bit_flip n _ hy]
        split
        ·rename_i e
         rcases litV_two hpb e.symm with e|e
         ·rw[e,hnp]at hyt
          cases hyt
         ·exact absurd e hne
        ·exact hyt
       refine⟨n ^^^ 2^litV p,?_,?_,fun q hq=>?_⟩
       ·exact Nat.xor_lt_two_pow (n:=7) hn (Nat.pow_lt_pow_right (by decide) hp7)
       ·have hb0:(n ^^^ 2^litV p).testBit 0=false:=by
         rw[Nat.testBit_xor,Nat.testBit_two_pow,Nat.testBit_zero,decide_eq_false (by omega),decide_eq_false (by omega)]
         rfl
        rw[Nat.testBit_zero]at hb0
        have:=of_decide_eq_false hb0
        omega
       ·rcases putA_mem.1 hq with rfl|⟨hq,_⟩
        ·refine List.any_eq_true.2 ⟨p,?_,?_⟩
         ·exact List.mem_cons_self
         ·rw[bit_flip n _ hpb,if_pos rfl,hnp]
          rfl
        ·have hqb:=hb q hq
         obtain⟨y,hy,hyt⟩:=ht q hq
         rw[List.any_eq_true]
         by_cases hmem: -p∈q.2
         ·cases hqa:alwL q.2 with
          | true=>
           obtain⟨z,hz,hz2⟩:=alwL_two hqa
           have hzb:=clauseB_lit hqb hz
           rcases (bit_way (n ^^^ 2^litV p)).all z hzb with g|g
           ·exact⟨z,hz,g⟩
           ·exact⟨_,hz2,g⟩
          | false=>
           have hcand:candB p q.2=true:=by
            unfold candB
            rw[litN_eq hpb,hqa,Bool.and_eq_true]
            exact⟨List.contains_iff_mem.2 hmem,rfl⟩
           have hwant:q.1∈ratWant es p:=List.mem_map.2 ⟨q,List.mem_filter.2 ⟨hq,hcand⟩,rfl⟩
           unfold ratGrp at h3
           split at h3
           ·cases h3
           ·rename_i hnone
            rw[List.find?_eq_none]at hnone
            have hin:=hnone _ hwant
            have hin:q.1∈(splitL hs).2.map Prod.fst:=by
             refine List.contains_iff_mem.1 ?_
             cases hx:((splitL hs).2.map Prod.fst).contains q.1 with
             | true=>rfl
             | false=>rw[hx]at hin;exact absurd rfl hin
            obtain⟨g,hg,eg⟩:=List.mem_map.1 hin
            obtain⟨z,hz,hz1,hz2⟩:=ratLoop_sound hw hb ht hF2 _ h4 g hg q.2 (by rw[eg];exact getA_of hr hq)
            rw[litN_eq hpb]at hz1
            exact⟨z,hz,hflip z (clauseB_lit hqb hz) hz1 hz2⟩
         ·exact⟨y,hy,hflip y (clauseB_lit hqb hy) (fun e=>hmem (e▸hy)) hyt⟩
theorem do_sat {k:Ckr} {s:EStep} {N:Nat} (h:k.Ok N) (h7: ∀y∈s.lits,litV y<7) (hs:SatN k.ents):SatN (k.do_ s).1.ents:=by
 rcases do_or k s with⟨_,e⟩|⟨_,e,_⟩|⟨hp,_,hl,hd,he,e⟩|⟨hp,hsb,hl,hd,he,e⟩
 ·rw[e];exact hs
 ·rw[e];exact hs
 ·rw[e]
  obtain⟨n,h1,h2,h3⟩:=hs
  exact⟨n,h1,h2,fun p hp=>h3 p (ckDel_mem _ _ p hp)⟩
 ·rw[e]
  exact add_sat h.rise h.cls (stepB_parts hsb).2.2.2.2.1 h7 he _ hs
end Go.Proofs.YtkfgplfllddhnaaGreat
namespace Go.Proofs.YtkfgplfllddhnaaGreat
open Go.RowKit
def clashL (c:List Int):Bool:=c.any fun l=>c.contains (-l)
structure ResO (a b c:List Int) (l:Int):Prop where
 la:l∈a
 lb: -l∈b
 na: ∀y∈a,-y∉a
 nb: ∀y∈b,-y∉b
 nc: ∀y∈c,-y∉c
 mem: ∀y,y∈c↔(y∈a∨y∈b)∧y≠l∧y≠ -l
section
variable {a b c:List Int} {l:Int}
end
end Go.Proofs.YtkfgplfllddhnaaGreat
namespace Go.Proofs.YtkfgplfllddhnaaGreat
open Go.RowKit Go.Sort
def sortI (xs:List Int):List Int:=xs.mergeSort fun x y=>decide (x≤y)
end Go.Proofs.YtkfgplfllddhnaaGreat
namespace Go.Proofs.YtkfgplfllddhnaaGreat
open Go.RowKit
theorem sI_sorted (xs:List Int):(sortI xs).Pairwise (· ≤ ·):=by
 have:=List.pairwise_mergeSort (le:=fun x y:Int=>decide (x≤y)) (fun a b c h1 h2=>by simp at *;omega) (fun a b=>by simp;omega) xs
 exact this.imp (fun h=>by simpa using h)
theorem sI_eq {xs ys:List Int} (hp:xs.Perm ys) (hs:ys.Pairwise (· ≤ ·)):sortI xs=ys:=
 List.Perm.eq_of_pairwise (le:=fun a b=>a≤b) (fun a b _ _ h1 h2=>by omega) (sI_sorted xs) hs ((List.mergeSort_perm _ _).trans hp)
end Go.Proofs.YtkfgplfllddhnaaGreat
namespace Go.Proofs.YtkfgplfllddhnaaGreat
open Go.RowKit
def entsFrom:Nat→List (List Int)→Ents
 | _,[]=> []
 | i,c::r=>((i:Int)+1,c)::entsFrom (i+1) r
theorem entsFrom_mem: ∀{cs:List (List Int)} {i:Nat} {p:Int×List Int},p∈entsFrom i cs↔∃(j:Nat),cs[j]? =some p.2∧p.1=((i+j:Nat):Int)+1:=by
 intro cs
 induction cs with
 | nil=>intro i p;simp[entsFrom]
 | cons c r ih=>
  intro i p
  show p∈((i:Int)+1,c)::entsFrom (i+1) r↔_
  rw[List.mem_cons,ih]
  constructor
  ·rintro (e|⟨j,h1,h2⟩)
   ·exact⟨0,by rw[e];rfl,by rw[e];rfl⟩
   ·exact⟨j+1,h1,by rw[h2,show i+1+j=i+(j+1) by omega]⟩
  ·rintro ⟨j,h1,h2⟩
   cases j with
   | zero=>
    left
    obtain⟨a,b⟩:=p
    obtain rfl:=Option.some.inj h1
    exact Prod.ext h2 rfl
   | succ j=>exact .inr ⟨j,h1,by rw[h2,show i+1+j=i+(j+1) by omega]⟩
theorem entsFrom_rise: ∀(cs:List (List Int)) (i:Nat),Rising (entsFrom i cs):=by
 intro cs
 induction cs with
 | nil=>exact fun _=>List.Pairwise.nil
 | cons c r ih=>
  intro i
  refine List.pairwise_cons.2 ⟨fun p hp=>?_,ih (i+1)⟩
  obtain⟨j,_,h2⟩:=entsFrom_mem.1 hp
  show(i:Int)+1<p.1
  omega
theorem entsFrom_len: ∀(cs:List (List Int)) (i:Nat),(entsFrom i cs).length=cs.length:=by
 intro cs
 induction cs with
 | nil=>exact fun _=>rfl
 | cons c r ih=>exact fun i=>congrArg (· +1) (ih (i+1))
theorem entsFrom_get {cs:List (List Int)} {j:Nat} {c:List Int} (h:cs[j]? =some c):getA (entsFrom 0 cs) ((j:Int)+1)=some c:=
 getA_of (entsFrom_rise cs 0) (entsFrom_mem.2 ⟨j,h,by rw[Nat.zero_add]⟩)
theorem insA_last {es:Ents} {x:Int} {v:List Int} (h: ∀p∈es,p.1<x):insA (x,v) es=es++ [(x,v)]:=by
 induction es with
 | nil=>rfl
 | cons y r ih=>
  unfold insA
  have h1:=h y List.mem_cons_self
  rw[if_neg (by show¬x<y.1;omega),ih (fun p hp=>h p (List.mem_cons_of_mem _ hp))]
  rfl
theorem delA_none {es:Ents} {x:Int} (h: ∀p∈es,p.1≠x):delA es x=es:=by
 unfold delA
 rw[List.filter_eq_self]
 exact fun p hp=>decide_eq_true (h p hp)
theorem putA_last {es:Ents} {x:Int} {v:List Int} (h: ∀p∈es,p.1<x):putA es x v=es++ [(x,v)]:=by
 unfold putA
 rw[delA_none (fun p hp=>by have:=h p hp;omega),insA_last h]
theorem entsFrom_snoc: ∀(cs:List (List Int)) (i:Nat) (c:List Int),entsFrom i cs++ [(((i+cs.length:Nat):Int)+1,c)]=entsFrom i (cs++ [c]):=by
 intro cs
 induction cs with
 | nil=>exact fun i c=>rfl
 | cons d r ih=>
  intro i c
  show((i:Int)+1,d)::(entsFrom (i+1) r++_)=((i:Int)+1,d)::entsFrom (i+1) (r++ [c])
  rw[←ih (i+1) c,show i+(d::r).length=i+1+r.length by rw[List.length_cons];omega]
theorem entsFrom_put (cs:List (List Int)) (c:List Int):putA (entsFrom 0 cs) ((cs.length:Int)+1) c=entsFrom 0 (cs++ [c]):=by
 rw[putA_last (fun p hp=>by
  obtain⟨j,h1,h2⟩:=entsFrom_mem.1 hp
  have:=(List.getElem?_eq_some_iff.1 h1).1
  omega),←entsFrom_snoc,Nat.zero_add]
theorem entsFrom_any (cs:List (List Int)): ∀i,(entsFrom i cs).any (fun p=>p.2.isEmpty)=cs.any List.isEmpty:=by
 induction cs with
 | nil=>exact fun _=>rfl
 | cons c r ih=>
  intro i
  show(c.isEmpty||(entsFrom (i+1) r).any _)=(c.isEmpty||r.any List.isEmpty)
  rw[ih]
def ckrOf (all:List (List Int)) (j:Nat):Ckr:=⟨entsFrom 0 all,all.length,all.any List.isEmpty,j,0,0,all.length⟩
theorem ckrOf_put (all:List (List Int)) (j:Nat) (c:List Int):(ckrOf all j).put ((all.length:Int)+1) c=ckrOf (all++ [c]) j:=by
 unfold Ckr.put ckrOf
 simp only[entsFrom_put,entsFrom_len,List.any_append,List.any_cons,List.any_nil,Bool.or_false,List.length_append,List.length_singleton]
 congr 1
 ·omega
theorem putAll_of: ∀(r all:List (List Int)),(ckrOf all 0).putAll all.length r=ckrOf (all++r) 0:=by
 intro r
 induction r with
 | nil=>intro all;rw[List.append_nil];rfl
 | cons c r ih=>
  intro all
  show((ckrOf all 0).put ((all.length:Int)+1) c).putAll (all.length+1) r=_
  have:=ih (all++ [c])
  rw[List.length_append,List.length_singleton,List.append_assoc]at this
  rw[ckrOf_put,this]
  rfl
theorem ckrNew_of (cs:List (List Int)):ckrNew cs=ckrOf cs 0:=by
 unfold ckrNew
 have:=putAll_of cs []
 rw[List.nil_append]at this
 have e:ckrOf [] 0=ckr0:=rfl
 rw[e]at this
 rw[show(ckr0.putAll 0 cs)=ckrOf cs 0 from this]
 rfl
theorem ckrOf_ok {all:List (List Int)} {j:Nat} (h: ∀c∈all,clauseB c=true) (hl:all.length≤1000) (hj:j≤1000):(ckrOf all j).Ok 1000 where
 rise:=entsFrom_rise all 0
 ids:=fun p hp=>by
  obtain⟨i,h1,h2⟩:=entsFrom_mem.1 hp
  have:=(List.getElem?_eq_some_iff.1 h1).1
  show 1≤p.1∧p.1≤1073741824∧p.1≤(all.length:Int)
  omega
 cls:=fun p hp=>by
  obtain⟨i,h1,h2⟩:=entsFrom_mem.1 hp
  exact h _ (List.mem_of_getElem? h1)
 last0:=Int.natCast_nonneg _
 last1:=by show(all.length:Int)≤_;omega
 len:=by show(entsFrom 0 all).length≤_;rw[entsFrom_len];exact hl
 prv:=.inl (entsFrom_any all 0).symm
 adds:=⟨Int.natCast_nonneg _,by show(j:Int)≤_;omega⟩
 dels:=⟨Int.le_refl _,by show(0:Int)≤_;omega⟩
 rats:=⟨Int.le_refl _,by show(0:Int)≤_;omega⟩
 larg:=⟨Int.natCast_nonneg _,by show(all.length:Int)≤_;omega⟩
theorem splitGo_pos: ∀(hs out:List Int),(∀h∈hs,0<h)→splitGo out [] hs=(out++hs,[]):=by
 intro hs
 induction hs with
 | nil=>intro out _;rw[List.append_nil];rfl
 | cons h r ih=>
  intro out hp
  have h0:=hp h List.mem_cons_self
  unfold splitGo
  rw[if_neg (by omega)]
  show splitGo (out++ [h]) [] r=_
  rw[ih _ (fun x hx=>hp x (List.mem_cons_of_mem _ hx)),List.append_assoc]
  rfl
theorem split_pos {hs:List Int} (h: ∀x∈hs,0<x):splitL hs=(hs,[]):=by
 unfold splitL
 rw[splitGo_pos hs [] h,List.nil_append]
def joinGo (l:Int):List Int→List Int→List Int
 | out,[]=>out
 | out,x::r=>joinGo l (if x≠l∧x≠ -l∧out.contains x=false then out++ [x]else out) r
def joinL (a b:List Int) (l:Int):List Int:=sortI (joinGo l [] (a++b))
def Lit6 (c:List Int):Prop:=c.length≤13∧∀y∈c,litB y=true∧litV y<7
theorem Lit6.clause {c:List Int} (h:Lit6 c):clauseB c=true:=by
 unfold clauseB
 rw[Bool.and_eq_true,decide_eq_true_eq,List.all_eq_true]
 exact⟨by have:=h.1;omega,fun y hy=>(h.2 y hy).1⟩
def resPick (a b:List Int):Option Int:=a.find? fun l=>b.contains (-l)&& !clashL a&& !clashL b
def resNew (all:List (List Int)) (i k:Nat):Option (List Int):=match resPick (all.getD i []) (all.getD k [])with
 | none=>none
 | some l=>if(clashL (joinL (all.getD i []) (all.getD k []) l)||all.contains (joinL (all.getD i []) (all.getD k []) l))=true then none else some (joinL (all.getD i []) (all.getD k []) l)
def resGo (most:Nat):Nat→List Int→List (List Int)→List EStep→List EStep
 | _,[],_,out=>out
 | n,o::r,all,out=>if out.length<most∧0<all.length then
   (match resNew all (o.toNat%all.length) ((o.toNat/7+n)%all.length)with
    | none=>resGo most (n+1) r all out
    | some c=>resGo most (n+1) r (all++ [c]) (out++ [⟨false,(all.length:Int)+1,c,[((o.toNat%all.length:Nat):Int)+1,(((o.toNat/7+n)%all.length:Nat):Int)+1]⟩]))
  else out
def resL (cs:List (List Int)) (order:List Int) (most:Nat):List EStep:=resGo most 0 order cs []
def ResSteps (cs:List (List Int)) (l:List EStep):Prop:= ∀(j:Nat) (s:EStep),l[j]? =some s→∃(i k:Nat) (a b:List Int) (x:Int),
 s.del=false∧s.id=((cs.length+j:Nat):Int)+1∧s.hints= [(i:Int)+1,(k:Int)+1]∧i<cs.length+j∧k<cs.length+j∧(cs++l.map EStep.lits)[i]? =some a∧(cs++l.map EStep.lits)[k]? =some b∧ResO a b s.lits x∧s.lits∉cs++(l.take j).map EStep.lits∧Lit6 s.lits
end Go.Proofs.YtkfgplfllddhnaaGreat
