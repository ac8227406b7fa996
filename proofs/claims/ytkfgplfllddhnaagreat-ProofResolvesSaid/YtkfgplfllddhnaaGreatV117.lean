/- Plain: steps keep a checker right; as long as the formula has a model, the entries have one. Plain: what two clauses are resolved to follows from both, in two steps. Sort at rows that are owned (some laws turned from a worked proof of the kit). Plain: sorted numbers. -/
import Derived.Test.YtkfgplfllddhnaaGreatV111
import Derived.Test.YtkfgplfllddhnaaGreatV105
import Derived.Test.YtkfgplfllddhnaaGreatShelf
namespace Go.Proofs.YtkfgplfllddhnaaGreat
open Go.RowKit
theorem putA_mem {m:Ents} {x:Int} {v:List Int} {p:Int×List Int}:p∈putA m x v↔p=(x,v)∨p∈m∧p.1≠x:=by
 unfold putA
 rw[insA_mem,delA_mem]
theorem ckDel_mem: ∀(ids:List Int) (es:Ents),∀p∈(ckDel es ids).1,p∈es:=by
 intro ids
 induction ids with
 | nil=>exact fun _ _ h=>h
 | cons id r ih=>
  intro es p hp
  unfold ckDel at hp
  split at hp
  ·exact hp
  ·exact(delA_mem.1 (ih _ p hp)).1
theorem ckDel_rise: ∀(ids:List Int) (es:Ents),Rising es→Rising (ckDel es ids).1:=by
 intro ids
 induction ids with
 | nil=>exact fun _ h=>h
 | cons id r ih=>
  intro es h
  unfold ckDel
  split
  ·exact h
  ·exact ih _ (h.del id)
theorem ckDel_len: ∀(ids:List Int) (es:Ents),(ckDel es ids).1.length≤es.length:=by
 intro ids
 induction ids with
 | nil=>exact fun _=>Nat.le_refl _
 | cons id r ih=>
  intro es
  unfold ckDel
  split
  ·exact Nat.le_refl _
  ·exact Nat.le_trans (ih _) (List.length_filter_le _ _)
theorem stepB_parts {s:EStep} (h:stepB s=true):0≤s.id∧s.id≤1073741824∧(s.del=false→s.id≠0)∧(s.del=true→s.lits= [])∧clauseB s.lits=true∧s.hints.length≤65536∧∀x∈s.hints,x≠0∧x≤1073741824∧ -1073741824≤x∧(s.del=true→0<x):=by
 unfold stepB at h
 simp only[Bool.and_eq_true,Bool.not_eq_true',Bool.or_eq_false_iff,Bool.and_eq_false_iff,decide_eq_false_iff_not,decide_eq_true_eq,Bool.not_eq_false',List.any_eq_false,Bool.or_eq_true,not_or,not_and]at h
 obtain⟨⟨⟨⟨h1,h2⟩,h3⟩,h4⟩,⟨h5,h6⟩,h7⟩:=h
 refine⟨by omega,by omega,fun e=>?_,fun e=>?_,h5,h6,fun x hx=>?_⟩
 ·rcases h3 with h3|h3
  ·rw[e]at h3;cases h3
  ·exact h3
 ·rcases h4 with h4|h4
  ·rw[e]at h4;cases h4
  ·exact List.length_eq_zero_iff.1 (by omega)
 ·obtain⟨⟨⟨a,b⟩,c⟩,d⟩:=h7 x hx
  exact⟨a,by omega,by omega,fun e=>by have:=d e;omega⟩
section
variable {k:Ckr} {s:EStep} {N:Nat}
inductive DoO (k:Ckr) (s:EStep) (r:Ckr×Nat×Int×Nat):Prop
 | done (h:k.proved=true) (e:r=(k,0,0,0))
 | bad (h:k.proved=false) (h1:r.1=k) (h2:r.2.1=0) (h3:r.2.2.2≠0)
 | del (h:k.proved=false) (hs:stepB s=true) (hl:k.last≤s.id) (hd:s.del=true) (he:(ckDel k.ents s.hints).2.2=0) (e:r=({ k with ents:=(ckDel k.ents s.hints).1,last:=s.id,dels:=k.dels+1 },0,0,0))
 | add (h:k.proved=false) (hs:stepB s=true) (hl:k.last<s.id) (hd:s.del=false) (he:(ckAdd k.ents s.lits s.hints).2.2=0) (e:r=({ (k.put s.id s.lits)with adds:=k.adds+1,rats:=if(ckAdd k.ents s.lits s.hints).1=2 then k.rats+1 else k.rats },(ckAdd k.ents s.lits s.hints).1,0,0))
theorem do_or (k:Ckr) (s:EStep):DoO k s (k.do_ s):=by
 unfold Ckr.do_
 cases hp:k.proved with
 | true=>rw[if_pos rfl];exact .done hp rfl
 | false=>
  rw[if_neg (by decide)]
  cases hs:stepB s with
  | false=>rw[if_pos rfl];exact .bad hp rfl rfl (by show(70:Nat)≠0;decide)
  | true=>
   rw[if_neg (by decide)]
   split
   ·exact .bad hp rfl rfl (by show(100:Nat)≠0;decide)
   ·rename_i h1
    cases hd:s.del with
    | true=>
     rw[if_pos rfl]
     split
     ·rename_i h2
      exact .del hp hs (by omega) hd h2 (by rw[hp])
     ·rename_i h2
      exact .bad hp rfl rfl h2
    | false=>
     rw[hd]at h1
     rw[if_neg (by decide)]
     split
     ·rename_i h2
      exact .bad hp rfl rfl h2
     ·rename_i h2
      exact .add hp hs (by
       have: ¬(s.id<k.last∨s.id=k.last∧false=false):=h1
       simp only[and_true]at this
       omega) hd (Classical.byContradiction h2) rfl
theorem any_put {es:Ents} {id:Int} {c:List Int} (h: ∀p∈es,p.1≠id):(putA es id c).any (fun p=>p.2.isEmpty)=(es.any (fun p=>p.2.isEmpty)||c.isEmpty):=by
 refine Bool.eq_iff_iff.2 ?_
 rw[Bool.or_eq_true,List.any_eq_true,List.any_eq_true]
 constructor
 ·rintro ⟨p,hp,e⟩
  rcases putA_mem.1 hp with rfl|⟨hp,_⟩
  ·exact .inr e
  ·exact .inl ⟨p,hp,e⟩
 ·rintro (⟨p,hp,e⟩|e)
  ·exact⟨p,putA_mem.2 (.inr ⟨hp,h p hp⟩),e⟩
  ·exact⟨_,putA_mem.2 (.inl rfl),e⟩
theorem Ckr.Ok.put (h:k.Ok N) {id:Int} {c:List Int} (hl:k.last<id) (h1:id≤1073741824) (hc:clauseB c=true):(k.put id c).Ok (N+1) where
 rise:=h.rise.put id c
 ids:=fun p hp=>by
  show 1≤p.1∧p.1≤1073741824∧p.1≤id
  have:=h.last0
  rcases putA_mem.1 hp with rfl|⟨hp,_⟩
  ·exact⟨by show 1≤id;omega,h1,Int.le_refl _⟩
  ·obtain⟨a,b,d⟩:=h.ids p hp
   exact⟨a,b,by omega⟩
 cls:=fun p hp=>by
  rcases putA_mem.1 hp with rfl|⟨hp,_⟩
  ·exact hc
  ·exact h.cls p hp
 last0:=by show 0≤id;have:=h.last0;omega
 last1:=h1
 len:=by
  have:=putA_length_le k.ents id c
  have:=h.len
  show(putA k.ents id c).length≤_
  omega
 prv:=by
  show(k.proved||c.isEmpty)=(putA k.ents id c).any (fun p=>p.2.isEmpty)∨(k.proved||c.isEmpty)=false
  rw[any_put (fun p hp=>by have:=(h.ids p hp).2.2;omega)]
  rcases h.prv with e|e
  ·exact .inl (by rw[e])
  ·rw[e]
   cases hc:c.isEmpty with
   | false=>exact .inr rfl
   | true=>left;simp
 adds:=⟨h.adds.1,by have:=h.adds.2;show k.adds≤_;omega⟩
 dels:=⟨h.dels.1,by have:=h.dels.2;show k.dels≤_;omega⟩
 rats:=⟨h.rats.1,by have:=h.rats.2;show k.rats≤_;omega⟩
 larg:=by
  have:=putA_length_le k.ents id c
  have:=h.len
  have:=h.larg
  show 0≤max k.largest ((putA k.ents id c).length:Int)∧max k.largest ((putA k.ents id c).length:Int)≤_
  omega
theorem do_ok (h:k.Ok N):(k.do_ s).1.Ok (N+1):=by
 have hmono:k.Ok (N+1):={ h with
  len:=Nat.le_succ_of_le h.len
  adds:=⟨h.adds.1,by have:=h.adds.2;omega⟩
  dels:=⟨h.dels.1,by have:=h.dels.2;omega⟩
  rats:=⟨h.rats.1,by have:=h.rats.2;omega⟩
  larg:=⟨h.larg.1,by have:=h.larg.2;omega⟩ }
 rcases do_or k s with⟨_,e⟩|⟨_,e,_⟩|⟨hp,hs,hl,hd,he,e⟩|⟨hp,hs,hl,hd,he,e⟩
 ·rw[e];exact hmono
 ·rw[e];exact hmono
 ·rw[e]
  obtain⟨s0,s1,_⟩:=stepB_parts hs
  exact {
   rise:=ckDel_rise _ _ h.rise
   ids:=fun p hp=>by
    obtain⟨a,b,d⟩:=h.ids p (ckDel_mem _ _ p hp)
    exact⟨a,b,Int.le_trans d hl⟩
   cls:=fun p hp=>h.cls p (ckDel_mem _ _ p hp)
   last0:=s0
   last1:=s1
   len:=Nat.le_trans (ckDel_len _ _) (Nat.le_succ_of_le h.len)
   prv:=.inr hp
   adds:=hmono.adds
   dels:=by
    have:=h.dels
    show 0≤k.dels+1∧k.dels+1≤_
    omega
   rats:=hmono.rats
   larg:=hmono.larg }
 ·rw[e]
  obtain⟨s0,s1,_,_,hc,_⟩:=stepB_parts hs
  have h2:=h.put hl s1 hc
  exact { h2 with
   adds:=by
    have:=h.adds
    show 0≤k.adds+1∧k.adds+1≤_
    omega
   rats:=by
    have:=h.rats
    show 0≤(if(ckAdd k.ents s.lits s.hints).1=2 then k.rats+1 else k.rats)∧(if(ckAdd k.ents s.lits s.hints).1=2 then k.rats+1 else k.rats)≤_
    split <;> omega }
def Ckr.Exact (k:Ckr):Prop:=k.proved=k.ents.any (fun p=>p.2.isEmpty)
end
theorem bit_way (n:Nat):Way (fun y=>bitT n y=true) where
 one:=fun y hy h h2=>by
  rw[bitT_neg (litB_ne hy),h]at h2
  cases h2
 all:=fun y hy=>by
  rw[bitT_neg (litB_ne hy)]
  cases bitT n y with
  | true=>exact .inl rfl
  | false=>exact .inr rfl
theorem bit_flip (n k:Nat) {y:Int} (hy:litB y=true):bitT (n ^^^ 2^k) y=if litV y=k then !bitT n y else bitT n y:=by
 have h1:=litV_pos hy
 unfold bitT
 by_cases h0:0<y
 ·have e:y.toNat=litV y:=by omega
  rw[if_pos h0,if_pos h0,e,Nat.testBit_xor,Nat.testBit_two_pow]
  by_cases hk:litV y=k
  ·rw[if_pos hk,decide_eq_true hk.symm,Bool.xor_true]
  ·rw[if_neg hk,decide_eq_false (fun e=>hk e.symm),Bool.xor_false]
 ·have e:(-y).toNat=litV y:=by
   have:=litB_ne hy
   omega
  rw[if_neg h0,if_neg h0,e,Nat.testBit_xor,Nat.testBit_two_pow]
  by_cases hk:litV y=k
  ·rw[if_pos hk,decide_eq_true hk.symm,Bool.xor_true]
  ·rw[if_neg hk,decide_eq_false (fun e=>hk e.symm),Bool.xor_false]
def SatE (n:Nat) (es:Ents):Prop:= ∀p∈es,p.2.any (bitT n)=true
def SatN (es:Ents):Prop:= ∃n,n<128∧n%2=0∧SatE n es
theorem SatE.iff {n:Nat} {es:Ents}:SatE n es↔∀p∈es,∃y∈p.2,bitT n y=true:=by
 unfold SatE
 exact forall_congr' fun p=>forall_congr' fun _=>List.any_eq_true
theorem named_mem {es:Ents}: ∀(hs:List Int),∀d∈ckNamed es hs,∃p∈es,p.2=d:=by
 intro hs
 induction hs with
 | nil=>intro d hd;cases hd
 | cons h r ih=>
  intro d hd
  unfold ckNamed at hd
  split at hd
  ·rename_i c hc
   rcases List.mem_cons.1 hd with e|hd
   ·exact⟨_,getA_some hc,e.symm⟩
   ·exact ih d hd
  ·cases hd
theorem ratIds_mem {want:List Int}: ∀(gs:List Int) (last:Int),(ratIds want last gs).2=0→∀g∈gs,g∈want:=by
 intro gs
 induction gs with
 | nil=>intro _ _ g hg;cases hg
 | cons x r ih=>
  intro last h g hg
  unfold ratIds at h
  split at h
  ·cases h
  ·rename_i h1
   rcases List.mem_cons.1 hg with e|hg
   ·rw[e]
    refine List.contains_iff_mem.1 ?_
    cases hx:want.contains x with
    | true=>rfl
    | false=>exact absurd (.inl hx) h1
   ·exact ih _ h g hg
theorem add_sat {es:Ents} (hr:Rising es) (hb: ∀p∈es,clauseB p.2=true) {c hs:List Int} (hc:clauseB c=true) (h7: ∀y∈c,litV y<7) (he:(ckAdd es c hs).2.2=0) (id:Int) (hs2:SatN es):SatN (putA es id c):=by
 obtain⟨n,hn,hn2,hsat⟩:=hs2
 have ht:=SatE.iff.1 hsat
 by_cases hct: ∃y∈c,bitT n y=true
 ·refine⟨n,hn,hn2,fun p hp=>?_⟩
  rcases putA_mem.1 hp with rfl|⟨hp,_⟩
  ·exact List.any_eq_true.2 hct
  ·exact hsat p hp
 ·have hw:=bit_way n
  unfold ckAdd at he
  have hf:(ckFol es c (splitL hs).1).1=false∨(ckFol es c (splitL hs).1).2.2≠0:=by
   left
   unfold ckFol
   split
   ·rename_i h0
    exact absurd (chk_sound hw hc (fun d hd=>by
     obtain⟨p,hp,rfl⟩:=named_mem _ d hd
     exact hb p hp) (fun d hd=>by
     obtain⟨p,hp,rfl⟩:=named_mem _ d hd
     exact ht p hp) h0) hct
   ·split
    ·rfl
    ·split <;> rfl
  split at he
  ·rename_i h1
   exact absurd he h1
  ·rename_i h1
   rw[if_neg (by
    rcases hf with h|h
    ·rw[h];decide
    ·exact absurd h h1)]at he
   have ha:=asm_under hw hc hct
   have hal:alwL c=false:=alwL_no fun y hy hm=>by
    have h1:=(hw.all y (clauseB_lit hc hy)).resolve_left fun hp=>hct ⟨y,hy,hp⟩
    exact hct ⟨_,hm,h1⟩
   obtain⟨hF1,hF2⟩:=ratFol_sound hw hb ht (splitL hs).1 _ ha
   unfold ratP at he
   rw[if_neg (by rw[hal];decide)]at he
   split at he
   ·rename_i h2
    exact absurd he h2
   ·rw[if_neg (by rw[hF1];decide)]at he
    cases hcc:c with
    | nil=>
     rw[hcc]at he
     cases he
    | cons p r=>
     have hpm:p∈c:=by rw[hcc];exact List.mem_cons_self
     have hpb:=clauseB_lit hc hpm
     have hp7:=h7 p hpm
     have he':=he
     rw[hcc]at he'
     simp only at he'
     rw[←hcc]at he'
     split at he'
     ·rename_i h3
      exact absurd he' h3
     ·rename_i h3
      split at he'
      ·rename_i h4
       exact absurd he' h4
      ·rename_i h4
       have h3:(ratGrp es p (splitL hs).2).2=0:=Classical.byContradiction h3
       have h4:=Classical.byContradiction h4
       have hpv:=litV_pos hpb
       have hnp:bitT n p=false:=by
        cases hx:bitT n p with
        | false=>rfl
        | true=>exact absurd ⟨p,hpm,hx⟩ hct
       have hflip: ∀y,litB y=true→y≠ -p→bitT n y=true→bitT (n ^^^ 2^litV p) y=true:=fun y hy hne hyt=>by
        rw[bit_flip n _ hy]
        split
        ·rename_i e
         rcases litV_two hpb e.symm with e|e
         ·rw[e,hnp]at hyt
          cases hyt
         ·exact absurd e hne
        ·exact hyt
       refine⟨n ^^^ 2^litV p,?_,?_,fun q hq=>?_⟩
       ·exact Nat.xor_lt_two_pow (n:=7) hn (Nat.pow_lt_pow_right (by decide) hp7)
       ·have hb0:(n ^^^ 2^litV p).testBit 0=false:=by
         rw[Nat.testBit_xor,Nat.testBit_two_pow,Nat.testBit_zero,decide_eq_false (by omega),decide_eq_false (by omega)]
         rfl
        rw[Nat.testBit_zero]at hb0
        have:=of_decide_eq_false hb0
        omega
       ·rcases putA_mem.1 hq with rfl|⟨hq,_⟩
        ·refine List.any_eq_true.2 ⟨p,?_,?_⟩
         ·exact List.mem_cons_self
         ·rw[bit_flip n _ hpb,if_pos rfl,hnp]
          rfl
        ·have hqb:=hb q hq
         obtain⟨y,hy,hyt⟩:=ht q hq
         rw[List.any_eq_true]
         by_cases hmem: -p∈q.2
         ·cases hqa:alwL q.2 with
          | true=>
           obtain⟨z,hz,hz2⟩:=alwL_two hqa
           have hzb:=clauseB_lit hqb hz
           rcases (bit_way (n ^^^ 2^litV p)).all z hzb with g|g
           ·exact⟨z,hz,g⟩
           ·exact⟨_,hz2,g⟩
          | false=>
           have hcand:candB p q.2=true:=by
            unfold candB
            rw[litN_eq hpb,hqa,Bool.and_eq_true]
            exact⟨List.contains_iff_mem.2 hmem,rfl⟩
           have hwant:q.1∈ratWant es p:=List.mem_map.2 ⟨q,List.mem_filter.2 ⟨hq,hcand⟩,rfl⟩
           unfold ratGrp at h3
           split at h3
           ·cases h3
           ·rename_i hnone
            rw[List.find?_eq_none]at hnone
            have hin:=hnone _ hwant
            have hin:q.1∈(splitL hs).2.map Prod.fst:=by
             refine List.contains_iff_mem.1 ?_
             cases hx:((splitL hs).2.map Prod.fst).contains q.1 with
             | true=>rfl
             | false=>rw[hx]at hin;exact absurd rfl hin
            obtain⟨g,hg,eg⟩:=List.mem_map.1 hin
            obtain⟨z,hz,hz1,hz2⟩:=ratLoop_sound hw hb ht hF2 _ h4 g hg q.2 (by rw[eg];exact getA_of hr hq)
            rw[litN_eq hpb]at hz1
            exact⟨z,hz,hflip z (clauseB_lit hqb hz) hz1 hz2⟩
         ·exact⟨y,hy,hflip y (clauseB_lit hqb hy) (fun e=>hmem (e▸hy)) hyt⟩
theorem do_sat {k:Ckr} {s:EStep} {N:Nat} (h:k.Ok N) (h7: ∀y∈s.lits,litV y<7) (hs:SatN k.ents):SatN (k.do_ s).1.ents:=by
 rcases do_or k s with⟨_,e⟩|⟨_,e,_⟩|⟨hp,_,hl,hd,he,e⟩|⟨hp,hsb,hl,hd,he,e⟩
 ·rw[e];exact hs
 ·rw[e];exact hs
 ·rw[e]
  obtain⟨n,h1,h2,h3⟩:=hs
  exact⟨n,h1,h2,fun p hp=>h3 p (ckDel_mem _ _ p hp)⟩
 ·rw[e]
  exact add_sat h.rise h.cls (stepB_parts hsb).2.2.2.2.1 h7 he _ hs
end Go.Proofs.YtkfgplfllddhnaaGreat
namespace Go.Proofs.YtkfgplfllddhnaaGreat
open Go.RowKit
def clashL (c:List Int):Bool:=c.any fun l=>c.contains (-l)
theorem clash_no {c:List Int} (h:clashL c=false): ∀y∈c,-y∉c:=fun y hy hm=>by
 unfold clashL at h
 have:=List.any_eq_false.1 h y hy
 exact this (List.contains_iff_mem.2 hm)
structure ResO (a b c:List Int) (l:Int):Prop where
 la:l∈a
 lb: -l∈b
 na: ∀y∈a,-y∉a
 nb: ∀y∈b,-y∉b
 nc: ∀y∈c,-y∉c
 mem: ∀y,y∈c↔(y∈a∨y∈b)∧y≠l∧y≠ -l
section
variable {a b c:List Int} {l:Int}
theorem res_chk (h:ResO a b c l) (ha:clauseB a=true) (hb:clauseB b=true) (hc:clauseB c=true):chkP c [a,b]=([l],2,0):=by
 have hlb:=clauseB_lit ha h.la
 obtain⟨f,hf,hs⟩:=asm_ok hc h.nc
 have hneg: ∀y,litB y=true→(ofF f y<0↔y∈c):=fun y hy=>by
  rw[(hs y hy).2]
  show- -y∈c↔_
  rw[Int.neg_neg]
 have hpos: ∀y,litB y=true→(0<ofF f y↔ -y∈c):=fun y hy=>(hs y hy).1
 have hl0:ofF f l=0:=by
  have h1: ¬0<ofF f l:=fun e=>((h.mem _).1 ((hpos l hlb).1 e)).2.2 rfl
  have h2: ¬ofF f l<0:=fun e=>((h.mem _).1 ((hneg l hlb).1 e)).2.1 rfl
  omega
 have h1:lookF f a=(3,l):=by
  refine k_unit h.la hl0 (fun y hy hne=>?_) (fun y hy=>litB_ne (clauseB_lit ha hy))
  refine(hneg y (clauseB_lit ha hy)).2 ((h.mem y).2 ⟨.inl hy,hne,fun e=>?_⟩)
  exact h.na l h.la (e▸hy)
 have h2:lookF (putF f l) b=(2,0):=by
  refine k_fail fun y hy=>?_
  have hyb:=clauseB_lit hb hy
  by_cases e:y= -l
  ·rw[e,k_put_neg f hlb]
   decide
  ·have hyl:y≠l:=fun e2=>by
    have:=h.nb _ h.lb
    rw[Int.neg_neg]at this
    exact this (e2▸hy)
   have hv:litV y≠litV l:=fun ev=>by
    rcases litV_two hlb ev.symm with g|g
    ·exact hyl g
    ·exact e g
   rw[k_put_ne f hv]
   exact(hneg y hyb).2 ((h.mem y).2 ⟨.inr hy,hyl,e⟩)
 unfold chkP
 rw[if_neg (by rw[alwL_no h.nc];decide),hf]
 simp only
 have e:folGo f [a,b] [] 0=([l],2,true,0):=by
  unfold folGo
  rw[h1,if_neg (by show¬(3:Nat)=2;decide),if_pos rfl]
  unfold folGo
  rw[h2,if_pos rfl]
  rfl
 rw[e]
 rfl
end
end Go.Proofs.YtkfgplfllddhnaaGreat
namespace Go.Proofs.YtkfgplfllddhnaaGreat
open Go.RowKit Go.Sort
def sortI (xs:List Int):List Int:=xs.mergeSort fun x y=>decide (x≤y)
theorem sortI_length (xs:List Int):(sortI xs).length=xs.length:=by simp[sortI]
end Go.Proofs.YtkfgplfllddhnaaGreat
namespace Go.Proofs.YtkfgplfllddhnaaGreat
open Go.RowKit
theorem sI_mem (xs:List Int) (x:Int):x∈sortI xs↔x∈xs:=(List.mergeSort_perm xs _).mem_iff
theorem sI_sorted (xs:List Int):(sortI xs).Pairwise (· ≤ ·):=by
 have:=List.pairwise_mergeSort (le:=fun x y:Int=>decide (x≤y)) (fun a b c h1 h2=>by simp at *;omega) (fun a b=>by simp;omega) xs
 exact this.imp (fun h=>by simpa using h)
theorem sI_eq {xs ys:List Int} (hp:xs.Perm ys) (hs:ys.Pairwise (· ≤ ·)):sortI xs=ys:=
 List.Perm.eq_of_pairwise (le:=fun a b=>a≤b) (fun a b _ _ h1 h2=>by omega) (sI_sorted xs) hs ((List.mergeSort_perm _ _).trans hp)
end Go.Proofs.YtkfgplfllddhnaaGreat
