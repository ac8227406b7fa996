/- Plain: what lratext.Parse finds in a line; a right step's line is read back. Plain: what strconv.Atoi finds in a word, and the words that are numerals. What a range over a function keeps: all cells and walks but some. -/
import Derived.Test.YteigjcichmpejaaDoorV110
import Derived.Test.YteigjcichmpejaaDoorV112
import Derived.Lib.AtoiAllCases
import Derived.Test.YteigjcichmpejaaDoorV100
import Derived.Test.YteigjcichmpejaaDoorV101
import Derived.RangeFuncNested
import Derived.RangeFuncBound
import Derived.RangeFuncCalls
import Derived.RangeFuncLeaves
import Derived.RangeFuncBox
import Derived.Shelf.Abstract
import Derived.Shelf.RegionOpen
import Derived.OwnWalkIn
import Derived.TacticsInMore
import Derived.LoopNIn
import Derived.LoopIn
import Derived.Maps.OwnIn
namespace Go.Proofs.YteigjcichmpejaaDoor
open Go.RowKit
structure PSt where
 count:Nat
 part:Nat
 id:Int
 lits:List Int
 hints:List Int
def PSt.step (p:PSt) (n:Int):PSt×Bool:=
 if p.count+1=1 then(⟨p.count+1,p.part,n,p.lits,p.hints⟩,false)
 else if n=0 then(⟨p.count+1,p.part+1,p.id,p.lits,p.hints⟩,decide (p.part+1=2))
 else if p.part=0 then(⟨p.count+1,p.part,p.id,p.lits++ [n],p.hints⟩,false)
 else(⟨p.count+1,p.part,p.id,p.lits,p.hints++ [n]⟩,false)
def PSt.go:PSt→List Int→PSt
 | p,[]=>p
 | p,n::r=>if(p.step n).2=true then(p.step n).1 else PSt.go (p.step n).1 r
def numW (w:List UInt8):Option Int:=match Lib.atoi w with
 | some n=>if Lib.itoa n=w∧ -9223372036854775808≤n∧n≤9223372036854775807 then some n else none
 | none=>none
def numsW:List (List UInt8)→List Int
 | []=> []
 | w::r=>match numW w with
  | some n=>n::numsW r
  | none=> []
theorem numW_itoa {n:Int} (h:Rng n):numW (Lib.itoa n)=some n:=by
 unfold numW
 rw[atoi_itoa]
 simp only
 rw[if_pos ⟨trivial,h.1,h.2⟩]
theorem numsW_itoa: ∀{l:List Int},(∀x∈l,Rng x)→numsW (l.map Lib.itoa)=l
 | [],_=>rfl
 | n::l,h=>by
  rw[List.map_cons,numsW,numW_itoa (h n List.mem_cons_self)]
  simp only
  rw[numsW_itoa fun x hx=>h x (List.mem_cons_of_mem _ hx)]
def isDel (ws:List (List UInt8)):Bool:=decide (1<ws.length)&&decide (ws[1]? =some [100])
def pWords (ws:List (List UInt8)):List (List UInt8):=if isDel ws=true then ws.eraseIdx 1 else ws
def pSt (ws:List (List UInt8)):PSt:=PSt.go ⟨0,if isDel ws=true then 1 else 0,0,[],[]⟩ (numsW (pWords ws))
def pStep (ws:List (List UInt8)):EStep:=⟨isDel ws,(pSt ws).id,(pSt ws).lits,(pSt ws).hints⟩
def parseF (t:List UInt8):Option EStep:=
 if(pSt (spl 32 t)).count=(pWords (spl 32 t)).length∧(pSt (spl 32 t)).part=2∧stepB (pStep (spl 32 t))=true∧stepT (pStep (spl 32 t))=t then some (pStep (spl 32 t))else none
theorem go_lits: ∀(l:List Int) (r:List Int) (c:Nat) (i:Int) (a b:List Int),1≤c→(∀x∈l,x≠0)→PSt.go ⟨c,0,i,a,b⟩ (l++r)=PSt.go ⟨c+l.length,0,i,a++l,b⟩ r
 | [],r,c,i,a,b,_,_=>by rw[List.nil_append,List.append_nil];rfl
 | n::l,r,c,i,a,b,hc,h=>by
  have hs:PSt.step ⟨c,0,i,a,b⟩ n=(⟨c+1,0,i,a++ [n],b⟩,false):=by
   unfold PSt.step
   rw[if_neg (by show¬c+1=1;omega),if_neg (h n List.mem_cons_self),if_pos rfl]
  rw[List.cons_append,PSt.go,hs]
  simp only[Bool.false_eq_true,if_false]
  rw[go_lits l r (c+1) i (a++ [n]) b (by omega) fun x hx=>h x (List.mem_cons_of_mem _ hx),List.append_assoc,List.length_cons,show c+1+l.length=c+(l.length+1) by omega]
  rfl
theorem go_hints: ∀(l:List Int) (r:List Int) (c:Nat) (i:Int) (a b:List Int),1≤c→(∀x∈l,x≠0)→PSt.go ⟨c,1,i,a,b⟩ (l++r)=PSt.go ⟨c+l.length,1,i,a,b++l⟩ r
 | [],r,c,i,a,b,_,_=>by rw[List.nil_append,List.append_nil];rfl
 | n::l,r,c,i,a,b,hc,h=>by
  have hs:PSt.step ⟨c,1,i,a,b⟩ n=(⟨c+1,1,i,a,b++ [n]⟩,false):=by
   unfold PSt.step
   rw[if_neg (by show¬c+1=1;omega),if_neg (h n List.mem_cons_self),if_neg (fun h=>by cases h)]
  rw[List.cons_append,PSt.go,hs]
  simp only[Bool.false_eq_true,if_false]
  rw[go_hints l r (c+1) i a (b++ [n]) (by omega) fun x hx=>h x (List.mem_cons_of_mem _ hx),List.append_assoc,List.length_cons,show c+1+l.length=c+(l.length+1) by omega]
  rfl
theorem go_end (c:Nat) (i:Int) (a b:List Int) (hc:1≤c):PSt.go ⟨c,1,i,a,b⟩ [0]=⟨c+1,2,i,a,b⟩:=by
 have hs:PSt.step ⟨c,1,i,a,b⟩ 0=(⟨c+1,2,i,a,b⟩,true):=by
  unfold PSt.step
  rw[if_neg (by show¬c+1=1;omega),if_pos rfl]
  rfl
 rw[PSt.go,hs]
 rfl
theorem go_mid (c:Nat) (i:Int) (a b r:List Int) (hc:1≤c):PSt.go ⟨c,0,i,a,b⟩ (0::r)=PSt.go ⟨c+1,1,i,a,b⟩ r:=by
 have hs:PSt.step ⟨c,0,i,a,b⟩ 0=(⟨c+1,1,i,a,b⟩,false):=by
  unfold PSt.step
  rw[if_neg (by show¬c+1=1;omega),if_pos rfl]
  rfl
 rw[PSt.go,hs]
 rfl
theorem go_id (k:Nat) (n:Int) (r:List Int):PSt.go ⟨0,k,0,[],[]⟩ (n::r)=PSt.go ⟨1,k,n,[],[]⟩ r:=by
 have hs:PSt.step ⟨0,k,0,[],[]⟩ n=(⟨1,k,n,[],[]⟩,false):=by
  unfold PSt.step
  rw[if_pos rfl]
 rw[PSt.go,hs]
 rfl
theorem itoa_ne_d (n:Int):Lib.itoa n≠ [100]:=fun h=>by
 have h100:(100:UInt8)∈Lib.itoa n:=by rw[h];exact List.mem_singleton.2 rfl
 unfold Lib.itoa at h100
 split at h100
 ·rcases List.mem_cons.1 h100 with e|h
  ·exact absurd e (by decide)
  ·exact absurd (dec_dig _ _ h).2 (by decide)
 ·exact absurd (dec_dig _ _ h100).2 (by decide)
theorem parse_step {s:EStep} (h:stepB s=true) (hid:Rng s.id) (hl: ∀x∈s.lits,Rng x∧x≠0) (hh: ∀x∈s.hints,Rng x∧x≠0) (hd:s.del=true→s.lits= []):parseF (stepT s)=some s:=by
 obtain⟨del,id,lits,hints⟩:=s
 simp only at hid hl hh hd
 have r0:Rng 0:=⟨by decide,by decide⟩
 have hln: ∀x∈lits,x≠0:=fun x hx=>(hl x hx).2
 have hhn: ∀x∈hints,x≠0:=fun x hx=>(hh x hx).2
 have key:isDel (spl 32 (stepT ⟨del,id,lits,hints⟩))=del∧pWords (spl 32 (stepT ⟨del,id,lits,hints⟩))=([id]++((if del then []else lits++ [0])++(hints++ [0]))).map Lib.itoa:=by
  rw[spl_step]
  simp only
  cases del with
  | true=>
   have e:isDel (Lib.itoa id::((if true=true then [[100]]else(lits++ [0]).map Lib.itoa)++(hints++ [0]).map Lib.itoa))=true:=by
    unfold isDel
    rw[if_pos rfl]
    simp
   refine⟨e,?_⟩
   unfold pWords
   rw[if_pos e,if_pos rfl,if_pos rfl]
   rfl
  | false=>
   have e:isDel (Lib.itoa id::((if false=true then [[100]]else(lits++ [0]).map Lib.itoa)++(hints++ [0]).map Lib.itoa))=false:=by
    unfold isDel
    rw[if_neg (by decide),Bool.and_eq_false_iff]
    right
    rw[decide_eq_false_iff_not]
    intro h
    cases lits with
    | nil=>
     simp only[List.nil_append,List.map_cons,List.map_nil,List.cons_append]at h
     exact itoa_ne_d 0 (Option.some.inj h)
    | cons x r=>
     simp only[List.map_cons,List.cons_append]at h
     exact itoa_ne_d x (Option.some.inj h)
   refine⟨e,?_⟩
   unfold pWords
   rw[if_neg (by rw[e];decide),if_neg (by decide),if_neg (by decide)]
   simp only[List.map_append,List.map_cons,List.map_nil,List.cons_append,List.nil_append]
 obtain⟨k1,k2⟩:=key
 have hall: ∀x∈([id]++((if del then []else lits++ [0])++(hints++ [0]))),Rng x:=by
  intro x hx
  rcases List.mem_append.1 hx with hx|hx
  ·rw[List.mem_singleton.1 hx];exact hid
  ·rcases List.mem_append.1 hx with hx|hx
   ·cases del with
    | true=>rw[if_pos rfl]at hx;cases hx
    | false=>
     rw[if_neg (by decide)]at hx
     rcases List.mem_append.1 hx with hx|hx
     ·exact(hl x hx).1
     ·rw[List.mem_singleton.1 hx];exact r0
   ·rcases List.mem_append.1 hx with hx|hx
    ·exact(hh x hx).1
    ·rw[List.mem_singleton.1 hx];exact r0
 have hst:pSt (spl 32 (stepT ⟨del,id,lits,hints⟩))=⟨([id]++((if del then []else lits++ [0])++(hints++ [0]))).length,2,id,lits,hints⟩:=by
  unfold pSt
  rw[k1,k2,numsW_itoa hall,List.singleton_append,go_id]
  cases del with
  | true=>
   rw[if_pos rfl,if_pos rfl,List.nil_append,go_hints hints [0] 1 id [] [] (Nat.le_refl _) hhn,go_end _ _ _ _ (by omega),hd rfl,List.nil_append]
   simp
   omega
  | false=>
   rw[if_neg (by decide),if_neg (by decide),List.append_assoc,go_lits lits _ 1 id [] [] (Nat.le_refl _) hln,List.singleton_append,go_mid _ _ _ _ _ (by omega),go_hints hints [0] _ id _ [] (by omega) hhn,go_end _ _ _ _ (by omega),List.nil_append,List.nil_append]
   simp
   omega
 have hps:pStep (spl 32 (stepT ⟨del,id,lits,hints⟩))=⟨del,id,lits,hints⟩:=by
  unfold pStep
  rw[hst,k1]
 unfold parseF
 rw[hps,hst,k2,if_pos ⟨by simp only[List.length_map],rfl,h,rfl⟩]
end Go.Proofs.YteigjcichmpejaaDoor
namespace Go.Proofs.YteigjcichmpejaaDoor
open Go.RowKit
theorem pu_app: ∀(l:List UInt8) (acc n:Nat) (d:Nat),Lib.parseUint10 acc l= .ok n→d<10→n*10+d<18446744073709551616→Lib.parseUint10 acc (l++ [UInt8.ofNat (48+d)])= .ok (n*10+d)
 | [],acc,n,d,h,hd,hb=>by
  simp only[Lib.parseUint10,Lib.NumEnd.ok.injEq]at h
  subst h
  have e:(UInt8.ofNat (48+d)).toNat=48+d:=by rw[UInt8.toNat_ofNat',Nat.mod_eq_of_lt (by omega)]
  rw[List.nil_append,Lib.parseUint10,e,if_pos (by omega),if_neg (by omega),if_neg (by omega),Lib.parseUint10,show 48+d-48=d by omega]
 | c::l,acc,n,d,h,hd,hb=>by
  rw[List.cons_append,Lib.parseUint10]
  rw[Lib.parseUint10]at h
  split at h
  ·rename_i h1
   rw[if_pos h1]
   split at h
   ·cases h
   ·rename_i h2
    rw[if_neg h2]
    split at h
    ·cases h
    ·rename_i h3
     rw[if_neg h3]
     exact pu_app l _ n d h hd hb
  ·cases h
theorem pu_dec: ∀(u:Nat),u<18446744073709551616→Lib.parseUint10 0 (Lib.decDigits u)= .ok u:=by
 intro u
 induction u using Nat.strongRecOn with
 | ind u ih=>
  intro hu
  by_cases h:u<10
  ·rw[Lib.decDigits,dif_pos h]
   have:=pu_app [] 0 0 u rfl h (by omega)
   rwa [List.nil_append,show 0*10+u=u by omega]at this
  ·rw[Lib.decDigits,dif_neg h,pu_app _ 0 _ _ (ih (u/10) (by omega) (by omega)) (Nat.mod_lt _ (by omega)) (by omega),show u/10*10+u%10=u by omega]
theorem mag_dec {u:Nat} (hu:u<18446744073709551616):Lib.parseMag (Lib.decDigits u)= .ok u:=by
 unfold Lib.parseMag
 rw[if_neg (dec_ne u),pu_dec u hu]
theorem atoiAll_itoa {n:Int} (h0: -9223372036854775808≤n) (h1:n≤9223372036854775807):Lib.atoiAll (Lib.itoa n)= .ok n:=by
 unfold Lib.itoa
 split
 ·rename_i h
  rw[Lib.atoiAll_minus,mag_dec (by omega),Lib.signed,if_neg (by omega)]
  congr 1
  omega
 ·rename_i h
  obtain⟨b,r,hb⟩: ∃b r,Lib.decDigits n.toNat=b::r:=by
   cases hd:Lib.decDigits n.toNat with
   | nil=>exact absurd hd (dec_ne _)
   | cons b r=>exact⟨b,r,rfl⟩
  have hd:isDig b:=dec_dig n.toNat b (by rw[hb];exact List.mem_cons_self)
  unfold isDig at hd
  rw[hb,Lib.atoiAll_plain b r (by omega) (by omega),←hb,mag_dec (by omega),Lib.signless,if_neg (by omega)]
  congr 1
  omega
theorem numW_some {w:List UInt8} {n:Int} (h:numW w=some n):w=Lib.itoa n∧ -9223372036854775808≤n∧n≤9223372036854775807:=by
 unfold numW at h
 split at h
 ·split at h
  ·rename_i v _ h1
   obtain rfl:=Option.some.inj h
   exact⟨h1.1.symm,h1.2⟩
  ·cases h
 ·cases h
theorem numW_none {w:List UInt8} (h:numW w=none) {n:Int} (h0: -9223372036854775808≤n) (h1:n≤9223372036854775807):w≠Lib.itoa n:=by
 rintro rfl
 rw[numW_itoa ⟨h0,h1⟩]at h
 cases h
theorem atoi_word (w:List UInt8):(∃n,numW w=some n∧Lib.atoiAll w= .ok n∧w=Lib.itoa n∧ -9223372036854775808≤n∧n≤9223372036854775807)∨
  numW w=none∧((∃v,Lib.atoiAll w= .ok v∧Lib.itoa v≠w∧ -9223372036854775808≤v∧v≤9223372036854775807)∨Lib.atoiAll w= .syntax∨Lib.atoiAll w= .range):=by
 cases h:numW w with
 | some n=>
  obtain⟨h1,h2,h3⟩:=numW_some h
  refine .inl ⟨n,rfl,?_,h1,h2,h3⟩
  rw[h1]
  exact atoiAll_itoa h2 h3
 | none=>
  refine .inr ⟨rfl,?_⟩
  cases ha:Lib.atoiAll w with
  | ok v=>
   obtain⟨h2,h3⟩:=Lib.atoiAll_bounds ha
   exact .inl ⟨v,rfl,fun e=>numW_none h h2 h3 e.symm,h2,h3⟩
  | «syntax» =>exact .inr (.inl rfl)
  | range=>exact .inr (.inr rfl)
theorem numsW_take: ∀(ws:List (List UInt8)) (k:Nat) (x:Int),(numsW ws)[k]? =some x→∃w,ws[k]? =some w∧numW w=some x
 | [],k,x,h=>by cases h
 | w::r,k,x,h=>by
  rw[numsW]at h
  cases hw:numW w with
  | none=>
   rw[hw]at h
   cases h
  | some n=>
   rw[hw]at h
   cases k with
   | zero=>
    obtain rfl:=Option.some.inj h
    exact⟨w,rfl,hw⟩
   | succ k=>exact numsW_take r k x h
theorem numsW_end: ∀(ws:List (List UInt8)) (w:List UInt8),ws[(numsW ws).length]? =some w→numW w=none
 | [],w,h=>by cases h
 | v::r,w,h=>by
  rw[numsW]at h
  cases hw:numW v with
  | none=>
   rw[hw]at h
   obtain rfl:=Option.some.inj h
   exact hw
  | some n=>
   rw[hw]at h
   exact numsW_end r w h
theorem numsW_le: ∀(ws:List (List UInt8)),(numsW ws).length≤ws.length
 | []=>Nat.le_refl _
 | v::r=>by
  rw[numsW]
  split
  ·rw[List.length_cons,List.length_cons]
   exact Nat.succ_le_succ (numsW_le r)
  ·exact Nat.zero_le _
end Go.Proofs.YteigjcichmpejaaDoor
namespace Go.Proofs.YteigjcichmpejaaDoor
open Go.RowKit Go.Shelf Go.Maps
attribute [local go_sem] Oper.semAt_some
def XO (W:World) (g:Nat):Prop:= ∃o,W.heap[g]? =some o∧o.isCells=false∧o.isWalk=false
structure KpC (X:Nat→Prop) (W W':World):Prop where
 os:W'.os=W.os
 tape:W'.tape=W.tape
 output:W'.output=W.output
 size:W.heap.size≤W'.heap.size
 same: ∀k o,W.heap[k]? =some o→¬X k→(o.isCells=true∨o.isWalk=true)→W'.heap[k]? =some o
theorem KpC.kept {X:Nat→Prop} {W W':World} (h:KpC X W W'):Kept (fun g=>X g∨XO W g) W W':=
 ⟨h.os,h.tape,h.output,h.size,fun k hk hn=>by
  have hg:W.heap[k]? =some W.heap[k]:=Array.getElem?_eq_getElem hk
  rw[hg]
  refine h.same k _ hg (fun hx=>hn (.inl hx)) ?_
  apply Classical.byContradiction
  intro hc
  simp only[not_or,Bool.not_eq_true]at hc
  exact hn (.inr ⟨_,hg,hc.1,hc.2⟩)⟩
theorem KpC.trans {X:Nat→Prop} {A B C:World} (h:KpC X A B) (k:KpC X B C):KpC X A C:=
 ⟨k.os.trans h.os,k.tape.trans h.tape,k.output.trans h.output,Nat.le_trans h.size k.size,fun i o hi hx ho=>k.same i o (h.same i o hi hx ho) hx ho⟩
theorem KpC.mono {X X':Nat→Prop} {A B:World} (h:KpC X A B) (hX: ∀g,g<A.heap.size→X g→X' g):KpC X' A B:=
 ⟨h.os,h.tape,h.output,h.size,fun i o hi hx ho=>h.same i o hi (fun h'=>hx (hX i (heap_lt hi) h')) ho⟩
theorem KpC.of_grown {A B:World} {row:Option Nat} (h:A.grownBy B row):KpC (fun g=>some g=row) A B:=
 ⟨h.os,h.tape,h.output,h.size,fun k _ hk hn _=>(h.block k (heap_lt hk) hn).trans hk⟩
theorem KpC.refl (X:Nat→Prop) (A:World):KpC X A A:=⟨rfl,rfl,rfl,Nat.le_refl _,fun _ _ h _ _=>h⟩
theorem KpC.of_below {X:Nat→Prop} {A B:World} (h:Below A.heap.size A B):KpC X A B:=⟨h.os,h.tape,h.output,h.size,fun k _ hk _ _=>(h.block k (heap_lt hk)).trans hk⟩
theorem KpC.putObj (W:World) (l:Nat) (o o':Obj) (h:W.heap[l]? =some o) (hc:o.isCells=false) (hw:o.isWalk=false):KpC (fun _=>False) W (W.putObj l o'):=by
 have hg:=grownBy_putObj' W l o'
 refine⟨hg.os,hg.tape,hg.output,hg.size,fun k x hk _ hx=>?_⟩
 rw[hg.block k (heap_lt hk) (fun e=>by
  cases e
  rw[h]at hk
  cases hk
  rw[hc,hw]at hx
  simp at hx)]
 exact hk
theorem xo_cells {W:World} {g:Nat} {c:Array Value} {t:TypeId} {f:Nat×Nat} (h:W.heap[g]? =some (.cells c t f)): ¬XO W g:=by
 rintro ⟨o,ho,hc,_⟩
 rw[h]at ho
 cases ho
 cases hc
theorem xo_cell {W:World} {p:Addr} {v:Value} (h:W.cell? p=some v): ¬XO W p.block:=by
 rintro ⟨o,ho,hc,_⟩
 unfold World.cell? at h
 rw[ho]at h
 cases o <;> simp_all [Obj.isCells]
theorem IntsIn.narrow {O:Nat→Prop} {w:World} {v:Value} {xs:List Int} (h:IntsIn O w v xs):IntsIn (fun g=>O g∧¬XO w g) w v xs:=by
 obtain⟨A,c,hv,hc,hn,hx⟩:=h
 refine⟨A,c,hv,hc,hn,fun i x hi=>?_⟩
 obtain⟨g,o,h1,h2,h3,h4⟩:=hx i x hi
 exact⟨g,o,h1,h2,⟨h3,xo_cell h4⟩,h4⟩
theorem wpListIn_put {F:Fence} {n:Nat} {w:World} {ops:Array Oper} {rest:List Oper} {o:Oper} {a:Act} {Q:Exit→Act→World→Prop} {b k:Nat} {f:Int→Int} (hown:MapAt w b k f)
  (hg:o.guard=none) (m x v:Operand) (hop:o.op=Op.mapUpdate 53 m x v) (hm:a.eval m= .map (some b)) (hn:k<maxLen) (i y:Int) (hx:a.eval x= .int .i64 i) (hv:a.eval v= .int .i64 y)
  (hi:(Lit.int .i64 i).wf=true) (hy:(Lit.int .i64 y).wf=true)
  (hK: ∀w',MapAt w' b (k+1) (fun z=>if z=i then y else f z)→w.grownBy w' (some b)→wpListIn F n Tryd.prog ops Q rest (a.put o.dst undef) w'):wpListIn F n Tryd.prog ops Q (o::rest) a w:=by
 obtain⟨D,ho,hmap,hf⟩:=hown
 exact wpListIn_mapUpdate_own w hg m x v _ hop 3 3 int_law Tryd.underlying53 _ b k D hm ho hn _ _ _ hx hv (keyOf_int_mk Tryd.underlying3 hi) _ [] (plainElem_int Tryd.underlying3 hy)
  (fun w' h1 h2=>hK w' (MapAt.put hmap hf h1) h2)
end Go.Proofs.YteigjcichmpejaaDoor
