/- Plain: where Parse's loop breaks at a right step's line. Plain: what Parse's loop has gathered at the end of a right step's line. Steps that a program builds: a row of its own, with rows of literals and of hints. Plain: what salvorref07.Number reads. Plain: a line, as the reference parses it: as Parse does. -/
import Derived.Test.YtajbmjpodeilpaaGreatDoorV203
import Derived.Test.YtajbmjpodeilpaaGreatDoorV204
import Derived.Test.YtajbmjpodeilpaaGreatDoorV202
import Derived.Test.YtajbmjpodeilpaaGreatDoorV201
namespace Go.Proofs.YtajbmjpodeilpaaGreatDoor
open Go.RowKit
def PSt.sf (p:PSt) (l:List Int):PSt:=l.foldl (fun p n=>(p.step n).1) p
theorem step_count (p:PSt) (n:Int):(p.step n).1.count=p.count+1:=by
 unfold PSt.step
 split
 ·rfl
 ·split
  ·rfl
  ·split <;> rfl
theorem sf_count: ∀(l:List Int) (p:PSt),(p.sf l).count=p.count+l.length
 | [],p=>rfl
 | n::l,p=>by
  show(PSt.sf (p.step n).1 l).count=_
  rw[sf_count l,step_count,List.length_cons]
  omega
def lineNums (s:EStep):List Int:=s.id::((if s.del then []else s.lits++ [0])++(s.hints++ [0]))
end Go.Proofs.YtajbmjpodeilpaaGreatDoor
namespace Go.Proofs.YtajbmjpodeilpaaGreatDoor
open Go.RowKit
end Go.Proofs.YtajbmjpodeilpaaGreatDoor
namespace Go.Proofs.YtajbmjpodeilpaaGreatDoor
open Go.RowKit
abbrev StV:=EStep×(Option Addr×Nat)×(Option Addr×Nat)
def stcell (x:StV):List Value:= [.bool x.1.del,.int .i64 x.1.id,(Value.slice x.2.1.1 x.1.lits.length x.2.1.2),(Value.slice x.2.2.1 x.1.hints.length x.2.2.2)]
theorem stcell_at: ∀(K:List StV) (i:Nat) (x:StV),K[i]? =some x→(K.flatMap stcell)[i*4]? =some (.bool x.1.del)∧(K.flatMap stcell)[i*4+1]? =some (.int .i64 x.1.id)∧(K.flatMap stcell)[i*4+2]? =some (Value.slice x.2.1.1 x.1.lits.length x.2.1.2)∧(K.flatMap stcell)[i*4+3]? =some (Value.slice x.2.2.1 x.1.hints.length x.2.2.2)
 | [],i,x,h=>by simp at h
 | y::K,0,x,h=>by
  obtain rfl:y=x:=by simpa using h
  exact⟨rfl,rfl,rfl,rfl⟩
 | y::K,i+1,x,h=>by
  have:=stcell_at K i x (by simpa using h)
  rw[show(i+1)*4=i*4+4 by omega]
  exact this
theorem stinfo:(Tryz.prog.info? 34).map (fun i=>(i.zero,i.size,i.bytes))=some (some (.agg #[.bool false,.int .i64 0,.slice none 0 0,.slice none 0 0]),4,64):=by kernel_rfl
structure StMem (n0:Nat) (w:World) (v:Value) (K:List StV):Prop where
 row:w.ownsRow n0 34 4 v K.length (K.flatMap stcell)
 lit: ∀x∈K,w.ownsRow n0 28 1 (Value.slice x.2.1.1 x.1.lits.length x.2.1.2) x.1.lits.length (x.1.lits.map (Value.int .i64))
 hnt: ∀x∈K,w.ownsRow n0 3 1 (Value.slice x.2.2.1 x.1.hints.length x.2.2.2) x.1.hints.length (x.1.hints.map (Value.int .i64))
section
variable {n0:Nat} {w w1:World} {v v':Value} {K:List StV}
theorem StMem.nil (n0:Nat) (w:World):StMem n0 w (.slice none 0 0) []:=⟨World.ownsRow_nil _ _ _ _,(fun x hx=>by cases hx),(fun x hx=>by cases hx)⟩
theorem StMem.kept {O:Nat→Prop} (h:StMem n0 w v K) (k:Kept O w w1) (h1: ∀g,v.ownBlock=some g→¬O g) (h2: ∀x∈K,∀g,(Value.slice x.2.1.1 x.1.lits.length x.2.1.2).ownBlock=some g→¬O g) (h3: ∀x∈K,∀g,(Value.slice x.2.2.1 x.1.hints.length x.2.2.2).ownBlock=some g→¬O g):StMem n0 w1 v K:=
 ⟨own_kept h.row k h1,fun x hx=>own_kept (h.lit x hx) k (h2 x hx),fun x hx=>own_kept (h.hnt x hx) k (h3 x hx)⟩
theorem StMem.below (h:StMem n0 w v K) (k:Below w.heap.size w w1):StMem n0 w1 v K:=⟨own_below h.row k,fun x hx=>own_below (h.lit x hx) k,fun x hx=>own_below (h.hnt x hx) k⟩
theorem StMem.push (h:StMem n0 w v K) (hg:w.grownBy w1 v.ownBlock) (x:StV) (hr:w1.ownsRow n0 34 4 v' (K.length+1) (K.flatMap stcell++stcell x)) (hl:w.ownsRow n0 28 1 (Value.slice x.2.1.1 x.1.lits.length x.2.1.2) x.1.lits.length (x.1.lits.map (Value.int .i64))) (hh:w.ownsRow n0 3 1 (Value.slice x.2.2.1 x.1.hints.length x.2.2.2) x.1.hints.length (x.1.hints.map (Value.int .i64))):StMem n0 w1 v' (K++ [x]) where
 row:=by
  rw[List.length_append,List.flatMap_append]
  simpa using hr
 lit:=fun y hy=>by
  have hy2:w.ownsRow n0 28 1 (Value.slice y.2.1.1 y.1.lits.length y.2.1.2) y.1.lits.length (y.1.lits.map (Value.int .i64)):=by
   rcases List.mem_append.1 hy with hy|hy
   ·exact h.lit y hy
   ·rw[List.mem_singleton.1 hy];exact hl
  exact own_kept hy2 (Kept.grown hg) (fun g h1 h2=>mx_apart hy2 h.row (by decide) h1 h2.symm)
 hnt:=fun y hy=>by
  have hy2:w.ownsRow n0 3 1 (Value.slice y.2.2.1 y.1.hints.length y.2.2.2) y.1.hints.length (y.1.hints.map (Value.int .i64)):=by
   rcases List.mem_append.1 hy with hy|hy
   ·exact h.hnt y hy
   ·rw[List.mem_singleton.1 hy];exact hh
  exact own_kept hy2 (Kept.grown hg) (fun g h1 h2=>mx_apart hy2 h.row (by decide) h1 h2.symm)
theorem StMem.mono {n1:Nat} (h:StMem n0 w v K) (hn:n1≤n0):StMem n1 w v K:=⟨own_mono h.row hn,fun x hx=>own_mono (h.lit x hx) hn,fun x hx=>own_mono (h.hnt x hx) hn⟩
theorem StMem.stepIn (h:StMem n0 w v K):StepIn (fun g=>n0≤g) w v (K.map Prod.fst):=by
 have hrow:=h.row
 rcases hrow.2 with⟨rfl,h0⟩|⟨g,cap,cur,rfl,hb,hg,hle,_⟩
 ·exact⟨none,0,by rw[List.length_map,h0],by rw[List.length_map,h0];exact Nat.le_refl _,fun _=>rfl,fun i p hi=>by
   have:=(List.getElem?_eq_some_iff.1 hi).1
   rw[List.length_map]at this
   omega⟩
 ·refine⟨_,cap,by rw[List.length_map],by rw[List.length_map];exact hle,(fun h=>by cases h),fun i p hi=>?_⟩
  rw[List.getElem?_map]at hi
  cases hx:K[i]? with
  | none=>rw[hx]at hi;cases hi
  | some x=>
   rw[hx]at hi
   obtain rfl:=Option.some.inj hi
   obtain⟨e0,e1,e2,e3⟩:=stcell_at K i x hx
   have hxm:=List.mem_of_getElem? hx
   exact⟨g,0,(Value.slice x.2.1.1 x.1.lits.length x.2.1.2),(Value.slice x.2.2.1 x.1.hints.length x.2.2.2),rfl,heap_lt hg,hb,by rw[Nat.zero_add];exact mx_at hrow e0,by rw[Nat.zero_add];exact mx_at hrow e1,by rw[Nat.zero_add];exact mx_at hrow e2,by rw[Nat.zero_add];exact mx_at hrow e3,(IntsIn.of_own (h.lit x hxm)).mono fun _ h=>h.1,(IntsIn.of_own (h.hnt x hxm)).mono fun _ h=>h.1⟩
end
end Go.Proofs.YtajbmjpodeilpaaGreatDoor
namespace Go.Proofs.YtajbmjpodeilpaaGreatDoor
open Go.RowKit
theorem head_app {a b:List UInt8} (h:a≠ []):(a++b).head? =a.head? :=by
 cases a with
 | nil=>exact absurd rfl h
 | cons _ _=>rfl
def rDig:Nat→List UInt8→Int→Int×Nat
 | 0,_,n=>(n,0)
 | _+1,[],n=>(n,0)
 | f+1,b::r,n=>if 48≤b.toNat∧b.toNat≤57 then((rDig f r (n*10+b.toNat-48)).1,(rDig f r (n*10+b.toNat-48)).2+1)else(n,0)
def rSign (s:List UInt8):Bool:=decide (s.head? =some 45)
def rBody (s:List UInt8):List UInt8:=if rSign s=true then s.drop 1 else s
def rNumber (s:List UInt8):Int×Nat:=
 let d:=rDig 11 (rBody s) 0
 if d.2=0∨((rBody s).head? =some 48∧(1<d.2∨rSign s=true))∨(∃b,((rBody s).drop d.2).head? =some b∧b≠32)then(0,0)
 else(if rSign s=true then -d.1 else d.1,d.2+if rSign s=true then 1 else 0)
def dVal:List UInt8→Nat→Nat
 | [],n=>n
 | b::r,n=>dVal r (n*10+(b.toNat-48))
theorem dVal_app: ∀(a b:List UInt8) (n:Nat),dVal (a++b) n=dVal b (dVal a n)
 | [],_,_=>rfl
 | x::a,b,n=>by rw[List.cons_append,dVal,dVal,dVal_app a b]
theorem rDig_spec: ∀(f:Nat) (s:List UInt8) (n:Nat),(rDig f s n).1=dVal (s.take (rDig f s n).2) n∧(∀b∈s.take (rDig f s n).2,isDig b)∧(rDig f s n).2≤f∧(rDig f s n).2≤s.length∧((rDig f s n).2<f→∀b,(s.drop (rDig f s n).2).head? =some b→¬isDig b)
 | 0,s,n=>⟨rfl,(fun b h=>by cases h),Nat.le_refl _,Nat.zero_le _,fun h=>absurd h (Nat.lt_irrefl _)⟩
 | f+1,[],n=>⟨rfl,(fun b h=>by cases h),Nat.zero_le _,Nat.le_refl _,fun _ b h=>by cases h⟩
 | f+1,b::r,n=>by
  rw[rDig]
  split
  ·rename_i hb
   have e:((n:Int)*10+(b.toNat:Int)-48)=((n*10+(b.toNat-48):Nat):Int):=by omega
   rw[e]
   obtain⟨h1,h2,h3,h4,h5⟩:=rDig_spec f r (n*10+(b.toNat-48))
   refine⟨?_,?_,by simp only;omega,by simp only[List.length_cons];omega,?_⟩
   ·simp only[List.take_succ_cons,dVal]
    exact h1
   ·simp only[List.take_succ_cons]
    intro x hx
    rcases List.mem_cons.1 hx with rfl|hx
    ·exact hb
    ·exact h2 x hx
   ·simp only[List.drop_succ_cons]
    exact fun hlt=>h5 (by omega)
  ·rename_i hb
   exact⟨rfl,(fun x h=>by cases h),Nat.zero_le _,Nat.zero_le _,fun _ x hx=>by
    simp only[List.drop_zero,List.head?_cons,Option.some.injEq]at hx
    rw[←hx]
    exact hb⟩
theorem dec_val: ∀(l:List UInt8) (n:Nat),1≤n→(∀b∈l,isDig b)→Lib.decDigits (dVal l n)=Lib.decDigits n++l
 | [],n,_,_=>by rw[dVal,List.append_nil]
 | b::r,n,hn,h=>by
  have hb:=h b List.mem_cons_self
  unfold isDig at hb
  rw[dVal,dec_val r _ (by omega) fun x hx=>h x (List.mem_cons_of_mem _ hx)]
  rw[Lib.decDigits,dif_neg (by omega),show(n*10+(b.toNat-48))/10=n by omega,show(n*10+(b.toNat-48))%10=b.toNat-48 by omega,show 48+(b.toNat-48)=b.toNat by omega,List.append_assoc]
  congr 2
  rw[List.singleton_append]
  congr 1
  exact UInt8.toNat_inj.1 (by rw[UInt8.toNat_ofNat',Nat.mod_eq_of_lt (by omega)])
theorem dec_one (l:List UInt8) (h: ∀b∈l,isDig b) (hl:l≠ []) (h0:l.head? =some 48→l.length=1):Lib.decDigits (dVal l 0)=l:=by
 cases l with
 | nil=>exact absurd rfl hl
 | cons b r=>
  have hb:=h b List.mem_cons_self
  unfold isDig at hb
  have e:UInt8.ofNat (48+(b.toNat-48))=b:=UInt8.toNat_inj.1 (by rw[UInt8.toNat_ofNat',Nat.mod_eq_of_lt (by omega)];omega)
  by_cases hz:b=48
  ·have hr:r= []:=by
    have:=h0 (by rw[hz];rfl)
    rw[List.length_cons]at this
    exact List.length_eq_zero_iff.1 (by omega)
   rw[hr,hz]
   show Lib.decDigits 0=_
   rw[Lib.decDigits,dif_pos (by omega)]
   rfl
  ·have hz2:b.toNat≠48:=fun e=>hz (UInt8.toNat_inj.1 e)
   rw[dVal,dec_val r _ (by omega) fun x hx=>h x (List.mem_cons_of_mem _ hx),Lib.decDigits,dif_pos (by omega),show 0*10+(b.toNat-48)=b.toNat-48 by omega,e]
   rfl
theorem head_itoa (n:Int):n<0∧(Lib.itoa n).head? =some 45∨0≤n∧∃b,(Lib.itoa n).head? =some b∧isDig b:=by
 unfold Lib.itoa
 split
 ·exact .inl ⟨by assumption,rfl⟩
 ·refine .inr ⟨by omega,?_⟩
  cases hd:Lib.decDigits n.toNat with
  | nil=>exact absurd hd (dec_ne _)
  | cons b r=>exact⟨b,rfl,dec_dig n.toNat b (by rw[hd];exact List.mem_cons_self)⟩
theorem dec_pos {u:Nat} (hu:0<u):(Lib.decDigits u).head?≠some 48:=by
 induction u using Nat.strongRecOn with
 | ind u ih=>
  by_cases h:u<10
  ·rw[Lib.decDigits,dif_pos h]
   intro e
   have e2:UInt8.ofNat (48+u)=48:=Option.some.inj e
   have e3:=congrArg UInt8.toNat e2
   rw[UInt8.toNat_ofNat',Nat.mod_eq_of_lt (by omega)]at e3
   have:(48:UInt8).toNat=48:=rfl
   omega
  ·rw[Lib.decDigits,dif_neg h]
   have:=ih (u/10) (by omega) (by omega)
   cases hd:Lib.decDigits (u/10)with
   | nil=>exact absurd hd (dec_ne _)
   | cons b r=>
    rw[hd]at this
    exact this
theorem rNumber_some {s:List UInt8} {n:Int} {k:Nat} (h:rNumber s=(n,k)) (hk:k≠0):s.take k=Lib.itoa n∧(∀b,(s.drop k).head? =some b→b=32)∧k≤s.length∧k≤12:=by
 unfold rNumber at h
 simp only at h
 obtain⟨h1,h2,h3,h4,h5⟩:=rDig_spec 11 (rBody s) 0
 generalize hd:rDig 11 (rBody s) ((0:Nat):Int)=d at h1 h2 h3 h4 h5
 rw[show rDig 11 (rBody s) 0=d from hd]at h
 split at h
 ·cases h
  exact absurd rfl hk
 ·rename_i hc
  rw[not_or,not_or]at hc
  obtain⟨c1,c2,c3⟩:=hc
  have hnil:(rBody s).take d.2≠ []:=fun e=>by
   have:=congrArg List.length e
   rw[List.length_take,List.length_nil]at this
   omega
  have hhd:((rBody s).take d.2).head? =(rBody s).head? :=by
   cases hs:rBody s with
   | nil=>rw[List.take_nil]
   | cons b r=>
    cases hd2:d.2 with
    | zero=>exact absurd hd2 c1
    | succ m=>rfl
  have hdec:Lib.decDigits (dVal ((rBody s).take d.2) 0)=(rBody s).take d.2:=dec_one _ h2 hnil fun e=>by
   rw[hhd]at e
   rw[List.length_take]
   have: ¬1<d.2:=fun hlt=>c2 ⟨e,.inl hlt⟩
   omega
  have hsp: ∀b,((rBody s).drop d.2).head? =some b→b=32:=fun b hb=>Classical.byContradiction fun hne=>c3 ⟨b,hb,hne⟩
  injection h with e1 e2
  cases hsg:rSign s with
  | true=>
   rw[hsg,if_pos rfl]at e1 e2
   have hb:rBody s=s.drop 1:=by unfold rBody;rw[hsg,if_pos rfl]
   have hs: ∃r,s=45::r:=by
    unfold rSign at hsg
    cases s with
    | nil=>cases hsg
    | cons b r=>
     have:=of_decide_eq_true hsg
     rw[List.head?_cons,Option.some.injEq]at this
     exact⟨r,by rw[this]⟩
   obtain⟨r,rfl⟩:=hs
   rw[show(45::r:List UInt8).drop 1=r from rfl]at hb
   rw[hb]at hdec hsp h1 c2 hnil h4
   have hne:d.1≠0:=fun e0=>by
    rw[e0]at h1
    have h48:(r.take d.2).head? =some 48:=by
     rw[←hdec,show dVal (r.take d.2) 0=0 by omega,Lib.decDigits,dif_pos (by omega)]
     rfl
    rw[hb]at hhd
    exact c2 ⟨hhd▸h48,.inr hsg⟩
   subst e1 e2
   refine⟨?_,?_,by rw[List.length_cons];omega,by omega⟩
   ·rw[List.take_succ_cons,Lib.itoa,if_pos (by omega)]
    rw[show(-d.1).natAbs=dVal (r.take d.2) 0 by omega,hdec]
   ·rw[List.drop_succ_cons]
    exact hsp
  | false=>
   rw[hsg,if_neg (by decide)]at e1
   rw[hsg,if_neg (by decide),Nat.add_zero]at e2
   have hb:rBody s=s:=by unfold rBody;rw[hsg,if_neg (by decide)]
   rw[hb]at hdec hsp h1 h4
   subst e1 e2
   refine⟨?_,hsp,h4,by omega⟩
   rw[Lib.itoa,if_neg (by omega),show d.1.toNat=dVal (s.take d.2) 0 by omega,hdec]
theorem rDig_dec: ∀(l:List UInt8) (f:Nat) (r:List UInt8) (n:Nat),(∀b∈l,isDig b)→l.length≤f→(∀b,r.head? =some b→¬isDig b)→rDig f (l++r) n=(((dVal l n:Nat):Int),l.length)
 | [],f,r,n,_,_,hr=>by
  cases f with
  | zero=>rfl
  | succ f=>
   cases r with
   | nil=>rfl
   | cons b r=>
    rw[List.nil_append,rDig,if_neg (show¬(48≤b.toNat∧b.toNat≤57)from hr b rfl)]
    rfl
 | x::l,f,r,n,h,hf,hr=>by
  have hx:=h x List.mem_cons_self
  cases f with
  | zero=>cases hf
  | succ f=>
   rw[List.cons_append,rDig,if_pos (show 48≤x.toNat∧x.toNat≤57 from hx),show((n:Int)*10+(x.toNat:Int)-48)=((n*10+(x.toNat-48):Nat):Int) by unfold isDig at hx;omega,
    rDig_dec l f r _ (fun b hb=>h b (List.mem_cons_of_mem _ hb)) (by rw[List.length_cons]at hf;omega) hr]
   rfl
theorem dec_val0 (u:Nat):dVal (Lib.decDigits u) 0=u:=by
 induction u using Nat.strongRecOn with
 | ind u ih=>
  by_cases h:u<10
  ·rw[Lib.decDigits,dif_pos h,dVal,dVal,UInt8.toNat_ofNat',Nat.mod_eq_of_lt (by omega)]
   omega
  ·rw[Lib.decDigits,dif_neg h,dVal_app,ih (u/10) (by omega),dVal,dVal,UInt8.toNat_ofNat',Nat.mod_eq_of_lt (by omega)]
   omega
theorem rNumber_itoa {n:Int} {r:List UInt8} (h:(Lib.decDigits n.natAbs).length≤11) (hr: ∀b,r.head? =some b→b=32):rNumber (Lib.itoa n++r)=(n,(Lib.itoa n).length):=by
 have hr2: ∀b,r.head? =some b→¬isDig b:=fun b hb=>by
  rw[hr b hb]
  exact fun h=>absurd h.1 (by decide)
 have hne:=dec_ne n.natAbs
 have hl0:(Lib.decDigits n.natAbs).length≠0:=fun e=>hne (List.length_eq_zero_iff.1 e)
 have hdd:=rDig_dec (Lib.decDigits n.natAbs) 11 r 0 (dec_dig _) h hr2
 rw[dec_val0]at hdd
 have hdr:(Lib.decDigits n.natAbs++r).drop (Lib.decDigits n.natAbs).length=r:=List.drop_left
 by_cases hn:n<0
 ·have hit:Lib.itoa n=45::Lib.decDigits n.natAbs:=by unfold Lib.itoa;rw[if_pos hn]
  have hsg:rSign (Lib.itoa n++r)=true:=by rw[hit];rfl
  have hb:rBody (Lib.itoa n++r)=Lib.decDigits n.natAbs++r:=by unfold rBody;rw[hsg,if_pos rfl,hit];rfl
  unfold rNumber
  simp only
  rw[hb,show rDig 11 (Lib.decDigits n.natAbs++r) 0=_ from hdd,hsg]
  simp only
  rw[if_neg,if_pos trivial,if_pos trivial,hit,List.length_cons]
  ·congr 1
   omega
  ·rw[not_or,not_or,hdr]
   refine⟨hl0,fun hc=>?_,fun⟨b,h1,h2⟩=>h2 (hr b h1)⟩
   have:=dec_pos (u:=n.natAbs) (by omega)
   rw[head_app hne]at hc
   exact this hc.1
 ·have hit:Lib.itoa n=Lib.decDigits n.natAbs:=by unfold Lib.itoa;rw[if_neg hn];congr 1;omega
  have hsg:rSign (Lib.itoa n++r)=false:=by
   obtain⟨h1,_⟩|⟨_,b,h1,h2⟩:=head_itoa n
   ·exact absurd h1 hn
   ·unfold rSign
    rw[decide_eq_false_iff_not]
    intro e
    have hne2:Lib.itoa n≠ []:=by rw[hit];exact hne
    rw[head_app hne2,h1]at e
    rw[Option.some.inj e]at h2
    exact absurd h2.1 (by decide)
  have hb:rBody (Lib.itoa n++r)=Lib.decDigits n.natAbs++r:=by unfold rBody;rw[hsg,if_neg (by decide),hit]
  unfold rNumber
  simp only
  rw[hb,show rDig 11 (Lib.decDigits n.natAbs++r) 0=_ from hdd,hsg]
  simp only
  rw[if_neg,if_neg (by decide),if_neg (by decide),hit,Nat.add_zero]
  ·congr 1
   omega
  ·rw[not_or,not_or,hdr]
   refine⟨hl0,fun hc=>?_,fun⟨b,h1,h2⟩=>h2 (hr b h1)⟩
   rw[head_app hne]at hc
   rcases hc.2 with hlt|hf
   ·by_cases hz:n.natAbs=0
    ·rw[hz,Lib.decDigits,dif_pos (by omega)]at hlt
     exact absurd hlt (by decide)
    ·exact dec_pos (by omega) hc.1
   ·cases hf
end Go.Proofs.YtajbmjpodeilpaaGreatDoor
namespace Go.Proofs.YtajbmjpodeilpaaGreatDoor
open Go.RowKit
def Sml (n:Int):Prop:=(Lib.decDigits n.natAbs).length≤11
def listT (l:List Int):List UInt8:=(l.flatMap fun x=>Lib.itoa x++ [32])++ [48]
theorem listT_cons (n:Int) (l:List Int):listT (n::l)=Lib.itoa n++32::listT l:=by unfold listT;rw[List.flatMap_cons,List.append_assoc,List.append_assoc];rfl
theorem itoa_zero:Lib.itoa 0= [48]:=by unfold Lib.itoa;rw[if_neg (by decide),show(0:Int).toNat=0 from rfl,Lib.decDigits,dif_pos (by decide)];rfl
theorem listT_nums: ∀l:List Int,numsT l++numT 0=32::listT l
 | []=>by show numT 0=_;unfold numT;rw[itoa_zero];rfl
 | n::l=>by
  rw[listT_cons,show numsT (n::l)=numT n++numsT l from List.flatMap_cons,List.append_assoc,listT_nums l]
  rfl
theorem stepT_list (s:EStep):stepT s=Lib.itoa s.id++32::(if s.del then 100::32::listT s.hints else listT s.lits++32::listT s.hints):=by
 unfold stepT
 cases s.del with
 | true=>
  rw[if_pos rfl,if_pos rfl,List.append_assoc,List.append_assoc,listT_nums]
  rfl
 | false=>
  rw[if_neg (by decide),if_neg (by decide),listT_nums,List.append_assoc,List.append_assoc,listT_nums]
  rfl
def rList:Nat→List UInt8→Option (List Int×Nat)
 | 0,_=>none
 | f+1,s=>if s= []then none else if(rNumber s).2=0 then none else if(rNumber s).1=0 then some ([],(rNumber s).2)else
  match rList f (s.drop ((rNumber s).2+1))with
  | none=>none
  | some (l,m)=>some ((rNumber s).1::l,(rNumber s).2+1+m)
theorem list_split {α} {s:List α} {k:Nat} {a:List α} (h:s.take k=a):s=a++s.drop k:=by rw[←h,List.take_append_drop]
theorem rList_some: ∀(f:Nat) (s:List UInt8) (l:List Int) (m:Nat),rList f s=some (l,m)→s.take m=listT l∧(∀b,(s.drop m).head? =some b→b=32)∧m≤s.length∧m≠0
 | 0,s,l,m,h=>by cases h
 | f+1,s,l,m,h=>by
  rw[rList]at h
  split at h
  ·cases h
  rename_i hs
  split at h
  ·cases h
  rename_i hk
  obtain⟨n,k,hr⟩: ∃n k,rNumber s=(n,k):=⟨_,_,rfl⟩
  rw[hr]at h hk
  simp only at h hk
  obtain⟨h1,h2,h3,_⟩:=rNumber_some hr hk
  split at h
  ·rename_i hn
   cases h
   refine⟨?_,h2,h3,hk⟩
   rw[h1,hn,itoa_zero]
   rfl
  ·have hsp:=list_split h1
   have hil:(Lib.itoa n).length=k:=by rw[←h1,List.length_take];omega
   cases hd:s.drop k with
   | nil=>
    have:s.drop (k+1)= []:=by rw[←List.drop_drop,hd];rfl
    rw[this]at h
    cases f with
    | zero=>cases h
    | succ f=>
     rw[rList,if_pos rfl]at h
     cases h
   | cons b r=>
    obtain rfl:=h2 b (by rw[hd];rfl)
    have hdr:s.drop (k+1)=r:=by rw[←List.drop_drop,hd];rfl
    rw[hdr]at h
    split at h
    ·cases h
    ·rename_i l2 m2 h4
     cases h
     obtain⟨g1,g2,g3,g4⟩:=rList_some f r _ _ h4
     rw[hd]at hsp
     have hlen:s.length=k+(r.length+1):=by rw[hsp,List.length_append,hil,List.length_cons]
     refine⟨?_,?_,by omega,by omega⟩
     ·rw[hsp,listT_cons,←g1,Nat.add_assoc,←hil,List.take_length_add_append,Nat.add_comm 1 m2,List.take_succ_cons]
     ·rw[show k+1+m2=(k+1)+m2 from rfl,←List.drop_drop,hdr]
      exact g2
theorem rList_ok: ∀(l:List Int) (f:Nat) (r:List UInt8),l.length<f→(∀x∈l,x≠0∧Sml x)→(∀b,r.head? =some b→b=32)→rList f (listT l++r)=some (l,(listT l).length)
 | [],f,r,hf,_,hr=>by
  cases f with
  | zero=>cases hf
  | succ f=>
   have hn:rNumber (listT []++r)=(0,1):=by
    have:=rNumber_itoa (n:=0) (r:=r) (by rw[show(0:Int).natAbs=0 from rfl,Lib.decDigits,dif_pos (by decide)];decide) hr
    rw[itoa_zero]at this
    exact this
   rw[rList,if_neg (fun e=>by cases e),hn]
   rfl
 | n::l,f,r,hf,hl,hr=>by
  cases f with
  | zero=>cases hf
  | succ f=>
   have hx:=hl n List.mem_cons_self
   have hn:rNumber (listT (n::l)++r)=(n,(Lib.itoa n).length):=by
    rw[listT_cons,List.append_assoc]
    exact rNumber_itoa hx.2 fun b hb=>(Option.some.inj hb).symm
   have hi0:(Lib.itoa n).length≠0:=fun e=>by
    have:=List.length_eq_zero_iff.1 e
    obtain⟨_,h⟩|⟨_,b,h,_⟩:=head_itoa n <;> rw[this]at h <;> cases h
   have hdr:(listT (n::l)++r).drop ((Lib.itoa n).length+1)=listT l++r:=by
    rw[listT_cons,List.append_assoc,←List.drop_drop,List.drop_left]
    rfl
   rw[rList,if_neg (fun e=>by
    rw[listT_cons,List.append_assoc]at e
    exact hi0 (by rw[(List.append_eq_nil_iff.1 e).1];rfl)),hn]
   simp only
   rw[if_neg hi0,if_neg hx.1,hdr,rList_ok l f r (by rw[List.length_cons]at hf;omega) (fun x h=>hl x (List.mem_cons_of_mem _ h)) hr]
   simp only
   rw[listT_cons,List.length_append,List.length_cons]
   congr 2
   omega
def rFin (del:Bool) (n:Int) (l:List Int) (r:List UInt8):Option EStep:=match rList (r.length+1) r with
 | none=>none
 | some (h,m)=>if m<r.length then none else if stepB ⟨del,n,l,h⟩=true then some ⟨del,n,l,h⟩else none
def rRest (n:Int) (r:List UInt8):Option EStep:=
 if 1<r.length∧r[0]? =some 100∧r[1]? =some 32 then rFin true n [] (r.drop 2)
 else match rList (r.length+1) r with
  | none=>none
  | some (l,m)=>if m=r.length then none else rFin false n l (r.drop (m+1))
def rParse (s:List UInt8):Option EStep:=if(rNumber s).2=0∨(rNumber s).2=s.length then none else rRest (rNumber s).1 (s.drop ((rNumber s).2+1))
theorem rFin_some {del:Bool} {n:Int} {l:List Int} {r:List UInt8} {s:EStep} (h:rFin del n l r=some s):stepB s=true∧s.del=del∧s.id=n∧s.lits=l∧r=listT s.hints:=by
 unfold rFin at h
 split at h
 ·cases h
 ·rename_i hs m hl
  obtain⟨h1,h2,h3,_⟩:=rList_some _ _ _ _ hl
  split at h
  ·cases h
  ·split at h
   ·rename_i hb
    cases h
    refine⟨hb,rfl,rfl,rfl,?_⟩
    rw[←h1,List.take_of_length_le (by omega)]
   ·cases h
theorem two_heads {r:List UInt8} {a b:UInt8} (h0:r[0]? =some a) (h1:r[1]? =some b):r=a::b::r.drop 2:=by
 cases r with
 | nil=>cases h0
 | cons x r=>
  cases r with
  | nil=>cases h1
  | cons y r=>
   obtain rfl:=Option.some.inj h0
   obtain rfl:=Option.some.inj h1
   rfl
theorem rParse_some {t:List UInt8} {s:EStep} (h:rParse t=some s):stepB s=true∧stepT s=t:=by
 unfold rParse at h
 split at h
 ·cases h
 rename_i hk
 rw[not_or]at hk
 obtain⟨n,k,hr⟩: ∃n k,rNumber t=(n,k):=⟨_,_,rfl⟩
 rw[hr]at h hk
 simp only at h hk
 obtain⟨h1,h2,h3,_⟩:=rNumber_some hr hk.1
 have hsp:=list_split h1
 cases hdk:t.drop k with
 | nil=>
  have:=congrArg List.length hdk
  rw[List.length_drop,List.length_nil]at this
  omega
 | cons b r=>
  obtain rfl:=h2 b (by rw[hdk];rfl)
  have hdr:t.drop (k+1)=r:=by rw[←List.drop_drop,hdk];rfl
  rw[hdr]at h
  rw[hdk]at hsp
  unfold rRest at h
  split at h
  ·rename_i hc
   obtain⟨g1,g2,g3,g4,g5⟩:=rFin_some h
   refine⟨g1,?_⟩
   rw[stepT_list,g2,if_pos rfl,g3,←g5,←two_heads hc.2.1 hc.2.2]
   exact hsp.symm
  ·split at h
   ·cases h
   ·rename_i l m hl
    obtain⟨e1,e2,e3,e4⟩:=rList_some _ _ _ _ hl
    split at h
    ·cases h
    ·rename_i hm
     obtain⟨g1,g2,g3,g4,g5⟩:=rFin_some h
     refine⟨g1,?_⟩
     rw[stepT_list,g2,if_neg (by decide),g3,g4,←g5,←e1]
     have hsp2:=list_split (rfl:r.take m=r.take m)
     cases hdm:r.drop m with
     | nil=>
      have:=congrArg List.length hdm
      rw[List.length_drop,List.length_nil]at this
      omega
     | cons b2 r2=>
      obtain rfl:=e2 b2 (by rw[hdm];rfl)
      have hdr2:r.drop (m+1)=r2:=by rw[←List.drop_drop,hdm];rfl
      rw[hdr2,←hdm,List.take_append_drop]
      exact hsp.symm
theorem listT_head (l:List Int): ∃b,(listT l)[0]? =some b∧b≠100:=by
 cases l with
 | nil=>exact⟨48,rfl,by decide⟩
 | cons n l=>
  rw[listT_cons]
  obtain⟨_,h⟩|⟨_,b,h,hb⟩:=head_itoa n
  ·refine⟨45,?_,by decide⟩
   cases hi:Lib.itoa n with
   | nil=>rw[hi]at h;cases h
   | cons x r=>rw[hi]at h;exact h
  ·refine⟨b,?_,fun e=>?_⟩
   ·cases hi:Lib.itoa n with
    | nil=>rw[hi]at h;cases h
    | cons x r=>rw[hi]at h;exact h
   ·rw[e]at hb
    exact absurd hb.2 (by decide)
theorem listT_len: ∀l:List Int,l.length<(listT l).length
 | []=>by decide
 | n::l=>by
  rw[listT_cons,List.length_append,List.length_cons,List.length_cons]
  have:=listT_len l
  omega
theorem rFin_ok {s:EStep} (hb:stepB s=true) (hh: ∀x∈s.hints,x≠0∧Sml x):rFin s.del s.id s.lits (listT s.hints)=some s:=by
 unfold rFin
 have h:=rList_ok s.hints ((listT s.hints).length+1) [] (by have:=listT_len s.hints;omega) hh (fun b h=>by cases h)
 rw[List.append_nil]at h
 rw[h]
 simp only
 rw[if_neg (Nat.lt_irrefl _),if_pos hb]
theorem rParse_ok {s:EStep} (hb:stepB s=true) (hi:Sml s.id) (hl: ∀x∈s.lits,x≠0∧Sml x) (hh: ∀x∈s.hints,x≠0∧Sml x) (hd:s.del=true→s.lits= []):rParse (stepT s)=some s:=by
 obtain⟨R,hR⟩: ∃R,(if s.del then 100::32::listT s.hints else listT s.lits++32::listT s.hints)=R:=⟨_,rfl⟩
 have hst:stepT s=Lib.itoa s.id++32::R:=by rw[stepT_list,hR]
 have hn:rNumber (stepT s)=(s.id,(Lib.itoa s.id).length):=by
  rw[hst]
  exact rNumber_itoa hi fun b hb=>(Option.some.inj hb).symm
 have hi0:(Lib.itoa s.id).length≠0:=fun e=>by
  have:=List.length_eq_zero_iff.1 e
  obtain⟨_,h⟩|⟨_,b,h,_⟩:=head_itoa s.id <;> rw[this]at h <;> cases h
 have hdr:(stepT s).drop ((Lib.itoa s.id).length+1)=R:=by
  rw[hst,←List.drop_drop,List.drop_left]
  rfl
 unfold rParse
 rw[hn]
 simp only
 rw[if_neg (by
  rw[not_or,hst,List.length_append,List.length_cons]
  exact⟨hi0,by omega⟩),hdr]
 unfold rRest
 have hfin:=rFin_ok hb hh
 cases hdl:s.del with
 | true=>
  rw[hdl,if_pos rfl]at hR
  rw[←hR,if_pos ⟨by rw[List.length_cons,List.length_cons];omega,rfl,rfl⟩]
  rw[hdl,hd hdl]at hfin
  exact hfin
 | false=>
  rw[hdl,if_neg (by decide)]at hR
  rw[hdl]at hfin
  obtain⟨b,h1,h2⟩:=listT_head s.lits
  have hl0:=listT_len s.lits
  have hR0:R[0]? =some b:=by rw[←hR,List.getElem?_append_left (by omega)];exact h1
  rw[if_neg (fun hc=>h2 (Option.some.inj (hR0.symm.trans hc.2.1))),←hR]
  have hlen:s.lits.length<(listT s.lits++32::listT s.hints).length+1:=by rw[List.length_append];omega
  rw[rList_ok s.lits _ (32::listT s.hints) hlen hl fun b hb=>(Option.some.inj hb).symm]
  simp only
  rw[if_neg (by rw[List.length_append,List.length_cons];omega),←List.drop_drop,List.drop_left]
  exact hfin
theorem dec_len: ∀(k u:Nat),u<10^(k+1)→(Lib.decDigits u).length≤k+1
 | 0,u,h=>by
  rw[Lib.decDigits,dif_pos (by simpa using h)]
  exact Nat.le_refl _
 | k+1,u,h=>by
  by_cases hu:u<10
  ·rw[Lib.decDigits,dif_pos hu,List.length_singleton]
   omega
  ·rw[Lib.decDigits,dif_neg hu,List.length_append,List.length_singleton]
   have:=dec_len k (u/10) (by rw[Nat.pow_succ]at h;omega)
   omega
theorem sml_of {n:Int} (h0: -1073741824≤n) (h1:n≤1073741824):Sml n:=by
 have:=dec_len 9 n.natAbs (by omega)
 unfold Sml
 omega
theorem stepB_prts {s:EStep} (h:stepB s=true):(0≤s.id∧s.id≤1073741824)∧(s.del=true→s.lits= [])∧(∀x∈s.lits,x≠0∧ -1048576≤x∧x≤1048576)∧s.hints.length≤65536∧∀x∈s.hints,x≠0∧ -1073741824≤x∧x≤1073741824:=by
 unfold stepB at h
 simp only[Bool.and_eq_true,Bool.not_eq_true',Bool.or_eq_false_iff,decide_eq_false_iff_not,decide_eq_true_eq,Bool.and_eq_false_iff]at h
 obtain⟨⟨⟨⟨h1,h2⟩,_⟩,h3⟩,⟨hc,h4⟩,h5⟩:=h
 refine⟨by omega,fun hd=>?_,fun x hx=>?_,h4,fun x hx=>?_⟩
 ·rcases h3 with h3|h3
  ·rw[hd]at h3;cases h3
  ·exact List.length_eq_zero_iff.1 (by omega)
 ·unfold clauseB at hc
  rw[Bool.and_eq_true]at hc
  have:=(litB_iff x).1 (List.all_eq_true.1 hc.2 x hx)
  omega
 ·have:=List.any_eq_false.1 h5 x hx
  simp only[Bool.or_eq_true,decide_eq_true_eq,Bool.and_eq_true,not_or]at this
  omega
theorem parse_step2 {s:EStep} (h:stepB s=true):parseF (stepT s)=some s:=by
 obtain⟨h1,h2,h3,_,h5⟩:=stepB_prts h
 exact parse_step h ⟨by omega,by omega⟩ (fun x hx=>⟨⟨by have:=h3 x hx;omega,by have:=h3 x hx;omega⟩,(h3 x hx).1⟩) (fun x hx=>⟨⟨by have:=h5 x hx;omega,by have:=h5 x hx;omega⟩,(h5 x hx).1⟩) h2
theorem parseF_some {t:List UInt8} {s:EStep} (h:parseF t=some s):stepB s=true∧stepT s=t:=by
 unfold parseF at h
 split at h
 ·rename_i hc
  obtain rfl:=Option.some.inj h
  exact⟨hc.2.2.1,hc.2.2.2⟩
 ·cases h
theorem rParse_eq (t:List UInt8):rParse t=parseF t:=by
 cases h:rParse t with
 | some s=>
  obtain⟨h1,h2⟩:=rParse_some h
  rw[←h2,parse_step2 h1]
 | none=>
  cases h2:parseF t with
  | none=>rfl
  | some s=>
   obtain⟨g1,g2⟩:=parseF_some h2
   obtain⟨e1,e2,e3,_,e5⟩:=stepB_prts g1
   rw[←g2,rParse_ok g1 (sml_of (by omega) (by omega)) (fun x hx=>⟨(e3 x hx).1,sml_of (by have:=e3 x hx;omega) (by have:=e3 x hx;omega)⟩) (fun x hx=>⟨(e5 x hx).1,sml_of (e5 x hx).2.1 (e5 x hx).2.2⟩) e2]at h
   cases h
end Go.Proofs.YtajbmjpodeilpaaGreatDoor
