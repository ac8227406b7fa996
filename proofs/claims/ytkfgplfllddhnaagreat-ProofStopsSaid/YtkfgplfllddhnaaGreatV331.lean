/- The examples of chapter 10: awake. IndexFunc at steps; what is resolved: plain. package salvorlaw10: ProofResolves. slices.Clone at steps that a program built; plain: what comes behind a proof. -/
import Derived.Test.YtkfgplfllddhnaaGreatV328
import Derived.Test.YtkfgplfllddhnaaGreatV330
import Derived.Test.YtkfgplfllddhnaaGreatV326
import Derived.Test.YtkfgplfllddhnaaGreatV327
namespace Go.Proofs.YtkfgplfllddhnaaGreat
open Go.RowKit
theorem trim_ex:TrimEx:=by
 intro O Os lv sv w h hs
 refine(proof_trim 2 _ _ fourC exM w h four_ok.1 (by decide) four_ok.2 hs (by decide) (by decide)).mono ?_
 rintro e w' ⟨ht,hb⟩
 unfold TrimOut at ht
 rw[ex_run,if_neg (fun h=>h rfl),ex_trm,if_neg (fun h=>by cases h)]at ht
 obtain⟨v,K,rfl,hK,hm⟩:=ht
 rw[ex_bk]at hK
 have hl:K.length=2:=by simpa using congrArg List.length hK
 obtain⟨x,y,rfl⟩: ∃x y,K= [x,y]:=by
  rcases K with _|⟨x,_|⟨y,_|⟨z,r⟩⟩⟩
  ·cases hl
  ·cases hl
  ·exact⟨x,y,rfl⟩
  ·simp at hl
 have hx:x.1=⟨false,6,[2],[1,2]⟩:=(List.cons.inj hK).1
 obtain⟨g,c,rfl⟩:=ownsRow_succ hm.row
 obtain⟨-,e1,-,-⟩:=stcell_at [x,y] 0 x rfl
 have:=mx_at hm.row e1
 rw[hx]at this
 exact⟨g,c,rfl,this,hb⟩
theorem awake10_any (w:World):Calls Tryz.prog 8 #[] w fun e w'=>e= .returned (.bool true)∧Below w.heap.size w w':=awake10_core trim_ex w
end Go.Proofs.YtkfgplfllddhnaaGreat
namespace Go.Proofs.YtkfgplfllddhnaaGreat
open Go.RowKit
def TellsS (O:Nat→Prop) (w:World) (F:Nat) (caps:Array Value) (ss:List EStep) (P:EStep→Bool):Prop:= ∀W,Below w.heap.size w W→∀ul uh s,s∈ss→IntsIn O W ul s.lits→IntsIn O W uh s.hints→Calls Tryz.prog F (#[.agg #[.bool s.del,.int .i64 s.id,ul,uh]]++caps) W fun e w'=>e= .returned (.bool (P s))∧Below W.heap.size W w'
theorem made_six (xss:List (List Int)): ∀c∈(xss.take 14).map madeL,Lit6 c:=fun c hc=>by
 obtain⟨xs,_,rfl⟩:=List.mem_map.1 hc
 unfold madeL
 refine⟨?_,fun y hy=>?_⟩
 ·rw[List.length_map,List.length_take]
  omega
 ·obtain⟨x,_,rfl⟩:=List.mem_map.1 hy
  obtain⟨h1,h2⟩:=madeLit_rng x
  have hb:litB (madeLit x)=true:=(litB_iff _).2 (by omega)
  exact⟨hb,by have:=(litV_pos hb).2;omega⟩
theorem lit6_fgo: ∀(cs:List (List Int)) (i:Nat),(∀c∈cs,Lit6 c)→fchkGo 6 i cs=(-1,0)
 | [],_,_=>rfl
 | c::r,i,h=>by
  have hc:=h c List.mem_cons_self
  unfold fchkGo
  rw[if_neg (by rw[hc.clause];decide),if_neg (by
   rw[show c.any (beyB 6)=false from List.any_eq_false.2 fun y hy=>by
    obtain⟨h1,h2⟩:=hc.2 y hy
    unfold beyB
    rw[h1,decide_eq_false (by omega)]
    decide]
   decide)]
  exact lit6_fgo r (i+1) fun d hd=>h d (List.mem_cons_of_mem _ hd)
theorem lit6_fchk {cs:List (List Int)} (h: ∀c∈cs,Lit6 c) (hn:cs.length≤1000):fchk 6 cs=(-1,0):=by
 unfold fchk
 rw[if_neg (by decide),if_neg (by omega)]
 exact lit6_fgo cs 0 h
end Go.Proofs.YtkfgplfllddhnaaGreat
namespace Go.Proofs.YtkfgplfllddhnaaGreat
open Go.RowKit
theorem rep_parts {k:Ckr} {a:Bool} {b c d e:Int} (h:k.rep= .agg #[.bool a,.int .i64 b,.int .i64 c,.int .i64 d,.int .i64 e]):a=k.proved∧b=k.adds∧c=k.dels∧d=k.rats∧e=k.largest:=by
 unfold Ckr.rep at h
 simp only[Value.agg.injEq,Array.mk.injEq,List.cons.injEq,Value.bool.injEq,Value.int.injEq,true_and,and_true]at h
 obtain⟨h1,h2,h3,h4,h5⟩:=h
 exact⟨h1.symm,h2.symm,h3.symm,h4.symm,h5.symm⟩
theorem repZ_parts {a:Bool} {b c d e:Int} (h:repZ= .agg #[.bool a,.int .i64 b,.int .i64 c,.int .i64 d,.int .i64 e]):a=false∧b=0∧c=0∧d=0∧e=0:=by
 unfold repZ at h
 simp only[Value.agg.injEq,Array.mk.injEq,List.cons.injEq,Value.bool.injEq,Value.int.injEq,true_and,and_true]at h
 obtain⟨h1,h2,h3,h4,h5⟩:=h
 exact⟨h1.symm,h2.symm,h3.symm,h4.symm,h5.symm⟩
theorem run_true {k:Ckr} {m:Nat} (hp:k.proved=true):runE (k,m,0)=0∧runRep (k,m,0)=k.rep:=by
 have e:runE (k,m,0)=0:=by
  unfold runE
  rw[if_neg (fun h=>h rfl),if_pos hp]
 exact⟨e,by unfold runRep;rw[if_pos e]⟩
theorem run_false {k:Ckr} {m:Nat} (hp:k.proved=false):runE (k,m,0)=101∧runRep (k,m,0)=repZ:=by
 have e:runE (k,m,0)=101:=by
  unfold runE
  rw[if_neg (fun h=>h rfl),if_neg (by rw[hp];decide)]
 exact⟨e,by unfold runRep;rw[if_neg (by rw[e];decide)]⟩
end Go.Proofs.YtkfgplfllddhnaaGreat
namespace Go.Proofs.YtkfgplfllddhnaaGreat
open Go.RowKit
theorem stcell_one (K:List StV): ∀u∈K.flatMap stcell,u.oneCell'=true:=fun u hu=>by
 obtain⟨x,_,h⟩:=List.mem_flatMap.1 hu
 simp only[stcell,List.mem_cons,List.not_mem_nil,or_false]at h
 rcases h with h|h|h|h <;> rw[h] <;> rfl
set_option maxRecDepth 100000 in
set_option maxHeartbeats 2000000 in
theorem clone_st {n0:Nat} (v:Value) (K:List StV) (w:World) (h:StMem n0 w v K) (hk:K.length≤100000):
  Calls Tryz.prog 22 #[v] w fun e w'=> ∃v',e= .returned v'∧w'.ownsRow w.heap.size 39 4 v' K.length (K.flatMap stcell)∧Below w.heap.size w w':=by
 obtain⟨si,hsi,sz0,sz1,sz2⟩:=info_parts stinfo
 have hrow:=h.row
 rcases hrow.2 with⟨rfl,h0⟩|⟨g,cap,cur,rfl,hb,hg,hle,_⟩
 ·have hK:K= []:=List.eq_nil_of_length_eq_zero h0
  subst hK
  have hq:=fun w=>Lib.run_eql_slice_nil (P:=Tryz.prog) w 47 39 none 0 0 0 0 Tryz.underlying47
  clear h hrow
  go_enter Tryz.func22,Tryz.ntmps22
  go_wp2
  go_ret
  exact⟨_,rfl,World.ownsRow_nil _ _ _ _,Below.refl _ _⟩
 ·have hq:=fun w=>Lib.run_eql_slice_nil (P:=Tryz.prog) w 47 39 (some ⟨g,0,none⟩) K.length cap 0 0 Tryz.underlying47
  have hnews: ∀j u,(K.flatMap stcell)[j]? =some u→(w.alloc (.cells #[] 39)).cell? ((⟨g,0,none⟩:Addr).add j)=some u:=fun j u hj=>by
   have h0:=mx_at hrow hj
   have e:(⟨g,0,none⟩:Addr).add j=⟨g,j,none⟩:=by
    unfold Addr.add
    split
    ·rename_i e;rw[e]
    ·simp
   rw[e]
   exact((mx_al w _).cell (World.block_lt_of_cell? w _ h0)).trans h0
  have HN:=Lib.hid hnews
  have h0:(w.alloc (.cells #[] 39)).ownsRow w.heap.size 39 4 (.slice (some ⟨w.heap.size,0,none⟩) 0 0) 0 []:=⟨rfl,.inr ⟨w.heap.size,0,#[],rfl,Nat.le_refl _,World.alloc_heap_new _ _,Nat.le_refl _,Nat.zero_le _,rfl,rfl⟩⟩
  have H0:=Lib.hid h0
  clear hnews h0 h hrow hb hg
  go_enter Tryz.func22,Tryz.ntmps22
  go_wp2_with (at_builtin;go_must (refine wpList_append_own_at _ rfl _ _ 47 rfl w.heap.size 39 si (.agg #[.bool false,.int .i64 0,.slice none 0 0,.slice none 0 0]) 4 64 Tryz.underlying47 hsi sz0 sz1 sz2 rfl (by decide) _ _ _ rfl H0.out ⟨g,0,none⟩ K.length cap (K.flatMap stcell) rfl (stcell_len K) HN.out (stcell_one K) (by unfold maxLen;omega) (by omega) (by simp) ?_);intro v' w1 hown hgrow hnl hat)
  go_ret
  have hB:Below w.heap.size w w1:=((Below.refl w.heap.size w).alloc (Nat.le_refl _) (.cells #[] 39)).grown hgrow (by simp) (fun g hg=>by cases hg;exact Nat.le_refl _)
  exact⟨_,rfl,by simpa using hown,hB⟩
theorem runGo_cons (k:Ckr) (s:EStep) (r:List EStep) (n:Nat):runGo k (s::r) n=if k.proved=true then(k,n,0)else if(k.do_ s).2.2.2≠0 then((k.do_ s).1,n,(k.do_ s).2.2.2)else runGo (k.do_ s).1 r (n+1):=rfl
theorem runGo_snoc (s:EStep): ∀(l:List EStep) (k:Ckr) (n:Nat),runGo k (l++ [s]) n=if(runGo k l n).2.2≠0∨(runGo k l n).1.proved=true then runGo k l n else runGo (runGo k l n).1 [s] (runGo k l n).2.1
 | [],k,n=>by
  show runGo k [s] n=if(0:Nat)≠0∨k.proved=true then(k,n,0)else runGo k [s] n
  by_cases hp:k.proved=true
  ·rw[if_pos (.inr hp)]
   unfold runGo
   rw[if_pos hp]
  ·rw[if_neg (by rintro (h|h);exact h rfl;exact hp h)]
 | x::l,k,n=>by
  rw[List.cons_append,runGo_cons k x (l++ [s]) n,runGo_cons k x l n]
  by_cases hp:k.proved=true
  ·rw[if_pos hp,if_pos hp,if_pos (.inr hp)]
  ·rw[if_neg hp,if_neg hp]
   by_cases he:(k.do_ x).2.2.2≠0
   ·rw[if_pos he,if_pos he,if_pos (.inl he)]
   ·rw[if_neg he,if_neg he]
    exact runGo_snoc s l _ _
theorem own_steps {n0:Nat} {w:World} {v:Value} {KR:List (EStep×Value×Value)} (h:w.ownsRow n0 39 4 v KR.length (KR.flatMap rcell)) (hx: ∀x∈KR,IntsIn (fun _=>True) w x.2.1 x.1.lits∧IntsIn (fun _=>True) w x.2.2 x.1.hints):StepIn (fun _=>True) w v (KR.map Prod.fst):=by
 rcases h.2 with⟨rfl,h0⟩|⟨g,cap,cur,rfl,hb,hg,hle,_⟩
 ·exact⟨none,0,by rw[List.length_map,h0],by rw[List.length_map,h0];exact Nat.le_refl _,fun _=>rfl,fun i p hi=>by
   have:=(List.getElem?_eq_some_iff.1 hi).1
   rw[List.length_map]at this
   omega⟩
 ·refine⟨_,cap,by rw[List.length_map],by rw[List.length_map];exact hle,(fun h=>by cases h),fun i p hi=>?_⟩
  rw[List.getElem?_map]at hi
  cases hk:KR[i]? with
  | none=>rw[hk]at hi;cases hi
  | some x=>
   rw[hk]at hi
   obtain rfl:=Option.some.inj hi
   obtain⟨e0,e1,e2,e3⟩:=rcell_at KR i x hk
   obtain⟨h1,h2⟩:=hx x (List.mem_of_getElem? hk)
   exact⟨g,0,x.2.1,x.2.2,rfl,heap_lt hg,trivial,by rw[Nat.zero_add];exact mx_at h e0,by rw[Nat.zero_add];exact mx_at h e1,by rw[Nat.zero_add];exact mx_at h e2,by rw[Nat.zero_add];exact mx_at h e3,h1,h2⟩
def toR (x:StV):EStep×Value×Value:=(x.1,.slice x.2.1.1 x.1.lits.length x.2.1.2,.slice x.2.2.1 x.1.hints.length x.2.2.2)
theorem toR_cells: ∀K:List StV,(K.map toR).flatMap rcell=K.flatMap stcell
 | []=>rfl
 | x::K=>by
  rw[List.map_cons,List.flatMap_cons,List.flatMap_cons,toR_cells K]
  rfl
theorem toR_fst (K:List StV):(K.map toR).map Prod.fst=K.map Prod.fst:=by
 rw[List.map_map]
 rfl
theorem own_snoc {n0 n1:Nat} {w:World} {v v0 ul uh:Value} {K:List StV} {s:EStep} (hm:StMem n1 w v0 K) (h:w.ownsRow n0 39 4 v (K.length+1) (K.flatMap stcell++ [.bool s.del,.int .i64 s.id,ul,uh])) (h1:IntsIn (fun _=>True) w ul s.lits) (h2:IntsIn (fun _=>True) w uh s.hints):StepIn (fun _=>True) w v (K.map Prod.fst++ [s]):=by
 have:=own_steps (KR:=K.map toR++ [(s,ul,uh)]) (w:=w) (v:=v) (n0:=n0) (by
  rw[List.length_append,List.length_map,List.flatMap_append,toR_cells]
  exact h) (fun x hx=>by
  rcases List.mem_append.1 hx with hx|hx
  ·obtain⟨y,hy,rfl⟩:=List.mem_map.1 hx
   exact⟨(IntsIn.of_own (hm.lit y hy)).mono fun _ _=>trivial,(IntsIn.of_own (hm.hnt y hy)).mono fun _ _=>trivial⟩
  ·rw[List.mem_singleton.1 hx]
   exact⟨h1,h2⟩)
 rw[List.map_append,toR_fst]at this
 exact this
theorem do_still {k:Ckr} (h:k.proved=true) (s:EStep):k.do_ s=(k,0,0,0):=by
 unfold Ckr.do_
 rw[if_pos h]
theorem do_at {cs:List (List Int)} {l:List EStep} {m:Nat} (hl:RupL cs l) (hc:ChkR cs l m) {i:Nat} {s:EStep} (hs:l[i]? =some s):((ckrP cs (l.take (min i m))).do_ s).2.2.2=0∧((ckrP cs (l.take (min i m))).do_ s).1=ckrP cs (l.take (min (i+1) m)):=by
 have hil:=(List.getElem?_eq_some_iff.1 hs).1
 rcases Nat.lt_or_ge i m with h|h
 ·rw[Nat.min_eq_left (Nat.le_of_lt h),Nat.min_eq_left h]
  have e:l=l.take i++s::l.drop (i+1):=by
   have h1:=List.drop_eq_getElem_cons hil
   rw[List.getElem?_eq_getElem hil]at hs
   rw[Option.some.inj hs]at h1
   rw[←h1,List.take_append_drop]
  have h2:=hl.full.step hl e (hc.pre i h)
  rw[h2]
  refine⟨rfl,?_⟩
  rw[List.take_add_one,hs]
  rfl
 ·rw[Nat.min_eq_right h,Nat.min_eq_right (by omega)]
  rw[do_still (hc.stop (by omega)) s]
  exact⟨rfl,rfl⟩
theorem run_odd {cs:List (List Int)} {l:List EStep} {m:Nat} (hc:ChkR cs l m) {s:EStep} (hs:stepB s=false):runGo (ckrNew cs) (l++ [s]) 0=if(ckrP cs (l.take m)).proved=true then(ckrP cs (l.take m),m,0)else(ckrP cs (l.take m),m,70):=by
 rw[runGo_snoc,hc.run]
 by_cases hp:(ckrP cs (l.take m)).proved=true
 ·rw[if_pos (.inr hp),if_pos hp]
 ·rw[if_neg (by rintro (h|h);exact h rfl;exact hp h),if_neg hp]
  have hd:(ckrP cs (l.take m)).do_ s=(ckrP cs (l.take m),0,0,70):=by
   unfold Ckr.do_
   rw[if_neg hp,if_pos hs]
  show runGo (ckrP cs (l.take m)) (s:: []) m=_
  rw[runGo_cons,if_neg hp,hd,if_pos (show(70:Nat)≠0 by decide)]
end Go.Proofs.YtkfgplfllddhnaaGreat
