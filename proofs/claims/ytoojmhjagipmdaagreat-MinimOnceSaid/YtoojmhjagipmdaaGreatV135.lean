/- Plain: hints that are right cover the clause that fails; with more literals there are no more; without, a decision is met that is none of the clause's. package salvorlaw14: Possible, Free. Plain: a search ends: what is learned is told apart by codes, levels are never empty; with all variables assigned the clauses hold. Plain: what a search keeps from turn to turn. AnalyzeSearch: the walk. The example of chapter 15; awake (package salvorlaw15). -/
import Derived.Test.YtoojmhjagipmdaaGreatV134
import Derived.Test.YtoojmhjagipmdaaGreatV129
import Derived.Test.YtoojmhjagipmdaaGreatV126
import Derived.Test.YtoojmhjagipmdaaGreatV127
import Derived.Test.YtoojmhjagipmdaaGreatV133
import Derived.Test.YtoojmhjagipmdaaGreatV114
namespace Go.Proofs.YtoojmhjagipmdaaGreat
open Go.RowKit
section
variable {A:Arn} {C:Int→Option (List Int)} {T:Trl} {its:List RIt}
theorem rho_low (h:Sim T its) {L:List Int} {p:Nat} {x:RIt} (hp:its[p]? =some x) {y:Int} (hy:y∈rho A T L (litV x.lit:Nat)): ∃(q:Nat) (z:RIt),its[q]? =some z∧q<p∧y= -z.lit:=by
 unfold rho at hy
 split at hy
 ·cases hy
 ·split at hy
  ·rename_i r hw
   obtain⟨h1,h2⟩:=why15_rest h hp hw y hy
   obtain⟨q,z,hq,rfl,e⟩:=h.fal h1
   rw[←e,h.rp hq]at h2
   exact⟨q,z,hq,by omega,rfl⟩
  ·cases hy
structure MtP (A:Arn) (T:Trl) (its:List RIt) (L:List Int) (p:Nat) (s:List Int×List Int):Prop where
 done: ∀(q:Nat) (x:RIt),p≤q→its[q]? =some x→((litV x.lit:Nat):Int)∈s.2→((litV x.lit:Nat):Int)∈s.1
 cl: ∀v∈s.1,∀y∈rho A T L v,((litV y:Nat):Int)∈s.2
 mono: ∀v∈s.1,v∈s.2
theorem MtP.step {L:List Int} {p:Nat} {s:List Int×List Int} (o:MtP A T its L (p+1) s) (h:Sim T its) {x:RIt} (hp:its[p]? =some x):MtP A T its L p (mStep (rho A T L) s x.lit):=by
 unfold mStep
 by_cases hm:((litV x.lit:Nat):Int)∈s.2
 ·rw[if_pos (List.contains_iff_mem.2 hm)]
  exact {
   done:=fun q z hq hz hv=>by
    by_cases e:q=p
    ·subst e
     rw[hp]at hz
     obtain rfl:=Option.some.inj hz
     exact List.mem_append_right _ (List.mem_singleton.2 rfl)
    ·rcases List.mem_append.1 hv with hv|hv
     ·exact List.mem_append_left _ (o.done q z (by omega) hz hv)
     ·obtain⟨y,hy,e2⟩:=List.mem_map.1 hv
      obtain⟨q2,z2,hq2,hlt,rfl⟩:=rho_low h hp hy
      rw[litV_negate]at e2
      have:=h.inj hz hq2 (by omega)
      omega
   cl:=fun v hv y hy=>by
    rcases List.mem_append.1 hv with hv|hv
    ·exact List.mem_append_left _ (o.cl v hv y hy)
    ·rw[List.mem_singleton.1 hv]at hy
     exact List.mem_append_right _ (List.mem_map.2 ⟨y,hy,rfl⟩)
   mono:=fun v hv=>by
    rcases List.mem_append.1 hv with hv|hv
    ·exact List.mem_append_left _ (o.mono v hv)
    ·rw[List.mem_singleton.1 hv]
     exact List.mem_append_left _ hm }
 ·rw[if_neg (fun g=>hm (List.contains_iff_mem.1 g))]
  exact { o with
   done:=fun q z hq hz hv=>by
    by_cases e:q=p
    ·subst e
     rw[hp]at hz
     obtain rfl:=Option.some.inj hz
     exact absurd hv hm
    ·exact o.done q z (by omega) hz hv }
theorem MtP.run {L:List Int} (h:Sim T its): ∀(p:Nat) (s:List Int×List Int),p≤its.length→MtP A T its L p s→MtP A T its L 0 (mRun (rho A T L) s ((its.take p).reverse.map RIt.lit)):=by
 intro p
 induction p with
 | zero=>exact fun s _ o=>o
 | succ p ih=>
  intro s hl o
  obtain⟨x,hp⟩:=getElem_of (show p<its.length by omega)
  have e:(its.take (p+1)).reverse.map RIt.lit=x.lit::(its.take p).reverse.map RIt.lit:=by
   rw[List.take_add_one,hp]
   simp
  rw[e]
  exact ih _ (by omega) (o.step h hp)
theorem MtP.begin (L c:List Int):MtP A T its L its.length ([],varsI c) where
 done:=fun q x hq hx=>by
  have:=(List.getElem?_eq_some_iff.1 hx).1
  omega
 cl:=fun v hv=>by cases hv
 mono:=fun v hv=>by cases hv
theorem fail_zero (h:Sim T its) {c:List Int} (hb:clauseB c=true) (hc: ∀y∈c,Has its (-y)):failE T c=0:=by
 unfold failE
 rw[if_neg (by rw[hb];decide),if_neg]
 intro hany
 rw[List.any_eq_true]at hany
 obtain⟨y,hy,e⟩:=hany
 obtain⟨q,x,hq,ex⟩:=hc y hy
 obtain⟨_,_,h1,_⟩:=at_fal h hq ex
 have:=of_decide_eq_true e
 omega
def openGo (T:Trl) (cs:List (List Int)) (c:List Int):List Int→List Int→Bool
 | _,[]=>false
 | ms,y::r=>if ms.contains ((litV y:Nat):Int)=false∨c.contains (-y)=true then openGo T cs c ms r else
  if T.reason (litV y:Nat)<1∨(cs.length:Int)<T.reason (litV y:Nat)then true else openGo T cs c (ms++varsI (cs.getD (T.reason (litV y:Nat)-1).toNat [])) r
end
end Go.Proofs.YtoojmhjagipmdaaGreat
namespace Go.Proofs.YtoojmhjagipmdaaGreat
open Go.RowKit
def FreeO (T:Trl) (l:Int):Prop:=(l=0∧∀v:Int,1≤v→v<7→T.val v≠0)∨(litB l=true∧litV l<7∧T.val l=0)
end Go.Proofs.YtoojmhjagipmdaaGreat
namespace Go.Proofs.YtoojmhjagipmdaaGreat
open Go.RowKit
def digL (L:List Int) (v:Int):Nat:=if v∈L then 1 else if -v∈L then 2 else 0
def codeL (L:List Int):Nat:=digL L 1+3*(digL L 2+3*(digL L 3+3*(digL L 4+3*(digL L 5+3*digL L 6))))
theorem digL_le (L:List Int) (v:Int):digL L v≤2:=by
 unfold digL
 split
 ·omega
 ·split <;> omega
theorem codeL_lt (L:List Int):codeL L<729:=by
 have:=digL_le L 1
 have:=digL_le L 2
 have:=digL_le L 3
 have:=digL_le L 4
 have:=digL_le L 5
 have:=digL_le L 6
 unfold codeL
 omega
def Lvs (T:Trl) (its:List RIt):Prop:= ∀i:Int,1≤i→i≤T.now→∃x∈its,x.level=i
theorem Lvs.pre {T T':Trl} {its its':List RIt} (h:Lvs T its) (hp:its <+: its') (hn:T'.now=T.now):Lvs T' its':=fun i h1 h2=>by
 obtain⟨x,hx,e⟩:=h i h1 (by omega)
 exact⟨x,hp.subset hx,e⟩
section
variable {cs:List (List Int)} {T:Trl} {its:List RIt} {S:Wst} {id lv:Int} {c:List Int} {x:Lrn} {R K:List Nat}
end
end Go.Proofs.YtoojmhjagipmdaaGreat
namespace Go.Proofs.YtoojmhjagipmdaaGreat
open Go.RowKit
structure SrI (cs0 ls:List (List Int)) (T:Trl) (its:List RIt) (S:Wst) (id:Int) (n:Nat):Prop where
 sr:Sr (cs0++ls) T its S id
 six:Six (cs0++ls)
 lvs:Lvs T its
 codes:(ls.map codeL).Nodup
 good: ∀L∈ls,(∀y∈L,litB y=true∧litV y<7)∧∀y∈L,-y∉L
 sat: ∀m,m<128→allT m cs0=true→allT m (cs0++ls)=true
 cnt:(n:Int)≤7*ls.length+T.now
section
variable {cs0 ls:List (List Int)} {T:Trl} {its:List RIt} {S:Wst} {id lv:Int} {n:Nat} {c:List Int} {x:Lrn} {R K:List Nat}
theorem SrI.few (h:SrI cs0 ls T its S id n):ls.length≤729:=by
 have:=List.Nodup.length_le_of_subset h.codes (l₂:=List.range 729) (fun k hk=>by
  obtain⟨L,_,rfl⟩:=List.mem_map.1 hk
  exact List.mem_range.2 (codeL_lt L))
 rwa [List.length_map,List.length_range]at this
def bitsL (ys:List Int):Nat:=ys.foldl (fun b y=>if 0<y then b ||| 2^y.toNat else b) 0
end
end Go.Proofs.YtoojmhjagipmdaaGreat
namespace Go.Proofs.YtoojmhjagipmdaaGreat
open Go.RowKit
section
variable {w0 w w':World} {lab:Nat→Nat} {sb b ab tb:Nat} {A A':Arn} {T T':Trl} {its:List RIt} {S S':Wst} {cs:List (List Int)} {av:Value} {us:List Value}
end
theorem lits_ok {cs:List (List Int)} (h:Six cs):Lits6 cs:=h.lits
end Go.Proofs.YtoojmhjagipmdaaGreat
namespace Go.Proofs.YtoojmhjagipmdaaGreat
open Go.RowKit
def e15L:List (List Int):= [[-1,2],[-1,3],[-4,5],[-5,-2,-3,-1]]
def e15A:List ActP:= [⟨true,0,0⟩,⟨false,1,0⟩,⟨false,2,1⟩,⟨false,3,2⟩,⟨true,0,0⟩,⟨false,4,0⟩,⟨false,5,3⟩]
def e15Ar:Arn:=addAll arn0 0 e15L
def e15T:Trl:=playAll (trl0 5) e15A
def e15R:RTr:=rPlayAll ⟨5,0,[],[0]⟩ e15A
theorem e15_sim:Sim e15T e15R.items:=((tsim0 5 (by decide)).playAll e15A).sim
theorem e15_len:e15R.items.length≤500000:=by decide
theorem e15_get4:e15Ar.get 4=some [-5,-2,-3,-1]:=by kernel_rfl
theorem e15_f4:e15T.failMax [-5,-2,-3,-1] 0=some 2:=by kernel_rfl
theorem e15_end:cfEnd e15Ar e15T 2 [-5,-2,-3,-1]=some ⟨[5,2,3,1],1,[-5,-3,-2,-1],[],[5,3,2,1]⟩:=by kernel_rfl
theorem e15_conf:(confP e15Ar e15T 4).1.lits= [-5,-3,-2,-1]∧(confP e15Ar e15T 4).2=0∧(confP e15Ar e15T 4).1.met= [1,2,3,5]:=by
 unfold confP
 rw[e15_get4]
 simp only[e15_f4,e15_end]
 exact⟨trivial,trivial,sortI_eq (xs:= [5,3,2,1]) (ys:= [1,2,3,5]) (by decide) (by decide)⟩
theorem e15_short:short15 e15Ar e15T [-5,-3,-2,-1]= [-5,-1]:=by kernel_rfl
theorem e15_hint:hintP e15Ar e15T [-5,-1] 4=([1,2,4],0):=by kernel_rfl
theorem e15_lv:e15T.levelsOf [-5,-1]=2:=by
 unfold Trl.levelsOf Trl.nLevels
 rw[if_pos (by decide),show e15T.lvls [-5,-1]= [2,1]from by kernel_rfl,sortI_eq (ys:= [1,2]) (by decide) (by decide)]
 rfl
theorem e15_min:minP e15Ar e15T 4=(⟨[-5,-1],1,2,[1,2,4],[1,2,3,5]⟩,0):=by
 unfold minP
 obtain⟨h1,h2,h3⟩:=e15_conf
 rw[h1,h2,h3,e15_short,e15_hint,e15_lv,show e15T.backOf [-5,-1]=1 from by kernel_rfl]
 rfl
theorem e15_two:(if failE e15T [-5,-1]=0 then decide (e15T.val (-2)<0)&&cov15 e15Ar e15T [-5,-1] (-2)else false)=true:=by kernel_rfl
theorem e15_four:(if failE e15T [-5,-1]=0 then decide (e15T.val (-4)<0)&&cov15 e15Ar e15T [-5,-1] (-4)else false)=false:=by kernel_rfl
theorem e15_fe:failE e15T [-5,-1]=0:=by kernel_rfl
theorem e15_three:(if failE e15T [-5,-3,-2,-1]=0 then [-5,-3,-2,-1].contains (-3)&&impl15 e15Ar e15T [-5,-3,-2,-1] (litV (-3))else false)=true:=by kernel_rfl
theorem e15_fe3:failE e15T [-5,-3,-2,-1]=0:=by kernel_rfl
theorem e15_fe5:failE e15T [5]=140:=by kernel_rfl
theorem ex_in15 {w:World} {n:Nat} {xs:List Int} {t:TypeId} {W:World} (hs:W.heap.size=n) (hb:Below (n+1) (W.alloc (.cells (xs.map (Value.int .i64)).toArray t)) w):IntsIn (fun g=>g<w.heap.size) w (.slice (some ⟨n,0,none⟩) xs.length xs.length) xs:=by
 subst hs
 have hb':Below (W.alloc (.cells (xs.map (Value.int .i64)).toArray t)).heap.size (W.alloc (.cells (xs.map (Value.int .i64)).toArray t)) w:=by simpa using hb
 refine((mx_ints W xs t).below hb').mono (fun g hg=>?_)
 have:=hb.size
 simp at this
 omega
set_option maxRecDepth 100000 in
set_option maxHeartbeats 1000000 in
theorem example15_any (w:World):
  Calls Tryz.prog 69 #[] w fun e w'=> ∃cv g W6,e= .returned (.tuple #[cv,.slice (some ⟨g,0,none⟩) 7 7])∧ClsAt W6 cv e15L∧W6.heap.size=g∧Below g W6 w'∧w'.heap[g]? =some (.cells (e15A.flatMap ActP.cells).toArray 90 (0,0))∧w.heap.size≤g∧Below w.heap.size w w':=by
 obtain⟨W6,hW6,hb6,hc6⟩: ∃W6,((((w.alloc (.cells #[.int .i64 (-1),.int .i64 2] 32)).alloc (.cells #[.int .i64 (-1),.int .i64 3] 32)).alloc (.cells #[.int .i64 (-4),.int .i64 5] 32)).alloc (.cells #[.int .i64 (-5),.int .i64 (-2),.int .i64 (-3),.int .i64 (-1)] 32)).alloc (.cells #[.slice (some ⟨w.heap.size,0,none⟩) 2 2,.slice (some ⟨w.heap.size+1,0,none⟩) 2 2,.slice (some ⟨w.heap.size+1+1,0,none⟩) 2 2,.slice (some ⟨w.heap.size+1+1+1,0,none⟩) 4 4] 34)=W6∧Below w.heap.size w W6∧ClsAt W6 (.slice (some ⟨w.heap.size+1+1+1+1,0,none⟩) 4 4) e15L:=by
  refine⟨_,rfl,(((((mx_al _ _).alloc (by simp) _).alloc (by simp;omega) _).alloc (by simp;omega) _).alloc (by simp;omega) _),?_⟩
  have key:=cls_new ((((w.alloc (.cells #[.int .i64 (-1),.int .i64 2] 32)).alloc (.cells #[.int .i64 (-1),.int .i64 3] 32)).alloc (.cells #[.int .i64 (-4),.int .i64 5] 32)).alloc (.cells #[.int .i64 (-5),.int .i64 (-2),.int .i64 (-3),.int .i64 (-1)] 32)) [.slice (some ⟨w.heap.size,0,none⟩) 2 2,.slice (some ⟨w.heap.size+1,0,none⟩) 2 2,.slice (some ⟨w.heap.size+1+1,0,none⟩) 2 2,.slice (some ⟨w.heap.size+1+1+1,0,none⟩) 4 4] e15L 34 (fun i xs hi=>by
   match i,hi with
   | 0,hi=>
    obtain rfl:=Option.some.inj hi
    exact⟨_,rfl,ex_in15 (xs:= [-1,2]) (W:=w) rfl ((((mx_al _ _).mono (by simp)).alloc (by simp) _).alloc (by simp) _)⟩
   | 1,hi=>
    obtain rfl:=Option.some.inj hi
    exact⟨_,rfl,ex_in15 (xs:= [-1,3]) (W:=(w.alloc (.cells #[.int .i64 (-1),.int .i64 2] 32))) (by simp) (((mx_al _ _).mono (by simp)).alloc (by simp) _)⟩
   | 2,hi=>
    obtain rfl:=Option.some.inj hi
    exact⟨_,rfl,ex_in15 (xs:= [-4,5]) (W:=((w.alloc (.cells #[.int .i64 (-1),.int .i64 2] 32)).alloc (.cells #[.int .i64 (-1),.int .i64 3] 32))) (by simp) ((mx_al _ _).mono (by simp))⟩
   | 3,hi=>
    obtain rfl:=Option.some.inj hi
    exact⟨_,rfl,ex_in15 (xs:= [-5,-2,-3,-1]) (W:=(((w.alloc (.cells #[.int .i64 (-1),.int .i64 2] 32)).alloc (.cells #[.int .i64 (-1),.int .i64 3] 32)).alloc (.cells #[.int .i64 (-4),.int .i64 5] 32))) (by simp) ((Below.refl _ _))⟩
   | n+4,hi=>exact absurd hi (by simp[e15L]))
  simpa [e15L] using key
 have hsz:W6.heap.size=w.heap.size+1+1+1+1+1:=by rw[←hW6];simp
 have HSZ:=Lib.hid hsz
 have HW6:=Lib.hid hW6
 have HB6:=Lib.hid hb6
 have HC6:=Lib.hid hc6
 clear hW6 hb6 hc6 hsz
 go_enter Tryz.func69,Tryz.ntmps69
 go_wp2_with fail
 rw[HW6.out]
 go_ret2
 have hnew:=World.alloc_heap_new W6 (.cells (e15A.flatMap ActP.cells).toArray 90)
 have hb:=mx_al W6 (.cells (e15A.flatMap ActP.cells).toArray 90)
 rw[HSZ.out]at hnew hb
 exact⟨_,_,W6,rfl,HC6.out,HSZ.out,hb,hnew,by omega,HB6.out.trans (hb.mono (by omega))⟩
theorem put_covered {n:Nat} {w:World} {a b:Nat} {A:Arn} {T:Trl} {its:List RIt} {OC:Nat→Prop} (Ac:Option Addr) (cc:Nat) (c:List Int) (l:Int) (h:PutAt n w a b A T) (hs:Sim T its) (hil:its.length≤500000) (hc:IntsIn OC w (.slice Ac c.length cc) c) (hcl:c.length≤4194304):
  Calls Tryz.prog 29 #[.pointer (some ⟨a,0,none⟩),.pointer (some ⟨b,0,none⟩),.slice Ac c.length cc,.int .i64 l] w fun e w'=>e= .returned (.tuple #[.bool (if failE T c=0 then decide (T.val l<0)&&cov15 A T c l else false),.int .i64 (failE T c)])∧Below w.heap.size w w':=by
 obtain⟨_,OA,OT,h1,h2,_⟩:=h
 exact mn_covered a b A T its Ac cc c l w hs hil h1 h2 hc hcl
theorem put_redundant {n:Nat} {w:World} {a b:Nat} {A:Arn} {T:Trl} {its:List RIt} {OC:Nat→Prop} (Ac:Option Addr) (cc:Nat) (c:List Int) (l:Int) (h:PutAt n w a b A T) (hs:Sim T its) (hil:its.length≤500000) (hc:IntsIn OC w (.slice Ac c.length cc) c) (hcl:c.length≤4194304):
  Calls Tryz.prog 27 #[.pointer (some ⟨a,0,none⟩),.pointer (some ⟨b,0,none⟩),.slice Ac c.length cc,.int .i64 l] w fun e w'=>e= .returned (.tuple #[.bool (if failE T c=0 then c.contains l&&impl15 A T c (litV l)else false),.int .i64 (failE T c)])∧Below w.heap.size w w':=by
 obtain⟨_,OA,OT,h1,h2,_⟩:=h
 exact mn_redundant a b A T its Ac cc c l w hs hil h1 h2 hc hcl
theorem put_shorten {n:Nat} {w:World} {a b:Nat} {A:Arn} {T:Trl} {its:List RIt} {OC:Nat→Prop} (Ac:Option Addr) (cc:Nat) (c:List Int) (h:PutAt n w a b A T) (hs:Sim T its) (hil:its.length≤500000) (hc:IntsIn OC w (.slice Ac c.length cc) c) (hcl:c.length≤4194304):
  Calls Tryz.prog 24 #[.pointer (some ⟨a,0,none⟩),.pointer (some ⟨b,0,none⟩),.slice Ac c.length cc] w fun e w'=>(∃u',e= .returned (.tuple #[u',.int .i64 (failE T c)])∧w'.ownsRow w.heap.size 32 1 u' (if failE T c=0 then short15 A T c else []).length ((if failE T c=0 then short15 A T c else []).map (Value.int .i64)))∧Below w.heap.size w w':=by
 obtain⟨_,OA,OT,h1,h2,_⟩:=h
 exact mn_shorten_any a b A T its Ac cc c w hs hil h1 h2 hc hcl
theorem put_minconf {n:Nat} {w:World} {a b:Nat} {A:Arn} {T:Trl} {its:List RIt} (id:Int) (h:PutAt n w a b A T) (hs:Sim T its) (hil:its.length≤500000):
  Calls Tryz.prog 45 #[.pointer (some ⟨a,0,none⟩),.pointer (some ⟨b,0,none⟩),.int .i64 id] w fun e w'=>(∃v,e= .returned (.tuple #[v,.int .i64 ((minP A T id).2:Nat)])∧LrnAt w.heap.size w' v (minP A T id).1)∧Below w.heap.size w w':=by
 obtain⟨_,OA,OT,h1,h2,_⟩:=h
 exact mn_conflict a b A T its id w hs hil h1 h2
theorem e15L_len: ∀c∈e15L,c.length≤1000:=by decide
set_option maxRecDepth 100000 in
set_option maxHeartbeats 4000000 in
theorem awake15_any (w:World):Calls Tryz.prog 22 #[] w fun e w'=>e= .returned (.bool true)∧Below w.heap.size w w':=by
 have HEX:=Lib.hid (example15_any w)
 go_enter Tryz.func22,Tryz.ntmps22
 go_wp2_with fail
 refine HEX.out.mono ?_
 rintro e w1 ⟨cv,g,W6,rfl,hc,hz6,hb6,hg,hwg,hb1⟩
 have HC:=Lib.hid hc
 have HB1:=Lib.hid hb1
 obtain⟨Ac,cc,rfl,_⟩:=hc
 rw[show e15L.length=4 from rfl]at HC
 have ha1:ActsIn w1 (.slice (some ⟨g,0,none⟩) 7 7) e15A:=acts_of_block (l:=e15A) hg rfl (by rw[List.toList_toArray];exact List.take_of_length_le (by decide))
 have hp:=put_any 5 _ _ e15L e15A w1 (by decide) ((HC.out).below (by rw[hz6];exact hb6)) ha1 (by decide) e15L_len (by decide)
 have HP:=Lib.hid hp
 clear hg hb6 hb1 hz6 ha1 hp HEX
 rw[show e15L.length=4 from rfl]
 go_wp2_with fail
 refine HP.out.mono ?_
 rintro e w2 ⟨a,b,rfl,hpa,hb2⟩
 rw[show addAll arn0 0 e15L=e15Ar from rfl,show playAll (trl0 5) e15A=e15T from rfl]at hpa
 have HPA:=Lib.hid hpa
 have HB2:=Lib.hid (HB1.out.trans (hb2.mono HB1.out.size))
 have hcf:=put_minconf 4 hpa e15_sim e15_len
 rw[e15_min]at hcf
 have HCF:=Lib.hid hcf
 clear hcf HP hpa hb2
 go_wp2_with fail
 refine HCF.out.mono ?_
 rintro e w3 ⟨⟨v,rfl,hv⟩,hb3⟩
 obtain⟨Ax,cx,Ay,cy,Az,cz,rfl,hx,hy,hz⟩:=hv.parts
 have HX:=Lib.hid hx
 have HY:=Lib.hid hy
 have HZ:=Lib.hid hz
 have HPA3:=Lib.hid (HPA.out.below hb3)
 have HB3:=Lib.hid (HB2.out.trans (hb3.mono HB2.out.size))
 obtain⟨Wa,hWa⟩: ∃x,w3.alloc (.cells #[.slice Ax 2 cx,.int .i64 1,.int .i64 2,.slice Ay 3 cy,.slice Az 4 cz] 65)=x:=⟨_,rfl⟩
 have hbA:Below w3.heap.size w3 Wa:=by rw[←hWa];exact mx_al _ _
 have hbx:Wa.heap[w3.heap.size]? =some (.cells #[.slice Ax 2 cx,.int .i64 1,.int .i64 2,.slice Ay 3 cy,.slice Az 4 cz] 65 (0,0)):=by rw[←hWa];exact World.alloc_heap_new _ _
 have hzA:Wa.heap.size=w3.heap.size+1:=by rw[←hWa];simp
 obtain⟨Wb,hWb⟩: ∃x,Wa.alloc (.cells #[.int .i64 (-5),.int .i64 (-1)] 32)=x:=⟨_,rfl⟩
 have hbB:Below Wa.heap.size Wa Wb:=by rw[←hWb];exact mx_al _ _
 have hlf:IntsIn (fun g=>g=Wa.heap.size) Wb (.slice (some ⟨Wa.heap.size,0,none⟩) 2 2) [-5,-1]:=by rw[←hWb];exact mx_ints Wa [-5,-1] _
 have HWA:=Lib.hid hWa
 have HWB:=Lib.hid hWb
 have HBX:=Lib.hid ((hbB.block _ (heap_lt hbx)).trans hbx)
 have HBAB:=Lib.hid (hbA.trans (hbB.mono hbA.size))
 have HPB:=Lib.hid (HPA3.out.below HBAB.out)
 have HLF:=Lib.hid hlf
 rw[hzA]at HLF
 have h2:=put_covered (some ⟨w3.heap.size+1,0,none⟩) 2 [-5,-1] (-2) HPB.out e15_sim e15_len HLF.out (by decide)
 rw[e15_two,e15_fe]at h2
 have HC2:=Lib.hid h2
 clear hv hx hy hz HCF hb3 hWa hbA hbx hWb hbB hlf h2 hzA
 go_wp2_with fail
 rw[HWA.out,HWB.out]
 refine HC2.out.mono ?_
 rintro e w4 ⟨rfl,hb4⟩
 have HB4:=Lib.hid (HBAB.out.trans (hb4.mono HBAB.out.size))
 have HPA4:=Lib.hid (HPB.out.below hb4)
 have HL4:=Lib.hid (HLF.out.below hb4)
 have HX4:=Lib.hid ((hb4.block _ (heap_lt HBX.out)).trans HBX.out)
 have h4:=put_covered (some ⟨w3.heap.size+1,0,none⟩) 2 [-5,-1] (-4) HPA4.out e15_sim e15_len HL4.out (by decide)
 rw[e15_four,e15_fe]at h4
 have HC4:=Lib.hid h4
 clear hb4 h4 HC2
 go_wp2_with fail
 refine HC4.out.mono ?_
 rintro e w5 ⟨rfl,hb5⟩
 have HB5:=Lib.hid (HB4.out.trans (hb5.mono HB4.out.size))
 have HPA5:=Lib.hid (HPA4.out.below hb5)
 have HL5:=Lib.hid (HL4.out.below hb5)
 have HX5:=Lib.hid ((hb5.block _ (heap_lt HX4.out)).trans HX4.out)
 obtain⟨Wc,hWc⟩: ∃x,w5.alloc (.cells #[.int .i64 (-5),.int .i64 (-3),.int .i64 (-2),.int .i64 (-1)] 32)=x:=⟨_,rfl⟩
 have hbC:Below w5.heap.size w5 Wc:=by rw[←hWc];exact mx_al _ _
 have hlc:IntsIn (fun g=>g=w5.heap.size) Wc (.slice (some ⟨w5.heap.size,0,none⟩) 4 4) [-5,-3,-2,-1]:=by rw[←hWc];exact mx_ints w5 [-5,-3,-2,-1] _
 have h6:=put_redundant (some ⟨w5.heap.size,0,none⟩) 4 [-5,-3,-2,-1] (-3) (HPA5.out.below hbC) e15_sim e15_len hlc (by decide)
 rw[e15_three,e15_fe3]at h6
 have HC6:=Lib.hid h6
 have HWC:=Lib.hid hWc
 have HBC:=Lib.hid hbC
 clear hb5 hWc hbC hlc h6 HC4
 go_wp2_with fail
 rw[HWC.out]
 refine HC6.out.mono ?_
 rintro e w6 ⟨rfl,hb6⟩
 have hbb:=HBC.out.trans (hb6.mono HBC.out.size)
 have HB6:=Lib.hid (HB5.out.trans (hbb.mono HB5.out.size))
 have HPA6:=Lib.hid (HPA5.out.below hbb)
 have HL6:=Lib.hid (HL5.out.below hbb)
 have HX6:=Lib.hid ((hbb.block _ (heap_lt HX5.out)).trans HX5.out)
 obtain⟨Wd,hWd⟩: ∃x,w6.alloc (.cells #[.int .i64 5] 32)=x:=⟨_,rfl⟩
 have hbD:Below w6.heap.size w6 Wd:=by rw[←hWd];exact mx_al _ _
 have hld:IntsIn (fun g=>g=w6.heap.size) Wd (.slice (some ⟨w6.heap.size,0,none⟩) 1 1) [5]:=by rw[←hWd];exact mx_ints w6 [5] _
 have h7:=put_shorten (some ⟨w6.heap.size,0,none⟩) 1 [5] (HPA6.out.below hbD) e15_sim e15_len hld (by decide)
 rw[e15_fe5]at h7
 have HC7:=Lib.hid h7
 have HWD:=Lib.hid hWd
 have HBD:=Lib.hid hbD
 clear hb6 hbb hWd hbD hld h7 HC6 HWC HBC
 go_wp2_with fail
 rw[HWD.out]
 refine HC7.out.mono ?_
 rintro e w7 ⟨⟨u7,rfl,_⟩,hb7⟩
 have hbb:=HBD.out.trans (hb7.mono HBD.out.size)
 have HB7:=Lib.hid (HB6.out.trans (hbb.mono HB6.out.size))
 have HL7:=Lib.hid (HL6.out.below hbb)
 have HX7:=Lib.hid ((hbb.block _ (heap_lt HX6.out)).trans HX6.out)
 clear hb7 hbb HC7 HWD HBD
 have hq:=eq_c (.slice Ax 2 cx) (.slice (some ⟨w3.heap.size+1,0,none⟩) 2 2) [-5,-1] [-5,-1] w7 (HX.out w7 HB7.out) HL7.out (by decide)
 rw[show(([-5,-1] :List Int)== [-5,-1])=true from rfl]at hq
 have HQ:=Lib.hid hq
 clear hq
 obtain⟨⟨o0,o1,o2,o3,o4⟩,_⟩:=cells5 HX7.out
 go_wp2_with fail
 refine HQ.out.mono ?_
 rintro e w8 ⟨rfl,n8,hw8⟩
 have hb8:Below w7.heap.size w7 w8:=by rw[hw8];exact mx_drewN _ _
 have HB8:=Lib.hid (HB7.out.trans (hb8.mono HB7.out.size))
 have HX8:=Lib.hid ((hb8.block _ (heap_lt HX7.out)).trans HX7.out)
 clear HQ hw8 hb8 o0 o1 o2 o3 o4
 obtain⟨⟨o0,o1,o2,o3,o4⟩,_⟩:=cells5 HX8.out
 go_wp2_with fail
 have hq:=eqi_lit w8 (.slice Ay 3 cy) [1,2,4] [1,2,4] (fun w' hb=>HY.out w' (HB8.out.trans (hb.mono HB8.out.size))) (by decide)
 skip
 rw[show(([1,2,4] :List Int)== [1,2,4])=true from rfl]at hq
 have HQ:=Lib.hid hq
 clear hq
 refine HQ.out.mono ?_
 rintro e w9 ⟨rfl,hbq⟩
 clear HQ
 have HB9:=Lib.hid (HB8.out.trans (hbq.mono HB8.out.size))
 clear o0 o1 o2 o3 o4
 obtain⟨⟨o0,o1,o2,o3,o4⟩,_⟩:=cells5 ((hbq.block _ (heap_lt HX8.out)).trans HX8.out)
 clear hbq
 go_wp2_with fail
 have hq:=eqi_lit w9 (.slice Az 4 cz) [1,2,3,5] [1,2,3,5] (fun w' hb=>HZ.out w' (HB9.out.trans (hb.mono HB9.out.size))) (by decide)
 skip
 rw[show(([1,2,3,5] :List Int)== [1,2,3,5])=true from rfl]at hq
 have HQ:=Lib.hid hq
 clear hq
 refine HQ.out.mono ?_
 rintro e w10 ⟨rfl,hbq⟩
 clear HQ
 have HB10:=Lib.hid (HB3.out.trans ((HB9.out.trans (hbq.mono HB9.out.size)).mono HB3.out.size))
 clear o0 o1 o2 o3 o4 hbq
 go_wp2_with fail
 go_ret
 exact⟨rfl,HB10.out⟩
end Go.Proofs.YtoojmhjagipmdaaGreat
