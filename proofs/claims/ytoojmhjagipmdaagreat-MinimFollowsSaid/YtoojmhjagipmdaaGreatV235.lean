/- Plain: fewer literals have no more levels, and lead no further. The example of chapter 15; awake (package salvorlaw15). -/
import Derived.Test.YtoojmhjagipmdaaGreatV228
import Derived.Test.YtoojmhjagipmdaaGreatV234
import Derived.Test.YtoojmhjagipmdaaGreatV227
import Derived.Test.YtoojmhjagipmdaaGreatV233
import Derived.Test.YtoojmhjagipmdaaGreatV212
import Derived.Test.YtoojmhjagipmdaaGreatV226
namespace Go.Proofs.YtoojmhjagipmdaaGreat
open Go.RowKit
theorem nodup_sub: ∀{a b:List Int},a.Nodup→(∀x∈a,x∈b)→a.length≤b.length:=by
 intro a
 induction a with
 | nil=>exact fun _ _=>Nat.zero_le _
 | cons y r ih=>
  intro b hn hs
  obtain⟨hy,hr⟩:=List.nodup_cons.1 hn
  have hb:=hs y List.mem_cons_self
  have:=ih (b:=b.erase y) hr fun x hx=>(List.mem_erase_of_ne (fun e=>hy (by rw[←e];exact hx))).2 (hs x (List.mem_cons_of_mem _ hx))
  rw[List.length_erase_of_mem hb]at this
  have:=List.length_pos_of_mem hb
  simp only[List.length_cons]
  omega
theorem lvls_mem (T:Trl) (z:Int): ∀c:List Int,z∈T.lvls c↔0<z∧∃l∈c,T.level (litV l:Nat)=z:=by
 intro c
 induction c with
 | nil=>
  unfold Trl.lvls
  simp
 | cons l c ih=>
  unfold Trl.lvls
  split
  ·rename_i h
   rw[List.mem_cons,ih]
   constructor
   ·rintro (rfl|⟨h1,y,hy,e⟩)
    ·exact⟨h,l,List.mem_cons_self,rfl⟩
    ·exact⟨h1,y,List.mem_cons_of_mem _ hy,e⟩
   ·rintro ⟨h1,y,hy,e⟩
    rcases List.mem_cons.1 hy with rfl|hy
    ·exact .inl e.symm
    ·exact .inr ⟨h1,y,hy,e⟩
  ·rename_i h
   rw[ih]
   constructor
   ·rintro ⟨h1,y,hy,e⟩
    exact⟨h1,y,List.mem_cons_of_mem _ hy,e⟩
   ·rintro ⟨h1,y,hy,e⟩
    rcases List.mem_cons.1 hy with rfl|hy
    ·omega
    ·exact⟨h1,y,hy,e⟩
theorem nLevels_le (T:Trl) {c c':List Int} (h: ∀l∈c',l∈c):T.nLevels c'≤T.nLevels c:=by
 unfold Trl.nLevels
 refine nodup_sub (dn_nodup _).1 fun z hz=>((dn_nodup _).2 z).2 ?_
 have h2:=((dn_nodup _).2 z).1 hz
 rw[lvls_mem]at h2⊢
 obtain⟨h1,l,hl,e⟩:=h2
 exact⟨h1,l,h l hl,e⟩
theorem levelsOf_le (T:Trl) {c c':List Int} (h: ∀l∈c',l∈c) (hb:clauseB c=true):T.levelsOf c'≤T.levelsOf c:=by
 unfold Trl.levelsOf
 rw[if_pos hb]
 have:=nLevels_le T h
 split <;> omega
section
variable {C:Int→Option (List Int)} {T:Trl} {its:List RIt} {id lv:Int} {c:List Int} {x x0:Lrn} {R K R0 K0:List Nat}
theorem back_le (o0:ConfO C T its id c lv x0 R0 K0) (o:ConfO C T its id c lv x R K) (hs:Sim T its) (hsub:x.lits.Sublist x0.lits):x.back≤x0.back:=by
 by_cases hlv:lv=0
 ·have h1:=o.none hlv
  have h2:=o0.none hlv
  rw[o.back,o0.back,o.lits,o0.lits,h1,h2]
  exact Int.le_refl _
 ·obtain⟨k0,K',z0,hK,hz0,hzl,hxl,hrest,hb0,hbl,hbn,hbm⟩:=o.parts hs hlv
  obtain⟨k1,K1,z1,hK1,hz1,hzl1,hxl1,hrest1,hb01,hbl1,hbn1,hbm1⟩:=o0.parts hs hlv
  by_cases hKe:K'= []
  ·rw[hbn hKe]
   exact hb01
  ·obtain⟨q,hq,z,hz,e⟩:=hbm hKe
   have hm: -(litAt its q)∈x0.lits:=hsub.subset (by rw[hxl];exact List.mem_cons_of_mem _ (List.mem_map.2 ⟨q,hq,rfl⟩))
   rw[hxl1]at hm
   have hql:=(hrest q hq)
   obtain⟨z',hz',hlt,_⟩:=hql
   rcases List.mem_cons.1 hm with hm|hm
   ·rw[litAt_eq hz]at hm
    have:=hs.inj hz hz1 (by rw[show z.lit=z1.lit by omega])
    subst this
    rw[hz]at hz1 hz'
    obtain rfl:=Option.some.inj hz1
    obtain rfl:=Option.some.inj hz'
    omega
   ·obtain⟨q2,hq2,e2⟩:=List.mem_map.1 hm
    obtain⟨z2,hz2,_,_,hle⟩:=hrest1 q2 hq2
    rw[litAt_eq hz,litAt_eq hz2]at e2
    have:=hs.inj hz hz2 (by rw[show z.lit=z2.lit by omega])
    subst this
    rw[hz]at hz2
    obtain rfl:=Option.some.inj hz2
    omega
end
end Go.Proofs.YtoojmhjagipmdaaGreat
namespace Go.Proofs.YtoojmhjagipmdaaGreat
open Go.RowKit
def e15L:List (List Int):= [[-1,2],[-1,3],[-4,5],[-5,-2,-3,-1]]
def e15A:List ActP:= [⟨true,0,0⟩,⟨false,1,0⟩,⟨false,2,1⟩,⟨false,3,2⟩,⟨true,0,0⟩,⟨false,4,0⟩,⟨false,5,3⟩]
def e15Ar:Arn:=addAll arn0 0 e15L
def e15T:Trl:=playAll (trl0 5) e15A
def e15R:RTr:=rPlayAll ⟨5,0,[],[0]⟩ e15A
theorem e15_sim:Sim e15T e15R.items:=((tsim0 5 (by decide)).playAll e15A).sim
theorem e15_len:e15R.items.length≤500000:=by decide
theorem e15_get4:e15Ar.get 4=some [-5,-2,-3,-1]:=by kernel_rfl
theorem e15_f4:e15T.failMax [-5,-2,-3,-1] 0=some 2:=by kernel_rfl
theorem e15_end:cfEnd e15Ar e15T 2 [-5,-2,-3,-1]=some ⟨[5,2,3,1],1,[-5,-3,-2,-1],[],[5,3,2,1]⟩:=by kernel_rfl
theorem e15_conf:(confP e15Ar e15T 4).1.lits= [-5,-3,-2,-1]∧(confP e15Ar e15T 4).2=0∧(confP e15Ar e15T 4).1.met= [1,2,3,5]:=by
 unfold confP
 rw[e15_get4]
 simp only[e15_f4,e15_end]
 exact⟨trivial,trivial,sortI_eq (xs:= [5,3,2,1]) (ys:= [1,2,3,5]) (by decide) (by decide)⟩
theorem e15_short:short15 e15Ar e15T [-5,-3,-2,-1]= [-5,-1]:=by kernel_rfl
theorem e15_hint:hintP e15Ar e15T [-5,-1] 4=([1,2,4],0):=by kernel_rfl
theorem e15_lv:e15T.levelsOf [-5,-1]=2:=by
 unfold Trl.levelsOf Trl.nLevels
 rw[if_pos (by decide),show e15T.lvls [-5,-1]= [2,1]from by kernel_rfl,sortI_eq (ys:= [1,2]) (by decide) (by decide)]
 rfl
theorem e15_min:minP e15Ar e15T 4=(⟨[-5,-1],1,2,[1,2,4],[1,2,3,5]⟩,0):=by
 unfold minP
 obtain⟨h1,h2,h3⟩:=e15_conf
 rw[h1,h2,h3,e15_short,e15_hint,e15_lv,show e15T.backOf [-5,-1]=1 from by kernel_rfl]
 rfl
theorem e15_two:(if failE e15T [-5,-1]=0 then decide (e15T.val (-2)<0)&&cov15 e15Ar e15T [-5,-1] (-2)else false)=true:=by kernel_rfl
theorem e15_four:(if failE e15T [-5,-1]=0 then decide (e15T.val (-4)<0)&&cov15 e15Ar e15T [-5,-1] (-4)else false)=false:=by kernel_rfl
theorem e15_fe:failE e15T [-5,-1]=0:=by kernel_rfl
theorem e15_three:(if failE e15T [-5,-3,-2,-1]=0 then [-5,-3,-2,-1].contains (-3)&&impl15 e15Ar e15T [-5,-3,-2,-1] (litV (-3))else false)=true:=by kernel_rfl
theorem e15_fe3:failE e15T [-5,-3,-2,-1]=0:=by kernel_rfl
theorem e15_fe5:failE e15T [5]=140:=by kernel_rfl
theorem ex_in15 {w:World} {n:Nat} {xs:List Int} {t:TypeId} {W:World} (hs:W.heap.size=n) (hb:Below (n+1) (W.alloc (.cells (xs.map (Value.int .i64)).toArray t)) w):IntsIn (fun g=>g<w.heap.size) w (.slice (some ⟨n,0,none⟩) xs.length xs.length) xs:=by
 subst hs
 have hb':Below (W.alloc (.cells (xs.map (Value.int .i64)).toArray t)).heap.size (W.alloc (.cells (xs.map (Value.int .i64)).toArray t)) w:=by simpa using hb
 refine((mx_ints W xs t).below hb').mono (fun g hg=>?_)
 have:=hb.size
 simp at this
 omega
set_option maxRecDepth 100000 in
set_option maxHeartbeats 1000000 in
theorem example15_any (w:World):
  Calls Tryz.prog 69 #[] w fun e w'=> ∃cv g W6,e= .returned (.tuple #[cv,.slice (some ⟨g,0,none⟩) 7 7])∧ClsAt W6 cv e15L∧W6.heap.size=g∧Below g W6 w'∧w'.heap[g]? =some (.cells (e15A.flatMap ActP.cells).toArray 90 (0,0))∧w.heap.size≤g∧Below w.heap.size w w':=by
 obtain⟨W6,hW6,hb6,hc6⟩: ∃W6,((((w.alloc (.cells #[.int .i64 (-1),.int .i64 2] 32)).alloc (.cells #[.int .i64 (-1),.int .i64 3] 32)).alloc (.cells #[.int .i64 (-4),.int .i64 5] 32)).alloc (.cells #[.int .i64 (-5),.int .i64 (-2),.int .i64 (-3),.int .i64 (-1)] 32)).alloc (.cells #[.slice (some ⟨w.heap.size,0,none⟩) 2 2,.slice (some ⟨w.heap.size+1,0,none⟩) 2 2,.slice (some ⟨w.heap.size+1+1,0,none⟩) 2 2,.slice (some ⟨w.heap.size+1+1+1,0,none⟩) 4 4] 34)=W6∧Below w.heap.size w W6∧ClsAt W6 (.slice (some ⟨w.heap.size+1+1+1+1,0,none⟩) 4 4) e15L:=by
  refine⟨_,rfl,(((((mx_al _ _).alloc (by simp) _).alloc (by simp;omega) _).alloc (by simp;omega) _).alloc (by simp;omega) _),?_⟩
  have key:=cls_new ((((w.alloc (.cells #[.int .i64 (-1),.int .i64 2] 32)).alloc (.cells #[.int .i64 (-1),.int .i64 3] 32)).alloc (.cells #[.int .i64 (-4),.int .i64 5] 32)).alloc (.cells #[.int .i64 (-5),.int .i64 (-2),.int .i64 (-3),.int .i64 (-1)] 32)) [.slice (some ⟨w.heap.size,0,none⟩) 2 2,.slice (some ⟨w.heap.size+1,0,none⟩) 2 2,.slice (some ⟨w.heap.size+1+1,0,none⟩) 2 2,.slice (some ⟨w.heap.size+1+1+1,0,none⟩) 4 4] e15L 34 (fun i xs hi=>by
   match i,hi with
   | 0,hi=>
    obtain rfl:=Option.some.inj hi
    exact⟨_,rfl,ex_in15 (xs:= [-1,2]) (W:=w) rfl ((((mx_al _ _).mono (by simp)).alloc (by simp) _).alloc (by simp) _)⟩
   | 1,hi=>
    obtain rfl:=Option.some.inj hi
    exact⟨_,rfl,ex_in15 (xs:= [-1,3]) (W:=(w.alloc (.cells #[.int .i64 (-1),.int .i64 2] 32))) (by simp) (((mx_al _ _).mono (by simp)).alloc (by simp) _)⟩
   | 2,hi=>
    obtain rfl:=Option.some.inj hi
    exact⟨_,rfl,ex_in15 (xs:= [-4,5]) (W:=((w.alloc (.cells #[.int .i64 (-1),.int .i64 2] 32)).alloc (.cells #[.int .i64 (-1),.int .i64 3] 32))) (by simp) ((mx_al _ _).mono (by simp))⟩
   | 3,hi=>
    obtain rfl:=Option.some.inj hi
    exact⟨_,rfl,ex_in15 (xs:= [-5,-2,-3,-1]) (W:=(((w.alloc (.cells #[.int .i64 (-1),.int .i64 2] 32)).alloc (.cells #[.int .i64 (-1),.int .i64 3] 32)).alloc (.cells #[.int .i64 (-4),.int .i64 5] 32))) (by simp) ((Below.refl _ _))⟩
   | n+4,hi=>exact absurd hi (by simp[e15L]))
  simpa [e15L] using key
 have hsz:W6.heap.size=w.heap.size+1+1+1+1+1:=by rw[←hW6];simp
 have HSZ:=Lib.hid hsz
 have HW6:=Lib.hid hW6
 have HB6:=Lib.hid hb6
 have HC6:=Lib.hid hc6
 clear hW6 hb6 hc6 hsz
 go_enter Tryz.func69,Tryz.ntmps69
 go_wp2_with fail
 rw[HW6.out]
 go_ret2
 have hnew:=World.alloc_heap_new W6 (.cells (e15A.flatMap ActP.cells).toArray 90)
 have hb:=mx_al W6 (.cells (e15A.flatMap ActP.cells).toArray 90)
 rw[HSZ.out]at hnew hb
 exact⟨_,_,W6,rfl,HC6.out,HSZ.out,hb,hnew,by omega,HB6.out.trans (hb.mono (by omega))⟩
theorem put_covered {n:Nat} {w:World} {a b:Nat} {A:Arn} {T:Trl} {its:List RIt} {OC:Nat→Prop} (Ac:Option Addr) (cc:Nat) (c:List Int) (l:Int) (h:PutAt n w a b A T) (hs:Sim T its) (hil:its.length≤500000) (hc:IntsIn OC w (.slice Ac c.length cc) c) (hcl:c.length≤4194304):
  Calls Tryz.prog 29 #[.pointer (some ⟨a,0,none⟩),.pointer (some ⟨b,0,none⟩),.slice Ac c.length cc,.int .i64 l] w fun e w'=>e= .returned (.tuple #[.bool (if failE T c=0 then decide (T.val l<0)&&cov15 A T c l else false),.int .i64 (failE T c)])∧Below w.heap.size w w':=by
 obtain⟨_,OA,OT,h1,h2,_⟩:=h
 exact mn_covered a b A T its Ac cc c l w hs hil h1 h2 hc hcl
theorem put_redundant {n:Nat} {w:World} {a b:Nat} {A:Arn} {T:Trl} {its:List RIt} {OC:Nat→Prop} (Ac:Option Addr) (cc:Nat) (c:List Int) (l:Int) (h:PutAt n w a b A T) (hs:Sim T its) (hil:its.length≤500000) (hc:IntsIn OC w (.slice Ac c.length cc) c) (hcl:c.length≤4194304):
  Calls Tryz.prog 27 #[.pointer (some ⟨a,0,none⟩),.pointer (some ⟨b,0,none⟩),.slice Ac c.length cc,.int .i64 l] w fun e w'=>e= .returned (.tuple #[.bool (if failE T c=0 then c.contains l&&impl15 A T c (litV l)else false),.int .i64 (failE T c)])∧Below w.heap.size w w':=by
 obtain⟨_,OA,OT,h1,h2,_⟩:=h
 exact mn_redundant a b A T its Ac cc c l w hs hil h1 h2 hc hcl
theorem put_shorten {n:Nat} {w:World} {a b:Nat} {A:Arn} {T:Trl} {its:List RIt} {OC:Nat→Prop} (Ac:Option Addr) (cc:Nat) (c:List Int) (h:PutAt n w a b A T) (hs:Sim T its) (hil:its.length≤500000) (hc:IntsIn OC w (.slice Ac c.length cc) c) (hcl:c.length≤4194304):
  Calls Tryz.prog 24 #[.pointer (some ⟨a,0,none⟩),.pointer (some ⟨b,0,none⟩),.slice Ac c.length cc] w fun e w'=>(∃u',e= .returned (.tuple #[u',.int .i64 (failE T c)])∧w'.ownsRow w.heap.size 32 1 u' (if failE T c=0 then short15 A T c else []).length ((if failE T c=0 then short15 A T c else []).map (Value.int .i64)))∧Below w.heap.size w w':=by
 obtain⟨_,OA,OT,h1,h2,_⟩:=h
 exact mn_shorten_any a b A T its Ac cc c w hs hil h1 h2 hc hcl
theorem put_minconf {n:Nat} {w:World} {a b:Nat} {A:Arn} {T:Trl} {its:List RIt} (id:Int) (h:PutAt n w a b A T) (hs:Sim T its) (hil:its.length≤500000):
  Calls Tryz.prog 45 #[.pointer (some ⟨a,0,none⟩),.pointer (some ⟨b,0,none⟩),.int .i64 id] w fun e w'=>(∃v,e= .returned (.tuple #[v,.int .i64 ((minP A T id).2:Nat)])∧LrnAt w.heap.size w' v (minP A T id).1)∧Below w.heap.size w w':=by
 obtain⟨_,OA,OT,h1,h2,_⟩:=h
 exact mn_conflict a b A T its id w hs hil h1 h2
theorem e15L_len: ∀c∈e15L,c.length≤1000:=by decide
set_option maxRecDepth 100000 in
set_option maxHeartbeats 4000000 in
theorem awake15_any (w:World):Calls Tryz.prog 22 #[] w fun e w'=>e= .returned (.bool true)∧Below w.heap.size w w':=by
 have HEX:=Lib.hid (example15_any w)
 go_enter Tryz.func22,Tryz.ntmps22
 go_wp2_with fail
 refine HEX.out.mono ?_
 rintro e w1 ⟨cv,g,W6,rfl,hc,hz6,hb6,hg,hwg,hb1⟩
 have HC:=Lib.hid hc
 have HB1:=Lib.hid hb1
 obtain⟨Ac,cc,rfl,_⟩:=hc
 rw[show e15L.length=4 from rfl]at HC
 have ha1:ActsIn w1 (.slice (some ⟨g,0,none⟩) 7 7) e15A:=acts_of_block (l:=e15A) hg rfl (by rw[List.toList_toArray];exact List.take_of_length_le (by decide))
 have hp:=put_any 5 _ _ e15L e15A w1 (by decide) ((HC.out).below (by rw[hz6];exact hb6)) ha1 (by decide) e15L_len (by decide)
 have HP:=Lib.hid hp
 clear hg hb6 hb1 hz6 ha1 hp HEX
 rw[show e15L.length=4 from rfl]
 go_wp2_with fail
 refine HP.out.mono ?_
 rintro e w2 ⟨a,b,rfl,hpa,hb2⟩
 rw[show addAll arn0 0 e15L=e15Ar from rfl,show playAll (trl0 5) e15A=e15T from rfl]at hpa
 have HPA:=Lib.hid hpa
 have HB2:=Lib.hid (HB1.out.trans (hb2.mono HB1.out.size))
 have hcf:=put_minconf 4 hpa e15_sim e15_len
 rw[e15_min]at hcf
 have HCF:=Lib.hid hcf
 clear hcf HP hpa hb2
 go_wp2_with fail
 refine HCF.out.mono ?_
 rintro e w3 ⟨⟨v,rfl,hv⟩,hb3⟩
 obtain⟨Ax,cx,Ay,cy,Az,cz,rfl,hx,hy,hz⟩:=hv.parts
 have HX:=Lib.hid hx
 have HY:=Lib.hid hy
 have HZ:=Lib.hid hz
 have HPA3:=Lib.hid (HPA.out.below hb3)
 have HB3:=Lib.hid (HB2.out.trans (hb3.mono HB2.out.size))
 obtain⟨Wa,hWa⟩: ∃x,w3.alloc (.cells #[.slice Ax 2 cx,.int .i64 1,.int .i64 2,.slice Ay 3 cy,.slice Az 4 cz] 65)=x:=⟨_,rfl⟩
 have hbA:Below w3.heap.size w3 Wa:=by rw[←hWa];exact mx_al _ _
 have hbx:Wa.heap[w3.heap.size]? =some (.cells #[.slice Ax 2 cx,.int .i64 1,.int .i64 2,.slice Ay 3 cy,.slice Az 4 cz] 65 (0,0)):=by rw[←hWa];exact World.alloc_heap_new _ _
 have hzA:Wa.heap.size=w3.heap.size+1:=by rw[←hWa];simp
 obtain⟨Wb,hWb⟩: ∃x,Wa.alloc (.cells #[.int .i64 (-5),.int .i64 (-1)] 32)=x:=⟨_,rfl⟩
 have hbB:Below Wa.heap.size Wa Wb:=by rw[←hWb];exact mx_al _ _
 have hlf:IntsIn (fun g=>g=Wa.heap.size) Wb (.slice (some ⟨Wa.heap.size,0,none⟩) 2 2) [-5,-1]:=by rw[←hWb];exact mx_ints Wa [-5,-1] _
 have HWA:=Lib.hid hWa
 have HWB:=Lib.hid hWb
 have HBX:=Lib.hid ((hbB.block _ (heap_lt hbx)).trans hbx)
 have HBAB:=Lib.hid (hbA.trans (hbB.mono hbA.size))
 have HPB:=Lib.hid (HPA3.out.below HBAB.out)
 have HLF:=Lib.hid hlf
 rw[hzA]at HLF
 have h2:=put_covered (some ⟨w3.heap.size+1,0,none⟩) 2 [-5,-1] (-2) HPB.out e15_sim e15_len HLF.out (by decide)
 rw[e15_two,e15_fe]at h2
 have HC2:=Lib.hid h2
 clear hv hx hy hz HCF hb3 hWa hbA hbx hWb hbB hlf h2 hzA
 go_wp2_with fail
 rw[HWA.out,HWB.out]
 refine HC2.out.mono ?_
 rintro e w4 ⟨rfl,hb4⟩
 have HB4:=Lib.hid (HBAB.out.trans (hb4.mono HBAB.out.size))
 have HPA4:=Lib.hid (HPB.out.below hb4)
 have HL4:=Lib.hid (HLF.out.below hb4)
 have HX4:=Lib.hid ((hb4.block _ (heap_lt HBX.out)).trans HBX.out)
 have h4:=put_covered (some ⟨w3.heap.size+1,0,none⟩) 2 [-5,-1] (-4) HPA4.out e15_sim e15_len HL4.out (by decide)
 rw[e15_four,e15_fe]at h4
 have HC4:=Lib.hid h4
 clear hb4 h4 HC2
 go_wp2_with fail
 refine HC4.out.mono ?_
 rintro e w5 ⟨rfl,hb5⟩
 have HB5:=Lib.hid (HB4.out.trans (hb5.mono HB4.out.size))
 have HPA5:=Lib.hid (HPA4.out.below hb5)
 have HL5:=Lib.hid (HL4.out.below hb5)
 have HX5:=Lib.hid ((hb5.block _ (heap_lt HX4.out)).trans HX4.out)
 obtain⟨Wc,hWc⟩: ∃x,w5.alloc (.cells #[.int .i64 (-5),.int .i64 (-3),.int .i64 (-2),.int .i64 (-1)] 32)=x:=⟨_,rfl⟩
 have hbC:Below w5.heap.size w5 Wc:=by rw[←hWc];exact mx_al _ _
 have hlc:IntsIn (fun g=>g=w5.heap.size) Wc (.slice (some ⟨w5.heap.size,0,none⟩) 4 4) [-5,-3,-2,-1]:=by rw[←hWc];exact mx_ints w5 [-5,-3,-2,-1] _
 have h6:=put_redundant (some ⟨w5.heap.size,0,none⟩) 4 [-5,-3,-2,-1] (-3) (HPA5.out.below hbC) e15_sim e15_len hlc (by decide)
 rw[e15_three,e15_fe3]at h6
 have HC6:=Lib.hid h6
 have HWC:=Lib.hid hWc
 have HBC:=Lib.hid hbC
 clear hb5 hWc hbC hlc h6 HC4
 go_wp2_with fail
 rw[HWC.out]
 refine HC6.out.mono ?_
 rintro e w6 ⟨rfl,hb6⟩
 have hbb:=HBC.out.trans (hb6.mono HBC.out.size)
 have HB6:=Lib.hid (HB5.out.trans (hbb.mono HB5.out.size))
 have HPA6:=Lib.hid (HPA5.out.below hbb)
 have HL6:=Lib.hid (HL5.out.below hbb)
 have HX6:=Lib.hid ((hbb.block _ (heap_lt HX5.out)).trans HX5.out)
 obtain⟨Wd,hWd⟩: ∃x,w6.alloc (.cells #[.int .i64 5] 32)=x:=⟨_,rfl⟩
 have hbD:Below w6.heap.size w6 Wd:=by rw[←hWd];exact mx_al _ _
 have hld:IntsIn (fun g=>g=w6.heap.size) Wd (.slice (some ⟨w6.heap.size,0,none⟩) 1 1) [5]:=by rw[←hWd];exact mx_ints w6 [5] _
 have h7:=put_shorten (some ⟨w6.heap.size,0,none⟩) 1 [5] (HPA6.out.below hbD) e15_sim e15_len hld (by decide)
 rw[e15_fe5]at h7
 have HC7:=Lib.hid h7
 have HWD:=Lib.hid hWd
 have HBD:=Lib.hid hbD
 clear hb6 hbb hWd hbD hld h7 HC6 HWC HBC
 go_wp2_with fail
 rw[HWD.out]
 refine HC7.out.mono ?_
 rintro e w7 ⟨⟨u7,rfl,_⟩,hb7⟩
 have hbb:=HBD.out.trans (hb7.mono HBD.out.size)
 have HB7:=Lib.hid (HB6.out.trans (hbb.mono HB6.out.size))
 have HL7:=Lib.hid (HL6.out.below hbb)
 have HX7:=Lib.hid ((hbb.block _ (heap_lt HX6.out)).trans HX6.out)
 clear hb7 hbb HC7 HWD HBD
 have hq:=eq_c (.slice Ax 2 cx) (.slice (some ⟨w3.heap.size+1,0,none⟩) 2 2) [-5,-1] [-5,-1] w7 (HX.out w7 HB7.out) HL7.out (by decide)
 rw[show(([-5,-1] :List Int)== [-5,-1])=true from rfl]at hq
 have HQ:=Lib.hid hq
 clear hq
 obtain⟨⟨o0,o1,o2,o3,o4⟩,_⟩:=cells5 HX7.out
 go_wp2_with fail
 refine HQ.out.mono ?_
 rintro e w8 ⟨rfl,n8,hw8⟩
 have hb8:Below w7.heap.size w7 w8:=by rw[hw8];exact mx_drewN _ _
 have HB8:=Lib.hid (HB7.out.trans (hb8.mono HB7.out.size))
 have HX8:=Lib.hid ((hb8.block _ (heap_lt HX7.out)).trans HX7.out)
 clear HQ hw8 hb8 o0 o1 o2 o3 o4
 obtain⟨⟨o0,o1,o2,o3,o4⟩,_⟩:=cells5 HX8.out
 go_wp2_with fail
 have hq:=eqi_lit w8 (.slice Ay 3 cy) [1,2,4] [1,2,4] (fun w' hb=>HY.out w' (HB8.out.trans (hb.mono HB8.out.size))) (by decide)
 skip
 rw[show(([1,2,4] :List Int)== [1,2,4])=true from rfl]at hq
 have HQ:=Lib.hid hq
 clear hq
 refine HQ.out.mono ?_
 rintro e w9 ⟨rfl,hbq⟩
 clear HQ
 have HB9:=Lib.hid (HB8.out.trans (hbq.mono HB8.out.size))
 clear o0 o1 o2 o3 o4
 obtain⟨⟨o0,o1,o2,o3,o4⟩,_⟩:=cells5 ((hbq.block _ (heap_lt HX8.out)).trans HX8.out)
 clear hbq
 go_wp2_with fail
 have hq:=eqi_lit w9 (.slice Az 4 cz) [1,2,3,5] [1,2,3,5] (fun w' hb=>HZ.out w' (HB9.out.trans (hb.mono HB9.out.size))) (by decide)
 skip
 rw[show(([1,2,3,5] :List Int)== [1,2,3,5])=true from rfl]at hq
 have HQ:=Lib.hid hq
 clear hq
 refine HQ.out.mono ?_
 rintro e w10 ⟨rfl,hbq⟩
 clear HQ
 have HB10:=Lib.hid (HB3.out.trans ((HB9.out.trans (hbq.mono HB9.out.size)).mono HB3.out.size))
 clear o0 o1 o2 o3 o4 hbq
 go_wp2_with fail
 go_ret
 exact⟨rfl,HB10.out⟩
end Go.Proofs.YtoojmhjagipmdaaGreat
