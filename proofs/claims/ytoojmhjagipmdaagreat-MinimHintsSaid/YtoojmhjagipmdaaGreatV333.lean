/- The example of chapter 15; awake (package salvorlaw15). MinimOnce: the walk. package salvorlaw15: follows. slices.Backward at literals. -/
import Derived.Test.YtoojmhjagipmdaaGreatV331
import Derived.Test.YtoojmhjagipmdaaGreatV312
import Derived.Test.YtoojmhjagipmdaaGreatV325
import Derived.Test.YtoojmhjagipmdaaGreatV332
import Derived.Test.YtoojmhjagipmdaaGreatV324
import Derived.Test.YtoojmhjagipmdaaGreatV327
import Derived.Test.YtoojmhjagipmdaaGreatV329
namespace Go.Proofs.YtoojmhjagipmdaaGreat
open Go.RowKit
def e15L:List (List Int):= [[-1,2],[-1,3],[-4,5],[-5,-2,-3,-1]]
def e15A:List ActP:= [⟨true,0,0⟩,⟨false,1,0⟩,⟨false,2,1⟩,⟨false,3,2⟩,⟨true,0,0⟩,⟨false,4,0⟩,⟨false,5,3⟩]
def e15Ar:Arn:=addAll arn0 0 e15L
def e15T:Trl:=playAll (trl0 5) e15A
def e15R:RTr:=rPlayAll ⟨5,0,[],[0]⟩ e15A
theorem e15_sim:Sim e15T e15R.items:=((tsim0 5 (by decide)).playAll e15A).sim
theorem e15_len:e15R.items.length≤500000:=by decide
theorem e15_get4:e15Ar.get 4=some [-5,-2,-3,-1]:=by kernel_rfl
theorem e15_f4:e15T.failMax [-5,-2,-3,-1] 0=some 2:=by kernel_rfl
theorem e15_end:cfEnd e15Ar e15T 2 [-5,-2,-3,-1]=some ⟨[5,2,3,1],1,[-5,-3,-2,-1],[],[5,3,2,1]⟩:=by kernel_rfl
theorem e15_conf:(confP e15Ar e15T 4).1.lits= [-5,-3,-2,-1]∧(confP e15Ar e15T 4).2=0∧(confP e15Ar e15T 4).1.met= [1,2,3,5]:=by
 unfold confP
 rw[e15_get4]
 simp only[e15_f4,e15_end]
 exact⟨trivial,trivial,sortI_eq (xs:= [5,3,2,1]) (ys:= [1,2,3,5]) (by decide) (by decide)⟩
theorem e15_short:short15 e15Ar e15T [-5,-3,-2,-1]= [-5,-1]:=by kernel_rfl
theorem e15_hint:hintP e15Ar e15T [-5,-1] 4=([1,2,4],0):=by kernel_rfl
theorem e15_lv:e15T.levelsOf [-5,-1]=2:=by
 unfold Trl.levelsOf Trl.nLevels
 rw[if_pos (by decide),show e15T.lvls [-5,-1]= [2,1]from by kernel_rfl,sortI_eq (ys:= [1,2]) (by decide) (by decide)]
 rfl
theorem e15_min:minP e15Ar e15T 4=(⟨[-5,-1],1,2,[1,2,4],[1,2,3,5]⟩,0):=by
 unfold minP
 obtain⟨h1,h2,h3⟩:=e15_conf
 rw[h1,h2,h3,e15_short,e15_hint,e15_lv,show e15T.backOf [-5,-1]=1 from by kernel_rfl]
 rfl
theorem e15_two:(if failE e15T [-5,-1]=0 then decide (e15T.val (-2)<0)&&cov15 e15Ar e15T [-5,-1] (-2)else false)=true:=by kernel_rfl
theorem e15_four:(if failE e15T [-5,-1]=0 then decide (e15T.val (-4)<0)&&cov15 e15Ar e15T [-5,-1] (-4)else false)=false:=by kernel_rfl
theorem e15_fe:failE e15T [-5,-1]=0:=by kernel_rfl
theorem e15_three:(if failE e15T [-5,-3,-2,-1]=0 then [-5,-3,-2,-1].contains (-3)&&impl15 e15Ar e15T [-5,-3,-2,-1] (litV (-3))else false)=true:=by kernel_rfl
theorem e15_fe3:failE e15T [-5,-3,-2,-1]=0:=by kernel_rfl
theorem e15_fe5:failE e15T [5]=140:=by kernel_rfl
theorem ex_in15 {w:World} {n:Nat} {xs:List Int} {t:TypeId} {W:World} (hs:W.heap.size=n) (hb:Below (n+1) (W.alloc (.cells (xs.map (Value.int .i64)).toArray t)) w):IntsIn (fun g=>g<w.heap.size) w (.slice (some ⟨n,0,none⟩) xs.length xs.length) xs:=by
 subst hs
 have hb':Below (W.alloc (.cells (xs.map (Value.int .i64)).toArray t)).heap.size (W.alloc (.cells (xs.map (Value.int .i64)).toArray t)) w:=by simpa using hb
 refine((mx_ints W xs t).below hb').mono (fun g hg=>?_)
 have:=hb.size
 simp at this
 omega
set_option maxRecDepth 100000 in
set_option maxHeartbeats 1000000 in
theorem example15_any (w:World):
  Calls Tryz.prog 69 #[] w fun e w'=> ∃cv g W6,e= .returned (.tuple #[cv,.slice (some ⟨g,0,none⟩) 7 7])∧ClsAt W6 cv e15L∧W6.heap.size=g∧Below g W6 w'∧w'.heap[g]? =some (.cells (e15A.flatMap ActP.cells).toArray 90 (0,0))∧w.heap.size≤g∧Below w.heap.size w w':=by
 obtain⟨W6,hW6,hb6,hc6⟩: ∃W6,((((w.alloc (.cells #[.int .i64 (-1),.int .i64 2] 32)).alloc (.cells #[.int .i64 (-1),.int .i64 3] 32)).alloc (.cells #[.int .i64 (-4),.int .i64 5] 32)).alloc (.cells #[.int .i64 (-5),.int .i64 (-2),.int .i64 (-3),.int .i64 (-1)] 32)).alloc (.cells #[.slice (some ⟨w.heap.size,0,none⟩) 2 2,.slice (some ⟨w.heap.size+1,0,none⟩) 2 2,.slice (some ⟨w.heap.size+1+1,0,none⟩) 2 2,.slice (some ⟨w.heap.size+1+1+1,0,none⟩) 4 4] 34)=W6∧Below w.heap.size w W6∧ClsAt W6 (.slice (some ⟨w.heap.size+1+1+1+1,0,none⟩) 4 4) e15L:=by
  refine⟨_,rfl,(((((mx_al _ _).alloc (by simp) _).alloc (by simp;omega) _).alloc (by simp;omega) _).alloc (by simp;omega) _),?_⟩
  have key:=cls_new ((((w.alloc (.cells #[.int .i64 (-1),.int .i64 2] 32)).alloc (.cells #[.int .i64 (-1),.int .i64 3] 32)).alloc (.cells #[.int .i64 (-4),.int .i64 5] 32)).alloc (.cells #[.int .i64 (-5),.int .i64 (-2),.int .i64 (-3),.int .i64 (-1)] 32)) [.slice (some ⟨w.heap.size,0,none⟩) 2 2,.slice (some ⟨w.heap.size+1,0,none⟩) 2 2,.slice (some ⟨w.heap.size+1+1,0,none⟩) 2 2,.slice (some ⟨w.heap.size+1+1+1,0,none⟩) 4 4] e15L 34 (fun i xs hi=>by
   match i,hi with
   | 0,hi=>
    obtain rfl:=Option.some.inj hi
    exact⟨_,rfl,ex_in15 (xs:= [-1,2]) (W:=w) rfl ((((mx_al _ _).mono (by simp)).alloc (by simp) _).alloc (by simp) _)⟩
   | 1,hi=>
    obtain rfl:=Option.some.inj hi
    exact⟨_,rfl,ex_in15 (xs:= [-1,3]) (W:=(w.alloc (.cells #[.int .i64 (-1),.int .i64 2] 32))) (by simp) (((mx_al _ _).mono (by simp)).alloc (by simp) _)⟩
   | 2,hi=>
    obtain rfl:=Option.some.inj hi
    exact⟨_,rfl,ex_in15 (xs:= [-4,5]) (W:=((w.alloc (.cells #[.int .i64 (-1),.int .i64 2] 32)).alloc (.cells #[.int .i64 (-1),.int .i64 3] 32))) (by simp) ((mx_al _ _).mono (by simp))⟩
   | 3,hi=>
    obtain rfl:=Option.some.inj hi
    exact⟨_,rfl,ex_in15 (xs:= [-5,-2,-3,-1]) (W:=(((w.alloc (.cells #[.int .i64 (-1),.int .i64 2] 32)).alloc (.cells #[.int .i64 (-1),.int .i64 3] 32)).alloc (.cells #[.int .i64 (-4),.int .i64 5] 32))) (by simp) ((Below.refl _ _))⟩
   | n+4,hi=>exact absurd hi (by simp[e15L]))
  simpa [e15L] using key
 have hsz:W6.heap.size=w.heap.size+1+1+1+1+1:=by rw[←hW6];simp
 have HSZ:=Lib.hid hsz
 have HW6:=Lib.hid hW6
 have HB6:=Lib.hid hb6
 have HC6:=Lib.hid hc6
 clear hW6 hb6 hc6 hsz
 go_enter Tryz.func69,Tryz.ntmps69
 go_wp2_with fail
 rw[HW6.out]
 go_ret2
 have hnew:=World.alloc_heap_new W6 (.cells (e15A.flatMap ActP.cells).toArray 90)
 have hb:=mx_al W6 (.cells (e15A.flatMap ActP.cells).toArray 90)
 rw[HSZ.out]at hnew hb
 exact⟨_,_,W6,rfl,HC6.out,HSZ.out,hb,hnew,by omega,HB6.out.trans (hb.mono (by omega))⟩
theorem put_covered {n:Nat} {w:World} {a b:Nat} {A:Arn} {T:Trl} {its:List RIt} {OC:Nat→Prop} (Ac:Option Addr) (cc:Nat) (c:List Int) (l:Int) (h:PutAt n w a b A T) (hs:Sim T its) (hil:its.length≤500000) (hc:IntsIn OC w (.slice Ac c.length cc) c) (hcl:c.length≤4194304):
  Calls Tryz.prog 29 #[.pointer (some ⟨a,0,none⟩),.pointer (some ⟨b,0,none⟩),.slice Ac c.length cc,.int .i64 l] w fun e w'=>e= .returned (.tuple #[.bool (if failE T c=0 then decide (T.val l<0)&&cov15 A T c l else false),.int .i64 (failE T c)])∧Below w.heap.size w w':=by
 obtain⟨_,OA,OT,h1,h2,_⟩:=h
 exact mn_covered a b A T its Ac cc c l w hs hil h1 h2 hc hcl
theorem put_redundant {n:Nat} {w:World} {a b:Nat} {A:Arn} {T:Trl} {its:List RIt} {OC:Nat→Prop} (Ac:Option Addr) (cc:Nat) (c:List Int) (l:Int) (h:PutAt n w a b A T) (hs:Sim T its) (hil:its.length≤500000) (hc:IntsIn OC w (.slice Ac c.length cc) c) (hcl:c.length≤4194304):
  Calls Tryz.prog 27 #[.pointer (some ⟨a,0,none⟩),.pointer (some ⟨b,0,none⟩),.slice Ac c.length cc,.int .i64 l] w fun e w'=>e= .returned (.tuple #[.bool (if failE T c=0 then c.contains l&&impl15 A T c (litV l)else false),.int .i64 (failE T c)])∧Below w.heap.size w w':=by
 obtain⟨_,OA,OT,h1,h2,_⟩:=h
 exact mn_redundant a b A T its Ac cc c l w hs hil h1 h2 hc hcl
theorem put_shorten {n:Nat} {w:World} {a b:Nat} {A:Arn} {T:Trl} {its:List RIt} {OC:Nat→Prop} (Ac:Option Addr) (cc:Nat) (c:List Int) (h:PutAt n w a b A T) (hs:Sim T its) (hil:its.length≤500000) (hc:IntsIn OC w (.slice Ac c.length cc) c) (hcl:c.length≤4194304):
  Calls Tryz.prog 24 #[.pointer (some ⟨a,0,none⟩),.pointer (some ⟨b,0,none⟩),.slice Ac c.length cc] w fun e w'=>(∃u',e= .returned (.tuple #[u',.int .i64 (failE T c)])∧w'.ownsRow w.heap.size 32 1 u' (if failE T c=0 then short15 A T c else []).length ((if failE T c=0 then short15 A T c else []).map (Value.int .i64)))∧Below w.heap.size w w':=by
 obtain⟨_,OA,OT,h1,h2,_⟩:=h
 exact mn_shorten_any a b A T its Ac cc c w hs hil h1 h2 hc hcl
theorem put_minconf {n:Nat} {w:World} {a b:Nat} {A:Arn} {T:Trl} {its:List RIt} (id:Int) (h:PutAt n w a b A T) (hs:Sim T its) (hil:its.length≤500000):
  Calls Tryz.prog 45 #[.pointer (some ⟨a,0,none⟩),.pointer (some ⟨b,0,none⟩),.int .i64 id] w fun e w'=>(∃v,e= .returned (.tuple #[v,.int .i64 ((minP A T id).2:Nat)])∧LrnAt w.heap.size w' v (minP A T id).1)∧Below w.heap.size w w':=by
 obtain⟨_,OA,OT,h1,h2,_⟩:=h
 exact mn_conflict a b A T its id w hs hil h1 h2
theorem e15L_len: ∀c∈e15L,c.length≤1000:=by decide
set_option maxRecDepth 100000 in
set_option maxHeartbeats 4000000 in
theorem awake15_any (w:World):Calls Tryz.prog 22 #[] w fun e w'=>e= .returned (.bool true)∧Below w.heap.size w w':=by
 have HEX:=Lib.hid (example15_any w)
 go_enter Tryz.func22,Tryz.ntmps22
 go_wp2_with fail
 refine HEX.out.mono ?_
 rintro e w1 ⟨cv,g,W6,rfl,hc,hz6,hb6,hg,hwg,hb1⟩
 have HC:=Lib.hid hc
 have HB1:=Lib.hid hb1
 obtain⟨Ac,cc,rfl,_⟩:=hc
 rw[show e15L.length=4 from rfl]at HC
 have ha1:ActsIn w1 (.slice (some ⟨g,0,none⟩) 7 7) e15A:=acts_of_block (l:=e15A) hg rfl (by rw[List.toList_toArray];exact List.take_of_length_le (by decide))
 have hp:=put_any 5 _ _ e15L e15A w1 (by decide) ((HC.out).below (by rw[hz6];exact hb6)) ha1 (by decide) e15L_len (by decide)
 have HP:=Lib.hid hp
 clear hg hb6 hb1 hz6 ha1 hp HEX
 rw[show e15L.length=4 from rfl]
 go_wp2_with fail
 refine HP.out.mono ?_
 rintro e w2 ⟨a,b,rfl,hpa,hb2⟩
 rw[show addAll arn0 0 e15L=e15Ar from rfl,show playAll (trl0 5) e15A=e15T from rfl]at hpa
 have HPA:=Lib.hid hpa
 have HB2:=Lib.hid (HB1.out.trans (hb2.mono HB1.out.size))
 have hcf:=put_minconf 4 hpa e15_sim e15_len
 rw[e15_min]at hcf
 have HCF:=Lib.hid hcf
 clear hcf HP hpa hb2
 go_wp2_with fail
 refine HCF.out.mono ?_
 rintro e w3 ⟨⟨v,rfl,hv⟩,hb3⟩
 obtain⟨Ax,cx,Ay,cy,Az,cz,rfl,hx,hy,hz⟩:=hv.parts
 have HX:=Lib.hid hx
 have HY:=Lib.hid hy
 have HZ:=Lib.hid hz
 have HPA3:=Lib.hid (HPA.out.below hb3)
 have HB3:=Lib.hid (HB2.out.trans (hb3.mono HB2.out.size))
 obtain⟨Wa,hWa⟩: ∃x,w3.alloc (.cells #[.slice Ax 2 cx,.int .i64 1,.int .i64 2,.slice Ay 3 cy,.slice Az 4 cz] 65)=x:=⟨_,rfl⟩
 have hbA:Below w3.heap.size w3 Wa:=by rw[←hWa];exact mx_al _ _
 have hbx:Wa.heap[w3.heap.size]? =some (.cells #[.slice Ax 2 cx,.int .i64 1,.int .i64 2,.slice Ay 3 cy,.slice Az 4 cz] 65 (0,0)):=by rw[←hWa];exact World.alloc_heap_new _ _
 have hzA:Wa.heap.size=w3.heap.size+1:=by rw[←hWa];simp
 obtain⟨Wb,hWb⟩: ∃x,Wa.alloc (.cells #[.int .i64 (-5),.int .i64 (-1)] 32)=x:=⟨_,rfl⟩
 have hbB:Below Wa.heap.size Wa Wb:=by rw[←hWb];exact mx_al _ _
 have hlf:IntsIn (fun g=>g=Wa.heap.size) Wb (.slice (some ⟨Wa.heap.size,0,none⟩) 2 2) [-5,-1]:=by rw[←hWb];exact mx_ints Wa [-5,-1] _
 have HWA:=Lib.hid hWa
 have HWB:=Lib.hid hWb
 have HBX:=Lib.hid ((hbB.block _ (heap_lt hbx)).trans hbx)
 have HBAB:=Lib.hid (hbA.trans (hbB.mono hbA.size))
 have HPB:=Lib.hid (HPA3.out.below HBAB.out)
 have HLF:=Lib.hid hlf
 rw[hzA]at HLF
 have h2:=put_covered (some ⟨w3.heap.size+1,0,none⟩) 2 [-5,-1] (-2) HPB.out e15_sim e15_len HLF.out (by decide)
 rw[e15_two,e15_fe]at h2
 have HC2:=Lib.hid h2
 clear hv hx hy hz HCF hb3 hWa hbA hbx hWb hbB hlf h2 hzA
 go_wp2_with fail
 rw[HWA.out,HWB.out]
 refine HC2.out.mono ?_
 rintro e w4 ⟨rfl,hb4⟩
 have HB4:=Lib.hid (HBAB.out.trans (hb4.mono HBAB.out.size))
 have HPA4:=Lib.hid (HPB.out.below hb4)
 have HL4:=Lib.hid (HLF.out.below hb4)
 have HX4:=Lib.hid ((hb4.block _ (heap_lt HBX.out)).trans HBX.out)
 have h4:=put_covered (some ⟨w3.heap.size+1,0,none⟩) 2 [-5,-1] (-4) HPA4.out e15_sim e15_len HL4.out (by decide)
 rw[e15_four,e15_fe]at h4
 have HC4:=Lib.hid h4
 clear hb4 h4 HC2
 go_wp2_with fail
 refine HC4.out.mono ?_
 rintro e w5 ⟨rfl,hb5⟩
 have HB5:=Lib.hid (HB4.out.trans (hb5.mono HB4.out.size))
 have HPA5:=Lib.hid (HPA4.out.below hb5)
 have HL5:=Lib.hid (HL4.out.below hb5)
 have HX5:=Lib.hid ((hb5.block _ (heap_lt HX4.out)).trans HX4.out)
 obtain⟨Wc,hWc⟩: ∃x,w5.alloc (.cells #[.int .i64 (-5),.int .i64 (-3),.int .i64 (-2),.int .i64 (-1)] 32)=x:=⟨_,rfl⟩
 have hbC:Below w5.heap.size w5 Wc:=by rw[←hWc];exact mx_al _ _
 have hlc:IntsIn (fun g=>g=w5.heap.size) Wc (.slice (some ⟨w5.heap.size,0,none⟩) 4 4) [-5,-3,-2,-1]:=by rw[←hWc];exact mx_ints w5 [-5,-3,-2,-1] _
 have h6:=put_redundant (some ⟨w5.heap.size,0,none⟩) 4 [-5,-3,-2,-1] (-3) (HPA5.out.below hbC) e15_sim e15_len hlc (by decide)
 rw[e15_three,e15_fe3]at h6
 have HC6:=Lib.hid h6
 have HWC:=Lib.hid hWc
 have HBC:=Lib.hid hbC
 clear hb5 hWc hbC hlc h6 HC4
 go_wp2_with fail
 rw[HWC.out]
 refine HC6.out.mono ?_
 rintro e w6 ⟨rfl,hb6⟩
 have hbb:=HBC.out.trans (hb6.mono HBC.out.size)
 have HB6:=Lib.hid (HB5.out.trans (hbb.mono HB5.out.size))
 have HPA6:=Lib.hid (HPA5.out.below hbb)
 have HL6:=Lib.hid (HL5.out.below hbb)
 have HX6:=Lib.hid ((hbb.block _ (heap_lt HX5.out)).trans HX5.out)
 obtain⟨Wd,hWd⟩: ∃x,w6.alloc (.cells #[.int .i64 5] 32)=x:=⟨_,rfl⟩
 have hbD:Below w6.heap.size w6 Wd:=by rw[←hWd];exact mx_al _ _
 have hld:IntsIn (fun g=>g=w6.heap.size) Wd (.slice (some ⟨w6.heap.size,0,none⟩) 1 1) [5]:=by rw[←hWd];exact mx_ints w6 [5] _
 have h7:=put_shorten (some ⟨w6.heap.size,0,none⟩) 1 [5] (HPA6.out.below hbD) e15_sim e15_len hld (by decide)
 rw[e15_fe5]at h7
 have HC7:=Lib.hid h7
 have HWD:=Lib.hid hWd
 have HBD:=Lib.hid hbD
 clear hb6 hbb hWd hbD hld h7 HC6 HWC HBC
 go_wp2_with fail
 rw[HWD.out]
 refine HC7.out.mono ?_
 rintro e w7 ⟨⟨u7,rfl,_⟩,hb7⟩
 have hbb:=HBD.out.trans (hb7.mono HBD.out.size)
 have HB7:=Lib.hid (HB6.out.trans (hbb.mono HB6.out.size))
 have HL7:=Lib.hid (HL6.out.below hbb)
 have HX7:=Lib.hid ((hbb.block _ (heap_lt HX6.out)).trans HX6.out)
 clear hb7 hbb HC7 HWD HBD
 have hq:=eq_c (.slice Ax 2 cx) (.slice (some ⟨w3.heap.size+1,0,none⟩) 2 2) [-5,-1] [-5,-1] w7 (HX.out w7 HB7.out) HL7.out (by decide)
 rw[show(([-5,-1] :List Int)== [-5,-1])=true from rfl]at hq
 have HQ:=Lib.hid hq
 clear hq
 obtain⟨⟨o0,o1,o2,o3,o4⟩,_⟩:=cells5 HX7.out
 go_wp2_with fail
 refine HQ.out.mono ?_
 rintro e w8 ⟨rfl,n8,hw8⟩
 have hb8:Below w7.heap.size w7 w8:=by rw[hw8];exact mx_drewN _ _
 have HB8:=Lib.hid (HB7.out.trans (hb8.mono HB7.out.size))
 have HX8:=Lib.hid ((hb8.block _ (heap_lt HX7.out)).trans HX7.out)
 clear HQ hw8 hb8 o0 o1 o2 o3 o4
 obtain⟨⟨o0,o1,o2,o3,o4⟩,_⟩:=cells5 HX8.out
 go_wp2_with fail
 have hq:=eqi_lit w8 (.slice Ay 3 cy) [1,2,4] [1,2,4] (fun w' hb=>HY.out w' (HB8.out.trans (hb.mono HB8.out.size))) (by decide)
 skip
 rw[show(([1,2,4] :List Int)== [1,2,4])=true from rfl]at hq
 have HQ:=Lib.hid hq
 clear hq
 refine HQ.out.mono ?_
 rintro e w9 ⟨rfl,hbq⟩
 clear HQ
 have HB9:=Lib.hid (HB8.out.trans (hbq.mono HB8.out.size))
 clear o0 o1 o2 o3 o4
 obtain⟨⟨o0,o1,o2,o3,o4⟩,_⟩:=cells5 ((hbq.block _ (heap_lt HX8.out)).trans HX8.out)
 clear hbq
 go_wp2_with fail
 have hq:=eqi_lit w9 (.slice Az 4 cz) [1,2,3,5] [1,2,3,5] (fun w' hb=>HZ.out w' (HB9.out.trans (hb.mono HB9.out.size))) (by decide)
 skip
 rw[show(([1,2,3,5] :List Int)== [1,2,3,5])=true from rfl]at hq
 have HQ:=Lib.hid hq
 clear hq
 refine HQ.out.mono ?_
 rintro e w10 ⟨rfl,hbq⟩
 clear HQ
 have HB10:=Lib.hid (HB3.out.trans ((HB9.out.trans (hbq.mono HB9.out.size)).mono HB3.out.size))
 clear o0 o1 o2 o3 o4 hbq
 go_wp2_with fail
 go_ret
 exact⟨rfl,HB10.out⟩
end Go.Proofs.YtoojmhjagipmdaaGreat
namespace Go.Proofs.YtoojmhjagipmdaaGreat
open Go.RowKit
def onC (now xs:List Int):List Int:=if now.length=0 then []else xs.map fun n=> -(now.getD (n.toNat%now.length) 0)
theorem onC_snoc (now xs:List Int) (n:Int):onC now (xs++ [n])=if now.length=0 then onC now xs else onC now xs++ [-(now.getD (n.toNat%now.length) 0)]:=by
 unfold onC
 split
 ·rfl
 ·rw[List.map_append]
  rfl
theorem onC_mem {now xs:List Int} {y:Int} (h:y∈onC now xs): -y∈now:=by
 unfold onC at h
 split at h
 ·cases h
 ·rename_i h0
  obtain⟨n,_,rfl⟩:=List.mem_map.1 h
  have hl:n.toNat%now.length<now.length:=Nat.mod_lt _ (by omega)
  rw[Int.neg_neg,List.getD_eq_getElem?_getD,List.getElem?_eq_getElem hl]
  exact List.getElem_mem _
theorem onC_len (now xs:List Int):(onC now xs).length≤xs.length:=by
 unfold onC
 split
 ·exact Nat.zero_le _
 ·rw[List.length_map]
  exact Nat.le_refl _
theorem u8_wf {x:Int} (h:(Lit.int .u8 x).wf=true):0≤x∧x≤255:=by
 simp only[Lit.wf,Bool.and_eq_true,decide_eq_true_eq]at h
 exact⟨h.1,h.2⟩
section
variable {w0 w:World} {lab:Nat→Nat} {sb b ab tb:Nat} {A:Arn} {T:Trl} {its:List RIt} {S:Wst} {cs:List (List Int)} {av:Value} {us:List Value} {OC:Nat→Prop}
structure OnO (T:Trl) (its:List RIt) (c:List Int):Prop where
 fal: ∀y∈c,Has its (-y)
 len:c.length≤10
 clb:clauseB c=true
 six: ∀y∈c,y≠0∧ -7<y∧y<7
 fe:failE T c=0
 val: ∀y∈c,T.val y<0
theorem onO {c:List Int} (hs:Sim T its) (hv:T.vars.length=7) (hm: ∀y∈c,-y∈T.order) (hl:c.length≤10):OnO T its c:=by
 have hf: ∀y∈c,Has its (-y):=fun y hy=>by
  have:=hm y hy
  rw[hs.order]at this
  obtain⟨x,hx,e⟩:=List.mem_map.1 this
  obtain⟨p,hp⟩:=List.getElem?_of_mem hx
  exact⟨p,x,hp,e⟩
 have hb: ∀y∈c,litB y=true∧litV y<7:=fun y hy=>by
  obtain⟨p,x,hp,e⟩:=hf y hy
  obtain⟨h1,_⟩:=at_fal hs hp e
  have h2:=(hs.varlt hp).2
  rw[e,litV_negate]at h2
  exact⟨h1,by omega⟩
 have hcl:clauseB c=true:=by
  unfold clauseB
  rw[Bool.and_eq_true,decide_eq_true_eq,List.all_eq_true]
  exact⟨by omega,fun y hy=>(hb y hy).1⟩
 refine⟨hf,hl,hcl,fun y hy=>?_,fail_zero hs hcl hf,fun y hy=>?_⟩
 ·obtain⟨h1,h2⟩:=hb y hy
  have h3:=litV_pos h1
  have h4:=(litB_iff y).1 h1
  omega
 ·obtain⟨p,x,hp,e⟩:=hf y hy
  exact(at_fal hs hp e).2.2.1
theorem OnO.sub {c s:List Int} (h:OnO T its c) (hs:Sim T its) (hv:T.vars.length=7) (hm: ∀y∈s,y∈c) (hl:s.length≤10):OnO T its s:=
 onO hs hv (fun y hy=>by
  obtain⟨p,x,hp,e⟩:=h.fal y (hm y hy)
  rw[hs.order]
  exact List.mem_map.2 ⟨x,List.mem_of_getElem? hp,e⟩) hl
end
end Go.Proofs.YtoojmhjagipmdaaGreat
namespace Go.Proofs.YtoojmhjagipmdaaGreat
open Go.RowKit
theorem chk_nil {L:List Int} (hL:clauseB L=true) (hno: ∀y∈L,-y∉L):chkP L []=([],0,82)∧trimP L []= []:=by
 obtain⟨f,hf,_⟩:=asm_ok hL hno
 have hck:chkP L []=([],0,82):=by
  unfold chkP
  rw[if_neg (by rw[alwL_no hno];decide),hf]
  rfl
 refine⟨hck,?_⟩
 unfold trimP
 rw[hck]
 rfl
set_option maxRecDepth 100000 in
set_option maxHeartbeats 8000000 in
theorem law_follows15 {w0 w:World} {lab:Nat→Nat} {sb b ab tb:Nat} {A:Arn} {T:Trl} {S:Wst} {cs:List (List Int)} {av:Value} {us:List Value} {hcl:List (List Int)} {c ys:List Int} {u0 t0:List Int} {M E:Nat} (Ax Ay:Option Addr) (cx cy:Nat) (h:SrAt w0 w lab sb b ab tb A T S cs av us) (h6:Six cs)
  (hx:IntsIn (fun _=>True) w (.slice Ax c.length cx) c) (hy:IntsIn (fun _=>True) w (.slice Ay ys.length cy) ys) (hint: ∀(k:Nat) (h:Int),ys[k]? =some h→∃(i:Nat) (d:List Int),h=(i:Int)+1∧cs[i]? =some d∧hcl[k]? =some d)
  (hlen:hcl.length=ys.length) (hM:ys.length=M) (hM7:M≤1000) (hcb:clauseB c=true) (hdb: ∀d∈hcl,clauseB d=true) (hck:chkP c hcl=(u0,M,E)) (htr:trimP c hcl=t0) (ht:t0.length=M) (hE:E=0∨E=82):
  Calls Tryz.prog 42 #[.pointer (some ⟨sb,0,none⟩),.slice Ax c.length cx,.slice Ay ys.length cy] w fun e w'=>e= .returned (.bool (decide (E=0)))∧Below w.heap.size w w':=by
 obtain⟨i0,hi,hz0,hz1,hz2⟩:=info_parts info_cls
 have hsbl:=h.sblt
 rw[hM]
 rw[hM]at hy
 have HA:=Lib.hid h
 have HXS:=Lib.hid hx
 have HYS:=Lib.hid hy
 have HHINT:=Lib.hid hint
 have HLB:=Lib.hid hcb
 have HCL:=Lib.hid hdb
 have HCK:=Lib.hid hck
 have HTR:=Lib.hid htr
 have HTL:=Lib.hid ht
 have HLEN:=Lib.hid (hlen.trans hM)
 have HMM:=Lib.hid hM
 clear h hx hy hint hcb hdb hck htr hlen hM ht
 go_enter Tryz.func42,Tryz.ntmps42
 go_wp2_with fail
 go_loopw [7,16] (fun hv i wr=> ∃k:Nat,k≤M∧i= .int .i64 k∧Hid (HintsAt w wr hv k hcl)∧Hid (Below w.heap.size w wr)) (fun _ i _=>M-(intOf i).toNat)
 case atStart=>exact⟨0,Nat.zero_le _,rfl,Lib.hid (HintsAt.nil _ _ _),Lib.hid (Below.refl _ _)⟩
 case round=>
  obtain⟨k,hk,rfl,HH,HB⟩:=hrel
  by_cases hlt:k<M
  ·obtain⟨hh,hhk⟩:=getElem_of (show k<ys.length by rw[HMM.out];exact hlt)
   obtain⟨i,d,hhi,hid,hcd⟩:=HHINT.out k hh hhk
   have HAR:=Lib.hid (HA.out.below HB.out)
   obtain⟨-,-,-,e3⟩:=HAR.out.cells
   obtain⟨A',c',hAc,_,_,hyc⟩:=HYS.out.below HB.out
   simp only[Value.slice.injEq]at hAc
   obtain⟨rfl,-,rfl⟩:=hAc
   obtain⟨gy,oy,rfl,hgy,_,d0⟩:=hyc k hh hhk
   obtain⟨Aa,ca,hav,hca,_,hux⟩:=HA.out.cls.lt.below HB.out
   obtain⟨ga,oa,u,rfl,hga,_,hda,hu⟩:=hux i d hid
   subst hav
   have HU:=Lib.hid hu
   obtain⟨Au,cu,rfl,_⟩:=hu
   have hil:=(List.getElem?_eq_some_iff.1 hid).1
   have hcs9:=h6.1
   have q1:decide (hh<1)=false:=by simp;omega
   have q2:decide ((cs.length:Int)<hh)=false:=by simp;omega
   have q3:IntKind.i64.wrap (hh-1)=(i:Int):=by rw[IntWalk.i64_in _ (by omega)];omega
   have q4:(i:Int)<(cs.length:Int):=by omega
   obtain⟨vs,hrow,hin⟩:=HH.out.ex
   obtain⟨Ah,ch,rfl,_⟩:=mx_slice hrow
   have HROW:=Lib.hid hrow
   have HIN:=Lib.hid hin
   have HCD:=Lib.hid hcd
   clear hhi hid hcd hyc hux hhk hrow hin HH
   go_wp2_with (at_builtin;refine wpList_append_own_at _ rfl _ _ 28 rfl w.heap.size 34 i0 (.slice none 0 0) 1 24 Tryz.underlying28 hi hz0 hz1 hz2 rfl (by decide) _ k _ rfl (own_below HROW.out (mx_al wr _)) ⟨wr.heap.size,0,none⟩ 1 1 [.slice Au d.length cu] rfl rfl (fun i u hi=>by
    match i,hi with
    | 0,hi=>simp at hi;subst hi;simp[Addr.add]) (fun u hu=>by rw[List.mem_singleton.1 hu];rfl) (by unfold maxLen;omega) (by omega) (by have:=HB.out.size;simp;omega) ?_;intro v' w2 hown hgrow hnl2 hat)
   have hbx:=mx_al wr (.cells #[.slice Au d.length cu] 34)
   have hsz:=HB.out.size
   have hkx:Kept (fun g=>w.heap.size≤g) wr w2:=(Kept.of_below hbx).trans (Kept.grown hgrow) (fun i _ e=>(own_lt HROW.out i e.symm).1)
   have HB2:=Lib.hid (HB.out.trans (hkx.below (fun i h=>h) hsz))
   have HH2:=Lib.hid (show HintsAt w w2 v' (k+1) hcl from⟨_,hown,fun j d' hj hd'=>by
    have hvl:vs.length=k:=by have:=HROW.out.1;omega
    rcases Nat.lt_or_ge j k with hjk|hjk
    ·obtain⟨u',a1,a2⟩:=HIN.out j d' hjk hd'
     exact⟨u',by rw[List.getElem?_append_left (by omega)];exact a1,a2.kept hkx (fun g hg h=>by omega)⟩
    ·obtain rfl:j=k:=by omega
     rw[HCD.out]at hd'
     obtain rfl:=Option.some.inj hd'
     exact⟨_,by rw[List.getElem?_append_right (by omega),hvl,Nat.sub_self];rfl,(HU.out.mono (fun g hg=>hg.2)).kept hkx (fun g hg h=>by omega)⟩⟩)
   obtain⟨Av2,cv2,rfl,_⟩:=mx_slice hown
   clear hown hgrow hnl2 hat hbx hsz hkx
   go_wp2_with fail
   go_roundw
   case rel=>exact⟨k+1,by omega,by go_num,HH2,HB2⟩
   case measure=>simp[intOf];omega
  ·obtain rfl:k=M:=by omega
   have hcla:=(show HintsAt w wr _ hcl.length hcl from by rw[HLEN.out];exact HH.out).cls
   have HCLA:=Lib.hid hcla
   obtain⟨Ah,ch,rfl,_⟩:=hcla
   have hcll:=HLEN.out
   have hck:=rup_Check _ _ c hcl wr (HXS.out.below HB.out) HCLA.out HLB.out HCL.out (by omega)
   rw[HCK.out]at hck
   have HCKW:=Lib.hid hck
   rw[hcll]at HCLA
   rw[hcll]at hck HCKW⊢
   clear hck HH hlt hk
   go_wp2_with fail
   refine HCKW.out.mono ?_
   rintro e w3 ⟨rfl,hb3⟩
   have HB3:=Lib.hid (HB.out.trans (hb3.mono HB.out.size))
   have HTRW:=Lib.hid (rup_Trim _ _ c hcl w3 (HXS.out.below HB3.out) (HCLA.out.below hb3) HLB.out HCL.out (by omega))
   rw[HCK.out,HTR.out,HTL.out]at HTRW
   clear hb3 HCKW
   go_wp2_with fail
   refine HTRW.out.mono ?_
   rintro e w4 ⟨vt,rfl,ht4,hb4⟩
   obtain⟨At,ct,rfl,_⟩:=mx_slice ht4
   have HB4:=Lib.hid (HB3.out.trans (hb4.mono HB3.out.size))
   clear ht4 hb4 HTRW
   have q1:((k:Int)==(k:Int))=true:=by simp
   rcases hE with rfl|rfl
   ·go_wp2_with fail
    go_ret
    exact⟨by simp,HB4.out⟩
   ·go_wp2_with fail
    go_ret
    exact⟨by simp,HB4.out⟩
end Go.Proofs.YtoojmhjagipmdaaGreat
namespace Go.Proofs.YtoojmhjagipmdaaGreat
open Go.RowKit Go.Shelf Go.Maps
attribute [local go_sem] Oper.semAt_some
def bv (x:Int×Nat):Array Value:= #[.int .i64 (x.2:Int),.int .i64 x.1]
def BPre (xs:List Int) (_:Nat) (pre:List (Int×Nat)) (x:Int×Nat) (_:World):Prop:=pre++ [x] <+: xs.zipIdx.reverse
def BPost (X:Nat→Prop) (_:Int×Nat) (W W':World):Prop:=KpC X W W'
theorem BPost.turn {X:Nat→Prop} {x:Int×Nat} {W W3:World} {l:Nat} {r r':Loop} (h:BPost X x W W3) (hl:W3.heap[l]? =some (.loop r)):BPost X x W (W3.putObj l (.loop r')):=
 KpC.trans h ((KpC.putObj W3 l _ _ hl rfl rfl).mono (fun _ _ e=>e.elim))
theorem back_run (A:Option Addr) (n c:Nat) (w:World):Calls Tryz.prog 98 #[.slice A n c] w fun e w'=>e= .returned (.func (.func 140) #[] #[.pointer (some ⟨w.heap.size,0,none⟩)])∧w.alloc (.cells #[.slice A n c] 33)=w':=by
 go_enter Tryz.func98,Tryz.ntmps98
 go_wp2
 go_ret
 exact⟨rfl,rfl⟩
theorem zip_at {xs:List Int} {k:Nat} {x:Int} (h:xs[k]? =some x):(xs.zipIdx.take (k+1)).reverse=(x,k)::(xs.zipIdx.take k).reverse:=by
 rw[List.take_add_one,List.getElem?_zipIdx,h]
 simp
set_option maxRecDepth 100000 in
set_option maxHeartbeats 4000000 in
theorem back_stops {O X:Nat→Prop} (Bb:Nat) (u:Value) (xs:List Int) (w:World) (hB:w.cell? ⟨Bb,0,none⟩=some u) (hX: ¬X Bb) (hu:IntsIn O w u xs) (hOX: ∀g,O g→¬X g) (hlen:xs.length≤140737488355328):
  SeqM Tryz.prog 140 #[.pointer (some ⟨Bb,0,none⟩)] bv (BPre xs) (BPost X) (fun _ _ _=>True) (fun ys=>ys=xs.zipIdx.reverse) (fun _=>True) w:=by
 intro l J Jx W hW hJ hJx hY h0
 have hB':=World.block_lt_of_cell? w _ hB
 have d0:W.cell? ⟨Bb,0,none⟩=some u:=(hW.cell (p:=⟨Bb,0,none⟩) hB').trans hB
 have hzW:=hW.size
 have hBW:Bb<W.heap.size:=World.block_lt_of_cell? W _ d0
 have HN:=Lib.hid (hu.below hW).narrow
 obtain⟨A,c,rfl,hc,_,_⟩:=hu
 have HD0:=Lib.hid d0
 have HX:=Lib.hid hX
 have HOX:=Lib.hid hOX
 have HY:=Lib.hid hY
 have H0:=Lib.hid h0
 have hwl:IntKind.i64.wrap ((xs.length:Int)-1)=(xs.length:Int)-1:=IntWalk.i64_in _ (by omega)
 clear hB hW hJ hJx hY h0 hX hOX
 refine callsIn_of_wp Tryz.func140 rfl trivial ?_ rfl
 simp only[Tryz.ntmps140,List.size_toArray,List.length_cons,List.length_nil,Nat.reduceAdd,Nat.reduceSub,Array.replicate_succ,Array.replicate_zero,List.push_toArray,List.append_toArray,List.nil_append,List.cons_append]
 gi_wp2
 clear d0
 gi_loopw [3] (fun i wr=> ∃(k:Nat) (z:Int) (pre:List (Int×Nat)),k≤xs.length∧z=(k:Int)-1∧i= .int .i64 z∧Hid (pre++(xs.zipIdx.take k).reverse=xs.zipIdx.reverse)∧Hid (KpC X W wr)∧Hid (J pre wr)) (fun i _=>(intOf i+1).toNat)
 case atStart=>exact⟨xs.length,_,[],Nat.le_refl _,rfl,rfl,Lib.hid (by rw[List.nil_append,List.take_of_length_le (by simp)]),Lib.hid (KpC.refl _ _),H0⟩
 case round=>
  obtain⟨k,z,pre,hk,hz,rfl,HE,HK,HJ⟩:=hrel
  by_cases hlt:0<k
  ·obtain⟨j,rfl⟩: ∃j,k=j+1:=⟨k-1,by omega⟩
   obtain rfl:z=(j:Int):=by omega
   obtain⟨x,hxj⟩:=getElem_of (show j<xs.length by omega)
   obtain⟨A',c',hAc,_,_,hxs⟩:=HN.out
   simp only[Value.slice.injEq,true_and]at hAc
   obtain⟨rfl,rfl⟩:=hAc
   obtain⟨g,o,rfl,hg,hgo,e0⟩:=hxs j x hxj
   have d1:wr.cell? ⟨g,o+j,none⟩=some (.int .i64 x):=(HK.out.kept.cell (p:=⟨g,o+j,none⟩) hg (fun h=>h.elim (HOX.out g hgo.1) hgo.2)).trans e0
   have d0:wr.cell? ⟨Bb,0,none⟩=some (.slice (some ⟨g,o,none⟩) xs.length c):=(HK.out.kept.cell (p:=⟨Bb,0,none⟩) hBW (fun h=>h.elim HX.out (xo_cell HD0.out))).trans HD0.out
   have HE2:=Lib.hid (show(pre++ [(x,j)])++(xs.zipIdx.take j).reverse=xs.zipIdx.reverse from by
    have:=HE.out
    rw[zip_at hxj]at this
    rw[←this]
    simp)
   have q0:decide ((0:Int)≤(j:Int))=true:=decide_eq_true (by omega)
   have hji:(j:Int)<(xs.length:Int):=by omega
   have hjn:j<xs.length:=by omega
   have hwj:IntKind.i64.wrap ((j:Int)-1)=(j:Int)-1:=IntWalk.i64_in _ (by omega)
   obtain⟨fn,tmps,assign,body,hy,hR⟩:=yield_any 8 (HY.out pre (x,j) wr HJ.out (by
    unfold BPre
    rw[←HE2.out]
    exact List.prefix_append _ _))
   dsimp only[bv]at hy
   have HRR:=Lib.hid hR
   clear hxj hxs hgo e0 hR hz
   gi_wp2_with fail
   refine HRR.out.mono ?_
   rintro e W3 (⟨rfl,hJ3,hk3⟩|⟨rfl,hJx3,_⟩)
   ·have HJ3:=Lib.hid hJ3
    have HK3:=Lib.hid (HK.out.trans hk3)
    clear hJ3 hk3 hy d1 d0
    gi_wp2_with fail
    go_roundw
    case rel=>exact⟨j,_,pre++ [(x,j)],by omega,rfl,rfl,HE2,HK3,HJ3⟩
    case measure=>simp[intOf]
   ·gi_wp2
    refine bodyPost_ret (results_none rfl _ _ _) rfl ?_
    exact⟨⟨_,rfl⟩,.inr ⟨_,trivial,hJx3⟩⟩
  ·obtain rfl:k=0:=by omega
   have q0:decide ((0:Int)≤z)=false:=decide_eq_false (by omega)
   gi_wp2_with fail
   go_end0
   refine⟨⟨_,rfl⟩,.inl ⟨pre,?_,HJ.out⟩⟩
   have:=HE.out
   simpa using this
end Go.Proofs.YtoojmhjagipmdaaGreat
