/- Literals and clauses: Right. Literals: Var, Neg. Literals: Negated, Index, Compare; their order. slices.Values, AppendSeq, Collect, SortFunc, SortedFunc at literals. -/
import Derived.Test.YtkfgplfllddhnaaGreatDoorV701
import Derived.Test.YtkfgplfllddhnaaGreatDoorV700
import Derived.Sort.LotA
import Derived.Shelf.SlSortCmp.Whole1
import Derived.Sort.OwnSorted
namespace Go.Proofs.YtkfgplfllddhnaaGreatDoor
open Go.RowKit
def litB (x:Int):Bool:=decide (x≠0∧ -1048576≤x∧x≤1048576)
theorem litB_iff (x:Int):litB x=true↔x≠0∧ -1048576≤x∧x≤1048576:=by simp[litB]
def clauseB (xs:List Int):Bool:=decide (xs.length≤4096)&&xs.all litB
set_option maxHeartbeats 400000 in
theorem right_lit (x:Int) (w:World):Calls Tryz.prog 51 #[.int .i64 x] w fun e w'=>e= .returned (.bool (litB x))∧w=w':=by
 obtain⟨b,hb⟩: ∃b,litB x=b:=⟨_,rfl⟩
 rw[hb]
 have HB:=Lib.hid hb
 clear hb
 by_cases h0:x=0
 ·subst h0
  go_enter Tryz.func51,Tryz.ntmps51
  go_wp2
  go_ret
  exact⟨ret_bool (by rw[←HB.out];rfl),rfl⟩
 ·have h1:(x != 0)=true:=by simpa using h0
  have H0:=Lib.hid h0
  clear h0
  by_cases h2: -1048576≤x
  ·have h2':decide (-1048576≤x)=true:=by simpa using h2
   by_cases h3:x≤1048576
   ·have h3':decide (x≤1048576)=true:=by simpa using h3
    go_enter Tryz.func51,Tryz.ntmps51
    go_wp2
    go_ret
    exact⟨ret_bool (by rw[←HB.out];exact((litB_iff x).2 ⟨H0.out,h2,h3⟩).symm),rfl⟩
   ·have h3':decide (x≤1048576)=false:=by simpa using h3
    go_enter Tryz.func51,Tryz.ntmps51
    go_wp2
    go_ret
    exact⟨ret_bool (by rw[←HB.out];exact(Bool.eq_false_iff.2 (fun h=>by have:=(litB_iff x).1 h;omega)).symm),rfl⟩
  ·have h2':decide (-1048576≤x)=false:=by simpa using h2
   go_enter Tryz.func51,Tryz.ntmps51
   go_wp2
   go_ret
   exact⟨ret_bool (by rw[←HB.out];exact(Bool.eq_false_iff.2 (fun h=>by have:=(litB_iff x).1 h;omega)).symm),rfl⟩
theorem wrong_lit (x:Int) (w:World):Calls Tryz.prog 48 #[.int .i64 x] w fun e w'=>e= .returned (.bool (!litB x))∧w=w':=by
 have H:=fun w=>right_lit x w
 obtain⟨b,hb⟩: ∃b,litB x=b:=⟨_,rfl⟩
 rw[hb]
 rw[hb]at H
 clear hb
 have H:=Lib.hid H
 go_enter Tryz.func48,Tryz.ntmps48
 go_wp2_with fail
 refine(H.out _).mono ?_
 rintro e w' ⟨rfl,rfl⟩
 go_wp2_with fail
 go_ret
 exact⟨rfl,rfl⟩
set_option maxRecDepth 100000 in
set_option maxHeartbeats 1000000 in
theorem index_wrong {O:Nat→Prop} (u:Value) (xs:List Int) (w:World) (h1:IntsIn O w u xs) (hs:xs.length≤140737488355328):
  Calls Tryz.prog 49 #[u,.func (.func 48) #[] #[]] w (IdxPost (!xs.all litB) w):=by
 obtain⟨A,c,rfl,hc,_,hx⟩:=h1
 obtain⟨b,hb⟩: ∃b,(!xs.all litB)=b:=⟨_,rfl⟩
 rw[hb]
 have HB:=Lib.hid hb
 have HX:=Lib.hid hx
 clear hx hb
 go_enter Tryz.func49,Tryz.ntmps49
 go_wp2
 go_loop [8] (fun i=> ∃k:Nat,k≤xs.length∧i= .int .i64 k∧Hid (∀j x,j<k→xs[j]? =some x→litB x=true)) (fun i=>xs.length-(intOf i).toNat)
 case atStart=>exact⟨0,Nat.zero_le _,rfl,Lib.hid (fun j x hj=>by omega)⟩
 case round=>
  obtain⟨k,hk,rfl,HE⟩:=hrel
  by_cases hlt:k<xs.length
  ·obtain⟨x,hxk⟩:=getElem_of hlt
   obtain⟨g,o,rfl,hg,_,d1⟩:=HX.out k x hxk
   have HXK:=Lib.hid hxk
   have HW:=wrong_lit x
   clear hxk
   cases hl:litB x with
   | false=>
    rw[hl]at HW
    have HL:=Lib.hid hl
    have HW:=Lib.hid HW
    clear hl
    go_wp2_with fail
    refine(HW.out _).mono ?_
    rintro e w' ⟨rfl,rfl⟩
    go_wp2
    go_ret
    refine⟨⟨_,rfl,?_⟩,rfl⟩
    have hm:(xs.all litB)=false:=Bool.eq_false_iff.2 (fun h=>by
     have:=List.all_eq_true.1 h x (List.mem_of_getElem? HXK.out)
     rw[HL.out]at this
     cases this)
    rw[←HB.out,hm]
    exact decide_eq_true (by omega)
   | true=>
    rw[hl]at HW
    have HL:=Lib.hid hl
    have HW:=Lib.hid HW
    clear hl
    go_wp2_with fail
    refine(HW.out _).mono ?_
    rintro e w' ⟨rfl,rfl⟩
    go_wp2
    go_round
    case rel=>exact⟨k+1,by omega,by go_num,Lib.hid (fun j y hj hy=>by
     rcases Nat.lt_or_ge j k with h|h
     ·exact HE.out j y h hy
     ·obtain rfl:j=k:=by omega
      rw[HXK.out]at hy
      obtain rfl:=Option.some.inj hy
      exact HL.out)⟩
    case measure=>simp[intOf];omega
  ·obtain rfl:k=xs.length:=by omega
   go_wp2
   go_ret
   refine⟨⟨_,rfl,?_⟩,rfl⟩
   have hm:(xs.all litB)=true:=List.all_eq_true.2 (fun x hx=>by
    obtain⟨j,hj⟩:=List.getElem?_of_mem hx
    exact HE.out j x (List.getElem?_eq_some_iff.1 hj).1 hj)
   rw[←HB.out,hm]
   rfl
set_option maxHeartbeats 400000 in
theorem contains_wrong {O:Nat→Prop} (u:Value) (xs:List Int) (w:World) (h1:IntsIn O w u xs) (hs:xs.length≤140737488355328):
  Calls Tryz.prog 32 #[u,.func (.func 48) #[] #[]] w fun e w'=>e= .returned (.bool (!xs.all litB))∧w=w':=by
 have H0:=index_wrong u xs w h1 hs
 obtain⟨b,hb⟩: ∃b,(!xs.all litB)=b:=⟨_,rfl⟩
 rw[hb]at H0⊢
 have H:=Lib.hid H0
 clear H0 hb
 go_enter Tryz.func32,Tryz.ntmps32
 go_wp2_with fail
 refine H.out.mono ?_
 rintro e w' ⟨⟨i,rfl,hi⟩,rfl⟩
 have HI:=Lib.hid hi
 clear hi
 go_wp2_with fail
 go_ret
 exact⟨ret_bool HI.out,rfl⟩
set_option maxHeartbeats 400000 in
theorem right_clause {O:Nat→Prop} (u:Value) (xs:List Int) (w:World) (h1:IntsIn O w u xs) (hs:xs.length≤140737488355328):
  Calls Tryz.prog 31 #[u] w fun e w'=>e= .returned (.bool (clauseB xs))∧w=w':=by
 have H0:=contains_wrong u xs w h1 hs
 obtain⟨A,c,rfl,_⟩:=h1
 unfold clauseB
 by_cases hl:xs.length≤4096
 ·have hl':decide ((xs.length:Int)≤4096)=true:=by simp;omega
  rw[decide_eq_true hl,Bool.true_and]
  cases ha:xs.all litB with
  | true=>
   rw[ha]at H0
   have H:=Lib.hid H0
   clear H0 ha
   go_enter Tryz.func31,Tryz.ntmps31
   go_wp2_with fail
   refine H.out.mono ?_
   rintro e w' ⟨rfl,rfl⟩
   go_wp2_with fail
   go_ret
   exact⟨rfl,rfl⟩
  | false=>
   rw[ha]at H0
   have H:=Lib.hid H0
   clear H0 ha
   go_enter Tryz.func31,Tryz.ntmps31
   go_wp2_with fail
   refine H.out.mono ?_
   rintro e w' ⟨rfl,rfl⟩
   go_wp2_with fail
   go_ret
   exact⟨rfl,rfl⟩
 ·have hl':decide ((xs.length:Int)≤4096)=false:=by simp;omega
  rw[decide_eq_false hl,Bool.false_and]
  clear H0
  go_enter Tryz.func31,Tryz.ntmps31
  go_wp2_with fail
  go_ret
  exact⟨rfl,rfl⟩
end Go.Proofs.YtkfgplfllddhnaaGreatDoor
namespace Go.Proofs.YtkfgplfllddhnaaGreatDoor
open Go.RowKit
def litV (l:Int):Nat:=if litB l=true then l.natAbs else 0
set_option maxHeartbeats 1000000 in
theorem lit_var (l:Int) (w:World):Calls Tryz.prog 52 #[.int .i64 l] w fun e w'=>e= .returned (.int .i64 (litV l:Nat))∧w=w':=by
 have HR:=Lib.hid (right_lit l w)
 rcases hb:litB l with _|_
 ·rw[hb]at HR
  have hv:litV l=0:=by unfold litV;rw[if_neg (by rw[hb];decide)]
  rw[hv]
  clear hb hv
  go_enter Tryz.func52,Tryz.ntmps52
  go_wp2_with fail
  refine HR.out.mono ?_
  rintro e w' ⟨rfl,rfl⟩
  go_wp2_with fail
  go_ret
  exact⟨rfl,rfl⟩
 ·rw[hb]at HR
  have hr:=(litB_iff l).1 hb
  have hv:(litV l:Int)=max l (-l):=by unfold litV;rw[if_pos hb];omega
  have HV:=Lib.hid hv
  obtain⟨h0,h1,h2⟩:=hr
  clear hb hv
  have hw:IntKind.i64.wrap (-l)= -l:=IntWalk.i64_in _ (by omega)
  go_enter Tryz.func52,Tryz.ntmps52
  go_wp2_with fail
  refine HR.out.mono ?_
  rintro e w' ⟨rfl,rfl⟩
  go_wp2_with fail
  all_goals (go_ret;first|exact⟨ret_int (a:=max l (-l)) HV.out.symm,rfl⟩|exact⟨ret_int (a:= -l) (by have:=HV.out;omega),rfl⟩|exact⟨ret_int (a:=l) (by have:=HV.out;omega),rfl⟩)
def litN (l:Int):Int:=if litB l=true then -l else 0
theorem lit_neg (l:Int) (w:World):Calls Tryz.prog 64 #[.int .i64 l] w fun e w'=>e= .returned (.int .i64 (litN l))∧w=w':=by
 have HR:=right_lit l w
 cases hb:litB l
 ·
  rw[hb]at HR
  have HR:=Lib.hid HR
  have hv:litN l=0:=by unfold litN;rw[if_neg (by rw[hb];decide)]
  rw[hv]
  clear hb hv
  go_enter Tryz.func64,Tryz.ntmps64
  go_wp2_with fail
  refine HR.out.mono ?_
  rintro e w' ⟨rfl,rfl⟩
  go_wp2_with fail
  go_ret
  exact⟨rfl,rfl⟩
 ·
  rw[hb]at HR
  have HR:=Lib.hid HR
  have hr:=(litB_iff l).1 hb
  have hv:litN l= -l:=by unfold litN;rw[if_pos hb]
  rw[hv]
  obtain⟨h0,h1,h2⟩:=hr
  clear hb hv
  have hw:IntKind.i64.wrap (-l)= -l:=IntWalk.i64_in _ (by omega)
  go_enter Tryz.func64,Tryz.ntmps64
  go_wp2_with fail
  refine HR.out.mono ?_
  rintro e w' ⟨rfl,rfl⟩
  go_wp2_with fail
  go_ret
  exact⟨rfl,rfl⟩
end Go.Proofs.YtkfgplfllddhnaaGreatDoor
namespace Go.Proofs.YtkfgplfllddhnaaGreatDoor
open Go.RowKit Go.Sort
def litG (l:Int):Bool:=litB l&&decide (l<0)
def litI (l:Int):Int:=2*((litV l:Nat)-1:Int)+(if l<0 then 1 else 0)
def litC (a b:Int):Int:=if litB a=true then(if litB b=true then Lib.compareInt (litI a) (litI b)else 1)else if litB b=true then -1 else Lib.compareInt a b
theorem litV_right {l:Int} (h:litB l=true):(litV l:Int)=l.natAbs∧1≤(litV l:Int)∧(litV l:Int)≤1048576:=by
 have:=(litB_iff l).1 h
 unfold litV
 rw[if_pos h]
 omega
theorem litI_inj {a b:Int} (ha:litB a=true) (hb:litB b=true) (h:litI a=litI b):a=b:=by
 have h1:=litV_right ha
 have h2:=litV_right hb
 unfold litI at h
 split at h <;> split at h <;> omega
theorem ltC_iff (a b:Int):ltOf litC a b=true↔(litB a=false∧litB b=true)∨(litB a=true∧litB b=true∧litI a<litI b)∨(litB a=false∧litB b=false∧a<b):=by
 unfold ltOf litC Lib.compareInt
 cases ha:litB a <;> cases hb:litB b
 ·by_cases h:a<b <;> by_cases h2:b<a <;> simp[h,h2]
 ·simp
 ·simp
 ·by_cases h:litI a<litI b <;> by_cases h2:litI b<litI a <;> simp[h,h2]
theorem ltC_swo:SWO (ltOf litC) where
 irrefl x:=by
  rw[Bool.eq_false_iff,ne_eq,ltC_iff]
  rintro (⟨h1,h2⟩|⟨_,_,h⟩|⟨_,_,h⟩)
  ·rw[h1]at h2;cases h2
  ·omega
  ·omega
 trans x y z h1 h2:=by
  rw[ltC_iff]at *
  cases hx:litB x <;> cases hy:litB y <;> cases hz:litB z <;> simp[hx,hy,hz]at* <;> omega
 ntrans x y z h1 h2:=by
  rw[Bool.eq_false_iff,ne_eq,ltC_iff]at *
  cases hx:litB x <;> cases hy:litB y <;> cases hz:litB z <;> simp[hx,hy,hz]at* <;> omega
theorem ltC_total: ∀x y,ltOf litC x y=false→ltOf litC y x=false→x=y:=by
 intro x y h1 h2
 rw[Bool.eq_false_iff,ne_eq,ltC_iff]at h1 h2
 cases hx:litB x <;> cases hy:litB y <;> simp[hx,hy]at h1 h2
 ·omega
 ·exact litI_inj hx hy (by omega)
set_option maxHeartbeats 1000000 in
theorem lit_negated (l:Int) (w:World):Calls Tryz.prog 122 #[.int .i64 l] w fun e w'=>e= .returned (.bool (litG l))∧w=w':=by
 have HR:=right_lit l w
 unfold litG
 cases hb:litB l
 ·rw[hb]at HR
  have HR:=Lib.hid HR
  clear hb
  go_enter Tryz.func122,Tryz.ntmps122
  go_wp2_with fail
  refine HR.out.mono ?_
  rintro e w' ⟨rfl,rfl⟩
  go_wp2_with fail
  go_ret
  exact⟨rfl,rfl⟩
 ·rw[hb]at HR
  have HR:=Lib.hid HR
  clear hb
  rw[Bool.true_and]
  obtain⟨q,hq⟩: ∃q,decide (l<0)=q:=⟨_,rfl⟩
  rw[hq]
  go_enter Tryz.func122,Tryz.ntmps122
  go_wp2_with fail
  refine HR.out.mono ?_
  rintro e w' ⟨rfl,rfl⟩
  go_wp2_with fail
  go_ret
  exact⟨rfl,rfl⟩
set_option maxHeartbeats 1000000 in
theorem lit_index (l:Int) (w:World):Calls Tryz.prog 119 #[.int .i64 l] w fun e w'=>e= .returned (if litB l=true then .tuple #[.int .i64 (litI l),.int .i64 0]else .tuple #[.int .i64 0,.int .i64 10])∧w=w':=by
 have HR:=right_lit l w
 have HV:=Lib.hid (lit_var l w)
 cases hb:litB l
 ·rw[hb]at HR
  have HR:=Lib.hid HR
  clear hb
  rw[if_neg (by decide)]
  go_enter Tryz.func119,Tryz.ntmps119
  go_wp2_with fail
  refine HR.out.mono ?_
  rintro e w' ⟨rfl,rfl⟩
  go_wp2_with fail
  refine bodyPost_ret (results_tmp2 rfl _ _ _) rfl ?_
  exact⟨rfl,rfl⟩
 ·rw[hb]at HR
  have HR:=Lib.hid HR
  obtain⟨v,hv⟩: ∃v:Int,((litV l:Nat):Int)=v:=⟨_,rfl⟩
  have hr:=litV_right hb
  rw[hv]at HV hr
  have hw1:IntKind.i64.wrap (v-1)=v-1:=IntWalk.i64_in _ (by omega)
  have hw2:IntKind.i64.wrap (2*(v-1))=2*(v-1):=IntWalk.i64_in _ (by omega)
  have hw3:IntKind.i64.wrap (2*(v-1)+1)=2*(v-1)+1:=IntWalk.i64_in _ (by omega)
  rw[if_pos rfl]
  unfold litI
  rw[hv]
  clear hb hv hr
  by_cases hn:l<0
  ·have hd:decide (l<0)=true:=by simpa using hn
   rw[if_pos hn]
   clear hn
   go_enter Tryz.func119,Tryz.ntmps119
   go_wp2_with fail
   refine HR.out.mono ?_
   rintro e w' ⟨rfl,rfl⟩
   go_wp2_with fail
   refine HV.out.mono ?_
   rintro e w' ⟨rfl,rfl⟩
   go_wp2_with fail
   refine bodyPost_ret (results_tmp2 rfl _ _ _) rfl ?_
   exact⟨rfl,rfl⟩
  ·have hd:decide (l<0)=false:=by simpa using hn
   rw[if_neg hn,Int.add_zero]
   clear hn
   go_enter Tryz.func119,Tryz.ntmps119
   go_wp2_with fail
   refine HR.out.mono ?_
   rintro e w' ⟨rfl,rfl⟩
   go_wp2_with fail
   refine HV.out.mono ?_
   rintro e w' ⟨rfl,rfl⟩
   go_wp2_with fail
   refine bodyPost_ret (results_tmp2 rfl _ _ _) rfl ?_
   exact⟨rfl,rfl⟩
theorem cmp_int_nan (x:Int) (w:World):Calls Tryz.prog 155 #[.int .i64 x] w fun e w'=>e= .returned (.bool false)∧w=w':=by
 have h:(x != x)=false:=by simp
 go_enter Tryz.func155,Tryz.ntmps155
 go_wp2_with fail
 go_ret
 exact⟨rfl,rfl⟩
set_option maxHeartbeats 1000000 in
theorem cmp_int (x y:Int) (w:World):Calls Tryz.prog 120 #[.int .i64 x,.int .i64 y] w fun e w'=>e= .returned (.int .i64 (Lib.compareInt x y))∧w=w':=by
 have H1:=Lib.hid (cmp_int_nan x w)
 have H2:=Lib.hid (cmp_int_nan y w)
 unfold Lib.compareInt
 by_cases h:x<y
 ·have hd:decide (x<y)=true:=by simpa using h
  rw[if_pos h]
  clear h
  go_enter Tryz.func120,Tryz.ntmps120
  go_wp2_with fail
  refine H1.out.mono ?_
  rintro e w' ⟨rfl,rfl⟩
  go_wp2_with fail
  refine H2.out.mono ?_
  rintro e w' ⟨rfl,rfl⟩
  go_wp2_with fail
  go_ret
  exact⟨rfl,rfl⟩
 ·have hd:decide (x<y)=false:=by simpa using h
  rw[if_neg h]
  by_cases h2:y<x
  ·have he:decide (y<x)=true:=by simpa using h2
   rw[if_pos h2]
   clear h h2
   go_enter Tryz.func120,Tryz.ntmps120
   go_wp2_with fail
   refine H1.out.mono ?_
   rintro e w' ⟨rfl,rfl⟩
   go_wp2_with fail
   refine H2.out.mono ?_
   rintro e w' ⟨rfl,rfl⟩
   go_wp2_with fail
   go_ret
   exact⟨rfl,rfl⟩
  ·have he:decide (y<x)=false:=by simpa using h2
   rw[if_neg h2]
   clear h h2
   go_enter Tryz.func120,Tryz.ntmps120
   go_wp2_with fail
   refine H1.out.mono ?_
   rintro e w' ⟨rfl,rfl⟩
   go_wp2_with fail
   refine H2.out.mono ?_
   rintro e w' ⟨rfl,rfl⟩
   go_wp2_with fail
   go_ret
   exact⟨rfl,rfl⟩
theorem cmp_lit_nan (x:Int) (w:World):Calls Tryz.prog 156 #[.int .i64 x] w fun e w'=>e= .returned (.bool false)∧w=w':=by
 have h:(x != x)=false:=by simp
 go_enter Tryz.func156,Tryz.ntmps156
 go_wp2_with fail
 go_ret
 exact⟨rfl,rfl⟩
set_option maxHeartbeats 1000000 in
theorem cmp_lit (x y:Int) (w:World):Calls Tryz.prog 121 #[.int .i64 x,.int .i64 y] w fun e w'=>e= .returned (.int .i64 (Lib.compareInt x y))∧w=w':=by
 have H1:=Lib.hid (cmp_lit_nan x w)
 have H2:=Lib.hid (cmp_lit_nan y w)
 unfold Lib.compareInt
 by_cases h:x<y
 ·have hd:decide (x<y)=true:=by simpa using h
  rw[if_pos h]
  clear h
  go_enter Tryz.func121,Tryz.ntmps121
  go_wp2_with fail
  refine H1.out.mono ?_
  rintro e w' ⟨rfl,rfl⟩
  go_wp2_with fail
  refine H2.out.mono ?_
  rintro e w' ⟨rfl,rfl⟩
  go_wp2_with fail
  go_ret
  exact⟨rfl,rfl⟩
 ·have hd:decide (x<y)=false:=by simpa using h
  rw[if_neg h]
  by_cases h2:y<x
  ·have he:decide (y<x)=true:=by simpa using h2
   rw[if_pos h2]
   clear h h2
   go_enter Tryz.func121,Tryz.ntmps121
   go_wp2_with fail
   refine H1.out.mono ?_
   rintro e w' ⟨rfl,rfl⟩
   go_wp2_with fail
   refine H2.out.mono ?_
   rintro e w' ⟨rfl,rfl⟩
   go_wp2_with fail
   go_ret
   exact⟨rfl,rfl⟩
  ·have he:decide (y<x)=false:=by simpa using h2
   rw[if_neg h2]
   clear h h2
   go_enter Tryz.func121,Tryz.ntmps121
   go_wp2_with fail
   refine H1.out.mono ?_
   rintro e w' ⟨rfl,rfl⟩
   go_wp2_with fail
   refine H2.out.mono ?_
   rintro e w' ⟨rfl,rfl⟩
   go_wp2_with fail
   go_ret
   exact⟨rfl,rfl⟩
set_option maxHeartbeats 2000000 in
theorem lit_compare (a b:Int) (w:World):Calls Tryz.prog 89 #[.int .i64 a,.int .i64 b] w fun e w'=>e= .returned (.int .i64 (litC a b))∧w=w':=by
 have HA:=lit_index a w
 have HB:=lit_index b w
 unfold litC
 cases ha:litB a <;> cases hb:litB b <;> rw[ha]at HA <;> rw[hb]at HB <;> simp only[Bool.false_eq_true,if_false,if_true]at HA HB⊢
 ·have HA:=Lib.hid HA
  have HB:=Lib.hid HB
  have HC:=cmp_lit a b w
  obtain⟨r,hr⟩: ∃r,Lib.compareInt a b=r:=⟨_,rfl⟩
  rw[hr]at HC⊢
  have HC:=Lib.hid HC
  clear hr
  clear ha hb
  go_enter Tryz.func89,Tryz.ntmps89
  go_wp2_with fail
  refine HA.out.mono ?_
  rintro e w' ⟨rfl,rfl⟩
  go_wp2_with fail
  refine HB.out.mono ?_
  rintro e w' ⟨rfl,rfl⟩
  go_wp2_with fail
  refine HC.out.mono ?_
  rintro e w' ⟨rfl,rfl⟩
  go_wp2_with fail
  go_ret
  exact⟨rfl,rfl⟩
 ·have HA:=Lib.hid HA
  have HB:=Lib.hid HB
  clear ha hb
  go_enter Tryz.func89,Tryz.ntmps89
  go_wp2_with fail
  refine HA.out.mono ?_
  rintro e w' ⟨rfl,rfl⟩
  go_wp2_with fail
  refine HB.out.mono ?_
  rintro e w' ⟨rfl,rfl⟩
  go_wp2_with fail
  go_ret
  exact⟨rfl,rfl⟩
 ·have HA:=Lib.hid HA
  have HB:=Lib.hid HB
  clear ha hb
  go_enter Tryz.func89,Tryz.ntmps89
  go_wp2_with fail
  refine HA.out.mono ?_
  rintro e w' ⟨rfl,rfl⟩
  go_wp2_with fail
  refine HB.out.mono ?_
  rintro e w' ⟨rfl,rfl⟩
  go_wp2_with fail
  go_ret
  exact⟨rfl,rfl⟩
 ·have HA:=Lib.hid HA
  have HB:=Lib.hid HB
  have HC:=cmp_int (litI a) (litI b) w
  obtain⟨r,hr⟩: ∃r,Lib.compareInt (litI a) (litI b)=r:=⟨_,rfl⟩
  rw[hr]at HC⊢
  have HC:=Lib.hid HC
  clear hr
  clear ha hb
  go_enter Tryz.func89,Tryz.ntmps89
  go_wp2_with fail
  refine HA.out.mono ?_
  rintro e w' ⟨rfl,rfl⟩
  go_wp2_with fail
  refine HB.out.mono ?_
  rintro e w' ⟨rfl,rfl⟩
  go_wp2_with fail
  refine HC.out.mono ?_
  rintro e w' ⟨rfl,rfl⟩
  go_wp2_with fail
  go_ret
  exact⟨rfl,rfl⟩
end Go.Proofs.YtkfgplfllddhnaaGreatDoor
namespace Go.Proofs.YtkfgplfllddhnaaGreatDoor
open Go.RowKit Go.Shelf Go.Sort
attribute [local go_sem] Oper.semAt_some
theorem cinfo_lit:(Tryz.prog.info? 31).map (fun i=>(i.zero,i.size,i.bytes))=some (some (.int .i64 0),1,8):=by kernel_rfl
set_option maxRecDepth 100000 in
set_option maxHeartbeats 2000000 in
theorem values1_in {O X:Nat→Prop} (l Bb:Nat) (u:Value) (xs:List Int) (J Jx:List Int→World→Prop) (W:World)
  (hY: ∀pre x W1,J pre W1→pre.length<xs.length→YieldAt Fence.wide 7 Tryz.prog l #[.int .i64 x] W1 fun e W'=>
   (e= .returned (.bool true)∧J (pre++ [x]) W'∧KpC X W1 W')∨(e= .returned (.bool false)∧Jx (pre++ [x]) W'))
  (hB:W.cell? ⟨Bb,0,none⟩=some u) (hX: ¬X Bb) (hu:IntsIn O W u xs) (hOX: ∀g,O g→¬X g) (hlen:xs.length≤140737488355328) (h0:J [] W):
  CallsIn Fence.wide 8 Tryz.prog 192 #[.func (.yield l) #[] #[],.pointer (some ⟨Bb,0,none⟩)] W fun e W'=>(∃v,e= .returned v)∧
   ((∃ys,ys=xs∧J ys W')∨(∃pre,(pre <+: xs∧pre≠ [])∧Jx pre W')):=by
 have hB':=World.block_lt_of_cell? W _ hB
 have HN:=Lib.hid hu.narrow
 have HB:=Lib.hid hB
 have HY:=Lib.hid hY
 have HX:=Lib.hid hX
 have HOX:=Lib.hid hOX
 have H0:=Lib.hid h0
 obtain⟨A,c,rfl,hc,_,_⟩:=hu
 clear hY hX hOX h0
 refine callsIn_of_wp Tryz.func192 rfl trivial ?_ rfl
 simp only[Tryz.ntmps192,List.size_toArray,List.length_cons,List.length_nil,Nat.reduceAdd,Nat.reduceSub,Array.replicate_succ,Array.replicate_zero,List.push_toArray,List.append_toArray,List.nil_append,List.cons_append]
 gi_wp2
 gi_loopw [7] (fun i wr=> ∃k:Nat,k≤xs.length∧i= .int .i64 k∧Hid (KpC X W wr)∧Hid (J (xs.take k) wr)) (fun i _=>xs.length-(intOf i).toNat)
 case atStart=>exact⟨0,Nat.zero_le _,rfl,Lib.hid (KpC.refl _ _),H0⟩
 case round=>
  obtain⟨k,hk,rfl,HK,HJ⟩:=hrel
  by_cases hlt:k<xs.length
  ·obtain⟨x,hxk⟩:=getElem_of hlt
   obtain⟨A',c',hAc,_,_,hxs⟩:=HN.out
   simp only[Value.slice.injEq,true_and]at hAc
   obtain⟨rfl,rfl⟩:=hAc
   obtain⟨g,o,rfl,hg,hgo,d0⟩:=hxs k x hxk
   have d1:wr.cell? ⟨g,o+k,none⟩=some (.int .i64 x):=(HK.out.kept.cell (p:=⟨g,o+k,none⟩) hg (fun h=>h.elim (HOX.out g hgo.1) hgo.2)).trans d0
   have HTK:=Lib.hid (show xs.take (k+1)=xs.take k++ [x]from by rw[List.take_add_one,hxk];rfl)
   obtain⟨fn,tmps,assign,body,hy,hR⟩:=HY.out (xs.take k) x wr HJ.out (by rw[List.length_take];omega)
   have HR:=Lib.hid hR
   clear hxk hxs hgo d0 hR
   gi_wp2_with fail
   refine HR.out.mono ?_
   rintro e W3 (⟨rfl,hJ3,hk3⟩|⟨rfl,hJx3⟩)
   ·have HJ3:=Lib.hid hJ3
    have HK3:=Lib.hid (HK.out.trans hk3)
    clear hJ3 hk3 hy d1
    gi_wp2_with fail
    go_roundw
    case rel=>exact⟨k+1,by omega,by go_num,HK3,Lib.hid (by rw[HTK.out];exact HJ3.out)⟩
    case measure=>simp[intOf];omega
   ·gi_wp2
    refine bodyPost_ret (results_none rfl _ _ _) rfl ?_
    exact⟨⟨_,rfl⟩,.inr ⟨xs.take k++ [x],⟨by rw[←HTK.out];exact List.take_prefix _ _,by simp⟩,hJx3⟩⟩
  ·obtain rfl:k=xs.length:=by omega
   gi_wp2
   go_end0
   refine⟨⟨_,rfl⟩,.inl ⟨xs,rfl,?_⟩⟩
   have:=HJ.out
   rwa [List.take_length]at this
theorem values_stops {O X:Nat→Prop} (Bb:Nat) (u:Value) (xs:List Int) (w:World) (hB:w.cell? ⟨Bb,0,none⟩=some u) (hX: ¬X Bb) (hu:IntsIn O w u xs) (hOX: ∀g,O g→¬X g) (hlen:xs.length≤140737488355328):
  SeqStopsK Fence.wide 8 Tryz.prog 192 #[.pointer (some ⟨Bb,0,none⟩)] (fun x:Int=> #[Value.int .i64 x]) (KpC X) (fun ys=>ys=xs) (fun pre=>pre <+: xs∧pre≠ []) xs.length w:=fun l J Jx W hW _ _ hY h0=>
 values1_in l Bb u xs J Jx W hY ((hW.cell (p:=⟨Bb,0,none⟩) (World.block_lt_of_cell? w _ hB)).trans hB) hX (hu.below hW) hOX hlen h0
theorem values_run (A:Option Addr) (n c:Nat) (w:World):Calls Tryz.prog 171 #[.slice A n c] w fun e w'=>e= .returned (.func (.func 192) #[] #[.pointer (some ⟨w.heap.size,0,none⟩)])∧w.alloc (.cells #[.slice A n c] 30)=w':=by
 go_enter Tryz.func171,Tryz.ntmps171
 go_wp2
 go_ret
 exact⟨rfl,rfl⟩
set_option maxRecDepth 100000 in
set_option maxHeartbeats 4000000 in
theorem append_values {O:Nat→Prop} (Bb:Nat) (u:Value) (xs:List Int) (w:World) (hB:w.cell? ⟨Bb,0,none⟩=some u) (hu:IntsIn O w u xs) (hlen:xs.length≤1000000000000):
  Calls Tryz.prog 199 #[.slice none 0 0,.func (.func 192) #[] #[.pointer (some ⟨Bb,0,none⟩)]] w fun e w'=> ∃v,e= .returned v∧w'.ownsRow w.heap.size 31 1 v xs.length (xs.map (Value.int .i64))∧Below w.heap.size w w':=by
 have hB':=World.block_lt_of_cell? w _ hB
 obtain⟨i0,hi,iz0,iz1,iz2⟩:=info_parts cinfo_lit
 obtain⟨WR,hWR⟩: ∃x,w.alloc (.cells #[.slice none 0 0] 29)=x:=⟨_,rfl⟩
 have hbR:Below w.heap.size w WR:=by rw[←hWR];exact mx_al _ _
 have hcR:Boxed WR w.heap.size 29 (.slice none 0 0):=by rw[←hWR];exact Boxed.new _ _ _
 have hzR:=hcR.lt
 have HST:=Lib.hid (values_stops (X:=fun g=>w.heap.size≤g) Bb u xs WR ((hbR.cell (p:=⟨Bb,0,none⟩) hB').trans hB) (fun h=>by simp only at h hB';omega) (hu.lt.below hbR) (fun g h=>by omega) (by omega))
 have HWR:=Lib.hid hWR
 have HBR:=Lib.hid hbR
 have HCR:=Lib.hid hcR
 clear hB hu hWR hbR hcR
 refine(callsIn_wide (n:=9)).1 ?_
 refine callsIn_of_wp_marks Tryz.func199 rfl trivial ?_ rfl
 simp only[Tryz.ntmps199,List.size_toArray,List.length_cons,List.length_nil,Nat.reduceAdd,Nat.reduceSub,Array.replicate_succ,Array.replicate_zero,List.push_toArray,List.append_toArray,List.nil_append,List.cons_append]
 gi_wp2
 rw[HWR.out]
 refine wpIn_rangeFunc_ownG rfl (by omega) (gf:=192) (lb:= #[.pointer (some ⟨Bb,0,none⟩)]) rfl trivial (enters_of Tryz.func192 (by kernel_rfl) rfl)
  HST.out (fun h k=>h.trans k) (fun W l o o' _ h hc hw=>(KpC.putObj W l o o' h hc hw).mono (fun _ _ h=>h.elim)) (Below.refl _ _) (fun _=>rfl)
  (fun pre W=>(∃v,Boxed W w.heap.size 29 v∧W.ownsRow w.heap.size 31 1 v pre.length (pre.map (Value.int .i64))∧True)∧Below w.heap.size w W∧w.heap.size<W.heap.size) (fun _ _ _=>False) ?own ?ownx ⟨⟨_,HCR.out,World.ownsRow_nil _ _ _ _,trivial⟩,HBR.out,hzR⟩
  ?frame ?assign ?body ?done ?stop
 case own=>
  exact OwnFrom.and (Own.from (holdsRow_own _ _ _ _ 1 (fun pre:List Int=>pre.length) (fun pre=>pre.map (Value.int .i64)) (fun _ _=>True)) _) (OwnFrom.and (ownFrom_below (Nat.le_refl _) (by omega)) (fun _ X Y row h hg _=>Nat.lt_of_lt_of_le h hg.size))
 case ownx=>exact fun c pre W W' row h _ _=>h
 case assign=>
  intro l x W K hK
  dsimp only
  gi_wp2
  exact hK
 case body=>
  rintro l pre x W ⟨⟨v,hv,hr,-⟩,hb,hz⟩ hlt
  have q1:=hv.cell
  have q2:=hv.frozen
  obtain⟨A,c,rfl,hc⟩:=mx_slice hr
  have HV:=Lib.hid hv
  have HR:=Lib.hid hr
  have HB:=Lib.hid hb
  clear hv hr hb
  gi_wp2_with (gi_at_builtin;refine wpListIn_append_own _ rfl _ _ 29 rfl w.heap.size 31 i0 (.int .i64 0) 1 8 Tryz.underlying29 hi iz0 iz1 iz2 rfl (by decide) _ _ _ rfl (HR.out.alloc _) ⟨W.heap.size,0,none⟩ 1 1 [.int .i64 x] rfl rfl ?c1 ?c2 ?c3 ?c4 ?c5 ?_)
  case c1=>
   intro j u hj
   match j,hj with
   | 0,hj=>simp at hj;subst hj;simp[Addr.add]
  case c2=>intro u hu;simp at hu;subst hu;rfl
  case c3=>unfold maxLen;omega
  case c4=>omega
  case c5=>simp;omega
  ·intro v' w1 hown' hgrow _
   have hA:=Boxed.appended HV.out (by decide) HR.out (Nat.le_of_lt hz) (Nat.le_refl _) hown' hgrow
   obtain⟨g1,cap,rfl⟩:=ownsRow_succ hown'
   obtain⟨a1,a2,a3,a4,a5⟩:=hA
   have q3:=a1.cell
   have q4:=a1.frozen
   have A2:=Lib.hid a2
   have A3:=Lib.hid a3
   have A4:=Lib.hid a4
   have A5:=Lib.hid a5
   clear a1 a2 a3 a4 a5 hown' hgrow
   gi_wp2
   refine⟨A4.out.from _,⟨A5.out.os,A5.out.tape,A5.out.output,A5.out.size,fun k o hk hX _=>(A5.out.block k (by omega)).trans hk⟩,⟨_,A2.out,?_,trivial⟩,HB.out.trans A5.out,Nat.lt_of_lt_of_le hz A5.out.size⟩
   simpa using A3.out
 case done=>
  rintro D ys W hD rfl ⟨⟨v,hv,hr,-⟩,hb,hz⟩ hDf
  have q1:=hv.cell
  have HR:=Lib.hid hr
  have HB:=Lib.hid hb
  have HD:=Lib.hid hDf
  obtain⟨A,c,rfl,hc⟩:=mx_slice hr
  clear hv hr hb hDf
  gi_wp2
  refine⟨by simp,.inl ⟨_,_,rfl,run_takeDeferred HD.out,?_⟩⟩
  have hD0:w.heap.size≤D:=Nat.le_trans (Nat.le_of_lt hzR) hD
  refine⟨_,results_tmp rfl _ _ _,_,rfl,ownsRow_putObj HR.out _ HD.out rfl,HB.out.trans ?_⟩
  exact(Below.refl _ _).grown (grownBy_putObj' W D _) (Nat.le_of_lt hz) (fun g e=>by cases e;exact hD0)
 case stop=>
  rintro D c pre W hD _ hf _
  exact hf.elim
theorem collect_values {O:Nat→Prop} (Bb:Nat) (u:Value) (xs:List Int) (w:World) (hB:w.cell? ⟨Bb,0,none⟩=some u) (hu:IntsIn O w u xs) (hlen:xs.length≤1000000000000):
  Calls Tryz.prog 191 #[.func (.func 192) #[] #[.pointer (some ⟨Bb,0,none⟩)]] w fun e w'=> ∃v,e= .returned v∧w'.ownsRow w.heap.size 31 1 v xs.length (xs.map (Value.int .i64))∧Below w.heap.size w w':=by
 have H:=Lib.hid (append_values Bb u xs w hB hu hlen)
 clear hB hu
 go_enter Tryz.func191,Tryz.ntmps191
 go_wp2_with fail
 refine H.out.mono ?_
 rintro e w' ⟨v,rfl,hr,hb⟩
 have HR:=Lib.hid hr
 have HB:=Lib.hid hb
 clear hr hb
 go_wp2_with fail
 go_ret
 exact⟨_,rfl,HR.out,HB.out⟩
end Go.Proofs.YtkfgplfllddhnaaGreatDoor
