/- Sort at rows that are owned (some laws turned from a worked proof of the kit). Plain: sorted numbers. package proof: the keys of a checker's map, in their order. package proof: the iterator over a checker's entries. slices.AppendSeq at a checker's entries. A region that draws its order, in a round of a range over a function. package rat: groups: the walk. -/
import Derived.Test.YtajbmjpodeilpaaGreatDoorV207
import Derived.Test.YtajbmjpodeilpaaGreatDoorShelf
import Derived.Test.YtajbmjpodeilpaaGreatDoorV218
import Derived.Test.YtajbmjpodeilpaaGreatDoorShelg
import Derived.Test.YtajbmjpodeilpaaGreatDoorV208
import Derived.Test.YtajbmjpodeilpaaGreatDoorV214
import Derived.Test.YtajbmjpodeilpaaGreatDoorV201
import Derived.Test.YtajbmjpodeilpaaGreatDoorV202
import Derived.OrdersIn
import Derived.Test.YtajbmjpodeilpaaGreatDoorV219
namespace Go.Proofs.YtajbmjpodeilpaaGreatDoor
open Go.RowKit Go.Sort
def sortI (xs:List Int):List Int:=xs.mergeSort fun x y=>decide (x≤y)
end Go.Proofs.YtajbmjpodeilpaaGreatDoor
namespace Go.Proofs.YtajbmjpodeilpaaGreatDoor
open Go.RowKit
theorem sI_sorted (xs:List Int):(sortI xs).Pairwise (· ≤ ·):=by
 have:=List.pairwise_mergeSort (le:=fun x y:Int=>decide (x≤y)) (fun a b c h1 h2=>by simp at *;omega) (fun a b=>by simp;omega) xs
 exact this.imp (fun h=>by simpa using h)
theorem sI_eq {xs ys:List Int} (hp:xs.Perm ys) (hs:ys.Pairwise (· ≤ ·)):sortI xs=ys:=
 List.Perm.eq_of_pairwise (le:=fun a b=>a≤b) (fun a b _ _ h1 h2=>by omega) (sI_sorted xs) hs ((List.mergeSort_perm _ _).trans hp)
end Go.Proofs.YtajbmjpodeilpaaGreatDoor
namespace Go.Proofs.YtajbmjpodeilpaaGreatDoor
open Go.RowKit Go.Maps Go.Shelf Go.Sort
theorem sorts_intP (m:Nat):AnyZI.SortsIn Tryz.prog Tryz.sortedA_ren Fence.wide m:=
 ⟨fun blk off cap ss W hH hblk hsz=>callsIn_wide.2 (Tryz.slices_Sort_int blk off cap ss W hH hblk hsz),fun p cap W=>callsIn_wide.2 (Tryz.slices_Sort_int_none p cap W)⟩
set_option maxHeartbeats 2000000 in
theorem ck_keys {w:World} {mb:Nat} {M:List (Int×Value)} (h:MapI w mb M) (hl:M.length≤1000000):
  Calls Tryz.prog 84 #[.map (some mb)] w (fun e w'=>e= .returned (.func (.func 125) #[] #[.pointer (some ⟨w.heap.size,0,none⟩)])∧w'=w.alloc (.cells #[.map (some mb)] 89))∧
  Calls Tryz.prog 83 #[.func (.func 125) #[] #[.pointer (some ⟨w.heap.size,0,none⟩)]] (w.alloc (.cells #[.map (some mb)] 89)) (fun e w'=> ∃v,e= .returned v∧w'.ownsRow w.heap.size 3 1 v M.length ((M.map Prod.fst).map (Value.int .i64))∧Below w.heap.size w w'):=by
 obtain⟨hown,hris,hwf⟩:=h
 have hints:intKeys (DataW.map (encE M))=M.map Prod.fst:=by
  show(encE M).map _=_
  unfold encE
  rw[List.map_map]
  rfl
 have hsz:Maps.size (DataW.map (encE M))=M.length:=encE_length M
 have hseq:SeqGives Fence.wide 2 Tryz.prog 125 #[.pointer (some ⟨w.heap.size,0,none⟩)] encZ (fun ss=>ss.Perm (intKeys (DataW.map (encE M)))) (Maps.size (DataW.map (encE M))) (w.alloc (.cells #[.map (some mb)] 89)):=
  AnyZI.keys_gives (ρ:=Tryz.keysA_ren) { Tryz.keysA with } Fence.wide _ trivial rfl (by omega) w.heap.size mb M.length _ _ (by simp) (by simp) (by
   obtain⟨es,clock,hb,Ft,hs,hD⟩:=hown
   exact⟨es,clock,(Below.heap_alloc _ _ mb (heap_lt hb)).trans hb,Ft,hs,hD⟩)
 have cK:CallsIn Fence.wide 5 Tryz.prog 84 #[.map (some mb)] w fun e w'=>e= .returned (.func (.func 125) #[] #[.pointer (some ⟨w.heap.size,0,none⟩)])∧w'=w.alloc (.cells #[.map (some mb)] 89):=AnyZI.keys_in Tryz.keysA Fence.wide 5 trivial rfl (some mb) w
 have cS:=AnyZI.sorted_in Tryz.sortedA Fence.wide 5 trivial trivial trivial trivial rfl (by omega) (sorts_intP _) (enters_of Tryz.func124 (by kernel_rfl) rfl) 125 #[.pointer (some ⟨w.heap.size,0,none⟩)] trivial (enters_of Tryz.func125 (by kernel_rfl) rfl) _ _ (by rw[hsz];unfold maxLen;omega) (by rw[hsz];omega) _ hseq
 change CallsIn _ _ Tryz.prog 83 _ _ _ at cS
 refine⟨(callsIn_wide (n:=5)).1 cK,((callsIn_wide (n:=5)).1 cS).mono ?_⟩
 rintro e w2 ⟨v,ss,rfl,hS,hrow,_,hb⟩
 rw[hints]at hS
 have h1:ss.length=M.length:=by rw[hS.length_eq,List.length_map]
 have h2:ss.mergeSort (fun x y=>decide (x≤y))=M.map Prod.fst:=sI_eq hS (by
  unfold Rising at hris
  rw[List.pairwise_map]
  exact hris.imp (fun h=>Int.le_of_lt h))
 rw[h1,h2]at hrow
 exact⟨v,rfl,own_mono hrow (base':=w.heap.size) (by simp),(mx_al w (.cells #[.map (some mb)] 89)).trans (hb.mono (by simp))⟩
end Go.Proofs.YtajbmjpodeilpaaGreatDoor
namespace Go.Proofs.YtajbmjpodeilpaaGreatDoor
open Go.RowKit Go.Maps Go.Shelf Go.Sort
attribute [local go_sem] Oper.semAt_some
abbrev EX:=Int×Value×Nat
def exv (x:EX):Array Value:= #[.agg #[.int .i64 x.1,x.2.1]]
structure EPre (E:Ents) (n:Nat) (pre:List EX) (x:EX) (W:World):Prop where
 lon:n≤x.2.2
 size:x.2.2≤W.heap.size
 same: ∀y∈pre,y.2.2=x.2.2
 row: ∃c,E[pre.length]? =some (x.1,c)∧W.ownsRow x.2.2 28 1 x.2.1 c.length (c.map (Value.int .i64))
def EPost (X0:Nat→Prop) (x:EX) (W W':World):Prop:=KpC (fun g=>x.2.2≤g∨X0 g) W W'
theorem EPost.turn {X0:Nat→Prop} {x:EX} {W W3:World} {l:Nat} {r r':Loop} (h:EPost X0 x W W3) (hl:W3.heap[l]? =some (.loop r)):EPost X0 x W (W3.putObj l (.loop r')):=
 KpC.trans h ((KpC.putObj W3 l _ _ hl rfl rfl).mono (fun _ _ e=>e.elim))
theorem map_not_xo {w:World} {b:Nat} {m:List (Int×Value)} (h:MapI w b m): ¬XO w b:=by
 rintro ⟨o,ho,_,h2⟩
 obtain⟨⟨es,cl,hb,_⟩,_⟩:=h
 rw[hb]at ho
 cases ho
 cases h2
set_option maxRecDepth 100000 in
set_option maxHeartbeats 4000000 in
theorem all_stops {X:Nat→Prop} {base:Nat} (X0:Nat→Prop) (Bb b mb:Nat) (k:Ckr) (K:List (Int×(Value×List Int))) (wL w:World) (hm:CkMem X base wL b mb k K) (hB:wL.cell? ⟨Bb,0,none⟩=some (.pointer (some ⟨b,0,none⟩))) (hbL:Below wL.heap.size wL w) (hX0: ∀g,X0 g→wL.heap.size≤g∧g<w.heap.size) (hl:K.length≤1000000) (hcl: ∀p∈K,p.2.2.length≤1000000) (hwf: ∀p∈K,(Lit.int .i64 p.1).wf=true):
  SeqM Tryz.prog 82 #[.pointer (some ⟨Bb,0,none⟩)] exv (EPre k.ents) (EPost X0) (fun _ _ _=>True) (fun ys=>ys.map Prod.fst=k.ents.map Prod.fst) (fun _=>True) w:=by
 intro l J Jx W hW hJ hJx hY h0
 have hWL:Below wL.heap.size wL W:=hbL.trans (hW.mono hbL.size)
 have hmW:=hm.below hWL
 have hBL:=World.block_lt_of_cell? wL _ hB
 have hbl:=heap_lt hm.box
 have hml:=hm.map.lt
 have d0:W.cell? ⟨Bb,0,none⟩=some (.pointer (some ⟨b,0,none⟩)):=(hWL.cell (p:=⟨Bb,0,none⟩) hBL).trans hB
 have c0:=hmW.cells.1
 have hzL:=hWL.size
 have hML:(mapV Prod.fst K).length=K.length:=mapV_length _ _
 have hks:=ck_keys hmW.map (by rw[hML];exact hl)
 rw[hML]at hks
 have HK1:=Lib.hid hks.1
 have HK2:=Lib.hid hks.2
 have HM:=Lib.hid hmW
 have HJ:=Lib.hid hJ
 have HY:=Lib.hid hY
 have H0:=Lib.hid h0
 have HX0:=Lib.hid (fun g hg=>show wL.heap.size≤g∧g<W.heap.size from⟨(hX0 g hg).1,Nat.lt_of_lt_of_le (hX0 g hg).2 hW.size⟩)
 have HCL:=Lib.hid hcl
 have HWF:=Lib.hid hwf
 have HROW:=Lib.hid (fun p (hp:p∈K)=>(hm.rowIn hp).lt.below hWL)
 have HEN:=Lib.hid hm.ents
 have hbW:b<W.heap.size:=by omega
 have hBW:Bb<W.heap.size:=by simp only at hBL;omega
 clear hks hmW hm hB hbL hX0 hcl hwf hW hWL hJ hJx hY h0 hML
 refine callsIn_of_wp Tryz.func82 rfl trivial ?_ rfl
 simp only[Tryz.ntmps82,List.size_toArray,List.length_cons,List.length_nil,Nat.reduceAdd,Nat.reduceSub,Array.replicate_succ,Array.replicate_zero,List.push_toArray,List.append_toArray,List.nil_append,List.cons_append]
 gi_wp2_with fail
 refine⟨trivial,?_⟩
 refine(callsIn_wide.2 HK1.out).mono ?_
 rintro e W' ⟨rfl,rfl⟩
 gi_wp2_with fail
 refine⟨trivial,?_⟩
 refine(callsIn_wide.2 HK2.out).mono ?_
 rintro e W2 ⟨v,rfl,hr,hb2⟩
 obtain⟨Av,cv,rfl,hcv⟩:=mx_slice hr
 have HR:=Lib.hid hr
 have HB2:=Lib.hid hb2
 have hz2:=hb2.size
 have HJ2:=Lib.hid (own_from_below' HJ.out H0.out HB2.out)
 have HM2:=Lib.hid (HM.out.below hb2)
 have D0:=Lib.hid ((hb2.cell (p:=⟨Bb,0,none⟩) hBW).trans d0)
 have HRW2:=Lib.hid (fun p (hp:p∈K)=>((HROW.out p hp).below hb2).narrow)
 clear hr hb2 d0 c0 HK1 HK2 HROW
 gi_wp2
 gi_loopw [12] (fun i wr=> ∃(j:Nat) (pre:List EX),j≤K.length∧i= .int .i64 j∧pre.length=j∧Hid (pre.map Prod.fst=(K.map Prod.fst).take j)∧Hid (∀y∈pre,y.2.2=W2.heap.size)∧Hid (KpC (fun g=>W2.heap.size≤g∨X0 g) W2 wr)∧Hid (J pre wr)) (fun i _=>K.length-(intOf i).toNat)
 case atStart=>exact⟨0,[],Nat.zero_le _,rfl,rfl,Lib.hid rfl,Lib.hid (fun y hy=>by cases hy),Lib.hid (KpC.refl _ _),HJ2⟩
 case round=>
  obtain⟨j,pre,hj,rfl,hpl,HP,HSM,HK,HJS⟩:=hrel
  by_cases hlt:j<K.length
  ·obtain⟨p,hp⟩:=getElem_of hlt
   have hpm:=List.mem_of_getElem? hp
   have hidk:((mapV Prod.fst K).map Prod.fst)[j]? =some p.1:=by
    rw[List.getElem?_map]
    unfold mapV
    rw[List.getElem?_map,hp]
    rfl
   obtain⟨g,c',hv,hg0,hg,e0⟩:=own_cell (xs:=(mapV Prod.fst K).map Prod.fst) (by rw[List.length_map,mapV_length];exact HR.out) hidk
   rw[List.length_map,mapV_length]at hv
   simp only[Value.slice.injEq,true_and]at hv
   obtain⟨rfl,rfl⟩:=hv
   have hkp:=HK.out.kept
   have d1:wr.cell? ⟨g,j,none⟩=some (.int .i64 p.1):=(hkp.cell (p:=⟨g,j,none⟩) hg (fun h=>by
    rcases h with(h|h)|h
    ·simp only at h;omega
    ·have:=(HX0.out _ h).2
     simp only at this;omega
    ·exact xo_cell e0 h)).trans e0
   have d0:wr.cell? ⟨Bb,0,none⟩=some (.pointer (some ⟨b,0,none⟩)):=(hkp.cell (p:=⟨Bb,0,none⟩) (by simp only;omega) (fun h=>by
    rcases h with(h|h)|h
    ·simp only at h;omega
    ·have:=(HX0.out _ h).1
     simp only at this hBL;omega
    ·exact xo_cell D0.out h)).trans D0.out
   have c0:wr.cell? ⟨b,0,none⟩=some (.map (some mb)):=(hkp.cell (p:=⟨b,0,none⟩) (by simp only;omega) (fun h=>by
    rcases h with(h|h)|h
    ·simp only at h;omega
    ·have:=(HX0.out _ h).1
     simp only at this;omega
    ·exact xo_cell HM2.out.cells.1 h)).trans HM2.out.cells.1
   have hmr:MapI wr mb (mapV Prod.fst K):=HM2.out.map.kept hkp (fun h=>by
    rcases h with(h|h)|h
    ·omega
    ·have:=(HX0.out _ h).1
     omega
    ·exact map_not_xo HM2.out.map h)
   have hlk:=hmr.look int_law Tryz.underlying3 Tryz.underlying89 (z:=.slice none 0 0) (by kernel_rfl) false (HWF.out p hpm)
   rw[mapV_get,Option.isSome_map,getA_of HM2.out.rise (show(p.1,p.2)∈K from hpm)]at hlk
   simp only[Option.map_some,Option.getD_some]at hlk
   have HRWr:=Lib.hid ((HRW2.out p hpm).kept hkp (fun g hg h=>by
    rcases h with(h|h)|h
    ·have:=hg.1.2
     omega
    ·have:=(HX0.out _ h).1
     have:=hg.1.2
     omega
    ·exact hg.2 h))
   have HCLp:=Lib.hid (HCL.out p hpm)
   have HTK:=Lib.hid (show(K.map Prod.fst).take (j+1)=(K.map Prod.fst).take j++ [p.1]from by
    rw[List.take_add_one,List.getElem?_map,hp]
    rfl)
   have HEJ:=Lib.hid (show k.ents[j]? =some (p.1,p.2.2)from by
    rw[HEN.out]
    unfold mapV
    rw[List.getElem?_map,hp]
    rfl)
   obtain⟨id,u,c⟩:=p
   simp only at hlk d1 HRWr HCLp HTK HEJ
   have HCN:=Lib.hid (clone_c u c wr HRWr.out (by have:=HCLp.out;omega))
   have hu:=HRWr.out
   obtain⟨Au,cu,rfl,_⟩:=hu
   clear hp hpm hidk e0 hkp hmr
   gi_wp2_with fail
   refine⟨trivial,?_⟩
   refine(callsIn_wide.2 HCN.out).mono ?_
   rintro e W4 ⟨v4,rfl,hown,hb4⟩
   have hz4:W2.heap.size≤wr.heap.size:=HK.out.size
   have hz5:=hb4.size
   obtain⟨A4,c4,rfl,_⟩:=mx_slice hown
   obtain⟨fn,tmps,assign,body,hy,hR⟩:=yield_any 8 (HY.out pre (id,.slice A4 c.length c4,W2.heap.size) W4 (own_from_below' HJ.out HJS.out hb4) ⟨by show W.heap.size≤W2.heap.size;have:=HB2.out.size;omega,by show W2.heap.size≤W4.heap.size;omega,HSM.out,⟨c,by rw[hpl];exact HEJ.out,own_mono hown hz4⟩⟩)
   dsimp only[exv]at hy
   have HRR:=Lib.hid hR
   have HK4:=Lib.hid (HK.out.trans (KpC.of_below hb4))
   clear hown hb4 hR d1 d0 c0 hlk HCN
   gi_wp2_with fail
   refine HRR.out.mono ?_
   rintro e W5 (⟨rfl,hJ5,hk5⟩|⟨rfl,hJx5,_⟩)
   ·have HJ5:=Lib.hid hJ5
    have HK5:=Lib.hid (HK4.out.trans hk5)
    clear hJ5 hk5 hy
    gi_wp2_with fail
    go_roundw
    case rel=>exact⟨j+1,pre++ [(id,.slice A4 c.length c4,W2.heap.size)],by omega,by go_num,by rw[List.length_append,hpl];rfl,Lib.hid (by rw[HTK.out,List.map_append,HP.out];rfl),Lib.hid (fun y hy=>by
     rcases List.mem_append.1 hy with h|h
     ·exact HSM.out y h
     ·rw[List.mem_singleton.1 h]),HK5,HJ5⟩
    case measure=>simp[intOf];omega
   ·gi_wp2
    refine bodyPost_ret (results_none rfl _ _ _) rfl ?_
    exact⟨⟨_,rfl⟩,.inr ⟨_,trivial,hJx5⟩⟩
  ·obtain rfl:j=K.length:=by omega
   gi_wp2
   go_end0
   refine⟨⟨_,rfl⟩,.inl ⟨pre,?_,HJS.out⟩⟩
   rw[HP.out,HEN.out]
   unfold mapV
   rw[List.map_map,←List.length_map (f:=Prod.fst),List.take_length]
   rfl
end Go.Proofs.YtajbmjpodeilpaaGreatDoor
namespace Go.Proofs.YtajbmjpodeilpaaGreatDoor
open Go.RowKit Go.Maps Go.Shelf Go.Sort
attribute [local go_sem] Oper.semAt_some
def ecell (x:EX):List Value:= [.int .i64 x.1,x.2.1]
theorem ecell_at: ∀(K:List EX) (i:Nat) (x:EX),K[i]? =some x→(K.flatMap ecell)[i*2]? =some (.int .i64 x.1)∧(K.flatMap ecell)[i*2+1]? =some x.2.1
 | [],i,x,h=>by simp at h
 | y::K,0,x,h=>by
  obtain rfl:y=x:=by simpa using h
  exact⟨rfl,rfl⟩
 | y::K,i+1,x,h=>by
  have:=ecell_at K i x (by simpa using h)
  rw[show(i+1)*2=i*2+2 by omega]
  exact this
structure EJ (w:World) (r:Nat) (E:Ents) (pre:List EX) (W:World):Prop where
 ex: ∃v,Boxed W r 47 v∧W.ownsRow w.heap.size 86 2 v pre.length (pre.flatMap ecell)∧∀g,v.ownBlock=some g→pre≠ []∧∀y∈pre,y.2.2≤g
 row: ∀(i:Nat) (x:EX),pre[i]? =some x→∃c,E[i]? =some (x.1,c)∧w.heap.size≤x.2.2∧W.ownsRow x.2.2 28 1 x.2.1 c.length (c.map (Value.int .i64))
 low:Below w.heap.size w W
theorem own_nocells {w w':World} {row:Option Nat} {base size n:Nat} {e:TypeId} {v:Value} {xs:List Value} (h:w.ownsRow base e size v n xs) (hg:w.grownBy w' row) (hr: ∀r,row=some r→∃o:Obj,w.heap[r]? =some o∧o.isCells=false):w'.ownsRow base e size v n xs:=
 own_kept h (Kept.grown hg) (fun g h1 h2=>by
  obtain⟨o,ho,hc⟩:=hr g h2.symm
  obtain⟨c,hcc⟩:=own_type h g h1
  rw[hcc]at ho
  cases ho
  cases hc)
theorem ej_own (w:World) (r:Nat) (E:Ents) {N:Nat} (hN:w.heap.size≤N):OwnFrom N (EJ w r E):=fun pre W W' row h hg hr=>by
 obtain⟨v,h1,h2,h3⟩:=h.ex
 exact⟨⟨v,boxed_grown h1 hg (fun q e=>(hr q e).2),own_nocells h2 hg (fun q e=>(hr q e).2),h3⟩,fun i x hx=>by
  obtain⟨c,a,a2,b⟩:=h.row i x hx
  exact⟨c,a,a2,own_nocells b hg (fun q e=>(hr q e).2)⟩,h.low.grown hg h.low.size (fun q e=>Nat.le_trans hN (hr q e.symm.symm).1)⟩
theorem EJ.ents {w W:World} {r:Nat} {E:Ents} {pre:List EX} (h:EJ w r E pre W) (hl:pre.length=E.length) {v:Value} (hv:W.ownsRow w.heap.size 86 2 v pre.length (pre.flatMap ecell)):EntIn (fun g=> ¬XO W g) W v E:=by
 rcases hv.2 with⟨rfl,h0⟩|⟨g,cap,cur,rfl,_,hg,hle,_⟩
 ·exact⟨none,0,by rw[←hl,h0],by omega,fun _=>rfl,fun i p hi=>by
   have:=(List.getElem?_eq_some_iff.1 hi).1
   omega⟩
 ·refine⟨_,cap,by rw[hl],by omega,(fun h=>by cases h),fun i p hi=>?_⟩
  obtain⟨x,hx⟩:=getElem_of (show i<pre.length by have:=(List.getElem?_eq_some_iff.1 hi).1;omega)
  obtain⟨c,hc,_,hrow⟩:=h.row i x hx
  rw[hi]at hc
  obtain rfl:=Option.some.inj hc
  obtain⟨e0,e1⟩:=ecell_at pre i x hx
  exact⟨g,0,x.2.1,rfl,heap_lt hg,xo_cells hg,by rw[Nat.zero_add];exact mx_at hv e0,by rw[Nat.zero_add];exact mx_at hv e1,(IntsIn.of_own hrow).narrow.mono fun _ hg=>hg.2⟩
def EntOwn (n0:Nat) (w:World) (v:Value) (es:Ents):Prop:=
 ∃pre:List EX,pre.length=es.length∧w.ownsRow n0 86 2 v es.length (pre.flatMap ecell)∧∀(i:Nat) (x:EX),pre[i]? =some x→∃c,es[i]? =some (x.1,c)∧w.ownsRow n0 28 1 x.2.1 c.length (c.map (Value.int .i64))
theorem EntOwn.grownNo {n0:Nat} {w w':World} {v:Value} {es:Ents} {row:Option Nat} (h:EntOwn n0 w v es) (hg:w.grownBy w' row) (hr: ∀r,row=some r→∃o:Obj,w.heap[r]? =some o∧o.isCells=false):EntOwn n0 w' v es:=by
 obtain⟨pre,h1,h2,h3⟩:=h
 exact⟨pre,h1,own_nocells h2 hg hr,fun i x hx=>by
  obtain⟨c,a,b⟩:=h3 i x hx
  exact⟨c,a,own_nocells b hg hr⟩⟩
theorem EntOwn.below {n0:Nat} {w w':World} {v:Value} {es:Ents} (h:EntOwn n0 w v es) (hb:Below w.heap.size w w'):EntOwn n0 w' v es:=by
 obtain⟨pre,h1,h2,h3⟩:=h
 exact⟨pre,h1,own_below h2 hb,fun i x hx=>by
  obtain⟨c,a,b⟩:=h3 i x hx
  exact⟨c,a,own_below b hb⟩⟩
theorem EntOwn.mono {n0 n1:Nat} {w:World} {v:Value} {es:Ents} (h:EntOwn n0 w v es) (hn:n1≤n0):EntOwn n1 w v es:=by
 obtain⟨pre,h1,h2,h3⟩:=h
 exact⟨pre,h1,own_mono h2 hn,fun i x hx=>by
  obtain⟨c,a,b⟩:=h3 i x hx
  exact⟨c,a,own_mono b hn⟩⟩
theorem EntOwn.entIn {n0:Nat} {w:World} {v:Value} {es:Ents} (h:EntOwn n0 w v es):EntIn (fun g=>n0≤g) w v es:=by
 obtain⟨pre,hl,hv,hrow⟩:=h
 rcases hv.2 with⟨rfl,h0⟩|⟨g,cap,cur,rfl,hb,hg,hle,_⟩
 ·exact⟨none,0,by rw[h0],by omega,fun _=>rfl,fun i p hi=>by
   have:=(List.getElem?_eq_some_iff.1 hi).1
   omega⟩
 ·refine⟨_,cap,rfl,by omega,(fun h=>by cases h),fun i p hi=>?_⟩
  obtain⟨x,hx⟩:=getElem_of (show i<pre.length by have:=(List.getElem?_eq_some_iff.1 hi).1;omega)
  obtain⟨c,hc,hrw⟩:=hrow i x hx
  rw[hi]at hc
  obtain rfl:=Option.some.inj hc
  obtain⟨e0,e1⟩:=ecell_at pre i x hx
  exact⟨g,0,x.2.1,rfl,heap_lt hg,hb,by rw[Nat.zero_add];exact mx_at hv e0,by rw[Nat.zero_add];exact mx_at hv e1,(IntsIn.of_own hrw).mono fun _ hg=>hg.1⟩
end Go.Proofs.YtajbmjpodeilpaaGreatDoor
namespace Go.Proofs.YtajbmjpodeilpaaGreatDoor
open Go.RowKit Go.Shelf Go.Maps
def noDefer (ops:Array Oper):Bool:=ops.all fun o=>match o.op with
 | .defer _=>false
 | _=>true
theorem noDefer_at {ops:Array Oper} (h:noDefer ops=true) {i:Nat} {o:Oper} (ho:ops[i]? =some o): ∀c,o.op≠.defer c:=by
 intro c hc
 obtain⟨hi,he⟩:=Array.getElem?_eq_some_iff.1 ho
 have:=(Array.all_eq_true.1 h) i hi
 rw[he,hc]at this
 cases this
theorem rows_round {l n:Nat} {P:Program} {row:String} {args:Array Value} {w:World} {R:Value→World→Prop} (h:Rows P row args w R):RowsIn (Fence.wide.inRound l) n P row args w R:=
 fun c cs _=>let ⟨v,w',r,s⟩:=h c cs;⟨v,w',r,stepsIn_wide.2 s⟩
theorem oper_round {l n:Nat} {P:Program} {o:Oper} {a:Act} {w:World} {K:Act→World→Prop} {Q:Exit→Act→World→Prop} (hd: ∀c,o.op≠.defer c) (h:o.wp P a w K Q):o.wpIn (Fence.wide.inRound l) n P a w K Q:=by
 unfold Oper.wpIn
 refine⟨fun _ _=>trivial,?_⟩
 rw[Fence.inRound_round,Oper.semAt_some l a.eval o hd]
 unfold Oper.wp at h
 generalize (execOp a.eval o).run P w=r at *
 cases r with
 | ok x w'=>
  cases x with
  | value v=>exact h
  | skip=>exact h
  | defer d=>exact h
  | enter f args=>exact⟨(fun hh=>by cases hh),CallsIn.inRound l (callsIn_wide.2 h)⟩
  | row row args=>exact⟨(fun hh=>by cases hh),rows_round h⟩
  | round=>exact(h:False).elim
  | _=>exact h
 | halt x w'=>
  cases x <;> exact h
theorem wpOp_round {l n:Nat} {P:Program} {ops:Array Oper} {Q:Exit→Act→World→Prop} {i:Nat} {K:Act→World→Prop} {a:Act} {w:World} (hL: ¬LetsOut Q) (hd:noDefer ops=true) (h:wpOp P ops Q i K a w):wpOpIn (Fence.wide.inRound l) n P ops Q i K a w:=by
 unfold wpOp at h
 unfold wpOpIn
 cases ho:ops[i]? with
 | none=>
  rw[ho]at h
  exact h
 | some o=>
  rw[ho]at h
  simp only at h⊢
  split
  ·rename_i hw
   rw[if_pos hw]at h
   rcases h with h|h
   ·exact oper_round (noDefer_at hd ho) h
   ·exact absurd h.2 hL
  ·rename_i hw
   rw[if_neg hw]at h
   exact⟨fun _ _=>trivial,h⟩
theorem wpAny_round {l n:Nat} {P:Program} {md:Region.Mode} {ops:Array Oper} {Q:Exit→Act→World→Prop} (hL: ¬LetsOut Q) (hd:noDefer ops=true): ∀(fuel:Nat) (listed:Array Bool) (a:Act) (w:World),wpAny P md ops Q fuel listed a w→wpAnyIn (Fence.wide.inRound l) n P md ops Q fuel listed a w
 | 0,_,_,_,h=>h
 | fuel+1,_,_,_,h=>⟨h.1,fun i hi=>wpOpIn_mono (fun a w h'=>wpAny_round hL hd fuel _ a w h') (wpOp_round hL hd (h.2 i hi))⟩
theorem wpIn_round_sink {l n id:Nat} {P:Program} {lo:List Oper} {o:Oper} (S:World→Prop) {Q:Exit→Act→World→Prop} {a:Act} {w:World} (hm:P.follows .mixedOrders=true) (hl:lo=lo.dropLast++ [o]) (hk:sinkOk .any lo.dropLast.toArray o=true) (hd:noDefer lo.toArray=true) (hL: ¬LetsOut Q) (hS:S w.drew)
  (h:S w.drew→wpAnyH P .any lo.dropLast.toArray (lastPost P lo.dropLast.toArray o Q) S lo.dropLast.toArray.size (Array.replicate lo.dropLast.toArray.size false) a w.drew):(Code.region id lo.toArray true).wpIn (Fence.wide.inRound l) n P Q a w:=by
 have e:lo.toArray=lo.dropLast.toArray.push o:=by
  rw[List.push_toArray,←hl]
 rw[e]at hd⊢
 refine wpIn_region_any hm (wpAny_round hL hd _ _ _ _ ?_)
 have:=wpAny_sink (P:=P) (sink_of hk) lo.dropLast.toArray.size (Array.replicate lo.dropLast.toArray.size false) a w.drew (by simp) (fun j x _ hj=>by
  have:(Array.replicate lo.dropLast.toArray.size false).getD j false=false:=by
   simp only[Array.getD_eq_getD_getElem?,Array.getElem?_replicate]
   split <;> rfl
  rw[this]at hj
  cases hj) (wpAny_of_held _ _ _ _ (h hS))
 rw[Array.size_push,show Array.replicate (lo.dropLast.toArray.size+1) false=(Array.replicate lo.dropLast.toArray.size false).push false by rw[Array.replicate_succ]]
 exact this
end Go.Proofs.YtajbmjpodeilpaaGreatDoor
namespace Go.Proofs.YtajbmjpodeilpaaGreatDoor
open Go.RowKit Go.Shelf
attribute [local go_sem] Oper.semAt_some
theorem cand_run (A:Option Addr) (n c:Nat) (p:Int) (w:World):Calls Tryz.prog 154 #[.slice A n c,.int .i64 p] w fun e w'=>e= .returned (.func (.func 185) #[] #[.pointer (some ⟨w.heap.size,0,none⟩),.pointer (some ⟨w.heap.size+1,0,none⟩)])∧(w.alloc (.cells #[.slice A n c] 47)).alloc (.cells #[.int .i64 p] 28)=w':=by
 go_enter Tryz.func154,Tryz.ntmps154
 go_wp2
 go_ret
 exact⟨by simp,rfl⟩
theorem EntIn.lt {O:Nat→Prop} {w:World} {v:Value} {es:Ents} (h:EntIn O w v es):EntIn (fun g=>O g∧g<w.heap.size) w v es:=by
 obtain⟨A,c,hv,hc,hn,hx⟩:=h
 refine⟨A,c,hv,hc,hn,fun i p hi=>?_⟩
 obtain⟨g,o,u,h1,h2,h3,h4,h5,h6⟩:=hx i p hi
 exact⟨g,o,u,h1,h2,⟨h3,h2⟩,h4,h5,h6.lt⟩
def grpGo (wl ids rest:List Int):Int×Nat:=match rest.find? fun id=> !ids.contains id with
 | some id=>(id,92)
 | none=>ratIds wl 0 ids
theorem grp_eq (es:Ents) (p:Int) (gs:List (Int×List Int)):ratGrp es p gs=grpGo (ratWant es p) (gs.map Prod.fst) (ratWant es p):=rfl
theorem grp_step {wl ids:List Int} {k:Nat} {x:Int} (h:wl[k]? =some x):grpGo wl ids (wl.drop k)=if ids.contains x=true then grpGo wl ids (wl.drop (k+1))else(x,92):=by
 have hlt:=(List.getElem?_eq_some_iff.1 h).1
 rw[List.drop_eq_getElem_cons hlt]
 rw[List.getElem?_eq_getElem hlt]at h
 rw[Option.some.inj h]
 unfold grpGo
 rw[List.find?_cons]
 cases ids.contains x <;> rfl
theorem ids_step {wl ids:List Int} {last x:Int} {k:Nat} (h:ids[k]? =some x):ratIds wl last (ids.drop k)=if wl.contains x=false∨x≤last then(x,92)else ratIds wl x (ids.drop (k+1)):=by
 have hlt:=(List.getElem?_eq_some_iff.1 h).1
 rw[List.drop_eq_getElem_cons hlt]
 rw[List.getElem?_eq_getElem hlt]at h
 rw[Option.some.inj h]
 rfl
theorem want_asc {es:Ents} (h:Rising es) (p:Int):(ratWant es p).Pairwise (· < ·):=by
 unfold ratWant
 rw[List.pairwise_map]
 exact List.Pairwise.filter _ h
theorem res_67 {fn:Func} (h:fn.results= #[.tmp 6,.tmp 7]) (tmps:Array Value) (w:World):(results fn tmps).run Tryz.prog w= .ok (.tuple #[tmps.getD 6 undef,tmps.getD 7 undef]) w:=by
 simp[results,h]
structure GIc (w0:World) (bx n:Nat) (pre:List (Nat×Int)) (W:World):Prop where
 ex: ∃v,Boxed W bx 31 v∧W.ownsRow bx 3 1 v pre.length (pre.map fun x=>.int .i64 x.2)∧∀g,v.ownBlock=some g→n≤g
 low:Below bx w0 W
 kept:KpC (fun g=>g=bx∨n≤g) w0 W
theorem gic_own (w0:World) (bx n:Nat) {N:Nat} (hN:n≤N) (hb:bx≤n):OwnFrom N (GIc w0 bx n):=fun pre W W' row h hg hr=>by
 obtain⟨v,h1,h2,h3⟩:=h.ex
 exact⟨⟨v,boxed_grown h1 hg (fun q e=>(hr q e).2),own_nocells h2 hg (fun q e=>(hr q e).2),h3⟩,h.low.grown hg (Nat.le_of_lt (heap_lt h1)) (fun q e=>Nat.le_trans hb (Nat.le_trans hN (hr q e).1)),
  h.kept.trans ((KpC.of_grown hg).mono fun g _ e=>.inr (Nat.le_trans hN (hr g e.symm).1))⟩
structure GMidc (w0:World) (bx n:Nat) (es:Ents) (pre:List (Nat×Int)) (x:Nat×Int) (W:World) (_:Nat) (W':World):Prop where
 gi:GIc w0 bx n pre W'
 pr:CPre es 0 pre x W'
 po:KpC (fun g=>g=bx∨n≤g) W W'
theorem GMidc.turn {w0:World} {bx n:Nat} {es:Ents} {pre:List (Nat×Int)} {x:Nat×Int} {W W':World} {B l:Nat} {q q':Loop} (hb:bx≤n) (hl:n≤l) (h2:W'.heap[l]? =some (.loop q)) (h:GMidc w0 bx n es pre x W B W'):GMidc w0 bx n es pre x W B (W'.putObj l (.loop q')) where
 gi:=(gic_own w0 bx n (Nat.le_refl n) hb).putObj _ h.gi hl h2 rfl
 pr:=⟨h.pr.at_,h.pr.few⟩
 po:=h.po.trans ((KpC.putObj W' l _ _ h2 rfl rfl).mono (fun _ _ e=>e.elim))
set_option maxRecDepth 100000 in
set_option maxHeartbeats 4000000 in
theorem rat_groups {O Og:Nat→Prop} (lv gv:Value) (es:Ents) (p:Int) (gs:List (Int×List Int)) (w:World) (h:EntIn O w lv es) (ho:EntOk es) (hg:EntIn Og w gv gs) (hgl:gs.length≤1000000):
  Calls Tryz.prog 119 #[lv,.int .i64 p,gv] w fun e w'=>e= .returned (.tuple #[.int .i64 (ratGrp es p gs).1,.int .i64 ((ratGrp es p gs).2:Nat)])∧Below w.heap.size w w':=by
 obtain⟨i0,hi,iz0,iz1,iz2⟩:=info_parts jinfo_int
 have HLEN:=Lib.hid ho.len
 have HG:=Lib.hid hg
 have HE:=Lib.hid h
 have HOK:=Lib.hid ho
 obtain⟨A,c,rfl,hc,_,_⟩:=h
 obtain⟨Ag,cg,rfl,hcg,_,_⟩:=hg
 obtain⟨R,hR⟩: ∃R,ratGrp es p gs=R:=⟨_,rfl⟩
 rw[hR]
 have HR:=Lib.hid hR
 obtain⟨W1,hW1⟩: ∃x,w.alloc (.cells #[.slice A es.length c] 47)=x:=⟨_,rfl⟩
 have hb1:Below w.heap.size w W1:=by rw[←hW1];exact mx_al _ _
 have hz1:W1.heap.size=w.heap.size+1:=by rw[←hW1];simp
 have hc1:W1.cell? ⟨w.heap.size,0,none⟩=some (.slice A es.length c):=by rw[←hW1];exact mx_cell (j:=0) (World.alloc_heap_new _ _)
 obtain⟨W2,hW2⟩: ∃x,W1.alloc (.cells #[.slice none 0 0] 31)=x:=⟨_,rfl⟩
 have hb2:Below W1.heap.size W1 W2:=by rw[←hW2];exact mx_al _ _
 have hz2:W2.heap.size=w.heap.size+2:=by rw[←hW2];simp[hz1]
 have hx2:Boxed W2 (w.heap.size+1) 31 (.slice none 0 0):=by rw[←hW2,←hz1];exact Boxed.new _ _ _
 have hc2:W2.cell? ⟨w.heap.size,0,none⟩=some (.slice A es.length c):=(hb2.cell (p:=⟨w.heap.size,0,none⟩) (by simp only;omega)).trans hc1
 obtain⟨W3,hW3⟩: ∃x,(W2.alloc (.cells #[.slice A es.length c] 47)).alloc (.cells #[.int .i64 p] 28)=x:=⟨_,rfl⟩
 have hb3:Below W2.heap.size W2 W3:=by rw[←hW3];exact(mx_al _ _).alloc (by simp) _
 have hz3:W3.heap.size=w.heap.size+4:=by rw[←hW3];simp[hz2]
 obtain⟨Wa,hWa⟩: ∃x,W2.alloc (.cells #[.slice A es.length c] 47)=x:=⟨_,rfl⟩
 have hza:Wa.heap.size=w.heap.size+3:=by rw[←hWa];simp[hz2]
 have hla:Wa.cell? ⟨w.heap.size+2,0,none⟩=some (.slice A es.length c):=by rw[←hWa,←hz2];exact mx_cell (j:=0) (World.alloc_heap_new _ _)
 have hcl:W3.cell? ⟨w.heap.size+2,0,none⟩=some (.slice A es.length c):=by
  rw[←hW3,hWa]
  exact((mx_al Wa _).cell (p:=⟨w.heap.size+2,0,none⟩) (by simp only;omega)).trans hla
 have hcp:W3.cell? ⟨w.heap.size+3,0,none⟩=some (.int .i64 p):=by
  rw[←hW3,hWa,←hza]
  exact mx_cell (j:=0) (World.alloc_heap_new _ _)
 obtain⟨bx,hbx⟩: ∃bx,w.heap.size+1=bx:=⟨_,rfl⟩
 obtain⟨n,hn⟩: ∃n,W3.heap.size=n:=⟨_,rfl⟩
 rw[hbx]at hx2
 have hx3:Boxed W3 bx 31 (.slice none 0 0):=(hb3.block _ (heap_lt hx2)).trans hx2
 have hbw2:Below w.heap.size w W2:=hb1.trans (hb2.mono (by omega))
 have hbw3:Below w.heap.size w W3:=hbw2.trans (hb3.mono (by omega))
 have HC3:=Lib.hid (show W3.cell? ⟨w.heap.size,0,none⟩=some (.slice A es.length c)from(hb3.cell (p:=⟨w.heap.size,0,none⟩) (by simp only;omega)).trans hc2)
 have HE3:=Lib.hid ((EntIn.lt HE.out).below hbw3)
 have hX: ∀g:Nat,(g=bx∨n≤g)→¬(O g∧g<w.heap.size)∧g≠w.heap.size+2∧g≠w.heap.size+3:=fun g hg=>⟨fun h=>by have:=h.2;omega,by omega,by omega⟩
 have HSEQ:=Lib.hid (cand_stops (fun g=>g=bx∨n≤g) (w.heap.size+2) (w.heap.size+3) _ es p W3 hcl hcp HE3.out HOK.out hX)
 have HI0:=Lib.hid (show GIc W3 bx n [] W3 from⟨⟨_,hx3,World.ownsRow_nil _ _ _ _,fun g hg=>by cases hg⟩,Below.refl _ _,KpC.refl _ _⟩)
 have HBW3:=Lib.hid hbw3
 have HW1:=Lib.hid hW1
 have HW2:=Lib.hid hW2
 have HW3:=Lib.hid hW3
 have hzw:w.heap.size<bx:=by omega
 have hbn:bx<n:=by omega
 clear hX hb1 hb2 hb3 hc1 hc2 hx2 hx3 hcl hcp hbw2 hbw3 hR ho hW1 hW2 hW3
 refine(callsIn_wide (n:=10)).1 ?_
 refine callsIn_of_wp_marks Tryz.func119 rfl trivial ?_ rfl
 simp only[Tryz.ntmps119,List.size_toArray,List.length_cons,List.length_nil,Nat.reduceAdd,Nat.reduceSub,Array.replicate_succ,Array.replicate_zero,List.push_toArray,List.append_toArray,List.nil_append,List.cons_append]
 gi_wp2_with fail
 rw[HW1.out,HW2.out]
 refine⟨trivial,?_⟩
 refine(callsIn_wide.2 (cand_run A es.length c p W2)).mono ?_
 rintro e W' ⟨rfl,rfl⟩
 rw[HW3.out,hz2]
 gi_wp2_with fail
 refine wpIn_range_M (gf:=185) (lb:= #[.pointer (some ⟨w.heap.size+2,0,none⟩),.pointer (some ⟨w.heap.size+2+1,0,none⟩)]) rfl (enters_of Tryz.func185 (by kernel_rfl) rfl) HSEQ.out (Below.refl _ _) (fun _=>rfl)
  (fun pre x W W3 l r r' h1 h2 h3 h4=>h4.trans ((KpC.putObj W3 l _ _ h3 rfl rfl).mono (fun _ _ e=>e.elim))) (fun pre x W W3 l r r' h1 h2 h3 h4=>trivial)
  (GIc W3 bx n) (fun _ _=>False) (gic_own _ _ _ (by omega) (by omega)) (fun pre W W' row h _ _=>h) HI0.out
  ?frame (GMidc W3 bx n es)
  (fun pre x W Bx W' l r r' h1 h2 h3 h4=>h4.turn (by omega) (by omega) h3)
  ?assign ?body ?done ?stop
 case assign=>
  rintro l pre x W K hi hp hK
  dsimp only[cvv]
  gi_wp2
  obtain⟨Bx,hBx⟩: ∃b:Nat,b=0:=⟨0,rfl⟩
  exact hK Bx W (KeepsRec.refl W) ⟨hi,⟨hp.at_,hp.few⟩,KpC.refl _ _⟩
 case body=>
  rintro l pre x W Bx W' hm
  obtain⟨v,hv,hr,hf⟩:=hm.gi.ex
  obtain⟨d,hxd⟩:=hm.pr.at_
  have hkl:=hm.gi.kept
  have hin:=(EntIn.narrow HE3.out).kept hkl.kept (fun g hg ho=>by
   rcases ho with(e|e)|e
   ·have:=hg.1.2
    omega
   ·have:=hg.1.2
    omega
   ·exact hg.2 e)
  obtain⟨A',c',hAc,_,_,hxs⟩:=hin
  simp only[Value.slice.injEq,true_and]at hAc
  obtain⟨rfl,rfl⟩:=hAc
  obtain⟨g,o,u,rfl,hg,hgO,d0,_,_⟩:=hxs x.1 _ hxd
  have hgw:=hgO.1.2
  have hxl:=(List.getElem?_eq_some_iff.1 hxd).1
  have t0:W'.cell? ⟨w.heap.size,0,none⟩=some (.slice (some ⟨g,o,none⟩) es.length c):=(hkl.kept.cell (p:=⟨w.heap.size,0,none⟩) (World.block_lt_of_cell? W3 _ HC3.out) (fun h=>by
   rcases h with(e|e)|e
   ·simp only at e;omega
   ·simp only at e;omega
   ·exact xo_cell HC3.out e)).trans HC3.out
  have q1:=hv.cell
  obtain⟨Ar,cr,rfl,hcr⟩:=mx_slice hr
  have hln:pre.length≤1048576:=by
   have h1:=hm.pr.few
   have h2:=HLEN.out
   omega
  obtain⟨x1,x2⟩:=x
  simp only at d0 hxl
  have hxi:(x1:Int)<(es.length:Int):=by omega
  have hgW:=World.block_lt_of_cell? W' _ d0
  have htW:=World.block_lt_of_cell? W' _ t0
  have hbW:=heap_lt hv
  have HV:=Lib.hid hv
  have HR2:=Lib.hid hr
  have HF:=Lib.hid hf
  have HM:=Lib.hid hm
  have T0:=Lib.hid t0
  have D0:=Lib.hid d0
  have Q1:=Lib.hid q1
  clear hv hr hf hm hxs hkl t0 d0 q1 hxd
  have hnb: ∀i,i<n→¬(Value.slice Ar pre.length cr).ownBlock=some i:=fun i hi e=>by have:=HF.out i e;omega
  have hzn:n≤W'.heap.size:=by have:=HM.out.gi.low.size;omega
  gi_wp2
  refine wpIn_round_sink (fun w'=>Kept (fun i=>(Value.slice Ar pre.length cr).ownBlock=some i) W' w') (by kernel_rfl) rfl (by kernel_rfl) (by kernel_rfl) (fun⟨_,_,h⟩=>h) (Kept.of_below (mx_drew W')) (fun hS=>?_)
  simp only[List.dropLast]
  have hDW:=mx_drew W'
  obtain⟨wD,hwD⟩: ∃y,W'.drew=y:=⟨_,rfl⟩
  rw[hwD]at hS hDW⊢
  clear hwD
  refine takeF 0 21 (fun wq hSw=>(hSw.cell (p:=⟨bx,0,none⟩) hbW (hnb bx hbn)).trans Q1.out) ?_
  refine takeF 1 22 (fun wq hSw=>(hSw.cell (p:=⟨w.heap.size,0,none⟩) htW (hnb _ (by simp only;omega))).trans T0.out) ?_
  refine takeE 2 23 ?_
  refine takeE 3 24 ?_
  refine takeE 4 25 ?_
  refine takeF 5 26 (fun wq hSw=>(hSw.cell (p:=⟨g,o+x1*2,none⟩) hgW (hnb g (by omega))).trans D0.out) ?_
  refine ready1 6 (fun K hK=>?_)
  go_simp
  have hbE:Below wD.heap.size wD (wD.alloc (.cells #[.int .i64 x2] 3)):=mx_al _ _
  have hWE:Below W'.heap.size W' (wD.alloc (.cells #[.int .i64 x2] 3)):=hDW.trans (hbE.mono hDW.size)
  refine hK.out _ _ (Kept.of_below hWE) (fun _=>?_)
  clear hK
  refine ready1 7 (fun K hK=>?_)
  rw[if_pos (by rfl)]
  have hVD:Boxed wD bx 31 (.slice Ar pre.length cr):=(hDW.block _ hbW).trans HV.out
  have hRD:=own_below HR2.out hDW
  have hzD:=hDW.size
  refine wp_append_at 28 (by rfl) _ _ 31 rfl bx 3 i0 (.int .i64 0) 1 8 Tryz.underlying31 hi iz0 iz1 iz2 rfl (by decide) _ pre.length _ (by rfl) (own_below HR2.out hWE) ⟨wD.heap.size,0,none⟩ 1 1 [.int .i64 x2] (by rfl) rfl (cell_one_new' _ _ _) (by simp[Value.oneCell']) (by unfold maxLen;omega) (by omega) (by have:=hWE.size;omega) ?_
  intro v' w1 hown' hgrow hat
  obtain⟨a1,a2,a3,a4,a5⟩:=Boxed.appended hVD (by decide) hRD (by omega) (Nat.le_refl _) hown' hgrow
  obtain⟨g1,cap,rfl⟩:=ownsRow_succ hown'
  have hg1:n≤g1:=by
   rcases hat with e|e
   ·exact HF.out g1 (by rw[←e];rfl)
   ·have h1:g1=(wD.alloc (.cells #[.int .i64 x2] 3)).heap.size:=by simpa [Value.ownBlock] using e
    have:=hWE.size
    omega
  have q3:=a1.cell
  have q4:=a1.frozen
  have hk1:KpC (fun g=>g=bx∨n≤g) W' (w1.setCell ⟨bx,0,none⟩ (.slice (some ⟨g1,0,none⟩) (pre.length+1) cap)):=
   ((KpC.of_below hWE).trans ((KpC.of_grown hgrow).mono (fun g _ h=>.inr (HF.out g h.symm)))).trans ((KpC.of_grown (grownBy_setCell' w1 bx _)).mono (fun g _ h=>.inl (by cases h;rfl)))
  have HFIN:=Lib.hid (show KeepsRec W' (w1.setCell ⟨bx,0,none⟩ (.slice (some ⟨g1,0,none⟩) (pre.length+1) cap))∧GIc W3 bx n (pre++ [(x1,x2)]) (w1.setCell ⟨bx,0,none⟩ (.slice (some ⟨g1,0,none⟩) (pre.length+1) cap))∧KpC (fun g=>g=bx∨n≤g) W (w1.setCell ⟨bx,0,none⟩ (.slice (some ⟨g1,0,none⟩) (pre.length+1) cap))from
   ⟨(KeepsRec.of_below hDW).trans (keepsRec_others a4),⟨⟨_,a2,(by rw[List.length_append,List.map_append];exact a3),fun g hg=>by
    have e:g1=g:=by simpa [Value.ownBlock] using hg
    omega⟩,HM.out.gi.low.trans ((hDW.mono (by omega)).trans a5),HM.out.gi.kept.trans hk1⟩,HM.out.po.trans hk1⟩)
  refine hK.out _ _ ((Kept.of_below (O:=fun i=>(Value.slice Ar pre.length cr).ownBlock=some i) hWE).trans (Kept.grown hgrow) (fun i _ h=>h.symm)) (fun _=>?_)
  clear hK a1 a2 a3 a4 a5 hown' hgrow hat hk1 hVD hRD hbE hWE hDW hS
  simp only[Act.put,List.setIfInBounds_toArray,List.set_cons_zero,List.set_cons_succ]
  refine wpAnyH_done (by kernel_rfl) ?_ _
  refine lastPost_normal ?_
  refine wpOp_step rfl (fun K hK=>?_)
  go_simp
  refine hK _ _ ?_
  clear hK q3 q4
  try gi_wp2
  exact HFIN.out
 case done=>
  rintro D zs W hD hS hgi hDf
  obtain⟨v,hv,hr,hf⟩:=hgi.ex
  have hS:zs.map Prod.snd=ratWant es p:=hS
  obtain⟨wl,hwl⟩: ∃wl,ratWant es p=wl:=⟨_,rfl⟩
  have hwll:wl.length≤1048576:=by
   have h1:=want_len p es
   have h2:=HLEN.out
   rw[←hwl]
   omega
  have hwa:wl.Pairwise (· < ·):=by rw[←hwl];exact want_asc HOK.out.rise p
  have hmz:(zs.map fun x=>Value.int .i64 x.2)=wl.map (Value.int .i64):=by
   rw[←hwl,←hS,List.map_map]
   rfl
  have hlz:zs.length=wl.length:=by
   rw[←hwl,←hS,List.length_map]
  rw[hmz,hlz]at hr
  have HBW:=Lib.hid (HBW3.out.trans (hgi.low.mono (by omega)))
  have HGW:=Lib.hid (HG.out.below HBW.out)
  have HR1:=Lib.hid (show R=grpGo wl (gs.map Prod.fst) (wl.drop 0)from by rw[←HR.out,grp_eq,hwl,List.drop_zero])
  have HX:=Lib.hid hv
  have HRW:=Lib.hid hr
  have HD:=Lib.hid hDf
  have HWA:=Lib.hid hwa
  have q1:=hv.cell
  obtain⟨Ar,cr,rfl,hcr⟩:=mx_slice hr
  have hDl:=heap_lt hDf
  have hbl:=heap_lt hv
  have FIN:=Lib.hid (fun(wf:World) (hb:Below W.heap.size W wf)=>show wf.heap[D]? =some (.deferred (some []))∧Below w.heap.size w (wf.putObj D (.deferred none))from by
   have h1:=(hb.block D (heap_lt HD.out)).trans HD.out
   have h2:=HBW.out.trans (hb.mono HBW.out.size)
   exact⟨h1,h2.grown (grownBy_putObj' wf D _) h2.size (fun g e=>by cases e;have:=HBW3.out.size;omega)⟩)
  have HGL:=Lib.hid (show(gs.map Prod.fst).length=gs.length from List.length_map _)
  clear hv hr hf hgi hDf hS hmz hlz hwl hwa HR HI0 HSEQ
  gi_wp2_with fail
  gi_loopw [31] (fun i wr=> ∃k:Nat,k≤wl.length∧i= .int .i64 k∧Hid (R=grpGo wl (gs.map Prod.fst) (wl.drop k))∧Hid (Below W.heap.size W wr)) (fun i _=>wl.length-(intOf i).toNat)
  case atStart=>exact⟨0,Nat.zero_le _,rfl,HR1,Lib.hid (Below.refl _ _)⟩
  case round=>
   obtain⟨k,hk,rfl,HRk,HBk⟩:=hrel
   by_cases hlt:k<wl.length
   ·obtain⟨x,hx⟩:=getElem_of hlt
    obtain⟨g,c',hv',hg0,hg,e0⟩:=own_cell HRW.out hx
    simp only[Value.slice.injEq,true_and]at hv'
    obtain⟨rfl,rfl⟩:=hv'
    have d0:wr.cell? ⟨g,k,none⟩=some (.int .i64 x):=(HBk.out.cell (p:=⟨g,k,none⟩) hg).trans e0
    have hst:=HRk.out.trans (grp_step hx)
    obtain⟨W5,hW5⟩: ∃z,wr.alloc (.cells #[.int .i64 0] 3)=z:=⟨_,rfl⟩
    obtain⟨W6,hW6⟩: ∃z,W5.setCell ⟨wr.heap.size,0,none⟩ (.int .i64 x)=z:=⟨_,rfl⟩
    have hx5:Boxed W5 wr.heap.size 3 (.int .i64 0):=by rw[←hW5];exact Boxed.new _ _ _
    have hx6:Boxed W6 wr.heap.size 3 (.int .i64 x):=by rw[←hW6];exact hx5.set _
    have hb6:Below wr.heap.size wr W6:=by
     rw[←hW6,←hW5]
     exact(mx_al wr _).setCell (p:=⟨wr.heap.size,0,none⟩) (Nat.le_refl _) _
    have y5:=hx5.cell
    have f5:=hx5.frozen
    have y6:=hx6.cell
    have HCT:=Lib.hid (contains_gf wr.heap.size x _ gs W6 y6 ((HGW.out.below HBk.out).below hb6) hgl)
    obtain⟨ct,hct⟩: ∃b,(gs.map Prod.fst).contains x=b:=⟨_,rfl⟩
    rw[hct]at HCT hst
    have HB6:=Lib.hid (HBk.out.trans (hb6.mono HBk.out.size))
    have HST:=Lib.hid hst
    have HX6:=Lib.hid hx6
    clear hx e0 hst hx5 hx6 hb6 hct
    gi_wp2_with fail
    refine⟨trivial,?_⟩
    refine(callsIn_wide.2 HCT.out).mono ?_
    rintro e w7 ⟨rfl,hb7⟩
    have HB7:=Lib.hid (HB6.out.trans (hb7.mono HB6.out.size))
    have y7:w7.cell? ⟨wr.heap.size,0,none⟩=some (.int .i64 x):=(hb7.cell (p:=⟨wr.heap.size,0,none⟩) (heap_lt HX6.out)).trans y6
    clear hb7 y5 f5 y6 hW5 hW6 d0
    cases ct with
    | true=>
     have HS2:=Lib.hid (HST.out.trans (if_pos rfl))
     clear HST y7
     gi_wp2_with fail
     go_roundw
     case rel=>exact⟨k+1,by omega,by go_num,HS2,HB7⟩
     case measure=>simp[intOf];omega
    | false=>
     have HS2:=Lib.hid (HST.out.trans (if_neg (by decide)))
     clear HST
     gi_wp2_with fail
     obtain⟨h1,h2⟩:=FIN.out w7 HB7.out
     refine⟨by simp,.inl ⟨_,_,rfl,run_takeDeferred h1,?_⟩⟩
     refine⟨_,res_67 rfl _ _,?_,h2⟩
     rw[HS2.out]
     rfl
   ·obtain rfl:k=wl.length:=by omega
    have HR2:=Lib.hid (show R=ratIds wl 0 ((gs.map Prod.fst).drop 0)from by
     rw[HRk.out,List.drop_length,List.drop_zero]
     rfl)
    have HB1:=Lib.hid HBk.out
    obtain⟨wo,rfl⟩: ∃wo:World,wo=wr:=⟨_,rfl⟩
    clear HRk HR1
    gi_wp2_with fail
    gi_loopw [12,43] (fun lv i wr=> ∃(k:Nat) (last:Int),k≤gs.length∧lv= .int .i64 last∧i= .int .i64 k∧Hid (R=ratIds wl last ((gs.map Prod.fst).drop k))∧Hid (Below W.heap.size W wr)) (fun _ i _=>gs.length-(intOf i).toNat)
    case atStart=>exact⟨0,0,Nat.zero_le _,rfl,rfl,HR2,HB1⟩
    case round=>
     obtain⟨k,last,hk,rfl,rfl,HRj,HBj⟩:=hrel
     by_cases hlt2:k<gs.length
     ·obtain⟨x,hx⟩:=getElem_of hlt2
      obtain⟨A',c',hAc,_,_,hxs⟩:=HGW.out.below HBj.out
      simp only[Value.slice.injEq,true_and]at hAc
      obtain⟨rfl,rfl⟩:=hAc
      obtain⟨g,o,u,rfl,hg,_,d0,d1,hu⟩:=hxs k x hx
      have hst:=HRj.out.trans (ids_step (show(gs.map Prod.fst)[k]? =some x.1 from by rw[List.getElem?_map,hx];rfl))
      obtain⟨id,hs⟩:=x
      simp only at d0 d1 hu hst
      obtain⟨W1,W2,W3,hW1,hW2,hW3,f0,f1,f2,y0,y1,y2,hbx,hb3⟩:=two_new wr (.int .i64 0) (.slice none 0 0) (.int .i64 id) u 172
      have z0:=mx_cell (j:=0) hbx
      have HB3:=Lib.hid (HBj.out.trans (hb3.mono HBj.out.size))
      have q3:W3.cell? ⟨bx,0,none⟩=some (.slice Ar wl.length cr):=(HB3.out.cell (p:=⟨bx,0,none⟩) hbl).trans q1
      have HFD:=Lib.hid (row_find _ wl id W3 (own_below HRW.out HB3.out) HWA.out (by omega))
      have HZ:=Lib.hid hbx
      obtain⟨ct,hct⟩: ∃b,wl.contains id=b:=⟨_,rfl⟩
      rw[hct]at HFD hst
      obtain⟨Au,cu,rfl,_⟩:=hu
      clear hx hxs hbx hb3 hct
      gi_wp2_with fail
      refine⟨trivial,?_⟩
      refine(callsIn_wide.2 HFD.out).mono ?_
      rintro e w7 ⟨rfl,hb7⟩
      have HB7:=Lib.hid (HB3.out.trans (hb7.mono HB3.out.size))
      have z7:w7.cell? ⟨wr.heap.size,0,none⟩=some (.int .i64 id):=(hb7.cell (p:=⟨wr.heap.size,0,none⟩) (heap_lt HZ.out)).trans z0
      clear hb7 z0 q3 f0 f1 f2 y0 y1 y2 hW1 hW2 hW3 d0 d1
      by_cases hbad:ct=false∨id≤last
      ·have HS2:=Lib.hid (hst.trans (if_pos hbad))
       have q5:ct=true→decide (id≤last)=true:=fun h=>by
        rcases hbad with e|e
        ·rw[h]at e
         cases e
        ·exact decide_eq_true e
       clear hst hbad
       cases ct with
       | false=>
        gi_wp2_with fail
        obtain⟨h1,h2⟩:=FIN.out w7 HB7.out
        refine⟨by simp,.inl ⟨_,_,rfl,run_takeDeferred h1,?_⟩⟩
        refine⟨_,res_67 rfl _ _,?_,h2⟩
        rw[HS2.out]
        rfl
       | true=>
        have q6:=q5 rfl
        clear q5
        gi_wp2_with fail
        obtain⟨h1,h2⟩:=FIN.out w7 HB7.out
        refine⟨by simp,.inl ⟨_,_,rfl,run_takeDeferred h1,?_⟩⟩
        refine⟨_,res_67 rfl _ _,?_,h2⟩
        rw[HS2.out]
        rfl
      ·have HS2:=Lib.hid (hst.trans (if_neg hbad))
       have hct:ct=true:=by
        cases ct with
        | true=>rfl
        | false=>exact absurd (.inl rfl) hbad
       have q5:decide (id≤last)=false:=decide_eq_false fun h=>hbad (.inr h)
       subst hct
       clear hst hbad
       gi_wp2_with fail
       go_roundw
       case rel=>exact⟨k+1,id,by omega,rfl,by go_num,HS2,HB7⟩
       case measure=>simp[intOf];omega
     ·obtain rfl:k=gs.length:=by omega
      have HS2:=Lib.hid (show R=(0,0)from by
       rw[HRj.out,←HGL.out,List.drop_length]
       rfl)
      gi_wp2_with fail
      obtain⟨h1,h2⟩:=FIN.out wr HBj.out
      refine⟨by simp,.inl ⟨_,_,rfl,run_takeDeferred h1,?_⟩⟩
      refine⟨_,res_67 rfl _ _,?_,h2⟩
      rw[HS2.out]
      rfl
 case stop=>
  rintro D pre W hD _ hf _
  exact hf.elim
end Go.Proofs.YtajbmjpodeilpaaGreatDoor
