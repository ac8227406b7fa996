/- package rat: groups. Sort at rows that are owned (some laws turned from a worked proof of the kit). Plain: sorted numbers. package proof: the keys of a checker's map, in their order. package proof: the iterator over a checker's entries. slices.AppendSeq at a checker's entries. A region that draws its order, in a round of a range over a function. -/
import Derived.Test.YtajbmjpodeilpaaGreatV115
import Derived.Test.YtajbmjpodeilpaaGreatV114
import Derived.Test.YtajbmjpodeilpaaGreatV107
import Derived.Test.YtajbmjpodeilpaaGreatV103
import Derived.Test.YtajbmjpodeilpaaGreatShelf
import Derived.Test.YtajbmjpodeilpaaGreatShelg
import Derived.Test.YtajbmjpodeilpaaGreatV109
import Derived.Test.YtajbmjpodeilpaaGreatV102
import Derived.Test.YtajbmjpodeilpaaGreatV101
import Derived.OrdersIn
namespace Go.Proofs.YtajbmjpodeilpaaGreat
open Go.RowKit Go.Shelf
theorem row_find {base:Nat} (v:Value) (r:List Int) (x:Int) (w:World) (h:w.ownsRow base 3 1 v r.length (r.map (Value.int .i64))) (hr:r.Pairwise (· < ·)) (hl:r.length≤1073741824):
  Calls Tryz.prog 145 #[v,.int .i64 x] w fun e w'=>e= .returned (.tuple #[.int .i64 (r.countP (· <x):Nat),.bool (r.contains x)])∧Below w.heap.size w w':=by
 rcases h.2 with⟨rfl,h0⟩|⟨g,cap,cur,rfl,hb,hg,h1,h2,h3,h4⟩
 ·obtain rfl:r= []:=List.eq_nil_of_length_eq_zero h0
  refine(Tryz.slices_BinarySearch_int_empty none 0 x w).mono ?_
  rintro e w' ⟨rfl,rfl⟩
  exact⟨rfl,Below.refl _ _⟩
 ·refine(Tryz.slices_BinarySearch_int g 0 r.length cap r x w (Nat.le_refl _) (by omega) (fun j hj=>?_) ?_).mono ?_
  ·rw[Nat.zero_add]
   refine mx_at h ?_
   rw[List.getElem?_map,List.getElem?_eq_getElem hj]
   simp[List.getD_eq_getElem?_getD,List.getElem?_eq_getElem hj]
  ·rw[List.take_length]
   exact hr.imp (fun h=>Int.le_of_lt h)
  ·rintro e w' ⟨rfl,q,rfl⟩
   rw[List.take_length]
   exact⟨rfl,mx_drewN w q⟩
theorem GrpMem.ents {n0:Nat} {w:World} {v:Value} {K:List GrpV} (h:GrpMem n0 w v K):EntIn (fun _=>True) w v (K.map Prod.fst):=by
 have hrow:=h.row
 rcases hrow.2 with⟨rfl,h0⟩|⟨g,cap,cur,rfl,_,hg,hle,_⟩
 ·exact⟨none,0,by rw[List.length_map,h0],by rw[List.length_map,h0];exact Nat.le_refl _,fun _=>rfl,fun i p hi=>by
   have:=(List.getElem?_eq_some_iff.1 hi).1
   rw[List.length_map]at this
   omega⟩
 ·refine⟨_,cap,by rw[List.length_map],by rw[List.length_map];exact hle,(fun h=>by cases h),fun i p hi=>?_⟩
  rw[List.getElem?_map]at hi
  cases hx:K[i]? with
  | none=>rw[hx]at hi;cases hi
  | some x=>
   rw[hx]at hi
   obtain rfl:=Option.some.inj hi
   obtain⟨e0,e1⟩:=gcell_at K i x hx
   exact⟨g,0,x.2,rfl,heap_lt hg,trivial,by rw[Nat.zero_add];exact mx_at hrow e0,by rw[Nat.zero_add];exact mx_at hrow e1,(IntsIn.of_own (h.sub x (List.mem_of_getElem? hx))).mono fun _ _=>trivial⟩
set_option maxRecDepth 100000 in
set_option maxHeartbeats 1000000 in
theorem index_gf {O:Nat→Prop} (Bi:Nat) (id:Int) (u:Value) (gs:List (Int×List Int)) (w:World) (hB:w.cell? ⟨Bi,0,none⟩=some (.int .i64 id)) (h1:EntIn O w u gs) (hs:gs.length≤1000000):
  Calls Tryz.prog 162 #[u,.func (.func 144) #[] #[.pointer (some ⟨Bi,0,none⟩)]] w fun e w'=>(∃i:Int,e= .returned (.int .i64 i)∧FstI (gs.map Prod.fst) (fun x=>x==id) i)∧Below w.heap.size w w':=by
 have hBl:=World.block_lt_of_cell? w _ hB
 have HBI:=Lib.hid hB
 have HX:=Lib.hid h1
 have heg: ∀args w,(callFunc 144 args).run Tryz.prog w= .ok (.enter 144 args) w:=enters_of Tryz.func144 (by kernel_rfl) rfl
 obtain⟨A,c,rfl,hc,_,_⟩:=h1
 clear hB
 go_enter Tryz.func162,Tryz.ntmps162
 go_wp2
 go_loopw [8] (fun i wr=> ∃k:Nat,k≤gs.length∧i= .int .i64 k∧Hid (∀j x,j<k→(gs.map Prod.fst)[j]? =some x→(x==id)=false)∧Hid (Below w.heap.size w wr)) (fun i _=>gs.length-(intOf i).toNat)
 case atStart=>exact⟨0,Nat.zero_le _,rfl,Lib.hid (fun j x hj=>by omega),Lib.hid (Below.refl _ _)⟩
 case round=>
  obtain⟨k,hk,rfl,HE,HW⟩:=hrel
  by_cases hlt:k<gs.length
  ·obtain⟨x,hxk⟩:=getElem_of hlt
   obtain⟨A',c',hAc,_,_,hxs⟩:=HX.out.below HW.out
   simp only[Value.slice.injEq,true_and]at hAc
   obtain⟨rfl,rfl⟩:=hAc
   obtain⟨g,o,v,rfl,hg,_,d0,d1,_⟩:=hxs k x hxk
   have HXK:=Lib.hid (show(gs.map Prod.fst)[k]? =some x.1 from by rw[List.getElem?_map,hxk];rfl)
   obtain⟨y,hy⟩: ∃y,x.1=y:=⟨_,rfl⟩
   rw[hy]at d0 HXK
   have HC:=Lib.hid (show∀W,Below w.heap.size w W→Calls Tryz.prog 144 #[.agg #[.int .i64 y,v],.pointer (some ⟨Bi,0,none⟩)] W fun e w'=>e= .returned (.bool (y==id))∧Below W.heap.size W w' from fun W hW=>by
    obtain⟨W1,hW1⟩: ∃z,W.alloc (.cells #[.int .i64 y,v] 138)=z:=⟨_,rfl⟩
    have hb1:Below W.heap.size W W1:=by rw[←hW1];exact mx_al _ _
    have hn1:W1.heap[W.heap.size]? =some (.cells #[.int .i64 y,v] 138 (0,0)):=by rw[←hW1];exact World.alloc_heap_new _ _
    have b0:W1.cell? ⟨W.heap.size,0,none⟩=some (.int .i64 y):=mx_cell (j:=0) hn1
    have b1:W1.cell? ⟨Bi,0,none⟩=some (.int .i64 id):=(hb1.cell (p:=⟨Bi,0,none⟩) (Nat.lt_of_lt_of_le hBl hW.size)).trans ((hW.cell (p:=⟨Bi,0,none⟩) hBl).trans HBI.out)
    have HB1:=Lib.hid hb1
    clear hb1 hn1 hW
    go_enter Tryz.func144,Tryz.ntmps144
    go_wp2_with fail
    go_ret
    exact⟨rfl,HB1.out⟩)
   obtain⟨b,hb⟩: ∃b,(y==id)=b:=⟨_,rfl⟩
   rw[hb]at HC
   have HB:=Lib.hid hb
   clear hxk hxs hb hy
   go_wp2_with fail
   refine(HC.out wr HW.out).mono ?_
   rintro e w' ⟨rfl,hbw⟩
   have HB2:=Lib.hid (HW.out.trans (hbw.mono HW.out.size))
   clear hbw d0 d1
   cases b with
   | true=>
    go_wp2_with fail
    go_ret
    exact⟨⟨_,rfl,.inr ⟨k,rfl,by rw[List.length_map];exact hlt,HE.out,y,HXK.out,HB.out⟩⟩,HB2.out⟩
   | false=>
    go_wp2_with fail
    go_roundw
    case rel=>exact⟨k+1,by omega,by go_num,Lib.hid (FstI.step HE.out HXK.out HB.out),HB2⟩
    case measure=>simp[intOf];omega
  ·obtain rfl:k=gs.length:=by omega
   go_wp2
   go_ret
   exact⟨⟨_,rfl,FstI.none (by rw[List.length_map];exact HE.out)⟩,HW.out⟩
set_option maxHeartbeats 400000 in
theorem contains_gf {O:Nat→Prop} (Bi:Nat) (id:Int) (u:Value) (gs:List (Int×List Int)) (w:World) (hB:w.cell? ⟨Bi,0,none⟩=some (.int .i64 id)) (h1:EntIn O w u gs) (hs:gs.length≤1000000):
  Calls Tryz.prog 143 #[u,.func (.func 144) #[] #[.pointer (some ⟨Bi,0,none⟩)]] w fun e w'=>e= .returned (.bool ((gs.map Prod.fst).contains id))∧Below w.heap.size w w':=by
 have H0:=index_gf Bi id u gs w hB h1 hs
 obtain⟨z,hz⟩: ∃z,(gs.map Prod.fst).contains id=z:=⟨_,rfl⟩
 rw[hz]
 have HZ:=Lib.hid hz
 have H:=Lib.hid H0
 clear H0 hz hB
 go_enter Tryz.func143,Tryz.ntmps143
 go_wp2_with fail
 refine H.out.mono ?_
 rintro e w' ⟨⟨i,rfl,hi⟩,hb⟩
 have HI:=Lib.hid (show decide (0≤i)=z from by
  rw[hi.any,←HZ.out]
  refine Bool.eq_iff_iff.2 ?_
  rw[List.any_eq_true,List.contains_iff_mem]
  constructor
  ·rintro ⟨y,hy,e⟩
   exact(beq_iff_eq.1 e)▸hy
  ·exact fun h=>⟨id,h,beq_self_eq_true id⟩)
 have HB:=Lib.hid hb
 clear hi hb
 go_wp2_with fail
 go_ret
 exact⟨ret_bool HI.out,HB.out⟩
end Go.Proofs.YtajbmjpodeilpaaGreat
namespace Go.Proofs.YtajbmjpodeilpaaGreat
open Go.RowKit Go.Sort
def sortI (xs:List Int):List Int:=xs.mergeSort fun x y=>decide (x≤y)
end Go.Proofs.YtajbmjpodeilpaaGreat
namespace Go.Proofs.YtajbmjpodeilpaaGreat
open Go.RowKit
theorem sI_sorted (xs:List Int):(sortI xs).Pairwise (· ≤ ·):=by
 have:=List.pairwise_mergeSort (le:=fun x y:Int=>decide (x≤y)) (fun a b c h1 h2=>by simp at *;omega) (fun a b=>by simp;omega) xs
 exact this.imp (fun h=>by simpa using h)
theorem sI_eq {xs ys:List Int} (hp:xs.Perm ys) (hs:ys.Pairwise (· ≤ ·)):sortI xs=ys:=
 List.Perm.eq_of_pairwise (le:=fun a b=>a≤b) (fun a b _ _ h1 h2=>by omega) (sI_sorted xs) hs ((List.mergeSort_perm _ _).trans hp)
end Go.Proofs.YtajbmjpodeilpaaGreat
namespace Go.Proofs.YtajbmjpodeilpaaGreat
open Go.RowKit Go.Maps Go.Shelf Go.Sort
theorem sorts_intP (m:Nat):AnyZI.SortsIn Tryz.prog Tryz.sortedA_ren Fence.wide m:=
 ⟨fun blk off cap ss W hH hblk hsz=>callsIn_wide.2 (Tryz.slices_Sort_int blk off cap ss W hH hblk hsz),fun p cap W=>callsIn_wide.2 (Tryz.slices_Sort_int_none p cap W)⟩
set_option maxHeartbeats 2000000 in
theorem ck_keys {w:World} {mb:Nat} {M:List (Int×Value)} (h:MapI w mb M) (hl:M.length≤1000000):
  Calls Tryz.prog 100 #[.map (some mb)] w (fun e w'=>e= .returned (.func (.func 132) #[] #[.pointer (some ⟨w.heap.size,0,none⟩)])∧w'=w.alloc (.cells #[.map (some mb)] 113))∧
  Calls Tryz.prog 99 #[.func (.func 132) #[] #[.pointer (some ⟨w.heap.size,0,none⟩)]] (w.alloc (.cells #[.map (some mb)] 113)) (fun e w'=> ∃v,e= .returned v∧w'.ownsRow w.heap.size 3 1 v M.length ((M.map Prod.fst).map (Value.int .i64))∧Below w.heap.size w w'):=by
 obtain⟨hown,hris,hwf⟩:=h
 have hints:intKeys (DataW.map (encE M))=M.map Prod.fst:=by
  show(encE M).map _=_
  unfold encE
  rw[List.map_map]
  rfl
 have hsz:Maps.size (DataW.map (encE M))=M.length:=encE_length M
 have hseq:SeqGives Fence.wide 2 Tryz.prog 132 #[.pointer (some ⟨w.heap.size,0,none⟩)] encZ (fun ss=>ss.Perm (intKeys (DataW.map (encE M)))) (Maps.size (DataW.map (encE M))) (w.alloc (.cells #[.map (some mb)] 113)):=
  AnyZI.keys_gives (ρ:=Tryz.keysA_ren) { Tryz.keysA with } Fence.wide _ trivial rfl (by omega) w.heap.size mb M.length _ _ (by simp) (by simp) (by
   obtain⟨es,clock,hb,Ft,hs,hD⟩:=hown
   exact⟨es,clock,(Below.heap_alloc _ _ mb (heap_lt hb)).trans hb,Ft,hs,hD⟩)
 have cK:CallsIn Fence.wide 5 Tryz.prog 100 #[.map (some mb)] w fun e w'=>e= .returned (.func (.func 132) #[] #[.pointer (some ⟨w.heap.size,0,none⟩)])∧w'=w.alloc (.cells #[.map (some mb)] 113):=AnyZI.keys_in Tryz.keysA Fence.wide 5 trivial rfl (some mb) w
 have cS:=AnyZI.sorted_in Tryz.sortedA Fence.wide 5 trivial trivial trivial trivial rfl (by omega) (sorts_intP _) (enters_of Tryz.func131 (by kernel_rfl) rfl) 132 #[.pointer (some ⟨w.heap.size,0,none⟩)] trivial (enters_of Tryz.func132 (by kernel_rfl) rfl) _ _ (by rw[hsz];unfold maxLen;omega) (by rw[hsz];omega) _ hseq
 change CallsIn _ _ Tryz.prog 99 _ _ _ at cS
 refine⟨(callsIn_wide (n:=5)).1 cK,((callsIn_wide (n:=5)).1 cS).mono ?_⟩
 rintro e w2 ⟨v,ss,rfl,hS,hrow,_,hb⟩
 rw[hints]at hS
 have h1:ss.length=M.length:=by rw[hS.length_eq,List.length_map]
 have h2:ss.mergeSort (fun x y=>decide (x≤y))=M.map Prod.fst:=sI_eq hS (by
  unfold Rising at hris
  rw[List.pairwise_map]
  exact hris.imp (fun h=>Int.le_of_lt h))
 rw[h1,h2]at hrow
 exact⟨v,rfl,own_mono hrow (base':=w.heap.size) (by simp),(mx_al w (.cells #[.map (some mb)] 113)).trans (hb.mono (by simp))⟩
end Go.Proofs.YtajbmjpodeilpaaGreat
namespace Go.Proofs.YtajbmjpodeilpaaGreat
open Go.RowKit Go.Maps Go.Shelf Go.Sort
attribute [local go_sem] Oper.semAt_some
abbrev EX:=Int×Value×Nat
def exv (x:EX):Array Value:= #[.agg #[.int .i64 x.1,x.2.1]]
structure EPre (E:Ents) (n:Nat) (pre:List EX) (x:EX) (W:World):Prop where
 lon:n≤x.2.2
 size:x.2.2≤W.heap.size
 same: ∀y∈pre,y.2.2=x.2.2
 row: ∃c,E[pre.length]? =some (x.1,c)∧W.ownsRow x.2.2 55 1 x.2.1 c.length (c.map (Value.int .i64))
def EPost (X0:Nat→Prop) (x:EX) (W W':World):Prop:=KpC (fun g=>x.2.2≤g∨X0 g) W W'
theorem EPost.turn {X0:Nat→Prop} {x:EX} {W W3:World} {l:Nat} {r r':Loop} (h:EPost X0 x W W3) (hl:W3.heap[l]? =some (.loop r)):EPost X0 x W (W3.putObj l (.loop r')):=
 KpC.trans h ((KpC.putObj W3 l _ _ hl rfl rfl).mono (fun _ _ e=>e.elim))
theorem map_not_xo {w:World} {b:Nat} {m:List (Int×Value)} (h:MapI w b m): ¬XO w b:=by
 rintro ⟨o,ho,_,h2⟩
 obtain⟨⟨es,cl,hb,_⟩,_⟩:=h
 rw[hb]at ho
 cases ho
 cases h2
set_option maxRecDepth 100000 in
set_option maxHeartbeats 4000000 in
theorem all_stops {X:Nat→Prop} {base:Nat} (X0:Nat→Prop) (Bb b mb:Nat) (k:Ckr) (K:List (Int×(Value×List Int))) (wL w:World) (hm:CkMem X base wL b mb k K) (hB:wL.cell? ⟨Bb,0,none⟩=some (.pointer (some ⟨b,0,none⟩))) (hbL:Below wL.heap.size wL w) (hX0: ∀g,X0 g→wL.heap.size≤g∧g<w.heap.size) (hl:K.length≤1000000) (hcl: ∀p∈K,p.2.2.length≤1000000) (hwf: ∀p∈K,(Lit.int .i64 p.1).wf=true):
  SeqM Tryz.prog 98 #[.pointer (some ⟨Bb,0,none⟩)] exv (EPre k.ents) (EPost X0) (fun _ _ _=>True) (fun ys=>ys.map Prod.fst=k.ents.map Prod.fst) (fun _=>True) w:=by
 intro l J Jx W hW hJ hJx hY h0
 have hWL:Below wL.heap.size wL W:=hbL.trans (hW.mono hbL.size)
 have hmW:=hm.below hWL
 have hBL:=World.block_lt_of_cell? wL _ hB
 have hbl:=heap_lt hm.box
 have hml:=hm.map.lt
 have d0:W.cell? ⟨Bb,0,none⟩=some (.pointer (some ⟨b,0,none⟩)):=(hWL.cell (p:=⟨Bb,0,none⟩) hBL).trans hB
 have c0:=hmW.cells.1
 have hzL:=hWL.size
 have hML:(mapV Prod.fst K).length=K.length:=mapV_length _ _
 have hks:=ck_keys hmW.map (by rw[hML];exact hl)
 rw[hML]at hks
 have HK1:=Lib.hid hks.1
 have HK2:=Lib.hid hks.2
 have HM:=Lib.hid hmW
 have HJ:=Lib.hid hJ
 have HY:=Lib.hid hY
 have H0:=Lib.hid h0
 have HX0:=Lib.hid (fun g hg=>show wL.heap.size≤g∧g<W.heap.size from⟨(hX0 g hg).1,Nat.lt_of_lt_of_le (hX0 g hg).2 hW.size⟩)
 have HCL:=Lib.hid hcl
 have HWF:=Lib.hid hwf
 have HROW:=Lib.hid (fun p (hp:p∈K)=>(hm.rowIn hp).lt.below hWL)
 have HEN:=Lib.hid hm.ents
 have hbW:b<W.heap.size:=by omega
 have hBW:Bb<W.heap.size:=by simp only at hBL;omega
 clear hks hmW hm hB hbL hX0 hcl hwf hW hWL hJ hJx hY h0 hML
 refine callsIn_of_wp Tryz.func98 rfl trivial ?_ rfl
 simp only[Tryz.ntmps98,List.size_toArray,List.length_cons,List.length_nil,Nat.reduceAdd,Nat.reduceSub,Array.replicate_succ,Array.replicate_zero,List.push_toArray,List.append_toArray,List.nil_append,List.cons_append]
 gi_wp2_with fail
 refine⟨trivial,?_⟩
 refine(callsIn_wide.2 HK1.out).mono ?_
 rintro e W' ⟨rfl,rfl⟩
 gi_wp2_with fail
 refine⟨trivial,?_⟩
 refine(callsIn_wide.2 HK2.out).mono ?_
 rintro e W2 ⟨v,rfl,hr,hb2⟩
 obtain⟨Av,cv,rfl,hcv⟩:=mx_slice hr
 have HR:=Lib.hid hr
 have HB2:=Lib.hid hb2
 have hz2:=hb2.size
 have HJ2:=Lib.hid (own_from_below' HJ.out H0.out HB2.out)
 have HM2:=Lib.hid (HM.out.below hb2)
 have D0:=Lib.hid ((hb2.cell (p:=⟨Bb,0,none⟩) hBW).trans d0)
 have HRW2:=Lib.hid (fun p (hp:p∈K)=>((HROW.out p hp).below hb2).narrow)
 clear hr hb2 d0 c0 HK1 HK2 HROW
 gi_wp2
 gi_loopw [12] (fun i wr=> ∃(j:Nat) (pre:List EX),j≤K.length∧i= .int .i64 j∧pre.length=j∧Hid (pre.map Prod.fst=(K.map Prod.fst).take j)∧Hid (∀y∈pre,y.2.2=W2.heap.size)∧Hid (KpC (fun g=>W2.heap.size≤g∨X0 g) W2 wr)∧Hid (J pre wr)) (fun i _=>K.length-(intOf i).toNat)
 case atStart=>exact⟨0,[],Nat.zero_le _,rfl,rfl,Lib.hid rfl,Lib.hid (fun y hy=>by cases hy),Lib.hid (KpC.refl _ _),HJ2⟩
 case round=>
  obtain⟨j,pre,hj,rfl,hpl,HP,HSM,HK,HJS⟩:=hrel
  by_cases hlt:j<K.length
  ·obtain⟨p,hp⟩:=getElem_of hlt
   have hpm:=List.mem_of_getElem? hp
   have hidk:((mapV Prod.fst K).map Prod.fst)[j]? =some p.1:=by
    rw[List.getElem?_map]
    unfold mapV
    rw[List.getElem?_map,hp]
    rfl
   obtain⟨g,c',hv,hg0,hg,e0⟩:=own_cell (xs:=(mapV Prod.fst K).map Prod.fst) (by rw[List.length_map,mapV_length];exact HR.out) hidk
   rw[List.length_map,mapV_length]at hv
   simp only[Value.slice.injEq,true_and]at hv
   obtain⟨rfl,rfl⟩:=hv
   have hkp:=HK.out.kept
   have d1:wr.cell? ⟨g,j,none⟩=some (.int .i64 p.1):=(hkp.cell (p:=⟨g,j,none⟩) hg (fun h=>by
    rcases h with(h|h)|h
    ·simp only at h;omega
    ·have:=(HX0.out _ h).2
     simp only at this;omega
    ·exact xo_cell e0 h)).trans e0
   have d0:wr.cell? ⟨Bb,0,none⟩=some (.pointer (some ⟨b,0,none⟩)):=(hkp.cell (p:=⟨Bb,0,none⟩) (by simp only;omega) (fun h=>by
    rcases h with(h|h)|h
    ·simp only at h;omega
    ·have:=(HX0.out _ h).1
     simp only at this hBL;omega
    ·exact xo_cell D0.out h)).trans D0.out
   have c0:wr.cell? ⟨b,0,none⟩=some (.map (some mb)):=(hkp.cell (p:=⟨b,0,none⟩) (by simp only;omega) (fun h=>by
    rcases h with(h|h)|h
    ·simp only at h;omega
    ·have:=(HX0.out _ h).1
     simp only at this;omega
    ·exact xo_cell HM2.out.cells.1 h)).trans HM2.out.cells.1
   have hmr:MapI wr mb (mapV Prod.fst K):=HM2.out.map.kept hkp (fun h=>by
    rcases h with(h|h)|h
    ·omega
    ·have:=(HX0.out _ h).1
     omega
    ·exact map_not_xo HM2.out.map h)
   have hlk:=hmr.look int_law Tryz.underlying3 Tryz.underlying113 (z:=.slice none 0 0) (by kernel_rfl) false (HWF.out p hpm)
   rw[mapV_get,Option.isSome_map,getA_of HM2.out.rise (show(p.1,p.2)∈K from hpm)]at hlk
   simp only[Option.map_some,Option.getD_some]at hlk
   have HRWr:=Lib.hid ((HRW2.out p hpm).kept hkp (fun g hg h=>by
    rcases h with(h|h)|h
    ·have:=hg.1.2
     omega
    ·have:=(HX0.out _ h).1
     have:=hg.1.2
     omega
    ·exact hg.2 h))
   have HCLp:=Lib.hid (HCL.out p hpm)
   have HTK:=Lib.hid (show(K.map Prod.fst).take (j+1)=(K.map Prod.fst).take j++ [p.1]from by
    rw[List.take_add_one,List.getElem?_map,hp]
    rfl)
   have HEJ:=Lib.hid (show k.ents[j]? =some (p.1,p.2.2)from by
    rw[HEN.out]
    unfold mapV
    rw[List.getElem?_map,hp]
    rfl)
   obtain⟨id,u,c⟩:=p
   simp only at hlk d1 HRWr HCLp HTK HEJ
   have HCN:=Lib.hid (clone_c u c wr HRWr.out (by have:=HCLp.out;omega))
   have hu:=HRWr.out
   obtain⟨Au,cu,rfl,_⟩:=hu
   clear hp hpm hidk e0 hkp hmr
   gi_wp2_with fail
   refine⟨trivial,?_⟩
   refine(callsIn_wide.2 HCN.out).mono ?_
   rintro e W4 ⟨v4,rfl,hown,hb4⟩
   have hz4:W2.heap.size≤wr.heap.size:=HK.out.size
   have hz5:=hb4.size
   obtain⟨A4,c4,rfl,_⟩:=mx_slice hown
   obtain⟨fn,tmps,assign,body,hy,hR⟩:=yield_any 8 (HY.out pre (id,.slice A4 c.length c4,W2.heap.size) W4 (own_from_below' HJ.out HJS.out hb4) ⟨by show W.heap.size≤W2.heap.size;have:=HB2.out.size;omega,by show W2.heap.size≤W4.heap.size;omega,HSM.out,⟨c,by rw[hpl];exact HEJ.out,own_mono hown hz4⟩⟩)
   dsimp only[exv]at hy
   have HRR:=Lib.hid hR
   have HK4:=Lib.hid (HK.out.trans (KpC.of_below hb4))
   clear hown hb4 hR d1 d0 c0 hlk HCN
   gi_wp2_with fail
   refine HRR.out.mono ?_
   rintro e W5 (⟨rfl,hJ5,hk5⟩|⟨rfl,hJx5,_⟩)
   ·have HJ5:=Lib.hid hJ5
    have HK5:=Lib.hid (HK4.out.trans hk5)
    clear hJ5 hk5 hy
    gi_wp2_with fail
    go_roundw
    case rel=>exact⟨j+1,pre++ [(id,.slice A4 c.length c4,W2.heap.size)],by omega,by go_num,by rw[List.length_append,hpl];rfl,Lib.hid (by rw[HTK.out,List.map_append,HP.out];rfl),Lib.hid (fun y hy=>by
     rcases List.mem_append.1 hy with h|h
     ·exact HSM.out y h
     ·rw[List.mem_singleton.1 h]),HK5,HJ5⟩
    case measure=>simp[intOf];omega
   ·gi_wp2
    refine bodyPost_ret (results_none rfl _ _ _) rfl ?_
    exact⟨⟨_,rfl⟩,.inr ⟨_,trivial,hJx5⟩⟩
  ·obtain rfl:j=K.length:=by omega
   gi_wp2
   go_end0
   refine⟨⟨_,rfl⟩,.inl ⟨pre,?_,HJS.out⟩⟩
   rw[HP.out,HEN.out]
   unfold mapV
   rw[List.map_map,←List.length_map (f:=Prod.fst),List.take_length]
   rfl
end Go.Proofs.YtajbmjpodeilpaaGreat
namespace Go.Proofs.YtajbmjpodeilpaaGreat
open Go.RowKit Go.Maps Go.Shelf Go.Sort
attribute [local go_sem] Oper.semAt_some
def ecell (x:EX):List Value:= [.int .i64 x.1,x.2.1]
theorem ecell_at: ∀(K:List EX) (i:Nat) (x:EX),K[i]? =some x→(K.flatMap ecell)[i*2]? =some (.int .i64 x.1)∧(K.flatMap ecell)[i*2+1]? =some x.2.1
 | [],i,x,h=>by simp at h
 | y::K,0,x,h=>by
  obtain rfl:y=x:=by simpa using h
  exact⟨rfl,rfl⟩
 | y::K,i+1,x,h=>by
  have:=ecell_at K i x (by simpa using h)
  rw[show(i+1)*2=i*2+2 by omega]
  exact this
structure EJ (w:World) (r:Nat) (E:Ents) (pre:List EX) (W:World):Prop where
 ex: ∃v,Boxed W r 79 v∧W.ownsRow w.heap.size 82 2 v pre.length (pre.flatMap ecell)∧∀g,v.ownBlock=some g→pre≠ []∧∀y∈pre,y.2.2≤g
 row: ∀(i:Nat) (x:EX),pre[i]? =some x→∃c,E[i]? =some (x.1,c)∧w.heap.size≤x.2.2∧W.ownsRow x.2.2 55 1 x.2.1 c.length (c.map (Value.int .i64))
 low:Below w.heap.size w W
theorem own_nocells {w w':World} {row:Option Nat} {base size n:Nat} {e:TypeId} {v:Value} {xs:List Value} (h:w.ownsRow base e size v n xs) (hg:w.grownBy w' row) (hr: ∀r,row=some r→∃o:Obj,w.heap[r]? =some o∧o.isCells=false):w'.ownsRow base e size v n xs:=
 own_kept h (Kept.grown hg) (fun g h1 h2=>by
  obtain⟨o,ho,hc⟩:=hr g h2.symm
  obtain⟨c,hcc⟩:=own_type h g h1
  rw[hcc]at ho
  cases ho
  cases hc)
theorem ej_own (w:World) (r:Nat) (E:Ents) {N:Nat} (hN:w.heap.size≤N):OwnFrom N (EJ w r E):=fun pre W W' row h hg hr=>by
 obtain⟨v,h1,h2,h3⟩:=h.ex
 exact⟨⟨v,boxed_grown h1 hg (fun q e=>(hr q e).2),own_nocells h2 hg (fun q e=>(hr q e).2),h3⟩,fun i x hx=>by
  obtain⟨c,a,a2,b⟩:=h.row i x hx
  exact⟨c,a,a2,own_nocells b hg (fun q e=>(hr q e).2)⟩,h.low.grown hg h.low.size (fun q e=>Nat.le_trans hN (hr q e.symm.symm).1)⟩
theorem EJ.ents {w W:World} {r:Nat} {E:Ents} {pre:List EX} (h:EJ w r E pre W) (hl:pre.length=E.length) {v:Value} (hv:W.ownsRow w.heap.size 82 2 v pre.length (pre.flatMap ecell)):EntIn (fun g=> ¬XO W g) W v E:=by
 rcases hv.2 with⟨rfl,h0⟩|⟨g,cap,cur,rfl,_,hg,hle,_⟩
 ·exact⟨none,0,by rw[←hl,h0],by omega,fun _=>rfl,fun i p hi=>by
   have:=(List.getElem?_eq_some_iff.1 hi).1
   omega⟩
 ·refine⟨_,cap,by rw[hl],by omega,(fun h=>by cases h),fun i p hi=>?_⟩
  obtain⟨x,hx⟩:=getElem_of (show i<pre.length by have:=(List.getElem?_eq_some_iff.1 hi).1;omega)
  obtain⟨c,hc,_,hrow⟩:=h.row i x hx
  rw[hi]at hc
  obtain rfl:=Option.some.inj hc
  obtain⟨e0,e1⟩:=ecell_at pre i x hx
  exact⟨g,0,x.2.1,rfl,heap_lt hg,xo_cells hg,by rw[Nat.zero_add];exact mx_at hv e0,by rw[Nat.zero_add];exact mx_at hv e1,(IntsIn.of_own hrow).narrow.mono fun _ hg=>hg.2⟩
def EntOwn (n0:Nat) (w:World) (v:Value) (es:Ents):Prop:=
 ∃pre:List EX,pre.length=es.length∧w.ownsRow n0 82 2 v es.length (pre.flatMap ecell)∧∀(i:Nat) (x:EX),pre[i]? =some x→∃c,es[i]? =some (x.1,c)∧w.ownsRow n0 55 1 x.2.1 c.length (c.map (Value.int .i64))
theorem EntOwn.grownNo {n0:Nat} {w w':World} {v:Value} {es:Ents} {row:Option Nat} (h:EntOwn n0 w v es) (hg:w.grownBy w' row) (hr: ∀r,row=some r→∃o:Obj,w.heap[r]? =some o∧o.isCells=false):EntOwn n0 w' v es:=by
 obtain⟨pre,h1,h2,h3⟩:=h
 exact⟨pre,h1,own_nocells h2 hg hr,fun i x hx=>by
  obtain⟨c,a,b⟩:=h3 i x hx
  exact⟨c,a,own_nocells b hg hr⟩⟩
theorem EntOwn.below {n0:Nat} {w w':World} {v:Value} {es:Ents} (h:EntOwn n0 w v es) (hb:Below w.heap.size w w'):EntOwn n0 w' v es:=by
 obtain⟨pre,h1,h2,h3⟩:=h
 exact⟨pre,h1,own_below h2 hb,fun i x hx=>by
  obtain⟨c,a,b⟩:=h3 i x hx
  exact⟨c,a,own_below b hb⟩⟩
theorem EntOwn.mono {n0 n1:Nat} {w:World} {v:Value} {es:Ents} (h:EntOwn n0 w v es) (hn:n1≤n0):EntOwn n1 w v es:=by
 obtain⟨pre,h1,h2,h3⟩:=h
 exact⟨pre,h1,own_mono h2 hn,fun i x hx=>by
  obtain⟨c,a,b⟩:=h3 i x hx
  exact⟨c,a,own_mono b hn⟩⟩
theorem EntOwn.entIn {n0:Nat} {w:World} {v:Value} {es:Ents} (h:EntOwn n0 w v es):EntIn (fun g=>n0≤g) w v es:=by
 obtain⟨pre,hl,hv,hrow⟩:=h
 rcases hv.2 with⟨rfl,h0⟩|⟨g,cap,cur,rfl,hb,hg,hle,_⟩
 ·exact⟨none,0,by rw[h0],by omega,fun _=>rfl,fun i p hi=>by
   have:=(List.getElem?_eq_some_iff.1 hi).1
   omega⟩
 ·refine⟨_,cap,rfl,by omega,(fun h=>by cases h),fun i p hi=>?_⟩
  obtain⟨x,hx⟩:=getElem_of (show i<pre.length by have:=(List.getElem?_eq_some_iff.1 hi).1;omega)
  obtain⟨c,hc,hrw⟩:=hrow i x hx
  rw[hi]at hc
  obtain rfl:=Option.some.inj hc
  obtain⟨e0,e1⟩:=ecell_at pre i x hx
  exact⟨g,0,x.2.1,rfl,heap_lt hg,hb,by rw[Nat.zero_add];exact mx_at hv e0,by rw[Nat.zero_add];exact mx_at hv e1,(IntsIn.of_own hrw).mono fun _ hg=>hg.1⟩
end Go.Proofs.YtajbmjpodeilpaaGreat
namespace Go.Proofs.YtajbmjpodeilpaaGreat
open Go.RowKit Go.Shelf Go.Maps
def noDefer (ops:Array Oper):Bool:=ops.all fun o=>match o.op with
 | .defer _=>false
 | _=>true
theorem noDefer_at {ops:Array Oper} (h:noDefer ops=true) {i:Nat} {o:Oper} (ho:ops[i]? =some o): ∀c,o.op≠.defer c:=by
 intro c hc
 obtain⟨hi,he⟩:=Array.getElem?_eq_some_iff.1 ho
 have:=(Array.all_eq_true.1 h) i hi
 rw[he,hc]at this
 cases this
theorem rows_round {l n:Nat} {P:Program} {row:String} {args:Array Value} {w:World} {R:Value→World→Prop} (h:Rows P row args w R):RowsIn (Fence.wide.inRound l) n P row args w R:=
 fun c cs _=>let ⟨v,w',r,s⟩:=h c cs;⟨v,w',r,stepsIn_wide.2 s⟩
theorem oper_round {l n:Nat} {P:Program} {o:Oper} {a:Act} {w:World} {K:Act→World→Prop} {Q:Exit→Act→World→Prop} (hd: ∀c,o.op≠.defer c) (h:o.wp P a w K Q):o.wpIn (Fence.wide.inRound l) n P a w K Q:=by
 unfold Oper.wpIn
 refine⟨fun _ _=>trivial,?_⟩
 rw[Fence.inRound_round,Oper.semAt_some l a.eval o hd]
 unfold Oper.wp at h
 generalize (execOp a.eval o).run P w=r at *
 cases r with
 | ok x w'=>
  cases x with
  | value v=>exact h
  | skip=>exact h
  | defer d=>exact h
  | enter f args=>exact⟨(fun hh=>by cases hh),CallsIn.inRound l (callsIn_wide.2 h)⟩
  | row row args=>exact⟨(fun hh=>by cases hh),rows_round h⟩
  | round=>exact(h:False).elim
  | _=>exact h
 | halt x w'=>
  cases x <;> exact h
theorem wpOp_round {l n:Nat} {P:Program} {ops:Array Oper} {Q:Exit→Act→World→Prop} {i:Nat} {K:Act→World→Prop} {a:Act} {w:World} (hL: ¬LetsOut Q) (hd:noDefer ops=true) (h:wpOp P ops Q i K a w):wpOpIn (Fence.wide.inRound l) n P ops Q i K a w:=by
 unfold wpOp at h
 unfold wpOpIn
 cases ho:ops[i]? with
 | none=>
  rw[ho]at h
  exact h
 | some o=>
  rw[ho]at h
  simp only at h⊢
  split
  ·rename_i hw
   rw[if_pos hw]at h
   rcases h with h|h
   ·exact oper_round (noDefer_at hd ho) h
   ·exact absurd h.2 hL
  ·rename_i hw
   rw[if_neg hw]at h
   exact⟨fun _ _=>trivial,h⟩
theorem wpAny_round {l n:Nat} {P:Program} {md:Region.Mode} {ops:Array Oper} {Q:Exit→Act→World→Prop} (hL: ¬LetsOut Q) (hd:noDefer ops=true): ∀(fuel:Nat) (listed:Array Bool) (a:Act) (w:World),wpAny P md ops Q fuel listed a w→wpAnyIn (Fence.wide.inRound l) n P md ops Q fuel listed a w
 | 0,_,_,_,h=>h
 | fuel+1,_,_,_,h=>⟨h.1,fun i hi=>wpOpIn_mono (fun a w h'=>wpAny_round hL hd fuel _ a w h') (wpOp_round hL hd (h.2 i hi))⟩
theorem wpIn_round_sink {l n id:Nat} {P:Program} {lo:List Oper} {o:Oper} (S:World→Prop) {Q:Exit→Act→World→Prop} {a:Act} {w:World} (hm:P.follows .mixedOrders=true) (hl:lo=lo.dropLast++ [o]) (hk:sinkOk .any lo.dropLast.toArray o=true) (hd:noDefer lo.toArray=true) (hL: ¬LetsOut Q) (hS:S w.drew)
  (h:S w.drew→wpAnyH P .any lo.dropLast.toArray (lastPost P lo.dropLast.toArray o Q) S lo.dropLast.toArray.size (Array.replicate lo.dropLast.toArray.size false) a w.drew):(Code.region id lo.toArray true).wpIn (Fence.wide.inRound l) n P Q a w:=by
 have e:lo.toArray=lo.dropLast.toArray.push o:=by
  rw[List.push_toArray,←hl]
 rw[e]at hd⊢
 refine wpIn_region_any hm (wpAny_round hL hd _ _ _ _ ?_)
 have:=wpAny_sink (P:=P) (sink_of hk) lo.dropLast.toArray.size (Array.replicate lo.dropLast.toArray.size false) a w.drew (by simp) (fun j x _ hj=>by
  have:(Array.replicate lo.dropLast.toArray.size false).getD j false=false:=by
   simp only[Array.getD_eq_getD_getElem?,Array.getElem?_replicate]
   split <;> rfl
  rw[this]at hj
  cases hj) (wpAny_of_held _ _ _ _ (h hS))
 rw[Array.size_push,show Array.replicate (lo.dropLast.toArray.size+1) false=(Array.replicate lo.dropLast.toArray.size false).push false by rw[Array.replicate_succ]]
 exact this
end Go.Proofs.YtajbmjpodeilpaaGreat
