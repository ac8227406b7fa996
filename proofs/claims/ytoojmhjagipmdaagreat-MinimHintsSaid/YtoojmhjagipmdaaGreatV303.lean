/- The arena: Get. -/
import Derived.Test.YtoojmhjagipmdaaGreatV302
import Derived.Deep.DeepCutAuto
import Derived.Deep.CutBlock
import Derived.Test.YtoojmhjagipmdaaGreatV301
namespace Go.Proofs.YtoojmhjagipmdaaGreat
open Go.RowKit
structure Ent where
 fr:Nat
 upto:Nat
 id:Int
 gone:Bool
def Ent.cells (e:Ent):List Value:= [.int .i64 (e.fr:Nat),.int .i64 (e.upto:Nat),.int .i64 e.id,.bool e.gone]
structure Arn where
 store:List Int
 all:List Ent
 used:Nat
 count:Nat
 last:Int
structure ArMem (O:Nat→Prop) (w:World) (b:Nat) (A:Arn) (stv alv:Value):Prop where
 own: ∀g,O g→g<w.heap.size
 inb:O b
 block:w.heap[b]? =some (.cells #[stv,alv,.int .i64 (A.used:Nat),.int .i64 (A.count:Nat),.int .i64 A.last,.bool true] 192 (0,0))
 store:w.ownsRow 0 32 1 stv A.store.length (A.store.map (Value.int .i64))
 storeb: ∀g,stv.ownBlock=some g→O g
 all:w.ownsRow 0 196 4 alv A.all.length (A.all.flatMap Ent.cells)
 allb: ∀g,alv.ownBlock=some g→O g
structure Arn.Ok (A:Arn):Prop where
 sorted:A.all.Pairwise fun x y=>x.id<y.id
 each: ∀e∈A.all,1≤e.id∧e.id≤1073741824∧e.fr≤e.upto∧e.upto≤A.store.length
 lens:A.all.length≤1073741824∧A.store.length≤4194304
 nums:A.used≤1048576∧A.count≤1073741824∧0≤A.last∧A.last≤1073741824
 last: ∀e∈A.all,e.id≤A.last
def ArAt (O:Nat→Prop) (w:World) (b:Nat) (A:Arn):Prop:=A.Ok∧∃stv alv,ArMem O w b A stv alv
theorem ArMem.kept {O O':Nat→Prop} {w w':World} {b:Nat} {A:Arn} {stv alv:Value} (h:ArMem O w b A stv alv) (k:Kept O' w w') (hO: ∀g,O g→¬O' g):ArMem O w' b A stv alv where
 own:=fun g hg=>Nat.lt_of_lt_of_le (h.own g hg) k.size
 inb:=h.inb
 block:=(k.block b (heap_lt h.block) (hO b h.inb)).trans h.block
 store:=own_kept h.store k (fun g hg=>hO g (h.storeb g hg))
 storeb:=h.storeb
 all:=own_kept h.all k (fun g hg=>hO g (h.allb g hg))
 allb:=h.allb
theorem ArAt.kept {O O':Nat→Prop} {w w':World} {b:Nat} {A:Arn} (h:ArAt O w b A) (k:Kept O' w w') (hO: ∀g,O g→¬O' g):ArAt O w' b A:=by
 obtain⟨hk,stv,alv,h⟩:=h
 exact⟨hk,stv,alv,h.kept k hO⟩
theorem ArAt.below {O:Nat→Prop} {w w':World} {b:Nat} {A:Arn} (h:ArAt O w b A) (k:Below w.heap.size w w'):ArAt O w' b A:=
 h.kept (O':=fun _=>False) (Kept.of_below k) (fun _ _ h=>h)
theorem entCells_at (l:List Ent) (i j:Nat) (x:Ent) (h:l[i]? =some x) (hj:j<4):(l.flatMap Ent.cells)[i*4+j]? =x.cells[j]? :=by
 induction l generalizing i with
 | nil=>simp at h
 | cons y l ih=>
  rw[List.flatMap_cons]
  cases i with
  | zero=>
   obtain rfl:y=x:=by simpa using h
   rw[Nat.zero_mul,Nat.zero_add,List.getElem?_append_left (by simpa [Ent.cells] using hj)]
  | succ i=>
   rw[List.getElem?_append_right (by simp[Ent.cells];omega)]
   have e:(i+1)*4+j-y.cells.length=i*4+j:=by simp[Ent.cells];omega
   rw[e]
   exact ih i (by simpa using h)
theorem ent_row {w:World} {g n c i:Nat} {l:List Ent} {x:Ent} (h:w.ownsRow 0 196 4 (.slice (some ⟨g,0,none⟩) n c) n (l.flatMap Ent.cells)) (hx:l[i]? =some x):
  w.cell? ⟨g,i*4,none⟩=some (.int .i64 (x.fr:Nat))∧w.cell? ⟨g,i*4+1,none⟩=some (.int .i64 (x.upto:Nat))∧w.cell? ⟨g,i*4+2,none⟩=some (.int .i64 x.id)∧w.cell? ⟨g,i*4+3,none⟩=some (.bool x.gone):=
 ⟨mx_at h (j:=i*4+0) (by rw[entCells_at _ i 0 x hx (by omega)];rfl),mx_at h (by rw[entCells_at _ i 1 x hx (by omega)];rfl),mx_at h (by rw[entCells_at _ i 2 x hx (by omega)];rfl),mx_at h (by rw[entCells_at _ i 3 x hx (by omega)];rfl)⟩
def posOf:List Ent→Int→Nat
 | [],_=>0
 | e::l,id=>if e.id<id then posOf l id+1 else 0
theorem posOf_eq (l:List Ent) (id:Int) (p:Nat) (hp:p≤l.length) (h1: ∀k e,k<p→l[k]? =some e→e.id<id) (h2: ∀e,l[p]? =some e→id≤e.id):posOf l id=p:=by
 induction l generalizing p with
 | nil=>
  simp only[List.length_nil]at hp
  unfold posOf
  omega
 | cons e l ih=>
  unfold posOf
  cases p with
  | zero=>
   rw[if_neg]
   have:=h2 e rfl
   omega
  | succ p=>
   rw[if_pos (h1 0 e (by omega) rfl),ih p (by simpa using hp) (fun k x hk hx=>h1 (k+1) x (by omega) (by simpa using hx)) (fun x hx=>h2 x (by simpa using hx))]
theorem sorted_lt {l:List Ent} (h:l.Pairwise fun x y=>x.id<y.id) {i j:Nat} {x y:Ent} (hi:l[i]? =some x) (hj:l[j]? =some y) (hij:i<j):x.id<y.id:=by
 have hi':=List.getElem?_eq_some_iff.1 hi
 have hj':=List.getElem?_eq_some_iff.1 hj
 have:=List.pairwise_iff_getElem.1 h i j hi'.1 hj'.1 hij
 rw[hi'.2,hj'.2]at this
 exact this
set_option maxHeartbeats 1000000 in
theorem ar_cmp (e:Ent) (id:Int) (w:World) (h1:0≤e.id) (h2:e.id≤1073741824) (h3:0≤id) (h4:id≤1073741825):
  Calls Tryz.prog 205 #[.agg #[.int .i64 (e.fr:Nat),.int .i64 (e.upto:Nat),.int .i64 e.id,.bool e.gone],.int .i64 id] w fun r w'=>r= .returned (.int .i64 (e.id-id))∧Below w.heap.size w w':=by
 obtain⟨fr,up,eid,gone⟩:=e
 simp only[]at h1 h2⊢
 obtain⟨wb,hwb⟩: ∃x,w.alloc (.cells #[.int .i64 (fr:Nat),.int .i64 (up:Nat),.int .i64 eid,.bool gone] 196)=x:=⟨_,rfl⟩
 have hb:Below w.heap.size w wb:=by rw[←hwb];exact mx_al _ _
 have hn:wb.heap[w.heap.size]? =some (.cells #[.int .i64 (fr:Nat),.int .i64 (up:Nat),.int .i64 eid,.bool gone] 196 (0,0)):=by rw[←hwb];exact World.alloc_heap_new _ _
 have c2:wb.cell? ⟨w.heap.size,2,none⟩=some (.int .i64 eid):=mx_cell (j:=2) hn
 have hw:IntKind.i64.wrap (eid-id)=eid-id:=IntWalk.i64_in _ (by omega)
 have HB:=Lib.hid hb
 clear hn hb
 go_enter Tryz.func205,Tryz.ntmps205
 go_wp2_with fail
 go_ret
 exact⟨rfl,HB.out⟩
end Go.Proofs.YtoojmhjagipmdaaGreat
namespace Go.Proofs.YtoojmhjagipmdaaGreat
open Go.RowKit
set_option maxRecDepth 100000 in
set_option maxHeartbeats 2000000 in
theorem ar_bsf (v:Value) (l:List Ent) (id:Int) (w:World) (h:w.ownsRow 0 196 4 v l.length (l.flatMap Ent.cells)) (hs:l.Pairwise fun x y=>x.id<y.id) (he: ∀e∈l,1≤e.id∧e.id≤1073741824) (hl:l.length≤1073741824) (h0:0≤id) (h1:id≤1073741825):
  Calls Tryz.prog 204 #[v,.int .i64 id,.func (.func 205) #[] #[]] w fun r w'=> ∃bf,r= .returned (.tuple #[.int .i64 (posOf l id:Nat),.bool bf])∧Below w.heap.size w w':=by
 have HR:=Lib.hid h
 have HS:=Lib.hid hs
 have HE:=Lib.hid he
 obtain⟨Av,cv,rfl,hcv⟩:=mx_slice h
 clear h hs he
 go_enter Tryz.func204,Tryz.ntmps204
 go_wp2_with fail
 go_loopw [9,10] (fun a b wr=> ∃i j:Nat,i≤j∧j≤l.length∧a= .int .i64 i∧b= .int .i64 j∧Hid (Below w.heap.size w wr)∧Hid (∀k e,k<i→l[k]? =some e→e.id<id)∧Hid (∀k e,j≤k→l[k]? =some e→id≤e.id)) (fun a b _=>(intOf b).toNat-(intOf a).toNat)
 case atStart=>exact⟨0,l.length,Nat.zero_le _,Nat.le_refl _,rfl,rfl,Lib.hid (Below.refl _ _),Lib.hid (fun k e hk=>by omega),Lib.hid (fun k e hk he=>by have:=(List.getElem?_eq_some_iff.1 he).1;omega)⟩
 case round=>
  obtain⟨i,j,hij,hjl,rfl,rfl,HW,H1,H2⟩:=hrel
  by_cases hlt:i<j
  ·
   have hw1:IntKind.i64.wrap ((i:Int)+(j:Int))=(i:Int)+(j:Int):=IntWalk.i64_in _ (by omega)
   obtain⟨m,hm⟩: ∃m,(i+j)/2=m:=⟨_,rfl⟩
   have hm2:((i:Int)+(j:Int))/2=(m:Int):=by omega
   have him:i≤m:=by omega
   have hmj:m<j:=by omega
   clear hm
   obtain⟨x,hx⟩: ∃x,l[m]? =some x:=⟨_,List.getElem?_eq_getElem (by omega)⟩
   obtain⟨gv,cv',cs0,hvv,_,_,hgl,_⟩:=mx_some HR.out (by omega)
   simp only[Value.slice.injEq]at hvv
   obtain⟨rfl,_,rfl⟩:=hvv
   obtain⟨c0,c1,c2,c3⟩:=ent_row HR.out hx
   have d0:=(HW.out.cell (p:=⟨gv,m*4,none⟩) hgl).trans c0
   have d1:=(HW.out.cell (p:=⟨gv,m*4+1,none⟩) hgl).trans c1
   have d2:=(HW.out.cell (p:=⟨gv,m*4+2,none⟩) hgl).trans c2
   have d3:=(HW.out.cell (p:=⟨gv,m*4+3,none⟩) hgl).trans c3
   have hxe:=HE.out x (List.mem_of_getElem? hx)
   have HCM:=Lib.hid (ar_cmp x id wr (by omega) hxe.2 h0 h1)
   have HX:=Lib.hid hx
   clear c0 c1 c2 c3 hx
   by_cases hc:x.id<id
   ·
    have hd:decide (x.id-id<0)=true:=by simp;omega
    have HC:=Lib.hid hc
    clear hc
    go_wp2_with fail
    refine HCM.out.mono ?_
    rintro e w1 ⟨rfl,hb1⟩
    have HB1:=Lib.hid (HW.out.trans (hb1.mono HW.out.size))
    clear d0 d1 d2 d3 hb1
    go_wp2_with fail
    go_roundw
    case rel=>exact⟨m+1,j,by omega,hjl,by go_num,rfl,HB1,Lib.hid (fun k y hk hy=>by
     rcases Nat.lt_or_ge k m with h|h
     ·
      have:=sorted_lt HS.out hy HX.out h
      have:=HC.out
      omega
     ·
      obtain rfl:k=m:=by omega
      rw[HX.out]at hy
      obtain rfl:=Option.some.inj hy
      exact HC.out),H2⟩
    case measure=>simp[intOf];omega
   ·
    have hd:decide (x.id-id<0)=false:=by simp;omega
    have HC:=Lib.hid hc
    clear hc
    go_wp2_with fail
    refine HCM.out.mono ?_
    rintro e w1 ⟨rfl,hb1⟩
    have HB1:=Lib.hid (HW.out.trans (hb1.mono HW.out.size))
    clear d0 d1 d2 d3 hb1
    go_wp2_with fail
    go_roundw
    case rel=>exact⟨i,m,him,by omega,rfl,by go_num,HB1,H1,Lib.hid (fun k y hk hy=>by
     have hcc:=HC.out
     rcases Nat.lt_or_ge m k with h|h
     ·
      have:=sorted_lt HS.out HX.out hy h
      omega
     ·
      obtain rfl:k=m:=by omega
      rw[HX.out]at hy
      obtain rfl:=Option.some.inj hy
      omega)⟩
    case measure=>simp[intOf];omega
  ·
   obtain rfl:i=j:=by omega
   have hp:posOf l id=i:=posOf_eq l id i hjl H1.out (fun e he=>H2.out i e (Nat.le_refl _) he)
   have HPO:=Lib.hid hp
   clear hp
   by_cases hil:i<l.length
   ·
    obtain⟨x,hx⟩: ∃x,l[i]? =some x:=⟨_,List.getElem?_eq_getElem hil⟩
    obtain⟨gv,cv',cs0,hvv,_,_,hgl,_⟩:=mx_some HR.out (by omega)
    simp only[Value.slice.injEq]at hvv
    obtain⟨rfl,_,rfl⟩:=hvv
    obtain⟨c0,c1,c2,c3⟩:=ent_row HR.out hx
    have d0:=(HW.out.cell (p:=⟨gv,i*4,none⟩) hgl).trans c0
    have d1:=(HW.out.cell (p:=⟨gv,i*4+1,none⟩) hgl).trans c1
    have d2:=(HW.out.cell (p:=⟨gv,i*4+2,none⟩) hgl).trans c2
    have d3:=(HW.out.cell (p:=⟨gv,i*4+3,none⟩) hgl).trans c3
    have hxe:=HE.out x (List.mem_of_getElem? hx)
    have HCM:=Lib.hid (ar_cmp x id wr (by omega) hxe.2 h0 h1)
    have HX:=Lib.hid hx
    clear c0 c1 c2 c3 hx
    go_wp2_with fail
    refine HCM.out.mono ?_
    rintro e w1 ⟨rfl,hb1⟩
    have HB1:=Lib.hid (HW.out.trans (hb1.mono HW.out.size))
    clear d0 d1 d2 d3 hb1
    go_wp2_with fail
    go_ret2
    exact⟨(x.id-id==0),by rw[HPO.out];rfl,HB1.out⟩
   ·
    have hd:decide ((i:Int)<(l.length:Int))=false:=by simp;omega
    go_wp2_with fail
    go_ret2
    exact⟨false,by rw[HPO.out];rfl,HW.out⟩
theorem ar_pos {O:Nat→Prop} (b:Nat) (A:Arn) (id:Int) (w:World) (h:ArAt O w b A) (h0:0≤id) (h1:id≤1073741825):
  Calls Tryz.prog 192 #[.pointer (some ⟨b,0,none⟩),.int .i64 id] w fun r w'=>r= .returned (.int .i64 (posOf A.all id:Nat))∧Below w.heap.size w w':=by
 obtain⟨hk,stv,alv,h⟩:=h
 have HB:=Lib.hid (ar_bsf alv A.all id w h.all hk.sorted (fun e he=>⟨(hk.each e he).1,(hk.each e he).2.1⟩) hk.lens.1 h0 h1)
 obtain⟨Al,cl,rfl,_⟩:=mx_slice h.all
 have c1:w.cell? ⟨b,1,none⟩=some (.slice Al A.all.length cl):=mx_cell (j:=1) h.block
 clear h hk
 go_enter Tryz.func192,Tryz.ntmps192
 go_wp2_with fail
 refine HB.out.mono ?_
 rintro e w1 ⟨bf,rfl,hb1⟩
 have HB1:=Lib.hid hb1
 clear hb1 c1
 go_wp2_with fail
 go_ret
 exact⟨rfl,HB1.out⟩
def Arn.find (A:Arn) (id:Int):Option Nat:=if 1≤id∧id≤1073741824 then match A.all[posOf A.all id]? with
 | some e=>if e.id=id∧e.gone=false then some (posOf A.all id)else none
 | none=>none
 else none
def findInt:Option Nat→Int
 | some i=>i
 | none=> -1
set_option maxHeartbeats 1000000 in
theorem ar_find {O:Nat→Prop} (b:Nat) (A:Arn) (id:Int) (w:World) (h:ArAt O w b A):
  Calls Tryz.prog 175 #[.pointer (some ⟨b,0,none⟩),.int .i64 id] w fun r w'=>r= .returned (.int .i64 (findInt (A.find id)))∧Below w.heap.size w w':=by
 by_cases hlo:id<1
 ·
  have q0:decide (id<1)=true:=by simpa using hlo
  have HF:=Lib.hid (show A.find id=none from if_neg (by omega))
  go_enter Tryz.func175,Tryz.ntmps175
  go_wp2_with fail
  go_ret
  exact⟨by rw[HF.out];rfl,Below.refl _ _⟩
 ·
  by_cases hhi:1073741824<id
  ·
   have q0:decide (id<1)=false:=by simpa using hlo
   have q1:decide ((1073741824:Int)<id)=true:=by simpa using hhi
   have HF:=Lib.hid (show A.find id=none from if_neg (by omega))
   clear hlo hhi
   go_enter Tryz.func175,Tryz.ntmps175
   go_wp2_with fail
   go_ret
   exact⟨by rw[HF.out];rfl,Below.refl _ _⟩
  ·
   have q0:decide (id<1)=false:=by simpa using hlo
   have q1:decide ((1073741824:Int)<id)=false:=by simpa using hhi
   have HP:=Lib.hid (ar_pos b A id w h (by omega) (by omega))
   obtain⟨hk,stv,alv,h⟩:=h
   have HM:=Lib.hid h
   obtain⟨Al,cl,rfl,hcl⟩:=mx_slice h.all
   have hff:A.find id=match A.all[posOf A.all id]? with
    | some e=>if e.id=id∧e.gone=false then some (posOf A.all id)else none
    | none=>none:=if_pos (by omega)
   have hpl:posOf A.all id≤A.all.length:=by
    generalize A.all=l
    induction l with
    | nil=>exact Nat.le_refl _
    | cons e l ih=>
     unfold posOf
     split
     ·
      simpa using ih
     ·
      exact Nat.zero_le _
   have hbw:=heap_lt h.block
   have hln:=hk.lens.1
   obtain⟨p,hp⟩: ∃p,posOf A.all id=p:=⟨_,rfl⟩
   rw[hp]at hff hpl HP
   clear h hk hlo hhi hp
   rcases hx:A.all[p]? with _|x
   ·
    rw[hx]at hff
    have hpe:p=A.all.length:=by have:=List.getElem?_eq_none_iff.1 hx;omega
    have qe:((p:Int)==(A.all.length:Int))=true:=by simp;omega
    have HF:=Lib.hid (show A.find id=none from hff)
    clear hff hx hpe
    go_enter Tryz.func175,Tryz.ntmps175
    go_wp2_with fail
    refine HP.out.mono ?_
    rintro e w1 ⟨rfl,hb1⟩
    have c1:w1.cell? ⟨b,1,none⟩=some (.slice Al A.all.length cl):=(hb1.cell (p:=⟨b,1,none⟩) hbw).trans (mx_cell (j:=1) HM.out.block)
    have HB1:=Lib.hid hb1
    clear hb1
    go_wp2_with fail
    go_ret
    exact⟨by rw[HF.out];rfl,HB1.out⟩
   ·
    rw[hx]at hff
    have hpl2:=(List.getElem?_eq_some_iff.1 hx).1
    have qe:((p:Int)==(A.all.length:Int))=false:=by simp;omega
    have hplt:(p:Int)<(A.all.length:Int):=by omega
    have HFF:=Lib.hid hff
    have HX:=Lib.hid hx
    obtain⟨ga,ca,cs0,hva,_,_,hga,_⟩:=mx_some HM.out.all (by omega)
    simp only[Value.slice.injEq]at hva
    obtain⟨rfl,_,rfl⟩:=hva
    clear hff hx
    have hgo: ∀w1:World,Below w.heap.size w w1→w1.cell? ⟨b,1,none⟩=some (.slice (some ⟨ga,0,none⟩) A.all.length cl)∧w1.cell? ⟨ga,p*4+2,none⟩=some (.int .i64 x.id)∧w1.cell? ⟨ga,p*4+3,none⟩=some (.bool x.gone):=fun w1 hb1=>by
     obtain⟨_,_,c2,c3⟩:=ent_row HM.out.all HX.out
     exact⟨(hb1.cell (p:=⟨b,1,none⟩) hbw).trans (mx_cell (j:=1) HM.out.block),(hb1.cell (p:=⟨ga,p*4+2,none⟩) hga).trans c2,(hb1.cell (p:=⟨ga,p*4+3,none⟩) hga).trans c3⟩
    have HGO:=Lib.hid hgo
    clear hgo
    by_cases hid:x.id=id
    ·
     have q2:(x.id != id)=false:=by simpa using hid
     rcases hgn:x.gone with _|_
     ·
      have HF:=Lib.hid (show A.find id=some p from by rw[HFF.out];exact if_pos ⟨hid,hgn⟩)
      have HGN:=Lib.hid hgn
      clear hid hgn HFF
      go_enter Tryz.func175,Tryz.ntmps175
      go_wp2_with fail
      refine HP.out.mono ?_
      rintro e w1 ⟨rfl,hb1⟩
      obtain⟨c1,c2,c3⟩:=HGO.out w1 hb1
      rw[HGN.out]at c3
      have HB1:=Lib.hid hb1
      clear hb1
      go_wp2_with fail
      go_ret
      exact⟨by rw[HF.out];rfl,HB1.out⟩
     ·
      have HF:=Lib.hid (show A.find id=none from by rw[HFF.out];exact if_neg (fun h=>by rw[hgn]at h;cases h.2))
      have HGN:=Lib.hid hgn
      clear hid hgn HFF
      go_enter Tryz.func175,Tryz.ntmps175
      go_wp2_with fail
      refine HP.out.mono ?_
      rintro e w1 ⟨rfl,hb1⟩
      obtain⟨c1,c2,c3⟩:=HGO.out w1 hb1
      rw[HGN.out]at c3
      have HB1:=Lib.hid hb1
      clear hb1
      go_wp2_with fail
      go_ret
      exact⟨by rw[HF.out];rfl,HB1.out⟩
    ·
     have q2:(x.id != id)=true:=by simpa using hid
     have HF:=Lib.hid (show A.find id=none from by rw[HFF.out];exact if_neg (fun h=>hid h.1))
     clear hid HFF
     go_enter Tryz.func175,Tryz.ntmps175
     go_wp2_with fail
     refine HP.out.mono ?_
     rintro e w1 ⟨rfl,hb1⟩
     obtain⟨c1,c2,c3⟩:=HGO.out w1 hb1
     have HB1:=Lib.hid hb1
     clear hb1
     go_wp2_with fail
     go_ret
     exact⟨by rw[HF.out];rfl,HB1.out⟩
end Go.Proofs.YtoojmhjagipmdaaGreat
namespace Go.Proofs.YtoojmhjagipmdaaGreat
open Go.RowKit
theorem ar_is {O:Nat→Prop} (b:Nat) (A:Arn) (w:World) (h:ArAt O w b A):Calls Tryz.prog 132 #[.pointer (some ⟨b,0,none⟩)] w fun e w'=>e= .returned (.bool true)∧w=w':=by
 obtain⟨hk,stv,alv,h⟩:=h
 have c5:w.cell? ⟨b,5,none⟩=some (.bool true):=mx_cell (j:=5) h.block
 clear h hk
 go_enter Tryz.func132,Tryz.ntmps132
 go_wp2_with fail
 go_ret
 exact⟨rfl,rfl⟩
theorem ar_new (w:World):Calls Tryz.prog 100 #[] w fun e w'=>e= .returned (.pointer (some ⟨w.heap.size,0,none⟩))∧ArAt (fun g=>g=w.heap.size) w' w.heap.size ⟨[],[],0,0,0⟩∧w'=w.alloc (.cells #[.slice none 0 0,.slice none 0 0,.int .i64 0,.int .i64 0,.int .i64 0,.bool true] 192):=by
 go_enter Tryz.func100,Tryz.ntmps100
 go_wp2_with fail
 go_ret
 exact⟨rfl,⟨⟨List.Pairwise.nil,(fun e he=>by cases he),⟨by simp,by simp⟩,⟨by simp,by simp,by simp,by simp⟩,(fun e he=>by cases he)⟩,.slice none 0 0,.slice none 0 0,⟨(fun g hg=>by rw[hg];simp),rfl,World.alloc_heap_new _ _,World.ownsRow_nil _ _ _ _,(fun g hg=>by cases hg),World.ownsRow_nil _ _ _ _,fun g hg=>by cases hg⟩⟩,rfl⟩
def Arn.ent (A:Arn) (id:Int):Option Ent:=match A.find id with
 | some p=>A.all[p]?
 | none=>none
def entVal:Option Ent→Value
 | some x=>.tuple #[.agg #[.int .i64 (x.fr:Nat),.int .i64 (x.upto:Nat),.int .i64 x.id,.bool x.gone],.int .i64 0]
 | none=>.tuple #[.agg #[.int .i64 0,.int .i64 0,.int .i64 0,.bool false],.int .i64 30]
theorem mx_set4 {b:Nat} {w W:World} (h:Below b w W) {g:Nat} (hg:b≤g) (v0 v1 v2 v3:Value):Below b w ((((W.setCell ⟨g,0,none⟩ v0).setCell ⟨g,1,none⟩ v1).setCell ⟨g,2,none⟩ v2).setCell ⟨g,3,none⟩ v3):=
 (((h.setCell (p:=⟨g,0,none⟩) hg v0).setCell (p:=⟨g,1,none⟩) hg v1).setCell (p:=⟨g,2,none⟩) hg v2).setCell (p:=⟨g,3,none⟩) hg v3
theorem Arn.find_lt {A:Arn} {id:Int} {p:Nat} (h:A.find id=some p): ∃x,A.all[p]? =some x∧x.id=id∧x.gone=false:=by
 unfold Arn.find at h
 split at h
 ·
  split at h
  ·
   rename_i e he
   split at h
   ·
    rename_i hh
    cases h
    exact⟨e,he,hh⟩
   ·
    cases h
  ·
   cases h
 ·
  cases h
set_option maxRecDepth 100000 in
set_option maxHeartbeats 2000000 in
theorem ar_entry {O:Nat→Prop} (b:Nat) (A:Arn) (id:Int) (w:World) (h:ArAt O w b A):
  Calls Tryz.prog 141 #[.pointer (some ⟨b,0,none⟩),.int .i64 id] w fun r w'=>r= .returned (entVal (A.ent id))∧Below w.heap.size w w':=by
 obtain⟨wa,hwa⟩: ∃x,w.alloc (.cells #[.int .i64 0,.int .i64 0,.int .i64 0,.bool false] 196)=x:=⟨_,rfl⟩
 have hba:Below w.heap.size w wa:=by rw[←hwa];exact mx_al _ _
 have hbn:wa.heap[w.heap.size]? =some (.cells #[.int .i64 0,.int .i64 0,.int .i64 0,.bool false] 196 (0,0)):=by rw[←hwa];exact World.alloc_heap_new _ _
 have hza:wa.heap.size=w.heap.size+1:=by rw[←hwa];simp
 have h:=h.below hba
 have HIS:=Lib.hid (ar_is b A wa h)
 have HFI:=Lib.hid (ar_find b A id wa h)
 have HWA:=Lib.hid hwa
 have HBA:=Lib.hid hba
 have HBN:=Lib.hid hbn
 obtain⟨hk,stv,alv,h⟩:=h
 have HM:=Lib.hid h
 have hbw:=heap_lt h.block
 have hln:=hk.lens.1
 clear hwa hba hbn h hk
 have hE: ∀w1:World,Below wa.heap.size wa w1→w1.heap[w.heap.size]? =some (.cells #[.int .i64 0,.int .i64 0,.int .i64 0,.bool false] 196 (0,0))∧Below w.heap.size w w1:=fun w1 hb1=>⟨(hb1.block _ (by omega)).trans HBN.out,HBA.out.trans (hb1.mono (by omega))⟩
 have HE:=Lib.hid hE
 clear hE
 unfold Arn.ent
 rcases hf:A.find id with _|p
 ·
  rw[hf,show findInt none= -1 from rfl]at HFI
  clear hf
  go_enter Tryz.func141,Tryz.ntmps141
  go_wp2_with fail
  rw[HWA.out]
  refine HIS.out.mono ?_
  rintro e w' ⟨rfl,rfl⟩
  go_wp2_with fail
  refine HFI.out.mono ?_
  rintro e w1 ⟨rfl,hb1⟩
  obtain⟨hn1,hbb1⟩:=HE.out w1 hb1
  have e0:w1.cell? ⟨w.heap.size,0,none⟩=some (.int .i64 0):=mx_cell (j:=0) hn1
  have e1:w1.cell? ⟨w.heap.size,1,none⟩=some (.int .i64 0):=mx_cell (j:=1) hn1
  have e2:w1.cell? ⟨w.heap.size,2,none⟩=some (.int .i64 0):=mx_cell (j:=2) hn1
  have e3:w1.cell? ⟨w.heap.size,3,none⟩=some (.bool false):=mx_cell (j:=3) hn1
  have f0:=mx_free (j:=0) hn1
  have f1:=mx_free (j:=1) hn1
  have f2:=mx_free (j:=2) hn1
  have f3:=mx_free (j:=3) hn1
  have HB1:=Lib.hid hbb1
  clear hb1 hn1 hbb1
  go_wp2_with fail
  refine bodyPost_ret (v:=.tuple #[.agg #[.int .i64 0,.int .i64 0,.int .i64 0,.bool false],.int .i64 30]) (by simp[results,Tryz.results141,go_sem,e0,e1,e2,e3]) rfl ⟨rfl,mx_set4 HB1.out (Nat.le_refl _) _ _ _ _⟩
 ·
  rw[hf,show findInt (some p)=(p:Int)from rfl]at HFI
  obtain⟨x,hx,hid,hgn⟩:=Arn.find_lt hf
  have hpl:=(List.getElem?_eq_some_iff.1 hx).1
  have q0:decide ((p:Int)<0)=false:=by simp
  have hplt:(p:Int)<(A.all.length:Int):=by omega
  simp only[hx]
  have HX:=Lib.hid hx
  clear hf hx hid hgn
  obtain⟨ga,ca,cs0,hva,_,_,hga,_⟩:=mx_some HM.out.all (by omega)
  subst hva
  go_enter Tryz.func141,Tryz.ntmps141
  go_wp2_with fail
  rw[HWA.out]
  refine HIS.out.mono ?_
  rintro e w' ⟨rfl,rfl⟩
  go_wp2_with fail
  refine HFI.out.mono ?_
  rintro e w1 ⟨rfl,hb1⟩
  obtain⟨hn1,hbb1⟩:=HE.out w1 hb1
  obtain⟨c0,c1,c2,c3⟩:=ent_row HM.out.all HX.out
  have d0:=(hb1.cell (p:=⟨ga,p*4,none⟩) hga).trans c0
  have d1:=(hb1.cell (p:=⟨ga,p*4+1,none⟩) hga).trans c1
  have d2:=(hb1.cell (p:=⟨ga,p*4+2,none⟩) hga).trans c2
  have d3:=(hb1.cell (p:=⟨ga,p*4+3,none⟩) hga).trans c3
  have a1:w1.cell? ⟨b,1,none⟩=some (.slice (some ⟨ga,0,none⟩) A.all.length ca):=(hb1.cell (p:=⟨b,1,none⟩) hbw).trans (mx_cell (j:=1) HM.out.block)
  have e0:w1.cell? ⟨w.heap.size,0,none⟩=some (.int .i64 0):=mx_cell (j:=0) hn1
  have e1:w1.cell? ⟨w.heap.size,1,none⟩=some (.int .i64 0):=mx_cell (j:=1) hn1
  have e2:w1.cell? ⟨w.heap.size,2,none⟩=some (.int .i64 0):=mx_cell (j:=2) hn1
  have e3:w1.cell? ⟨w.heap.size,3,none⟩=some (.bool false):=mx_cell (j:=3) hn1
  have f0:=mx_free (j:=0) hn1
  have f1:=mx_free (j:=1) hn1
  have f2:=mx_free (j:=2) hn1
  have f3:=mx_free (j:=3) hn1
  have HB1:=Lib.hid hbb1
  clear hb1 hn1 hbb1 c0 c1 c2 c3
  go_wp2_with fail
  refine bodyPost_ret (v:=.tuple #[.agg #[.int .i64 (x.fr:Nat),.int .i64 (x.upto:Nat),.int .i64 x.id,.bool x.gone],.int .i64 0]) (by simp[results,Tryz.results141,go_sem,e0,e1,e2,e3]) rfl ⟨rfl,mx_set4 HB1.out (Nat.le_refl _) _ _ _ _⟩
end Go.Proofs.YtoojmhjagipmdaaGreat
namespace Go.Proofs.YtoojmhjagipmdaaGreat
open Go.RowKit
def Arn.get (A:Arn) (id:Int):Option (List Int):=match A.ent id with
 | some x=>some ((A.store.drop x.fr).take (x.upto-x.fr))
 | none=>none
theorem Arn.ent_mem {A:Arn} {id:Int} {x:Ent} (h:A.ent id=some x):x∈A.all:=by
 unfold Arn.ent at h
 split at h
 ·
  exact List.mem_of_getElem? h
 ·
  cases h
theorem ar_get_none {O:Nat→Prop} (b:Nat) (A:Arn) (id:Int) (w:World) (h:ArAt O w b A) (hg:A.get id=none):
  Calls Tryz.prog 102 #[.pointer (some ⟨b,0,none⟩),.int .i64 id] w fun r w'=>r= .returned (.tuple #[.slice none 0 0,.int .i64 30])∧Below w.heap.size w w':=by
 have hen:A.ent id=none:=by
  unfold Arn.get at hg
  split at hg
  ·
   cases hg
  ·
   assumption
 have hc:=ar_entry b A id w h
 rw[hen,show entVal none= .tuple #[.agg #[.int .i64 0,.int .i64 0,.int .i64 0,.bool false],.int .i64 30]from rfl]at hc
 have HC:=Lib.hid hc
 clear hc hen hg h
 go_enter Tryz.func102,Tryz.ntmps102
 go_wp2_with fail
 refine HC.out.mono ?_
 rintro e w1 ⟨rfl,hb1⟩
 have HB1:=Lib.hid (hb1.trans ((mx_al w1 (.cells #[.int .i64 0,.int .i64 0,.int .i64 0,.bool false] 196)).mono hb1.size))
 clear hb1
 go_wp2_with fail
 go_ret2
 exact⟨rfl,HB1.out⟩
set_option maxRecDepth 100000 in
set_option maxHeartbeats 2000000 in
theorem ar_get {O:Nat→Prop} (b:Nat) (A:Arn) (id:Int) (c:List Int) (w:World) (h:ArAt O w b A) (hg:A.get id=some c):
  Calls Tryz.prog 102 #[.pointer (some ⟨b,0,none⟩),.int .i64 id] w fun r w'=> ∃v,r= .returned (.tuple #[v,.int .i64 0])∧w'.ownsRow w.heap.size 32 1 v c.length (c.map (Value.int .i64))∧Below w.heap.size w w':=by
 obtain⟨x,hx,hcx⟩: ∃x,A.ent id=some x∧(A.store.drop x.fr).take (x.upto-x.fr)=c:=by
  unfold Arn.get at hg
  split at hg
  ·
   rename_i x hx
   exact⟨x,hx,Option.some.inj hg⟩
  ·
   cases hg
 have hc:=ar_entry b A id w h
 rw[hx,show entVal (some x)= .tuple #[.agg #[.int .i64 (x.fr:Nat),.int .i64 (x.upto:Nat),.int .i64 x.id,.bool x.gone],.int .i64 0]from rfl]at hc
 have HC:=Lib.hid hc
 obtain⟨hk,stv,alv,h⟩:=h
 obtain⟨_,_,hfu,hus⟩:=hk.each x (Arn.ent_mem hx)
 have hst:=hk.lens.2
 have HM:=Lib.hid h
 have hbw:=heap_lt h.block
 have hcl:c.length=x.upto-x.fr:=by rw[←hcx,List.length_take,List.length_drop];omega
 have HCX:=Lib.hid hcx
 clear hc hx hg hk h hcx
 go_enter Tryz.func102,Tryz.ntmps102
 go_wp2_with fail
 refine HC.out.mono ?_
 rintro e w1 ⟨rfl,hb1⟩
 obtain⟨wb,hwb⟩: ∃z,w1.alloc (.cells #[.int .i64 (x.fr:Nat),.int .i64 (x.upto:Nat),.int .i64 x.id,.bool x.gone] 196)=z:=⟨_,rfl⟩
 have hbb:Below w1.heap.size w1 wb:=by rw[←hwb];exact mx_al _ _
 have hbn:wb.heap[w1.heap.size]? =some (.cells #[.int .i64 (x.fr:Nat),.int .i64 (x.upto:Nat),.int .i64 x.id,.bool x.gone] 196 (0,0)):=by rw[←hwb];exact World.alloc_heap_new _ _
 have hzb:wb.heap.size=w1.heap.size+1:=by rw[←hwb];simp
 have HWB:=Lib.hid hwb
 have HBB:=Lib.hid (hb1.trans (hbb.mono hb1.size))
 have hz1:=hb1.size
 have HBN:=Lib.hid hbn
 clear hwb hbb hbn hb1
 go_upto_region 4 with fail
 rw[HWB.out]
 have t0:wb.cell? ⟨w1.heap.size,0,none⟩=some (.int .i64 (x.fr:Nat)):=mx_cell (j:=0) HBN.out
 have t1:wb.cell? ⟨w1.heap.size,1,none⟩=some (.int .i64 (x.upto:Nat)):=mx_cell (j:=1) HBN.out
 have a0':=(HBB.out.cell (p:=⟨b,0,none⟩) hbw).trans (mx_cell (j:=0) HM.out.block)
 have k1:(x.fr:Int)≤(x.upto:Int):=by omega
 have hbwb:b<wb.heap.size:=Nat.lt_of_lt_of_le hbw HBB.out.size
 rcases HM.out.store.2 with⟨hsv,hs0⟩|⟨gs,cst,cur,hsv,_,hgs,hle,_⟩
 ·
  subst hsv
  have a0:wb.cell? ⟨b,0,none⟩=some (.slice none 0 0):=a0'
  have hf0:x.fr=0:=by omega
  have hu0:x.upto=0:=by omega
  rw[hf0]at t0
  rw[hu0]at t1
  rw[show((0:Nat):Int)=0 from rfl]at t0 t1
  have hc0:c= []:=List.eq_nil_of_length_eq_zero (by omega)
  subst hc0
  clear a0' hcl k1 HBN HC
  refine wp_region_held_drew (S:=fun w'=>w'.cell? ⟨b,0,none⟩=some (.slice none 0 0)∧w'.cell? ⟨w1.heap.size,0,none⟩=some (.int .i64 0)∧w'.cell? ⟨w1.heap.size,1,none⟩=some (.int .i64 0)) (by kernel_rfl) ⟨a0,t0,t1⟩ (fun hHeld=>?_)
  obtain⟨wD,hwD⟩: ∃x,wb.drew=x:=⟨_,rfl⟩
  have hbD:Below wb.heap.size wb wD:=by rw[←hwD];exact mx_drew wb
  rw[hwD]at hHeld⊢
  have HBD:=Lib.hid (HBB.out.trans (hbD.mono HBB.out.size))
  have hzD:=hbD.size
  clear hwD hbD a0 t0 t1
  refine takeS 0 17 ?_
  refine takeS 1 18 ?_
  refine takeS 2 19 ?_
  refine takeS 3 20 ?_
  refine takeS 4 21 ?_
  refine takeS 5 22 ?_
  refine takeS 6 23 ?_
  refine takeS 7 24 ?_
  refine takeS 8 25 ?_
  refine takeS 9 26 ?_
  refine takeS 10 27 ?_
  refine ready1 11 (fun K hK=>?_)
  go_simp
  refine(clone_l (.slice none 0 0) [] wD (IntsIn.nil (fun _=>True) wD) (by simp)).mono ?_
  rintro e wE ⟨cv,rfl,hoc,hbE⟩
  obtain⟨Ac,cc,hcv,_⟩:=mx_slice hoc
  subst hcv
  have hzE:=hbE.size
  have hzB:=HBB.out.size
  have HOC:=Lib.hid (own_mono (base':=w.heap.size) hoc (by omega))
  have HBE:=Lib.hid (HBD.out.trans (hbE.mono HBD.out.size))
  refine hK.out _ _ ⟨(hbE.cell (p:=⟨b,0,none⟩) (by show b<_;omega)).trans hHeld.1,(hbE.cell (p:=⟨w1.heap.size,0,none⟩) (by show w1.heap.size<_;omega)).trans hHeld.2.1,(hbE.cell (p:=⟨w1.heap.size,1,none⟩) (by show w1.heap.size<_;omega)).trans hHeld.2.2⟩ (fun hHeld1=>?_)
  clear hK hHeld hoc hbE
  have hHeld:=hHeld1
  clear hHeld1
  refine takeS 12 4 ?_
  refine takeS 13 5 ?_
  refine wpAnyH_done (by kernel_rfl) ?_ _
  clear hHeld
  go_wp2_with fail
  go_ret2
  exact⟨_,rfl,HOC.out,HBE.out⟩
 ·
  subst hsv
  have a0:wb.cell? ⟨b,0,none⟩=some (.slice (some ⟨gs,0,none⟩) A.store.length cst):=a0'
  have k2:(x.upto:Int)≤(cst:Int):=by omega
  have hint:IntsIn (fun _=>True) w (.slice (if cst=x.fr then some ⟨gs,0,none⟩else some ⟨gs,x.fr,none⟩) (x.upto-x.fr) (cst-x.fr)) c:=⟨_,cst-x.fr,by rw[hcl],by omega,(fun h=>by split at h <;> cases h),fun i y hy=>⟨gs,x.fr,(by
   have hil:=(List.getElem?_eq_some_iff.1 hy).1
   rw[if_neg (by omega)]),heap_lt hgs,trivial,by
   refine mx_at HM.out.store (j:=x.fr+i) ?_
   rw[List.getElem?_map]
   have h1:A.store[x.fr+i]? =some y:=by
    rw[←HCX.out,List.getElem?_take]at hy
    split at hy
    ·
     rwa [List.getElem?_drop]at hy
    ·
     cases hy
   rw[h1]
   rfl⟩⟩
  have HINT:=Lib.hid hint
  have HCL:=Lib.hid hcl
  clear a0' hint hgs HBN HC hcl
  refine wp_region_held_drew (S:=fun w'=>w'.cell? ⟨b,0,none⟩=some (.slice (some ⟨gs,0,none⟩) A.store.length cst)∧w'.cell? ⟨w1.heap.size,0,none⟩=some (.int .i64 (x.fr:Nat))∧w'.cell? ⟨w1.heap.size,1,none⟩=some (.int .i64 (x.upto:Nat))) (by kernel_rfl) ⟨a0,t0,t1⟩ (fun hHeld=>?_)
  obtain⟨wD,hwD⟩: ∃x,wb.drew=x:=⟨_,rfl⟩
  have hbD:Below wb.heap.size wb wD:=by rw[←hwD];exact mx_drew wb
  rw[hwD]at hHeld⊢
  have HBD:=Lib.hid (HBB.out.trans (hbD.mono HBB.out.size))
  have hzD:=hbD.size
  clear hwD hbD a0 t0 t1
  refine takeS 0 17 ?_
  refine takeS 1 18 ?_
  refine takeS 2 19 ?_
  refine takeS 3 20 ?_
  refine takeS 4 21 ?_
  refine takeS 5 22 ?_
  refine takeS 6 23 ?_
  refine takeS 7 24 ?_
  refine takeS 8 25 ?_
  refine takeS 9 26 ?_
  refine takeS 10 27 ?_
  obtain⟨AA,hAA⟩: ∃z,(if cst=x.fr then some (⟨gs,0,none⟩:Addr)else some ⟨gs,x.fr,none⟩)=z:=⟨_,rfl⟩
  rw[hAA]at HINT⊢
  clear hAA
  refine ready1 11 (fun K hK=>?_)
  go_simp
  refine(clone_l _ c wD (HINT.out.below HBD.out) (by have:=HCL.out;omega)).mono ?_
  rintro e wE ⟨cv,rfl,hoc,hbE⟩
  obtain⟨Ac,cc,hcv,_⟩:=mx_slice hoc
  subst hcv
  have hzE:=hbE.size
  have hzB:=HBB.out.size
  have HOC:=Lib.hid (own_mono (base':=w.heap.size) hoc (by omega))
  have HBE:=Lib.hid (HBD.out.trans (hbE.mono HBD.out.size))
  refine hK.out _ _ ⟨(hbE.cell (p:=⟨b,0,none⟩) (by show b<_;omega)).trans hHeld.1,(hbE.cell (p:=⟨w1.heap.size,0,none⟩) (by show w1.heap.size<_;omega)).trans hHeld.2.1,(hbE.cell (p:=⟨w1.heap.size,1,none⟩) (by show w1.heap.size<_;omega)).trans hHeld.2.2⟩ (fun hHeld1=>?_)
  clear hK hHeld hoc hbE
  have hHeld:=hHeld1
  clear hHeld1
  refine takeS 12 4 ?_
  refine takeS 13 5 ?_
  refine wpAnyH_done (by kernel_rfl) ?_ _
  clear hHeld
  go_wp2_with fail
  go_ret2
  exact⟨_,rfl,HOC.out,HBE.out⟩
end Go.Proofs.YtoojmhjagipmdaaGreat
