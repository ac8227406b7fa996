/- Plain: the insertion sort keeps the order of equals: it is the insertion from the right, one after the other. Plain: what comes first among literals, by one look through the list. Plain: the reference's best, and what the watch sorts first. The trail: Lits, the literals from a place on, where a round may write the variables. The trail: Back. -/
import Derived.Test.YtoojmhjagipmdaaGreatV218
import Derived.Test.YtoojmhjagipmdaaGreatV206
import Derived.Test.YtoojmhjagipmdaaGreatV204
import Derived.Laws.EntriesVeiled
namespace Go.Proofs.YtoojmhjagipmdaaGreat
open Go.RowKit Go.Sort
def insRev (lt:Int→Int→Bool) (x:Int):List Int→List Int
 | []=> [x]
 | y::r=>if lt x y=true then y::insRev lt x r else x::y::r
theorem get_at {d:Array Int} {a b:List Int} {x:Int} (h:d.toList=a++x::b):d[a.length]! =x:=by
 have h1:d.toList[a.length]? =some x:=by rw[h];simp
 rw[Array.getElem?_toList]at h1
 rw[getElem!_def,h1]
theorem swp_at {d:Array Int} {a b:List Int} {x y:Int} (h:d.toList=a++y::x::b):(swp d (a.length+1) a.length).toList=a++x::y::b:=by
 have hy:d[a.length]! =y:=get_at h
 have hx:d[a.length+1]! =x:=by
  have h2:d.toList=(a++ [y])++x::b:=by rw[h];simp
  have:=get_at h2
  rwa [List.length_append,List.length_singleton]at this
 unfold swp
 rw[hx,hy,Array.toList_setIfInBounds,Array.toList_setIfInBounds,h]
 rw[List.set_append,if_neg (by omega),show a.length+1-a.length=1 by omega,List.set_cons_succ,List.set_cons_zero,List.set_append,if_neg (by omega),Nat.sub_self,List.set_cons_zero]
theorem inner_eq (lt:Int→Int→Bool) (x:Int): ∀(r post:List Int) (d:Array Int),d.toList=r.reverse++x::post→(insInner lt 0 r.length d).toList=(insRev lt x r).reverse++post:=by
 intro r
 induction r with
 | nil=>
  intro post d h
  exact h
 | cons y r ih=>
  intro post d h
  have h':d.toList=r.reverse++y::x::post:=by rw[h];simp
  have hy:d[r.length]! =y:=by
   have:=get_at h'
   rwa [List.length_reverse]at this
  have hx:d[r.length+1]! =x:=by
   have:=get_at h
   rwa [List.length_reverse,List.length_cons]at this
  have hs:=swp_at h'
  rw[List.length_reverse]at hs
  rw[List.length_cons]
  unfold insInner insRev
  rw[hx,hy]
  by_cases hl:lt x y=true
  ·rw[if_pos hl,if_pos (by rw[hl];simp),ih _ _ hs]
   simp
  ·rw[if_neg hl,if_neg (by simp[hl]),h]
   simp
theorem outer_eq (lt:Int→Int→Bool): ∀(post r:List Int) (d:Array Int),d.toList=r.reverse++post→(insOuter lt 0 (r.length+post.length) r.length d).toList=(post.foldl (fun r x=>insRev lt x r) r).reverse:=by
 intro post
 induction post with
 | nil=>
  intro r d h
  unfold insOuter
  rw[if_neg (by simp),h]
  simp
 | cons x post ih=>
  intro r d h
  have hlen:(insRev lt x r).length=r.length+1:=by
   clear ih h
   induction r with
   | nil=>rfl
   | cons y r ih=>
    unfold insRev
    split
    ·rw[List.length_cons,ih,List.length_cons]
    ·rfl
  have hi:=inner_eq lt x r post d h
  have:=ih (insRev lt x r) _ hi
  rw[hlen]at this
  rw[insOuter,if_pos (by rw[List.length_cons];omega),List.length_cons,show r.length+(post.length+1)=r.length+1+post.length by omega,this]
  rfl
theorem stab_eq (T:Trl) (xs:List Int):T.stab xs=(xs.foldl (fun r x=>insRev (ltOf T.lvOrd) x r) []).reverse:=by
 unfold Trl.stab insertionSort
 cases xs with
 | nil=>
  unfold insOuter
  rw[if_neg (by simp)]
  rfl
 | cons x r=>
  have:=outer_eq (ltOf T.lvOrd) r [x] (x::r).toArray (by simp)
  rw[show([x] :List Int).length+r.length=(x::r).length by simp;omega]at this
  exact this
end Go.Proofs.YtoojmhjagipmdaaGreat
namespace Go.Proofs.YtoojmhjagipmdaaGreat
open Go.RowKit
section
variable (lv:Int→Int)
def insL (x:Int) (r:List Int):List Int:=insRev (fun x y=>decide (lv y<lv x)) x r
theorem insL_cons (x y:Int) (r:List Int):insL lv x (y::r)=if lv y<lv x then y::insL lv x r else x::y::r:=by
 unfold insL
 rw[insRev]
 by_cases h:lv y<lv x
 ·rw[if_pos h,if_pos (decide_eq_true h)]
 ·rw[if_neg h,if_neg (by simpa using h)]
def SrtL (r:List Int):Prop:=r.Pairwise fun a b=>lv a≤lv b
theorem insL_mem (x:Int) (r:List Int) (z:Int):z∈insL lv x r↔z=x∨z∈r:=by
 induction r with
 | nil=>simp[insL,insRev]
 | cons y r ih=>
  rw[insL_cons]
  split
  ·rw[List.mem_cons,ih,List.mem_cons]
   constructor
   ·rintro (h|h|h)
    ·exact .inr (.inl h)
    ·exact .inl h
    ·exact .inr (.inr h)
   ·rintro (h|h|h)
    ·exact .inr (.inl h)
    ·exact .inl h
    ·exact .inr (.inr h)
  ·exact List.mem_cons
theorem insL_srt (x:Int) {r:List Int} (h:SrtL lv r):SrtL lv (insL lv x r):=by
 unfold SrtL at *
 induction r with
 | nil=>simp[insL,insRev]
 | cons y r ih=>
  rw[List.pairwise_cons]at h
  rw[insL_cons]
  split
  ·rename_i hl
   rw[List.pairwise_cons]
   refine⟨fun z hz=>?_,ih h.2⟩
   rcases (insL_mem lv x r z).1 hz with e|hz
   ·rw[e]
    omega
   ·exact h.1 z hz
  ·rename_i hl
   rw[List.pairwise_cons,List.pairwise_cons]
   refine⟨fun z hz=>?_,h.1,h.2⟩
   rcases List.mem_cons.1 hz with e|hz
   ·rw[e]
    omega
   ·have:=h.1 z hz
    omega
end
end Go.Proofs.YtoojmhjagipmdaaGreat
namespace Go.Proofs.YtoojmhjagipmdaaGreat
open Go.RowKit
section
variable (lv:Int→Int)
def rMx (out:Int):List Int→Int
 | []=>out
 | x::r=>rMx (if out=0∨lv out<lv x then x else out) r
def rMaxGo (wo out:Int):List Int→Int
 | []=>out
 | x::r=>rMaxGo wo (if x≠wo∧(out=0∨lv out<lv x)then x else out) r
def foldL (r xs:List Int):List Int:=xs.foldl (fun r x=>insL lv x r) r
theorem foldL_srt (xs:List Int): ∀{r:List Int},SrtL lv r→SrtL lv (foldL lv r xs):=by
 induction xs with
 | nil=>exact fun h=>h
 | cons x xs ih=>exact fun h=>ih (insL_srt lv x h)
end
theorem stab_fold (T:Trl) (xs:List Int):T.stab xs=(foldL (fun z=>T.level (litV z:Nat)) [] xs).reverse:=by
 rw[stab_eq]
 have e:ltOf T.lvOrd=fun x y=>decide (T.level (litV y:Nat)<T.level (litV x:Nat)):=by
  funext x y
  unfold ltOf Trl.lvOrd ordI
  by_cases h:T.level (litV y:Nat)<T.level (litV x:Nat)
  ·rw[if_pos h,decide_eq_true h]
   rfl
  ·rw[if_neg h,decide_eq_false h]
   split <;> rfl
 rw[e]
 rfl
end Go.Proofs.YtoojmhjagipmdaaGreat
namespace Go.Proofs.YtoojmhjagipmdaaGreat
open Go.RowKit Go.Shelf Go.Maps
attribute [local go_sem] Oper.semAt_some
theorem TrAt.cells {O:Nat→Prop} {w:World} {b:Nat} {T:Trl} (h:TrAt O w b T):TrAt (fun g=>O g∧∃c t f,w.heap[g]? =some (.cells c t f)) w b T:=by
 obtain⟨hk,gv,cv,ov,sv,h⟩:=h
 have hc: ∀{base size n:Nat} {e:TypeId} {v:Value} {xs:List Value},w.ownsRow base e size v n xs→∀g,v.ownBlock=some g→∃c t f,w.heap[g]? =some (.cells c t f):=fun h g hg=>by
  obtain⟨c,hc⟩:=own_type h g hg
  exact⟨c,_,_,hc⟩
 exact⟨hk,gv,cv,ov,sv,⟨fun g hg=>h.own g hg.1,⟨h.inb,_,_,_,h.block⟩,⟨h.invs,hc h.vars gv rfl⟩,h.block,h.vars,h.order,fun g hg=>⟨h.orderb g hg,hc h.order g hg⟩,h.starts,fun g hg=>⟨h.startsb g hg,hc h.starts g hg⟩⟩⟩
def TrX (w:World) (b:Nat) (T:Trl):Prop:= ∃O:Nat→Prop,TrAt O w b T
def KpB (X:Nat→Prop) (b:Nat) (A B:World):Prop:=KpC X A B∧∀T,TrX A b T→∃T',TrX B b T'∧T'.order=T.order
theorem KpB.refl (X:Nat→Prop) (b:Nat) (A:World):KpB X b A A:=⟨KpC.refl _ _,fun T h=>⟨T,h,rfl⟩⟩
theorem KpB.trans {X:Nat→Prop} {b:Nat} {A B C:World} (h:KpB X b A B) (k:KpB X b B C):KpB X b A C:=⟨h.1.trans k.1,fun T hT=>by
 obtain⟨T1,h1,e1⟩:=h.2 T hT
 obtain⟨T2,h2,e2⟩:=k.2 T1 h1
 exact⟨T2,h2,e2.trans e1⟩⟩
theorem KpB.putObj {X:Nat→Prop} {b:Nat} (W:World) (l:Nat) (o o':Obj) (h:W.heap[l]? =some o) (hc:o.isCells=false) (hw:o.isWalk=false):KpB X b W (W.putObj l o'):=by
 have hk:=KpC.putObj W l o o' h hc hw
 refine⟨hk.mono (fun _ _ e=>e.elim),fun T hT=>⟨T,?_,rfl⟩⟩
 obtain⟨O,hT⟩:=hT
 refine⟨_,hT.cells.kept hk.kept (fun g hg e=>?_)⟩
 obtain⟨_,c,t,f,hg⟩:=hg
 exact e.elim (fun e=>e.elim) (xo_cells hg)
abbrev UpX (o:List Int):Type:={x:Nat×Int // x.2∈o}
def upS (o:List Int):Nat→Nat→List (UpX o)
 | _,0=> []
 | k,n+1=>if h:k<o.length then⟨(k,o[k]),List.getElem_mem h⟩::upS o (k+1) n else []
def dvS {o:List Int} (x:UpX o):Array Value:= #[.int .i64 (x.1.1:Int),.int .i64 x.1.2]
theorem upS_cons {o:List Int} {k n:Nat} (h:k<o.length):upS o k (n+1)=⟨(k,o[k]),List.getElem_mem h⟩::upS o (k+1) n:=by
 simp only[upS]
 rw[dif_pos h]
theorem upS_map (o:List Int) (k n:Nat) (h:k+n=o.length):(upS o k n).map (fun x=>x.1.2)=o.drop k:=by
 induction n generalizing k with
 | zero=>
  rw[List.drop_eq_nil_of_le (by omega)]
  rfl
 | succ n ih=>
  rw[upS_cons (by omega),List.map_cons,ih (k+1) (by omega)]
  exact(List.drop_eq_getElem_cons (by omega)).symm
theorem lits1_in {X:Nat→Prop} (l Bf Bt b k0:Nat) (T:Trl) (J Jx:List (UpX T.order)→World→Prop) (W:World)
  (hY: ∀pre x W1,J pre W1→pre.length<T.order.length→YieldAt Fence.wide 7 Tryz.prog l (dvS x) W1 fun e W'=>
   (e= .returned (.bool true)∧J (pre++ [x]) W'∧KpB X b W1 W')∨(e= .returned (.bool false)∧Jx (pre++ [x]) W'))
  (hBf:W.cell? ⟨Bf,0,none⟩=some (.int .i64 (k0:Int))) (hBt:W.cell? ⟨Bt,0,none⟩=some (.pointer (some ⟨b,0,none⟩))) (hX: ¬X Bt) (hT:TrX W b T) (hk0:k0≤T.order.length) (h0:J [] W):
  CallsIn Fence.wide 8 Tryz.prog 191 #[.func (.yield l) #[] #[],.pointer (some ⟨Bf,0,none⟩),.pointer (some ⟨Bt,0,none⟩)] W fun e W'=>(∃v,e= .returned v)∧
   ((∃ys,ys=upS T.order k0 (T.order.length-k0)∧J ys W')∨(∃pre,(pre <+: upS T.order k0 (T.order.length-k0)∧pre≠ [])∧Jx pre W')):=by
 have hBt':=World.block_lt_of_cell? W _ hBt
 have hno:T.order.length≤1048576:=by
  obtain⟨_,hT⟩:=hT
  exact hT.1.order
 have HBT:=Lib.hid hBt
 have HT:=Lib.hid hT
 have HY:=Lib.hid hY
 have H0:=Lib.hid h0
 have HX:=Lib.hid hX
 clear hT hY h0 hX
 have hmx:max (k0:Int) 0=(k0:Int):=by omega
 refine callsIn_of_wp Tryz.func191 rfl trivial ?_ rfl
 simp only[Tryz.ntmps191,List.size_toArray,List.length_cons,List.length_nil,Nat.reduceAdd,Nat.reduceSub,Array.replicate_succ,Array.replicate_zero,List.push_toArray,List.append_toArray,List.nil_append,List.cons_append]
 gi_wp2_with fail
 clear hBt
 gi_loopw [4] (fun i wr=> ∃(k:Nat) (pre:List (UpX T.order)),i= .int .i64 (k:Int)∧k≤T.order.length∧Hid (pre.length+k0=k)∧Hid (pre++upS T.order k (T.order.length-k)=upS T.order k0 (T.order.length-k0))∧Hid (KpB X b W wr)∧Hid (J pre wr))
  (fun i _=>T.order.length-(intOf i).toNat)
 case atStart=>
  exact⟨k0,[],rfl,hk0,Lib.hid (by simp),Lib.hid rfl,Lib.hid (KpB.refl _ _ _),H0⟩
 case round=>
  obtain⟨k,pre,rfl,hkn,HPL,HPE,HK,HJS⟩:=hrel
  have d0:wr.cell? ⟨Bt,0,none⟩=some (.pointer (some ⟨b,0,none⟩)):=(HK.out.1.kept.cell (p:=⟨Bt,0,none⟩) hBt' (fun h=>h.elim HX.out (xo_cell HBT.out))).trans HBT.out
  obtain⟨T',⟨O,hT'⟩,hor⟩:=HK.out.2 T HT.out
  have hLR:=tr_len b T' wr hT'
  rw[hor]at hLR
  have HLR:=Lib.hid hLR
  by_cases hm:k<T.order.length
  ·have hq:decide ((k:Int)<(T.order.length:Int))=true:=by simpa using hm
   have hq2:decide (k<T.order.length)=true:=by simpa using hm
   have hx:T'.order[k]? =some (T.order[k]):=by rw[hor];exact List.getElem?_eq_getElem hm
   obtain⟨g,c,c1,d1⟩:=tr_cells hT' hx
   rw[hor]at c1
   have HD:=Lib.hid (show upS T.order k (T.order.length-k)=⟨(k,T.order[k]),List.getElem_mem hm⟩::upS T.order (k+1) (T.order.length-(k+1))from by
    rw[show T.order.length-k=(T.order.length-(k+1))+1 by omega]
    exact upS_cons hm)
   obtain⟨fn,tmps,assign,body,hy,hR⟩:=HY.out pre ⟨(k,T.order[k]),List.getElem_mem hm⟩ wr HJS.out (by have:=HPL.out;omega)
   obtain⟨u,hu⟩: ∃u,T.order[k]=u:=⟨_,rfl⟩
   dsimp only[dvS]at hy hR
   rw[hu]at d1 hy
   have HR:=Lib.hid hR
   clear hx hR hT' hLR hor
   gi_wp2_with fail
   refine⟨trivial,?_⟩
   refine(callsIn_wide.2 HLR.out).mono ?_
   rintro e wy ⟨rfl,rfl⟩
   gi_wp2_with fail
   refine HR.out.mono ?_
   rintro e W3 (⟨rfl,hJ3,hk3⟩|⟨rfl,hJx3⟩)
   ·have HJ3:=Lib.hid hJ3
    have HK3:=Lib.hid (HK.out.trans hk3)
    clear hJ3 hk3 hy d0 c1 d1 hu HR
    gi_wp2_with fail
    go_roundw
    case rel=>exact⟨k+1,pre++ [⟨(k,T.order[k]),List.getElem_mem hm⟩],by simp,hm,Lib.hid (by have:=HPL.out;simp;omega),Lib.hid (by rw[←HPE.out,HD.out];simp),HK3,HJ3⟩
    case measure=>simp[intOf];omega
   ·gi_wp2_with fail
    refine bodyPost_ret (results_none rfl _ _ _) rfl ?_
    refine⟨⟨_,rfl⟩,.inr ⟨pre++ [⟨(k,T.order[k]),List.getElem_mem hm⟩],⟨?_,by simp⟩,hJx3⟩⟩
    rw[←HPE.out,HD.out]
    exact⟨_,by rw[List.append_assoc];rfl⟩
  ·have hq:decide ((k:Int)<(T.order.length:Int))=false:=by simpa using hm
   obtain rfl:k=T.order.length:=by omega
   clear hLR hT'
   gi_wp2_with fail
   refine⟨trivial,?_⟩
   refine(callsIn_wide.2 HLR.out).mono ?_
   rintro e wy ⟨rfl,rfl⟩
   gi_wp2_with fail
   go_end0
   have he:pre=upS T.order k0 (T.order.length-k0):=by
    have:=HPE.out
    rw[Nat.sub_self]at this
    simpa [upS] using this
   exact⟨⟨_,rfl⟩,.inl ⟨_,he,HJS.out⟩⟩
theorem lits_in (b:Nat) (n:Int) (w:World):
  CallsIn Fence.wide 8 Tryz.prog 174 #[.pointer (some ⟨b,0,none⟩),.int .i64 n] w fun e w'=>e= .returned (.func (.func 191) #[] #[.pointer (some ⟨w.heap.size+1,0,none⟩),.pointer (some ⟨w.heap.size,0,none⟩)])∧(w.alloc (.cells #[.pointer (some ⟨b,0,none⟩)] 38)).alloc (.cells #[.int .i64 n] 3)=w':=by
 refine callsIn_of_wp Tryz.func174 rfl trivial ?_ rfl
 simp only[Tryz.ntmps174,List.size_toArray,List.length_cons,List.length_nil,Nat.reduceAdd,Nat.reduceSub,Array.replicate_succ,Array.replicate_zero,List.push_toArray,List.append_toArray,List.nil_append,List.cons_append]
 gi_wp2
 go_ret
 exact⟨by simp,rfl⟩
theorem lits_stops {X:Nat→Prop} (Bf Bt b k0:Nat) (T:Trl) (w:World) (hBf:w.cell? ⟨Bf,0,none⟩=some (.int .i64 (k0:Int))) (hBt:w.cell? ⟨Bt,0,none⟩=some (.pointer (some ⟨b,0,none⟩))) (hX: ¬X Bt) (hT:TrX w b T) (hk0:k0≤T.order.length):
  SeqStopsK Fence.wide 8 Tryz.prog 191 #[.pointer (some ⟨Bf,0,none⟩),.pointer (some ⟨Bt,0,none⟩)] (dvS (o:=T.order)) (KpB X b) (fun ys=>ys=upS T.order k0 (T.order.length-k0)) (fun pre=>pre <+: upS T.order k0 (T.order.length-k0)∧pre≠ []) T.order.length w:=fun l J Jx W hW _ _ hY h0=>
 lits1_in l Bf Bt b k0 T J Jx W hY ((hW.cell (p:=⟨Bf,0,none⟩) (World.block_lt_of_cell? w _ hBf)).trans hBf) ((hW.cell (p:=⟨Bt,0,none⟩) (World.block_lt_of_cell? w _ hBt)).trans hBt) hX (by
  obtain⟨O,hT⟩:=hT
  exact⟨O,hT.below hW⟩) hk0 h0
end Go.Proofs.YtoojmhjagipmdaaGreat
namespace Go.Proofs.YtoojmhjagipmdaaGreat
open Go.RowKit Go.Shelf Go.Maps
attribute [local go_sem] Oper.semAt_some
def clr:List TV→List Int→List TV
 | vs,[]=>vs
 | vs,l::r=>clr (vs.set (litV l) ⟨0,0,0,0⟩) r
theorem clr_len (vs:List TV) (ls:List Int):(clr vs ls).length=vs.length:=by
 induction ls generalizing vs with
 | nil=>rfl
 | cons l ls ih=>simp only[clr,ih,List.length_set]
theorem clr_snoc (vs:List TV) (ls:List Int) (l:Int):clr vs (ls++ [l])=(clr vs ls).set (litV l) ⟨0,0,0,0⟩:=by
 induction ls generalizing vs with
 | nil=>rfl
 | cons x ls ih=>simp only[List.cons_append,clr,ih]
theorem clr_mem {vs:List TV} {ls:List Int} {s:TV} (h:s∈clr vs ls):s∈vs∨s=⟨0,0,0,0⟩:=by
 induction ls generalizing vs with
 | nil=>exact .inl h
 | cons l ls ih=>
  rcases ih h with h|h
  ·rcases List.mem_or_eq_of_mem_set h with h|h
   ·exact .inl h
   ·exact .inr h
  ·exact .inr h
def Trl.clear (T:Trl) (ls:List Int):Trl:=⟨clr T.vars ls,T.order,T.starts⟩
def Trl.back (T:Trl) (k e:Nat):Trl:=⟨clr T.vars (T.order.drop e),T.order.take e,T.starts.take (k+1)⟩
theorem Trl.Ok.clear {T:Trl} (h:T.Ok) (ls:List Int):(T.clear ls).Ok:=
 ⟨by show 1≤(clr T.vars ls).length∧(clr T.vars ls).length≤1048577;rw[clr_len];exact h.vars,h.order,h.starts,fun s hs=>(clr_mem hs).elim (h.each s) (fun e=>.inl (by rw[e]))⟩
theorem own_uniq {w:World} {base base' size n:Nat} {e e':TypeId} {v:Value} {xs ys:List Value} (h:w.ownsRow base e size v n xs) (h':w.ownsRow base' e' size v n ys):xs=ys:=by
 obtain⟨h0,h1⟩:=h
 obtain⟨k0,k1⟩:=h'
 rcases h1 with⟨hv,hn⟩|⟨g,cap,cur,hv,_,hg,_,_,_,hx⟩
 ·rcases k1 with⟨_,hn'⟩|⟨g,cap,cur,hv',_⟩
  ·subst hn
   rw[Nat.zero_mul]at h0 k0
   rw[List.eq_nil_of_length_eq_zero h0,List.eq_nil_of_length_eq_zero k0]
  ·rw[hv]at hv'
   cases hv'
 ·rcases k1 with⟨hv',_⟩|⟨g',cap',cur',hv',_,hg',_,_,_,hx'⟩
  ·rw[hv]at hv'
   cases hv'
  ·rw[hv]at hv'
   cases hv'
   rw[hg]at hg'
   cases hg'
   rw[←hx,←hx']
theorem own_take {w:World} {base n g c m:Nat} {e:TypeId} {xs:List Value} (h:w.ownsRow base e 1 (.slice (some ⟨g,0,none⟩) n c) n xs) (hm:m≤n):w.ownsRow base e 1 (.slice (some ⟨g,0,none⟩) m c) m (xs.take m):=by
 obtain⟨h0,h1⟩:=h
 rcases h1 with⟨hv,_⟩|⟨g',cap,cur,hv,hb,hg,hle,hml,hs,hx⟩
 ·cases hv
 ·cases hv
  refine⟨by rw[List.length_take];omega,.inr ⟨g,c,cur,rfl,hb,hg,by omega,hml,hs,?_⟩⟩
  rw[←hx,List.take_take]
  congr 1
  omega
theorem TrX.order {w:World} {b:Nat} {T T':Trl} (h:TrX w b T) (h':TrX w b T'):T.order=T'.order:=by
 obtain⟨O,_,gv,cv,ov,sv,h⟩:=h
 obtain⟨O',_,gv',cv',ov',sv',h'⟩:=h'
 have hb:=h.block.symm.trans h'.block
 simp only[Option.some.injEq,Obj.cells.injEq,Array.mk.injEq,List.cons.injEq]at hb
 obtain⟨⟨_,ho,_⟩,_⟩:=hb
 subst ho
 have h1:=h.order
 have h2:=h'.order
 obtain⟨A,c,e1,_⟩:=mx_slice h1
 obtain⟨A',c',e2,_⟩:=mx_slice h2
 rw[e1]at e2
 simp only[Value.slice.injEq]at e2
 rw[e2.2.1]at h1
 have e3:=own_uniq h1 h2
 exact(List.map_inj_right (fun x y h=>by cases h;rfl)).1 e3
theorem Trl.Ok.back {T:Trl} (h:T.Ok) {k:Nat} (e:Nat) (hk:k<T.starts.length):(T.back k e).Ok:=by
 refine⟨?_,?_,⟨?_,?_⟩,fun s hs=>(clr_mem hs).elim (h.each s) (fun e=>.inl (by rw[e]))⟩
 ·show 1≤(clr T.vars (T.order.drop e)).length∧(clr T.vars (T.order.drop e)).length≤1048577
  rw[clr_len]
  exact h.vars
 ·show(T.order.take e).length≤_
  have:=h.order
  rw[List.length_take]
  omega
 ·show 1≤(T.starts.take (k+1)).length
  rw[List.length_take]
  omega
 ·show(T.starts.take (k+1)).length≤_
  have:=h.starts
  rw[List.length_take]
  omega
theorem tr_backed {O O':Nat→Prop} {w W wH:World} {b k e D gv cv gs cs:Nat} {T:Trl} {ov vo:Value} (hok:T.Ok) (hk:k+1<T.starts.length) (hel:e≤T.order.length) (hm:TrMem O' W b (T.clear (T.order.drop e)) gv cv ov (.slice (some ⟨gs,0,none⟩) T.starts.length cs)) (hO: ∀g,O' g→O g) (hOw: ∀g,O g→g<w.heap.size)
  (hwW:Kept O w W) (hkH:Kept (fun g=>g=b) W wH) (hbH:wH.heap[b]? =some (.cells #[.slice (some ⟨gv,0,none⟩) T.vars.length cv,vo,.slice (some ⟨gs,0,none⟩) (k+1) cs,.bool true] 153 (0,0)))
  (hvo:wH.ownsRow 0 32 1 vo e ((T.order.take e).map (Value.int .i64))) (hvb: ∀g,vo.ownBlock=some g→O' g) (hD:w.heap.size≤D) (hDf:wH.heap[D]? =some (.deferred (some []))):
  TrNext O w (wH.putObj D (.deferred none)) b (T.back k e):=by
 have hkD:Kept (fun g=>g=D) wH (wH.putObj D (.deferred none)):=⟨rfl,rfl,rfl,by simp[World.putObj],fun i _ hn=>World.putObj_heap_other hn⟩
 have hlt:=heap_lt hDf
 have hcell: ∀{base size n:Nat} {t:TypeId} {v:Value} {xs:List Value},wH.ownsRow base t size v n xs→(wH.putObj D (.deferred none)).ownsRow base t size v n xs:=fun h=>own_kept h hkD (fun g hg e=>by
  obtain⟨c,hc⟩:=own_type h g hg
  rw[e,hDf]at hc
  cases hc)
 have hvl:(clr T.vars (T.order.drop e)).length=T.vars.length:=clr_len _ _
 have hte:(T.order.take e).length=e:=by rw[List.length_take];omega
 have htk:(T.starts.take (k+1)).length=k+1:=by rw[List.length_take];omega
 have hbD:b≠D:=fun e=>by
  rw[e,hDf]at hbH
  cases hbH
 have hz1:=hwW.size
 have hz2:=hkH.size
 have hz3:=hkD.size
 refine⟨⟨hok.back e (by omega),gv,cv,vo,.slice (some ⟨gs,0,none⟩) (k+1) cs,⟨fun g hg=>?_,.inl (hO _ hm.inb),.inl (hO _ hm.invs),?_,?_,?_,fun g hg=>.inl (hO _ (hvb g hg)),?_,fun g hg=>.inl (hO _ (hm.startsb g hg))⟩⟩,?_⟩
 ·rcases hg with hg|hg
  ·have:=hOw g hg
   omega
  ·exact hg.2
 ·show _=some (Obj.cells #[.slice (some ⟨gv,0,none⟩) (clr T.vars (T.order.drop e)).length cv,vo,_,_] _ _)
  rw[hvl]
  exact(hkD.block b (heap_lt hbH) hbD).trans hbH
 ·exact hcell (own_kept hm.vars hkH (fun g hg e=>by
   rw[e]at hg
   exact mx_not hm.vars hm.block (by decide) hg))
 ·show World.ownsRow _ 0 _ 1 vo (T.order.take e).length _
  rw[hte]
  exact hcell hvo
 ·show World.ownsRow _ 0 _ 1 _ (T.starts.take (k+1)).length _
  rw[htk]
  show World.ownsRow _ 0 _ 1 _ _ ((T.starts.take (k+1)).map _)
  rw[List.map_take]
  exact hcell (own_take (own_kept hm.starts hkH (fun g hg e=>by
   rw[e]at hg
   exact mx_not hm.starts hm.block (by decide) hg)) (by omega))
 ·exact(hwW.trans hkH (fun i _ e=>by rw[e];exact hO _ hm.inb)).trans hkD (fun i hi e=>by omega)
set_option maxRecDepth 100000 in
set_option maxHeartbeats 8000000 in
theorem tr_back {O:Nat→Prop} (b k e:Nat) (T:Trl) (w:World) (h:TrAt O w b T) (hk:k+1<T.starts.length) (he:T.starts[k+1]? =some (e:Int)) (hel:e≤T.order.length) (hfit: ∀l∈T.order,litV l<T.vars.length):
  Calls Tryz.prog 131 #[.pointer (some ⟨b,0,none⟩),.int .i64 (k:Int)] w fun r w'=>r= .returned (.int .i64 0)∧TrNext O w w' b (T.back k e):=by
 obtain⟨WA,hWA⟩: ∃x,w.alloc (.cells #[.pointer (some ⟨b,0,none⟩)] 38)=x:=⟨_,rfl⟩
 have hbA:Below w.heap.size w WA:=by rw[←hWA];exact mx_al _ _
 have hcA:WA.heap[w.heap.size]? =some (.cells #[.pointer (some ⟨b,0,none⟩)] 38 (0,0)):=by rw[←hWA];exact World.alloc_heap_new _ _
 have hzA:WA.heap.size=w.heap.size+1:=by rw[←hWA];simp
 have c0:=mx_cell (j:=0) hcA
 have hTA:=h.below hbA
 have HIS:=Lib.hid (tr_is b T WA hTA)
 have HNOW:=Lib.hid (tr_now b T WA hTA)
 have HTA:=Lib.hid hTA
 have HT:=Lib.hid h
 have HWA:=Lib.hid hWA
 have HBA:=Lib.hid hbA
 have HCA:=Lib.hid hcA
 have HFIT:=Lib.hid hfit
 obtain⟨hok,gv,cv,ov,sv,hm⟩:=hTA
 have hlen:=hok.starts
 have hlo:=hok.order
 obtain⟨gs,cs,cur,hsv,_,_,hgs,_⟩:=mx_some hm.starts (by omega)
 obtain⟨cs',rfl⟩: ∃cs,sv= .slice (some ⟨gs,0,none⟩) T.starts.length cs:=⟨_,hsv⟩
 have c2:WA.cell? ⟨b,2,none⟩=some (.slice (some ⟨gs,0,none⟩) T.starts.length cs'):=mx_cell (j:=2) hm.block
 have c3:WA.cell? ⟨gs,k+1,none⟩=some (.int .i64 (e:Int)):=mx_at hm.starts (by rw[List.getElem?_map,he];rfl)
 have q0:decide ((k:Int)<0)=false:=by simp
 have q1:decide ((T.starts.length:Int)≤(k:Int))=false:=by simp;omega
 have q2:((k:Int)==(T.starts.length:Int)-1)=false:=by simp;omega
 have v1:IntKind.i64.wrap ((k:Int)+1)=((k+1:Nat):Int):=(IntWalk.i64_in _ (by omega)).trans (by omega)
 have v2:((k+1:Nat):Int)<(T.starts.length:Int):=by omega
 have v3:(k+1<T.starts.length)=True:=by simp;omega
 clear h hbA hcA hWA hfit hsv hm hok he hgs
 refine(callsIn_wide (n:=9)).1 ?_
 refine callsIn_of_wp_marks Tryz.func131 rfl trivial ?_ rfl
 simp only[Tryz.ntmps131,List.size_toArray,List.length_cons,List.length_nil,Nat.reduceAdd,Nat.reduceSub,Array.replicate_succ,Array.replicate_zero,List.push_toArray,List.append_toArray,List.nil_append,List.cons_append]
 gi_wp2_with fail
 rw[HWA.out]
 refine⟨trivial,(callsIn_wide.2 HIS.out).mono ?_⟩
 rintro e' w' ⟨rfl,rfl⟩
 gi_wp2_with fail
 refine⟨trivial,(callsIn_wide.2 HNOW.out).mono ?_⟩
 rintro e' w' ⟨rfl,rfl⟩
 gi_wp2_with (refine⟨trivial,?_⟩;gi_at_call 174;refine(lits_in b (e:Int) _).mono ?_;rintro e' w' ⟨rfl,rfl⟩)
 obtain⟨WR,hWR⟩: ∃x,(WA.alloc (.cells #[.pointer (some ⟨b,0,none⟩)] 38)).alloc (.cells #[.int .i64 (e:Int)] 3)=x:=⟨_,rfl⟩
 have hbR:Below WA.heap.size WA WR:=by rw[←hWR];exact((mx_al _ _).alloc (by simp) _)
 have hzR:WR.heap.size=w.heap.size+3:=by rw[←hWR];simp;omega
 have hcF:WR.heap[w.heap.size+1+1]? =some (.cells #[.int .i64 (e:Int)] 3 (0,0)):=by
  rw[←hWR]
  have:=World.alloc_heap_new (WA.alloc (.cells #[.pointer (some ⟨b,0,none⟩)] 38)) (.cells #[.int .i64 (e:Int)] 3)
  rwa [World.size_alloc,hzA]at this
 have hcB:WR.heap[w.heap.size+1]? =some (.cells #[.pointer (some ⟨b,0,none⟩)] 38 (0,0)):=by
  rw[←hWR,Below.heap_alloc _ _ _ (by simp;omega)]
  have:=World.alloc_heap_new WA (.cells #[.pointer (some ⟨b,0,none⟩)] 38)
  rwa [hzA]at this
 have hcT:WR.heap[w.heap.size]? =some (.cells #[.pointer (some ⟨b,0,none⟩)] 38 (0,0)):=(hbR.block _ (by omega)).trans HCA.out
 have hOw: ∀g,O g→g<w.heap.size:=by
  obtain⟨_,gv,cv',ov,sv,hm⟩:=HT.out
  exact hm.own
 rw[hWR]
 have hTR:=HTA.out.below hbR
 have HOW:=Lib.hid hOw
 have HTR:=Lib.hid hTR
 have HCT:=Lib.hid hcT
 have HBR:=Lib.hid (HBA.out.trans (hbR.mono (by omega)))
 have HST:=Lib.hid (lits_stops (X:=fun g=>O g∨WR.heap.size≤g) (w.heap.size+1+1) (w.heap.size+1) b e T WR (mx_cell (j:=0) hcF) (mx_cell (j:=0) hcB) (fun h=>by
  rcases h with h|h
  ·have:=hOw _ h
   omega
  ·omega) ⟨O,hTR⟩ hel)
 clear hWR hbR hcF hcB hcT hOw hTR c0 c2 c3 q0 q1 q2
 refine wpIn_rangeFunc_ownG rfl (by omega) (gf:=191) (lb:= #[.pointer (some ⟨w.heap.size+1+1,0,none⟩),.pointer (some ⟨w.heap.size+1,0,none⟩)]) rfl trivial (enters_of Tryz.func191 (by kernel_rfl) rfl)
  HST.out (fun h k=>h.trans k) (fun W l o o' _ h hc hw=>KpB.putObj W l o o' h hc hw) (Below.refl _ _) (fun _=>rfl)
  (fun pre W=>(∃O':Nat→Prop,TrAt O' W b (T.clear (pre.map (fun x=>x.1.2)))∧∀g,O' g→O g)∧Kept O WR W) (fun _ _ _=>False) ?own ?ownx ⟨⟨O,HTR.out,fun _ h=>h⟩,Kept.refl _ _⟩
  ?frame ?assign ?body ?done ?stop
 case own=>
  rintro pre W W' row ⟨⟨O',hT,hO⟩,hK⟩ hg hr
  refine⟨⟨_,hT.cells.kept (Kept.grown hg) (fun g h e=>?_),fun g h=>hO g h.1⟩,hK.trans (Kept.grown hg) (fun i hi e=>?_)⟩
  ·obtain⟨_,c,t,f,hc⟩:=h
   obtain⟨_,o,ho,hn⟩:=hr g e.symm
   rw[ho]at hc
   cases hc
   cases hn
  ·have:=(hr i e.symm).1
   omega
 case ownx=>exact fun c pre W W' row h _ _=>h
 case assign=>
  intro l x W K hK
  dsimp only[dvS]
  gi_wp2
  exact hK
 case body=>
  rintro l pre x W ⟨⟨O',hT,hO⟩,hKW⟩ hlt
  have hx:=HFIT.out _ x.2
  have HTX:=Lib.hid (show TrX W b (T.clear (pre.map (fun x=>x.1.2)))from⟨O',hT⟩)
  obtain⟨hok',gv',cv',ov',sv',hm⟩:=hT
  have hvl:(T.clear (pre.map (fun x=>x.1.2))).vars.length=T.vars.length:=clr_len _ _
  have HCE:=Lib.hid (show(T.clear (pre.map (fun x=>x.1.2))).vars.set (litV x.1.2) ⟨0,0,0,0⟩=(T.clear ((pre++ [x]).map (fun x=>x.1.2))).vars from by
   rw[List.map_append]
   exact(clr_snoc _ _ _).symm)
  have HOK:=Lib.hid (show(T.clear ((pre++ [x]).map (fun x=>x.1.2))).Ok from HTR.out.1.clear _)
  obtain⟨u,hu⟩: ∃u,x.1.2=u:=⟨_,rfl⟩
  rw[hu]at hx HCE⊢
  obtain⟨s,hs⟩:=getElem_of (show litV u<(T.clear (pre.map (fun x=>x.1.2))).vars.length by rw[hvl];exact hx)
  obtain⟨e0,e1,e2,e3⟩:=hm.var hs
  obtain⟨n,hn⟩: ∃n,(T.clear (pre.map (fun x=>x.1.2))).vars.length=n:=⟨_,rfl⟩
  have hxi:((litV u:Nat):Int)<(n:Int):=by omega
  have hxn:litV u<n:=by omega
  have t0:W.cell? ⟨w.heap.size,0,none⟩=some (.pointer (some ⟨b,0,none⟩)):=(hKW.cell (p:=⟨w.heap.size,0,none⟩) (by show w.heap.size<WR.heap.size;omega) (fun h=>by have:=HOW.out _ h;simp at this)).trans (mx_cell (j:=0) HCT.out)
  have t1:W.cell? ⟨b,0,none⟩=some (.slice (some ⟨gv',0,none⟩) n cv'):=(mx_cell (j:=0) hm.block).trans (by rw[←hn];rfl)
  have htl:=World.block_lt_of_cell? W _ t0
  have hbl:=heap_lt hm.block
  have hgl:=(own_lt hm.vars gv' rfl).2
  obtain⟨cur',hcur⟩:=own_type hm.vars gv' rfl
  have HM:=Lib.hid hm
  have HO:=Lib.hid hO
  have HKW:=Lib.hid hKW
  have HN:=Lib.hid hn
  have T0:=Lib.hid t0
  have T1:=Lib.hid t1
  have HV:=Lib.hid (fun W=>lit_var u W)
  clear hvl hm hO hKW hs hok' t0 t1 hn hu
  gi_wp2
  refine wpIn_round_sink (fun w'=>Below W.heap.size W w') (by kernel_rfl) rfl (by kernel_rfl) (by kernel_rfl) (fun⟨_,_,h⟩=>h) (mx_drew W) (fun hS=>?_)
  simp only[List.dropLast]
  obtain⟨wD,hwD⟩: ∃y,W.drew=y:=⟨_,rfl⟩
  rw[hwD]at hS⊢
  clear hwD
  refine takeF 0 42 (fun wq hSw=>(hSw.cell (p:=⟨w.heap.size,0,none⟩) htl).trans T0.out) ?_
  refine takeE 1 43 ?_
  refine takeE 2 44 ?_
  refine takeF 3 45 (fun wq hSw=>(hSw.cell (p:=⟨b,0,none⟩) hbl).trans T1.out) ?_
  refine takeE 4 46 ?_
  refine takeE 6 48 ?_
  refine ready1 5 (fun K hK=>?_)
  go_simp
  refine(HV.out wD).mono ?_
  rintro e' w' ⟨rfl,rfl⟩
  refine hK.out _ _ hS (fun _=>?_)
  clear hK
  refine takeE 7 49 ?_
  refine wpAnyH_done (by kernel_rfl) ?_ _
  refine lastPost_normal ?_
  have e0:=(hS.cell (p:=⟨gv',litV u*4,none⟩) hgl).trans e0
  have e1:=(hS.cell (p:=⟨gv',litV u*4+1,none⟩) hgl).trans e1
  have e2:=(hS.cell (p:=⟨gv',litV u*4+2,none⟩) hgl).trans e2
  have e3:=(hS.cell (p:=⟨gv',litV u*4+3,none⟩) hgl).trans e3
  have hcur:=(hS.block gv' hgl).trans hcur
  have f0:=mx_free (j:=litV u*4) hcur
  have f1:=mx_free (j:=litV u*4+1) hcur
  have f2:=mx_free (j:=litV u*4+2) hcur
  have f3:=mx_free (j:=litV u*4+3) hcur
  refine wpOp_step rfl (fun K hK=>?_)
  go_simp
  refine hK _ _ ?_
  have hmv:=own_below HM.out.vars hS
  rw[HN.out]at hmv
  have hvr:=vars_set hmv HN.out hxn ⟨0,0,0,0⟩
  have hks:Kept (fun g=>g=gv') wD ((((wD.setCell ⟨gv',litV u*4,none⟩ (.int .i64 0)).setCell ⟨gv',litV u*4+1,none⟩ (.int .i64 0)).setCell ⟨gv',litV u*4+2,none⟩ (.int .i64 0)).setCell ⟨gv',litV u*4+3,none⟩ (.int .i64 0)):=((((Kept.refl (fun g=>g=gv') wD).setCell _ _ rfl).setCell _ _ rfl).setCell _ _ rfl).setCell _ _ rfl
  obtain⟨Ws,hWs⟩: ∃y,((((wD.setCell ⟨gv',litV u*4,none⟩ (.int .i64 0)).setCell ⟨gv',litV u*4+1,none⟩ (.int .i64 0)).setCell ⟨gv',litV u*4+2,none⟩ (.int .i64 0)).setCell ⟨gv',litV u*4+3,none⟩ (.int .i64 0))=y:=⟨_,rfl⟩
  have hvr':Ws.ownsRow 0 150 4 (.slice (some ⟨gv',0,none⟩) n cv') n (((T.clear (pre.map (fun x=>x.1.2))).vars.set (litV u) ⟨0,0,0,0⟩).flatMap TV.cells):=by rw[←hWs];exact hvr
  rw[hWs]at hks⊢
  have hkW:Kept (fun g=>g=gv') W Ws:=(Kept.of_below (O:=fun g=>g=gv') hS).trans hks (fun i _ h=>h)
  have hnv:b≠gv':=fun e=>mx_not HM.out.vars HM.out.block (by decide) (by rw[e];rfl)
  have hn2:(T.clear ((pre++ [x]).map (fun x=>x.1.2))).vars.length=n:=by
   rw[←HN.out]
   exact(clr_len _ _).trans (clr_len _ _).symm
  have hOg:O gv':=HO.out _ HM.out.invs
  have hgw:=HOW.out _ hOg
  have hT':TrAt O' Ws b (T.clear ((pre++ [x]).map (fun x=>x.1.2))):=by
   rw[HCE.out]at hvr'
   refine⟨HOK.out,gv',cv',ov',sv',⟨fun g hg=>Nat.lt_of_lt_of_le (HM.out.own g hg) hkW.size,HM.out.inb,HM.out.invs,?_,?_,own_kept HM.out.order hkW (fun g hg e=>by
    rw[e]at hg
    exact mx_apart HM.out.order HM.out.vars (by decide) hg rfl),HM.out.orderb,own_kept HM.out.starts hkW (fun g hg e=>by
    rw[e]at hg
    exact mx_apart HM.out.starts HM.out.vars (by decide) hg rfl),HM.out.startsb⟩⟩
   ·rw[hn2]
    have h1:=(hkW.block b hbl hnv).trans HM.out.block
    rw[HN.out]at h1
    exact h1
   ·rw[hn2]
    exact hvr'
  clear hK e0 e1 e2 e3 f0 f1 f2 f3 hcur
  try gi_wp2
  refine⟨⟨hkW.size,fun i o hi ho _=>(hkW.block i (heap_lt ho) (fun e=>by omega)).trans ho⟩,⟨⟨hkW.os,hkW.tape,hkW.output,hkW.size,fun i o ho hX _=>(hkW.block i (heap_lt ho) (fun e=>hX (.inl (by rw[e];exact hOg)))).trans ho⟩,fun T0 h0=>⟨_,⟨O',hT'⟩,HTX.out.order h0⟩⟩,⟨O',hT',HO.out⟩,HKW.out.trans hkW (fun i _ e=>by rw[e];exact hOg)⟩
 case done=>
  rintro D ys W hD rfl ⟨⟨O',hT,hO⟩,hKW⟩ hDf
  rw[upS_map T.order e _ (by omega)]at hT
  obtain⟨hok',gv',cv',ov',sv',hm⟩:=hT
  have hvl:(T.clear (T.order.drop e)).vars.length=T.vars.length:=clr_len _ _
  obtain⟨gs',cs2,cur',hsv',hle2,_,hgs',_⟩:=mx_some hm.starts (by show 0<T.starts.length;omega)
  have hle2:T.starts.length≤cs2:=hle2
  subst hsv'
  obtain⟨Ao,co,rfl,hco⟩:=mx_slice hm.order
  have t0:W.cell? ⟨w.heap.size,0,none⟩=some (.pointer (some ⟨b,0,none⟩)):=(hKW.cell (p:=⟨w.heap.size,0,none⟩) (by show w.heap.size<WR.heap.size;omega) (fun h=>by have:=HOW.out _ h;simp at this)).trans (mx_cell (j:=0) HCT.out)
  have t1:W.cell? ⟨b,1,none⟩=some (.slice Ao T.order.length co):=mx_cell (j:=1) hm.block
  have t2:W.cell? ⟨b,2,none⟩=some (.slice (some ⟨gs',0,none⟩) T.starts.length cs2):=mx_cell (j:=2) hm.block
  have hbl:=heap_lt hm.block
  have htl:=World.block_lt_of_cell? W _ t0
  have HM:=Lib.hid hm
  have HO:=Lib.hid hO
  have HKW:=Lib.hid hKW
  have HD:=Lib.hid hDf
  clear hm hO hKW hDf hok' hgs'
  have hcap:k+1≤cs2:=by omega
  have T0:=Lib.hid t0
  have T1:=Lib.hid t1
  have T2:=Lib.hid t2
  clear t0 t1 t2
  gi_wp2
  refine wpIn_wide.2 (wp_region_noPanic ?_)
  rcases Ao with _|⟨go,oo,so⟩
  ·have h0:T.order.length=0∧co=0:=by
    obtain⟨_,h1⟩:=HM.out.order
    rcases h1 with⟨h1,_⟩|⟨g',cap,cur,h1,_⟩
    ·simp only[Value.slice.injEq]at h1
     exact⟨h1.2.1,h1.2.2⟩
    ·cases h1
   obtain⟨h0,rfl⟩:=h0
   obtain rfl:e=0:=by omega
   rw[h0]at T1
   refine wp_region_sink_at (fun w'=>w'.cell? ⟨w.heap.size,0,none⟩=some (.pointer (some ⟨b,0,none⟩))∧w'.cell? ⟨b,2,none⟩=some (.slice (some ⟨gs',0,none⟩) T.starts.length cs2)) (by kernel_rfl) rfl (by kernel_rfl) ⟨T0.out,T2.out⟩ (fun hS=>?_)
   simp only[List.dropLast]
   have hbD:=mx_drew W
   obtain⟨wD,hwD⟩: ∃y,W.drew=y:=⟨_,rfl⟩
   rw[hwD]at hS hbD⊢
   clear hwD
   have t1:=(hbD.cell (p:=⟨b,1,none⟩) hbl).trans T1.out
   refine takeF 0 50 (fun wq hSw=>hSw.1) ?_
   refine takeF 1 51 (fun wq hSw=>hSw.1) ?_
   refine takeF 2 52 (fun wq hSw=>hSw.1) ?_
   refine takeE 3 53 ?_
   refine takeE 4 54 ?_
   refine takeE 6 56 ?_
   refine takeF 8 58 (fun wq hSw=>hSw.1) ?_
   refine takeE 9 59 ?_
   refine takeE 10 60 ?_
   refine takeF 11 61 (fun wq hSw=>hSw.2) ?_
   refine takeE 12 62 ?_
   refine takeE 13 63 ?_
   refine takeD 14 64 (v:=?_) rfl (by rfl) (by kernel_rfl) (by kernel_rfl) (by kernel_rfl) (fun _ _ _ h=>h) (Or.inl ⟨by rfl,?_⟩) (by assumption) ?_
   rotate_left
   ·intro wq hSw
    clear hSw
    go_simp
    rw[if_pos (by omega)]
   simp only[Act.put,List.setIfInBounds_toArray,List.set_cons_zero,List.set_cons_succ]
   refine ready1 5 (fun K hK=>?_)
   go_simp
   refine hK.out _ _ hS (fun _=>?_)
   clear hK
   refine takeE 7 57 ?_
   refine takeE 15 65 ?_
   refine takeE 16 66 ?_
   have hbk:=(hbD.block b hbl).trans HM.out.block
   have fp1:=mx_free (j:=1) hbk
   have hkD:=Kept.of_below (O:=fun g=>g=b) hbD
   have hbO:b<w.heap.size:=HOW.out _ (HO.out _ HM.out.inb)
   have HBK:=Lib.hid hbk
   have HKD:=Lib.hid hkD
   clear hbk hkD
   refine ready1 17 (fun K hK=>?_)
   go_simp
   have hkG:Kept (fun g=>g=b) wD (wD.setCell ⟨b,1,none⟩ (.slice none 0 0)):=(Kept.refl _ _).setCell _ _ rfl
   have hbG:=mx_set (j:=1) HBK.out (.slice none 0 0)
   obtain⟨wG,hwG⟩: ∃y,wD.setCell ⟨b,1,none⟩ (.slice none 0 0)=y:=⟨_,rfl⟩
   rw[hwG]at hkG hbG⊢
   have hSG:wG.cell? ⟨w.heap.size,0,none⟩=some (.pointer (some ⟨b,0,none⟩))∧wG.cell? ⟨b,2,none⟩=some (.slice (some ⟨gs',0,none⟩) T.starts.length cs2):=⟨(hkG.cell (p:=⟨w.heap.size,0,none⟩) (by have:=hbD.size;show w.heap.size<wD.heap.size;exact Nat.lt_of_lt_of_le htl this) (fun h=>by simp at h;omega)).trans hS.1,mx_cell (j:=2) hbG⟩
   refine hK.out _ _ hSG (fun _=>?_)
   clear hK hS t1 fp1
   have HKG:=Lib.hid (HKD.out.trans hkG (fun i _ h=>h))
   have HBG:=Lib.hid hbG
   clear hkG hbG hwG
   refine takeE 18 67 ?_
   refine takeE 19 68 ?_
   refine wpAnyH_done (by kernel_rfl) ?_ _
   refine lastPost_normal ?_
   have p2:=mx_cell (j:=2) HBG.out
   have fp2:=mx_free (j:=2) HBG.out
   refine wpOp_step rfl (fun K hK=>?_)
   go_simp
   refine hK _ _ ?_
   clear hK p2 fp2
   refine NoPanic.normal ?_
   have hkH:Kept (fun g=>g=b) wG (wG.setCell ⟨b,2,none⟩ (.slice (some ⟨gs',0,none⟩) (k+1) cs2)):=(Kept.refl _ _).setCell _ _ rfl
   have hbH:=mx_set (j:=2) HBG.out (.slice (some ⟨gs',0,none⟩) (k+1) cs2)
   obtain⟨wH,hwH⟩: ∃y,wG.setCell ⟨b,2,none⟩ (.slice (some ⟨gs',0,none⟩) (k+1) cs2)=y:=⟨_,rfl⟩
   rw[hwH]at hkH hbH⊢
   have HKH:=Lib.hid (HKG.out.trans hkH (fun i _ h=>h))
   have HBH:=Lib.hid hbH
   clear hkH hbH hwH hSG
   have hdf:=(HKH.out.block D (heap_lt HD.out) (fun h=>by omega)).trans HD.out
   have hvo:=(World.ownsRow_nil _ _ _ _:wH.ownsRow 0 32 1 (.slice none 0 0) 0 ((T.order.take 0).map (Value.int .i64)))
   have hbf:wH.heap[b]? =some (.cells #[.slice (some ⟨gv',0,none⟩) T.vars.length cv',.slice none 0 0,.slice (some ⟨gs',0,none⟩) (k+1) cs2,.bool true] 153 (0,0)):=by rw[←hvl];exact HBH.out
   gi_wp2
   refine⟨by simp,.inl ⟨_,_,rfl,run_takeDeferred hdf,?_⟩⟩
   refine⟨.int .i64 0,by simp[results,Tryz.results131,go_sem],rfl,?_⟩
   exact tr_backed HTR.out.1 hk hel HM.out HO.out HOW.out ((Kept.of_below HBR.out).trans HKW.out (fun _ _ h=>h)) HKH.out hbf hvo (fun g hg=>by cases hg) (by omega) hdf
  ·obtain⟨rfl,rfl⟩:oo=0∧so=none:=by
    obtain⟨_,h1⟩:=HM.out.order
    rcases h1 with⟨h1,_⟩|⟨g',cap,cur,h1,_⟩
    ·cases h1
    ·simp only[Value.slice.injEq,Option.some.injEq,Addr.mk.injEq]at h1
     exact⟨h1.1.2.1,h1.1.2.2⟩
   have hcoe:e≤co:=by have:T.order.length≤co:=hco;omega
   refine wp_region_sink_at (fun w'=>w'.cell? ⟨w.heap.size,0,none⟩=some (.pointer (some ⟨b,0,none⟩))∧w'.cell? ⟨b,2,none⟩=some (.slice (some ⟨gs',0,none⟩) T.starts.length cs2)) (by kernel_rfl) rfl (by kernel_rfl) ⟨T0.out,T2.out⟩ (fun hS=>?_)
   simp only[List.dropLast]
   have hbD:=mx_drew W
   obtain⟨wD,hwD⟩: ∃y,W.drew=y:=⟨_,rfl⟩
   rw[hwD]at hS hbD⊢
   clear hwD
   have t1:=(hbD.cell (p:=⟨b,1,none⟩) hbl).trans T1.out
   refine takeF 0 50 (fun wq hSw=>hSw.1) ?_
   refine takeF 1 51 (fun wq hSw=>hSw.1) ?_
   refine takeF 2 52 (fun wq hSw=>hSw.1) ?_
   refine takeE 3 53 ?_
   refine takeE 4 54 ?_
   refine takeE 6 56 ?_
   refine takeF 8 58 (fun wq hSw=>hSw.1) ?_
   refine takeE 9 59 ?_
   refine takeE 10 60 ?_
   refine takeF 11 61 (fun wq hSw=>hSw.2) ?_
   refine takeE 12 62 ?_
   refine takeE 13 63 ?_
   refine takeD 14 64 (v:=?_) rfl (by rfl) (by kernel_rfl) (by kernel_rfl) (by kernel_rfl) (fun _ _ _ h=>h) (Or.inl ⟨by rfl,?_⟩) (by assumption) ?_
   rotate_left
   ·intro wq hSw
    clear hSw
    go_simp
    rw[if_pos (by omega)]
   simp only[Act.put,List.setIfInBounds_toArray,List.set_cons_zero,List.set_cons_succ]
   refine ready1 5 (fun K hK=>?_)
   go_simp
   refine hK.out _ _ hS (fun _=>?_)
   clear hK
   refine takeE 7 57 ?_
   refine takeE 15 65 ?_
   refine takeE 16 66 ?_
   have hbk:=(hbD.block b hbl).trans HM.out.block
   have fp1:=mx_free (j:=1) hbk
   have hkD:=Kept.of_below (O:=fun g=>g=b) hbD
   have hbO:b<w.heap.size:=HOW.out _ (HO.out _ HM.out.inb)
   have HBK:=Lib.hid hbk
   have HKD:=Lib.hid hkD
   clear hbk hkD
   refine ready1 17 (fun K hK=>?_)
   go_simp
   have hkG:Kept (fun g=>g=b) wD (wD.setCell ⟨b,1,none⟩ (.slice (some ⟨go,0,none⟩) e co)):=(Kept.refl _ _).setCell _ _ rfl
   have hbG:=mx_set (j:=1) HBK.out (.slice (some ⟨go,0,none⟩) e co)
   obtain⟨wG,hwG⟩: ∃y,wD.setCell ⟨b,1,none⟩ (.slice (some ⟨go,0,none⟩) e co)=y:=⟨_,rfl⟩
   rw[hwG]at hkG hbG⊢
   have hSG:wG.cell? ⟨w.heap.size,0,none⟩=some (.pointer (some ⟨b,0,none⟩))∧wG.cell? ⟨b,2,none⟩=some (.slice (some ⟨gs',0,none⟩) T.starts.length cs2):=⟨(hkG.cell (p:=⟨w.heap.size,0,none⟩) (by have:=hbD.size;show w.heap.size<wD.heap.size;exact Nat.lt_of_lt_of_le htl this) (fun h=>by simp at h;omega)).trans hS.1,mx_cell (j:=2) hbG⟩
   refine hK.out _ _ hSG (fun _=>?_)
   clear hK hS t1 fp1
   have HKG:=Lib.hid (HKD.out.trans hkG (fun i _ h=>h))
   have HBG:=Lib.hid hbG
   clear hkG hbG hwG
   refine takeE 18 67 ?_
   refine takeE 19 68 ?_
   refine wpAnyH_done (by kernel_rfl) ?_ _
   refine lastPost_normal ?_
   have p2:=mx_cell (j:=2) HBG.out
   have fp2:=mx_free (j:=2) HBG.out
   refine wpOp_step rfl (fun K hK=>?_)
   go_simp
   refine hK _ _ ?_
   clear hK p2 fp2
   refine NoPanic.normal ?_
   have hkH:Kept (fun g=>g=b) wG (wG.setCell ⟨b,2,none⟩ (.slice (some ⟨gs',0,none⟩) (k+1) cs2)):=(Kept.refl _ _).setCell _ _ rfl
   have hbH:=mx_set (j:=2) HBG.out (.slice (some ⟨gs',0,none⟩) (k+1) cs2)
   obtain⟨wH,hwH⟩: ∃y,wG.setCell ⟨b,2,none⟩ (.slice (some ⟨gs',0,none⟩) (k+1) cs2)=y:=⟨_,rfl⟩
   rw[hwH]at hkH hbH⊢
   have HKH:=Lib.hid (HKG.out.trans hkH (fun i _ h=>h))
   have HBH:=Lib.hid hbH
   clear hkH hbH hwH hSG
   have hdf:=(HKH.out.block D (heap_lt HD.out) (fun h=>by omega)).trans HD.out
   have hvo:=(List.map_take▸own_take (own_kept HM.out.order HKH.out (fun g hg e=>by rw[e]at hg;exact mx_not HM.out.order HM.out.block (by decide) hg)) hel:wH.ownsRow 0 32 1 (.slice (some ⟨go,0,none⟩) e co) e ((T.order.take e).map (Value.int .i64)))
   have hbf:wH.heap[b]? =some (.cells #[.slice (some ⟨gv',0,none⟩) T.vars.length cv',.slice (some ⟨go,0,none⟩) e co,.slice (some ⟨gs',0,none⟩) (k+1) cs2,.bool true] 153 (0,0)):=by rw[←hvl];exact HBH.out
   gi_wp2
   refine⟨by simp,.inl ⟨_,_,rfl,run_takeDeferred hdf,?_⟩⟩
   refine⟨.int .i64 0,by simp[results,Tryz.results131,go_sem],rfl,?_⟩
   exact tr_backed HTR.out.1 hk hel HM.out HO.out HOW.out ((Kept.of_below HBR.out).trans HKW.out (fun _ _ h=>h)) HKH.out hbf hvo (fun g hg=>HM.out.orderb g hg) (by omega) hdf
 case stop=>
  rintro D c pre W hD _ h _
  exact h.elim
end Go.Proofs.YtoojmhjagipmdaaGreat
