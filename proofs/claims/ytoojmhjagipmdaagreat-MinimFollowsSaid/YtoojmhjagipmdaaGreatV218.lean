/- The watch: Remove, once, Back, New; arena.Has. Levels of literals, in worlds that only grow; how literals that are false are ordered. The stable sort of literals that are false. Plain: what a clause is, by the list of what was assigned; what Add tells. Plain: what a chain of hints gives: all of them serve, and all are needed. -/
import Derived.Test.YtoojmhjagipmdaaGreatV217
import Derived.Test.YtoojmhjagipmdaaGreatV212
import Derived.Deep.DeepMust
import Derived.Shelf.SlSortCmp.Insertion1
import Derived.Sort.LotD3
import Derived.Sort.LotA
import Derived.Test.YtoojmhjagipmdaaGreatV216
import Derived.Test.YtoojmhjagipmdaaGreatV213
namespace Go.Proofs.YtoojmhjagipmdaaGreat
open Go.RowKit Go.Maps Go.Shelf
theorem own_get {w:World} {base:Nat} {e:TypeId} {v:Value} {xs:List Int} {j:Nat} {x:Int} (h:w.ownsRow base e 1 v xs.length (xs.map (Value.int .i64))) (hj:xs[j]? =some x): ∃g c,v= .slice (some ⟨g,0,none⟩) xs.length c∧g<w.heap.size∧w.cell? ⟨g,j,none⟩=some (.int .i64 x):=by
 have hl:=(List.getElem?_eq_some_iff.1 hj).1
 obtain⟨g,c,cs,hv,_,_,hg,_⟩:=mx_some h (by omega)
 subst hv
 exact⟨g,c,rfl,hg,mx_at h (by rw[List.getElem?_map,hj];rfl)⟩
theorem WaMem.widen {O O':Nat→Prop} {w:World} {b ab tb kb ob:Nat} {S:Wst} {K:List (Int×KnM)} {F:List (Int×OfM)} {tg:Nat→Option WTag} (h:WaMem O w b ab tb S kb ob K F tg) (hO: ∀g,O g→O' g) (hl: ∀g,O' g→g<w.heap.size):WaMem O' w b ab tb S kb ob K F tg:=
 { h with own:=hl,inb:=hO _ h.inb,ink:=hO _ h.ink,ino:=hO _ h.ino,intg:=fun g t ht=>hO g (h.intg g t ht) }
theorem dropAll_snoc (id l:Int) (ls:List Int): ∀S:Wst,S.dropAll id (ls++ [l])=(S.dropAll id ls).drop l id:=by
 induction ls with
 | nil=>exact fun S=>rfl
 | cons y r ih=>exact fun S=>ih (S.drop y id)
theorem wpList_delK {w:World} {b:Nat} {m:List (Int×Value)} {ops:Array Oper} {rest:List Oper} {o:Oper} {a:Act} {Q:Exit→Act→World→Prop} (h:MapK w b m)
  (hg:o.guard=none) (mm x:Operand) (hop:o.op=Op.call { callee:=Callee.builtin Builtin.delete,args:= #[mm,x],argTypes:= #[154,3] }) (hm:a.eval mm= .map (some b)) (i:Int) (hx:a.eval x= .int .i64 i) (hi:(Lit.int .i64 i).wf=true)
  (hK: ∀w',MapK w' b (delA m i)→w.grownBy w' (some b)→wpList Tryz.prog ops Q rest (a.put o.dst (.tuple #[])) w'):wpList Tryz.prog ops Q (o::rest) a w:=
 wpList_delS h int_law Tryz.underlying3 Tryz.underlying154 hg mm x hop hm i hx hi hK
set_option maxRecDepth 100000 in
set_option maxHeartbeats 4000000 in
theorem wa_remove_some (b ab tb:Nat) (A:Arn) (T:Trl) (S:Wst) (id:Int) (w:World) (lab:Nat→Nat) (h:SysAt w lab b ab tb A T S) (hwf:(Lit.int .i64 id).wf=true) {k:Kn} (hk:S.kn id=some k):
  Calls Tryz.prog 135 #[.pointer (some ⟨b,0,none⟩),.int .i64 id] w fun e w'=>e= .returned (.int .i64 0)∧SysNext w w' lab b ab tb A T (S.remove id):=by
 have H:=Lib.hid h
 obtain⟨hb,kb,ob,K,F,tg,hm⟩:=h.wa
 have c2:w.cell? ⟨b,2,none⟩=some (.map (some kb)):=mx_cell (j:=2) hm.block
 have hlk:=hm.lookK hwf
 obtain⟨x,hx,rfl,hkx,hkv⟩:=hm.knAt hk
 rw[hkv]at hlk
 have d0:w.cell? ⟨x.g,0,none⟩=some x.bv:=mx_cell (j:=0) hkx.block
 obtain⟨Ab,cb,hbv,_⟩:=mx_slice hkx.by_
 have HBV:=Lib.hid hbv
 rw[hbv]at d0
 have HX:=Lib.hid hx
 have HM0:=Lib.hid (WaMNext.refl hm (Below.refl _ w))
 have HB:=Lib.hid hb
 have HRM:=Lib.hid (show S.remove id=(S.dropAll id x.k.by_).del id from by unfold Wst.remove;rw[hk])
 obtain⟨n,hn⟩: ∃n,x.k.by_.length=n:=⟨_,rfl⟩
 have hn2:n≤2:=by
  rcases (hb.kn hk).2.1 with e|⟨a,c,_,e,_⟩
  ·rw[←hn,e];simp
  ·rw[←hn,e];simp
 have HLI:=Lib.hid (fun y (hy:y∈x.k.by_)=>wf_lit ((hb.kn hk).2.2.2 y (Kn.by_lits (hb.kn hk).2.1 hy)))
 rw[hn]at d0 hbv
 have HN:=Lib.hid hn
 clear h hb hm hk hx hkx hkv hbv hn
 go_enter Tryz.func135,Tryz.ntmps135
 go_wp2_with fail
 go_loopw [24] (fun iv wq=> ∃j:Nat,j≤n∧iv= .int .i64 j∧Hid (WaMNext (fun g=>lab g=3) w wq b ab tb (S.dropAll id (x.k.by_.take j)) kb ob K)) (fun iv _=>n-(intOf iv).toNat)
 case atStart=>exact⟨0,Nat.zero_le _,rfl,HM0⟩
 case round=>
  obtain⟨j,hj,rfl,HMQ⟩:=hrel
  clear d0 c2 hlk
  by_cases hlt:j<n
  ·obtain⟨y,hy⟩:=getElem_of (l:=x.k.by_) (i:=j) (by rw[HN.out];exact hlt)
   obtain⟨⟨F1,tg1,hm1⟩,hk1⟩:=HMQ.out
   have hkx:=hm1.kn _ (getA_some HX.out)
   obtain⟨g,c,hv,hg,e0⟩:=own_get hkx.by_ hy
   have hv':=HBV.out.symm.trans hv
   simp only[Value.slice.injEq]at hv'
   obtain⟨rfl,_,rfl⟩:=hv'
   have HD:=Lib.hid (wa_drop_m b ab tb _ kb ob K F1 tg1 y id wr (dropAll_bnd id _ HB.out).1 hm1 (HLI.out y (List.mem_of_getElem? hy)))
   have HK1:=Lib.hid hk1
   have HTK:=Lib.hid (show S.dropAll id (x.k.by_.take (j+1))=(S.dropAll id (x.k.by_.take j)).drop y id from by rw[List.take_add_one,hy];exact dropAll_snoc _ _ _ _)
   clear hy hm1 hk1 hkx hv
   go_wp2_with fail
   refine HD.out.mono ?_
   rintro e w1 ⟨rfl,hn1⟩
   have HN1:=Lib.hid (WaMNext.trans HK1.out hn1)
   clear hn1 e0
   go_wp2_with fail
   go_roundw
   case rel=>exact⟨j+1,by omega,by go_num,by rw[HTK.out];exact HN1⟩
   case measure=>simp[intOf];omega
  ·obtain rfl:j=n:=by omega
   have hmq:=HMQ.out
   rw[List.take_of_length_le (by rw[HN.out];exact Nat.le_refl _)]at hmq
   obtain⟨⟨F1,tg1,hm1⟩,hk1⟩:=hmq
   have c2:wr.cell? ⟨b,2,none⟩=some (.map (some kb)):=mx_cell (j:=2) hm1.block
   have HM1:=Lib.hid hm1
   have HK1:=Lib.hid hk1
   clear hm1 hk1
   go_wp2_with (at_delete;go_must (refine wpList_delK HM1.out.kmap rfl _ _ rfl rfl id rfl hwf ?_);intro w2 hm2 hg2)
   have hd:=HM1.out.delKn (id:=id) ((Kept.grown hg2).mono (fun g _ e=>Option.some.inj e)) hm2
   have HW:=Lib.hid (show WaNext (fun g=>lab g=3) w w2 b ab tb (S.remove id)from by
    rw[HRM.out]
    refine⟨⟨(dropAll_bnd id _ HB.out).1.del id,kb,ob,_,_,_,hd.widen (fun g h=>h.imp_right (fun h=>⟨h.1,Nat.lt_of_lt_of_le h.2 hg2.size⟩)) (fun g h=>h.elim (fun h=>hd.own g (.inl h)) (fun h=>?_))⟩,(HK1.out.mono (fun _ _ h=>h.1)).trans (Kept.grown hg2) (fun g hg e=>?_)⟩
    ·exact h.2
    ·obtain rfl:=Option.some.inj e
     exact HM1.out.ink.elim (fun h=>h) (fun h=>by omega))
   clear hm2 hg2 hd c2
   go_wp2_with fail
   go_ret
   exact⟨rfl,H.out.wa_next HW.out⟩
theorem eachGo_snoc (x:Int) (c:List Int): ∀o:List Int,eachGo o (c++ [x])=if(eachGo o c).contains x=true then eachGo o c else eachGo o c++ [x]:=by
 induction c with
 | nil=>exact fun o=>rfl
 | cons y r ih=>exact fun o=>ih _
theorem eachL_snoc (x:Int) (c:List Int):eachL (c++ [x])=if(eachL c).contains x=true then eachL c else eachL c++ [x]:=eachGo_snoc x c []
set_option maxRecDepth 100000 in
set_option maxHeartbeats 4000000 in
theorem wa_once {O:Nat→Prop} (u:Value) (c:List Int) (w:World) (h:IntsIn O w u c) (hl:c.length≤1000000):
  Calls Tryz.prog 106 #[u] w fun e w'=> ∃v,e= .returned v∧w'.ownsRow w.heap.size 32 1 v (eachL c).length ((eachL c).map (Value.int .i64))∧Below w.heap.size w w':=by
 obtain⟨i0,hi,hz0,hz1,hz2⟩:=info_parts cinfo_lit
 have HU:=Lib.hid h
 obtain⟨A,k,rfl,_⟩:=h
 obtain⟨n,hn⟩: ∃n,c.length=n:=⟨_,rfl⟩
 rw[hn]at HU hl⊢
 have HN:=Lib.hid hn
 clear hn
 go_enter Tryz.func106,Tryz.ntmps106
 go_wp2_with fail
 go_loopw [3,8] (fun ov iv wq=> ∃j:Nat,j≤n∧iv= .int .i64 j∧Hid (wq.ownsRow w.heap.size 32 1 ov (eachL (c.take j)).length ((eachL (c.take j)).map (Value.int .i64)))∧Hid (Below w.heap.size w wq)) (fun _ iv _=>n-(intOf iv).toNat)
 case atStart=>exact⟨0,Nat.zero_le _,rfl,Lib.hid (World.ownsRow_nil _ _ _ _),Lib.hid (Below.refl _ _)⟩
 case round=>
  obtain⟨j,hj,rfl,HO,HBQ⟩:=hrel
  by_cases hlt:j<n
  ·obtain⟨y,hy⟩:=getElem_of (l:=c) (i:=j) (by rw[HN.out];exact hlt)
   obtain⟨g,o,rfl,hg,_,e0⟩: ∃g o,A=some ⟨g,o,none⟩∧g<w.heap.size∧O g∧w.cell? ⟨g,o+j,none⟩=some (.int .i64 y):=by
    obtain⟨A',c',hv,_,_,hx⟩:=HU.out
    simp only[Value.slice.injEq]at hv
    obtain⟨rfl,_,rfl⟩:=hv
    exact hx j y hy
   have e1:=(HBQ.out.cell (p:=⟨g,o+j,none⟩) hg).trans e0
   have HTK:=Lib.hid (show c.take (j+1)=c.take j++ [y]from by rw[List.take_add_one,hy];rfl)
   have hel:=eachL_len (c.take j)
   rw[List.length_take]at hel
   obtain⟨xs,hxs⟩: ∃z,eachL (c.take j)=z:=⟨_,rfl⟩
   rw[hxs]at HO hel
   have hsn:eachL (c.take (j+1))=if xs.contains y=true then xs else xs++ [y]:=by rw[HTK.out,eachL_snoc,hxs]
   obtain⟨Ao,co,rfl,_⟩:=mx_slice HO.out
   have HCT:=Lib.hid (contains_l _ xs y wr (IntsIn.of_own HO.out) (by omega))
   have hz:=HBQ.out.size
   obtain⟨q,hq⟩: ∃q,xs.contains y=q:=⟨_,rfl⟩
   rw[hq]at hsn HCT
   clear hy e0 hxs hq
   cases q with
   | true=>
    have HSN:=Lib.hid (show eachL (c.take (j+1))=xs from hsn)
    clear hsn
    go_wp2_with fail
    refine HCT.out.mono ?_
    rintro e w1 ⟨rfl,rfl⟩
    go_wp2_with fail
    go_roundw
    case rel=>
     refine⟨j+1,by omega,by go_num,?_,HBQ⟩
     rw[HSN.out]
     exact HO
    case measure=>simp[intOf];omega
   | false=>
    have HSN:=Lib.hid (show eachL (c.take (j+1))=xs++ [y]from hsn)
    clear hsn
    go_wp2_with fail
    refine HCT.out.mono ?_
    rintro e w1 ⟨rfl,rfl⟩
    go_wp2_with (at_builtin;refine wpList_append_own_at _ rfl _ _ 33 rfl w.heap.size 32 i0 (.int .i64 0) 1 8 Tryz.underlying33 hi hz0 hz1 hz2 rfl (by decide) _ xs.length _ rfl (own_below HO.out (mx_al wr _)) ⟨wr.heap.size,0,none⟩ 1 1 [.int .i64 y] rfl rfl (cell_one_new' _ _ _) (by simp[Value.oneCell']) (by unfold maxLen;omega) (by omega) (by simp;omega) ?_;intro v' w2' hown hgrow hnl2 hat)
    have HO2':=Lib.hid hown
    have HB2':=Lib.hid (HBQ.out.trans (((mx_al wr (.cells #[.int .i64 y] 32)).mono hz).grown hgrow (by simp;omega) (fun g hg=>(own_lt HO.out g hg).1)))
    clear hown hgrow hnl2 hat
    go_wp2
    go_roundw
    case rel=>
     refine⟨j+1,by omega,by go_num,?_,HB2'⟩
     rw[HSN.out,List.length_append,List.map_append]
     exact HO2'
    case measure=>simp[intOf];omega
  ·obtain rfl:j=n:=by omega
   have ho:=HO.out
   rw[List.take_of_length_le (by rw[HN.out];exact Nat.le_refl _)]at ho
   obtain⟨Ao,co,rfl,_⟩:=mx_slice ho
   have HO2:=Lib.hid ho
   clear ho
   go_wp2_with fail
   go_ret
   exact⟨_,rfl,HO2.out,HBQ.out⟩
theorem ar_has {O:Nat→Prop} (b:Nat) (A:Arn) (id:Int) (w:World) (h:ArAt O w b A):
  Calls Tryz.prog 134 #[.pointer (some ⟨b,0,none⟩),.int .i64 id] w fun e w'=>e= .returned (.bool (A.find id).isSome)∧Below w.heap.size w w':=by
 have HIS:=Lib.hid (ar_is b A w h)
 have hf:=ar_find b A id w h
 cases hp:A.find id with
 | none=>
  rw[hp]at hf
  have HF:=Lib.hid hf
  clear hf hp h
  go_enter Tryz.func134,Tryz.ntmps134
  go_wp2_with fail
  refine HIS.out.mono ?_
  rintro e w1 ⟨rfl,rfl⟩
  go_wp2_with fail
  refine HF.out.mono ?_
  rintro e w2 ⟨rfl,hb⟩
  have HB:=Lib.hid hb
  clear hb
  go_wp2_with fail
  go_ret
  exact⟨rfl,HB.out⟩
 | some p=>
  rw[hp]at hf
  have HF:=Lib.hid hf
  clear hf hp h
  go_enter Tryz.func134,Tryz.ntmps134
  go_wp2_with fail
  refine HIS.out.mono ?_
  rintro e w1 ⟨rfl,rfl⟩
  go_wp2_with fail
  refine HF.out.mono ?_
  rintro e w2 ⟨rfl,hb⟩
  have HB:=Lib.hid hb
  have hq:decide ((0:Int)≤(p:Int))=true:=by simp
  clear hb
  simp only[findInt]
  go_wp2_with fail
  go_ret
  exact⟨rfl,HB.out⟩
end Go.Proofs.YtoojmhjagipmdaaGreat
namespace Go.Proofs.YtoojmhjagipmdaaGreat
open Go.RowKit Go.Maps Go.Shelf Go.Sort Go.Lib
def Grw (w w':World):Prop:= ∃(q:Nat) (os:Array Obj),w'=grow (w.drewN q) os
theorem Grw.refl (w:World):Grw w w:=⟨0,#[],by rw[grow_empty];rfl⟩
theorem Grw.drewN {w w':World} (h:Grw w w') (n:Nat):Grw w (w'.drewN n):=by
 obtain⟨q,os,rfl⟩:=h
 exact⟨q+n,os,by rw[←World.drewN_drewN];rfl⟩
theorem Grw.drew {w w':World} (h:Grw w w'):Grw w w'.drew:=h.drewN 1
theorem Grw.alloc {w w':World} (h:Grw w w') (o:Obj):Grw w (w'.alloc o):=by
 obtain⟨q,os,rfl⟩:=h
 exact⟨q,os++ #[o],by rw[alloc_eq_grow,grow_grow]⟩
theorem Grw.setCell {w w':World} (h:Grw w w') {g:Nat} (hg:w.heap.size≤g) (o:Nat) (v:Value):Grw w (w'.setCell ⟨g,o,none⟩ v):=by
 obtain⟨q,os,rfl⟩:=h
 exact⟨q,_,by rw[setCell_eq,mapBlock_grow_new _ _ _ _ (show(w.drewN q).heap.size≤g from hg)]⟩
theorem Grw.trans {a b c:World} (h:Grw a b) (k:Grw b c):Grw a c:=by
 obtain⟨q,os,rfl⟩:=h
 obtain⟨q',os',rfl⟩:=k
 refine⟨q+q',os++os',?_⟩
 rw[←World.drewN_drewN]
 show grow (grow ((a.drewN q).drewN q') os) os'=_
 rw[grow_grow]
theorem Grw.size {w w':World} (h:Grw w w'):w.heap.size≤w'.heap.size:=by
 obtain⟨q,os,rfl⟩:=h
 rw[Sort.size_grow]
 show w.heap.size≤w.heap.size+_
 omega
theorem Grw.below {w w':World} (h:Grw w w'):Below w.heap.size w w':=by
 obtain⟨q,os,rfl⟩:=h
 refine⟨rfl,rfl,rfl,Grw.size ⟨q,os,rfl⟩,fun k hk=>?_⟩
 show(w.heap++os)[k]? =_
 rw[Array.getElem?_append_left hk]
set_option maxHeartbeats 1000000 in
theorem tr_why_g {O:Nat→Prop} (b:Nat) (T:Trl) (v:Int) (w:World) (h:TrAt O w b T):
  Calls Tryz.prog 57 #[.pointer (some ⟨b,0,none⟩),.int .i64 v] w fun e w'=>e= .returned (whyVal (T.why v))∧Grw w w':=by
 obtain⟨wa,hwa⟩: ∃x,w.alloc (.cells #[.int .i64 0,.int .i64 0,.int .i64 0] 103)=x:=⟨_,rfl⟩
 have hba:Below w.heap.size w wa:=by rw[←hwa];exact mx_al _ _
 have hga:Grw w wa:=by rw[←hwa];exact(Grw.refl w).alloc _
 have hbn:wa.heap[w.heap.size]? =some (.cells #[.int .i64 0,.int .i64 0,.int .i64 0] 103 (0,0)):=by rw[←hwa];exact World.alloc_heap_new _ _
 have h:=h.below hba
 obtain⟨hk,gv,cv,ov,sv,h⟩:=h
 have hst:=tr_state b T gv cv ov sv v wa hk h
 have e0:wa.cell? ⟨w.heap.size,0,none⟩=some (.int .i64 0):=mx_cell (j:=0) hbn
 have e1:wa.cell? ⟨w.heap.size,1,none⟩=some (.int .i64 0):=mx_cell (j:=1) hbn
 have e2:wa.cell? ⟨w.heap.size,2,none⟩=some (.int .i64 0):=mx_cell (j:=2) hbn
 have f0:=mx_free (j:=0) hbn
 have f1:=mx_free (j:=1) hbn
 have f2:=mx_free (j:=2) hbn
 have HWA:=Lib.hid hwa
 have HGA:=Lib.hid hga
 clear hwa hba hbn hga
 unfold Trl.why
 rcases hat:T.at v with _|s
 ·rw[hat,stateVal_none]at hst
  have HST:=Lib.hid hst
  clear hst hat h hk
  go_enter Tryz.func57,Tryz.ntmps57
  go_wp2_with fail
  rw[HWA.out]
  refine HST.out.mono ?_
  rintro e w' ⟨rfl,rfl⟩
  go_wp2_with fail
  refine bodyPost_ret (v:=.tuple #[.agg #[.int .i64 0,.int .i64 0,.int .i64 0],.bool false]) (by simp[results,Tryz.results57,go_sem,e0,e1,e2]) rfl ⟨rfl,((HGA.out.setCell (Nat.le_refl _) _ _).setCell (Nat.le_refl _) _ _).setCell (Nat.le_refl _) _ _⟩
 ·rw[hat,stateVal_some]at hst
  have hget:=Trl.at_get hat
  obtain⟨c0,c1,c2,c3⟩:=h.var hget
  obtain⟨n,hn⟩: ∃n,v.toNat=n:=⟨_,rfl⟩
  rw[hn]at hst c0 c1 c2 c3
  have HST:=Lib.hid hst
  clear hst hat hget h hk hn
  by_cases hz:s.value=0
  ·have q0:(s.value==0)=true:=by simpa using hz
   have HZ:=Lib.hid hz
   simp only[hz,if_true]
   clear hz
   go_enter Tryz.func57,Tryz.ntmps57
   go_wp2_with fail
   rw[HWA.out]
   refine HST.out.mono ?_
   rintro e w' ⟨rfl,rfl⟩
   go_wp2_with fail
   refine bodyPost_ret (v:=.tuple #[.agg #[.int .i64 0,.int .i64 0,.int .i64 0],.bool false]) (by simp[results,Tryz.results57,go_sem,e0,e1,e2]) rfl ⟨rfl,((HGA.out.setCell (Nat.le_refl _) _ _).setCell (Nat.le_refl _) _ _).setCell (Nat.le_refl _) _ _⟩
  ·have q0:(s.value==0)=false:=by simpa using hz
   simp only[hz,if_false]
   have HZ:=Lib.hid hz
   clear hz
   go_enter Tryz.func57,Tryz.ntmps57
   go_wp2_with fail
   rw[HWA.out]
   refine HST.out.mono ?_
   rintro e w' ⟨rfl,rfl⟩
   go_wp2_with fail
   refine bodyPost_ret (v:=.tuple #[.agg #[.int .i64 s.level,.int .i64 s.reason,.int .i64 s.place],.bool true]) (by simp[results,Tryz.results57,go_sem,e0,e1,e2]) rfl ⟨rfl,((HGA.out.setCell (Nat.le_refl _) _ _).setCell (Nat.le_refl _) _ _).setCell (Nat.le_refl _) _ _⟩
theorem tr_level_g {O:Nat→Prop} (b:Nat) (T:Trl) (v:Int) (w:World) (h:TrAt O w b T):
  Calls Tryz.prog 89 #[.pointer (some ⟨b,0,none⟩),.int .i64 v] w fun e w'=>e= .returned (.tuple #[.int .i64 (T.level v),.bool (T.why v).isSome])∧Grw w w':=by
 have hc:=tr_why_g b T v w h
 unfold Trl.level
 rcases hw:T.why v with _|s
 ·rw[hw,show whyVal none= .tuple #[.agg #[.int .i64 0,.int .i64 0,.int .i64 0],.bool false]from rfl]at hc
  have HC:=Lib.hid hc
  clear hc hw
  go_enter Tryz.func89,Tryz.ntmps89
  go_wp2_with fail
  refine HC.out.mono ?_
  rintro e w' ⟨rfl,hb'⟩
  have HB':=Lib.hid hb'
  clear hb'
  go_wp2_with fail
  go_ret2
  exact⟨rfl,HB'.out.alloc _⟩
 ·rw[hw,show whyVal (some s)= .tuple #[.agg #[.int .i64 s.level,.int .i64 s.reason,.int .i64 s.place],.bool true]from rfl]at hc
  have HC:=Lib.hid hc
  clear hc hw
  go_enter Tryz.func89,Tryz.ntmps89
  go_wp2_with fail
  refine HC.out.mono ?_
  rintro e w' ⟨rfl,hb'⟩
  have HB':=Lib.hid hb'
  clear hb'
  go_wp2_with fail
  go_ret2
  exact⟨rfl,HB'.out.alloc _⟩
theorem ord_nan (x:Int) (w:World):Calls Tryz.prog 155 #[.int .i64 x] w fun e w'=>e= .returned (.bool false)∧w=w':=by
 have hx:(x != x)=false:=by simp
 go_enter Tryz.func155,Tryz.ntmps155
 go_wp2_with fail
 go_ret
 exact⟨rfl,rfl⟩
theorem ord_int (x y:Int) (w:World):Calls Tryz.prog 121 #[.int .i64 x,.int .i64 y] w fun e w'=>e= .returned (.int .i64 (ordI x y))∧w=w':=by
 have HX:=Lib.hid (ord_nan x w)
 have HY:=Lib.hid (ord_nan y w)
 unfold ordI
 by_cases h1:x<y
 ·have q1:decide (x<y)=true:=by simpa using h1
  rw[if_pos h1]
  go_enter Tryz.func121,Tryz.ntmps121
  go_wp2_with fail
  refine HX.out.mono ?_
  rintro e w' ⟨rfl,rfl⟩
  go_wp2_with fail
  refine HY.out.mono ?_
  rintro e w' ⟨rfl,rfl⟩
  go_wp2_with fail
  go_ret
  exact⟨rfl,rfl⟩
 ·have q1:decide (x<y)=false:=by simpa using h1
  rw[if_neg h1]
  by_cases h2:y<x
  ·have q2:decide (y<x)=true:=by simpa using h2
   rw[if_pos h2]
   go_enter Tryz.func121,Tryz.ntmps121
   go_wp2_with fail
   refine HX.out.mono ?_
   rintro e w' ⟨rfl,rfl⟩
   go_wp2_with fail
   refine HY.out.mono ?_
   rintro e w' ⟨rfl,rfl⟩
   go_wp2_with fail
   go_ret
   exact⟨rfl,rfl⟩
  ·have q2:decide (y<x)=false:=by simpa using h2
   rw[if_neg h2]
   go_enter Tryz.func121,Tryz.ntmps121
   go_wp2_with fail
   refine HX.out.mono ?_
   rintro e w' ⟨rfl,rfl⟩
   go_wp2_with fail
   refine HY.out.mono ?_
   rintro e w' ⟨rfl,rfl⟩
   go_wp2_with fail
   go_ret
   exact⟨rfl,rfl⟩
set_option maxRecDepth 100000 in
set_option maxHeartbeats 2000000 in
theorem wa_level {O:Nat→Prop} (b tb:Nat) (T:Trl) (l:Int) (w:World) (h:TrAt O w tb T) (c1:w.cell? ⟨b,1,none⟩=some (.pointer (some ⟨tb,0,none⟩))):
  Calls Tryz.prog 147 #[.pointer (some ⟨b,0,none⟩),.int .i64 l] w fun e w'=>e= .returned (.int .i64 (T.level (litV l:Nat)))∧Grw w w':=by
 have hlt:b<w.heap.size:=World.block_lt_of_cell? w _ c1
 have HL:=Lib.hid (tr_level_g tb T (litV l:Nat) w.drew (h.below (mx_drew w)))
 have HV:=Lib.hid (lit_var l w.drew)
 obtain⟨v,hv⟩: ∃v:Int,((litV l:Nat):Int)=v:=⟨_,rfl⟩
 rw[hv]at HL HV⊢
 obtain⟨q,hq⟩: ∃q,(T.why v).isSome=q:=⟨_,rfl⟩
 obtain⟨y,hy⟩: ∃y,T.level v=y:=⟨_,rfl⟩
 rw[hq,hy]at HL
 rw[hy]
 have HC:=Lib.hid c1
 clear h hv hq hy c1
 go_enter Tryz.func147,Tryz.ntmps147
 go_upto_region 1 with fail
 refine wp_region_held_drew (S:=fun w'=>Below w.heap.size w w') (by kernel_rfl) (mx_drew w) (fun hS=>?_)
 refine takeE 0 8 ?_
 refine takeE 1 9 ?_
 refine takeE 2 10 ?_
 refine takeF 3 11 (fun wq hSw=>(hSw.cell (p:=⟨b,1,none⟩) hlt).trans HC.out) ?_
 refine takeE 4 12 ?_
 refine ready1 5 (fun K hK=>?_)
 go_simp
 refine HV.out.mono ?_
 rintro e w' ⟨rfl,rfl⟩
 refine hK.out _ _ hS (fun _=>?_)
 clear hK
 refine ready1 6 (fun K hK=>?_)
 go_simp
 refine HL.out.mono ?_
 rintro e w1 ⟨rfl,hg⟩
 refine hK.out _ _ (hS.trans (hg.below.mono hS.size)) (fun _=>?_)
 clear hK hS
 have HG:=Lib.hid ((Grw.refl w).drew.trans hg)
 have hS:Below w.heap.size w w1:=HG.out.below
 clear hg
 refine takeE 7 7 ?_
 refine takeE 8 15 ?_
 refine takeE 9 16 ?_
 refine takeE 10 5 ?_
 refine takeE 11 6 ?_
 refine wpAnyH_done (by kernel_rfl) ?_ _
 clear hS
 go_wp2_with fail
 go_ret
 exact⟨rfl,HG.out⟩
end Go.Proofs.YtoojmhjagipmdaaGreat
namespace Go.Proofs.YtoojmhjagipmdaaGreat
open Go.RowKit Go.Maps Go.Shelf Go.Sort Go.Lib
theorem lvOrd_lt (T:Trl) (a b:Int):ltOf T.lvOrd a b=decide (T.level (litV b:Nat)<T.level (litV a:Nat)):=by
 unfold ltOf Trl.lvOrd ordI
 split
 ·rename_i h
  simp[h]
 ·rename_i h
  split
  ·simp[h]
  ·simp[h]
theorem lvOrd_swo (T:Trl):SWO (ltOf T.lvOrd) where
 irrefl:=fun a=>by rw[lvOrd_lt];simp
 trans:=fun a b c h1 h2=>by
  rw[lvOrd_lt,decide_eq_true_eq]at *
  omega
 ntrans:=fun a b c h1 h2=>by
  rw[lvOrd_lt,decide_eq_false_iff_not]at *
  omega
theorem stab_permIn (T:Trl) (xs:List Int):PermIn 0 xs.toArray.size xs.toArray (Sort.insertionSort (ltOf T.lvOrd) xs.toArray 0 xs.length):=by
 have:=(insertionSort_holds (lvOrd_swo T) xs.toArray 0 xs.toArray.size (Nat.zero_le _) (Nat.le_refl _)).1
 simpa using this
theorem stab_length (T:Trl) (xs:List Int):(T.stab xs).length=xs.length:=by
 have:=(stab_permIn T xs).1
 unfold Trl.stab
 rw[Array.length_toList,this]
 simp
theorem stab_perm (T:Trl) (xs:List Int):(T.stab xs).Perm xs:=by
 obtain⟨h1,_,h2⟩:=stab_permIn T xs
 rw[Array.extract_eq_self_of_le (by rw[h1];exact Nat.le_refl _),Array.extract_eq_self_of_le (Nat.le_refl _)]at h2
 exact h2
theorem stab_mem {T:Trl} {xs:List Int} {x:Int}:x∈T.stab xs↔x∈xs:=(stab_perm T xs).mem_iff
set_option maxRecDepth 100000 in
set_option maxHeartbeats 2000000 in
theorem wa_cmp {O:Nat→Prop} (b tb Bw:Nat) (T:Trl) (x y:Int) (w:World) (hT:TrAt O w tb T) (c0:w.cell? ⟨Bw,0,none⟩=some (.pointer (some ⟨b,0,none⟩))) (c1:w.cell? ⟨b,1,none⟩=some (.pointer (some ⟨tb,0,none⟩))):
  Calls Tryz.prog 146 #[.int .i64 x,.int .i64 y,.pointer (some ⟨Bw,0,none⟩)] w fun e w'=>e= .returned (.int .i64 (T.lvOrd x y))∧Grw w w':=by
 have hl0:Bw<w.heap.size:=World.block_lt_of_cell? w _ c0
 have hl1:b<w.heap.size:=World.block_lt_of_cell? w _ c1
 have HX:=Lib.hid (fun(W:World) (h:Below w.heap.size w W)=>wa_level b tb T x W (hT.below h) ((h.cell (p:=⟨b,1,none⟩) hl1).trans c1))
 have HY:=Lib.hid (fun(W:World) (h:Below w.heap.size w W)=>wa_level b tb T y W (hT.below h) ((h.cell (p:=⟨b,1,none⟩) hl1).trans c1))
 unfold Trl.lvOrd
 obtain⟨p,hp⟩: ∃p,T.level (litV x:Nat)=p:=⟨_,rfl⟩
 obtain⟨q,hq⟩: ∃q,T.level (litV y:Nat)=q:=⟨_,rfl⟩
 rw[hp]at HX⊢
 rw[hq]at HY⊢
 have HC:=Lib.hid c0
 clear hT hp hq c0 c1
 go_enter Tryz.func146,Tryz.ntmps146
 go_upto_region 1 with fail
 refine wp_region_held_drew (S:=fun w'=>Below w.heap.size w w') (by kernel_rfl) (mx_drew w) (fun hS=>?_)
 refine takeF 0 6 (fun wq hSw=>(hSw.cell (p:=⟨Bw,0,none⟩) hl0).trans HC.out) ?_
 refine takeE 1 7 ?_
 refine takeF 3 9 (fun wq hSw=>(hSw.cell (p:=⟨Bw,0,none⟩) hl0).trans HC.out) ?_
 refine takeE 4 10 ?_
 refine ready1 2 (fun K hK=>?_)
 go_simp
 refine(HY.out _ hS).mono ?_
 rintro e w1 ⟨rfl,hg⟩
 refine hK.out _ _ (hS.trans (hg.below.mono hS.size)) (fun _=>?_)
 clear hK hS
 have HG:=Lib.hid ((Grw.refl w).drew.trans hg)
 have hS:Below w.heap.size w w1:=HG.out.below
 clear hg
 refine ready1 5 (fun K hK=>?_)
 go_simp
 refine(HX.out _ hS).mono ?_
 rintro e w2 ⟨rfl,hg⟩
 refine hK.out _ _ (hS.trans (hg.below.mono hS.size)) (fun _=>?_)
 clear hK hS
 have HG2:=Lib.hid (HG.out.trans hg)
 have hS:Below w.heap.size w w2:=HG2.out.below
 clear hg
 refine ready1 6 (fun K hK=>?_)
 go_simp
 refine(ord_int q p w2).mono ?_
 rintro e w' ⟨rfl,rfl⟩
 refine hK.out _ _ hS (fun _=>?_)
 clear hK
 refine takeE 7 5 ?_
 refine wpAnyH_done (by kernel_rfl) ?_ _
 clear hS
 go_wp2_with fail
 go_ret
 exact⟨rfl,HG2.out⟩
theorem wa_cmp_lays {O:Nat→Prop} (b tb Bw:Nat) (T:Trl) (w:World) (hT:TrAt O w tb T) (c0:w.cell? ⟨Bw,0,none⟩=some (.pointer (some ⟨b,0,none⟩))) (c1:w.cell? ⟨b,1,none⟩=some (.pointer (some ⟨tb,0,none⟩))) (g size:Nat) (hg: ¬O g∧Bw≠g∧b≠g):
  CmpLays1 Tryz.prog 146 #[.pointer (some ⟨Bw,0,none⟩)] (Value.int .i64) T.lvOrd g 0 size w:=by
 intro m os dk _ x y
 have hk:Kept (fun k=>some g=some k) w (sortWorld (Value.int .i64) w g 0 m dk os):=st_kept dk
 have hl0:Bw<w.heap.size:=World.block_lt_of_cell? w _ c0
 have hl1:b<w.heap.size:=World.block_lt_of_cell? w _ c1
 refine(wa_cmp b tb Bw T x y (sortWorld (Value.int .i64) w g 0 m dk os) (hT.kept hk (fun k hk e=>hg.1 ((Option.some.inj e).symm▸hk))) ((hk.cell (p:=⟨Bw,0,none⟩) hl0 (fun e=>hg.2.1 (Option.some.inj e).symm)).trans c0) ((hk.cell (p:=⟨b,1,none⟩) hl1 (fun e=>hg.2.2 (Option.some.inj e).symm)).trans c1)).mono ?_
 rintro e w' ⟨rfl,q,os',rfl⟩
 exact⟨rfl,q,os',rfl⟩
set_option maxRecDepth 100000 in
set_option maxHeartbeats 2000000 in
theorem wa_ins {O:Nat→Prop} {base:Nat} (b tb Bw:Nat) (T:Trl) (v:Value) (xs:List Int) (w:World) (hT:TrAt O w tb T) (c0:w.cell? ⟨Bw,0,none⟩=some (.pointer (some ⟨b,0,none⟩))) (c1:w.cell? ⟨b,1,none⟩=some (.pointer (some ⟨tb,0,none⟩)))
  (h:w.ownsRow base 32 1 v xs.length (xs.map (Value.int .i64))) (hv: ∀g,v.ownBlock=some g→¬O g∧Bw≠g∧b≠g) (hl:xs.length<1000000):
  Calls Tryz.prog 193 #[v,.int .i64 0,.int .i64 (xs.length:Nat),.func (.func 146) #[] #[.pointer (some ⟨Bw,0,none⟩)]] w fun e w'=>e= .returned (.tuple #[])∧w'.ownsRow base 32 1 v (T.stab xs).length ((T.stab xs).map (Value.int .i64))∧Kept (fun g=>v.ownBlock=some g) w w':=by
 rcases h.2 with⟨rfl,h0⟩|⟨g,cap,cur,rfl,hb,hg,h1,h2,h3,h4⟩
 ·obtain rfl:xs= []:=List.eq_nil_of_length_eq_zero h0
  have hs:T.stab []= []:=List.eq_nil_of_length_eq_zero (by rw[stab_length];rfl)
  rw[hs]
  have HO:=Lib.hid h
  clear h hv hT c0 c1 hl h0 hs
  show Calls Tryz.prog _ #[.slice none 0 0,.int .i64 0,.int .i64 0,_] w _
  go_enter Tryz.func193,Tryz.ntmps193
  go_wp2_with fail
  go_loopw [8] (fun iv wq=>iv= .int .i64 1∧wq=w) (fun _ _=>0)
  case atStart=>exact⟨rfl,rfl⟩
  case round=>
   obtain⟨rfl,rfl⟩:=hrel
   go_wp2_with fail
   go_end0
   exact⟨rfl,HO.out,Kept.refl _ _⟩
 ·have eg: ∀args w,(callFunc 146 args).run Tryz.prog w= .ok (.enter 146 args) w:=enters_of Tryz.func146 (by kernel_rfl) rfl
  have hH:Holds (Value.int .i64) w g 0 xs.toArray:=st_holds hg (by simpa using h4)
  have H:=Any.insertionSortCmpFunc_s Tryz.insLit (Value.int .i64) T.lvOrd 146 #[.pointer (some ⟨Bw,0,none⟩)] g 0 cap 0 xs.length xs.toArray xs.toArray w w eg (wa_cmp_lays b tb Bw T w hT c0 c1 g _ (hv g rfl)) ⟨fun _=>rfl,hH,heap_lt hg⟩ rfl (SW.start hH) (Nat.zero_le _) (by simp) (by simp;omega)
  change Calls Tryz.prog 193 _ _ _ at H
  rw[List.size_toArray]at H
  refine H.mono ?_
  rintro e w' ⟨rfl,n,os,rfl⟩
  refine⟨rfl,?_,st_kept _⟩
  have hsl:=stab_length T xs
  have e1:Sort.insertionSort (ltOf T.lvOrd) xs.toArray 0 xs.length=(T.stab xs).toArray:=by unfold Trl.stab;simp
  rw[e1,hsl]
  refine⟨by simp[hsl],.inr ⟨g,cap,_,rfl,hb,st_heap _ hg,h1,h2,by simp[putCells,h3],?_⟩⟩
  have e2:xs.length*1=(T.stab xs).length:=by rw[hsl,Nat.mul_one]
  rw[e2]
  exact st_take cur (T.stab xs) (by rw[hsl];omega)
set_option maxRecDepth 100000 in
set_option maxHeartbeats 2000000 in
theorem wa_stable {O:Nat→Prop} {base:Nat} (b tb Bw:Nat) (T:Trl) (v:Value) (xs:List Int) (w:World) (hT:TrAt O w tb T) (c0:w.cell? ⟨Bw,0,none⟩=some (.pointer (some ⟨b,0,none⟩))) (c1:w.cell? ⟨b,1,none⟩=some (.pointer (some ⟨tb,0,none⟩)))
  (h:w.ownsRow base 32 1 v xs.length (xs.map (Value.int .i64))) (hv: ∀g,v.ownBlock=some g→¬O g∧Bw≠g∧b≠g) (hl:xs.length<20):
  Calls Tryz.prog 145 #[v,.func (.func 146) #[] #[.pointer (some ⟨Bw,0,none⟩)]] w fun e w'=>e= .returned (.tuple #[])∧w'.ownsRow base 32 1 v (T.stab xs).length ((T.stab xs).map (Value.int .i64))∧Kept (fun g=>v.ownBlock=some g) w w':=by
 have HI:=Lib.hid (wa_ins b tb Bw T v xs w hT c0 c1 h hv (by omega))
 obtain⟨A,c,rfl,_⟩:=mx_slice h
 obtain⟨n,hn⟩: ∃n,xs.length=n:=⟨_,rfl⟩
 rw[hn]at HI hl⊢
 have hq1:decide ((20:Int)≤(n:Int))=false:=by simp;omega
 have hq2:decide ((20:Int)<(n:Int))=false:=by simp;omega
 have HS:=Lib.hid (show Calls Tryz.prog 179 #[.slice A n c,.int .i64 (n:Nat),.func (.func 146) #[] #[.pointer (some ⟨Bw,0,none⟩)]] w fun e w'=>e= .returned (.tuple #[])∧w'.ownsRow base 32 1 (.slice A n c) (T.stab xs).length ((T.stab xs).map (Value.int .i64))∧Kept (fun g=>(Value.slice A n c).ownBlock=some g) w w' from by
  clear hT c0 c1 h hv hn
  go_enter Tryz.func179,Tryz.ntmps179
  go_wp2_with fail
  go_loopw [7,8] (fun a i wq=>a= .int .i64 0∧i= .int .i64 20∧wq=w) (fun _ _ _=>0)
  case atStart=>exact⟨rfl,rfl,rfl⟩
  case round=>
   obtain⟨rfl,rfl,rfl⟩:=hrel
   go_wp2_with fail
   refine HI.out.mono ?_
   rintro e w1 ⟨rfl,hr,hk⟩
   have HR:=Lib.hid hr
   have HK:=Lib.hid hk
   clear hr hk
   go_wp2_with fail
   go_loopw [6] (fun s wq=>s= .int .i64 20∧wq=w1) (fun _ _=>0)
   case atStart=>exact⟨rfl,rfl⟩
   case round=>
    obtain⟨rfl,rfl⟩:=hrel
    go_wp2_with fail
    go_end0
    exact⟨rfl,HR.out,HK.out⟩)
 clear hT c0 c1 h hv hn HI hq1 hq2
 go_enter Tryz.func145,Tryz.ntmps145
 go_wp2_with fail
 refine HS.out.mono ?_
 rintro e w1 ⟨rfl,hr,hk⟩
 have HR:=Lib.hid hr
 have HK:=Lib.hid hk
 clear hr hk
 go_wp2_with fail
 go_end0
 exact⟨rfl,HR.out,HK.out⟩
end Go.Proofs.YtoojmhjagipmdaaGreat
namespace Go.Proofs.YtoojmhjagipmdaaGreat
open Go.RowKit
theorem k_inj {its:List RIt} (hn:(its.map fun x=>litV x.lit).Nodup) {p q:Nat} {x y:RIt} (hp:its[p]? =some x) (hq:its[q]? =some y) (e:litV x.lit=litV y.lit):p=q:=by
 rw[List.Nodup,List.pairwise_iff_getElem]at hn
 obtain⟨h1,h2⟩:=List.getElem?_eq_some_iff.1 hp
 obtain⟨h3,h4⟩:=List.getElem?_eq_some_iff.1 hq
 rcases Nat.lt_trichotomy p q with h|h|h
 ·refine absurd ?_ (hn p q (by simpa using h1) (by simpa using h3) h)
  rw[List.getElem_map,List.getElem_map,h2,h4,e]
 ·exact h
 ·refine absurd ?_ (hn q p (by simpa using h3) (by simpa using h1) h)
  rw[List.getElem_map,List.getElem_map,h2,h4,e]
theorem k_its {its:List RIt} (hl: ∀x∈its,litB x.lit=true) (hn:(its.map fun x=>litV x.lit).Nodup): ∃f,asgF (its.map RIt.lit)=some f∧∀y,litB y=true→((0<ofF f y↔Has its y)∧(ofF f y<0↔Has its (-y))):=by
 obtain⟨f,e,h1,h2⟩:=k_asg (its.map RIt.lit) (fun _=>0) (fun x hx=>by
  obtain⟨z,hz,rfl⟩:=List.mem_map.1 hx
  exact hl z hz) (by rw[List.map_map];exact hn) (fun _ _=>rfl)
 refine⟨f,e,fun y hy=>?_⟩
 have hb:=(litB_iff y).1 hy
 by_cases hex: ∃(p:Nat) (x:RIt),its[p]? =some x∧litV x.lit=litV y
 ·obtain⟨p,x,hp,hv⟩:=hex
  have hx:=List.mem_of_getElem? hp
  obtain⟨a1,a2⟩:=h2 x.lit (List.mem_map_of_mem hx)
  have one: ∀z,litV z=litV y→Has its z→x.lit=z:=fun z hz ⟨q,w,hq,hw⟩=>by
   have:=k_inj hn hp hq (by rw[hv,hw,hz])
   subst this
   rw[hp]at hq
   obtain rfl:=Option.some.inj hq
   exact hw
  rcases litV_two (hl x hx) hv with e2|e2
  ·rw[←e2]at a1
   constructor
   ·exact⟨fun _=>⟨p,x,hp,e2.symm⟩,fun _=>by omega⟩
   ·refine⟨fun h=>by omega,fun h=>?_⟩
    have:=one (-y) (litV_negate y) h
    omega
  ·rw[←e2]at a2
   constructor
   ·refine⟨fun h=>by omega,fun h=>?_⟩
    have:=one y rfl h
    omega
   ·exact⟨fun _=>⟨p,x,hp,by omega⟩,fun _=>by omega⟩
 ·have h0:ofF f y=0:=by
   rw[h1 y (fun x hx=>by
    obtain⟨z,hz,rfl⟩:=List.mem_map.1 hx
    obtain⟨p,hp,e3⟩:=List.getElem_of_mem hz
    exact fun e4=>hex ⟨p,z,by rw[List.getElem?_eq_getElem hp,e3],e4⟩)]
   unfold ofF
   split <;> rfl
  constructor
  ·exact⟨fun h=>by omega,fun⟨p,x,hp,hx⟩=>absurd ⟨p,x,hp,by rw[hx]⟩ hex⟩
  ·exact⟨fun h=>by omega,fun⟨p,x,hp,hx⟩=>absurd ⟨p,x,hp,by rw[hx,litV_negate]⟩ hex⟩
inductive AddK (T:Trl) (c:List Int) (f:Int→Int):Prop
 | fails (hk:addKind T (addTwo T c)=3) (hl:lookF f c=(2,0)) (hall: ∀y∈c,T.fal y=true)
 | unit (a:Int) (hk:addKind T (addTwo T c)=2) (hl:lookF f c=(3,a)) (ha:a∈c) (hf:T.fal a=false) (ht:T.tru a=false) (hh:(addTwo T c).headD 0=a) (ho: ∀y∈c,y≠a→T.fal y=true)
 | holds (hk:addKind T (addTwo T c)=1) (hl:lookF f c=(1,0)) (ht: ∃y∈c,T.tru y=true)
 | opens (hk:addKind T (addTwo T c)=1) (hl:lookF f c=(4,0)) (ht: ∀y∈c,T.tru y=false)
theorem add_kind {T:Trl} {its:List RIt} {c:List Int} {f:Int→Int} (hs:Sim T its) (hc: ∀y∈c,litB y=true) (hf: ∀y,litB y=true→((0<ofF f y↔Has its y)∧(ofF f y<0↔Has its (-y)))):AddK T c f:=by
 have tr: ∀y∈c,(0<ofF f y↔T.tru y=true):=fun y hy=>(hf y (hc y hy)).1.trans (hs.tru_iff (hc y hy)).symm
 have fa: ∀y∈c,(ofF f y<0↔T.fal y=true):=fun y hy=>(hf y (hc y hy)).2.trans (hs.fal_iff (hc y hy)).symm
 have fz: ∀y∈c,T.fal y=false→T.tru y=false→ofF f y=0:=fun y hy h1 h2=>by
  have a1: ¬0<ofF f y:=fun h=>by rw[(tr y hy).1 h]at h2;cases h2
  have a2: ¬ofF f y<0:=fun h=>by rw[(fa y hy).1 h]at h1;cases h1
  omega
 have nz: ∀y∈c,y≠0:=fun y hy=>by
  have:=(litB_iff y).1 (hc y hy)
  omega
 have hin: ∀y,y∈(eachL c).filter (fun x=> !T.fal x)↔y∈c∧T.fal y=false:=fun y=>by
  rw[List.mem_filter,eachL_mem,Bool.not_eq_true']
 have hst: ∀y,y∈T.stab ((eachL c).filter T.fal)→T.fal y=true:=fun y hy=>(List.mem_filter.1 (stab_mem.1 hy)).2
 have htwo:addTwo T c=((eachL c).filter (fun x=> !T.fal x)++T.stab ((eachL c).filter T.fal)).take 2:=rfl
 have hnd:((eachL c).filter (fun x=> !T.fal x)).Nodup:=(eachL_nodup c).filter _
 cases hnf:(eachL c).filter (fun x=> !T.fal x)with
 | nil=>
  rw[hnf]at hin htwo
  have hall: ∀y∈c,T.fal y=true:=fun y hy=>by
   cases h:T.fal y with
   | true=>rfl
   | false=>cases (hin y).2 ⟨hy,h⟩
  refine .fails ?_ (k_fail fun y hy=>(fa y hy).2 (hall y hy)) hall
  rw[htwo,List.nil_append]
  cases hs2:T.stab ((eachL c).filter T.fal)with
  | nil=>rfl
  | cons s r=>
   rw[hs2]at hst
   have:=hst s List.mem_cons_self
   cases r with
   | nil=>show(if T.fal s=true then 3 else _)=3;rw[if_pos this]
   | cons s2 r=>show(if T.fal s=true then 3 else _)=3;rw[if_pos this]
 | cons a r=>
  rw[hnf]at hin htwo hnd
  have ha:=(hin a).1 List.mem_cons_self
  cases r with
  | nil=>
   have ho: ∀y∈c,y≠a→T.fal y=true:=fun y hy hne=>by
    cases h:T.fal y with
    | true=>rfl
    | false=>exact absurd (List.mem_singleton.1 ((hin y).2 ⟨hy,h⟩)) hne
   have hkind:addKind T (addTwo T c)=if T.tru a=true then 1 else 2:=by
    rw[htwo]
    cases hs2:T.stab ((eachL c).filter T.fal)with
    | nil=>
     show(if T.fal a=true then 3 else if T.tru a=true then 1 else 2)=_
     rw[ha.2]
     rfl
    | cons s r=>
     rw[hs2]at hst
     have hfs:=hst s List.mem_cons_self
     show(if T.fal a=true then 3 else if T.tru a=true∨T.fal s=false then 1 else 2)=_
     rw[ha.2,hfs]
     simp
   have hhd:(addTwo T c).headD 0=a:=by rw[htwo];rfl
   cases ht:T.tru a with
   | true=>
    rw[ht]at hkind
    exact .holds hkind (k_hold ⟨a,ha.1,(tr a ha.1).2 ht⟩ _ _) ⟨a,ha.1,ht⟩
   | false=>
    rw[ht]at hkind
    exact .unit a hkind (k_unit ha.1 (fz a ha.1 ha.2 ht) (fun y hy hne=>(fa y hy).2 (ho y hy hne)) nz) ha.1 ha.2 ht hhd ho
  | cons b r=>
   have hb:=(hin b).1 (List.mem_cons_of_mem _ List.mem_cons_self)
   have hab:a≠b:=fun e=>(List.nodup_cons.1 hnd).1 (e▸List.mem_cons_self)
   have hkind:addKind T (addTwo T c)=1:=by
    rw[htwo]
    show(if T.fal a=true then 3 else if T.tru a=true∨T.fal b=false then 1 else 2)=_
    rw[ha.2,hb.2]
    simp
   by_cases hex: ∃y∈c,T.tru y=true
   ·obtain⟨y,hy,ht⟩:=hex
    exact .holds hkind (k_hold ⟨y,hy,(tr y hy).2 ht⟩ _ _) ⟨y,hy,ht⟩
   ·have hno: ∀y∈c,T.tru y=false:=fun y hy=>by
     cases h:T.tru y with
     | true=>exact absurd ⟨y,hy,h⟩ hex
     | false=>rfl
    refine .opens hkind (k_open hab ha.1 hb.1 (fz a ha.1 ha.2 (hno a ha.1)) (fz b hb.1 hb.2 (hno b hb.1)) (fun y hy h=>?_) nz) hno
    have:=hno y hy
    rw[(tr y hy).1 h]at this
    cases this
end Go.Proofs.YtoojmhjagipmdaaGreat
namespace Go.Proofs.YtoojmhjagipmdaaGreat
open Go.RowKit
theorem has_two {T:Trl} {its:List RIt} (h:Sim T its) {y:Int} (hy:litB y=true) (h1:Has its y) (h2:Has its (-y)):False:=by
 obtain⟨p,x,hp,e⟩:=h1
 obtain⟨q,z,hq,e2⟩:=h2
 have:=h.inj hp hq (by rw[e,e2,litV_negate])
 subst this
 rw[hp]at hq
 obtain rfl:=Option.some.inj hq
 have:=(litB_iff y).1 hy
 omega
def rcAt (C:Int→Option (List Int)) (its:List RIt) (r:Nat):List Int:=(C (rsAt its r)).getD []
def FitB (C:Int→Option (List Int)):Prop:= ∀id c,C id=some c→clauseB c=true
theorem FitB.lit {C:Int→Option (List Int)} (h:FitB C) {id:Int} {c:List Int} (hc:C id=some c) {y:Int} (hy:y∈c):litB y=true:=by
 have:=h id c hc
 unfold clauseB at this
 rw[Bool.and_eq_true]at this
 exact List.all_eq_true.1 this.2 y hy
section
variable {C:Int→Option (List Int)} {T:Trl} {its:List RIt} {L c:List Int} {R:List Nat}
theorem Chain.at (h:Chain C its L c R) {r:Nat} (hr:r∈R): ∃(z:RIt) (d:List Int),its[r]? =some z∧litAt its r=z.lit∧rcAt C its r=d∧C (rsAt its r)=some d∧z.lit∈d∧∀y∈d,y≠z.lit→∃q,q<r∧litAt its q= -y∧(q∈R∨y∈L):=by
 obtain⟨z,d,h1,h2,h3,h4⟩:=h.rs r hr
 refine⟨z,d,h1,litAt_eq h1,by unfold rcAt;rw[rsAt_eq h1,h2];rfl,by rw[rsAt_eq h1,h2],h3,fun y hy hne=>?_⟩
 obtain⟨q,x,a1,a2,a3,a4⟩:=h4 y hy hne
 exact⟨q,a1,by rw[litAt_eq a2,a3],a4⟩
theorem Chain.no (h:Chain C its L c R) (hs:Sim T its): ∀y∈L,-y∉L:=fun y hy hn=>by
 obtain⟨p,x,hp,e⟩:=h.fal y hy
 have hb:=(at_fal hs hp e).1
 refine has_two hs hb ?_ (h.fal y hy)
 have:=h.fal _ hn
 rwa [Int.neg_neg]at this
theorem chain_fol (h:Chain C its L c R) (hs:Sim T its) (hb:FitB C) (hcb:clauseB c=true) (R2:List Nat): ∀(R1:List Nat) (f:Int→Int) (us:List Int) (i:Nat),R=R1++R2→Says f (fun y=> -y∈L∨∃q∈R1,litAt its q=y)→folGo f (R2.map (rcAt C its)++ [c]) us i=(us++R2.map (litAt its),i+R2.length+1,true,0):=by
 induction R2 with
 | nil=>
  intro R1 f us i hR hf
  rw[List.append_nil]at hR
  subst hR
  show folGo f [c] us i=_
  unfold folGo
  rw[k_fail (c:=c) fun y hy=>?_]
  ·rw[if_pos rfl]
   simp
  ·have hyb:litB y=true:=by
    unfold clauseB at hcb
    rw[Bool.and_eq_true]at hcb
    exact List.all_eq_true.1 hcb.2 y hy
   refine((hf y hyb).2).2 ?_
   obtain⟨q,x,hq,e,ho⟩:=h.cl y hy
   rcases ho with ho|ho
   ·exact .inr ⟨q,ho,by rw[litAt_eq hq,e]⟩
   ·exact .inl (by rw[Int.neg_neg];exact ho)
 | cons r R2 ih=>
  intro R1 f us i hR hf
  have hrR:r∈R:=by rw[hR];simp
  obtain⟨z,d,hz,hl,hd,hcd,hzd,ho⟩:=h.at hrR
  have hup:=h.up
  rw[hR,List.pairwise_append,List.pairwise_cons]at hup
  have hzb:=(hs.at_ r z hz).1
  have hR1: ∀q∈R1,q<r:=fun q hq=>hup.2.2 q hq r List.mem_cons_self
  have hnot: ¬(-z.lit∈L∨∃q∈R1,litAt its q=z.lit):=by
   rintro (h1|⟨q,hq,e⟩)
   ·exact h.dis r hrR (hl▸h1)
   ·obtain⟨z',_,hz',hl',_⟩:=h.at (show q∈R by rw[hR];exact List.mem_append_left _ hq)
    have:=hs.inj hz' hz (by rw[←hl',e])
    have:=hR1 q hq
    omega
  have hnot2: ¬(- -z.lit∈L∨∃q∈R1,litAt its q= -z.lit):=by
   rw[Int.neg_neg]
   rintro (h1|⟨q,hq,e⟩)
   ·exact has_two hs hzb ⟨r,z,hz,rfl⟩ (h.fal _ h1)
   ·obtain⟨z',_,hz',hl',_⟩:=h.at (show q∈R by rw[hR];exact List.mem_append_left _ hq)
    have:=hs.inj hz' hz (by rw[←hl',e,litV_negate])
    have:=hR1 q hq
    omega
  have hu:lookF f d=(3,z.lit):=by
   refine k_unit hzd ?_ (fun y hy hne=>?_) (fun y hy=>?_)
   ·have h1:=(hf z.lit hzb).1
    have h2:=(hf z.lit hzb).2
    have: ¬0<ofF f z.lit:=fun h=>hnot (h1.1 h)
    have: ¬ofF f z.lit<0:=fun h=>hnot2 (h2.1 h)
    omega
   ·refine((hf y (hb.lit hcd hy)).2).2 ?_
    obtain⟨q,hq,e,hqq⟩:=ho y hy hne
    rcases hqq with hqq|hqq
    ·refine .inr ⟨q,?_,e⟩
     rw[hR,List.mem_append]at hqq
     refine hqq.resolve_right fun hm=>?_
     rcases List.mem_cons.1 hm with h2|h2
     ·omega
     ·have:=hup.2.1.1 q h2
      omega
    ·exact .inl (by rw[Int.neg_neg];exact hqq)
   ·have:=(litB_iff y).1 (hb.lit hcd hy)
    omega
  rw[List.map_cons,List.cons_append,hd]
  unfold folGo
  rw[hu,if_neg (show¬(3:Nat)=2 by decide),if_pos rfl]
  show folGo (putF f z.lit) (R2.map (rcAt C its)++ [c]) (us++ [z.lit]) (i+1)=_
  rw[ih (R1++ [r]) (putF f z.lit) (us++ [z.lit]) (i+1) (by rw[hR];simp) (fun y hy=>by
   have:=says_put hf hzb hnot hnot2 y hy
   have key: ∀v,((-v∈L∨∃q∈R1,litAt its q=v)∨v=z.lit)↔(-v∈L∨∃q∈R1++ [r],litAt its q=v):=fun v=>by
    constructor
    ·rintro ((h1|⟨q,hq,e⟩)|e)
     ·exact .inl h1
     ·exact .inr ⟨q,List.mem_append_left _ hq,e⟩
     ·exact .inr ⟨r,by simp,hl.trans e.symm⟩
    ·rintro (h1|⟨q,hq,e⟩)
     ·exact .inl (.inl h1)
     ·rcases List.mem_append.1 hq with hq|hq
      ·exact .inl (.inr ⟨q,hq,e⟩)
      ·rw[List.mem_singleton.1 hq,hl]at e
       exact .inr e.symm
   exact⟨this.1.trans (key y),this.2.trans (key (-y))⟩)]
  rw[List.map_cons,hl,List.length_cons]
  simp only[List.append_assoc,List.singleton_append,Prod.mk.injEq,true_and,and_true]
  omega
theorem chain_need (h:Chain C its L c R) (hs:Sim T its):(needL (R.map (rcAt C its)++ [c]) (R.map (litAt its))).length=R.length+1:=by
 unfold needL
 rw[List.length_reverse,needGo_all]
 ·simp
 ·intro j hj hju
  rw[List.length_map]at hju
  obtain⟨r,hr⟩:=getElem_of hju
  have hrR:=List.mem_of_getElem? hr
  obtain⟨z,d,hz,hl,_⟩:=h.at hrR
  have hzb:=(hs.at_ r z hz).1
  have eu:(R.map (litAt its)).getD j 0=z.lit:=by
   rw[List.getD_eq_getElem?_getD,List.getElem?_map,hr]
   exact hl
  have en:z.lit=litN (-z.lit):=by rw[litN_eq (by rw[litB_minus];exact hzb),Int.neg_neg]
  rw[eu]
  right
  rcases h.need r hrR with h1|⟨r',z',d',h1,h2,h3,h4,h5⟩
  ·refine⟨R.length,hju,by simp,-z.lit,?_,en⟩
   rw[List.getD_eq_getElem?_getD,List.getElem?_append_right (by simp),List.length_map,Nat.sub_self]
   rw[hl]at h1
   exact h1
  ·obtain⟨i,hi⟩:=List.getElem?_of_mem h2
   have hil:=(List.getElem?_eq_some_iff.1 hi).1
   refine⟨i,?_,by simp;omega,-z.lit,?_,en⟩
   ·refine Classical.byContradiction fun hc=>?_
    rcases Nat.eq_or_lt_of_le (Nat.le_of_not_lt hc)with e|hlt
    ·subst e
     rw[hi]at hr
     have:=Option.some.inj hr
     omega
    ·have:=List.pairwise_iff_getElem.1 h.up i j hil hju hlt
     rw[(List.getElem?_eq_some_iff.1 hi).2,(List.getElem?_eq_some_iff.1 hr).2]at this
     omega
   ·rw[List.getD_eq_getElem?_getD,List.getElem?_append_left (by simpa using hil),List.getElem?_map,hi]
    show -z.lit∈rcAt C its r'
    unfold rcAt
    rw[rsAt_eq h3,h4]
    rw[hl]at h5
    exact h5
theorem chain_check (h:Chain C its L c R) (hs:Sim T its) (hb:FitB C) (hcb:clauseB c=true) (hL:clauseB L=true):chkP L (R.map (rcAt C its)++ [c])=(R.map (litAt its),R.length+1,0)∧(trimP L (R.map (rcAt C its)++ [c])).length=R.length+1:=by
 have hno:=h.no hs
 obtain⟨f,hf,hsays⟩:=asm_ok hL hno
 have hfol:=chain_fol h hs hb hcb R [] f [] 0 rfl (fun y hy=>by
  have:=hsays y hy
  have key: ∀v,(-v∈L)↔(-v∈L∨∃q∈([] :List Nat),litAt its q=v):=fun v=>⟨.inl,fun h=>h.elim id fun⟨q,hq,_⟩=>by cases hq⟩
  exact⟨this.1.trans (key y),this.2.trans (key (-y))⟩)
 have hck:chkP L (R.map (rcAt C its)++ [c])=(R.map (litAt its),R.length+1,0):=by
  unfold chkP
  rw[if_neg (by rw[alwL_no hno];decide),hf]
  simp only[hfol]
  simp
 refine⟨hck,?_⟩
 unfold trimP
 rw[hck,if_pos ⟨rfl,Nat.succ_ne_zero _⟩]
 show(needL (List.take (R.length+1) _) (R.map (litAt its))).length=_
 rw[List.take_of_length_le (by simp)]
 exact chain_need h hs
theorem chain_sat (h:Chain C its L c R) {B:Int→Prop} (hB: ∀y,B y→¬B (-y)) (hC: ∀id d,C id=some d→∃y∈d,B y) {id:Int} (hid:C id=some c): ∃y∈L,B y:=by
 refine Classical.byContradiction fun hc=>?_
 have hno: ∀y∈L,¬B y:=fun y hy hb=>hc ⟨y,hy,hb⟩
 have key: ∀n:Nat,∀r∈R,r<n→B (litAt its r):=by
  intro n
  induction n with
  | zero=>exact fun r _ h=>by omega
  | succ n ih=>
   intro r hr hn
   obtain⟨z,d,hz,hl,_,hcd,hzd,ho⟩:=h.at hr
   obtain⟨y,hy,hby⟩:=hC _ d hcd
   by_cases e:y=z.lit
   ·rw[hl,←e]
    exact hby
   ·obtain⟨q,hq,e2,hqq⟩:=ho y hy e
    rcases hqq with hqq|hqq
    ·have:=ih q hqq (by omega)
     rw[e2]at this
     exact absurd this (hB y hby)
    ·exact absurd hby (hno y hqq)
 obtain⟨y,hy,hby⟩:=hC id c hid
 obtain⟨q,x,hq,e,hqq⟩:=h.cl y hy
 rcases hqq with hqq|hqq
 ·have:=key (q+1) q hqq (Nat.lt_succ_self q)
  rw[litAt_eq hq,e]at this
  exact hB y hby this
 ·exact hno y hqq hby
end
end Go.Proofs.YtoojmhjagipmdaaGreat
