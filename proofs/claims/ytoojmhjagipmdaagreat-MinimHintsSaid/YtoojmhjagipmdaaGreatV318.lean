/- An arena, a trail and their watch; the watch's small functions. The watch: Remove, once, Back, New; arena.Has. Levels of literals, in worlds that only grow; how literals that are false are ordered. The stable sort of literals that are false. -/
import Derived.Test.YtoojmhjagipmdaaGreatV317
import Derived.Test.YtoojmhjagipmdaaGreatV311
import Derived.Test.YtoojmhjagipmdaaGreatV304
import Derived.Test.YtoojmhjagipmdaaGreatV306
import Derived.Test.YtoojmhjagipmdaaGreatV309
import Derived.Test.YtoojmhjagipmdaaGreatV312
import Derived.Deep.DeepMust
import Derived.Shelf.SlSortCmp.Insertion1
import Derived.Sort.LotD3
import Derived.Sort.LotA
namespace Go.Proofs.YtoojmhjagipmdaaGreat
open Go.RowKit Go.Maps Go.Shelf
structure SysAt (w:World) (lab:Nat→Nat) (b ab tb:Nat) (A:Arn) (T:Trl) (S:Wst):Prop where
 ar:ArAt (fun g=>lab g=1) w ab A
 tr:TrAt (fun g=>lab g=2) w tb T
 wa:WaAt (fun g=>lab g=3) w b ab tb S
 lt: ∀g,lab g≠0→g<w.heap.size
structure Labs (lab lab':Nat→Nat) (w w':World):Prop where
 kept:Kept (fun g=>lab g≠0) w w'
 same: ∀g,g<w.heap.size→lab' g=lab g
def SysNext (w w':World) (lab:Nat→Nat) (b ab tb:Nat) (A:Arn) (T:Trl) (S:Wst):Prop:= ∃lab',SysAt w' lab' b ab tb A T S∧Labs lab lab' w w'
theorem Labs.trans {l1 l2 l3:Nat→Nat} {a b c:World} (h:Labs l1 l2 a b) (k:Labs l2 l3 b c):Labs l1 l3 a c:=
 ⟨h.kept.trans k.kept (fun i hi hn=>by rwa [h.same i hi]at hn),fun g hg=>(k.same g (Nat.lt_of_lt_of_le hg h.kept.size)).trans (h.same g hg)⟩
theorem Labs.of_below {l:Nat→Nat} {a b:World} (h:Below a.heap.size a b):Labs l l a b:=⟨Kept.of_below h,fun _ _=>rfl⟩
section
variable {w w':World} {lab:Nat→Nat} {b ab tb:Nat} {A:Arn} {T:Trl} {S:Wst}
theorem SysAt.kept {O:Nat→Prop} (h:SysAt w lab b ab tb A T S) (k:Kept O w w') (hO: ∀g,lab g≠0→¬O g):SysAt w' lab b ab tb A T S:=
 ⟨h.ar.kept k (fun g hg=>hO g (by rw[hg];decide)),h.tr.kept k (fun g hg=>hO g (by rw[hg];decide)),h.wa.kept k (fun g hg=>hO g (by rw[hg];decide)),fun g hg=>Nat.lt_of_lt_of_le (h.lt g hg) k.size⟩
theorem SysAt.below (h:SysAt w lab b ab tb A T S) (k:Below w.heap.size w w'):SysAt w' lab b ab tb A T S:=h.kept (O:=fun _=>False) (Kept.of_below k) (fun _ _ h=>h)
theorem SysNext.refl (h:SysAt w lab b ab tb A T S) (k:Below w.heap.size w w'):SysNext w w' lab b ab tb A T S:=⟨lab,h.below k,Labs.of_below k⟩
theorem SysNext.trans {w2:World} {A2:Arn} {T2:Trl} {S2:Wst} {lab1:Nat→Nat} (h:Labs lab lab1 w w') (k:SysNext w' w2 lab1 b ab tb A2 T2 S2):SysNext w w2 lab b ab tb A2 T2 S2:=by
 obtain⟨l,h1,h2⟩:=k
 exact⟨l,h1,h.trans h2⟩
def labN (lab:Nat→Nat) (n m k:Nat) (g:Nat):Nat:=if g<n then lab g else if g<m then k else 0
theorem labN_iff (h: ∀g,lab g≠0→g<w.heap.size) {m k:Nat} (hk:k≠0) (g:Nat):labN lab w.heap.size m k g=k↔lab g=k∨w.heap.size≤g∧g<m:=by
 unfold labN
 split
 ·rename_i hg
  constructor
  ·exact .inl
  ·rintro (e|e)
   ·exact e
   ·omega
 ·rename_i hg
  have h0:lab g=0:=Classical.byContradiction fun e=>hg (h g e)
  split
  ·exact⟨fun _=>.inr ⟨by omega,by assumption⟩,fun _=>rfl⟩
  ·constructor
   ·exact fun e=>absurd e.symm hk
   ·rintro (e|e)
    ·exact absurd (e.symm.trans h0) hk
    ·omega
theorem labN_other (h: ∀g,lab g≠0→g<w.heap.size) {m k j:Nat} (hj:j≠0) (hjk:j≠k) (g:Nat):labN lab w.heap.size m k g=j↔lab g=j:=by
 unfold labN
 split
 ·exact Iff.rfl
 ·rename_i hg
  have h0:lab g=0:=Classical.byContradiction fun e=>hg (h g e)
  split
  ·exact⟨fun e=>absurd e.symm hjk,fun e=>absurd (e.symm.trans h0) hj⟩
  ·exact⟨fun e=>absurd e.symm hj,fun e=>absurd (e.symm.trans h0) hj⟩
theorem ArAt.congr {O O':Nat→Prop} {w:World} {b:Nat} {A:Arn} (h:ArAt O w b A) (hO: ∀g,O g↔O' g):ArAt O' w b A:=by
 rw[show O'=O from funext fun g=>propext (hO g).symm]
 exact h
theorem TrAt.congr {O O':Nat→Prop} {w:World} {b:Nat} {T:Trl} (h:TrAt O w b T) (hO: ∀g,O g↔O' g):TrAt O' w b T:=by
 rw[show O'=O from funext fun g=>propext (hO g).symm]
 exact h
theorem WaAt.congr {O O':Nat→Prop} {w:World} {S:Wst} (h:WaAt O w b ab tb S) (hO: ∀g,O g↔O' g):WaAt O' w b ab tb S:=by
 rw[show O'=O from funext fun g=>propext (hO g).symm]
 exact h
theorem labN_labs {j:Nat} (hj:j≠0) (k:Kept (fun g=>lab g=j) w w'):Labs lab (labN lab w.heap.size w'.heap.size j) w w':=
 ⟨k.mono (fun g _ e=>by rw[e];exact hj),fun g hg=>if_pos hg⟩
theorem labN_lt {j m:Nat} (hm:w.heap.size≤m) (g:Nat) (hg:labN lab w.heap.size m j g≠0):g<m:=by
 unfold labN at hg
 split at hg
 ·omega
 ·split at hg
  ·assumption
  ·exact absurd rfl hg
theorem SysAt.wa_next {S':Wst} (h:SysAt w lab b ab tb A T S) (hw:WaNext (fun g=>lab g=3) w w' b ab tb S'):SysNext w w' lab b ab tb A T S':=by
 obtain⟨h1,k⟩:=hw
 refine⟨labN lab w.heap.size w'.heap.size 3,⟨?_,?_,?_,labN_lt k.size⟩,labN_labs (by decide) k⟩
 ·exact(h.ar.kept k (fun g hg e=>by rw[hg]at e;cases e)).congr (fun g=>(labN_other h.lt (by decide) (by decide) g).symm)
 ·exact(h.tr.kept k (fun g hg e=>by rw[hg]at e;cases e)).congr (fun g=>(labN_other h.lt (by decide) (by decide) g).symm)
 ·exact h1.congr (fun g=>(labN_iff h.lt (by decide) g).symm)
theorem SysAt.tr_next {T':Trl} (h:SysAt w lab b ab tb A T S) (hw:TrNext (fun g=>lab g=2) w w' tb T'):SysNext w w' lab b ab tb A T' S:=by
 obtain⟨h1,k⟩:=hw
 refine⟨labN lab w.heap.size w'.heap.size 2,⟨?_,?_,?_,labN_lt k.size⟩,labN_labs (by decide) k⟩
 ·exact(h.ar.kept k (fun g hg e=>by rw[hg]at e;cases e)).congr (fun g=>(labN_other h.lt (by decide) (by decide) g).symm)
 ·exact h1.congr (fun g=>(labN_iff h.lt (by decide) g).symm)
 ·exact(h.wa.kept k (fun g hg e=>by rw[hg]at e;cases e)).congr (fun g=>(labN_other h.lt (by decide) (by decide) g).symm)
theorem SysAt.box (h:SysAt w lab b ab tb A T S): ∃kb ob,w.heap[b]? =some (.cells #[.pointer (some ⟨ab,0,none⟩),.pointer (some ⟨tb,0,none⟩),.map (some kb),.map (some ob),.int .i64 (S.looked:Nat)] 157 (0,0)):=by
 obtain⟨_,kb,ob,K,F,tg,hm⟩:=h.wa
 exact⟨kb,ob,hm.block⟩
theorem SysAt.c0 (h:SysAt w lab b ab tb A T S):w.cell? ⟨b,0,none⟩=some (.pointer (some ⟨ab,0,none⟩)):=by
 obtain⟨kb,ob,hb⟩:=h.box
 exact mx_cell (j:=0) hb
theorem SysAt.c1 (h:SysAt w lab b ab tb A T S):w.cell? ⟨b,1,none⟩=some (.pointer (some ⟨tb,0,none⟩)):=by
 obtain⟨kb,ob,hb⟩:=h.box
 exact mx_cell (j:=1) hb
theorem SysAt.c4 (h:SysAt w lab b ab tb A T S):w.cell? ⟨b,4,none⟩=some (.int .i64 (S.looked:Nat)):=by
 obtain⟨kb,ob,hb⟩:=h.box
 exact mx_cell (j:=4) hb
end
theorem wa_false {O:Nat→Prop} (b tb:Nat) (T:Trl) (l:Int) (w:World) (h:TrAt O w tb T) (c1:w.cell? ⟨b,1,none⟩=some (.pointer (some ⟨tb,0,none⟩))):
  Calls Tryz.prog 110 #[.pointer (some ⟨b,0,none⟩),.int .i64 l] w fun e w'=>e= .returned (.bool (T.fal l))∧Below w.heap.size w w':=by
 have HV:=Lib.hid (tr_value tb T l w h)
 unfold Trl.fal
 obtain⟨v,hv⟩: ∃v,T.val l=v:=⟨_,rfl⟩
 rw[hv]at HV⊢
 clear h hv
 go_enter Tryz.func110,Tryz.ntmps110
 go_wp2_with fail
 refine HV.out.mono ?_
 rintro e w1 ⟨rfl,hb⟩
 clear c1
 go_wp2_with fail
 go_ret
 exact⟨rfl,hb⟩
theorem wa_true {O:Nat→Prop} (b tb:Nat) (T:Trl) (l:Int) (w:World) (h:TrAt O w tb T) (c1:w.cell? ⟨b,1,none⟩=some (.pointer (some ⟨tb,0,none⟩))):
  Calls Tryz.prog 111 #[.pointer (some ⟨b,0,none⟩),.int .i64 l] w fun e w'=>e= .returned (.bool (T.tru l))∧Below w.heap.size w w':=by
 have HV:=Lib.hid (tr_value tb T l w h)
 unfold Trl.tru
 obtain⟨v,hv⟩: ∃v,T.val l=v:=⟨_,rfl⟩
 rw[hv]at HV⊢
 clear h hv
 go_enter Tryz.func111,Tryz.ntmps111
 go_wp2_with fail
 refine HV.out.mono ?_
 rintro e w1 ⟨rfl,hb⟩
 clear c1
 go_wp2_with fail
 go_ret
 exact⟨rfl,hb⟩
theorem TrNext.wide {O O':Nat→Prop} {w w':World} {b:Nat} {T:Trl} (h:TrNext O w w' b T) (hO: ∀g,O g→O' g) (hl: ∀g,O' g→g<w.heap.size):TrNext O' w w' b T:=by
 obtain⟨⟨hk,gv,cv,ov,sv,hm⟩,k⟩:=h
 exact⟨⟨hk,gv,cv,ov,sv,fun g hg=>hg.elim (fun h=>Nat.lt_of_lt_of_le (hl g h) k.size) (fun h=>h.2),hm.inb.imp_left (hO _),hm.invs.imp_left (hO _),hm.block,hm.vars,hm.order,fun g hg=>(hm.orderb g hg).imp_left (hO _),hm.starts,fun g hg=>(hm.startsb g hg).imp_left (hO _)⟩,k.mono (fun g _ h=>hO g h)⟩
theorem wa_assign (b ab tb:Nat) (A:Arn) (T:Trl) (S:Wst) (l id:Int) (w:World) (lab:Nat→Nat) (h:SysAt w lab b ab tb A T S) (hno:T.order.length<1048576):
  Calls Tryz.prog 112 #[.pointer (some ⟨b,0,none⟩),.int .i64 l,.int .i64 id] w fun e w'=>e= .returned (.tuple #[])∧SysNext w w' lab b ab tb A (T.assigned l id) S∧KeepsRec w w':=by
 have c1:=h.c1
 have HC:=Lib.hid (tr_assign tb T l id w h.tr.narrow hno)
 have H:=Lib.hid h
 clear h hno
 go_enter Tryz.func112,Tryz.ntmps112
 go_wp2_with fail
 refine HC.out.mono ?_
 rintro e w1 ⟨rfl,hb⟩
 have HN:=Lib.hid (H.out.tr_next (hb.wide (fun _ h=>h.1) (fun g h=>H.out.lt g (by rw[h];decide))))
 have HK:=Lib.hid (show KeepsRec w w1 from fun k o hk h1 h2=>(hb.2.block k (heap_lt hk) (fun e=>e.2 ⟨o,hk,h1,h2⟩)).trans hk)
 clear hb c1
 go_wp2_with fail
 go_end0
 exact⟨rfl,HN.out,HK.out⟩
end Go.Proofs.YtoojmhjagipmdaaGreat
namespace Go.Proofs.YtoojmhjagipmdaaGreat
open Go.RowKit Go.Maps Go.Shelf
theorem own_get {w:World} {base:Nat} {e:TypeId} {v:Value} {xs:List Int} {j:Nat} {x:Int} (h:w.ownsRow base e 1 v xs.length (xs.map (Value.int .i64))) (hj:xs[j]? =some x): ∃g c,v= .slice (some ⟨g,0,none⟩) xs.length c∧g<w.heap.size∧w.cell? ⟨g,j,none⟩=some (.int .i64 x):=by
 have hl:=(List.getElem?_eq_some_iff.1 hj).1
 obtain⟨g,c,cs,hv,_,_,hg,_⟩:=mx_some h (by omega)
 subst hv
 exact⟨g,c,rfl,hg,mx_at h (by rw[List.getElem?_map,hj];rfl)⟩
theorem WaMem.widen {O O':Nat→Prop} {w:World} {b ab tb kb ob:Nat} {S:Wst} {K:List (Int×KnM)} {F:List (Int×OfM)} {tg:Nat→Option WTag} (h:WaMem O w b ab tb S kb ob K F tg) (hO: ∀g,O g→O' g) (hl: ∀g,O' g→g<w.heap.size):WaMem O' w b ab tb S kb ob K F tg:=
 { h with own:=hl,inb:=hO _ h.inb,ink:=hO _ h.ink,ino:=hO _ h.ino,intg:=fun g t ht=>hO g (h.intg g t ht) }
theorem dropAll_snoc (id l:Int) (ls:List Int): ∀S:Wst,S.dropAll id (ls++ [l])=(S.dropAll id ls).drop l id:=by
 induction ls with
 | nil=>exact fun S=>rfl
 | cons y r ih=>exact fun S=>ih (S.drop y id)
theorem wpList_delK {w:World} {b:Nat} {m:List (Int×Value)} {ops:Array Oper} {rest:List Oper} {o:Oper} {a:Act} {Q:Exit→Act→World→Prop} (h:MapK w b m)
  (hg:o.guard=none) (mm x:Operand) (hop:o.op=Op.call { callee:=Callee.builtin Builtin.delete,args:= #[mm,x],argTypes:= #[154,3] }) (hm:a.eval mm= .map (some b)) (i:Int) (hx:a.eval x= .int .i64 i) (hi:(Lit.int .i64 i).wf=true)
  (hK: ∀w',MapK w' b (delA m i)→w.grownBy w' (some b)→wpList Tryz.prog ops Q rest (a.put o.dst (.tuple #[])) w'):wpList Tryz.prog ops Q (o::rest) a w:=
 wpList_delS h int_law Tryz.underlying3 Tryz.underlying154 hg mm x hop hm i hx hi hK
set_option maxRecDepth 100000 in
set_option maxHeartbeats 4000000 in
theorem wa_remove_some (b ab tb:Nat) (A:Arn) (T:Trl) (S:Wst) (id:Int) (w:World) (lab:Nat→Nat) (h:SysAt w lab b ab tb A T S) (hwf:(Lit.int .i64 id).wf=true) {k:Kn} (hk:S.kn id=some k):
  Calls Tryz.prog 135 #[.pointer (some ⟨b,0,none⟩),.int .i64 id] w fun e w'=>e= .returned (.int .i64 0)∧SysNext w w' lab b ab tb A T (S.remove id):=by
 have H:=Lib.hid h
 obtain⟨hb,kb,ob,K,F,tg,hm⟩:=h.wa
 have c2:w.cell? ⟨b,2,none⟩=some (.map (some kb)):=mx_cell (j:=2) hm.block
 have hlk:=hm.lookK hwf
 obtain⟨x,hx,rfl,hkx,hkv⟩:=hm.knAt hk
 rw[hkv]at hlk
 have d0:w.cell? ⟨x.g,0,none⟩=some x.bv:=mx_cell (j:=0) hkx.block
 obtain⟨Ab,cb,hbv,_⟩:=mx_slice hkx.by_
 have HBV:=Lib.hid hbv
 rw[hbv]at d0
 have HX:=Lib.hid hx
 have HM0:=Lib.hid (WaMNext.refl hm (Below.refl _ w))
 have HB:=Lib.hid hb
 have HRM:=Lib.hid (show S.remove id=(S.dropAll id x.k.by_).del id from by unfold Wst.remove;rw[hk])
 obtain⟨n,hn⟩: ∃n,x.k.by_.length=n:=⟨_,rfl⟩
 have hn2:n≤2:=by
  rcases (hb.kn hk).2.1 with e|⟨a,c,_,e,_⟩
  ·rw[←hn,e];simp
  ·rw[←hn,e];simp
 have HLI:=Lib.hid (fun y (hy:y∈x.k.by_)=>wf_lit ((hb.kn hk).2.2.2 y (Kn.by_lits (hb.kn hk).2.1 hy)))
 rw[hn]at d0 hbv
 have HN:=Lib.hid hn
 clear h hb hm hk hx hkx hkv hbv hn
 go_enter Tryz.func135,Tryz.ntmps135
 go_wp2_with fail
 go_loopw [24] (fun iv wq=> ∃j:Nat,j≤n∧iv= .int .i64 j∧Hid (WaMNext (fun g=>lab g=3) w wq b ab tb (S.dropAll id (x.k.by_.take j)) kb ob K)) (fun iv _=>n-(intOf iv).toNat)
 case atStart=>exact⟨0,Nat.zero_le _,rfl,HM0⟩
 case round=>
  obtain⟨j,hj,rfl,HMQ⟩:=hrel
  clear d0 c2 hlk
  by_cases hlt:j<n
  ·obtain⟨y,hy⟩:=getElem_of (l:=x.k.by_) (i:=j) (by rw[HN.out];exact hlt)
   obtain⟨⟨F1,tg1,hm1⟩,hk1⟩:=HMQ.out
   have hkx:=hm1.kn _ (getA_some HX.out)
   obtain⟨g,c,hv,hg,e0⟩:=own_get hkx.by_ hy
   have hv':=HBV.out.symm.trans hv
   simp only[Value.slice.injEq]at hv'
   obtain⟨rfl,_,rfl⟩:=hv'
   have HD:=Lib.hid (wa_drop_m b ab tb _ kb ob K F1 tg1 y id wr (dropAll_bnd id _ HB.out).1 hm1 (HLI.out y (List.mem_of_getElem? hy)))
   have HK1:=Lib.hid hk1
   have HTK:=Lib.hid (show S.dropAll id (x.k.by_.take (j+1))=(S.dropAll id (x.k.by_.take j)).drop y id from by rw[List.take_add_one,hy];exact dropAll_snoc _ _ _ _)
   clear hy hm1 hk1 hkx hv
   go_wp2_with fail
   refine HD.out.mono ?_
   rintro e w1 ⟨rfl,hn1⟩
   have HN1:=Lib.hid (WaMNext.trans HK1.out hn1)
   clear hn1 e0
   go_wp2_with fail
   go_roundw
   case rel=>exact⟨j+1,by omega,by go_num,by rw[HTK.out];exact HN1⟩
   case measure=>simp[intOf];omega
  ·obtain rfl:j=n:=by omega
   have hmq:=HMQ.out
   rw[List.take_of_length_le (by rw[HN.out];exact Nat.le_refl _)]at hmq
   obtain⟨⟨F1,tg1,hm1⟩,hk1⟩:=hmq
   have c2:wr.cell? ⟨b,2,none⟩=some (.map (some kb)):=mx_cell (j:=2) hm1.block
   have HM1:=Lib.hid hm1
   have HK1:=Lib.hid hk1
   clear hm1 hk1
   go_wp2_with (at_delete;go_must (refine wpList_delK HM1.out.kmap rfl _ _ rfl rfl id rfl hwf ?_);intro w2 hm2 hg2)
   have hd:=HM1.out.delKn (id:=id) ((Kept.grown hg2).mono (fun g _ e=>Option.some.inj e)) hm2
   have HW:=Lib.hid (show WaNext (fun g=>lab g=3) w w2 b ab tb (S.remove id)from by
    rw[HRM.out]
    refine⟨⟨(dropAll_bnd id _ HB.out).1.del id,kb,ob,_,_,_,hd.widen (fun g h=>h.imp_right (fun h=>⟨h.1,Nat.lt_of_lt_of_le h.2 hg2.size⟩)) (fun g h=>h.elim (fun h=>hd.own g (.inl h)) (fun h=>?_))⟩,(HK1.out.mono (fun _ _ h=>h.1)).trans (Kept.grown hg2) (fun g hg e=>?_)⟩
    ·exact h.2
    ·obtain rfl:=Option.some.inj e
     exact HM1.out.ink.elim (fun h=>h) (fun h=>by omega))
   clear hm2 hg2 hd c2
   go_wp2_with fail
   go_ret
   exact⟨rfl,H.out.wa_next HW.out⟩
theorem eachGo_snoc (x:Int) (c:List Int): ∀o:List Int,eachGo o (c++ [x])=if(eachGo o c).contains x=true then eachGo o c else eachGo o c++ [x]:=by
 induction c with
 | nil=>exact fun o=>rfl
 | cons y r ih=>exact fun o=>ih _
theorem eachL_snoc (x:Int) (c:List Int):eachL (c++ [x])=if(eachL c).contains x=true then eachL c else eachL c++ [x]:=eachGo_snoc x c []
set_option maxRecDepth 100000 in
set_option maxHeartbeats 4000000 in
theorem wa_once {O:Nat→Prop} (u:Value) (c:List Int) (w:World) (h:IntsIn O w u c) (hl:c.length≤1000000):
  Calls Tryz.prog 106 #[u] w fun e w'=> ∃v,e= .returned v∧w'.ownsRow w.heap.size 32 1 v (eachL c).length ((eachL c).map (Value.int .i64))∧Below w.heap.size w w':=by
 obtain⟨i0,hi,hz0,hz1,hz2⟩:=info_parts cinfo_lit
 have HU:=Lib.hid h
 obtain⟨A,k,rfl,_⟩:=h
 obtain⟨n,hn⟩: ∃n,c.length=n:=⟨_,rfl⟩
 rw[hn]at HU hl⊢
 have HN:=Lib.hid hn
 clear hn
 go_enter Tryz.func106,Tryz.ntmps106
 go_wp2_with fail
 go_loopw [3,8] (fun ov iv wq=> ∃j:Nat,j≤n∧iv= .int .i64 j∧Hid (wq.ownsRow w.heap.size 32 1 ov (eachL (c.take j)).length ((eachL (c.take j)).map (Value.int .i64)))∧Hid (Below w.heap.size w wq)) (fun _ iv _=>n-(intOf iv).toNat)
 case atStart=>exact⟨0,Nat.zero_le _,rfl,Lib.hid (World.ownsRow_nil _ _ _ _),Lib.hid (Below.refl _ _)⟩
 case round=>
  obtain⟨j,hj,rfl,HO,HBQ⟩:=hrel
  by_cases hlt:j<n
  ·obtain⟨y,hy⟩:=getElem_of (l:=c) (i:=j) (by rw[HN.out];exact hlt)
   obtain⟨g,o,rfl,hg,_,e0⟩: ∃g o,A=some ⟨g,o,none⟩∧g<w.heap.size∧O g∧w.cell? ⟨g,o+j,none⟩=some (.int .i64 y):=by
    obtain⟨A',c',hv,_,_,hx⟩:=HU.out
    simp only[Value.slice.injEq]at hv
    obtain⟨rfl,_,rfl⟩:=hv
    exact hx j y hy
   have e1:=(HBQ.out.cell (p:=⟨g,o+j,none⟩) hg).trans e0
   have HTK:=Lib.hid (show c.take (j+1)=c.take j++ [y]from by rw[List.take_add_one,hy];rfl)
   have hel:=eachL_len (c.take j)
   rw[List.length_take]at hel
   obtain⟨xs,hxs⟩: ∃z,eachL (c.take j)=z:=⟨_,rfl⟩
   rw[hxs]at HO hel
   have hsn:eachL (c.take (j+1))=if xs.contains y=true then xs else xs++ [y]:=by rw[HTK.out,eachL_snoc,hxs]
   obtain⟨Ao,co,rfl,_⟩:=mx_slice HO.out
   have HCT:=Lib.hid (contains_l _ xs y wr (IntsIn.of_own HO.out) (by omega))
   have hz:=HBQ.out.size
   obtain⟨q,hq⟩: ∃q,xs.contains y=q:=⟨_,rfl⟩
   rw[hq]at hsn HCT
   clear hy e0 hxs hq
   cases q with
   | true=>
    have HSN:=Lib.hid (show eachL (c.take (j+1))=xs from hsn)
    clear hsn
    go_wp2_with fail
    refine HCT.out.mono ?_
    rintro e w1 ⟨rfl,rfl⟩
    go_wp2_with fail
    go_roundw
    case rel=>
     refine⟨j+1,by omega,by go_num,?_,HBQ⟩
     rw[HSN.out]
     exact HO
    case measure=>simp[intOf];omega
   | false=>
    have HSN:=Lib.hid (show eachL (c.take (j+1))=xs++ [y]from hsn)
    clear hsn
    go_wp2_with fail
    refine HCT.out.mono ?_
    rintro e w1 ⟨rfl,rfl⟩
    go_wp2_with (at_builtin;refine wpList_append_own_at _ rfl _ _ 33 rfl w.heap.size 32 i0 (.int .i64 0) 1 8 Tryz.underlying33 hi hz0 hz1 hz2 rfl (by decide) _ xs.length _ rfl (own_below HO.out (mx_al wr _)) ⟨wr.heap.size,0,none⟩ 1 1 [.int .i64 y] rfl rfl (cell_one_new' _ _ _) (by simp[Value.oneCell']) (by unfold maxLen;omega) (by omega) (by simp;omega) ?_;intro v' w2' hown hgrow hnl2 hat)
    have HO2':=Lib.hid hown
    have HB2':=Lib.hid (HBQ.out.trans (((mx_al wr (.cells #[.int .i64 y] 32)).mono hz).grown hgrow (by simp;omega) (fun g hg=>(own_lt HO.out g hg).1)))
    clear hown hgrow hnl2 hat
    go_wp2
    go_roundw
    case rel=>
     refine⟨j+1,by omega,by go_num,?_,HB2'⟩
     rw[HSN.out,List.length_append,List.map_append]
     exact HO2'
    case measure=>simp[intOf];omega
  ·obtain rfl:j=n:=by omega
   have ho:=HO.out
   rw[List.take_of_length_le (by rw[HN.out];exact Nat.le_refl _)]at ho
   obtain⟨Ao,co,rfl,_⟩:=mx_slice ho
   have HO2:=Lib.hid ho
   clear ho
   go_wp2_with fail
   go_ret
   exact⟨_,rfl,HO2.out,HBQ.out⟩
theorem ar_has {O:Nat→Prop} (b:Nat) (A:Arn) (id:Int) (w:World) (h:ArAt O w b A):
  Calls Tryz.prog 134 #[.pointer (some ⟨b,0,none⟩),.int .i64 id] w fun e w'=>e= .returned (.bool (A.find id).isSome)∧Below w.heap.size w w':=by
 have HIS:=Lib.hid (ar_is b A w h)
 have hf:=ar_find b A id w h
 cases hp:A.find id with
 | none=>
  rw[hp]at hf
  have HF:=Lib.hid hf
  clear hf hp h
  go_enter Tryz.func134,Tryz.ntmps134
  go_wp2_with fail
  refine HIS.out.mono ?_
  rintro e w1 ⟨rfl,rfl⟩
  go_wp2_with fail
  refine HF.out.mono ?_
  rintro e w2 ⟨rfl,hb⟩
  have HB:=Lib.hid hb
  clear hb
  go_wp2_with fail
  go_ret
  exact⟨rfl,HB.out⟩
 | some p=>
  rw[hp]at hf
  have HF:=Lib.hid hf
  clear hf hp h
  go_enter Tryz.func134,Tryz.ntmps134
  go_wp2_with fail
  refine HIS.out.mono ?_
  rintro e w1 ⟨rfl,rfl⟩
  go_wp2_with fail
  refine HF.out.mono ?_
  rintro e w2 ⟨rfl,hb⟩
  have HB:=Lib.hid hb
  have hq:decide ((0:Int)≤(p:Int))=true:=by simp
  clear hb
  simp only[findInt]
  go_wp2_with fail
  go_ret
  exact⟨rfl,HB.out⟩
end Go.Proofs.YtoojmhjagipmdaaGreat
namespace Go.Proofs.YtoojmhjagipmdaaGreat
open Go.RowKit Go.Maps Go.Shelf Go.Sort Go.Lib
def Grw (w w':World):Prop:= ∃(q:Nat) (os:Array Obj),w'=grow (w.drewN q) os
theorem Grw.refl (w:World):Grw w w:=⟨0,#[],by rw[grow_empty];rfl⟩
theorem Grw.drewN {w w':World} (h:Grw w w') (n:Nat):Grw w (w'.drewN n):=by
 obtain⟨q,os,rfl⟩:=h
 exact⟨q+n,os,by rw[←World.drewN_drewN];rfl⟩
theorem Grw.drew {w w':World} (h:Grw w w'):Grw w w'.drew:=h.drewN 1
theorem Grw.alloc {w w':World} (h:Grw w w') (o:Obj):Grw w (w'.alloc o):=by
 obtain⟨q,os,rfl⟩:=h
 exact⟨q,os++ #[o],by rw[alloc_eq_grow,grow_grow]⟩
theorem Grw.setCell {w w':World} (h:Grw w w') {g:Nat} (hg:w.heap.size≤g) (o:Nat) (v:Value):Grw w (w'.setCell ⟨g,o,none⟩ v):=by
 obtain⟨q,os,rfl⟩:=h
 exact⟨q,_,by rw[setCell_eq,mapBlock_grow_new _ _ _ _ (show(w.drewN q).heap.size≤g from hg)]⟩
theorem Grw.trans {a b c:World} (h:Grw a b) (k:Grw b c):Grw a c:=by
 obtain⟨q,os,rfl⟩:=h
 obtain⟨q',os',rfl⟩:=k
 refine⟨q+q',os++os',?_⟩
 rw[←World.drewN_drewN]
 show grow (grow ((a.drewN q).drewN q') os) os'=_
 rw[grow_grow]
theorem Grw.size {w w':World} (h:Grw w w'):w.heap.size≤w'.heap.size:=by
 obtain⟨q,os,rfl⟩:=h
 rw[Sort.size_grow]
 show w.heap.size≤w.heap.size+_
 omega
theorem Grw.below {w w':World} (h:Grw w w'):Below w.heap.size w w':=by
 obtain⟨q,os,rfl⟩:=h
 refine⟨rfl,rfl,rfl,Grw.size ⟨q,os,rfl⟩,fun k hk=>?_⟩
 show(w.heap++os)[k]? =_
 rw[Array.getElem?_append_left hk]
set_option maxHeartbeats 1000000 in
theorem tr_why_g {O:Nat→Prop} (b:Nat) (T:Trl) (v:Int) (w:World) (h:TrAt O w b T):
  Calls Tryz.prog 57 #[.pointer (some ⟨b,0,none⟩),.int .i64 v] w fun e w'=>e= .returned (whyVal (T.why v))∧Grw w w':=by
 obtain⟨wa,hwa⟩: ∃x,w.alloc (.cells #[.int .i64 0,.int .i64 0,.int .i64 0] 103)=x:=⟨_,rfl⟩
 have hba:Below w.heap.size w wa:=by rw[←hwa];exact mx_al _ _
 have hga:Grw w wa:=by rw[←hwa];exact(Grw.refl w).alloc _
 have hbn:wa.heap[w.heap.size]? =some (.cells #[.int .i64 0,.int .i64 0,.int .i64 0] 103 (0,0)):=by rw[←hwa];exact World.alloc_heap_new _ _
 have h:=h.below hba
 obtain⟨hk,gv,cv,ov,sv,h⟩:=h
 have hst:=tr_state b T gv cv ov sv v wa hk h
 have e0:wa.cell? ⟨w.heap.size,0,none⟩=some (.int .i64 0):=mx_cell (j:=0) hbn
 have e1:wa.cell? ⟨w.heap.size,1,none⟩=some (.int .i64 0):=mx_cell (j:=1) hbn
 have e2:wa.cell? ⟨w.heap.size,2,none⟩=some (.int .i64 0):=mx_cell (j:=2) hbn
 have f0:=mx_free (j:=0) hbn
 have f1:=mx_free (j:=1) hbn
 have f2:=mx_free (j:=2) hbn
 have HWA:=Lib.hid hwa
 have HGA:=Lib.hid hga
 clear hwa hba hbn hga
 unfold Trl.why
 rcases hat:T.at v with _|s
 ·rw[hat,stateVal_none]at hst
  have HST:=Lib.hid hst
  clear hst hat h hk
  go_enter Tryz.func57,Tryz.ntmps57
  go_wp2_with fail
  rw[HWA.out]
  refine HST.out.mono ?_
  rintro e w' ⟨rfl,rfl⟩
  go_wp2_with fail
  refine bodyPost_ret (v:=.tuple #[.agg #[.int .i64 0,.int .i64 0,.int .i64 0],.bool false]) (by simp[results,Tryz.results57,go_sem,e0,e1,e2]) rfl ⟨rfl,((HGA.out.setCell (Nat.le_refl _) _ _).setCell (Nat.le_refl _) _ _).setCell (Nat.le_refl _) _ _⟩
 ·rw[hat,stateVal_some]at hst
  have hget:=Trl.at_get hat
  obtain⟨c0,c1,c2,c3⟩:=h.var hget
  obtain⟨n,hn⟩: ∃n,v.toNat=n:=⟨_,rfl⟩
  rw[hn]at hst c0 c1 c2 c3
  have HST:=Lib.hid hst
  clear hst hat hget h hk hn
  by_cases hz:s.value=0
  ·have q0:(s.value==0)=true:=by simpa using hz
   have HZ:=Lib.hid hz
   simp only[hz,if_true]
   clear hz
   go_enter Tryz.func57,Tryz.ntmps57
   go_wp2_with fail
   rw[HWA.out]
   refine HST.out.mono ?_
   rintro e w' ⟨rfl,rfl⟩
   go_wp2_with fail
   refine bodyPost_ret (v:=.tuple #[.agg #[.int .i64 0,.int .i64 0,.int .i64 0],.bool false]) (by simp[results,Tryz.results57,go_sem,e0,e1,e2]) rfl ⟨rfl,((HGA.out.setCell (Nat.le_refl _) _ _).setCell (Nat.le_refl _) _ _).setCell (Nat.le_refl _) _ _⟩
  ·have q0:(s.value==0)=false:=by simpa using hz
   simp only[hz,if_false]
   have HZ:=Lib.hid hz
   clear hz
   go_enter Tryz.func57,Tryz.ntmps57
   go_wp2_with fail
   rw[HWA.out]
   refine HST.out.mono ?_
   rintro e w' ⟨rfl,rfl⟩
   go_wp2_with fail
   refine bodyPost_ret (v:=.tuple #[.agg #[.int .i64 s.level,.int .i64 s.reason,.int .i64 s.place],.bool true]) (by simp[results,Tryz.results57,go_sem,e0,e1,e2]) rfl ⟨rfl,((HGA.out.setCell (Nat.le_refl _) _ _).setCell (Nat.le_refl _) _ _).setCell (Nat.le_refl _) _ _⟩
theorem tr_level_g {O:Nat→Prop} (b:Nat) (T:Trl) (v:Int) (w:World) (h:TrAt O w b T):
  Calls Tryz.prog 89 #[.pointer (some ⟨b,0,none⟩),.int .i64 v] w fun e w'=>e= .returned (.tuple #[.int .i64 (T.level v),.bool (T.why v).isSome])∧Grw w w':=by
 have hc:=tr_why_g b T v w h
 unfold Trl.level
 rcases hw:T.why v with _|s
 ·rw[hw,show whyVal none= .tuple #[.agg #[.int .i64 0,.int .i64 0,.int .i64 0],.bool false]from rfl]at hc
  have HC:=Lib.hid hc
  clear hc hw
  go_enter Tryz.func89,Tryz.ntmps89
  go_wp2_with fail
  refine HC.out.mono ?_
  rintro e w' ⟨rfl,hb'⟩
  have HB':=Lib.hid hb'
  clear hb'
  go_wp2_with fail
  go_ret2
  exact⟨rfl,HB'.out.alloc _⟩
 ·rw[hw,show whyVal (some s)= .tuple #[.agg #[.int .i64 s.level,.int .i64 s.reason,.int .i64 s.place],.bool true]from rfl]at hc
  have HC:=Lib.hid hc
  clear hc hw
  go_enter Tryz.func89,Tryz.ntmps89
  go_wp2_with fail
  refine HC.out.mono ?_
  rintro e w' ⟨rfl,hb'⟩
  have HB':=Lib.hid hb'
  clear hb'
  go_wp2_with fail
  go_ret2
  exact⟨rfl,HB'.out.alloc _⟩
theorem ord_nan (x:Int) (w:World):Calls Tryz.prog 155 #[.int .i64 x] w fun e w'=>e= .returned (.bool false)∧w=w':=by
 have hx:(x != x)=false:=by simp
 go_enter Tryz.func155,Tryz.ntmps155
 go_wp2_with fail
 go_ret
 exact⟨rfl,rfl⟩
theorem ord_int (x y:Int) (w:World):Calls Tryz.prog 121 #[.int .i64 x,.int .i64 y] w fun e w'=>e= .returned (.int .i64 (ordI x y))∧w=w':=by
 have HX:=Lib.hid (ord_nan x w)
 have HY:=Lib.hid (ord_nan y w)
 unfold ordI
 by_cases h1:x<y
 ·have q1:decide (x<y)=true:=by simpa using h1
  rw[if_pos h1]
  go_enter Tryz.func121,Tryz.ntmps121
  go_wp2_with fail
  refine HX.out.mono ?_
  rintro e w' ⟨rfl,rfl⟩
  go_wp2_with fail
  refine HY.out.mono ?_
  rintro e w' ⟨rfl,rfl⟩
  go_wp2_with fail
  go_ret
  exact⟨rfl,rfl⟩
 ·have q1:decide (x<y)=false:=by simpa using h1
  rw[if_neg h1]
  by_cases h2:y<x
  ·have q2:decide (y<x)=true:=by simpa using h2
   rw[if_pos h2]
   go_enter Tryz.func121,Tryz.ntmps121
   go_wp2_with fail
   refine HX.out.mono ?_
   rintro e w' ⟨rfl,rfl⟩
   go_wp2_with fail
   refine HY.out.mono ?_
   rintro e w' ⟨rfl,rfl⟩
   go_wp2_with fail
   go_ret
   exact⟨rfl,rfl⟩
  ·have q2:decide (y<x)=false:=by simpa using h2
   rw[if_neg h2]
   go_enter Tryz.func121,Tryz.ntmps121
   go_wp2_with fail
   refine HX.out.mono ?_
   rintro e w' ⟨rfl,rfl⟩
   go_wp2_with fail
   refine HY.out.mono ?_
   rintro e w' ⟨rfl,rfl⟩
   go_wp2_with fail
   go_ret
   exact⟨rfl,rfl⟩
set_option maxRecDepth 100000 in
set_option maxHeartbeats 2000000 in
theorem wa_level {O:Nat→Prop} (b tb:Nat) (T:Trl) (l:Int) (w:World) (h:TrAt O w tb T) (c1:w.cell? ⟨b,1,none⟩=some (.pointer (some ⟨tb,0,none⟩))):
  Calls Tryz.prog 147 #[.pointer (some ⟨b,0,none⟩),.int .i64 l] w fun e w'=>e= .returned (.int .i64 (T.level (litV l:Nat)))∧Grw w w':=by
 have hlt:b<w.heap.size:=World.block_lt_of_cell? w _ c1
 have HL:=Lib.hid (tr_level_g tb T (litV l:Nat) w.drew (h.below (mx_drew w)))
 have HV:=Lib.hid (lit_var l w.drew)
 obtain⟨v,hv⟩: ∃v:Int,((litV l:Nat):Int)=v:=⟨_,rfl⟩
 rw[hv]at HL HV⊢
 obtain⟨q,hq⟩: ∃q,(T.why v).isSome=q:=⟨_,rfl⟩
 obtain⟨y,hy⟩: ∃y,T.level v=y:=⟨_,rfl⟩
 rw[hq,hy]at HL
 rw[hy]
 have HC:=Lib.hid c1
 clear h hv hq hy c1
 go_enter Tryz.func147,Tryz.ntmps147
 go_upto_region 1 with fail
 refine wp_region_held_drew (S:=fun w'=>Below w.heap.size w w') (by kernel_rfl) (mx_drew w) (fun hS=>?_)
 refine takeE 0 8 ?_
 refine takeE 1 9 ?_
 refine takeE 2 10 ?_
 refine takeF 3 11 (fun wq hSw=>(hSw.cell (p:=⟨b,1,none⟩) hlt).trans HC.out) ?_
 refine takeE 4 12 ?_
 refine ready1 5 (fun K hK=>?_)
 go_simp
 refine HV.out.mono ?_
 rintro e w' ⟨rfl,rfl⟩
 refine hK.out _ _ hS (fun _=>?_)
 clear hK
 refine ready1 6 (fun K hK=>?_)
 go_simp
 refine HL.out.mono ?_
 rintro e w1 ⟨rfl,hg⟩
 refine hK.out _ _ (hS.trans (hg.below.mono hS.size)) (fun _=>?_)
 clear hK hS
 have HG:=Lib.hid ((Grw.refl w).drew.trans hg)
 have hS:Below w.heap.size w w1:=HG.out.below
 clear hg
 refine takeE 7 7 ?_
 refine takeE 8 15 ?_
 refine takeE 9 16 ?_
 refine takeE 10 5 ?_
 refine takeE 11 6 ?_
 refine wpAnyH_done (by kernel_rfl) ?_ _
 clear hS
 go_wp2_with fail
 go_ret
 exact⟨rfl,HG.out⟩
end Go.Proofs.YtoojmhjagipmdaaGreat
namespace Go.Proofs.YtoojmhjagipmdaaGreat
open Go.RowKit Go.Maps Go.Shelf Go.Sort Go.Lib
theorem lvOrd_lt (T:Trl) (a b:Int):ltOf T.lvOrd a b=decide (T.level (litV b:Nat)<T.level (litV a:Nat)):=by
 unfold ltOf Trl.lvOrd ordI
 split
 ·rename_i h
  simp[h]
 ·rename_i h
  split
  ·simp[h]
  ·simp[h]
theorem lvOrd_swo (T:Trl):SWO (ltOf T.lvOrd) where
 irrefl:=fun a=>by rw[lvOrd_lt];simp
 trans:=fun a b c h1 h2=>by
  rw[lvOrd_lt,decide_eq_true_eq]at *
  omega
 ntrans:=fun a b c h1 h2=>by
  rw[lvOrd_lt,decide_eq_false_iff_not]at *
  omega
theorem stab_permIn (T:Trl) (xs:List Int):PermIn 0 xs.toArray.size xs.toArray (Sort.insertionSort (ltOf T.lvOrd) xs.toArray 0 xs.length):=by
 have:=(insertionSort_holds (lvOrd_swo T) xs.toArray 0 xs.toArray.size (Nat.zero_le _) (Nat.le_refl _)).1
 simpa using this
theorem stab_length (T:Trl) (xs:List Int):(T.stab xs).length=xs.length:=by
 have:=(stab_permIn T xs).1
 unfold Trl.stab
 rw[Array.length_toList,this]
 simp
theorem stab_perm (T:Trl) (xs:List Int):(T.stab xs).Perm xs:=by
 obtain⟨h1,_,h2⟩:=stab_permIn T xs
 rw[Array.extract_eq_self_of_le (by rw[h1];exact Nat.le_refl _),Array.extract_eq_self_of_le (Nat.le_refl _)]at h2
 exact h2
theorem stab_mem {T:Trl} {xs:List Int} {x:Int}:x∈T.stab xs↔x∈xs:=(stab_perm T xs).mem_iff
set_option maxRecDepth 100000 in
set_option maxHeartbeats 2000000 in
theorem wa_cmp {O:Nat→Prop} (b tb Bw:Nat) (T:Trl) (x y:Int) (w:World) (hT:TrAt O w tb T) (c0:w.cell? ⟨Bw,0,none⟩=some (.pointer (some ⟨b,0,none⟩))) (c1:w.cell? ⟨b,1,none⟩=some (.pointer (some ⟨tb,0,none⟩))):
  Calls Tryz.prog 146 #[.int .i64 x,.int .i64 y,.pointer (some ⟨Bw,0,none⟩)] w fun e w'=>e= .returned (.int .i64 (T.lvOrd x y))∧Grw w w':=by
 have hl0:Bw<w.heap.size:=World.block_lt_of_cell? w _ c0
 have hl1:b<w.heap.size:=World.block_lt_of_cell? w _ c1
 have HX:=Lib.hid (fun(W:World) (h:Below w.heap.size w W)=>wa_level b tb T x W (hT.below h) ((h.cell (p:=⟨b,1,none⟩) hl1).trans c1))
 have HY:=Lib.hid (fun(W:World) (h:Below w.heap.size w W)=>wa_level b tb T y W (hT.below h) ((h.cell (p:=⟨b,1,none⟩) hl1).trans c1))
 unfold Trl.lvOrd
 obtain⟨p,hp⟩: ∃p,T.level (litV x:Nat)=p:=⟨_,rfl⟩
 obtain⟨q,hq⟩: ∃q,T.level (litV y:Nat)=q:=⟨_,rfl⟩
 rw[hp]at HX⊢
 rw[hq]at HY⊢
 have HC:=Lib.hid c0
 clear hT hp hq c0 c1
 go_enter Tryz.func146,Tryz.ntmps146
 go_upto_region 1 with fail
 refine wp_region_held_drew (S:=fun w'=>Below w.heap.size w w') (by kernel_rfl) (mx_drew w) (fun hS=>?_)
 refine takeF 0 6 (fun wq hSw=>(hSw.cell (p:=⟨Bw,0,none⟩) hl0).trans HC.out) ?_
 refine takeE 1 7 ?_
 refine takeF 3 9 (fun wq hSw=>(hSw.cell (p:=⟨Bw,0,none⟩) hl0).trans HC.out) ?_
 refine takeE 4 10 ?_
 refine ready1 2 (fun K hK=>?_)
 go_simp
 refine(HY.out _ hS).mono ?_
 rintro e w1 ⟨rfl,hg⟩
 refine hK.out _ _ (hS.trans (hg.below.mono hS.size)) (fun _=>?_)
 clear hK hS
 have HG:=Lib.hid ((Grw.refl w).drew.trans hg)
 have hS:Below w.heap.size w w1:=HG.out.below
 clear hg
 refine ready1 5 (fun K hK=>?_)
 go_simp
 refine(HX.out _ hS).mono ?_
 rintro e w2 ⟨rfl,hg⟩
 refine hK.out _ _ (hS.trans (hg.below.mono hS.size)) (fun _=>?_)
 clear hK hS
 have HG2:=Lib.hid (HG.out.trans hg)
 have hS:Below w.heap.size w w2:=HG2.out.below
 clear hg
 refine ready1 6 (fun K hK=>?_)
 go_simp
 refine(ord_int q p w2).mono ?_
 rintro e w' ⟨rfl,rfl⟩
 refine hK.out _ _ hS (fun _=>?_)
 clear hK
 refine takeE 7 5 ?_
 refine wpAnyH_done (by kernel_rfl) ?_ _
 clear hS
 go_wp2_with fail
 go_ret
 exact⟨rfl,HG2.out⟩
theorem wa_cmp_lays {O:Nat→Prop} (b tb Bw:Nat) (T:Trl) (w:World) (hT:TrAt O w tb T) (c0:w.cell? ⟨Bw,0,none⟩=some (.pointer (some ⟨b,0,none⟩))) (c1:w.cell? ⟨b,1,none⟩=some (.pointer (some ⟨tb,0,none⟩))) (g size:Nat) (hg: ¬O g∧Bw≠g∧b≠g):
  CmpLays1 Tryz.prog 146 #[.pointer (some ⟨Bw,0,none⟩)] (Value.int .i64) T.lvOrd g 0 size w:=by
 intro m os dk _ x y
 have hk:Kept (fun k=>some g=some k) w (sortWorld (Value.int .i64) w g 0 m dk os):=st_kept dk
 have hl0:Bw<w.heap.size:=World.block_lt_of_cell? w _ c0
 have hl1:b<w.heap.size:=World.block_lt_of_cell? w _ c1
 refine(wa_cmp b tb Bw T x y (sortWorld (Value.int .i64) w g 0 m dk os) (hT.kept hk (fun k hk e=>hg.1 ((Option.some.inj e).symm▸hk))) ((hk.cell (p:=⟨Bw,0,none⟩) hl0 (fun e=>hg.2.1 (Option.some.inj e).symm)).trans c0) ((hk.cell (p:=⟨b,1,none⟩) hl1 (fun e=>hg.2.2 (Option.some.inj e).symm)).trans c1)).mono ?_
 rintro e w' ⟨rfl,q,os',rfl⟩
 exact⟨rfl,q,os',rfl⟩
set_option maxRecDepth 100000 in
set_option maxHeartbeats 2000000 in
theorem wa_ins {O:Nat→Prop} {base:Nat} (b tb Bw:Nat) (T:Trl) (v:Value) (xs:List Int) (w:World) (hT:TrAt O w tb T) (c0:w.cell? ⟨Bw,0,none⟩=some (.pointer (some ⟨b,0,none⟩))) (c1:w.cell? ⟨b,1,none⟩=some (.pointer (some ⟨tb,0,none⟩)))
  (h:w.ownsRow base 32 1 v xs.length (xs.map (Value.int .i64))) (hv: ∀g,v.ownBlock=some g→¬O g∧Bw≠g∧b≠g) (hl:xs.length<1000000):
  Calls Tryz.prog 193 #[v,.int .i64 0,.int .i64 (xs.length:Nat),.func (.func 146) #[] #[.pointer (some ⟨Bw,0,none⟩)]] w fun e w'=>e= .returned (.tuple #[])∧w'.ownsRow base 32 1 v (T.stab xs).length ((T.stab xs).map (Value.int .i64))∧Kept (fun g=>v.ownBlock=some g) w w':=by
 rcases h.2 with⟨rfl,h0⟩|⟨g,cap,cur,rfl,hb,hg,h1,h2,h3,h4⟩
 ·obtain rfl:xs= []:=List.eq_nil_of_length_eq_zero h0
  have hs:T.stab []= []:=List.eq_nil_of_length_eq_zero (by rw[stab_length];rfl)
  rw[hs]
  have HO:=Lib.hid h
  clear h hv hT c0 c1 hl h0 hs
  show Calls Tryz.prog _ #[.slice none 0 0,.int .i64 0,.int .i64 0,_] w _
  go_enter Tryz.func193,Tryz.ntmps193
  go_wp2_with fail
  go_loopw [8] (fun iv wq=>iv= .int .i64 1∧wq=w) (fun _ _=>0)
  case atStart=>exact⟨rfl,rfl⟩
  case round=>
   obtain⟨rfl,rfl⟩:=hrel
   go_wp2_with fail
   go_end0
   exact⟨rfl,HO.out,Kept.refl _ _⟩
 ·have eg: ∀args w,(callFunc 146 args).run Tryz.prog w= .ok (.enter 146 args) w:=enters_of Tryz.func146 (by kernel_rfl) rfl
  have hH:Holds (Value.int .i64) w g 0 xs.toArray:=st_holds hg (by simpa using h4)
  have H:=Any.insertionSortCmpFunc_s Tryz.insLit (Value.int .i64) T.lvOrd 146 #[.pointer (some ⟨Bw,0,none⟩)] g 0 cap 0 xs.length xs.toArray xs.toArray w w eg (wa_cmp_lays b tb Bw T w hT c0 c1 g _ (hv g rfl)) ⟨fun _=>rfl,hH,heap_lt hg⟩ rfl (SW.start hH) (Nat.zero_le _) (by simp) (by simp;omega)
  change Calls Tryz.prog 193 _ _ _ at H
  rw[List.size_toArray]at H
  refine H.mono ?_
  rintro e w' ⟨rfl,n,os,rfl⟩
  refine⟨rfl,?_,st_kept _⟩
  have hsl:=stab_length T xs
  have e1:Sort.insertionSort (ltOf T.lvOrd) xs.toArray 0 xs.length=(T.stab xs).toArray:=by unfold Trl.stab;simp
  rw[e1,hsl]
  refine⟨by simp[hsl],.inr ⟨g,cap,_,rfl,hb,st_heap _ hg,h1,h2,by simp[putCells,h3],?_⟩⟩
  have e2:xs.length*1=(T.stab xs).length:=by rw[hsl,Nat.mul_one]
  rw[e2]
  exact st_take cur (T.stab xs) (by rw[hsl];omega)
set_option maxRecDepth 100000 in
set_option maxHeartbeats 2000000 in
theorem wa_stable {O:Nat→Prop} {base:Nat} (b tb Bw:Nat) (T:Trl) (v:Value) (xs:List Int) (w:World) (hT:TrAt O w tb T) (c0:w.cell? ⟨Bw,0,none⟩=some (.pointer (some ⟨b,0,none⟩))) (c1:w.cell? ⟨b,1,none⟩=some (.pointer (some ⟨tb,0,none⟩)))
  (h:w.ownsRow base 32 1 v xs.length (xs.map (Value.int .i64))) (hv: ∀g,v.ownBlock=some g→¬O g∧Bw≠g∧b≠g) (hl:xs.length<20):
  Calls Tryz.prog 145 #[v,.func (.func 146) #[] #[.pointer (some ⟨Bw,0,none⟩)]] w fun e w'=>e= .returned (.tuple #[])∧w'.ownsRow base 32 1 v (T.stab xs).length ((T.stab xs).map (Value.int .i64))∧Kept (fun g=>v.ownBlock=some g) w w':=by
 have HI:=Lib.hid (wa_ins b tb Bw T v xs w hT c0 c1 h hv (by omega))
 obtain⟨A,c,rfl,_⟩:=mx_slice h
 obtain⟨n,hn⟩: ∃n,xs.length=n:=⟨_,rfl⟩
 rw[hn]at HI hl⊢
 have hq1:decide ((20:Int)≤(n:Int))=false:=by simp;omega
 have hq2:decide ((20:Int)<(n:Int))=false:=by simp;omega
 have HS:=Lib.hid (show Calls Tryz.prog 179 #[.slice A n c,.int .i64 (n:Nat),.func (.func 146) #[] #[.pointer (some ⟨Bw,0,none⟩)]] w fun e w'=>e= .returned (.tuple #[])∧w'.ownsRow base 32 1 (.slice A n c) (T.stab xs).length ((T.stab xs).map (Value.int .i64))∧Kept (fun g=>(Value.slice A n c).ownBlock=some g) w w' from by
  clear hT c0 c1 h hv hn
  go_enter Tryz.func179,Tryz.ntmps179
  go_wp2_with fail
  go_loopw [7,8] (fun a i wq=>a= .int .i64 0∧i= .int .i64 20∧wq=w) (fun _ _ _=>0)
  case atStart=>exact⟨rfl,rfl,rfl⟩
  case round=>
   obtain⟨rfl,rfl,rfl⟩:=hrel
   go_wp2_with fail
   refine HI.out.mono ?_
   rintro e w1 ⟨rfl,hr,hk⟩
   have HR:=Lib.hid hr
   have HK:=Lib.hid hk
   clear hr hk
   go_wp2_with fail
   go_loopw [6] (fun s wq=>s= .int .i64 20∧wq=w1) (fun _ _=>0)
   case atStart=>exact⟨rfl,rfl⟩
   case round=>
    obtain⟨rfl,rfl⟩:=hrel
    go_wp2_with fail
    go_end0
    exact⟨rfl,HR.out,HK.out⟩)
 clear hT c0 c1 h hv hn HI hq1 hq2
 go_enter Tryz.func145,Tryz.ntmps145
 go_wp2_with fail
 refine HS.out.mono ?_
 rintro e w1 ⟨rfl,hr,hk⟩
 have HR:=Lib.hid hr
 have HK:=Lib.hid hk
 clear hr hk
 go_wp2_with fail
 go_end0
 exact⟨rfl,HR.out,HK.out⟩
end Go.Proofs.YtoojmhjagipmdaaGreat
