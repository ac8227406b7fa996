/- Maps of package rup: at the type values; keys that are literals. package rup: look. slices.Clone at clauses. package rup: Assume. -/
import Derived.Test.YtajbmjpodeilpaaGreatV104
import Derived.Test.YtajbmjpodeilpaaGreatV101
import Derived.Test.YtajbmjpodeilpaaGreatV102
namespace Go.Proofs.YtajbmjpodeilpaaGreat
open Go.RowKit Go.Maps Go.Shelf
theorem MapAt.lookV {w:World} {b n:Nat} {f:Int→Int} (h:MapAt w b n f) {x:Int} (hx:(Lit.int .i64 x).wf=true):
  (Instr.lookup 187 (.map (some b)) (.int .i64 x) false).run Tryz.prog w= .ok (.int .i64 (f x)) w:=by
 obtain⟨D,ho,hm,hf⟩:=h
 obtain⟨c,hrun,hat,_⟩:=ho.lookup_int int_law Tryz.underlying187 Tryz.underlying3 (int_zero _) (keyOf_int_mk Tryz.underlying3 hx)
 have:=hf x hx
 rw[hat]at this
 have hc:c=f x:=by simpa using this
 rw[hrun,hc]
theorem wpList_putV {w:World} {ops:Array Oper} {rest:List Oper} {o:Oper} {a:Act} {Q:Exit→Act→World→Prop} {b n:Nat} {f:Int→Int} (hown:MapAt w b n f)
  (hg:o.guard=none) (m x v:Operand) (hop:o.op=Op.mapUpdate 187 m x v) (hm:a.eval m= .map (some b)) (hn:n<maxLen) (i y:Int) (hx:a.eval x= .int .i64 i) (hv:a.eval v= .int .i64 y)
  (hi:(Lit.int .i64 i).wf=true) (hy:(Lit.int .i64 y).wf=true)
  (hK: ∀w',MapAt w' b (n+1) (fun z=>if z=i then y else f z)→w.grownBy w' (some b)→wpList Tryz.prog ops Q rest (a.put o.dst undef) w'):wpList Tryz.prog ops Q (o::rest) a w:=by
 obtain⟨D,ho,hmap,hf⟩:=hown
 exact wpList_mapUpdate_own w hg m x v _ hop 3 3 int_law Tryz.underlying187 _ b n D hm ho hn _ _ _ hx hv (keyOf_int_mk Tryz.underlying3 hi) _ [] (plainElem_int Tryz.underlying3 hy)
  (fun w' h1 h2=>hK w' (MapAt.put hmap hf h1) h2)
theorem lit_law:Keyed Tryz.prog 55:=int_keyed Tryz.underlying55
def MapL (w:World) (b n:Nat) (f:Int→Int):Prop:=
 ∃D:DataW Unit,w.ownsMap Tryz.prog 55 (plainElem Tryz.prog 3) b n D∧IsMap D∧∀x:Int,(Lit.int .i64 x).wf=true→D.atKey (.int .i64 x) (.lit (.int .i64 0))= .lit (.int .i64 (f x))
theorem MapL.lt {w:World} {b n:Nat} {f:Int→Int} (h:MapL w b n f):b<w.heap.size:=by
 obtain⟨D,⟨es,cl,hb,_⟩,_⟩:=h
 exact heap_lt hb
theorem MapL.kept {O:Nat→Prop} {w w':World} {b n:Nat} {f:Int→Int} (h:MapL w b n f) (k:Kept O w w') (hO: ¬O b):MapL w' b n f:=by
 obtain⟨D,⟨es,cl,hb,rest⟩,h2⟩:=h
 exact⟨D,⟨es,cl,(k.block b (heap_lt hb) hO).trans hb,rest⟩,h2⟩
theorem MapL.below {w w':World} {b n:Nat} {f:Int→Int} (h:MapL w b n f) (k:Below w.heap.size w w'):MapL w' b n f:=
 h.kept (O:=fun _=>False) (Kept.of_below k) (fun h=>h)
theorem MapL.made (w:World):MapL (w.alloc (.map #[] 0)) w.heap.size 0 (fun _=>0):=
 ⟨.map [],World.ownsMap_made _ _ _ _,isMap_empty,fun _ _=>rfl⟩
theorem MapL.put {w':World} {b n:Nat} {f:Int→Int} {D:DataW Unit} {x y:Int} (hm:IsMap D) (hf: ∀x:Int,(Lit.int .i64 x).wf=true→D.atKey (.int .i64 x) (.lit (.int .i64 0))= .lit (.int .i64 (f x)))
  (h:w'.ownsMap Tryz.prog 55 (plainElem Tryz.prog 3) b (n+1) (D.put (.int .i64 x) (.lit (.int .i64 y)))):MapL w' b (n+1) (fun z=>if z=x then y else f z):=by
 refine⟨_,h,hm.put _ _,fun z hz=>?_⟩
 show _=DataW.lit (Lit.int .i64 (if z=x then y else f z))
 by_cases hzx:z=x
 ·subst hzx
  rw[if_pos rfl,atKey_put_same hm (by simp[WideAt.IsKeyLit])]
 ·rw[if_neg hzx,atKey_put_other (by simpa using hzx),hf z hz]
theorem MapL.look {w:World} {b n:Nat} {f:Int→Int} (h:MapL w b n f) {x:Int} (hx:(Lit.int .i64 x).wf=true):
  (Instr.lookup 192 (.map (some b)) (.int .i64 x) false).run Tryz.prog w= .ok (.int .i64 (f x)) w:=by
 obtain⟨D,ho,hm,hf⟩:=h
 obtain⟨c,hrun,hat,_⟩:=ho.lookup_int lit_law Tryz.underlying192 Tryz.underlying3 (int_zero _) (keyOf_int_mk Tryz.underlying55 hx)
 have:=hf x hx
 rw[hat]at this
 have hc:c=f x:=by simpa using this
 rw[hrun,hc]
theorem wpList_putL {w:World} {ops:Array Oper} {rest:List Oper} {o:Oper} {a:Act} {Q:Exit→Act→World→Prop} {b n:Nat} {f:Int→Int} (hown:MapL w b n f)
  (hg:o.guard=none) (m x v:Operand) (hop:o.op=Op.mapUpdate 192 m x v) (hm:a.eval m= .map (some b)) (hn:n<maxLen) (i y:Int) (hx:a.eval x= .int .i64 i) (hv:a.eval v= .int .i64 y)
  (hi:(Lit.int .i64 i).wf=true) (hy:(Lit.int .i64 y).wf=true)
  (hK: ∀w',MapL w' b (n+1) (fun z=>if z=i then y else f z)→w.grownBy w' (some b)→wpList Tryz.prog ops Q rest (a.put o.dst undef) w'):wpList Tryz.prog ops Q (o::rest) a w:=by
 obtain⟨D,ho,hmap,hf⟩:=hown
 exact wpList_mapUpdate_own w hg m x v _ hop 55 3 lit_law Tryz.underlying192 _ b n D hm ho hn _ _ _ hx hv (keyOf_int_mk Tryz.underlying55 hi) _ [] (plainElem_int Tryz.underlying3 hy)
  (fun w' h1 h2=>hK w' (MapL.put hmap hf h1) h2)
end Go.Proofs.YtajbmjpodeilpaaGreat
namespace Go.Proofs.YtajbmjpodeilpaaGreat
open Go.RowKit Go.Maps Go.Shelf
def ofF (f:Int→Int) (l:Int):Int:=if litG l=true then-f (litV l:Nat)else f (litV l:Nat)
def putF (f:Int→Int) (l:Int):Int→Int:=fun z=>if z=((litV l:Nat):Int)then(if litG l=true then -1 else 1)else f z
def okF (f:Int→Int):Prop:= ∀z,-1≤f z∧f z≤1
theorem okF_put {f:Int→Int} (h:okF f) (l:Int):okF (putF f l):=by
 intro z
 unfold putF
 split
 ·split <;> omega
 ·exact h z
theorem wf_var (l:Int):(Lit.int .i64 ((litV l:Nat):Int)).wf=true:=by
 have h:litV l≤1048576:=by
  unfold litV
  split
  ·rename_i h
   have:=(litB_iff l).1 h
   omega
  ·omega
 exact wf64 (by omega) (by omega)
theorem rup_of (b n:Nat) (f:Int→Int) (l:Int) (w:World) (h:MapAt w b n f) (hf:okF f):
  Calls Tryz.prog 137 #[.map (some b),.int .i64 l] w fun e w'=>e= .returned (.int .i64 (ofF f l))∧w=w':=by
 have hl:=h.lookV (wf_var l)
 have HV:=Lib.hid (lit_var l w)
 have HG:=lit_negated l w
 have hx:=hf (litV l:Nat)
 unfold ofF
 obtain⟨v,hv⟩: ∃v:Int,((litV l:Nat):Int)=v:=⟨_,rfl⟩
 rw[hv]at HV hl hx⊢
 obtain⟨y,hy⟩: ∃y:Int,f v=y:=⟨_,rfl⟩
 rw[hy]at hl hx⊢
 have hw:IntKind.i64.wrap (-y)= -y:=IntWalk.i64_in _ (by omega)
 clear h hf hv hy
 cases hg:litG l with
 | false=>
  rw[hg]at HG
  rw[if_neg (by decide)]
  have HG:=Lib.hid HG
  clear hg
  go_enter Tryz.func137,Tryz.ntmps137
  go_wp2_with fail
  refine HV.out.mono ?_
  rintro e w' ⟨rfl,rfl⟩
  go_wp2_with fail
  refine HG.out.mono ?_
  rintro e w' ⟨rfl,rfl⟩
  go_wp2_with fail
  go_ret
  exact⟨rfl,rfl⟩
 | true=>
  rw[hg]at HG
  rw[if_pos rfl]
  have HG:=Lib.hid HG
  clear hg
  go_enter Tryz.func137,Tryz.ntmps137
  go_wp2_with fail
  refine HV.out.mono ?_
  rintro e w' ⟨rfl,rfl⟩
  go_wp2_with fail
  refine HG.out.mono ?_
  rintro e w' ⟨rfl,rfl⟩
  go_wp2_with fail
  go_ret
  exact⟨rfl,rfl⟩
theorem rup_put (b n:Nat) (f:Int→Int) (l:Int) (w:World) (h:MapAt w b n f) (hn:n≤1000000000000):
  Calls Tryz.prog 138 #[.map (some b),.int .i64 l] w fun e w'=>e= .returned (.tuple #[])∧(∃n',n'≤n+2∧MapAt w' b n' (putF f l))∧Kept (fun g=>g=b) w w':=by
 have HV:=Lib.hid (fun W=>lit_var l W)
 have HG:=fun W=>lit_negated l W
 have HW:=Lib.hid (wf_var l)
 have HM:=Lib.hid h
 unfold putF
 obtain⟨v,hv⟩: ∃v:Int,((litV l:Nat):Int)=v:=⟨_,rfl⟩
 rw[hv]at HV HW⊢
 clear h hv
 cases hg:litG l with
 | false=>
  rw[hg]at HG
  simp only[Bool.false_eq_true,if_false]
  have HG:=Lib.hid HG
  clear hg
  go_enter Tryz.func138,Tryz.ntmps138
  go_wp2_with fail
  refine(HV.out _).mono ?_
  rintro e w' ⟨rfl,rfl⟩
  go_wp2_with (at_mapUpdate;refine wpList_putV HM.out rfl _ _ _ rfl rfl (by unfold maxLen;omega) v 1 rfl rfl HW.out rfl ?_;intro w1 hm hg)
  have HM1:=Lib.hid hm
  have HK1:=Lib.hid (Kept.grown hg)
  clear hm hg
  go_wp2_with fail
  refine(HG.out _).mono ?_
  rintro e w' ⟨rfl,rfl⟩
  go_wp2_with fail
  go_end0
  exact⟨rfl,⟨n+1,by omega,HM1.out⟩,HK1.out.mono (fun g _ h=>by cases h;rfl)⟩
 | true=>
  rw[hg]at HG
  simp only[if_true]
  have HG:=Lib.hid HG
  clear hg
  go_enter Tryz.func138,Tryz.ntmps138
  go_wp2_with fail
  refine(HV.out _).mono ?_
  rintro e w' ⟨rfl,rfl⟩
  go_wp2_with (at_mapUpdate;refine wpList_putV HM.out rfl _ _ _ rfl rfl (by unfold maxLen;omega) v 1 rfl rfl HW.out rfl ?_;intro w1 hm hg)
  have HM1:=Lib.hid hm
  have HK1:=Lib.hid (Kept.grown hg)
  clear hm hg
  go_wp2_with fail
  refine(HG.out _).mono ?_
  rintro e w' ⟨rfl,rfl⟩
  go_wp2_with fail
  refine(HV.out _).mono ?_
  rintro e w' ⟨rfl,rfl⟩
  go_wp2_with (at_mapUpdate;refine wpList_putV HM1.out rfl _ _ _ rfl rfl (by unfold maxLen;omega) v (-1) rfl rfl HW.out rfl ?_;intro w2 hm hg)
  have HM2:=Lib.hid hm
  have HK2:=Lib.hid (Kept.grown hg)
  clear hm hg
  go_wp2_with fail
  go_end0
  refine⟨rfl,⟨n+1+1,Nat.le_refl _,?_⟩,(HK1.out.mono (O':=fun g=>g=b) (fun g _ h=>by cases h;rfl)).trans HK2.out (fun i _ h=>by cases h;rfl)⟩
  have h2:=HM2.out
  have e:(fun z=>if z=v then(-1:Int)else if z=v then 1 else f z)=(fun z=>if z=v then -1 else f z):=by
   funext z
   by_cases hz:z=v
   ·rw[if_pos hz,if_pos hz]
   ·rw[if_neg hz,if_neg hz,if_neg hz]
  rwa [e]at h2
def lukGo (f:Int→Int) (k:Nat) (u:Int):List Int→Nat×Int
 | []=>(k,if k=3 then u else 0)
 | l::r=>if 0<ofF f l then(1,0)else if ofF f l<0∨l=u then lukGo f k u r else if u=0 then lukGo f 3 l r else lukGo f 4 u r
def lookF (f:Int→Int) (c:List Int):Nat×Int:=lukGo f 2 0 c
def asgGo (f:Int→Int):List Int→Option (Int→Int)
 | []=>some f
 | x::r=>if litB x=true∧0≤ofF f x then asgGo (putF f x) r else none
def asgF (xs:List Int):Option (Int→Int):=asgGo (fun _=>0) xs
def AsgOut (w w':World) (m:Nat) (e:Ending):Option (Int→Int)→Prop
 | some f=> ∃b n,e= .returned (.tuple #[.map (some b),.bool true])∧w.heap.size≤b∧n≤2*m∧MapAt w' b n f∧okF f
 | none=>e= .returned (.tuple #[.map none,.bool false])
set_option maxRecDepth 100000 in
set_option maxHeartbeats 2000000 in
theorem rup_assigned {O:Nat→Prop} (u:Value) (xs:List Int) (w:World) (hu:IntsIn O w u xs) (hlen:xs.length≤100000000000):
  Calls Tryz.prog 105 #[u] w fun e w'=>AsgOut w w' xs.length e (asgF xs)∧Below w.heap.size w w':=by
 have hmm:=@run_makeMap Tryz.prog
 obtain⟨W0,hW0⟩: ∃x,w.alloc (.map #[] 0)=x:=⟨_,rfl⟩
 have hb0:Below w.heap.size w W0:=by rw[←hW0];exact mx_al _ _
 have hm0:MapAt W0 w.heap.size 0 (fun _=>0):=by rw[←hW0];exact MapAt.made w
 have HU:=Lib.hid hu.lt
 obtain⟨A,c,rfl,hc,_,_⟩:=hu
 have HW0:=Lib.hid hW0
 have HB0:=Lib.hid hb0
 have HM0:=Lib.hid hm0
 obtain⟨res,hres⟩: ∃r,asgF xs=r:=⟨_,rfl⟩
 have HRS:=Lib.hid hres
 rw[hres]
 clear hW0 hb0 hm0 hres
 go_enter Tryz.func105,Tryz.ntmps105
 go_wp2_with fail
 rw[HW0.out]
 go_loopw [10] (fun i wr=> ∃(k n:Nat) (f:Int→Int),k≤xs.length∧i= .int .i64 k∧n≤2*k∧Hid (asgGo f (xs.drop k)=res)∧Hid (okF f)∧Hid (MapAt wr w.heap.size n f)∧Hid (Below w.heap.size w wr)) (fun i _=>xs.length-(intOf i).toNat)
 case atStart=>exact⟨0,0,_,Nat.zero_le _,rfl,Nat.le_refl _,HRS,Lib.hid (fun z=>by simp),HM0,HB0⟩
 case round=>
  obtain⟨k,n,f,hk,rfl,hn,HG,HF,HM,HB⟩:=hrel
  by_cases hlt:k<xs.length
  ·obtain⟨x,hxk⟩:=getElem_of hlt
   obtain⟨A',c',hAc,_,_,hxs⟩:=HU.out
   simp only[Value.slice.injEq,true_and]at hAc
   obtain⟨rfl,rfl⟩:=hAc
   obtain⟨g,o,rfl,hg,_,d0⟩:=hxs k x hxk
   have d1:wr.cell? ⟨g,o+k,none⟩=some (.int .i64 x):=(HB.out.cell (p:=⟨g,o+k,none⟩) hg).trans d0
   have hdk:xs.drop k=x::xs.drop (k+1):=by
    rw[List.drop_eq_getElem_cons hlt]
    rw[List.getElem?_eq_getElem hlt]at hxk
    rw[Option.some.inj hxk]
   have hgo:=HG.out
   rw[hdk]at hgo
   simp only[asgGo]at hgo
   have HR:=right_lit x wr
   have HOF:=rup_of w.heap.size n f x wr HM.out HF.out
   have HPT:=Lib.hid (rup_put w.heap.size n f x wr HM.out (by omega))
   cases hb:litB x with
   | false=>
    rw[hb]at HR hgo
    rw[if_neg (by simp)]at hgo
    have HN:=Lib.hid hgo
    have HR:=Lib.hid HR
    clear hgo hb hdk hxk hxs d0 HOF
    go_wp2_with fail
    refine HR.out.mono ?_
    rintro e w' ⟨rfl,rfl⟩
    go_wp2_with fail
    refine bodyPost_ret (results_tmp2 rfl _ _ _) rfl ?_
    rw[←HN.out]
    exact⟨rfl,HB.out⟩
   | true=>
    rw[hb]at HR hgo
    have HR:=Lib.hid HR
    by_cases hv:0≤ofF f x
    ·rw[if_pos ⟨rfl,hv⟩]at hgo
     obtain⟨y,hy⟩: ∃y,ofF f x=y:=⟨_,rfl⟩
     rw[hy]at HOF hv
     have hd:decide (y<0)=false:=by simpa using hv
     have HOF:=Lib.hid HOF
     have HN:=Lib.hid hgo
     clear hgo hb hdk hxk hxs d0 hy hv
     go_wp2_with fail
     refine HR.out.mono ?_
     rintro e w' ⟨rfl,rfl⟩
     go_wp2_with fail
     refine HOF.out.mono ?_
     rintro e w' ⟨rfl,rfl⟩
     go_wp2_with fail
     refine HPT.out.mono ?_
     rintro e w4 ⟨rfl,⟨n',hn',hm'⟩,hk'⟩
     have HM4:=Lib.hid hm'
     have HB4:=Lib.hid (HB.out.trans (hk'.below (fun g e=>by rw[e];exact Nat.le_refl _) HB.out.size))
     clear hm' hk'
     go_wp2_with fail
     go_roundw
     case rel=>exact⟨k+1,n',_,by omega,by go_num,by omega,HN,Lib.hid (okF_put HF.out x),HM4,HB4⟩
     case measure=>simp[intOf];omega
    ·rw[if_neg (fun h=>hv h.2)]at hgo
     obtain⟨y,hy⟩: ∃y,ofF f x=y:=⟨_,rfl⟩
     rw[hy]at HOF hv
     have hd:decide (y<0)=true:=by simpa using hv
     have HOF:=Lib.hid HOF
     have HN:=Lib.hid hgo
     clear hgo hb hdk hxk hxs d0 hy hv
     go_wp2_with fail
     refine HR.out.mono ?_
     rintro e w' ⟨rfl,rfl⟩
     go_wp2_with fail
     refine HOF.out.mono ?_
     rintro e w' ⟨rfl,rfl⟩
     go_wp2_with fail
     refine bodyPost_ret (results_tmp2 rfl _ _ _) rfl ?_
     rw[←HN.out]
     exact⟨rfl,HB.out⟩
  ·obtain rfl:k=xs.length:=by omega
   have hgo:=HG.out
   rw[List.drop_length]at hgo
   have HN:=Lib.hid (show some f=res from hgo)
   clear hgo
   go_wp2_with fail
   refine bodyPost_ret (results_tmp2 rfl _ _ _) rfl ?_
   rw[←HN.out]
   exact⟨⟨_,n,rfl,Nat.le_refl _,hn,HM.out,HF.out⟩,HB.out⟩
end Go.Proofs.YtajbmjpodeilpaaGreat
namespace Go.Proofs.YtajbmjpodeilpaaGreat
open Go.RowKit Go.Maps Go.Shelf
set_option maxRecDepth 100000 in
set_option maxHeartbeats 2000000 in
theorem rup_look {O:Nat→Prop} (b n:Nat) (f:Int→Int) (u:Value) (xs:List Int) (w:World) (h:MapAt w b n f) (hf:okF f) (hu:IntsIn O w u xs) (hlen:xs.length≤100000000000):
  Calls Tryz.prog 139 #[.map (some b),u] w fun e w'=>e= .returned (.tuple #[.int .u8 ((lookF f xs).1:Nat),.int .i64 (lookF f xs).2])∧w=w':=by
 have HX:=Lib.hid hu
 obtain⟨A,c,rfl,hc,_,_⟩:=hu
 obtain⟨K,hK⟩: ∃z,(lookF f xs).1=z:=⟨_,rfl⟩
 obtain⟨U,hU⟩: ∃z,(lookF f xs).2=z:=⟨_,rfl⟩
 have HL:=Lib.hid (show lukGo f 2 0 xs=(K,U)from Prod.ext hK hU)
 rw[hK,hU]
 have HO:=Lib.hid (fun l=>rup_of b n f l w h hf)
 clear h hf hK hU
 go_enter Tryz.func139,Tryz.ntmps139
 go_wp2_with fail
 refine wp_scope_straight ?_
 go_wp2_with fail
 refine wp_label ?_
 go_wp2_with fail
 go_loopw [6,7,13] (fun kv uv iv wr=> ∃(j k:Nat) (t:Int),j≤xs.length∧iv= .int .i64 j∧kv= .int .u8 (k:Nat)∧uv= .int .i64 t∧Hid (lukGo f k t (xs.drop j)=(K,U))∧wr=w) (fun _ _ iv _=>xs.length-(intOf iv).toNat)
 case atStart=>exact⟨0,2,0,Nat.zero_le _,rfl,rfl,rfl,HL,rfl⟩
 case round=>
  obtain⟨j,k,t,hj,rfl,rfl,rfl,HG,rfl⟩:=hrel
  by_cases hlt:j<xs.length
  ·obtain⟨x,hxk⟩:=getElem_of hlt
   obtain⟨A',c',hAc,_,_,hxs⟩:=HX.out
   simp only[Value.slice.injEq,true_and]at hAc
   obtain⟨rfl,rfl⟩:=hAc
   obtain⟨g,o,rfl,hg,_,d0⟩:=hxs j x hxk
   have hdk:xs.drop j=x::xs.drop (j+1):=by
    rw[List.drop_eq_getElem_cons hlt]
    rw[List.getElem?_eq_getElem hlt]at hxk
    rw[Option.some.inj hxk]
   have hgo:=HG.out
   rw[hdk]at hgo
   simp only[lukGo]at hgo
   have HOF:=HO.out x
   obtain⟨y,hy⟩: ∃y,ofF f x=y:=⟨_,rfl⟩
   rw[hy]at HOF hgo
   have HOF:=Lib.hid HOF
   clear hxk hxs hdk hy HG
   by_cases h1:0<y
   ·rw[if_pos h1]at hgo
    have d1:decide (0<y)=true:=by simpa using h1
    have HKU:=Lib.hid hgo
    clear hgo h1
    go_wp2_with fail
    refine HOF.out.mono ?_
    rintro e w' ⟨rfl,rfl⟩
    go_wp2_with fail
    rw[Exit.noGoto_ret]
    refine bodyPost_ret (results_tmp2 rfl _ _ _) rfl ?_
    have h:=HKU.out
    simp only[Prod.mk.injEq]at h
    obtain⟨rfl,rfl⟩:=h
    exact⟨rfl,rfl⟩
   ·rw[if_neg h1]at hgo
    have d1:decide (0<y)=false:=by simpa using h1
    by_cases h2:y<0
    ·rw[if_pos (.inl h2)]at hgo
     have d2:decide (y<0)=true:=by simpa using h2
     have HG:=Lib.hid hgo
     clear hgo h1 h2
     go_wp2_with fail
     refine HOF.out.mono ?_
     rintro e w' ⟨rfl,rfl⟩
     go_wp2_with fail
     go_roundw
     case rel=>exact⟨j+1,k,t,by omega,by go_num,rfl,rfl,HG,trivial⟩
     case measure=>simp[intOf];omega
    ·have d2:decide (y<0)=false:=by simpa using h2
     by_cases h3:x=t
     ·rw[if_pos (.inr h3)]at hgo
      have d3:(x==t)=true:=by simpa using h3
      have HG:=Lib.hid hgo
      clear hgo h1 h2 h3
      go_wp2_with fail
      refine HOF.out.mono ?_
      rintro e w' ⟨rfl,rfl⟩
      go_wp2_with fail
      go_roundw
      case rel=>exact⟨j+1,k,t,by omega,by go_num,rfl,rfl,HG,trivial⟩
      case measure=>simp[intOf];omega
     ·rw[if_neg (fun h=>h.elim h2 h3)]at hgo
      have d3:(x==t)=false:=by simpa using h3
      by_cases h4:t=0
      ·rw[if_pos h4]at hgo
       have d4:(t==0)=true:=by simpa using h4
       have HG:=Lib.hid hgo
       clear hgo h1 h2 h3 h4
       go_wp2_with fail
       refine HOF.out.mono ?_
       rintro e w' ⟨rfl,rfl⟩
       go_wp2_with fail
       go_roundw
       case rel=>exact⟨j+1,3,x,by omega,by go_num,rfl,rfl,HG,trivial⟩
       case measure=>simp[intOf];omega
      ·rw[if_neg h4]at hgo
       have d4:(t==0)=false:=by simpa using h4
       have HG:=Lib.hid hgo
       clear hgo h1 h2 h3 h4
       go_wp2_with fail
       refine HOF.out.mono ?_
       rintro e w' ⟨rfl,rfl⟩
       go_wp2_with fail
       go_roundw
       case rel=>exact⟨j+1,4,t,by omega,by go_num,rfl,rfl,HG,trivial⟩
       case measure=>simp[intOf];omega
  ·obtain rfl:j=xs.length:=by omega
   have hgo:=HG.out
   rw[List.drop_length]at hgo
   simp only[lukGo,Prod.mk.injEq]at hgo
   obtain⟨rfl,hgo⟩:=hgo
   by_cases h3:k=3
   ·rw[if_pos h3]at hgo
    have d3:((k:Int) != 3)=false:=by simp[h3]
    have HG:=Lib.hid hgo
    clear hgo h3
    go_wp2_with fail
    rw[Exit.noGoto_ret]
    refine bodyPost_ret (results_tmp2 rfl _ _ _) rfl ?_
    rw[←HG.out]
    exact⟨rfl,rfl⟩
   ·rw[if_neg h3]at hgo
    have d3:((k:Int) != 3)=true:=by simp;omega
    have HG:=Lib.hid hgo
    clear hgo h3
    go_wp2_with fail
    rw[Exit.noGoto_ret]
    refine bodyPost_ret (results_tmp2 rfl _ _ _) rfl ?_
    rw[←HG.out]
    exact⟨rfl,rfl⟩
end Go.Proofs.YtajbmjpodeilpaaGreat
namespace Go.Proofs.YtajbmjpodeilpaaGreat
open Go.RowKit
set_option maxRecDepth 100000 in
set_option maxHeartbeats 2000000 in
theorem clone_row (A:Option Addr) (k c:Nat) (us:List Value) (w:World) (h:SrcAt w (.slice A k c) k us) (hn:A=none→k=0∧c=0) (hl:us.length=k) (h1: ∀z∈us,z.oneCell'=true) (hk:k≤1000000000):
  Calls Tryz.prog 133 #[.slice A k c] w fun e w'=> ∃v,e= .returned v∧w'.ownsRow w.heap.size 31 1 v k us∧Below w.heap.size w w':=by
 obtain⟨i0,hi,hz0,hz1,hz2⟩:=info_parts info_cls
 cases A with
 | none=>
  obtain⟨rfl,rfl⟩:=hn rfl
  obtain rfl:us= []:=List.eq_nil_of_length_eq_zero hl
  have hq:=fun w=>Lib.run_eql_slice_nil (P:=Tryz.prog) w 22 31 none 0 0 0 0 Tryz.underlying22
  clear h h1
  go_enter Tryz.func133,Tryz.ntmps133
  go_wp2
  go_ret
  exact⟨_,rfl,World.ownsRow_nil _ _ _ _,Below.refl _ _⟩
 | some a=>
  have hq:=fun w=>Lib.run_eql_slice_nil (P:=Tryz.prog) w 22 31 (some a) k c 0 0 Tryz.underlying22
  have hnews: ∀j u,us[j]? =some u→(w.alloc (.cells #[] 31)).cell? (a.add j)=some u:=fun j u hj=>by
   rcases h with⟨h,_⟩|⟨ad,c',hv,hx⟩
   ·cases h
   ·cases hv
    have h0:=hx j u hj
    exact((mx_al w _).cell (World.block_lt_of_cell? w _ h0)).trans h0
  have HN:=Lib.hid hnews
  have H1:=Lib.hid h1
  have h0:(w.alloc (.cells #[] 31)).ownsRow w.heap.size 31 1 (.slice (some ⟨w.heap.size,0,none⟩) 0 0) 0 []:=⟨rfl,.inr ⟨w.heap.size,0,#[],rfl,Nat.le_refl _,World.alloc_heap_new _ _,Nat.le_refl _,Nat.zero_le _,rfl,rfl⟩⟩
  have H0:=Lib.hid h0
  have HLU:=Lib.hid hl
  clear hnews h0 h h1 hn hl
  go_enter Tryz.func133,Tryz.ntmps133
  go_wp2_with (at_builtin;refine wpList_append_own_at _ rfl _ _ 22 rfl w.heap.size 31 i0 (.slice none 0 0) 1 24 Tryz.underlying22 hi hz0 hz1 hz2 rfl (by decide) _ _ _ rfl H0.out a k c us rfl (by rw[HLU.out,Nat.mul_one]) HN.out H1.out (by unfold maxLen;omega) (by omega) (by simp) ?_;intro v' w1 hown hgrow hnl hat)
  go_ret
  have hB:Below w.heap.size w w1:=((Below.refl w.heap.size w).alloc (Nat.le_refl _) (.cells #[] 31)).grown hgrow (by simp) (fun g hg=>by cases hg;exact Nat.le_refl _)
  exact⟨_,rfl,by simpa using hown,hB⟩
end Go.Proofs.YtajbmjpodeilpaaGreat
namespace Go.Proofs.YtajbmjpodeilpaaGreat
open Go.RowKit Go.Maps Go.Shelf
theorem rup_many (A:Option Addr) (n c:Nat) (w:World):Calls Tryz.prog 103 #[.slice A n c] w fun e w'=>e= .returned (.int .i64 (if 65536<n then 5 else 0))∧w=w':=by
 by_cases h:65536<n
 ·have hd:decide ((65536:Int)<(n:Int))=true:=by simp;omega
  rw[if_pos h]
  clear h
  go_enter Tryz.func103,Tryz.ntmps103
  go_wp2_with fail
  go_ret
  exact⟨rfl,rfl⟩
 ·have hd:decide ((65536:Int)<(n:Int))=false:=by simp;omega
  rw[if_neg h]
  clear h
  go_enter Tryz.func103,Tryz.ntmps103
  go_wp2_with fail
  go_ret
  exact⟨rfl,rfl⟩
def firstE:List Int→Int
 | []=>0
 | e::r=>if e=0 then firstE r else e
set_option maxRecDepth 100000 in
set_option maxHeartbeats 1000000 in
theorem rup_first {O:Nat→Prop} (u:Value) (es:List Int) (w:World) (hu:IntsIn O w u es) (hlen:es.length≤1000):
  Calls Tryz.prog 101 #[u] w fun e w'=>e= .returned (.int .i64 (firstE es))∧w=w':=by
 have HX:=Lib.hid hu
 obtain⟨A,c,rfl,hc,_,_⟩:=hu
 obtain⟨R,hR⟩: ∃z,firstE es=z:=⟨_,rfl⟩
 have HR:=Lib.hid hR
 rw[hR]
 clear hR
 go_enter Tryz.func101,Tryz.ntmps101
 go_wp2_with fail
 go_loopw [7] (fun iv wr=> ∃j:Nat,j≤es.length∧iv= .int .i64 j∧Hid (firstE (es.drop j)=R)∧wr=w) (fun iv _=>es.length-(intOf iv).toNat)
 case atStart=>exact⟨0,Nat.zero_le _,rfl,HR,rfl⟩
 case round=>
  obtain⟨j,hj,rfl,HG,rfl⟩:=hrel
  by_cases hlt:j<es.length
  ·obtain⟨x,hxk⟩:=getElem_of hlt
   obtain⟨A',c',hAc,_,_,hxs⟩:=HX.out
   simp only[Value.slice.injEq,true_and]at hAc
   obtain⟨rfl,rfl⟩:=hAc
   obtain⟨g,o,rfl,hg,_,d0⟩:=hxs j x hxk
   have hgo:=HG.out
   rw[List.drop_eq_getElem_cons hlt]at hgo
   rw[List.getElem?_eq_getElem hlt]at hxk
   rw[Option.some.inj hxk]at hgo
   simp only[firstE]at hgo
   clear hxk hxs
   by_cases h0:x=0
   ·rw[if_pos h0]at hgo
    have d1:(x != 0)=false:=by simpa using h0
    have HG:=Lib.hid hgo
    clear hgo h0
    go_wp2_with fail
    go_roundw
    case rel=>exact⟨j+1,by omega,by go_num,HG,trivial⟩
    case measure=>simp[intOf];omega
   ·rw[if_neg h0]at hgo
    have d1:(x != 0)=true:=by simpa using h0
    have HG:=Lib.hid hgo
    clear hgo h0
    go_wp2_with fail
    go_ret
    rw[←HG.out]
    exact⟨rfl,rfl⟩
  ·obtain rfl:j=es.length:=by omega
   have hgo:=HG.out
   rw[List.drop_length]at hgo
   have HG:=Lib.hid (show 0=R from hgo)
   clear hgo
   go_wp2_with fail
   go_ret
   rw[←HG.out]
   exact⟨rfl,rfl⟩
def wrongE (cs:List (List Int)):Int:=if cs.all clauseB=true then 0 else 20
set_option maxRecDepth 100000 in
set_option maxHeartbeats 2000000 in
theorem rup_wrong {O:Nat→Prop} (lv cv:Value) (mb:Nat) (cs:List (List Int)) (c:List Int) (w:World) (hl:ClsIn O w lv cs) (hm:w.cell? ⟨mb,0,none⟩=some cv) (hc:IntsIn O w cv c) (hn:cs.length≤1000000) (hx: ∀xs∈cs++ [c],xs.length≤100000000000):
  Calls Tryz.prog 102 #[lv,.slice (some ⟨mb,0,none⟩) 1 1] w fun e w'=>e= .returned (.int .i64 (wrongE (cs++ [c])))∧Below w.heap.size w w':=by
 obtain⟨i0,hi,hz0,hz1,hz2⟩:=info_parts info_cls
 obtain⟨us,hul,hus,hu1,hue⟩:=hl.src
 obtain⟨A,cc,rfl,_,hA,_⟩:=hl
 obtain⟨k,hk⟩: ∃k,cs.length=k:=⟨_,rfl⟩
 rw[hk]at hus hul hn⊢
 have hAk:A=none→k=0∧cc=0:=fun h=>by
  have h1:=hA h
  omega
 have HCL:=Lib.hid (clone_row A k cc us w hus hAk hul hu1 (by omega))
 have HM:=Lib.hid hm
 have hmb:=World.block_lt_of_cell? w _ hm
 have HK:=Lib.hid hk
 have HX:=Lib.hid hx
 have hlt: ∀(j:Nat) (xs:List Int),(cs++ [c])[j]? =some xs→∃u,(us++ [cv])[j]? =some u∧IntsIn (fun g=>g<w.heap.size) w u xs:=fun j xs hj=>by
  by_cases hjl:j<cs.length
  ·rw[List.getElem?_append_left hjl]at hj
   obtain⟨u,h1,h2⟩:=hue j xs hj
   exact⟨u,by rw[List.getElem?_append_left (by omega)];exact h1,h2.lt.mono (fun _ h=>h.2)⟩
  ·have hj2:=(List.getElem?_eq_some_iff.1 hj).1
   rw[List.length_append,List.length_singleton]at hj2
   obtain rfl:j=cs.length:=by omega
   rw[List.getElem?_append_right (Nat.le_refl _),Nat.sub_self,List.getElem?_cons_zero]at hj
   obtain rfl:=Option.some.inj hj
   exact⟨cv,by rw[List.getElem?_append_right (by omega),show cs.length-us.length=0 by omega,List.getElem?_cons_zero],hc.lt.mono (fun _ h=>h.2)⟩
 have HE:=Lib.hid hlt
 have hcv:cv.oneCell'=true:=by
  obtain⟨_,_,h,_⟩:=hc
  rw[h]
  rfl
 have HCV:=Lib.hid hcv
 have HUL:=Lib.hid hul
 clear hus hul hu1 hue hA hAk hm hk hx hc hlt hcv
 obtain⟨R,hR⟩: ∃z,wrongE (cs++ [c])=z:=⟨_,rfl⟩
 have HR:=Lib.hid hR
 rw[hR]
 clear hR
 go_enter Tryz.func102,Tryz.ntmps102
 go_wp2_with fail
 refine HCL.out.mono ?_
 rintro e w1 ⟨v,rfl,hr,hb⟩
 have HR1:=Lib.hid hr
 have HB1:=Lib.hid hb
 obtain⟨Av,c1,rfl,_⟩:=mx_slice hr
 have hm1:=(hb.cell (p:=⟨mb,0,none⟩) hmb).trans HM.out
 have HM1:=Lib.hid hm1
 have hz:=hb.size
 clear hr hb hm1
 go_wp2_with (at_builtin;refine wpList_append_own_at _ rfl _ _ 22 rfl w.heap.size 31 i0 (.slice none 0 0) 1 24 Tryz.underlying22 hi hz0 hz1 hz2 rfl (by decide) _ _ _ rfl HR1.out ⟨mb,0,none⟩ 1 1 [cv] rfl rfl (fun j u hj=>by
  match j,hj with
  | 0,hj=>simp at hj;subst hj;simpa [Addr.add] using HM1.out) (fun u hu=>by rw[List.mem_singleton.1 hu];exact HCV.out) (by unfold maxLen;omega) (by omega) hz ?_;intro v' w2 hown hgrow hnl hat;obtain⟨g2,c2,rfl⟩:=ownsRow_succ hown)
 have HB2:=Lib.hid (HB1.out.grown hgrow hz (fun g hg=>(own_lt HR1.out g hg).1))
 have HR2:=Lib.hid hown
 have hcl: ∀(j:Nat),j<k+1→∃u xs,(cs++ [c])[j]? =some xs∧w2.cell? ⟨g2,j,none⟩=some u∧IntsIn (fun g=>g<w.heap.size) w2 u xs:=fun j hj=>by
  obtain⟨xs,hxs⟩:=getElem_of (l:=cs++ [c]) (i:=j) (by rw[List.length_append,List.length_singleton,HK.out];exact hj)
  obtain⟨u,h1,h2⟩:=HE.out j xs hxs
  exact⟨u,xs,hxs,mx_at HR2.out h1,h2.kept (O':=fun g=>w.heap.size≤g) ⟨HB2.out.os,HB2.out.tape,HB2.out.output,HB2.out.size,fun g _ hn=>HB2.out.block g (by omega)⟩ (fun g hg h=>by omega)⟩
 have HCL2:=Lib.hid hcl
 clear hown hgrow hnl hat hcl
 have HAL:=Lib.hid (show(∀j xs,j<0→(cs++ [c])[j]? =some xs→clauseB xs=true)from fun j xs h=>by omega)
 go_wp2_with fail
 go_loopw [12] (fun iv wr=> ∃j:Nat,j≤k+1∧iv= .int .i64 j∧Hid (∀i xs,i<j→(cs++ [c])[i]? =some xs→clauseB xs=true)∧wr=w2) (fun iv _=>k+1-(intOf iv).toNat)
 case atStart=>exact⟨0,Nat.zero_le _,rfl,HAL,rfl⟩
 case round=>
  obtain⟨j,hj,rfl,HG,rfl⟩:=hrel
  by_cases hlt:j<k+1
  ·obtain⟨u,xs,hxs,e0,hin⟩:=HCL2.out j hlt
   have HRC:=right_clause u xs wr hin (by have:=HX.out xs (List.mem_of_getElem? hxs);omega)
   obtain⟨A',c',rfl,_⟩:=hin
   have HXS:=Lib.hid hxs
   have hd:decide ((j:Int)<(k:Int)+1)=true:=by simp;omega
   clear hxs
   cases hcb:clauseB xs with
   | false=>
    rw[hcb]at HRC
    have HRC:=Lib.hid HRC
    have HF:=Lib.hid hcb
    clear hcb
    go_wp2_with fail
    refine HRC.out.mono ?_
    rintro e w' ⟨rfl,rfl⟩
    go_wp2_with fail
    go_ret
    refine⟨?_,HB2.out⟩
    rw[←HR.out]
    unfold wrongE
    rw[if_neg (fun h=>by
     have:=List.all_eq_true.1 h xs (List.mem_of_getElem? HXS.out)
     rw[HF.out]at this
     cases this)]
    rfl
   | true=>
    rw[hcb]at HRC
    have HRC:=Lib.hid HRC
    have HF:=Lib.hid hcb
    clear hcb
    go_wp2_with fail
    refine HRC.out.mono ?_
    rintro e w' ⟨rfl,rfl⟩
    go_wp2_with fail
    go_roundw
    case rel=>exact⟨j+1,by omega,by go_num,Lib.hid (fun i ys hi hy=>by
     rcases Nat.lt_or_ge i j with h|h
     ·exact HG.out i ys h hy
     ·obtain rfl:i=j:=by omega
      rw[HXS.out]at hy
      obtain rfl:=Option.some.inj hy
      exact HF.out),trivial⟩
    case measure=>simp[intOf];omega
  ·obtain rfl:j=k+1:=by omega
   have hd:decide (((k+1:Nat):Int)<(k:Int)+1)=false:=by simp
   go_wp2_with fail
   go_ret
   refine⟨?_,HB2.out⟩
   rw[←HR.out]
   unfold wrongE
   rw[if_pos (List.all_eq_true.2 (fun ys hy=>by
    obtain⟨i,hi⟩:=List.getElem?_of_mem hy
    refine HG.out i ys ?_ hi
    have:=(List.getElem?_eq_some_iff.1 hi).1
    rw[List.length_append,List.length_singleton,HK.out]at this
    exact this))]
   rfl
end Go.Proofs.YtajbmjpodeilpaaGreat
namespace Go.Proofs.YtajbmjpodeilpaaGreat
open Go.RowKit Go.Maps Go.Shelf
def asmL (c:List Int):List Int:=sortL ((normL c).map litN)
def AsmOut (w w':World) (c:List Int) (e:Ending):Prop:=
 if clauseB c=true then(if alwL c=true then e= .returned (.tuple #[.slice none 0 0,.bool true,.int .i64 0])else∃v,e= .returned (.tuple #[v,.bool false,.int .i64 0])∧w'.ownsRow w.heap.size 55 1 v (asmL c).length ((asmL c).map (Value.int .i64)))
 else e= .returned (.tuple #[.slice none 0 0,.bool false,.int .i64 20])
set_option maxRecDepth 100000 in
set_option maxHeartbeats 2000000 in
theorem rup_assume {O:Nat→Prop} (u:Value) (c:List Int) (w:World) (hu:IntsIn O w u c) (hlen:c.length≤100000000000):
  Calls Tryz.prog 104 #[u] w fun e w'=>AsmOut w w' c e∧Below w.heap.size w w':=by
 obtain⟨i0,hi,hz0,hz1,hz2⟩:=info_parts cinfo_lit
 have HN:=norm_any u c w hu (by omega)
 obtain⟨A,cc,rfl,_⟩:=hu
 unfold AsmOut
 unfold NormOut at HN
 have HNL:=Lib.hid (normL_len c)
 obtain⟨q,hq⟩: ∃q,clauseB c=q:=⟨_,rfl⟩
 obtain⟨al,hal⟩: ∃q,alwL c=q:=⟨_,rfl⟩
 rw[hq,hal]at HN
 rw[hq,hal]
 clear hq hal
 cases q with
 | false=>
  simp only[Bool.false_eq_true,if_false]at HN⊢
  have HN:=Lib.hid HN
  go_enter Tryz.func104,Tryz.ntmps104
  go_wp2_with fail
  refine HN.out.mono ?_
  rintro e w1 ⟨rfl,hb⟩
  have HB:=Lib.hid hb
  clear hb
  go_wp2_with fail
  refine bodyPost_ret (res_norm rfl _ _) rfl ?_
  exact⟨rfl,HB.out⟩
 | true=>
  simp only[if_true]at HN⊢
  have HN:=Lib.hid HN
  cases al with
  | true=>
   simp only[if_true]at HN⊢
   go_enter Tryz.func104,Tryz.ntmps104
   go_wp2_with fail
   refine HN.out.mono ?_
   rintro e w1 ⟨⟨v,rfl,_⟩,hb⟩
   have HB:=Lib.hid hb
   clear hb
   go_wp2_with fail
   refine bodyPost_ret (res_norm rfl _ _) rfl ?_
   exact⟨rfl,HB.out⟩
  | false=>
   simp only[Bool.false_eq_true,if_false]
   obtain⟨ys,hys⟩: ∃y,normL c=y:=⟨_,rfl⟩
   unfold asmL
   rw[hys]at HN HNL⊢
   clear hys
   go_enter Tryz.func104,Tryz.ntmps104
   go_wp2_with fail
   refine HN.out.mono ?_
   rintro e w1 ⟨⟨v,rfl,hr⟩,hb⟩
   obtain⟨Av,cv,rfl,_⟩:=mx_slice hr
   have HB:=Lib.hid hb
   have HR:=Lib.hid hr
   have hnl:=HNL.out
   have hz:=hb.size
   clear hb hr
   go_wp2_with fail
   go_loopw [8,26] (fun ov iv wr=> ∃j:Nat,j≤ys.length∧iv= .int .i64 j∧Hid (wr.ownsRow w1.heap.size 55 1 ov j (((ys.take j).map litN).map (Value.int .i64)))∧Hid (Below w1.heap.size w1 wr)) (fun _ iv _=>ys.length-(intOf iv).toNat)
   case atStart=>exact⟨0,Nat.zero_le _,rfl,Lib.hid (World.ownsRow_nil _ _ _ _),Lib.hid (Below.refl _ _)⟩
   case round=>
    obtain⟨j,hj,rfl,HO,HB1⟩:=hrel
    obtain⟨Ao,co,rfl,_⟩:=mx_slice HO.out
    by_cases hlt:j<ys.length
    ·obtain⟨x,hxk⟩:=getElem_of hlt
     obtain⟨g,c',hv,hg0,hg,e0⟩:=own_cell HR.out hxk
     simp only[Value.slice.injEq,true_and]at hv
     obtain⟨rfl,rfl⟩:=hv
     have d1:wr.cell? ⟨g,j,none⟩=some (.int .i64 x):=(HB1.out.cell (p:=⟨g,j,none⟩) hg).trans e0
     have HTK:=Lib.hid (show(((ys.take (j+1)).map litN).map (Value.int .i64))=(((ys.take j).map litN).map (Value.int .i64))++ [.int .i64 (litN x)]from by rw[List.take_add_one,hxk];simp)
     have HG:=Lib.hid (fun W=>lit_neg x W)
     have hz1':=HB1.out.size
     clear hxk e0
     go_wp2_with fail
     refine(HG.out _).mono ?_
     rintro e w' ⟨rfl,rfl⟩
     go_wp2_with (at_builtin;refine wpList_append_own_at _ rfl _ _ 30 rfl w1.heap.size 55 i0 (.int .i64 0) 1 8 Tryz.underlying30 hi hz0 hz1 hz2 rfl (by decide) _ j _ rfl (own_below HO.out (mx_al wr _)) ⟨wr.heap.size,0,none⟩ 1 1 [.int .i64 (litN x)] rfl rfl (fun i u hi=>by
      match i,hi with
      | 0,hi=>simp at hi;subst hi;simp[Addr.add]) (fun u hu=>by rw[List.mem_singleton.1 hu];rfl) (by unfold maxLen;omega) (by omega) (by simp;omega) ?_;intro v' w2 hown hgrow hnl2 hat)
     have HO2:=Lib.hid hown
     have HB2:=Lib.hid (HB1.out.trans (((mx_al wr (.cells #[.int .i64 (litN x)] 55)).mono hz1').grown hgrow (by simp;omega) (fun g hg=>(own_lt HO.out g hg).1)))
     clear hown hgrow hnl2 hat
     go_wp2
     go_roundw
     case rel=>exact⟨j+1,by omega,by go_num,Lib.hid (by rw[HTK.out];exact HO2.out),HB2⟩
     case measure=>simp[intOf];omega
    ·obtain rfl:j=ys.length:=by omega
     have ho:=HO.out
     rw[List.take_length]at ho
     have e:ys.length=(ys.map litN).length:=(List.length_map _).symm
     rw[e]at ho
     have HS:=own_sortL _ _ wr ho (by rw[←e];omega)
     rw[←e]at HS ho
     have HO2:=Lib.hid ho
     have HS:=Lib.hid HS
     clear ho e
     go_wp2_with fail
     refine HS.out.mono ?_
     rintro e w2 ⟨rfl,hr2,hk2⟩
     have HR2:=Lib.hid hr2
     have HB2:=Lib.hid (HB.out.trans ((HB1.out.trans (hk2.below (fun g hg=>(own_lt HO2.out g hg).1) HB1.out.size)).mono hz))
     clear hr2 hk2
     go_wp2_with fail
     refine bodyPost_ret (res_norm rfl _ _) rfl ?_
     exact⟨⟨_,rfl,own_mono (by simpa [sortL_length] using HR2.out) hz⟩,HB2.out⟩
end Go.Proofs.YtajbmjpodeilpaaGreat
