/- Clauses in blocks of which something is known. IndexFunc, ContainsFunc at numbers and at clauses, with any function that tells a property. Plain: a right step. package lratext: Right, at any step. Plain: what lratext.Parse finds in a line; a right step's line is read back. Plain: what strconv.Atoi finds in a word, and the words that are numerals. -/
import Derived.Test.YtajbmjpodeilpaaGreatDoorV202
import Derived.Test.YtajbmjpodeilpaaGreatDoorV200
import Derived.Deep.DeepCutAuto
import Derived.Deep.CutBlock
import Derived.Shelf.Abstract
import Derived.Test.YtajbmjpodeilpaaGreatDoorV201
import Derived.Lib.AtoiAllCases
namespace Go.Proofs.YtajbmjpodeilpaaGreatDoor
open Go.RowKit
def ClsIn (O:Nat→Prop) (w:World) (v:Value) (cs:List (List Int)):Prop:=
 ∃A c,v= .slice A cs.length c∧cs.length≤c∧(A=none→c=0)∧∀i xs,cs[i]? =some xs→∃g o u,A=some ⟨g,o,none⟩∧g<w.heap.size∧O g∧w.cell? ⟨g,o+i,none⟩=some u∧IntsIn O w u xs
theorem ClsIn.kept {O O':Nat→Prop} {w w':World} {v:Value} {cs:List (List Int)} (h:ClsIn O w v cs) (k:Kept O' w w') (hO: ∀g,O g→¬O' g):ClsIn O w' v cs:=by
 obtain⟨A,c,hv,hc,hn,hx⟩:=h
 refine⟨A,c,hv,hc,hn,fun i xs hi=>?_⟩
 obtain⟨g,o,u,h1,h2,h3,h4,h5⟩:=hx i xs hi
 exact⟨g,o,u,h1,Nat.lt_of_lt_of_le h2 k.size,h3,(k.cell (p:=⟨g,o+i,none⟩) h2 (hO g h3)).trans h4,h5.kept k hO⟩
theorem ClsIn.below {O:Nat→Prop} {w w':World} {v:Value} {cs:List (List Int)} (h:ClsIn O w v cs) (k:Below w.heap.size w w'):ClsIn O w' v cs:=
 h.kept (O':=fun _=>False) (Kept.of_below k) (fun _ _ h=>h)
theorem ClsIn.mono {O O':Nat→Prop} {w:World} {v:Value} {cs:List (List Int)} (h:ClsIn O w v cs) (hO: ∀g,O g→O' g):ClsIn O' w v cs:=by
 obtain⟨A,c,hv,hc,hn,hx⟩:=h
 refine⟨A,c,hv,hc,hn,fun i xs hi=>?_⟩
 obtain⟨g,o,u,h1,h2,h3,h4,h5⟩:=hx i xs hi
 exact⟨g,o,u,h1,h2,hO g h3,h4,h5.mono hO⟩
theorem ClsIn.lt {O:Nat→Prop} {w:World} {v:Value} {cs:List (List Int)} (h:ClsIn O w v cs):ClsIn (fun g=>O g∧g<w.heap.size) w v cs:=by
 obtain⟨A,c,hv,hc,hn,hx⟩:=h
 refine⟨A,c,hv,hc,hn,fun i xs hi=>?_⟩
 obtain⟨g,o,u,h1,h2,h3,h4,h5⟩:=hx i xs hi
 exact⟨g,o,u,h1,h2,⟨h3,h2⟩,h4,h5.lt⟩
theorem ClsOwn.clsIn {n:Nat} {w:World} {v:Value} {cs:List (List Int)} (h:ClsOwn n w v cs):ClsIn (fun g=>n≤g) w v cs:=by
 obtain⟨us,h1,h2⟩:=h
 rcases h1.2 with⟨rfl,h0⟩|⟨g,cap,cur,rfl,hb,hg,hle,_⟩
 ·exact⟨none,0,by rw[h0],by omega,fun _=>rfl,fun i xs hi=>by
   have:=(List.getElem?_eq_some_iff.1 hi).1
   omega⟩
 ·refine⟨_,cap,rfl,hle,(fun h=>by cases h),fun i xs hi=>?_⟩
  obtain⟨u,hu,ho⟩:=h2 i xs hi
  exact⟨g,0,u,rfl,heap_lt hg,hb,by rw[Nat.zero_add];exact mx_at h1 hu,(IntsIn.of_own ho).mono (fun g hg=>(own_lt ho g hg.2).1)⟩
theorem ClsIn.src {O:Nat→Prop} {w:World} {v:Value} {cs:List (List Int)} (h:ClsIn O w v cs): ∃us:List Value,us.length=cs.length∧SrcAt w v cs.length us∧(∀z∈us,z.oneCell'=true)∧∀(i:Nat) (xs:List Int),cs[i]? =some xs→∃u,us[i]? =some u∧IntsIn O w u xs:=by
 obtain⟨A,c,rfl,hc,hn,hx⟩:=h
 cases A with
 | none=>
  have h0:=hn rfl
  have h1:cs= []:=List.eq_nil_of_length_eq_zero (by omega)
  subst h1
  subst h0
  exact⟨[],rfl,.inl ⟨rfl,rfl,rfl⟩,(fun z hz=>by cases hz),fun i xs hi=>by simp at hi⟩
 | some a=>
  obtain⟨ga,oa,fa⟩:=a
  have key: ∀i,i<cs.length→∃u xs,cs[i]? =some xs∧fa=none∧w.cell? ⟨ga,oa+i,none⟩=some u∧IntsIn O w u xs:=fun i hi=>by
   obtain⟨xs,hxs⟩:=getElem_of hi
   obtain⟨g,o,u,h1,_,_,h4,h5⟩:=hx i xs hxs
   cases h1
   exact⟨u,xs,hxs,rfl,h4,h5⟩
  refine⟨(List.range cs.length).map (fun i=>(w.cell? ⟨ga,oa+i,none⟩).getD undef),by simp,.inr ⟨_,c,rfl,fun j u hj=>?_⟩,fun z hz=>?_,fun i xs hi=>?_⟩
  ·have hjl:j<cs.length:=by
    have:=(List.getElem?_eq_some_iff.1 hj).1
    simpa using this
   rw[List.getElem?_map,List.getElem?_range hjl]at hj
   obtain⟨u',xs,_,rfl,h4,_⟩:=key j hjl
   rw[addr_add2]
   simp only[Option.map_some,h4,Option.getD_some,Option.some.injEq]at hj
   rw[h4,hj]
  ·obtain⟨i,hi,rfl⟩:=List.mem_map.1 hz
   obtain⟨u',xs,_,rfl,h4,h5⟩:=key i (List.mem_range.1 hi)
   rw[h4]
   obtain⟨A',c',h,_⟩:=h5
   rw[h]
   rfl
  ·have hil:=(List.getElem?_eq_some_iff.1 hi).1
   obtain⟨u',xs',h1,rfl,h4,h5⟩:=key i hil
   rw[hi]at h1
   obtain rfl:=Option.some.inj h1
   refine⟨u',?_,h5⟩
   rw[List.getElem?_map,List.getElem?_range hil]
   simp[h4]
end Go.Proofs.YtajbmjpodeilpaaGreatDoor
namespace Go.Proofs.YtajbmjpodeilpaaGreatDoor
open Go.RowKit
def TellsN (w:World) (F:Nat) (v:Value) (xs:List Int) (P:Int→Bool):Prop:= ∀W,Below w.heap.size w W→∀x∈xs,Calls Tryz.prog F #[.int .i64 x,v] W fun e w'=>e= .returned (.bool (P x))∧Below W.heap.size W w'
set_option maxRecDepth 100000 in
set_option maxHeartbeats 1000000 in
theorem index_nf {Oc:Nat→Prop} (F:Nat) (v u:Value) (xs:List Int) (P:Int→Bool) (w:World) (heg: ∀args w,(callFunc F args).run Tryz.prog w= .ok (.enter F args) w) (h1:IntsIn Oc w u xs) (hs:xs.length≤140737488355328) (hF:TellsN w F v xs P):
  Calls Tryz.prog 113 #[u,.func (.func F) #[] #[v]] w fun e w'=>(∃i:Int,e= .returned (.int .i64 i)∧FstI xs P i)∧Below w.heap.size w w':=by
 have HONE:=Lib.hid hF
 have HX:=Lib.hid h1
 obtain⟨A,c,rfl,hc,_,_⟩:=h1
 clear hF
 go_enter Tryz.func113,Tryz.ntmps113
 go_wp2
 go_loopw [8] (fun i wr=> ∃k:Nat,k≤xs.length∧i= .int .i64 k∧Hid (∀j x,j<k→xs[j]? =some x→P x=false)∧Hid (Below w.heap.size w wr)) (fun i _=>xs.length-(intOf i).toNat)
 case atStart=>exact⟨0,Nat.zero_le _,rfl,Lib.hid (fun j x hj=>by omega),Lib.hid (Below.refl _ _)⟩
 case round=>
  obtain⟨k,hk,rfl,HE,HW⟩:=hrel
  by_cases hlt:k<xs.length
  ·obtain⟨x,hxk⟩:=getElem_of hlt
   obtain⟨A',c',hAc,_,_,hxs⟩:=HX.out.below HW.out
   simp only[Value.slice.injEq,true_and]at hAc
   obtain⟨rfl,rfl⟩:=hAc
   obtain⟨g,o,rfl,hg,_,d1⟩:=hxs k x hxk
   have HXK:=Lib.hid hxk
   have hC:=HONE.out wr HW.out x (List.mem_of_getElem? hxk)
   obtain⟨b,hb⟩: ∃b,P x=b:=⟨_,rfl⟩
   rw[hb]at hC
   have HB:=Lib.hid hb
   have HC:=Lib.hid hC
   clear hxk hxs hb hC
   go_wp2_with fail
   refine HC.out.mono ?_
   rintro e w' ⟨rfl,hbw⟩
   have HB2:=Lib.hid (HW.out.trans (hbw.mono HW.out.size))
   clear hbw d1
   cases b with
   | true=>
    go_wp2_with fail
    go_ret
    exact⟨⟨_,rfl,.inr ⟨k,rfl,hlt,HE.out,x,HXK.out,HB.out⟩⟩,HB2.out⟩
   | false=>
    go_wp2_with fail
    go_roundw
    case rel=>exact⟨k+1,by omega,by go_num,Lib.hid (FstI.step HE.out HXK.out HB.out),HB2⟩
    case measure=>simp[intOf];omega
  ·obtain rfl:k=xs.length:=by omega
   go_wp2
   go_ret
   exact⟨⟨_,rfl,FstI.none HE.out⟩,HW.out⟩
set_option maxHeartbeats 400000 in
theorem contains_nf {Oc:Nat→Prop} (F:Nat) (v u:Value) (xs:List Int) (P:Int→Bool) (w:World) (heg: ∀args w,(callFunc F args).run Tryz.prog w= .ok (.enter F args) w) (h1:IntsIn Oc w u xs) (hs:xs.length≤140737488355328) (hF:TellsN w F v xs P):
  Calls Tryz.prog 75 #[u,.func (.func F) #[] #[v]] w fun e w'=>e= .returned (.bool (xs.any P))∧Below w.heap.size w w':=by
 have H0:=index_nf F v u xs P w heg h1 hs hF
 obtain⟨z,hz⟩: ∃z,xs.any P=z:=⟨_,rfl⟩
 rw[hz]
 have HZ:=Lib.hid hz
 have H:=Lib.hid H0
 clear H0 hz hF
 go_enter Tryz.func75,Tryz.ntmps75
 go_wp2_with fail
 refine H.out.mono ?_
 rintro e w' ⟨⟨i,rfl,hi⟩,hb⟩
 have HI:=Lib.hid (show decide (0≤i)=z from by rw[hi.any];exact HZ.out)
 have HB:=Lib.hid hb
 clear hi hb
 go_wp2_with fail
 go_ret
 exact⟨ret_bool HI.out,HB.out⟩
def TellsC (O:Nat→Prop) (w:World) (F:Nat) (caps:Array Value) (cs:List (List Int)) (P:List Int→Bool):Prop:= ∀W,Below w.heap.size w W→∀u c,c∈cs→IntsIn O W u c→Calls Tryz.prog F (#[u]++caps) W fun e w'=>e= .returned (.bool (P c))∧Below W.heap.size W w'
set_option maxRecDepth 100000 in
set_option maxHeartbeats 1000000 in
theorem index_kf {Oc:Nat→Prop} (F:Nat) (caps:Array Value) (u:Value) (xs:List (List Int)) (P:List Int→Bool) (w:World) (heg: ∀args w,(callFunc F args).run Tryz.prog w= .ok (.enter F args) w) (h1:ClsIn Oc w u xs) (hs:xs.length≤140737488355328) (hF:TellsC Oc w F caps xs P):
  Calls Tryz.prog 85 #[u,.func (.func F) #[] caps] w fun e w'=>(∃i:Int,e= .returned (.int .i64 i)∧FstI xs P i)∧Below w.heap.size w w':=by
 have HONE:=Lib.hid hF
 have HX:=Lib.hid h1
 obtain⟨A,c,rfl,hc,_,_⟩:=h1
 clear hF
 go_enter Tryz.func85,Tryz.ntmps85
 go_wp2
 go_loopw [8] (fun i wr=> ∃k:Nat,k≤xs.length∧i= .int .i64 k∧Hid (∀j x,j<k→xs[j]? =some x→P x=false)∧Hid (Below w.heap.size w wr)) (fun i _=>xs.length-(intOf i).toNat)
 case atStart=>exact⟨0,Nat.zero_le _,rfl,Lib.hid (fun j x hj=>by omega),Lib.hid (Below.refl _ _)⟩
 case round=>
  obtain⟨k,hk,rfl,HE,HW⟩:=hrel
  by_cases hlt:k<xs.length
  ·obtain⟨x,hxk⟩:=getElem_of hlt
   obtain⟨A',c',hAc,_,_,hxs⟩:=HX.out.below HW.out
   simp only[Value.slice.injEq,true_and]at hAc
   obtain⟨rfl,rfl⟩:=hAc
   obtain⟨g,o,y,rfl,hg,_,d1,hy⟩:=hxs k x hxk
   have HXK:=Lib.hid hxk
   have hC:=HONE.out wr HW.out y x (List.mem_of_getElem? hxk) hy
   obtain⟨b,hb⟩: ∃b,P x=b:=⟨_,rfl⟩
   rw[hb]at hC
   have HB:=Lib.hid hb
   have HC:=Lib.hid hC
   clear hxk hxs hb hC hy
   go_wp2_with fail
   refine HC.out.mono ?_
   rintro e w' ⟨rfl,hbw⟩
   have HB2:=Lib.hid (HW.out.trans (hbw.mono HW.out.size))
   clear hbw d1
   cases b with
   | true=>
    go_wp2_with fail
    go_ret
    exact⟨⟨_,rfl,.inr ⟨k,rfl,hlt,HE.out,x,HXK.out,HB.out⟩⟩,HB2.out⟩
   | false=>
    go_wp2_with fail
    go_roundw
    case rel=>exact⟨k+1,by omega,by go_num,Lib.hid (FstI.step HE.out HXK.out HB.out),HB2⟩
    case measure=>simp[intOf];omega
  ·obtain rfl:k=xs.length:=by omega
   go_wp2
   go_ret
   exact⟨⟨_,rfl,FstI.none HE.out⟩,HW.out⟩
set_option maxHeartbeats 400000 in
theorem contains_kf {Oc:Nat→Prop} (F:Nat) (caps:Array Value) (u:Value) (xs:List (List Int)) (P:List Int→Bool) (w:World) (heg: ∀args w,(callFunc F args).run Tryz.prog w= .ok (.enter F args) w) (h1:ClsIn Oc w u xs) (hs:xs.length≤140737488355328) (hF:TellsC Oc w F caps xs P):
  Calls Tryz.prog 44 #[u,.func (.func F) #[] caps] w fun e w'=>e= .returned (.bool (xs.any P))∧Below w.heap.size w w':=by
 have H0:=index_kf F caps u xs P w heg h1 hs hF
 obtain⟨z,hz⟩: ∃z,xs.any P=z:=⟨_,rfl⟩
 rw[hz]
 have HZ:=Lib.hid hz
 have H:=Lib.hid H0
 clear H0 hz hF
 go_enter Tryz.func44,Tryz.ntmps44
 go_wp2_with fail
 refine H.out.mono ?_
 rintro e w' ⟨⟨i,rfl,hi⟩,hb⟩
 have HI:=Lib.hid (show decide (0≤i)=z from by rw[hi.any];exact HZ.out)
 have HB:=Lib.hid hb
 clear hi hb
 go_wp2_with fail
 go_ret
 exact⟨ret_bool HI.out,HB.out⟩
end Go.Proofs.YtajbmjpodeilpaaGreatDoor
namespace Go.Proofs.YtajbmjpodeilpaaGreatDoor
def stepB (s:EStep):Bool:=
 !(decide (s.id<0)||decide (1073741824<s.id)||(!s.del&&decide (s.id=0))||(s.del&&decide (0<s.lits.length))) &&
 (clauseB s.lits&&decide (s.hints.length≤65536)&& !(s.hints.any fun h=>decide (h=0)||decide (1073741824<h)||decide (h< -1073741824)||(s.del&&decide (h<0))))
end Go.Proofs.YtajbmjpodeilpaaGreatDoor
namespace Go.Proofs.YtajbmjpodeilpaaGreatDoor
open Go.RowKit Go.Shelf
def hintB (d:Bool) (h:Int):Bool:=decide (h=0)||decide (1073741824<h)||decide (h< -1073741824)||(d&&decide (h<0))
def headB (s:EStep):Bool:=decide (s.id<0)||decide (1073741824<s.id)||(!s.del&&decide (s.id=0))||(s.del&&decide (0<s.lits.length))
theorem stepB_eq (s:EStep):stepB s=(!headB s&&(clauseB s.lits&&decide (s.hints.length≤65536)&& !(s.hints.any (hintB s.del)))):=rfl
set_option maxRecDepth 100000 in
set_option maxHeartbeats 1000000 in
theorem wrong_one (d:Bool) (q:Nat) (x:Int) (w:World) (hq:w.cell? ⟨q,0,none⟩=some (.bool d)):
  Calls Tryz.prog 114 #[.int .i64 x,.pointer (some ⟨q,0,none⟩)] w fun e w'=>e= .returned (.bool (hintB d x))∧Below w.heap.size w w':=by
 obtain⟨z,hz⟩: ∃z,(x==0)=z:=⟨_,rfl⟩
 obtain⟨b,hb⟩: ∃z,decide ((1073741824:Int)<x)=z:=⟨_,rfl⟩
 obtain⟨c,hc⟩: ∃z,decide (x< -1073741824)=z:=⟨_,rfl⟩
 obtain⟨n,hn⟩: ∃z,decide (x<0)=z:=⟨_,rfl⟩
 have he:hintB d x=(z||b||c||(d&&n)):=by
  unfold hintB
  rw[←hz,hb,hc,hn]
  rfl
 rw[he]
 clear he
 go_enter Tryz.func114,Tryz.ntmps114
 cases z with
 | true=>
  go_wp2_with fail
  go_ret
  exact⟨rfl,Below.refl _ _⟩
 | false=>
  cases b with
  | true=>
   go_wp2_with fail
   go_ret
   exact⟨rfl,Below.refl _ _⟩
  | false=>
   cases c with
   | true=>
    go_wp2_with fail
    go_ret
    exact⟨rfl,Below.refl _ _⟩
   | false=>
    cases d with
    | false=>
     go_wp2_with fail
     go_ret
     exact⟨rfl,Below.refl _ _⟩
    | true=>
     cases n with
     | true=>
      go_wp2_with fail
      go_ret
      exact⟨rfl,Below.refl _ _⟩
     | false=>
      go_wp2_with fail
      go_ret
      exact⟨rfl,Below.refl _ _⟩
set_option maxHeartbeats 400000 in
theorem wrong_run (d:Bool) (w:World):Calls Tryz.prog 76 #[.bool d] w fun e w'=> ∃q,e= .returned (.func (.func 114) #[] #[.pointer (some ⟨q,0,none⟩)])∧w'.cell? ⟨q,0,none⟩=some (.bool d)∧Below w.heap.size w w':=by
 go_enter Tryz.func76,Tryz.ntmps76
 go_wp2
 go_ret
 exact⟨_,rfl,cell_new _ _ _ 0,mx_al _ _⟩
set_option maxRecDepth 100000 in
set_option maxHeartbeats 4000000 in
theorem step_right {O O':Nat→Prop} (s:EStep) (lv hv:Value) (w:World) (hl:IntsIn O w lv s.lits) (hh:IntsIn O' w hv s.hints) (hll:s.lits.length≤100000000000) (hhl:s.hints.length≤100000000000):
  Calls Tryz.prog 38 #[.agg #[.bool s.del,.int .i64 s.id,lv,hv]] w fun e w'=>e= .returned (.bool (stepB s))∧Below w.heap.size w w':=by
 obtain⟨d,id,ls,hs⟩:=s
 simp only at hl hh hll hhl⊢
 obtain⟨W,hW⟩: ∃W,w.alloc (.cells #[.bool d,.int .i64 id,lv,hv] 34)=W:=⟨_,rfl⟩
 have hb:Below w.heap.size w W:=by rw[←hW];exact mx_al _ _
 have hn:W.heap[w.heap.size]? =some (.cells #[.bool d,.int .i64 id,lv,hv] 34 (0,0)):=by rw[←hW];exact World.alloc_heap_new _ _
 have b0:W.cell? ⟨w.heap.size,0,none⟩=some (.bool d):=mx_cell (j:=0) hn
 have b1:W.cell? ⟨w.heap.size,1,none⟩=some (.int .i64 id):=mx_cell (j:=1) hn
 have b2:W.cell? ⟨w.heap.size,2,none⟩=some lv:=mx_cell (j:=2) hn
 have b3:W.cell? ⟨w.heap.size,3,none⟩=some hv:=mx_cell (j:=3) hn
 have hlt:=heap_lt hn
 have HW:=Lib.hid hW
 have HB:=Lib.hid hb
 have HL:=Lib.hid (hl.below hb)
 have HH:=Lib.hid (hh.below hb)
 have HR:=fun W' (k:Below W.heap.size W W')=>right_clause lv ls W' ((hl.below hb).below k) (by omega)
 obtain⟨cb,hcb⟩: ∃cb,clauseB ls=cb:=⟨_,rfl⟩
 rw[hcb]at HR
 have HR:=Lib.hid HR
 obtain⟨A,c,rfl,hcc,_⟩:=hl
 obtain⟨A',c',rfl,hcc',_⟩:=hh
 obtain⟨hd,hhd⟩: ∃z,headB ⟨d,id,ls,hs⟩=z:=⟨_,rfl⟩
 obtain⟨any,hany⟩: ∃z,hs.any (hintB d)=z:=⟨_,rfl⟩
 have HANY:=Lib.hid hany
 have HS:=Lib.hid (show stepB ⟨d,id,ls,hs⟩=(!hd&&(cb&&decide (hs.length≤65536)&& !any))from by rw[stepB_eq,←hhd,←hcb,←hany])
 obtain⟨R,hR⟩: ∃R,stepB ⟨d,id,ls,hs⟩=R:=⟨_,rfl⟩
 rw[hR]at HS⊢
 obtain⟨z,hz⟩: ∃z,(id==0)=z:=⟨_,rfl⟩
 obtain⟨a1,ha1⟩: ∃z,decide (id<0)=z:=⟨_,rfl⟩
 obtain⟨a2,ha2⟩: ∃z,decide ((1073741824:Int)<id)=z:=⟨_,rfl⟩
 obtain⟨a3,ha3⟩: ∃z,decide (0<ls.length)=z:=⟨_,rfl⟩
 have ha3i:decide ((0:Int)<(ls.length:Int))=a3:=by rw[←ha3];exact decide_eq_decide.2 (by omega)
 have HHD:=Lib.hid (show hd=(a1||a2||(!d&&z)||(d&&a3))from by
  rw[←hhd,←hz,←ha1,←ha2,←ha3]
  rfl)
 clear hb hn hW hcb hhd hany hR
 go_enter Tryz.func38,Tryz.ntmps38
 go_upto_region 1 with fail
 rw[HW.out]
 go_cut [30] (fun q wx=>q= .bool hd∧wx=W)
 case first=>
  cases a1 with
  | true=>
   go_wp2_with fail
   go_meet
   exact⟨by rw[HHD.out];rfl,rfl⟩
  | false=>
   cases a2 with
   | true=>
    go_wp2_with fail
    go_meet
    exact⟨by rw[HHD.out];rfl,rfl⟩
   | false=>
    cases d with
    | false=>
     cases z with
     | true=>
      go_wp2_with fail
      go_meet
      exact⟨by rw[HHD.out];rfl,rfl⟩
     | false=>
      go_wp2_with fail
      go_meet
      exact⟨by rw[HHD.out];rfl,rfl⟩
    | true=>
     cases a3 with
     | true=>
      go_wp2_with fail
      go_meet
      exact⟨by rw[HHD.out];rfl,rfl⟩
     | false=>
      go_wp2_with fail
      go_meet
      exact⟨by rw[HHD.out];rfl,rfl⟩
 case rest=>
  obtain⟨rfl,rfl⟩:=hcut
  cases hd with
  | true=>
   go_wp2_with fail
   go_ret
   exact⟨by rw[HS.out];rfl,HB.out⟩
  | false=>
   cases cb with
   | false=>
    go_upto_region 3 with fail
    refine wp_region_held_drew (S:=fun w'=>Below wc.heap.size wc w') (by kernel_rfl) (mx_drew wc) (fun hS=>?_)
    refine takeE 0 31 ?_
    refine takeF 1 32 (fun wq hSw=>(hSw.cell (p:=⟨w.heap.size,2,none⟩) hlt).trans b2) ?_
    refine ready1 2 (fun K hK=>?_)
    go_simp
    refine(HR.out _ hS).mono ?_
    rintro e w' ⟨rfl,rfl⟩
    refine hK.out _ _ hS (fun _=>?_)
    clear hK
    refine takeE 3 34 ?_
    refine takeU 4 35 ?_
    refine takeU 5 36 ?_
    refine takeU 6 37 ?_
    refine takeU 7 38 ?_
    refine takeE 8 39 ?_
    refine takeE 9 40 ?_
    refine takeU 10 41 ?_
    refine takeU 11 42 ?_
    refine takeU 12 43 ?_
    refine takeU 13 44 ?_
    refine takeU 14 45 ?_
    refine takeU 15 46 ?_
    refine takeU 16 47 ?_
    refine takeE 17 48 ?_
    refine takeE 18 2 ?_
    refine wpAnyH_done (by kernel_rfl) ?_ _
    go_wp2_with fail
    go_ret
    exact⟨by rw[HS.out];rfl,HB.out.trans (hS.mono HB.out.size)⟩
   | true=>
    obtain⟨hl,hhl2⟩: ∃z,decide (hs.length≤65536)=z:=⟨_,rfl⟩
    have hhli:decide ((hs.length:Int)≤65536)=hl:=by rw[←hhl2];exact decide_eq_decide.2 (by omega)
    rw[hhl2]at HS
    cases hl with
    | false=>
     go_upto_region 3 with fail
     refine wp_region_held_drew (S:=fun w'=>Below wc.heap.size wc w') (by kernel_rfl) (mx_drew wc) (fun hS=>?_)
     refine takeE 0 31 ?_
     refine takeF 1 32 (fun wq hSw=>(hSw.cell (p:=⟨w.heap.size,2,none⟩) hlt).trans b2) ?_
     refine ready1 2 (fun K hK=>?_)
     go_simp
     refine(HR.out _ hS).mono ?_
     rintro e w' ⟨rfl,rfl⟩
     refine hK.out _ _ hS (fun _=>?_)
     clear hK
     refine takeE 3 34 ?_
     refine takeE 4 35 ?_
     refine takeF 5 36 (fun wq hSw=>(hSw.cell (p:=⟨w.heap.size,3,none⟩) hlt).trans b3) ?_
     refine takeE 6 37 ?_
     refine takeE 7 38 ?_
     refine takeE 8 39 ?_
     refine takeE 9 40 ?_
     refine takeU 10 41 ?_
     refine takeU 11 42 ?_
     refine takeU 12 43 ?_
     refine takeU 13 44 ?_
     refine takeU 14 45 ?_
     refine takeU 15 46 ?_
     refine takeU 16 47 ?_
     refine takeE 17 48 ?_
     refine takeE 18 2 ?_
     refine wpAnyH_done (by kernel_rfl) ?_ _
     go_wp2_with fail
     go_ret
     exact⟨by rw[HS.out];rfl,HB.out.trans (hS.mono HB.out.size)⟩
    | true=>
     go_upto_region 3 with fail
     refine wp_region_held_drew (S:=fun w'=>Below wc.heap.size wc w') (by kernel_rfl) (mx_drew wc) (fun hS=>?_)
     refine takeE 0 31 ?_
     refine takeF 1 32 (fun wq hSw=>(hSw.cell (p:=⟨w.heap.size,2,none⟩) hlt).trans b2) ?_
     refine ready1 2 (fun K hK=>?_)
     go_simp
     refine(HR.out _ hS).mono ?_
     rintro e w' ⟨rfl,rfl⟩
     refine hK.out _ _ hS (fun _=>?_)
     clear hK
     refine takeE 3 34 ?_
     refine takeE 4 35 ?_
     refine takeF 5 36 (fun wq hSw=>(hSw.cell (p:=⟨w.heap.size,3,none⟩) hlt).trans b3) ?_
     refine takeE 6 37 ?_
     refine takeE 7 38 ?_
     refine takeE 8 39 ?_
     refine takeE 9 40 ?_
     refine takeE 10 41 ?_
     refine takeF 11 42 (fun wq hSw=>(hSw.cell (p:=⟨w.heap.size,3,none⟩) hlt).trans b3) ?_
     refine takeE 12 43 ?_
     refine takeF 13 44 (fun wq hSw=>(hSw.cell (p:=⟨w.heap.size,0,none⟩) hlt).trans b0) ?_
     refine ready1 14 (fun K hK=>?_)
     go_simp
     refine(wrong_run d _).mono ?_
     rintro e w2 ⟨q,rfl,hq,hb2⟩
     have hS2:=hS.trans (hb2.mono hS.size)
     have hcon:=contains_nf 114 (.pointer (some ⟨q,0,none⟩)) _ hs (hintB d) w2 (enters_of Tryz.func114 (by kernel_rfl) rfl) (HH.out.below hS2) (by omega) (fun W hb x _=>wrong_one d q x W ((hb.cell (p:=⟨q,0,none⟩) (World.block_lt_of_cell? w2 _ hq)).trans hq))
     rw[HANY.out]at hcon
     have HCON:=Lib.hid hcon
     refine hK.out _ _ hS2 (fun _=>?_)
     clear hK hS hcon hb2 hq
     refine ready1 15 (fun K hK=>?_)
     go_simp
     refine HCON.out.mono ?_
     rintro e w3 ⟨rfl,hb3⟩
     have hS:=hS2.trans (hb3.mono hS2.size)
     refine hK.out _ _ hS (fun _=>?_)
     clear hK hS2 hb3 HCON
     refine takeE 16 47 ?_
     refine takeE 17 48 ?_
     refine takeE 18 2 ?_
     refine wpAnyH_done (by kernel_rfl) ?_ _
     go_wp2_with fail
     go_ret
     exact⟨by rw[HS.out];rfl,HB.out.trans (hS.mono HB.out.size)⟩
end Go.Proofs.YtajbmjpodeilpaaGreatDoor
namespace Go.Proofs.YtajbmjpodeilpaaGreatDoor
open Go.RowKit
structure PSt where
 count:Nat
 part:Nat
 id:Int
 lits:List Int
 hints:List Int
def PSt.step (p:PSt) (n:Int):PSt×Bool:=
 if p.count+1=1 then(⟨p.count+1,p.part,n,p.lits,p.hints⟩,false)
 else if n=0 then(⟨p.count+1,p.part+1,p.id,p.lits,p.hints⟩,decide (p.part+1=2))
 else if p.part=0 then(⟨p.count+1,p.part,p.id,p.lits++ [n],p.hints⟩,false)
 else(⟨p.count+1,p.part,p.id,p.lits,p.hints++ [n]⟩,false)
def PSt.go:PSt→List Int→PSt
 | p,[]=>p
 | p,n::r=>if(p.step n).2=true then(p.step n).1 else PSt.go (p.step n).1 r
def numW (w:List UInt8):Option Int:=match Lib.atoi w with
 | some n=>if Lib.itoa n=w∧ -9223372036854775808≤n∧n≤9223372036854775807 then some n else none
 | none=>none
def numsW:List (List UInt8)→List Int
 | []=> []
 | w::r=>match numW w with
  | some n=>n::numsW r
  | none=> []
theorem numW_itoa {n:Int} (h:Rng n):numW (Lib.itoa n)=some n:=by
 unfold numW
 rw[atoi_itoa]
 simp only
 rw[if_pos ⟨trivial,h.1,h.2⟩]
theorem numsW_itoa: ∀{l:List Int},(∀x∈l,Rng x)→numsW (l.map Lib.itoa)=l
 | [],_=>rfl
 | n::l,h=>by
  rw[List.map_cons,numsW,numW_itoa (h n List.mem_cons_self)]
  simp only
  rw[numsW_itoa fun x hx=>h x (List.mem_cons_of_mem _ hx)]
def isDel (ws:List (List UInt8)):Bool:=decide (1<ws.length)&&decide (ws[1]? =some [100])
def pWords (ws:List (List UInt8)):List (List UInt8):=if isDel ws=true then ws.eraseIdx 1 else ws
def pSt (ws:List (List UInt8)):PSt:=PSt.go ⟨0,if isDel ws=true then 1 else 0,0,[],[]⟩ (numsW (pWords ws))
def pStep (ws:List (List UInt8)):EStep:=⟨isDel ws,(pSt ws).id,(pSt ws).lits,(pSt ws).hints⟩
def parseF (t:List UInt8):Option EStep:=
 if(pSt (spl 32 t)).count=(pWords (spl 32 t)).length∧(pSt (spl 32 t)).part=2∧stepB (pStep (spl 32 t))=true∧stepT (pStep (spl 32 t))=t then some (pStep (spl 32 t))else none
theorem go_lits: ∀(l:List Int) (r:List Int) (c:Nat) (i:Int) (a b:List Int),1≤c→(∀x∈l,x≠0)→PSt.go ⟨c,0,i,a,b⟩ (l++r)=PSt.go ⟨c+l.length,0,i,a++l,b⟩ r
 | [],r,c,i,a,b,_,_=>by rw[List.nil_append,List.append_nil];rfl
 | n::l,r,c,i,a,b,hc,h=>by
  have hs:PSt.step ⟨c,0,i,a,b⟩ n=(⟨c+1,0,i,a++ [n],b⟩,false):=by
   unfold PSt.step
   rw[if_neg (by show¬c+1=1;omega),if_neg (h n List.mem_cons_self),if_pos rfl]
  rw[List.cons_append,PSt.go,hs]
  simp only[Bool.false_eq_true,if_false]
  rw[go_lits l r (c+1) i (a++ [n]) b (by omega) fun x hx=>h x (List.mem_cons_of_mem _ hx),List.append_assoc,List.length_cons,show c+1+l.length=c+(l.length+1) by omega]
  rfl
theorem go_hints: ∀(l:List Int) (r:List Int) (c:Nat) (i:Int) (a b:List Int),1≤c→(∀x∈l,x≠0)→PSt.go ⟨c,1,i,a,b⟩ (l++r)=PSt.go ⟨c+l.length,1,i,a,b++l⟩ r
 | [],r,c,i,a,b,_,_=>by rw[List.nil_append,List.append_nil];rfl
 | n::l,r,c,i,a,b,hc,h=>by
  have hs:PSt.step ⟨c,1,i,a,b⟩ n=(⟨c+1,1,i,a,b++ [n]⟩,false):=by
   unfold PSt.step
   rw[if_neg (by show¬c+1=1;omega),if_neg (h n List.mem_cons_self),if_neg (fun h=>by cases h)]
  rw[List.cons_append,PSt.go,hs]
  simp only[Bool.false_eq_true,if_false]
  rw[go_hints l r (c+1) i a (b++ [n]) (by omega) fun x hx=>h x (List.mem_cons_of_mem _ hx),List.append_assoc,List.length_cons,show c+1+l.length=c+(l.length+1) by omega]
  rfl
theorem go_end (c:Nat) (i:Int) (a b:List Int) (hc:1≤c):PSt.go ⟨c,1,i,a,b⟩ [0]=⟨c+1,2,i,a,b⟩:=by
 have hs:PSt.step ⟨c,1,i,a,b⟩ 0=(⟨c+1,2,i,a,b⟩,true):=by
  unfold PSt.step
  rw[if_neg (by show¬c+1=1;omega),if_pos rfl]
  rfl
 rw[PSt.go,hs]
 rfl
theorem go_mid (c:Nat) (i:Int) (a b r:List Int) (hc:1≤c):PSt.go ⟨c,0,i,a,b⟩ (0::r)=PSt.go ⟨c+1,1,i,a,b⟩ r:=by
 have hs:PSt.step ⟨c,0,i,a,b⟩ 0=(⟨c+1,1,i,a,b⟩,false):=by
  unfold PSt.step
  rw[if_neg (by show¬c+1=1;omega),if_pos rfl]
  rfl
 rw[PSt.go,hs]
 rfl
theorem go_id (k:Nat) (n:Int) (r:List Int):PSt.go ⟨0,k,0,[],[]⟩ (n::r)=PSt.go ⟨1,k,n,[],[]⟩ r:=by
 have hs:PSt.step ⟨0,k,0,[],[]⟩ n=(⟨1,k,n,[],[]⟩,false):=by
  unfold PSt.step
  rw[if_pos rfl]
 rw[PSt.go,hs]
 rfl
theorem itoa_ne_d (n:Int):Lib.itoa n≠ [100]:=fun h=>by
 have h100:(100:UInt8)∈Lib.itoa n:=by rw[h];exact List.mem_singleton.2 rfl
 unfold Lib.itoa at h100
 split at h100
 ·rcases List.mem_cons.1 h100 with e|h
  ·exact absurd e (by decide)
  ·exact absurd (dec_dig _ _ h).2 (by decide)
 ·exact absurd (dec_dig _ _ h100).2 (by decide)
theorem parse_step {s:EStep} (h:stepB s=true) (hid:Rng s.id) (hl: ∀x∈s.lits,Rng x∧x≠0) (hh: ∀x∈s.hints,Rng x∧x≠0) (hd:s.del=true→s.lits= []):parseF (stepT s)=some s:=by
 obtain⟨del,id,lits,hints⟩:=s
 simp only at hid hl hh hd
 have r0:Rng 0:=⟨by decide,by decide⟩
 have hln: ∀x∈lits,x≠0:=fun x hx=>(hl x hx).2
 have hhn: ∀x∈hints,x≠0:=fun x hx=>(hh x hx).2
 have key:isDel (spl 32 (stepT ⟨del,id,lits,hints⟩))=del∧pWords (spl 32 (stepT ⟨del,id,lits,hints⟩))=([id]++((if del then []else lits++ [0])++(hints++ [0]))).map Lib.itoa:=by
  rw[spl_step]
  simp only
  cases del with
  | true=>
   have e:isDel (Lib.itoa id::((if true=true then [[100]]else(lits++ [0]).map Lib.itoa)++(hints++ [0]).map Lib.itoa))=true:=by
    unfold isDel
    rw[if_pos rfl]
    simp
   refine⟨e,?_⟩
   unfold pWords
   rw[if_pos e,if_pos rfl,if_pos rfl]
   rfl
  | false=>
   have e:isDel (Lib.itoa id::((if false=true then [[100]]else(lits++ [0]).map Lib.itoa)++(hints++ [0]).map Lib.itoa))=false:=by
    unfold isDel
    rw[if_neg (by decide),Bool.and_eq_false_iff]
    right
    rw[decide_eq_false_iff_not]
    intro h
    cases lits with
    | nil=>
     simp only[List.nil_append,List.map_cons,List.map_nil,List.cons_append]at h
     exact itoa_ne_d 0 (Option.some.inj h)
    | cons x r=>
     simp only[List.map_cons,List.cons_append]at h
     exact itoa_ne_d x (Option.some.inj h)
   refine⟨e,?_⟩
   unfold pWords
   rw[if_neg (by rw[e];decide),if_neg (by decide),if_neg (by decide)]
   simp only[List.map_append,List.map_cons,List.map_nil,List.cons_append,List.nil_append]
 obtain⟨k1,k2⟩:=key
 have hall: ∀x∈([id]++((if del then []else lits++ [0])++(hints++ [0]))),Rng x:=by
  intro x hx
  rcases List.mem_append.1 hx with hx|hx
  ·rw[List.mem_singleton.1 hx];exact hid
  ·rcases List.mem_append.1 hx with hx|hx
   ·cases del with
    | true=>rw[if_pos rfl]at hx;cases hx
    | false=>
     rw[if_neg (by decide)]at hx
     rcases List.mem_append.1 hx with hx|hx
     ·exact(hl x hx).1
     ·rw[List.mem_singleton.1 hx];exact r0
   ·rcases List.mem_append.1 hx with hx|hx
    ·exact(hh x hx).1
    ·rw[List.mem_singleton.1 hx];exact r0
 have hst:pSt (spl 32 (stepT ⟨del,id,lits,hints⟩))=⟨([id]++((if del then []else lits++ [0])++(hints++ [0]))).length,2,id,lits,hints⟩:=by
  unfold pSt
  rw[k1,k2,numsW_itoa hall,List.singleton_append,go_id]
  cases del with
  | true=>
   rw[if_pos rfl,if_pos rfl,List.nil_append,go_hints hints [0] 1 id [] [] (Nat.le_refl _) hhn,go_end _ _ _ _ (by omega),hd rfl,List.nil_append]
   simp
   omega
  | false=>
   rw[if_neg (by decide),if_neg (by decide),List.append_assoc,go_lits lits _ 1 id [] [] (Nat.le_refl _) hln,List.singleton_append,go_mid _ _ _ _ _ (by omega),go_hints hints [0] _ id _ [] (by omega) hhn,go_end _ _ _ _ (by omega),List.nil_append,List.nil_append]
   simp
   omega
 have hps:pStep (spl 32 (stepT ⟨del,id,lits,hints⟩))=⟨del,id,lits,hints⟩:=by
  unfold pStep
  rw[hst,k1]
 unfold parseF
 rw[hps,hst,k2,if_pos ⟨by simp only[List.length_map],rfl,h,rfl⟩]
end Go.Proofs.YtajbmjpodeilpaaGreatDoor
namespace Go.Proofs.YtajbmjpodeilpaaGreatDoor
open Go.RowKit
theorem pu_app: ∀(l:List UInt8) (acc n:Nat) (d:Nat),Lib.parseUint10 acc l= .ok n→d<10→n*10+d<18446744073709551616→Lib.parseUint10 acc (l++ [UInt8.ofNat (48+d)])= .ok (n*10+d)
 | [],acc,n,d,h,hd,hb=>by
  simp only[Lib.parseUint10,Lib.NumEnd.ok.injEq]at h
  subst h
  have e:(UInt8.ofNat (48+d)).toNat=48+d:=by rw[UInt8.toNat_ofNat',Nat.mod_eq_of_lt (by omega)]
  rw[List.nil_append,Lib.parseUint10,e,if_pos (by omega),if_neg (by omega),if_neg (by omega),Lib.parseUint10,show 48+d-48=d by omega]
 | c::l,acc,n,d,h,hd,hb=>by
  rw[List.cons_append,Lib.parseUint10]
  rw[Lib.parseUint10]at h
  split at h
  ·rename_i h1
   rw[if_pos h1]
   split at h
   ·cases h
   ·rename_i h2
    rw[if_neg h2]
    split at h
    ·cases h
    ·rename_i h3
     rw[if_neg h3]
     exact pu_app l _ n d h hd hb
  ·cases h
theorem pu_dec: ∀(u:Nat),u<18446744073709551616→Lib.parseUint10 0 (Lib.decDigits u)= .ok u:=by
 intro u
 induction u using Nat.strongRecOn with
 | ind u ih=>
  intro hu
  by_cases h:u<10
  ·rw[Lib.decDigits,dif_pos h]
   have:=pu_app [] 0 0 u rfl h (by omega)
   rwa [List.nil_append,show 0*10+u=u by omega]at this
  ·rw[Lib.decDigits,dif_neg h,pu_app _ 0 _ _ (ih (u/10) (by omega) (by omega)) (Nat.mod_lt _ (by omega)) (by omega),show u/10*10+u%10=u by omega]
theorem mag_dec {u:Nat} (hu:u<18446744073709551616):Lib.parseMag (Lib.decDigits u)= .ok u:=by
 unfold Lib.parseMag
 rw[if_neg (dec_ne u),pu_dec u hu]
theorem atoiAll_itoa {n:Int} (h0: -9223372036854775808≤n) (h1:n≤9223372036854775807):Lib.atoiAll (Lib.itoa n)= .ok n:=by
 unfold Lib.itoa
 split
 ·rename_i h
  rw[Lib.atoiAll_minus,mag_dec (by omega),Lib.signed,if_neg (by omega)]
  congr 1
  omega
 ·rename_i h
  obtain⟨b,r,hb⟩: ∃b r,Lib.decDigits n.toNat=b::r:=by
   cases hd:Lib.decDigits n.toNat with
   | nil=>exact absurd hd (dec_ne _)
   | cons b r=>exact⟨b,r,rfl⟩
  have hd:isDig b:=dec_dig n.toNat b (by rw[hb];exact List.mem_cons_self)
  unfold isDig at hd
  rw[hb,Lib.atoiAll_plain b r (by omega) (by omega),←hb,mag_dec (by omega),Lib.signless,if_neg (by omega)]
  congr 1
  omega
theorem numW_some {w:List UInt8} {n:Int} (h:numW w=some n):w=Lib.itoa n∧ -9223372036854775808≤n∧n≤9223372036854775807:=by
 unfold numW at h
 split at h
 ·split at h
  ·rename_i v _ h1
   obtain rfl:=Option.some.inj h
   exact⟨h1.1.symm,h1.2⟩
  ·cases h
 ·cases h
theorem numW_none {w:List UInt8} (h:numW w=none) {n:Int} (h0: -9223372036854775808≤n) (h1:n≤9223372036854775807):w≠Lib.itoa n:=by
 rintro rfl
 rw[numW_itoa ⟨h0,h1⟩]at h
 cases h
theorem atoi_word (w:List UInt8):(∃n,numW w=some n∧Lib.atoiAll w= .ok n∧w=Lib.itoa n∧ -9223372036854775808≤n∧n≤9223372036854775807)∨
  numW w=none∧((∃v,Lib.atoiAll w= .ok v∧Lib.itoa v≠w∧ -9223372036854775808≤v∧v≤9223372036854775807)∨Lib.atoiAll w=Lib.atoiAll []∨Lib.atoiAll w= .range):=by
 cases h:numW w with
 | some n=>
  obtain⟨h1,h2,h3⟩:=numW_some h
  refine .inl ⟨n,rfl,?_,h1,h2,h3⟩
  rw[h1]
  exact atoiAll_itoa h2 h3
 | none=>
  refine .inr ⟨rfl,?_⟩
  cases ha:Lib.atoiAll w with
  | ok v=>
   obtain⟨h2,h3⟩:=Lib.atoiAll_bounds ha
   exact .inl ⟨v,rfl,fun e=>numW_none h h2 h3 e.symm,h2,h3⟩
  | range=>exact .inr (.inr rfl)
  | _=>exact .inr (.inl rfl)
theorem numsW_take: ∀(ws:List (List UInt8)) (k:Nat) (x:Int),(numsW ws)[k]? =some x→∃w,ws[k]? =some w∧numW w=some x
 | [],k,x,h=>by cases h
 | w::r,k,x,h=>by
  rw[numsW]at h
  cases hw:numW w with
  | none=>
   rw[hw]at h
   cases h
  | some n=>
   rw[hw]at h
   cases k with
   | zero=>
    obtain rfl:=Option.some.inj h
    exact⟨w,rfl,hw⟩
   | succ k=>exact numsW_take r k x h
theorem numsW_end: ∀(ws:List (List UInt8)) (w:List UInt8),ws[(numsW ws).length]? =some w→numW w=none
 | [],w,h=>by cases h
 | v::r,w,h=>by
  rw[numsW]at h
  cases hw:numW v with
  | none=>
   rw[hw]at h
   obtain rfl:=Option.some.inj h
   exact hw
  | some n=>
   rw[hw]at h
   exact numsW_end r w h
theorem numsW_le: ∀(ws:List (List UInt8)),(numsW ws).length≤ws.length
 | []=>Nat.le_refl _
 | v::r=>by
  rw[numsW]
  split
  ·rw[List.length_cons,List.length_cons]
   exact Nat.succ_le_succ (numsW_le r)
  ·exact Nat.zero_le _
end Go.Proofs.YtajbmjpodeilpaaGreatDoor
