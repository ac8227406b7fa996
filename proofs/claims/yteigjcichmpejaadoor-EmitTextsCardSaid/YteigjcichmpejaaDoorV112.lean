/- IndexFunc, ContainsFunc at numbers and at clauses, with any function that tells a property. Plain: a right step. package lratext: Right, at any step. -/
import Derived.Test.YteigjcichmpejaaDoorV110
import Derived.Test.YteigjcichmpejaaDoorV111
import Derived.Test.YteigjcichmpejaaDoorV102
import Derived.Test.YteigjcichmpejaaDoorV103
import Derived.Deep.DeepCutAuto
import Derived.Deep.CutBlock
import Derived.Shelf.Abstract
namespace Go.Proofs.YteigjcichmpejaaDoor
open Go.RowKit
def TellsN (w:World) (F:Nat) (v:Value) (xs:List Int) (P:Int→Bool):Prop:= ∀W,Below w.heap.size w W→∀x∈xs,Calls Tryd.prog F #[.int .i64 x,v] W fun e w'=>e= .returned (.bool (P x))∧Below W.heap.size W w'
set_option maxRecDepth 100000 in
set_option maxHeartbeats 1000000 in
theorem index_nf {Oc:Nat→Prop} (F:Nat) (v u:Value) (xs:List Int) (P:Int→Bool) (w:World) (heg: ∀args w,(callFunc F args).run Tryd.prog w= .ok (.enter F args) w) (h1:IntsIn Oc w u xs) (hs:xs.length≤140737488355328) (hF:TellsN w F v xs P):
  Calls Tryd.prog 39 #[u,.func (.func F) #[] #[v]] w fun e w'=>(∃i:Int,e= .returned (.int .i64 i)∧FstI xs P i)∧Below w.heap.size w w':=by
 have HONE:=Lib.hid hF
 have HX:=Lib.hid h1
 obtain⟨A,c,rfl,hc,_,_⟩:=h1
 clear hF
 go_enter Tryd.func39,Tryd.ntmps39
 go_wp2
 go_loopw [8] (fun i wr=> ∃k:Nat,k≤xs.length∧i= .int .i64 k∧Hid (∀j x,j<k→xs[j]? =some x→P x=false)∧Hid (Below w.heap.size w wr)) (fun i _=>xs.length-(intOf i).toNat)
 case atStart=>exact⟨0,Nat.zero_le _,rfl,Lib.hid (fun j x hj=>by omega),Lib.hid (Below.refl _ _)⟩
 case round=>
  obtain⟨k,hk,rfl,HE,HW⟩:=hrel
  by_cases hlt:k<xs.length
  ·obtain⟨x,hxk⟩:=getElem_of hlt
   obtain⟨A',c',hAc,_,_,hxs⟩:=HX.out.below HW.out
   simp only[Value.slice.injEq,true_and]at hAc
   obtain⟨rfl,rfl⟩:=hAc
   obtain⟨g,o,rfl,hg,_,d1⟩:=hxs k x hxk
   have HXK:=Lib.hid hxk
   have hC:=HONE.out wr HW.out x (List.mem_of_getElem? hxk)
   obtain⟨b,hb⟩: ∃b,P x=b:=⟨_,rfl⟩
   rw[hb]at hC
   have HB:=Lib.hid hb
   have HC:=Lib.hid hC
   clear hxk hxs hb hC
   go_wp2_with fail
   refine HC.out.mono ?_
   rintro e w' ⟨rfl,hbw⟩
   have HB2:=Lib.hid (HW.out.trans (hbw.mono HW.out.size))
   clear hbw d1
   cases b with
   | true=>
    go_wp2_with fail
    go_ret
    exact⟨⟨_,rfl,.inr ⟨k,rfl,hlt,HE.out,x,HXK.out,HB.out⟩⟩,HB2.out⟩
   | false=>
    go_wp2_with fail
    go_roundw
    case rel=>exact⟨k+1,by omega,by go_num,Lib.hid (FstI.step HE.out HXK.out HB.out),HB2⟩
    case measure=>simp[intOf];omega
  ·obtain rfl:k=xs.length:=by omega
   go_wp2
   go_ret
   exact⟨⟨_,rfl,FstI.none HE.out⟩,HW.out⟩
set_option maxHeartbeats 400000 in
theorem contains_nf {Oc:Nat→Prop} (F:Nat) (v u:Value) (xs:List Int) (P:Int→Bool) (w:World) (heg: ∀args w,(callFunc F args).run Tryd.prog w= .ok (.enter F args) w) (h1:IntsIn Oc w u xs) (hs:xs.length≤140737488355328) (hF:TellsN w F v xs P):
  Calls Tryd.prog 22 #[u,.func (.func F) #[] #[v]] w fun e w'=>e= .returned (.bool (xs.any P))∧Below w.heap.size w w':=by
 have H0:=index_nf F v u xs P w heg h1 hs hF
 obtain⟨z,hz⟩: ∃z,xs.any P=z:=⟨_,rfl⟩
 rw[hz]
 have HZ:=Lib.hid hz
 have H:=Lib.hid H0
 clear H0 hz hF
 go_enter Tryd.func22,Tryd.ntmps22
 go_wp2_with fail
 refine H.out.mono ?_
 rintro e w' ⟨⟨i,rfl,hi⟩,hb⟩
 have HI:=Lib.hid (show decide (0≤i)=z from by rw[hi.any];exact HZ.out)
 have HB:=Lib.hid hb
 clear hi hb
 go_wp2_with fail
 go_ret
 exact⟨ret_bool HI.out,HB.out⟩
def TellsC (O:Nat→Prop) (w:World) (F:Nat) (caps:Array Value) (cs:List (List Int)) (P:List Int→Bool):Prop:= ∀W,Below w.heap.size w W→∀u c,c∈cs→IntsIn O W u c→Calls Tryd.prog F (#[u]++caps) W fun e w'=>e= .returned (.bool (P c))∧Below W.heap.size W w'
end Go.Proofs.YteigjcichmpejaaDoor
namespace Go.Proofs.YteigjcichmpejaaDoor
def stepB (s:EStep):Bool:=
 !(decide (s.id<0)||decide (1073741824<s.id)||(!s.del&&decide (s.id=0))||(s.del&&decide (0<s.lits.length))) &&
 (clauseB s.lits&&decide (s.hints.length≤65536)&& !(s.hints.any fun h=>decide (h=0)||decide (1073741824<h)||decide (h< -1073741824)||(s.del&&decide (h<0))))
end Go.Proofs.YteigjcichmpejaaDoor
namespace Go.Proofs.YteigjcichmpejaaDoor
open Go.RowKit Go.Shelf
def hintB (d:Bool) (h:Int):Bool:=decide (h=0)||decide (1073741824<h)||decide (h< -1073741824)||(d&&decide (h<0))
def headB (s:EStep):Bool:=decide (s.id<0)||decide (1073741824<s.id)||(!s.del&&decide (s.id=0))||(s.del&&decide (0<s.lits.length))
theorem stepB_eq (s:EStep):stepB s=(!headB s&&(clauseB s.lits&&decide (s.hints.length≤65536)&& !(s.hints.any (hintB s.del)))):=rfl
set_option maxRecDepth 100000 in
set_option maxHeartbeats 1000000 in
theorem wrong_one (d:Bool) (q:Nat) (x:Int) (w:World) (hq:w.cell? ⟨q,0,none⟩=some (.bool d)):
  Calls Tryd.prog 52 #[.int .i64 x,.pointer (some ⟨q,0,none⟩)] w fun e w'=>e= .returned (.bool (hintB d x))∧Below w.heap.size w w':=by
 obtain⟨z,hz⟩: ∃z,(x==0)=z:=⟨_,rfl⟩
 obtain⟨b,hb⟩: ∃z,decide ((1073741824:Int)<x)=z:=⟨_,rfl⟩
 obtain⟨c,hc⟩: ∃z,decide (x< -1073741824)=z:=⟨_,rfl⟩
 obtain⟨n,hn⟩: ∃z,decide (x<0)=z:=⟨_,rfl⟩
 have he:hintB d x=(z||b||c||(d&&n)):=by
  unfold hintB
  rw[←hz,hb,hc,hn]
  rfl
 rw[he]
 clear he
 go_enter Tryd.func52,Tryd.ntmps52
 cases z with
 | true=>
  go_wp2_with fail
  go_ret
  exact⟨rfl,Below.refl _ _⟩
 | false=>
  cases b with
  | true=>
   go_wp2_with fail
   go_ret
   exact⟨rfl,Below.refl _ _⟩
  | false=>
   cases c with
   | true=>
    go_wp2_with fail
    go_ret
    exact⟨rfl,Below.refl _ _⟩
   | false=>
    cases d with
    | false=>
     go_wp2_with fail
     go_ret
     exact⟨rfl,Below.refl _ _⟩
    | true=>
     cases n with
     | true=>
      go_wp2_with fail
      go_ret
      exact⟨rfl,Below.refl _ _⟩
     | false=>
      go_wp2_with fail
      go_ret
      exact⟨rfl,Below.refl _ _⟩
set_option maxHeartbeats 400000 in
theorem wrong_run (d:Bool) (w:World):Calls Tryd.prog 41 #[.bool d] w fun e w'=> ∃q,e= .returned (.func (.func 52) #[] #[.pointer (some ⟨q,0,none⟩)])∧w'.cell? ⟨q,0,none⟩=some (.bool d)∧Below w.heap.size w w':=by
 go_enter Tryd.func41,Tryd.ntmps41
 go_wp2
 go_ret
 exact⟨_,rfl,cell_new _ _ _ 0,mx_al _ _⟩
set_option maxRecDepth 100000 in
set_option maxHeartbeats 4000000 in
theorem step_right {O O':Nat→Prop} (s:EStep) (lv hv:Value) (w:World) (hl:IntsIn O w lv s.lits) (hh:IntsIn O' w hv s.hints) (hll:s.lits.length≤100000000000) (hhl:s.hints.length≤100000000000):
  Calls Tryd.prog 26 #[.agg #[.bool s.del,.int .i64 s.id,lv,hv]] w fun e w'=>e= .returned (.bool (stepB s))∧Below w.heap.size w w':=by
 obtain⟨d,id,ls,hs⟩:=s
 simp only at hl hh hll hhl⊢
 obtain⟨W,hW⟩: ∃W,w.alloc (.cells #[.bool d,.int .i64 id,lv,hv] 49)=W:=⟨_,rfl⟩
 have hb:Below w.heap.size w W:=by rw[←hW];exact mx_al _ _
 have hn:W.heap[w.heap.size]? =some (.cells #[.bool d,.int .i64 id,lv,hv] 49 (0,0)):=by rw[←hW];exact World.alloc_heap_new _ _
 have b0:W.cell? ⟨w.heap.size,0,none⟩=some (.bool d):=mx_cell (j:=0) hn
 have b1:W.cell? ⟨w.heap.size,1,none⟩=some (.int .i64 id):=mx_cell (j:=1) hn
 have b2:W.cell? ⟨w.heap.size,2,none⟩=some lv:=mx_cell (j:=2) hn
 have b3:W.cell? ⟨w.heap.size,3,none⟩=some hv:=mx_cell (j:=3) hn
 have hlt:=heap_lt hn
 have HW:=Lib.hid hW
 have HB:=Lib.hid hb
 have HL:=Lib.hid (hl.below hb)
 have HH:=Lib.hid (hh.below hb)
 have HR:=fun W' (k:Below W.heap.size W W')=>right_clause lv ls W' ((hl.below hb).below k) (by omega)
 obtain⟨cb,hcb⟩: ∃cb,clauseB ls=cb:=⟨_,rfl⟩
 rw[hcb]at HR
 have HR:=Lib.hid HR
 obtain⟨A,c,rfl,hcc,_⟩:=hl
 obtain⟨A',c',rfl,hcc',_⟩:=hh
 obtain⟨hd,hhd⟩: ∃z,headB ⟨d,id,ls,hs⟩=z:=⟨_,rfl⟩
 obtain⟨any,hany⟩: ∃z,hs.any (hintB d)=z:=⟨_,rfl⟩
 have HANY:=Lib.hid hany
 have HS:=Lib.hid (show stepB ⟨d,id,ls,hs⟩=(!hd&&(cb&&decide (hs.length≤65536)&& !any))from by rw[stepB_eq,←hhd,←hcb,←hany])
 obtain⟨R,hR⟩: ∃R,stepB ⟨d,id,ls,hs⟩=R:=⟨_,rfl⟩
 rw[hR]at HS⊢
 obtain⟨z,hz⟩: ∃z,(id==0)=z:=⟨_,rfl⟩
 obtain⟨a1,ha1⟩: ∃z,decide (id<0)=z:=⟨_,rfl⟩
 obtain⟨a2,ha2⟩: ∃z,decide ((1073741824:Int)<id)=z:=⟨_,rfl⟩
 obtain⟨a3,ha3⟩: ∃z,decide (0<ls.length)=z:=⟨_,rfl⟩
 have ha3i:decide ((0:Int)<(ls.length:Int))=a3:=by rw[←ha3];exact decide_eq_decide.2 (by omega)
 have HHD:=Lib.hid (show hd=(a1||a2||(!d&&z)||(d&&a3))from by
  rw[←hhd,←hz,←ha1,←ha2,←ha3]
  rfl)
 clear hb hn hW hcb hhd hany hR
 go_enter Tryd.func26,Tryd.ntmps26
 go_upto_region 1 with fail
 rw[HW.out]
 go_cut [30] (fun q wx=>q= .bool hd∧wx=W)
 case first=>
  cases a1 with
  | true=>
   go_wp2_with fail
   go_meet
   exact⟨by rw[HHD.out];rfl,rfl⟩
  | false=>
   cases a2 with
   | true=>
    go_wp2_with fail
    go_meet
    exact⟨by rw[HHD.out];rfl,rfl⟩
   | false=>
    cases d with
    | false=>
     cases z with
     | true=>
      go_wp2_with fail
      go_meet
      exact⟨by rw[HHD.out];rfl,rfl⟩
     | false=>
      go_wp2_with fail
      go_meet
      exact⟨by rw[HHD.out];rfl,rfl⟩
    | true=>
     cases a3 with
     | true=>
      go_wp2_with fail
      go_meet
      exact⟨by rw[HHD.out];rfl,rfl⟩
     | false=>
      go_wp2_with fail
      go_meet
      exact⟨by rw[HHD.out];rfl,rfl⟩
 case rest=>
  obtain⟨rfl,rfl⟩:=hcut
  cases hd with
  | true=>
   go_wp2_with fail
   go_ret
   exact⟨by rw[HS.out];rfl,HB.out⟩
  | false=>
   cases cb with
   | false=>
    go_upto_region 3 with fail
    refine wp_region_held_drew (S:=fun w'=>Below wc.heap.size wc w') (by kernel_rfl) (mx_drew wc) (fun hS=>?_)
    refine takeE 0 31 ?_
    refine takeF 1 32 (fun wq hSw=>(hSw.cell (p:=⟨w.heap.size,2,none⟩) hlt).trans b2) ?_
    refine ready1 2 (fun K hK=>?_)
    go_simp
    refine(HR.out _ hS).mono ?_
    rintro e w' ⟨rfl,rfl⟩
    refine hK.out _ _ hS (fun _=>?_)
    clear hK
    refine takeE 3 34 ?_
    refine takeU 4 35 ?_
    refine takeU 5 36 ?_
    refine takeU 6 37 ?_
    refine takeU 7 38 ?_
    refine takeE 8 39 ?_
    refine takeE 9 40 ?_
    refine takeU 10 41 ?_
    refine takeU 11 42 ?_
    refine takeU 12 43 ?_
    refine takeU 13 44 ?_
    refine takeU 14 45 ?_
    refine takeU 15 46 ?_
    refine takeU 16 47 ?_
    refine takeE 17 48 ?_
    refine takeE 18 2 ?_
    refine wpAnyH_done (by kernel_rfl) ?_ _
    go_wp2_with fail
    go_ret
    exact⟨by rw[HS.out];rfl,HB.out.trans (hS.mono HB.out.size)⟩
   | true=>
    obtain⟨hl,hhl2⟩: ∃z,decide (hs.length≤65536)=z:=⟨_,rfl⟩
    have hhli:decide ((hs.length:Int)≤65536)=hl:=by rw[←hhl2];exact decide_eq_decide.2 (by omega)
    rw[hhl2]at HS
    cases hl with
    | false=>
     go_upto_region 3 with fail
     refine wp_region_held_drew (S:=fun w'=>Below wc.heap.size wc w') (by kernel_rfl) (mx_drew wc) (fun hS=>?_)
     refine takeE 0 31 ?_
     refine takeF 1 32 (fun wq hSw=>(hSw.cell (p:=⟨w.heap.size,2,none⟩) hlt).trans b2) ?_
     refine ready1 2 (fun K hK=>?_)
     go_simp
     refine(HR.out _ hS).mono ?_
     rintro e w' ⟨rfl,rfl⟩
     refine hK.out _ _ hS (fun _=>?_)
     clear hK
     refine takeE 3 34 ?_
     refine takeE 4 35 ?_
     refine takeF 5 36 (fun wq hSw=>(hSw.cell (p:=⟨w.heap.size,3,none⟩) hlt).trans b3) ?_
     refine takeE 6 37 ?_
     refine takeE 7 38 ?_
     refine takeE 8 39 ?_
     refine takeE 9 40 ?_
     refine takeU 10 41 ?_
     refine takeU 11 42 ?_
     refine takeU 12 43 ?_
     refine takeU 13 44 ?_
     refine takeU 14 45 ?_
     refine takeU 15 46 ?_
     refine takeU 16 47 ?_
     refine takeE 17 48 ?_
     refine takeE 18 2 ?_
     refine wpAnyH_done (by kernel_rfl) ?_ _
     go_wp2_with fail
     go_ret
     exact⟨by rw[HS.out];rfl,HB.out.trans (hS.mono HB.out.size)⟩
    | true=>
     go_upto_region 3 with fail
     refine wp_region_held_drew (S:=fun w'=>Below wc.heap.size wc w') (by kernel_rfl) (mx_drew wc) (fun hS=>?_)
     refine takeE 0 31 ?_
     refine takeF 1 32 (fun wq hSw=>(hSw.cell (p:=⟨w.heap.size,2,none⟩) hlt).trans b2) ?_
     refine ready1 2 (fun K hK=>?_)
     go_simp
     refine(HR.out _ hS).mono ?_
     rintro e w' ⟨rfl,rfl⟩
     refine hK.out _ _ hS (fun _=>?_)
     clear hK
     refine takeE 3 34 ?_
     refine takeE 4 35 ?_
     refine takeF 5 36 (fun wq hSw=>(hSw.cell (p:=⟨w.heap.size,3,none⟩) hlt).trans b3) ?_
     refine takeE 6 37 ?_
     refine takeE 7 38 ?_
     refine takeE 8 39 ?_
     refine takeE 9 40 ?_
     refine takeE 10 41 ?_
     refine takeF 11 42 (fun wq hSw=>(hSw.cell (p:=⟨w.heap.size,3,none⟩) hlt).trans b3) ?_
     refine takeE 12 43 ?_
     refine takeF 13 44 (fun wq hSw=>(hSw.cell (p:=⟨w.heap.size,0,none⟩) hlt).trans b0) ?_
     refine ready1 14 (fun K hK=>?_)
     go_simp
     refine(wrong_run d _).mono ?_
     rintro e w2 ⟨q,rfl,hq,hb2⟩
     have hS2:=hS.trans (hb2.mono hS.size)
     have hcon:=contains_nf 52 (.pointer (some ⟨q,0,none⟩)) _ hs (hintB d) w2 (enters_of Tryd.func52 (by kernel_rfl) rfl) (HH.out.below hS2) (by omega) (fun W hb x _=>wrong_one d q x W ((hb.cell (p:=⟨q,0,none⟩) (World.block_lt_of_cell? w2 _ hq)).trans hq))
     rw[HANY.out]at hcon
     have HCON:=Lib.hid hcon
     refine hK.out _ _ hS2 (fun _=>?_)
     clear hK hS hcon hb2 hq
     refine ready1 15 (fun K hK=>?_)
     go_simp
     refine HCON.out.mono ?_
     rintro e w3 ⟨rfl,hb3⟩
     have hS:=hS2.trans (hb3.mono hS2.size)
     refine hK.out _ _ hS (fun _=>?_)
     clear hK hS2 hb3 HCON
     refine takeE 16 47 ?_
     refine takeE 17 48 ?_
     refine takeE 18 2 ?_
     refine wpAnyH_done (by kernel_rfl) ?_ _
     go_wp2_with fail
     go_ret
     exact⟨by rw[HS.out];rfl,HB.out.trans (hS.mono HB.out.size)⟩
end Go.Proofs.YteigjcichmpejaaDoor
