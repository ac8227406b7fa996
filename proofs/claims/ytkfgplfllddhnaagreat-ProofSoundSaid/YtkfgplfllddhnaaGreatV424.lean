/- package lratext: Right, at any step. -/
import Derived.Test.YtkfgplfllddhnaaGreatV413
import Derived.Test.YtkfgplfllddhnaaGreatV411
namespace Go.Proofs.YtkfgplfllddhnaaGreat
open Go.RowKit Go.Shelf
def hintB (d:Bool) (h:Int):Bool:=decide (h=0)||decide (1073741824<h)||decide (h< -1073741824)||(d&&decide (h<0))
def headB (s:EStep):Bool:=decide (s.id<0)||decide (1073741824<s.id)||(!s.del&&decide (s.id=0))||(s.del&&decide (0<s.lits.length))
theorem stepB_eq (s:EStep):stepB s=(!headB s&&(clauseB s.lits&&decide (s.hints.length≤65536)&& !(s.hints.any (hintB s.del)))):=rfl
set_option maxRecDepth 100000 in
set_option maxHeartbeats 1000000 in
theorem wrong_one (d:Bool) (q:Nat) (x:Int) (w:World) (hq:w.cell? ⟨q,0,none⟩=some (.bool d)):
  Calls Tryz.prog 89 #[.int .i64 x,.pointer (some ⟨q,0,none⟩)] w fun e w'=>e= .returned (.bool (hintB d x))∧Below w.heap.size w w':=by
 obtain⟨z,hz⟩: ∃z,(x==0)=z:=⟨_,rfl⟩
 obtain⟨b,hb⟩: ∃z,decide ((1073741824:Int)<x)=z:=⟨_,rfl⟩
 obtain⟨c,hc⟩: ∃z,decide (x< -1073741824)=z:=⟨_,rfl⟩
 obtain⟨n,hn⟩: ∃z,decide (x<0)=z:=⟨_,rfl⟩
 have he:hintB d x=(z||b||c||(d&&n)):=by
  unfold hintB
  rw[←hz,hb,hc,hn]
  rfl
 rw[he]
 clear he
 go_enter Tryz.func89,Tryz.ntmps89
 cases z with
 | true=>
  go_wp2_with fail
  go_ret
  exact⟨rfl,Below.refl _ _⟩
 | false=>
  cases b with
  | true=>
   go_wp2_with fail
   go_ret
   exact⟨rfl,Below.refl _ _⟩
  | false=>
   cases c with
   | true=>
    go_wp2_with fail
    go_ret
    exact⟨rfl,Below.refl _ _⟩
   | false=>
    cases d with
    | false=>
     go_wp2_with fail
     go_ret
     exact⟨rfl,Below.refl _ _⟩
    | true=>
     cases n with
     | true=>
      go_wp2_with fail
      go_ret
      exact⟨rfl,Below.refl _ _⟩
     | false=>
      go_wp2_with fail
      go_ret
      exact⟨rfl,Below.refl _ _⟩
set_option maxHeartbeats 400000 in
theorem wrong_run (d:Bool) (w:World):Calls Tryz.prog 68 #[.bool d] w fun e w'=> ∃q,e= .returned (.func (.func 89) #[] #[.pointer (some ⟨q,0,none⟩)])∧w'.cell? ⟨q,0,none⟩=some (.bool d)∧Below w.heap.size w w':=by
 go_enter Tryz.func68,Tryz.ntmps68
 go_wp2
 go_ret
 exact⟨_,rfl,cell_new _ _ _ 0,mx_al _ _⟩
set_option maxRecDepth 100000 in
set_option maxHeartbeats 4000000 in
theorem step_right {O O':Nat→Prop} (s:EStep) (lv hv:Value) (w:World) (hl:IntsIn O w lv s.lits) (hh:IntsIn O' w hv s.hints) (hll:s.lits.length≤100000000000) (hhl:s.hints.length≤100000000000):
  Calls Tryz.prog 41 #[.agg #[.bool s.del,.int .i64 s.id,lv,hv]] w fun e w'=>e= .returned (.bool (stepB s))∧Below w.heap.size w w':=by
 obtain⟨d,id,ls,hs⟩:=s
 simp only at hl hh hll hhl⊢
 obtain⟨W,hW⟩: ∃W,w.alloc (.cells #[.bool d,.int .i64 id,lv,hv] 39)=W:=⟨_,rfl⟩
 have hb:Below w.heap.size w W:=by rw[←hW];exact mx_al _ _
 have hn:W.heap[w.heap.size]? =some (.cells #[.bool d,.int .i64 id,lv,hv] 39 (0,0)):=by rw[←hW];exact World.alloc_heap_new _ _
 have b0:W.cell? ⟨w.heap.size,0,none⟩=some (.bool d):=mx_cell (j:=0) hn
 have b1:W.cell? ⟨w.heap.size,1,none⟩=some (.int .i64 id):=mx_cell (j:=1) hn
 have b2:W.cell? ⟨w.heap.size,2,none⟩=some lv:=mx_cell (j:=2) hn
 have b3:W.cell? ⟨w.heap.size,3,none⟩=some hv:=mx_cell (j:=3) hn
 have hlt:=heap_lt hn
 have HW:=Lib.hid hW
 have HB:=Lib.hid hb
 have HL:=Lib.hid (hl.below hb)
 have HH:=Lib.hid (hh.below hb)
 have HR:=fun W' (k:Below W.heap.size W W')=>right_clause lv ls W' ((hl.below hb).below k) (by omega)
 obtain⟨cb,hcb⟩: ∃cb,clauseB ls=cb:=⟨_,rfl⟩
 rw[hcb]at HR
 have HR:=Lib.hid HR
 obtain⟨A,c,rfl,hcc,_⟩:=hl
 obtain⟨A',c',rfl,hcc',_⟩:=hh
 obtain⟨hd,hhd⟩: ∃z,headB ⟨d,id,ls,hs⟩=z:=⟨_,rfl⟩
 obtain⟨any,hany⟩: ∃z,hs.any (hintB d)=z:=⟨_,rfl⟩
 have HANY:=Lib.hid hany
 have HS:=Lib.hid (show stepB ⟨d,id,ls,hs⟩=(!hd&&(cb&&decide (hs.length≤65536)&& !any))from by rw[stepB_eq,←hhd,←hcb,←hany])
 obtain⟨R,hR⟩: ∃R,stepB ⟨d,id,ls,hs⟩=R:=⟨_,rfl⟩
 rw[hR]at HS⊢
 obtain⟨z,hz⟩: ∃z,(id==0)=z:=⟨_,rfl⟩
 obtain⟨a1,ha1⟩: ∃z,decide (id<0)=z:=⟨_,rfl⟩
 obtain⟨a2,ha2⟩: ∃z,decide ((1073741824:Int)<id)=z:=⟨_,rfl⟩
 obtain⟨a3,ha3⟩: ∃z,decide (0<ls.length)=z:=⟨_,rfl⟩
 have ha3i:decide ((0:Int)<(ls.length:Int))=a3:=by rw[←ha3];exact decide_eq_decide.2 (by omega)
 have HHD:=Lib.hid (show hd=(a1||a2||(!d&&z)||(d&&a3))from by
  rw[←hhd,←hz,←ha1,←ha2,←ha3]
  rfl)
 clear hb hn hW hcb hhd hany hR
 go_enter Tryz.func41,Tryz.ntmps41
 go_upto_region 1 with fail
 rw[HW.out]
 go_cut [30] (fun q wx=>q= .bool hd∧wx=W)
 case first=>
  cases a1 with
  | true=>
   go_wp2_with fail
   go_meet
   exact⟨by rw[HHD.out];rfl,rfl⟩
  | false=>
   cases a2 with
   | true=>
    go_wp2_with fail
    go_meet
    exact⟨by rw[HHD.out];rfl,rfl⟩
   | false=>
    cases d with
    | false=>
     cases z with
     | true=>
      go_wp2_with fail
      go_meet
      exact⟨by rw[HHD.out];rfl,rfl⟩
     | false=>
      go_wp2_with fail
      go_meet
      exact⟨by rw[HHD.out];rfl,rfl⟩
    | true=>
     cases a3 with
     | true=>
      go_wp2_with fail
      go_meet
      exact⟨by rw[HHD.out];rfl,rfl⟩
     | false=>
      go_wp2_with fail
      go_meet
      exact⟨by rw[HHD.out];rfl,rfl⟩
 case rest=>
  obtain⟨rfl,rfl⟩:=hcut
  cases hd with
  | true=>
   go_wp2_with fail
   go_ret
   exact⟨by rw[HS.out];rfl,HB.out⟩
  | false=>
   cases cb with
   | false=>
    go_upto_region 3 with fail
    refine wp_region_held_drew (S:=fun w'=>Below wc.heap.size wc w') (by kernel_rfl) (mx_drew wc) (fun hS=>?_)
    refine takeE 0 31 ?_
    refine takeF 1 32 (fun wq hSw=>(hSw.cell (p:=⟨w.heap.size,2,none⟩) hlt).trans b2) ?_
    refine ready1 2 (fun K hK=>?_)
    go_simp
    refine(HR.out _ hS).mono ?_
    rintro e w' ⟨rfl,rfl⟩
    refine hK.out _ _ hS (fun _=>?_)
    clear hK
    refine takeE 3 34 ?_
    refine takeU 4 35 ?_
    refine takeU 5 36 ?_
    refine takeU 6 37 ?_
    refine takeU 7 38 ?_
    refine takeE 8 39 ?_
    refine takeE 9 40 ?_
    refine takeU 10 41 ?_
    refine takeU 11 42 ?_
    refine takeU 12 43 ?_
    refine takeU 13 44 ?_
    refine takeU 14 45 ?_
    refine takeU 15 46 ?_
    refine takeU 16 47 ?_
    refine takeE 17 48 ?_
    refine takeE 18 2 ?_
    refine wpAnyH_done (by kernel_rfl) ?_ _
    go_wp2_with fail
    go_ret
    exact⟨by rw[HS.out];rfl,HB.out.trans (hS.mono HB.out.size)⟩
   | true=>
    obtain⟨hl,hhl2⟩: ∃z,decide (hs.length≤65536)=z:=⟨_,rfl⟩
    have hhli:decide ((hs.length:Int)≤65536)=hl:=by rw[←hhl2];exact decide_eq_decide.2 (by omega)
    rw[hhl2]at HS
    cases hl with
    | false=>
     go_upto_region 3 with fail
     refine wp_region_held_drew (S:=fun w'=>Below wc.heap.size wc w') (by kernel_rfl) (mx_drew wc) (fun hS=>?_)
     refine takeE 0 31 ?_
     refine takeF 1 32 (fun wq hSw=>(hSw.cell (p:=⟨w.heap.size,2,none⟩) hlt).trans b2) ?_
     refine ready1 2 (fun K hK=>?_)
     go_simp
     refine(HR.out _ hS).mono ?_
     rintro e w' ⟨rfl,rfl⟩
     refine hK.out _ _ hS (fun _=>?_)
     clear hK
     refine takeE 3 34 ?_
     refine takeE 4 35 ?_
     refine takeF 5 36 (fun wq hSw=>(hSw.cell (p:=⟨w.heap.size,3,none⟩) hlt).trans b3) ?_
     refine takeE 6 37 ?_
     refine takeE 7 38 ?_
     refine takeE 8 39 ?_
     refine takeE 9 40 ?_
     refine takeU 10 41 ?_
     refine takeU 11 42 ?_
     refine takeU 12 43 ?_
     refine takeU 13 44 ?_
     refine takeU 14 45 ?_
     refine takeU 15 46 ?_
     refine takeU 16 47 ?_
     refine takeE 17 48 ?_
     refine takeE 18 2 ?_
     refine wpAnyH_done (by kernel_rfl) ?_ _
     go_wp2_with fail
     go_ret
     exact⟨by rw[HS.out];rfl,HB.out.trans (hS.mono HB.out.size)⟩
    | true=>
     go_upto_region 3 with fail
     refine wp_region_held_drew (S:=fun w'=>Below wc.heap.size wc w') (by kernel_rfl) (mx_drew wc) (fun hS=>?_)
     refine takeE 0 31 ?_
     refine takeF 1 32 (fun wq hSw=>(hSw.cell (p:=⟨w.heap.size,2,none⟩) hlt).trans b2) ?_
     refine ready1 2 (fun K hK=>?_)
     go_simp
     refine(HR.out _ hS).mono ?_
     rintro e w' ⟨rfl,rfl⟩
     refine hK.out _ _ hS (fun _=>?_)
     clear hK
     refine takeE 3 34 ?_
     refine takeE 4 35 ?_
     refine takeF 5 36 (fun wq hSw=>(hSw.cell (p:=⟨w.heap.size,3,none⟩) hlt).trans b3) ?_
     refine takeE 6 37 ?_
     refine takeE 7 38 ?_
     refine takeE 8 39 ?_
     refine takeE 9 40 ?_
     refine takeE 10 41 ?_
     refine takeF 11 42 (fun wq hSw=>(hSw.cell (p:=⟨w.heap.size,3,none⟩) hlt).trans b3) ?_
     refine takeE 12 43 ?_
     refine takeF 13 44 (fun wq hSw=>(hSw.cell (p:=⟨w.heap.size,0,none⟩) hlt).trans b0) ?_
     refine ready1 14 (fun K hK=>?_)
     go_simp
     refine(wrong_run d _).mono ?_
     rintro e w2 ⟨q,rfl,hq,hb2⟩
     have hS2:=hS.trans (hb2.mono hS.size)
     have hcon:=contains_nf 89 (.pointer (some ⟨q,0,none⟩)) _ hs (hintB d) w2 (enters_of Tryz.func89 (by kernel_rfl) rfl) (HH.out.below hS2) (by omega) (fun W hb x _=>wrong_one d q x W ((hb.cell (p:=⟨q,0,none⟩) (World.block_lt_of_cell? w2 _ hq)).trans hq))
     rw[HANY.out]at hcon
     have HCON:=Lib.hid hcon
     refine hK.out _ _ hS2 (fun _=>?_)
     clear hK hS hcon hb2 hq
     refine ready1 15 (fun K hK=>?_)
     go_simp
     refine HCON.out.mono ?_
     rintro e w3 ⟨rfl,hb3⟩
     have hS:=hS2.trans (hb3.mono hS2.size)
     refine hK.out _ _ hS (fun _=>?_)
     clear hK hS2 hb3 HCON
     refine takeE 16 47 ?_
     refine takeE 17 48 ?_
     refine takeE 18 2 ?_
     refine wpAnyH_done (by kernel_rfl) ?_ _
     go_wp2_with fail
     go_ret
     exact⟨by rw[HS.out];rfl,HB.out.trans (hS.mono HB.out.size)⟩
end Go.Proofs.YtkfgplfllddhnaaGreat
