/- Copy (package lratext). Steps that are right (package lratext). -/
import Derived.Test.YteigjcichmpejaaDoorV105
import Derived.Deep.RegionHeld3
namespace Go.Proofs.YteigjcichmpejaaDoor
open Go.RowKit
structure StepsAt (O:Nat→Prop) (w:World) (v:Value) (l:List EStep) (ms:List MStep):Prop where
 row:w.ownsRow 0 49 4 v ms.length (ms.flatMap MStep.cells)
 steps:ms.map MStep.s=l
 each: ∀m∈ms,m.At O w
theorem oneCells {O:Nat→Prop} {w:World} {ms:List MStep} (h: ∀m∈ms,m.At O w): ∀u∈ms.flatMap MStep.cells,u.oneCell'=true:=by
 intro u hu
 obtain⟨m,hm,hu⟩:=List.mem_flatMap.1 hu
 simp only[MStep.cells,List.mem_cons,List.not_mem_nil,or_false]at hu
 rcases hu with rfl|rfl|rfl|rfl
 ·rfl
 ·rfl
 ·exact own_one (h m hm).lits
 ·exact own_one (h m hm).hints
theorem cells_put (ms' ms:List MStep) (k:Nat) (m:MStep) (u v:Value) (hk:ms'.length=k) (hm:ms[k]? =some m):
  ((ms'.flatMap MStep.cells++(ms.drop k).flatMap MStep.cells).set (k*4+2) u).set (k*4+3) v=(ms'++ [(⟨u,v,m.s⟩:MStep)]).flatMap MStep.cells++(ms.drop (k+1)).flatMap MStep.cells:=by
 have hlt:k<ms.length:=(List.getElem?_eq_some_iff.1 hm).1
 have hlen:(ms'.flatMap MStep.cells).length=k*4:=by rw[cells_len,hk]
 rw[List.drop_eq_getElem_cons hlt,List.flatMap_cons,List.flatMap_append]
 rw[List.getElem?_eq_getElem hlt]at hm
 rw[Option.some.inj hm,List.set_append_right _ _ (by omega),List.set_append_right _ _ (by omega),hlen,show k*4+2-k*4=2 by omega,show k*4+3-k*4=3 by omega,List.append_assoc]
 rfl
set_option maxRecDepth 100000 in
set_option maxHeartbeats 1000000 in
theorem copy_any {O:Nat→Prop} (v:Value) (l:List EStep) (ms:List MStep) (w:World) (h:StepsAt O w v l ms) (hn:ms.length≤1000000) (hb: ∀s∈l,s.lits.length≤17592186044416∧s.hints.length≤17592186044416):
  Calls Tryd.prog 25 #[v] w fun e w'=> ∃v' ms',e= .returned v'∧StepsAt (fun g=>w.heap.size≤g) w' v' l ms'∧w'.ownsRow w.heap.size 49 4 v' ms'.length (ms'.flatMap MStep.cells)∧Below w.heap.size w w':=by
 obtain⟨As,cs,rfl,hcs⟩:=own_slice h.row
 have HC:=Lib.hid (clone_steps _ _ _ w h.row hn (oneCells h.each))
 have H:=Lib.hid h
 have HB:=Lib.hid hb
 clear h hb
 go_enter Tryd.func25,Tryd.ntmps25
 go_wp2_with fail
 refine HC.out.mono ?_
 rintro e w1 ⟨v',rfl,hown,hb1⟩
 obtain⟨Ao,co,rfl,hco⟩:=own_slice hown
 have HOWN:=Lib.hid hown
 have HB1:=Lib.hid hb1
 clear hown hb1
 go_wp2_with fail
 go_loopw [9] (fun i wr=> ∃(k:Nat) (ms':List MStep),k≤ms.length∧i= .int .i64 k∧Hid (ms'.length=k)∧Hid (ms'.map MStep.s=(ms.take k).map MStep.s)∧Hid (wr.ownsRow w.heap.size 49 4 (.slice Ao ms.length co) ms.length (ms'.flatMap MStep.cells++(ms.drop k).flatMap MStep.cells))∧Hid (∀m∈ms',m.At (fun g=>w1.heap.size≤g) wr)∧Hid (Below w.heap.size w wr)∧w1.heap.size≤wr.heap.size) (fun i _=>ms.length-(intOf i).toNat)
 case atStart=>exact⟨0,[],Nat.zero_le _,rfl,Lib.hid rfl,Lib.hid rfl,HOWN,Lib.hid (fun m hm=>by cases hm),HB1,Nat.le_refl _⟩
 case round=>
  obtain⟨k,ms',hk,rfl,HKL,HS,HR,HE,HBw,hzw⟩:=hrel
  by_cases hlt:k<ms.length
  ·obtain⟨m,hm⟩: ∃m,ms[k]? =some m:=⟨_,List.getElem?_eq_getElem hlt⟩
   have hma:=H.out.each m (List.mem_of_getElem? hm)
   have hmb:=HB.out m.s (by rw[←H.out.steps];exact List.mem_map_of_mem (List.mem_of_getElem? hm))
   obtain⟨A1,k1,hlv,hk1⟩:=own_slice hma.lits
   obtain⟨A2,k2,hhv,hk2⟩:=own_slice hma.hints
   have hIL:=Lib.hid ((IntsIn.of_own hma.lits).below (Below.refl _ _))
   have hIH:=Lib.hid ((IntsIn.of_own hma.hints).below (Below.refl _ _))
   have hcell: ∀j,j<4→(ms.flatMap MStep.cells)[k*4+j]? =m.cells[j]? :=fun j hj=>cells_at ms k m hm j hj
   obtain⟨gs,hAs⟩: ∃gs,As=some ⟨gs,0,none⟩:=by
    rcases H.out.row.2 with⟨hv,h0⟩|⟨g,cap,cur,hv,_⟩
    ·omega
    ·simp only[Value.slice.injEq]at hv
     exact⟨g,hv.1⟩
   subst hAs
   obtain⟨go,hAo⟩: ∃go,Ao=some ⟨go,0,none⟩:=by
    rcases HOWN.out.2 with⟨hv,h0⟩|⟨g,cap,cur,hv,_⟩
    ·omega
    ·simp only[Value.slice.injEq]at hv
     exact⟨g,hv.1⟩
   subst hAo
   have hgs:gs<w.heap.size:=(own_lt H.out.row gs rfl).2
   have hgo:w.heap.size≤go:=(own_lt HR.out go rfl).1
   have hgo2:go<wr.heap.size:=(own_lt HR.out go rfl).2
   have hgs2:gs<wr.heap.size:=by omega
   have hne:go≠gs:=by omega
   have hne':gs≠go:=by omega
   have d2:wr.cell? ⟨gs,k*4+2,none⟩=some m.lv:=by
    rw[HBw.out.cell (p:=⟨gs,k*4+2,none⟩) hgs,←addr_add]
    exact H.out.row.cells (g:=gs) rfl _ _ (hcell 2 (by omega))
   have d3:wr.cell? ⟨gs,k*4+3,none⟩=some m.hv:=by
    rw[HBw.out.cell (p:=⟨gs,k*4+3,none⟩) hgs,←addr_add]
    exact H.out.row.cells (g:=gs) rfl _ _ (hcell 3 (by omega))
   have hdrop:(ms.drop k).flatMap MStep.cells=m.cells++(ms.drop (k+1)).flatMap MStep.cells:=by
    rw[List.drop_eq_getElem_cons hlt,List.flatMap_cons]
    rw[List.getElem?_eq_getElem hlt]at hm
    rw[Option.some.inj hm]
   have hlen':(ms'.flatMap MStep.cells).length=k*4:=by rw[cells_len,HKL.out]
   have e2:wr.cell? ⟨go,k*4+2,none⟩=some m.lv:=by
    rw[←addr_add]
    refine HR.out.cells (g:=go) rfl _ _ ?_
    rw[List.getElem?_append_right (by omega),hlen',hdrop,show k*4+2-k*4=2 by omega]
    rfl
   have e3:wr.cell? ⟨go,k*4+3,none⟩=some m.hv:=by
    rw[←addr_add]
    refine HR.out.cells (g:=go) rfl _ _ ?_
    rw[List.getElem?_append_right (by omega),hlen',hdrop,show k*4+3-k*4=3 by omega]
    rfl
   obtain⟨cg,hcg⟩:=own_type HR.out go rfl
   have g2:=free_of_block (j:=k*4+2) hcg
   have g3:=free_of_block (j:=k*4+3) hcg
   have HDR:=Lib.hid hdrop
   have HLN:=Lib.hid hlen'
   rw[hlv]at d2 e2
   rw[hhv]at d3 e3
   have HLV:=Lib.hid hlv
   have HHV:=Lib.hid hhv
   have HM:=Lib.hid hm
   have hIL2:=Lib.hid ((hIL.out.below HBw.out).below (Below.refl _ wr).drew)
   rw[hlv]at hIL2
   have hIH2:=Lib.hid ((hIH.out.below HBw.out).below (Below.refl _ wr).drew)
   rw[hhv]at hIH2
   have hlt2:(k:Int)<(ms.length:Int):=by omega
   have hk0:(0:Int)≤(k:Int):=by omega
   clear hma hcell hcg hdrop hlen' hlv hhv hm hIL hIH
   go_wp2_with fail
   refine wp_region_held_drew (S:=fun w'=>w'.cell? ⟨gs,k*4+2,none⟩=some (.slice A1 m.s.lits.length k1)∧w'.cell? ⟨gs,k*4+3,none⟩=some (.slice A2 m.s.hints.length k2)) (by kernel_rfl) ⟨d2,d3⟩ (fun hHeld=>?_)
   refine takeS 0 12 ?_
   refine takeS 1 13 ?_
   refine takeS 2 14 ?_
   refine takeS 3 15 ?_
   refine takeS 4 16 ?_
   refine takeS 5 17 ?_
   refine takeS 6 18 ?_
   refine takeS 7 19 ?_
   refine takeS 8 20 ?_
   refine takeS 10 22 ?_
   refine takeS 11 23 ?_
   refine takeS 12 24 ?_
   refine takeS 13 25 ?_
   refine takeS 14 26 ?_
   refine ready1 9 (fun K hK=>?_)
   go_simp
   refine(clone_c _ _ _ hIL2.out (by omega)).mono ?_
   rintro e wx ⟨vx,rfl,ho1,hbx⟩
   obtain⟨B1,j1,rfl,_⟩:=own_slice ho1
   have hzx:wr.heap.size≤wx.heap.size:=hbx.size
   have hgox:go<wx.heap.size:=by omega
   have hgsx:gs<wx.heap.size:=by omega
   refine hK.out _ _ ⟨(hbx.cell (p:=⟨gs,k*4+2,none⟩) hgs2).trans hHeld.1,(hbx.cell (p:=⟨gs,k*4+3,none⟩) hgs2).trans hHeld.2⟩ (fun hHeld1=>?_)
   clear hK hHeld
   refine ready1 15 (fun K hK=>?_)
   go_simp
   refine(clone_i _ _ _ (hIH2.out.below hbx) (by omega)).mono ?_
   rintro e wy ⟨vy,rfl,ho2,hby⟩
   obtain⟨B2,j2,rfl,_⟩:=own_slice ho2
   have y2:wy.cell? ⟨go,k*4+2,none⟩=some (.slice A1 m.s.lits.length k1):=(hby.cell (p:=⟨go,k*4+2,none⟩) hgox).trans ((hbx.cell (p:=⟨go,k*4+2,none⟩) hgo2).trans e2)
   have y3:wy.cell? ⟨go,k*4+3,none⟩=some (.slice A2 m.s.hints.length k2):=(hby.cell (p:=⟨go,k*4+3,none⟩) hgox).trans ((hbx.cell (p:=⟨go,k*4+3,none⟩) hgo2).trans e3)
   have z2:wy.frozen? ⟨go,k*4+2,none⟩=false:=(hby.frozen (p:=⟨go,k*4+2,none⟩) hgox).trans ((hbx.frozen (p:=⟨go,k*4+2,none⟩) hgo2).trans g2)
   have z3:wy.frozen? ⟨go,k*4+3,none⟩=false:=(hby.frozen (p:=⟨go,k*4+3,none⟩) hgox).trans ((hbx.frozen (p:=⟨go,k*4+3,none⟩) hgo2).trans g3)
   refine hK.out _ _ ⟨(hby.cell (p:=⟨gs,k*4+2,none⟩) hgsx).trans hHeld1.1,(hby.cell (p:=⟨gs,k*4+3,none⟩) hgsx).trans hHeld1.2⟩ (fun hHeld2=>?_)
   clear hK hHeld1
   refine takeS 16 28 ?_
   refine takeS 17 29 ?_
   obtain⟨HH1,HH2⟩:=hHeld2
   have hgoy:go<wy.heap.size:=Nat.lt_of_lt_of_le hgox hby.size
   refine ready1 18 (fun K hK=>?_)
   go_simp
   refine hK.out _ _ ⟨(World.cell?_setCell_far _ _ _ _ hne).trans HH1,(World.cell?_setCell_far _ _ _ _ hne).trans HH2⟩ (fun hHeld3=>?_)
   clear hK HH1 HH2
   refine takeS 19 30 ?_
   refine takeS 20 31 ?_
   refine ready1 21 (fun K hK=>?_)
   go_simp
   refine hK.out _ _ ⟨(World.cell?_setCell_far _ _ _ _ hne).trans hHeld3.1,(World.cell?_setCell_far _ _ _ _ hne).trans hHeld3.2⟩ (fun hHeld4=>?_)
   clear hK hHeld3 hHeld4
   refine wpAnyH_done (by kernel_rfl) ?_ _
   have hS6:Kept (fun g=>g=go) wy ((wy.setCell ⟨go,k*4+2,none⟩ (.slice B1 m.s.lits.length j1)).setCell ⟨go,k*4+3,none⟩ (.slice B2 m.s.hints.length j2)):=((Kept.refl (fun g=>g=go) wy).setCell ⟨go,k*4+2,none⟩ _ rfl).setCell ⟨go,k*4+3,none⟩ _ rfl
   have hWY:Below wr.heap.size wr wy:=((Below.refl _ wr).drew).trans (hbx.trans (hby.mono hbx.size))
   have hrow6:=own_set (own_set (own_below HR.out hWY) (k*4+2) (.slice B1 m.s.lits.length j1)) (k*4+3) (.slice B2 m.s.hints.length j2)
   have hfr: ∀{e:TypeId} {v:Value} {n:Nat} {xs:List Value},wy.ownsRow wr.heap.size e 1 v n xs→((wy.setCell ⟨go,k*4+2,none⟩ (.slice B1 m.s.lits.length j1)).setCell ⟨go,k*4+3,none⟩ (.slice B2 m.s.hints.length j2)).ownsRow 0 e 1 v n xs:=fun {e v n xs} ho=>
    own_mono (own_kept ho hS6 (fun g hg hg'=>by have:=(own_lt ho g hg).1;omega)) (Nat.zero_le _)
   have hn1:=own_below ho1 hby
   have hn2:=own_mono ho2 hzx
   have hK6:Kept (fun g=>g=go) wr ((wy.setCell ⟨go,k*4+2,none⟩ (.slice B1 m.s.lits.length j1)).setCell ⟨go,k*4+3,none⟩ (.slice B2 m.s.hints.length j2)):=(Kept.of_below hWY).trans hS6 (fun _ _ h=>h)
   have hnew:MStep.At (fun g=>w1.heap.size≤g) ((wy.setCell ⟨go,k*4+2,none⟩ (.slice B1 m.s.lits.length j1)).setCell ⟨go,k*4+3,none⟩ (.slice B2 m.s.hints.length j2)) ⟨.slice B1 m.s.lits.length j1,.slice B2 m.s.hints.length j2,m.s⟩:=
    ⟨hfr hn1,fun g hg=>Nat.le_trans hzw (own_lt hn1 g hg).1,hfr hn2,fun g hg=>Nat.le_trans hzw (own_lt hn2 g hg).1⟩
   have hold: ∀x∈ms',x.At (fun g=>w1.heap.size≤g) ((wy.setCell ⟨go,k*4+2,none⟩ (.slice B1 m.s.lits.length j1)).setCell ⟨go,k*4+3,none⟩ (.slice B2 m.s.hints.length j2)):=fun x hx=>
    (HE.out x hx).typed hK6 (fun g c t hc hg=>by
     obtain⟨c',hc'⟩:=own_type HR.out go rfl
     rw[hg,hc']at hc
     simp only[Option.some.injEq,Obj.cells.injEq]at hc
     rw[←hc.2.1]
     exact⟨by decide,by decide⟩)
   have hB6:=HBw.out.trans (hK6.below (B:=w.heap.size) (fun g hg=>by omega) (by omega))
   have hsz6:=hK6.size
   rw[cells_put ms' ms k m _ _ HKL.out HM.out]at hrow6
   have HR6:=Lib.hid hrow6
   have HN6:=Lib.hid hnew
   have HO6:=Lib.hid hold
   have HB6:=Lib.hid hB6
   clear hrow6 hnew hold hB6 hfr hn1 hn2 hK6 hS6 hWY ho1 ho2 hbx hby
   go_wp2_with fail
   go_roundw
   case rel=>
    refine⟨k+1,ms'++ [⟨.slice B1 m.s.lits.length j1,.slice B2 m.s.hints.length j2,m.s⟩],by omega,by go_num,Lib.hid (by rw[List.length_append,HKL.out];rfl),Lib.hid ?_,HR6,Lib.hid ?_,HB6,by omega⟩
    ·rw[List.map_append,HS.out,List.take_add_one,HM.out,List.map_append]
     rfl
    ·intro x hx
     rcases List.mem_append.1 hx with h1|h1
     ·exact HO6.out x h1
     ·obtain rfl:=List.mem_singleton.1 h1
      exact HN6.out
   case measure=>simp[intOf];omega
  ·obtain rfl:k=ms.length:=by omega
   go_wp2_with fail
   go_ret
   have hrow:=HR.out
   rw[List.drop_length,List.flatMap_nil,List.append_nil,←HKL.out]at hrow
   have hst:=HS.out
   rw[List.take_length]at hst
   refine⟨.slice Ao ms'.length co,ms',by rw[HKL.out];rfl,⟨own_mono hrow (Nat.zero_le _),hst.trans H.out.steps,fun m hm=>(HE.out m hm).mono (fun g hg=>Nat.le_trans HB1.out.size hg)⟩,hrow,HBw.out⟩
end Go.Proofs.YteigjcichmpejaaDoor
namespace Go.Proofs.YteigjcichmpejaaDoor
open Go.RowKit
structure ELog.Ok (L:ELog):Prop where
 steps:L.steps.length≤262144
 last:L.last≤1073741824
 each: ∀s∈L.steps,s.lits.length≤4096∧s.hints.length≤65536
set_option maxHeartbeats 400000 in
theorem log_steps {O:Nat→Prop} (b:Nat) (L:ELog) (w:World) (h:LogAt O w b L) (hk:L.Ok):
  Calls Tryd.prog 11 #[.pointer (some ⟨b,0,none⟩)] w fun e w'=> ∃v' ms',e= .returned v'∧StepsAt (fun g=>w.heap.size≤g) w' v' L.steps ms'∧w'.ownsRow w.heap.size 49 4 v' ms'.length (ms'.flatMap MStep.cells)∧Below w.heap.size w w':=by
 obtain⟨mb,sv,ms,h⟩:=h
 obtain⟨c0,c1,c2,c3,c4⟩:=h.cells
 have hms:ms.length=L.steps.length:=by rw[←h.steps,List.length_map]
 have hs:=hk.steps
 have HC:=Lib.hid (copy_any sv L.steps ms w ⟨h.row,h.steps,h.each⟩ (by omega) (fun s hs=>by have:=hk.each s hs;omega))
 obtain⟨As,cs,rfl,hcs⟩:=own_slice h.row
 clear h c0 c1 c2 c4 hms hs
 go_enter Tryd.func11,Tryd.ntmps11
 go_wp2_with fail
 refine HC.out.mono ?_
 rintro e w1 ⟨v',ms',rfl,hs1,hr1,hb1⟩
 have H1:=Lib.hid hs1
 have H2:=Lib.hid hr1
 have H3:=Lib.hid hb1
 clear hs1 hr1 hb1
 go_wp2_with fail
 go_ret
 exact⟨v',ms',rfl,H1.out,H2.out,H3.out⟩
end Go.Proofs.YteigjcichmpejaaDoor
namespace Go.Proofs.YteigjcichmpejaaDoor
open Go.RowKit
def HintOk (x:Int):Prop:=1≤x∧x≤1073741824
set_option maxHeartbeats 400000 in
theorem wrong_hint (x:Int) (bx:Nat) (r:Bool) (w:World) (hx:HintOk x) (hb:w.cell? ⟨bx,0,none⟩=some (.bool r)):
  Calls Tryd.prog 52 #[.int .i64 x,.pointer (some ⟨bx,0,none⟩)] w fun e w'=>e= .returned (.bool false)∧w=w':=by
 obtain⟨h1,h2⟩:=hx
 have q1:(x==0)=false:=by simp;omega
 have q2:decide ((1073741824:Int)<x)=false:=by simp;omega
 have q3:decide (x< -1073741824)=false:=by simp;omega
 have q4:decide (x<0)=false:=by simp;omega
 cases r
 all_goals
  go_enter Tryd.func52,Tryd.ntmps52
  go_wp2
  go_ret
  exact⟨rfl,rfl⟩
set_option maxRecDepth 100000 in
set_option maxHeartbeats 1000000 in
theorem index_hints {O:Nat→Prop} (u:Value) (xs:List Int) (bx:Nat) (r:Bool) (w:World) (h1:IntsIn O w u xs) (hs:xs.length≤140737488355328) (hok: ∀x∈xs,HintOk x) (hb:w.cell? ⟨bx,0,none⟩=some (.bool r)):
  Calls Tryd.prog 39 #[u,.func (.func 52) #[] #[.pointer (some ⟨bx,0,none⟩)]] w fun e w'=>e= .returned (.int .i64 (-1))∧w=w':=by
 obtain⟨A,c,rfl,hc,_,hx⟩:=h1
 have HX:=Lib.hid hx
 have HF:=Lib.hid (fun x hx=>wrong_hint x bx r w hx hb)
 have HOK:=Lib.hid hok
 clear hx hb hok
 go_enter Tryd.func39,Tryd.ntmps39
 go_wp2
 go_loop [8] (fun i=> ∃k:Nat,k≤xs.length∧i= .int .i64 k) (fun i=>xs.length-(intOf i).toNat)
 case atStart=>exact⟨0,Nat.zero_le _,rfl⟩
 case round=>
  obtain⟨k,hk,rfl⟩:=hrel
  by_cases hlt:k<xs.length
  ·obtain⟨x,hxk⟩:=getElem_of hlt
   obtain⟨g,o,rfl,hg,_,d1⟩:=HX.out k x hxk
   have HW:=Lib.hid (HF.out x (HOK.out x (List.mem_of_getElem? hxk)))
   clear hxk
   go_wp2_with fail
   refine HW.out.mono ?_
   rintro e w' ⟨rfl,rfl⟩
   go_wp2
   go_round
   case rel=>exact⟨k+1,by omega,by go_num⟩
   case measure=>simp[intOf];omega
  ·obtain rfl:k=xs.length:=by omega
   go_wp2
   go_ret
   exact⟨rfl,rfl⟩
set_option maxHeartbeats 400000 in
theorem contains_hints {O:Nat→Prop} (u:Value) (xs:List Int) (bx:Nat) (r:Bool) (w:World) (h1:IntsIn O w u xs) (hs:xs.length≤140737488355328) (hok: ∀x∈xs,HintOk x) (hb:w.cell? ⟨bx,0,none⟩=some (.bool r)):
  Calls Tryd.prog 22 #[u,.func (.func 52) #[] #[.pointer (some ⟨bx,0,none⟩)]] w fun e w'=>e= .returned (.bool false)∧w=w':=by
 have H:=Lib.hid (index_hints u xs bx r w h1 hs hok hb)
 clear hok hb
 go_enter Tryd.func22,Tryd.ntmps22
 go_wp2_with fail
 refine H.out.mono ?_
 rintro e w' ⟨rfl,rfl⟩
 go_wp2_with fail
 go_ret
 exact⟨rfl,rfl⟩
end Go.Proofs.YteigjcichmpejaaDoor
