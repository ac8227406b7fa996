/- The trail: Assign. The trail: New. -/
import Derived.Test.YtoojmhjagipmdaaGreatV102
import Derived.Laws.OwnMore
namespace Go.Proofs.YtoojmhjagipmdaaGreat
open Go.RowKit
theorem TrNext.of_below {O:Nat→Prop} {w w':World} {b:Nat} {T:Trl} (h:TrAt O w b T) (hb:Below w.heap.size w w'):TrNext O w w' b T:=by
 obtain⟨hk,gv,cv,ov,sv,h⟩:=h
 have k:=h.kept (O':=fun _=>False) (Kept.of_below hb) (fun _ _ h=>h)
 exact⟨⟨hk,gv,cv,ov,sv,⟨fun g hg=>hg.elim (fun h1=>k.own g h1) (fun h1=>h1.2),.inl k.inb,.inl k.invs,k.block,k.vars,k.order,fun g hg=>.inl (k.orderb g hg),k.starts,fun g hg=>.inl (k.startsb g hg)⟩⟩,Kept.of_below hb⟩
def Trl.now (T:Trl):Int:=(T.starts.length:Int)-1
def Trl.assignErr (T:Trl) (l r:Int):Nat:=match T.at (litV l)with
 | none=>40
 | some s=>if r<0∨1073741824<r then 2 else if s.value≠0 then 41 else 0
def Trl.assign (T:Trl) (l r:Int):Trl:=⟨T.vars.set (litV l) ⟨T.now,r,T.order.length,litS l⟩,T.order++ [l],T.starts⟩
def Trl.assigned (T:Trl) (l r:Int):Trl:=if T.assignErr l r=0 then T.assign l r else T
theorem tvCells_len (l:List TV):(l.flatMap TV.cells).length=l.length*4:=by
 induction l with
 | nil=>rfl
 | cons x l ih=>
  rw[List.flatMap_cons,List.length_append,ih]
  simp[TV.cells]
  omega
theorem tvCells_div (l:List TV) (q:Nat):(l.flatMap TV.cells)[q]? =(l[q/4]?).bind fun x=>x.cells[q%4]? :=by
 have e:q=q/4*4+q%4:=by omega
 cases h:l[q/4]? with
 | none=>
  rw[List.getElem?_eq_none]
  ·
   rfl
  ·
   have:=List.getElem?_eq_none_iff.1 h
   rw[tvCells_len]
   omega
 | some x=>
  conv=>lhs;rw[e]
  rw[tvCells_at l (q/4) (q%4) x h (Nat.mod_lt _ (by decide))]
  rfl
theorem vars_set {w:World} {g n c i:Nat} {l:List TV} (h:w.ownsRow 0 150 4 (.slice (some ⟨g,0,none⟩) n c) n (l.flatMap TV.cells)) (hn:l.length=n) (hi:i<n) (x:TV):
  ((((w.setCell ⟨g,i*4,none⟩ (.int .i64 x.level)).setCell ⟨g,i*4+1,none⟩ (.int .i64 x.reason)).setCell ⟨g,i*4+2,none⟩ (.int .i64 x.place)).setCell ⟨g,i*4+3,none⟩ (.int .i64 x.value)).ownsRow 0 150 4 (.slice (some ⟨g,0,none⟩) n c) n ((l.set i x).flatMap TV.cells):=by
 obtain⟨h0,h1⟩:=h
 rcases h1 with⟨h1,_⟩|⟨g',cap,cur,hv,hb,hg,hle,hm,hs,hx⟩
 ·
  cases h1
 ·
  cases hv
  refine⟨by rw[tvCells_len,List.length_set,hn],.inr ⟨g,c,_,rfl,hb,mx_set (mx_set (mx_set (mx_set hg _) _) _) _,hle,hm,by simpa using hs,?_⟩⟩
  apply List.ext_getElem?
  intro q
  rw[List.getElem?_take,tvCells_div,List.getElem?_set]
  have hq0:(l.flatMap TV.cells)[q]? =if q<n*4 then cur[q]? else none:=by
   rw[←hx,List.getElem?_take]
   split
   ·
    rw[Array.getElem?_toList]
   ·
    rfl
  rw[tvCells_div]at hq0
  by_cases hq:q<n*4
  ·
   rw[if_pos hq]at hq0⊢
   rw[Array.getElem?_toList]
   simp only[Array.getElem?_setIfInBounds,Array.size_setIfInBounds]
   by_cases hqi:i=q/4
   ·
    rw[if_pos hqi,if_pos (show i<l.length by omega)]
    have hq4:q=i*4∨q=i*4+1∨q=i*4+2∨q=i*4+3:=by omega
    have hsz:q<cur.size:=by omega
    rcases hq4 with e|e|e|e
    ·
     rw[if_neg (show¬i*4+3=q by omega),if_neg (show¬i*4+2=q by omega),if_neg (show¬i*4+1=q by omega),if_pos (show i*4=q by omega),if_pos (show i*4<cur.size by omega)]
     rw[show q%4=0 by omega]
     rfl
    ·
     rw[if_neg (show¬i*4+3=q by omega),if_neg (show¬i*4+2=q by omega),if_pos (show i*4+1=q by omega),if_pos (show i*4+1<cur.size by omega)]
     rw[show q%4=1 by omega]
     rfl
    ·
     rw[if_neg (show¬i*4+3=q by omega),if_pos (show i*4+2=q by omega),if_pos (show i*4+2<cur.size by omega)]
     rw[show q%4=2 by omega]
     rfl
    ·
     rw[if_pos (show i*4+3=q by omega),if_pos (show i*4+3<cur.size by omega)]
     rw[show q%4=3 by omega]
     rfl
   ·
    rw[if_neg hqi,if_neg (show¬i*4+3=q by omega),if_neg (show¬i*4+2=q by omega),if_neg (show¬i*4+1=q by omega),if_neg (show¬i*4=q by omega)]
    exact hq0.symm
  ·
   rw[if_neg hq]
   by_cases hqi:i=q/4
   ·
    omega
   ·
    rw[if_neg hqi,List.getElem?_eq_none (by omega)]
    rfl
set_option maxRecDepth 100000 in
set_option maxHeartbeats 2000000 in
theorem tr_assign {O:Nat→Prop} (b:Nat) (T:Trl) (l r:Int) (w:World) (h:TrAt O w b T) (hno:T.order.length<1048576):
  Calls Tryz.prog 54 #[.pointer (some ⟨b,0,none⟩),.int .i64 l,.int .i64 r] w fun e w'=>e= .returned (.int .i64 (T.assignErr l r:Nat))∧TrNext O w w' b (T.assigned l r):=by
 have HIS:=Lib.hid (tr_is b T w h)
 have HV:=Lib.hid (lit_var l w)
 have HT:=Lib.hid h
 obtain⟨hk,gv,cv,ov,sv,h⟩:=h
 have hst:=tr_state b T gv cv ov sv (litV l) w hk h
 have HK:=Lib.hid hk
 have HM:=Lib.hid h
 obtain⟨m,hm⟩: ∃m,litV l=m:=⟨_,rfl⟩
 rw[hm]at hst HV
 have hbw:=heap_lt h.block
 rcases hat:T.at (m:Int)with _|s
 ·
  rw[hat,stateVal_none]at hst
  have HST:=Lib.hid hst
  have hE:T.assignErr l r=40:=by unfold Trl.assignErr;rw[hm,hat]
  have HE:=Lib.hid hE
  have HA:=Lib.hid (show T.assigned l r=T from by unfold Trl.assigned;rw[if_neg (by rw[hE];decide)])
  clear hst hat h hk hm hE
  go_enter Tryz.func54,Tryz.ntmps54
  go_wp2_with fail
  refine HIS.out.mono ?_
  rintro e w' ⟨rfl,rfl⟩
  go_wp2_with fail
  refine HV.out.mono ?_
  rintro e w' ⟨rfl,rfl⟩
  go_wp2_with fail
  refine HST.out.mono ?_
  rintro e w' ⟨rfl,rfl⟩
  go_wp2_with fail
  go_ret
  exact⟨by rw[HE.out];rfl,by rw[HA.out];exact TrNext.of_below HT.out (Below.refl _ _)⟩
 ·
  rw[hat,stateVal_some]at hst
  have hget:=Trl.at_get hat
  rw[Int.toNat_natCast]at hget hst
  obtain⟨c0,c1,c2,c3⟩:=h.var hget
  have HST:=Lib.hid hst
  by_cases hr:r<0∨1073741824<r
  ·
   have hE:T.assignErr l r=2:=by unfold Trl.assignErr;rw[hm,hat];exact if_pos hr
   have HE:=Lib.hid hE
   have HA:=Lib.hid (show T.assigned l r=T from by unfold Trl.assigned;rw[if_neg (by rw[hE];decide)])
   clear hst hat h hk hm hE hget
   by_cases hr0:r<0
   ·
    have q0:decide (r<0)=true:=by simpa using hr0
    clear hr
    go_enter Tryz.func54,Tryz.ntmps54
    go_wp2_with fail
    refine HIS.out.mono ?_
    rintro e w' ⟨rfl,rfl⟩
    go_wp2_with fail
    refine HV.out.mono ?_
    rintro e w' ⟨rfl,rfl⟩
    go_wp2_with fail
    refine HST.out.mono ?_
    rintro e w' ⟨rfl,rfl⟩
    go_wp2_with fail
    go_ret
    exact⟨by rw[HE.out];rfl,by rw[HA.out];exact TrNext.of_below HT.out (Below.refl _ _)⟩
   ·
    have q0:decide (r<0)=false:=by simpa using hr0
    have q1:decide ((1073741824:Int)<r)=true:=by simp;omega
    clear hr
    go_enter Tryz.func54,Tryz.ntmps54
    go_wp2_with fail
    refine HIS.out.mono ?_
    rintro e w' ⟨rfl,rfl⟩
    go_wp2_with fail
    refine HV.out.mono ?_
    rintro e w' ⟨rfl,rfl⟩
    go_wp2_with fail
    refine HST.out.mono ?_
    rintro e w' ⟨rfl,rfl⟩
    go_wp2_with fail
    go_ret
    exact⟨by rw[HE.out];rfl,by rw[HA.out];exact TrNext.of_below HT.out (Below.refl _ _)⟩
  ·
   have q0:decide (r<0)=false:=by simp;omega
   have q1:decide ((1073741824:Int)<r)=false:=by simp;omega
   by_cases hs0:s.value=0
   ·
    have q2:(s.value != 0)=false:=by simpa using hs0
    have hE:T.assignErr l r=0:=by unfold Trl.assignErr;rw[hm,hat];simp only[];rw[if_neg hr,if_neg (by simpa using hs0)]
    have HE:=Lib.hid hE
    have HA:=Lib.hid (show T.assigned l r=⟨T.vars.set m ⟨T.now,r,T.order.length,litS l⟩,T.order++ [l],T.starts⟩from by unfold Trl.assigned;rw[if_pos hE];unfold Trl.assign;rw[hm])
    have hmv:m<T.vars.length:=(List.getElem?_eq_some_iff.1 hget).1
    obtain⟨sg,hsg⟩: ∃g,litS l=g:=⟨_,rfl⟩
    have hsa:=litS_abs l
    rw[hsg]at hsa
    have HSG:=Lib.hid (fun W=>(hsg▸tr_sign l W:Calls Tryz.prog 94 #[.int .i64 l] W fun e w'=>e= .returned (.int .i64 sg)∧W=w'))
    rw[hsg]at HA
    obtain⟨Ao,co,rfl,_⟩:=mx_slice h.order
    obtain⟨As,cs,rfl,_⟩:=mx_slice h.starts
    have d1:w.cell? ⟨b,1,none⟩=some (.slice Ao T.order.length co):=mx_cell (j:=1) h.block
    have hgv:=(own_lt h.vars gv rfl).2
    have HSA:=Lib.hid hsa
    have HS0:=Lib.hid hs0
    clear hst hat h hk hm hE hget hsg hsa hr hs0
    go_enter Tryz.func54,Tryz.ntmps54
    go_wp2_with fail
    refine HIS.out.mono ?_
    rintro e w' ⟨rfl,rfl⟩
    go_wp2_with fail
    refine HV.out.mono ?_
    rintro e w' ⟨rfl,rfl⟩
    go_wp2_with fail
    refine HST.out.mono ?_
    rintro e w' ⟨rfl,rfl⟩
    go_wp2_with fail
    refine wp_region_held_drew (S:=fun w'=>w'.cell? ⟨b,1,none⟩=some (.slice Ao T.order.length co)) (by kernel_rfl) d1 (fun hHeld=>?_)
    have hbD:=mx_drew w
    obtain⟨wD,hwD⟩: ∃x,w.drew=x:=⟨_,rfl⟩
    rw[hwD]at hHeld hbD⊢
    have hzD:=hbD.size
    have HBD:=Lib.hid hbD
    clear hwD d1 c0 c1 c2 c3 hbD
    refine takeF 0 35 (fun w hSw=>hSw) ?_
    refine takeF 1 36 (fun w hSw=>hSw) ?_
    refine takeF 3 38 (fun w hSw=>hSw) ?_
    refine takeF 4 39 (fun w hSw=>hSw) ?_
    refine takeF 5 40 (fun w hSw=>hSw) ?_
    refine takeF 6 41 (fun w hSw=>hSw) ?_
    refine takeF 7 42 (fun w hSw=>hSw) ?_
    refine takeF 8 43 (fun w hSw=>hSw) ?_
    refine takeF 10 45 (fun w hSw=>hSw) ?_
    refine ready1 2 (fun K hK=>?_)
    go_simp
    refine(tr_now b T wD (HT.out.below HBD.out)).mono ?_
    rintro e w' ⟨rfl,rfl⟩
    refine hK.out _ _ hHeld (fun hHeld1=>?_)
    clear hK hHeld1
    refine takeF 9 44 (fun w hSw=>hSw) ?_
    refine ready1 11 (fun K hK=>?_)
    go_simp
    refine(HSG.out wD).mono ?_
    rintro e w' ⟨rfl,rfl⟩
    refine hK.out _ _ hHeld (fun hHeld1=>?_)
    clear hK hHeld1
    refine takeF 12 47 (fun w hSw=>hSw) ?_
    refine takeF 13 48 (fun w hSw=>hSw) ?_
    have hMD:=HM.out.kept (O':=fun _=>False) (Kept.of_below HBD.out) (fun _ _ h=>h)
    obtain⟨x0,hx0⟩: ∃s',T.vars[m]? =some s':=⟨_,List.getElem?_eq_getElem hmv⟩
    obtain⟨v0,v1,v2,v3⟩:=hMD.var hx0
    obtain⟨cv0,hvb⟩:=own_type hMD.vars gv rfl
    have f0:=mx_free (j:=m*4) hvb
    have f1:=mx_free (j:=m*4+1) hvb
    have f2:=mx_free (j:=m*4+2) hvb
    have f3:=mx_free (j:=m*4+3) hvb
    have HMD:=Lib.hid hMD
    have HVB:=Lib.hid hvb
    clear hMD hvb hx0
    refine ready1 14 (fun K hK=>?_)
    go_simp
    have hks:Kept (fun g=>g=gv) wD ((((wD.setCell ⟨gv,m*4,none⟩ (.int .i64 ((T.starts.length:Int)-1))).setCell ⟨gv,m*4+1,none⟩ (.int .i64 r)).setCell ⟨gv,m*4+2,none⟩ (.int .i64 (T.order.length:Int))).setCell ⟨gv,m*4+3,none⟩ (.int .i64 sg)):=((((Kept.refl (fun g=>g=gv) wD).setCell ⟨gv,m*4,none⟩ _ rfl).setCell ⟨gv,m*4+1,none⟩ _ rfl).setCell ⟨gv,m*4+2,none⟩ _ rfl).setCell ⟨gv,m*4+3,none⟩ _ rfl
    have hvr:=vars_set HMD.out.vars rfl hmv ⟨T.now,r,T.order.length,sg⟩
    obtain⟨ws,hws⟩: ∃x,((((wD.setCell ⟨gv,m*4,none⟩ (.int .i64 ((T.starts.length:Int)-1))).setCell ⟨gv,m*4+1,none⟩ (.int .i64 r)).setCell ⟨gv,m*4+2,none⟩ (.int .i64 (T.order.length:Int))).setCell ⟨gv,m*4+3,none⟩ (.int .i64 sg))=x:=⟨_,rfl⟩
    have hvr':ws.ownsRow 0 150 4 (.slice (some ⟨gv,0,none⟩) T.vars.length cv) T.vars.length ((T.vars.set m ⟨T.now,r,T.order.length,sg⟩).flatMap TV.cells):=by rw[←hws];exact hvr
    rw[hws]at hks⊢
    have hnv:b≠gv:=fun e=>mx_not HMD.out.vars HMD.out.block (by decide) (by rw[e];rfl)
    have hbs:=(hks.block b (by omega) hnv).trans HMD.out.block
    have d1:ws.cell? ⟨b,1,none⟩=some (.slice Ao T.order.length co):=mx_cell (j:=1) hbs
    refine hK.out _ _ d1 (fun hHeld1=>?_)
    have HKS:=Lib.hid hks
    have HVR:=Lib.hid hvr'
    have HBS:=Lib.hid hbs
    have HKW:=Lib.hid ((Kept.of_below (O:=fun g=>g=gv) HBD.out).trans hks (fun i _ h=>h))
    clear hK hHeld hHeld1 hks hvr hvr' hws hbs v0 v1 v2 v3 f0 f1 f2 f3 HVB
    refine wpAnyH_done (by kernel_rfl) ?_ _
    have fr1:=mx_free (j:=1) HBS.out
    obtain⟨i0,hi0,hz0,hz1,hz2⟩:=info_parts tinfo_lit
    have hro:=own_kept HMD.out.order HKS.out (fun g hg e=>by
     subst e
     exact mx_apart HMD.out.order HMD.out.vars (by decide) hg rfl)
    have HRO:=Lib.hid hro
    have hzs:=HKS.out.size
    clear hro
    go_wp2_with (at_builtin;refine wpList_append_any rfl _ _ 33 rfl 0 32 i0 (.int .i64 0) 1 8 Tryz.underlying33 hi0 hz0 hz1 hz2 rfl (by decide) _ T.order.length _ rfl (own_below HRO.out (mx_al ws (.cells #[.int .i64 l] 32))) (.slice (some ⟨ws.heap.size,0,none⟩) 1 1) 1 [.int .i64 l] rfl (mx_src ws 32 [.int .i64 l]) rfl (by simp[Value.oneCell']) (by unfold maxLen;omega) (by omega) (Nat.zero_le _) ?_;intro v' w2 hown hgrow hat;obtain⟨Ax,kx,hv2,_⟩:=mx_slice hown;subst hv2;have HOX:=Lib.hid hown;have hkg:Kept (fun g=>(Value.slice Ao T.order.length co).ownBlock=some g) ws w2:=(Kept.of_below (mx_al ws (.cells #[.int .i64 l] 32))).trans (Kept.grown hgrow) (fun i hi e=>e.symm);have hnb:(Value.slice Ao T.order.length co).ownBlock≠some b:=mx_not HRO.out HBS.out (by decide);have hb2:=(hkg.block b (by omega) hnb).trans HBS.out;have p1:w2.cell? ⟨b,1,none⟩=some (.slice Ao T.order.length co):=mx_cell (j:=1) hb2;have fp1:=mx_free (j:=1) hb2;have HKG:=Lib.hid hkg;have HB2:=Lib.hid hb2;have HAT:=Lib.hid (show(Value.slice Ax (T.order.length+1) kx).ownBlock=(Value.slice Ao T.order.length co).ownBlock∨(Value.slice Ax (T.order.length+1) kx).ownBlock=some (ws.heap.size+1)from by rw[←World.size_alloc];exact hat);clear hown hgrow hat hkg hb2 d1 fr1)
    obtain⟨wf,hwf⟩: ∃x,w2.setCell ⟨b,1,none⟩ (.slice Ax (T.order.length+1) kx)=x:=⟨_,rfl⟩
    have hkf:Kept (fun g=>g=b) w2 wf:=by rw[←hwf];exact(Kept.refl (fun g=>g=b) w2).setCell ⟨b,1,none⟩ _ rfl
    have hbf:wf.heap[b]? =some (.cells #[.slice (some ⟨gv,0,none⟩) T.vars.length cv,.slice Ax (T.order.length+1) kx,.slice As T.starts.length cs,.bool true] 153 (0,0)):=by rw[←hwf];exact mx_set HB2.out _ (j:=1)
    rw[hwf]
    have hnx:(Value.slice Ax (T.order.length+1) kx).ownBlock≠some b:=mx_not HOX.out HB2.out (by decide)
    have hsf:Kept (fun g=>g=b∨(Value.slice Ao T.order.length co).ownBlock=some g) ws wf:=(HKG.out.mono (fun g _ h=>.inr h)).trans hkf (fun i _ e=>.inl e)
    have hwW:Kept (fun g=>g=gv∨g=b∨(Value.slice Ao T.order.length co).ownBlock=some g) w wf:=(HKW.out.mono (fun g _ h=>.inl h)).trans hsf (fun i _ e=>.inr e)
    have hsz:=hwW.size
    go_ret
    rw[HE.out,HA.out]
    refine⟨rfl,⟨⟨?_,?_,HK.out.starts,?_⟩,gv,cv,.slice Ax (T.order.length+1) kx,.slice As T.starts.length cs,⟨?_,.inl HM.out.inb,.inl HM.out.invs,?_,?_,?_,?_,?_,fun g hg=>.inl (HM.out.startsb g hg)⟩⟩,hwW.mono (fun g hg e=>?_)⟩
    ·
     show 1≤(T.vars.set m _).length∧(T.vars.set m _).length≤1048577
     rw[List.length_set]
     exact HK.out.vars
    ·
     show(T.order++ [l]).length≤1048576
     rw[List.length_append,List.length_singleton]
     omega
    ·
     intro s' hs'
     rcases List.mem_or_eq_of_mem_set hs' with h1|h1
     ·
      exact HK.out.each s' h1
     ·
      rw[h1]
      exact .inr HSA.out
    ·
     intro g hg
     rcases hg with hg|hg
     ·
      exact Nat.lt_of_lt_of_le (HM.out.own g hg) hsz
     ·
      exact hg.2
    ·
     show wf.heap[b]? =some (.cells #[.slice (some ⟨gv,0,none⟩) (T.vars.set m _).length cv,.slice Ax (T.order.length+1) kx,_,.bool true] 153 (0,0))
     rw[List.length_set]
     exact hbf
    ·
     show wf.ownsRow 0 _ 4 (.slice (some ⟨gv,0,none⟩) (T.vars.set m _).length cv) (T.vars.set m _).length _
     rw[List.length_set]
     refine own_kept HVR.out hsf (fun g hg e=>?_)
     obtain rfl:gv=g:=Option.some.inj hg
     rcases e with e|e
     ·
      exact hnv e.symm
     ·
      exact mx_apart HRO.out HVR.out (by decide) e rfl
    ·
     have hx:=own_kept HOX.out hkf (fun g hg e=>by
      subst e
      exact hnx hg)
     show wf.ownsRow 0 32 1 (.slice Ax (T.order.length+1) kx) (T.order++ [_]).length ((T.order++ [_]).map _)
     rw[List.length_append,List.map_append]
     exact hx
    ·
     intro g hg
     have h1:=(own_lt HOX.out g hg).2
     rcases Nat.lt_or_ge g w.heap.size with h2|h2
     ·
      rcases HAT.out with h3|h3
      ·
       exact .inl (HM.out.orderb g (h3▸hg))
      ·
       rw[hg]at h3
       have:=Option.some.inj h3
       omega
     ·
      exact .inr ⟨h2,Nat.lt_of_lt_of_le h1 hkf.size⟩
    ·
     refine own_kept HM.out.starts hwW (fun g hg e=>?_)
     rcases e with e|e|e
     ·
      subst e
      exact mx_apart HM.out.starts HM.out.vars (by decide) hg rfl
     ·
      subst e
      exact mx_not HM.out.starts HM.out.block (by decide) hg
     ·
      exact mx_apart HM.out.starts HM.out.order (by decide) hg e
    ·
     rcases e with e|e|e
     ·
      rw[e]
      exact HM.out.invs
     ·
      rw[e]
      exact HM.out.inb
     ·
      exact HM.out.orderb g e
   ·
    have q2:(s.value != 0)=true:=by simpa using hs0
    have hE:T.assignErr l r=41:=by unfold Trl.assignErr;rw[hm,hat];simp only[];rw[if_neg hr,if_pos (by simpa using hs0)]
    have HE:=Lib.hid hE
    have HA:=Lib.hid (show T.assigned l r=T from by unfold Trl.assigned;rw[if_neg (by rw[hE];decide)])
    clear hst hat h hk hm hE hget hr hs0
    go_enter Tryz.func54,Tryz.ntmps54
    go_wp2_with fail
    refine HIS.out.mono ?_
    rintro e w' ⟨rfl,rfl⟩
    go_wp2_with fail
    refine HV.out.mono ?_
    rintro e w' ⟨rfl,rfl⟩
    go_wp2_with fail
    refine HST.out.mono ?_
    rintro e w' ⟨rfl,rfl⟩
    go_wp2_with fail
    go_ret
    exact⟨by rw[HE.out];rfl,by rw[HA.out];exact TrNext.of_below HT.out (Below.refl _ _)⟩
end Go.Proofs.YtoojmhjagipmdaaGreat
namespace Go.Proofs.YtoojmhjagipmdaaGreat
open Go.RowKit
theorem tinfo_state:(Tryz.prog.info? 150).map (fun i=>(i.zero,i.size,i.bytes))=some (some (.agg #[.int .i64 0,.int .i64 0,.int .i64 0,.int .i64 0]),4,32):=by kernel_rfl
theorem made_state (m:Nat):(madeCells (Value.agg #[.int .i64 0,.int .i64 0,.int .i64 0,.int .i64 0]).cells (m*4)).toList=(List.replicate m (⟨0,0,0,0⟩:TV)).flatMap TV.cells:=by
 apply List.ext_getElem?
 intro q
 rw[tvCells_div,List.getElem?_replicate,Array.getElem?_toList]
 have hz:(Value.agg #[.int .i64 0,.int .i64 0,.int .i64 0,.int .i64 0]).cells= #[.int .i64 0,.int .i64 0,.int .i64 0,.int .i64 0]:=rfl
 rw[hz]
 unfold madeCells
 rw[Array.getElem?_map]
 by_cases hq:q<m*4
 ·rw[if_pos (show q/4<m by omega),Array.getElem?_range,if_pos hq]
  have h4:q%4=0∨q%4=1∨q%4=2∨q%4=3:=by omega
  rcases h4 with e|e|e|e
  all_goals
   show some (#[Value.int .i64 0,.int .i64 0,.int .i64 0,.int .i64 0][q%4]!)=_
   rw[e]
   rfl
 ·rw[if_neg (show¬q/4<m by omega),Array.getElem?_range,if_neg hq]
  rfl
set_option maxRecDepth 100000 in
set_option maxHeartbeats 1000000 in
theorem tr_new (n:Nat) (w:World) (hn:n≤1048576):
  Calls Tryz.prog 101 #[.int .i64 (n:Int)] w fun e w'=> ∃b,e= .returned (.tuple #[.pointer (some ⟨b,0,none⟩),.int .i64 0])∧TrAt (fun g=>w.heap.size≤g∧g<w'.heap.size) w' b ⟨List.replicate (n+1) ⟨0,0,0,0⟩,[],[0]⟩∧Below w.heap.size w w':=by
 have q0:decide ((n:Int)<0)=false:=by simp
 have q1:decide ((1048576:Int)<(n:Int))=false:=by simp;omega
 obtain⟨i0,hi0,hz0,hz1,hz2⟩:=info_parts tinfo_state
 obtain⟨w1,hrun,hown,hgr⟩:=run_make_full (P:=Tryz.prog) (w:=w) w.heap.size 151 150 i0 _ 4 Tryz.underlying151 hi0 hz0 hz1 .i64 .i64 (n+1) (by rw[hz2];omega) (by unfold maxLen;omega) (Nat.le_refl _)
 rw[made_state]at hown
 rw[show((n+1:Nat):Int)=(n:Int)+1 from by omega]at hrun
 have hk1:Below w.heap.size w w1:=(Below.refl _ _).grown hgr (Nat.le_refl _) (fun g hg=>by cases hg)
 have HOWN:=Lib.hid hown
 have HK1:=Lib.hid hk1
 have hz:=hk1.size
 have hg1:=(own_lt hown w.heap.size rfl).2
 clear hown hgr hk1 hi0 hz0 hz1 hz2
 clear i0
 go_enter Tryz.func101,Tryz.ntmps101
 go_wp2_with fail
 obtain⟨w2,hw2⟩: ∃x,w1.alloc (.cells #[.int .i64 0] 3)=x:=⟨_,rfl⟩
 have hb2:Below w1.heap.size w1 w2:=by rw[←hw2];exact mx_al _ _
 have ho2:w2.ownsRow 0 3 1 (.slice (some ⟨w1.heap.size,0,none⟩) 1 1) 1 [.int .i64 0]:=by
  rw[←hw2]
  exact⟨rfl,.inr ⟨w1.heap.size,1,#[.int .i64 0],rfl,Nat.zero_le _,World.alloc_heap_new _ _,Nat.le_refl _,by decide,rfl,rfl⟩⟩
 have hz2:w2.heap.size=w1.heap.size+1:=by rw[←hw2];simp
 obtain⟨w3,hw3⟩: ∃x,w2.alloc (.cells #[.slice (some ⟨w.heap.size,0,none⟩) (n+1) (n+1),.slice none 0 0,.slice (some ⟨w1.heap.size,0,none⟩) 1 1,.bool true] 153)=x:=⟨_,rfl⟩
 have hb3:Below w2.heap.size w2 w3:=by rw[←hw3];exact mx_al _ _
 have hn3:w3.heap[w2.heap.size]? =some (.cells #[.slice (some ⟨w.heap.size,0,none⟩) (n+1) (n+1),.slice none 0 0,.slice (some ⟨w1.heap.size,0,none⟩) 1 1,.bool true] 153 (0,0)):=by rw[←hw3];exact World.alloc_heap_new _ _
 have hz3:w3.heap.size=w2.heap.size+1:=by rw[←hw3];simp
 rw[hw2,hw3]
 go_ret2
 refine⟨w2.heap.size,by rw[hz2];rfl,⟨⟨?_,by simp,by simp,fun s hs=>?_⟩,w.heap.size,n+1,.slice none 0 0,.slice (some ⟨w1.heap.size,0,none⟩) 1 1,⟨fun g hg=>hg.2,⟨by omega,by omega⟩,⟨Nat.le_refl _,by omega⟩,?_,?_,World.ownsRow_nil _ _ _ _,(fun g hg=>by cases hg),own_below ho2 hb3,fun g hg=>?_⟩⟩,HK1.out.trans ((hb2.trans (hb3.mono hb2.size)).mono HK1.out.size)⟩
 ·show 1≤(List.replicate (n+1) _).length∧(List.replicate (n+1) _).length≤1048577
  rw[List.length_replicate]
  omega
 ·rw[List.eq_of_mem_replicate hs]
  exact .inl rfl
 ·show w3.heap[w2.heap.size]? =some (.cells #[.slice _ (List.replicate (n+1) _).length _,_,_,_] _ _)
  rw[List.length_replicate]
  exact hn3
 ·show w3.ownsRow 0 _ 4 (.slice _ (List.replicate (n+1) _).length _) (List.replicate (n+1) _).length _
  rw[List.length_replicate]
  exact own_mono (own_below (own_below HOWN.out hb2) hb3) (Nat.zero_le _)
 ·obtain rfl:w1.heap.size=g:=Option.some.inj hg
  omega
end Go.Proofs.YtoojmhjagipmdaaGreat
