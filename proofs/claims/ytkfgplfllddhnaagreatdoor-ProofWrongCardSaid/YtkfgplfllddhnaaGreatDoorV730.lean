/- IndexFunc at steps; what is resolved: plain. Plain: what is refused (ProofWrong); proof.Text of a formula that is not right. Plain: a checker, step by step (ProofSound). package salvorlaw10: alive. -/
import Derived.Test.YtkfgplfllddhnaaGreatDoorV728
import Derived.Test.YtkfgplfllddhnaaGreatDoorV729
import Derived.Test.YtkfgplfllddhnaaGreatDoorV723
namespace Go.Proofs.YtkfgplfllddhnaaGreatDoor
open Go.RowKit
def TellsS (O:Nat→Prop) (w:World) (F:Nat) (caps:Array Value) (ss:List EStep) (P:EStep→Bool):Prop:= ∀W,Below w.heap.size w W→∀ul uh s,s∈ss→IntsIn O W ul s.lits→IntsIn O W uh s.hints→Calls Tryz.prog F (#[.agg #[.bool s.del,.int .i64 s.id,ul,uh]]++caps) W fun e w'=>e= .returned (.bool (P s))∧Below W.heap.size W w'
theorem made_six (xss:List (List Int)): ∀c∈(xss.take 14).map madeL,Lit6 c:=fun c hc=>by
 obtain⟨xs,_,rfl⟩:=List.mem_map.1 hc
 unfold madeL
 refine⟨?_,fun y hy=>?_⟩
 ·rw[List.length_map,List.length_take]
  omega
 ·obtain⟨x,_,rfl⟩:=List.mem_map.1 hy
  obtain⟨h1,h2⟩:=madeLit_rng x
  have hb:litB (madeLit x)=true:=(litB_iff _).2 (by omega)
  exact⟨hb,by have:=(litV_pos hb).2;omega⟩
theorem lit6_fgo: ∀(cs:List (List Int)) (i:Nat),(∀c∈cs,Lit6 c)→fchkGo 6 i cs=(-1,0)
 | [],_,_=>rfl
 | c::r,i,h=>by
  have hc:=h c List.mem_cons_self
  unfold fchkGo
  rw[if_neg (by rw[hc.clause];decide),if_neg (by
   rw[show c.any (beyB 6)=false from List.any_eq_false.2 fun y hy=>by
    obtain⟨h1,h2⟩:=hc.2 y hy
    unfold beyB
    rw[h1,decide_eq_false (by omega)]
    decide]
   decide)]
  exact lit6_fgo r (i+1) fun d hd=>h d (List.mem_cons_of_mem _ hd)
theorem lit6_fchk {cs:List (List Int)} (h: ∀c∈cs,Lit6 c) (hn:cs.length≤1000):fchk 6 cs=(-1,0):=by
 unfold fchk
 rw[if_neg (by decide),if_neg (by omega)]
 exact lit6_fgo cs 0 h
end Go.Proofs.YtkfgplfllddhnaaGreatDoor
namespace Go.Proofs.YtkfgplfllddhnaaGreatDoor
open Go.RowKit
theorem fchk_vars (cs:List (List Int)):(fchk (-1) cs).2=50:=by
 unfold fchk
 rw[if_pos (by decide)]
theorem fgo_app (ds:List (List Int)): ∀(cs:List (List Int)) (i:Nat),(∀c∈cs,Lit6 c)→fchkGo 6 i (cs++ds)=fchkGo 6 (i+cs.length) ds
 | [],i,_=>rfl
 | c::r,i,h=>by
  have hc:=h c List.mem_cons_self
  rw[List.cons_append]
  rw[show fchkGo 6 i (c::(r++ds))=fchkGo 6 (i+1) (r++ds)from by
   show(if clauseB c=false then _ else _)=_
   rw[if_neg (by rw[hc.clause];decide),if_neg (by
    rw[show c.any (beyB 6)=false from List.any_eq_false.2 fun y hy=>by
     obtain⟨h1,h2⟩:=hc.2 y hy
     unfold beyB
     rw[h1,decide_eq_false (by omega)]
     decide]
    decide)]]
  rw[fgo_app ds r (i+1) fun d hd=>h d (List.mem_cons_of_mem _ hd),List.length_cons,show i+1+r.length=i+(r.length+1) by omega]
section
variable {cs:List (List Int)} {n:Nat}
theorem fchk_lit (h: ∀c∈cs,Lit6 c) (hn:cs.length≤1000):(fchk 6 (cs++ [[7]])).2=51:=by
 unfold fchk
 rw[if_neg (by decide),if_neg (by rw[List.length_append,List.length_singleton];omega),fgo_app _ cs 0 h]
 show(if clauseB [7]=false then((0+cs.length:Nat),20)else if [7].any (beyB 6)=true then _ else _:Int×Nat).2=51
 rw[if_neg (by decide),if_pos (by decide)]
theorem fchk_cls (h: ∀c∈cs,Lit6 c) (hn:cs.length≤1000):(fchk 6 (cs++ [[1,0]])).2=20:=by
 unfold fchk
 rw[if_neg (by decide),if_neg (by rw[List.length_append,List.length_singleton];omega),fgo_app _ cs 0 h]
 show(if clauseB [1,0]=false then _ else _:Int×Nat).2=20
 rw[if_pos (by decide)]
theorem wr_low (he:cs.any List.isEmpty=false) {e:Int} (h:e<1):(ckrOf cs 0).do_ ⟨false,e,[1,-1],[]⟩=(ckrOf cs 0,0,0,70):=by
 unfold Ckr.do_
 rw[if_neg (by show¬cs.any List.isEmpty=true;rw[he];decide),if_pos (by
  unfold stepB
  rcases (by omega:e<0∨e=0)with h|h
  ·simp[h]
  ·subst h
   rfl)]
theorem wr_early (he:cs.any List.isEmpty=false) {e:Int} (h:1≤e) (h2:e≤(cs.length:Int)) (hn:cs.length≤1000):(ckrOf cs 0).do_ ⟨false,e,[1,-1],[]⟩=(ckrOf cs 0,0,e,100):=by
 unfold Ckr.do_
 rw[if_neg (by show¬cs.any List.isEmpty=true;rw[he];decide),if_neg (by
  have:stepB ⟨false,e,[1,-1],[]⟩=true:=by
   unfold stepB
   rw[show clauseB [1,-1]=true from by decide]
   simp
   omega
  rw[this];decide),if_pos (by exact(Int.lt_or_eq_of_le h2).imp id fun h=>⟨h,rfl⟩)]
theorem wr_zero (he:cs.any List.isEmpty=false) (e:Int):(ckrOf cs 0).do_ ⟨false,e,[0],[]⟩=(ckrOf cs 0,0,0,70):=by
 unfold Ckr.do_
 rw[if_neg (by show¬cs.any List.isEmpty=true;rw[he];decide),if_pos (by
  unfold stepB
  rw[show clauseB [0]=false from by decide]
  simp)]
theorem wr_neg (he:cs.any List.isEmpty=false) (e:Int):(ckrOf cs 0).do_ ⟨true,e,[],[-1]⟩=(ckrOf cs 0,0,0,70):=by
 unfold Ckr.do_
 rw[if_neg (by show¬cs.any List.isEmpty=true;rw[he];decide),if_pos (by
  unfold stepB
  simp)]
theorem wr_gone (he:cs.any List.isEmpty=false) (hn:cs.length≤1000):(ckrOf cs 0).do_ ⟨true,(cs.length:Int)+1,[],[(cs.length:Int)+1]⟩=(ckrOf cs 0,0,(cs.length:Int)+1,91):=by
 have hc:ckDel (entsFrom 0 cs) [(cs.length:Int)+1]=(entsFrom 0 cs,(cs.length:Int)+1,91):=by
  unfold ckDel
  rw[entsFrom_none (.inr (by omega)),if_pos (show(none:Option (List Int)).isNone=true from rfl)]
 unfold Ckr.do_
 rw[if_neg (by show¬cs.any List.isEmpty=true;rw[he];decide),if_neg (by
  have:stepB ⟨true,(cs.length:Int)+1,[],[(cs.length:Int)+1]⟩=true:=by
   unfold stepB
   rw[show clauseB []=true from by decide]
   simp only[List.length_nil,List.length_cons,List.any_cons,List.any_nil,Bool.false_and,Bool.or_false,Bool.not_true,Bool.true_and]
   simp only[Bool.and_eq_true,Bool.not_eq_true',Bool.or_eq_false_iff,decide_eq_false_iff_not,decide_eq_true_eq]
   omega
  rw[this];decide),if_neg (by
  show¬((cs.length:Int)+1<(cs.length:Int)∨(cs.length:Int)+1=(cs.length:Int)∧true=false)
  omega),if_pos rfl]
 show(if(ckDel (entsFrom 0 cs) [(cs.length:Int)+1]).2.2=0 then _ else _)=_
 rw[if_neg (by rw[hc];show¬(91:Nat)=0;decide)]
 show(ckrOf cs 0,0,(ckDel (entsFrom 0 cs) [(cs.length:Int)+1]).2)=_
 rw[hc]
end
section
variable {O:Nat→Prop} {n:Int} {lv:Value} {cs:List (List Int)} {E:Nat}
set_option maxHeartbeats 1000000 in
theorem text_bad (sv:Value) (w:World) (h:ClsIn O w lv cs) (hc: ∀c∈cs,c.length≤100000000000) (hf:(fchk n cs).2=E) (hE:E≠0):
  Calls Tryz.prog 9 #[.agg #[.int .i64 n,lv],sv] w fun e w'=>e= .returned (.tuple #[repZ,.int .i64 0,.int .i64 (E:Nat)])∧Below w.heap.size w w':=by
 obtain⟨W0,hW0,hb0,hbf,hz0⟩:=al_new w #[.int .i64 n,lv] 26
 obtain⟨W1,hW1,hb1,hbr,hz1⟩:=al_new W0 #[.bool false,.int .i64 0,.int .i64 0,.int .i64 0,.int .i64 0] 39
 rw[hz0]at hbr
 have hbf1:=(hb1.block _ (heap_lt hbf)).trans hbf
 have b0:W1.cell? ⟨w.heap.size,0,none⟩=some (.int .i64 n):=mx_cell (j:=0) hbf1
 have b1:W1.cell? ⟨w.heap.size,1,none⟩=some lv:=mx_cell (j:=1) hbf1
 have hbw:Below w.heap.size w W1:=hb0.trans (hb1.mono (by omega))
 have HCH:=form_check n lv cs W1 (h.below hbw) hc
 obtain⟨fi,hfi⟩: ∃fi,(fchk n cs).1=fi:=⟨_,rfl⟩
 rw[hf,hfi]at HCH
 have HCH:=Lib.hid HCH
 have HBR:=Lib.hid hbr
 have HBW:=Lib.hid hbw
 obtain⟨A,c,rfl,hcc,_⟩:=h
 have HW0:=Lib.hid hW0
 have HW1:=Lib.hid hW1
 have q0:((E:Int)==0)=false:=beq_eq_false_iff_ne.2 (by omega)
 have q1:((E:Int) != 0)=true:=by rw[bne,q0];rfl
 clear hb0 hb1 hbf hbf1 hbr hbw hf hW0 hW1 hc hz1 hfi
 go_enter Tryz.func9,Tryz.ntmps9
 go_upto_region 1 with fail
 try rw[HW0.out]
 try rw[HW1.out]
 go_wp2_with fail
 refine HCH.out.mono ?_
 rintro e w2 ⟨rfl,hb2⟩
 have hbx:=(hb2.block _ (heap_lt HBR.out)).trans HBR.out
 have hlow:=HBW.out.trans (hb2.mono HBW.out.size)
 have r0:=mx_cell (j:=0) hbx
 have r1:=mx_cell (j:=1) hbx
 have r2:=mx_cell (j:=2) hbx
 have r3:=mx_cell (j:=3) hbx
 have r4:=mx_cell (j:=4) hbx
 have f0:=free_at (j:=0) hbx
 have f1:=free_at (j:=1) hbx
 have f2:=free_at (j:=2) hbx
 have f3:=free_at (j:=3) hbx
 have f4:=free_at (j:=4) hbx
 obtain⟨wy,hwy,hby,hky⟩:=five_setR hbx (.bool false) (.int .i64 0) (.int .i64 0) (.int .i64 0) (.int .i64 0)
 have HBY:=Lib.hid hby
 have HFIN:=Lib.hid (hlow.trans (hky.below (fun i e=>by rw[e];exact Nat.le_succ _) hlow.size))
 clear hbx hlow hky hby hb2 HCH b0 b1
 go_wp2_with fail
 try rw[hwy]
 try rw[Exit.noGoto_ret]
 refine bodyPost_ret (res_chk456 rfl HBY.out _ rfl) rfl ?_
 exact⟨rfl,HFIN.out⟩
end
end Go.Proofs.YtkfgplfllddhnaaGreatDoor
namespace Go.Proofs.YtkfgplfllddhnaaGreatDoor
open Go.RowKit
theorem satN_holds {es:Ents}:SatN es↔holdsL (es.map Prod.snd)=true:=by
 unfold SatN holdsL
 rw[List.any_eq_true]
 constructor
 ·rintro ⟨n,h1,h2,h3⟩
  refine⟨n/2,List.mem_range.2 (by omega),?_⟩
  rw[show 2*(n/2)=n by omega]
  unfold allT
  rw[List.all_eq_true]
  intro c hc
  obtain⟨p,hp,rfl⟩:=List.mem_map.1 hc
  exact h3 p hp
 ·rintro ⟨j,hj,h⟩
  have hj:=List.mem_range.1 hj
  refine⟨2*j,by omega,by omega,fun p hp=>?_⟩
  unfold allT at h
  exact List.all_eq_true.1 h _ (List.mem_map.2 ⟨p,hp,rfl⟩)
structure Alv (k:Ckr) (N:Nat) (sat:Bool):Prop where
 ok:k.Ok N
 exact_:k.Exact
 six: ∀p∈k.ents,∀y∈p.2,litV y<7
 sat_:sat=true→SatN k.ents
section
variable {k:Ckr} {s:EStep} {N:Nat} {sat:Bool}
theorem do_lits (k:Ckr) (s:EStep): ∀p∈(k.do_ s).1.ents,p∈k.ents∨p.2=s.lits:=fun p hp=>by
 rcases do_or k s with⟨_,e⟩|⟨_,e,_⟩|⟨_,_,_,_,_,e⟩|⟨_,_,_,_,_,e⟩
 ·rw[e]at hp;exact .inl hp
 ·rw[e]at hp;exact .inl hp
 ·rw[e]at hp
  exact .inl (ckDel_mem _ _ p hp)
 ·rw[e]at hp
  rcases putA_mem.1 hp with h|⟨h,_⟩
  ·exact .inr (by rw[h])
  ·exact .inl h
theorem Alv.step (h:Alv k N sat) (h7: ∀y∈s.lits,litV y<7):Alv (k.do_ s).1 (N+1) sat where
 ok:=do_ok h.ok
 exact_:=do_exact h.ok h.exact_
 six:=fun p hp=>by
  rcases do_lits k s p hp with e|e
  ·exact h.six p e
  ·rw[e];exact h7
 sat_:=fun e=>do_sat h.ok h7 (h.sat_ e)
theorem Alv.new {cs:List (List Int)} (h6: ∀c∈cs,Lit6 c) (hn:cs.length≤1000):Alv (ckrNew cs) 1000 (holdsL cs):=by
 rw[ckrNew_of]
 refine⟨ckrOf_ok (fun c hc=>(h6 c hc).clause) hn (Nat.zero_le _),(entsFrom_any cs 0).symm,fun p hp y hy=>?_,fun e=>?_⟩
 ·obtain⟨i,h1,_⟩:=entsFrom_mem.1 hp
  exact((h6 p.2 (List.mem_of_getElem? h1)).2 y hy).2
 ·refine satN_holds.2 ?_
  have:(entsFrom 0 cs).map Prod.snd=cs:=by
   refine List.ext_getElem? fun i=>?_
   rw[List.getElem?_map]
   cases hc:cs[i]? with
   | none=>rw[List.getElem?_eq_none (by rw[entsFrom_len];exact List.getElem?_eq_none_iff.1 hc)];rfl
   | some c=>
    have hm:=entsFrom_get hc
    have: ∀(cs:List (List Int)) (j i:Nat),((entsFrom j cs)[i]?).map Prod.snd=cs[i]? :=by
     intro cs
     induction cs with
     | nil=>exact fun _ _=>rfl
     | cons d r ih=>
      intro j i
      cases i with
      | zero=>rfl
      | succ i=>exact ih (j+1) i
    rw[this,hc]
  show holdsL ((entsFrom 0 cs).map Prod.snd)=true
  rw[this]
  exact e
end
end Go.Proofs.YtkfgplfllddhnaaGreatDoor
namespace Go.Proofs.YtkfgplfllddhnaaGreatDoor
open Go.RowKit
theorem cls_of_row {n0:Nat} {w:World} {v:Value} {us:List Value} {cs:List (List Int)} (hr:w.ownsRow n0 30 1 v cs.length us) (hin: ∀(i:Nat) (c:List Int),cs[i]? =some c→∃u,us[i]? =some u∧IntsIn (fun _=>True) w u c):ClsIn (fun _=>True) w v cs:=by
 rcases hr.2 with⟨rfl,h0⟩|⟨g,cap,cur,rfl,hb,hg,hle,_⟩
 ·exact⟨none,0,by rw[h0],by rw[h0];exact Nat.le_refl _,fun _=>rfl,fun i c hi=>by
   have:=(List.getElem?_eq_some_iff.1 hi).1
   omega⟩
 ·refine⟨_,cap,rfl,hle,(fun h=>by cases h),fun i c hi=>?_⟩
  obtain⟨u,h1,h2⟩:=hin i c hi
  exact⟨g,0,u,rfl,heap_lt hg,trivial,by rw[Nat.zero_add];exact mx_at hr h1,h2⟩
end Go.Proofs.YtkfgplfllddhnaaGreatDoor
