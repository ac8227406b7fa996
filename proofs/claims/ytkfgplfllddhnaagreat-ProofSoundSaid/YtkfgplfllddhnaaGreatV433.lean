/- The examples of chapter 10: awake. IndexFunc at steps; what is resolved: plain. Plain: a checker, step by step (ProofSound). package salvorlaw10: alive. package salvorlaw10: ProofResolves. -/
import Derived.Test.YtkfgplfllddhnaaGreatV430
import Derived.Test.YtkfgplfllddhnaaGreatV432
import Derived.Test.YtkfgplfllddhnaaGreatV428
import Derived.Test.YtkfgplfllddhnaaGreatV429
import Derived.Test.YtkfgplfllddhnaaGreatV426
namespace Go.Proofs.YtkfgplfllddhnaaGreat
open Go.RowKit
theorem trim_ex:TrimEx:=by
 intro O Os lv sv w h hs
 refine(proof_trim 2 _ _ fourC exM w h four_ok.1 (by decide) four_ok.2 hs (by decide) (by decide)).mono ?_
 rintro e w' ⟨ht,hb⟩
 unfold TrimOut at ht
 rw[ex_run,if_neg (fun h=>h rfl),ex_trm,if_neg (fun h=>by cases h)]at ht
 obtain⟨v,K,rfl,hK,hm⟩:=ht
 rw[ex_bk]at hK
 have hl:K.length=2:=by simpa using congrArg List.length hK
 obtain⟨x,y,rfl⟩: ∃x y,K= [x,y]:=by
  rcases K with _|⟨x,_|⟨y,_|⟨z,r⟩⟩⟩
  ·cases hl
  ·cases hl
  ·exact⟨x,y,rfl⟩
  ·simp at hl
 have hx:x.1=⟨false,6,[2],[1,2]⟩:=(List.cons.inj hK).1
 obtain⟨g,c,rfl⟩:=ownsRow_succ hm.row
 obtain⟨-,e1,-,-⟩:=stcell_at [x,y] 0 x rfl
 have:=mx_at hm.row e1
 rw[hx]at this
 exact⟨g,c,rfl,this,hb⟩
theorem awake10_any (w:World):Calls Tryz.prog 8 #[] w fun e w'=>e= .returned (.bool true)∧Below w.heap.size w w':=awake10_core trim_ex w
end Go.Proofs.YtkfgplfllddhnaaGreat
namespace Go.Proofs.YtkfgplfllddhnaaGreat
open Go.RowKit
def TellsS (O:Nat→Prop) (w:World) (F:Nat) (caps:Array Value) (ss:List EStep) (P:EStep→Bool):Prop:= ∀W,Below w.heap.size w W→∀ul uh s,s∈ss→IntsIn O W ul s.lits→IntsIn O W uh s.hints→Calls Tryz.prog F (#[.agg #[.bool s.del,.int .i64 s.id,ul,uh]]++caps) W fun e w'=>e= .returned (.bool (P s))∧Below W.heap.size W w'
theorem empty_len (c:List Int):((c.length:Int)==0)=c.isEmpty:=by
 cases c with
 | nil=>rfl
 | cons x r=>exact beq_eq_false_iff_ne.2 (by rw[List.length_cons];omega)
theorem made_six (xss:List (List Int)): ∀c∈(xss.take 14).map madeL,Lit6 c:=fun c hc=>by
 obtain⟨xs,_,rfl⟩:=List.mem_map.1 hc
 unfold madeL
 refine⟨?_,fun y hy=>?_⟩
 ·rw[List.length_map,List.length_take]
  omega
 ·obtain⟨x,_,rfl⟩:=List.mem_map.1 hy
  obtain⟨h1,h2⟩:=madeLit_rng x
  have hb:litB (madeLit x)=true:=(litB_iff _).2 (by omega)
  exact⟨hb,by have:=(litV_pos hb).2;omega⟩
theorem lit6_lits {cs:List (List Int)} (h: ∀c∈cs,Lit6 c):Lits6 cs:=fun c hc=>⟨by have:=(h c hc).1;omega,fun y hy=>by
 obtain⟨h1,h2⟩:=(h c hc).2 y hy
 have:=(litB_iff y).1 h1
 have:=(litV_pos h1)
 omega⟩
theorem lit6_fgo: ∀(cs:List (List Int)) (i:Nat),(∀c∈cs,Lit6 c)→fchkGo 6 i cs=(-1,0)
 | [],_,_=>rfl
 | c::r,i,h=>by
  have hc:=h c List.mem_cons_self
  unfold fchkGo
  rw[if_neg (by rw[hc.clause];decide),if_neg (by
   rw[show c.any (beyB 6)=false from List.any_eq_false.2 fun y hy=>by
    obtain⟨h1,h2⟩:=hc.2 y hy
    unfold beyB
    rw[h1,decide_eq_false (by omega)]
    decide]
   decide)]
  exact lit6_fgo r (i+1) fun d hd=>h d (List.mem_cons_of_mem _ hd)
theorem lit6_fchk {cs:List (List Int)} (h: ∀c∈cs,Lit6 c) (hn:cs.length≤1000):fchk 6 cs=(-1,0):=by
 unfold fchk
 rw[if_neg (by decide),if_neg (by omega)]
 exact lit6_fgo cs 0 h
end Go.Proofs.YtkfgplfllddhnaaGreat
namespace Go.Proofs.YtkfgplfllddhnaaGreat
open Go.RowKit
theorem satN_holds {es:Ents}:SatN es↔holdsL (es.map Prod.snd)=true:=by
 unfold SatN holdsL
 rw[List.any_eq_true]
 constructor
 ·rintro ⟨n,h1,h2,h3⟩
  refine⟨n/2,List.mem_range.2 (by omega),?_⟩
  rw[show 2*(n/2)=n by omega]
  unfold allT
  rw[List.all_eq_true]
  intro c hc
  obtain⟨p,hp,rfl⟩:=List.mem_map.1 hc
  exact h3 p hp
 ·rintro ⟨j,hj,h⟩
  have hj:=List.mem_range.1 hj
  refine⟨2*j,by omega,by omega,fun p hp=>?_⟩
  unfold allT at h
  exact List.all_eq_true.1 h _ (List.mem_map.2 ⟨p,hp,rfl⟩)
structure Alv (k:Ckr) (N:Nat) (sat:Bool):Prop where
 ok:k.Ok N
 exact_:k.Exact
 six: ∀p∈k.ents,∀y∈p.2,litV y<7
 sat_:sat=true→SatN k.ents
section
variable {k:Ckr} {s:EStep} {N:Nat} {sat:Bool}
theorem do_lits (k:Ckr) (s:EStep): ∀p∈(k.do_ s).1.ents,p∈k.ents∨p.2=s.lits:=fun p hp=>by
 rcases do_or k s with⟨_,e⟩|⟨_,e,_⟩|⟨_,_,_,_,_,e⟩|⟨_,_,_,_,_,e⟩
 ·rw[e]at hp;exact .inl hp
 ·rw[e]at hp;exact .inl hp
 ·rw[e]at hp
  exact .inl (ckDel_mem _ _ p hp)
 ·rw[e]at hp
  rcases putA_mem.1 hp with h|⟨h,_⟩
  ·exact .inr (by rw[h])
  ·exact .inl h
theorem do_last (k:Ckr) (s:EStep):(k.do_ s).1.last=k.last∨(k.do_ s).1.last=s.id:=by
 rcases do_or k s with⟨_,e⟩|⟨_,e,_⟩|⟨_,_,_,_,_,e⟩|⟨_,_,_,_,_,e⟩
 ·rw[e];exact .inl rfl
 ·rw[e];exact .inl rfl
 ·rw[e];exact .inr rfl
 ·rw[e];exact .inr rfl
theorem do_bad (h:(k.do_ s).2.2.2≠0):(k.do_ s).1=k:=by
 rcases do_or k s with⟨_,e⟩|⟨_,e,_⟩|⟨_,_,_,_,_,e⟩|⟨_,_,_,_,_,e⟩
 ·rw[e]
 ·exact e
 ·rw[e]at h
  exact absurd rfl h
 ·rw[e]at h
  exact absurd rfl h
theorem Alv.step (h:Alv k N sat) (h7: ∀y∈s.lits,litV y<7):Alv (k.do_ s).1 (N+1) sat where
 ok:=do_ok h.ok
 exact_:=do_exact h.ok h.exact_
 six:=fun p hp=>by
  rcases do_lits k s p hp with e|e
  ·exact h.six p e
  ·rw[e];exact h7
 sat_:=fun e=>do_sat h.ok h7 (h.sat_ e)
theorem Alv.alive (h:Alv k N sat):(k.proved==k.ents.any (fun p=>p.2.isEmpty)&&(!sat||holdsL (k.ents.map Prod.snd)))=true:=by
 rw[Bool.and_eq_true,beq_iff_eq,Bool.or_eq_true]
 refine⟨h.exact_,?_⟩
 cases sat with
 | false=>exact .inl rfl
 | true=>exact .inr (satN_holds.1 (h.sat_ rfl))
theorem Alv.new {cs:List (List Int)} (h6: ∀c∈cs,Lit6 c) (hn:cs.length≤1000):Alv (ckrNew cs) 1000 (holdsL cs):=by
 rw[ckrNew_of]
 refine⟨ckrOf_ok (fun c hc=>(h6 c hc).clause) hn (Nat.zero_le _),(entsFrom_any cs 0).symm,fun p hp y hy=>?_,fun e=>?_⟩
 ·obtain⟨i,h1,_⟩:=entsFrom_mem.1 hp
  exact((h6 p.2 (List.mem_of_getElem? h1)).2 y hy).2
 ·refine satN_holds.2 ?_
  have:(entsFrom 0 cs).map Prod.snd=cs:=by
   refine List.ext_getElem? fun i=>?_
   rw[List.getElem?_map]
   cases hc:cs[i]? with
   | none=>rw[List.getElem?_eq_none (by rw[entsFrom_len];exact List.getElem?_eq_none_iff.1 hc)];rfl
   | some c=>
    have hm:=entsFrom_get hc
    have: ∀(cs:List (List Int)) (j i:Nat),((entsFrom j cs)[i]?).map Prod.snd=cs[i]? :=by
     intro cs
     induction cs with
     | nil=>exact fun _ _=>rfl
     | cons d r ih=>
      intro j i
      cases i with
      | zero=>rfl
      | succ i=>exact ih (j+1) i
    rw[this,hc]
  show holdsL ((entsFrom 0 cs).map Prod.snd)=true
  rw[this]
  exact e
theorem Alv.litsSix (h:Alv k N sat):Lits6 (k.ents.map Prod.snd):=fun c hc=>by
 obtain⟨p,hp,rfl⟩:=List.mem_map.1 hc
 have h1:=clause_len (h.ok.cls p hp)
 exact⟨by have:p.2.length≤4096:=h1;omega,fun y hy=>by
  have:=h.six p hp y hy
  have hb:=clauseB_lit (h.ok.cls p hp) hy
  have:=(litB_iff y).1 hb
  have:=litV_pos hb
  omega⟩
end
end Go.Proofs.YtkfgplfllddhnaaGreat
namespace Go.Proofs.YtkfgplfllddhnaaGreat
open Go.RowKit
theorem cls_of_row {n0:Nat} {w:World} {v:Value} {us:List Value} {cs:List (List Int)} (hr:w.ownsRow n0 35 1 v cs.length us) (hin: ∀(i:Nat) (c:List Int),cs[i]? =some c→∃u,us[i]? =some u∧IntsIn (fun _=>True) w u c):ClsIn (fun _=>True) w v cs:=by
 rcases hr.2 with⟨rfl,h0⟩|⟨g,cap,cur,rfl,hb,hg,hle,_⟩
 ·exact⟨none,0,by rw[h0],by rw[h0];exact Nat.le_refl _,fun _=>rfl,fun i c hi=>by
   have:=(List.getElem?_eq_some_iff.1 hi).1
   omega⟩
 ·refine⟨_,cap,rfl,hle,(fun h=>by cases h),fun i c hi=>?_⟩
  obtain⟨u,h1,h2⟩:=hin i c hi
  exact⟨g,0,u,rfl,heap_lt hg,trivial,by rw[Nat.zero_add];exact mx_at hr h1,h2⟩
theorem isEmpty_take {es:Ents} {k:Nat} {p:Int×List Int} (h:es[k]? =some p):(es.take (k+1)).any (fun p=>p.2.isEmpty)=((es.take k).any (fun p=>p.2.isEmpty)||p.2.isEmpty):=by
 rw[List.take_add_one,h]
 simp
set_option maxRecDepth 100000 in
set_option maxHeartbeats 4000000 in
theorem law_alive {base N:Nat} (b:Nat) (k:Ckr) (sat:Bool) (w:World) (h:CkAt base w b k) (hA:Alv k N sat) (hN:N≤1000000):
  Calls Tryz.prog 15 #[.pointer (some ⟨b,0,none⟩),.bool sat] w fun e w'=>e= .returned (.bool true)∧Below w.heap.size w w':=by
 obtain⟨i0,hi,hz0,hz1,hz2⟩:=info_parts info_cls
 have HEN:=Lib.hid (ck_entries b k w h hA.ok hN)
 have HCK:=Lib.hid h
 have HALV:=Lib.hid hA
 obtain⟨L,hL⟩: ∃L,k.ents.length=L:=⟨_,rfl⟩
 have hLN:L≤1000000:=by have:=hA.ok.len;omega
 have HL:=Lib.hid hL
 clear h hA
 go_enter Tryz.func15,Tryz.ntmps15
 go_wp2_with fail
 refine HEN.out.mono ?_
 rintro e w1 ⟨ev,rfl,hev,hb1⟩
 have HEV:=Lib.hid hev
 obtain⟨Ae,ce,rfl,_,_,_⟩:=hev
 rw[hL]at HEV⊢
 have HB1:=Lib.hid hb1
 have HCK1:=Lib.hid (HCK.out.below hb1)
 clear hL hb1 HCK HEN
 go_wp2_with fail
 go_loopw [5,6,12] (fun v ev iv wr=> ∃(i:Nat) (us:List Value),i≤L∧ev= .bool ((k.ents.take i).any fun p=>p.2.isEmpty)∧iv= .int .i64 i∧Hid (wr.ownsRow w1.heap.size 35 1 v i us)∧Hid (us.length=i∧∀(j:Nat) (p:Int×List Int),j<i→k.ents[j]? =some p→∃u,us[j]? =some u∧IntsIn (fun _=>True) w1 u p.2)∧Hid (Below w1.heap.size w1 wr)) (fun _ _ iv _=>L-(intOf iv).toNat)
 case atStart=>exact⟨0,[],Nat.zero_le _,rfl,rfl,Lib.hid (World.ownsRow_nil _ _ _ _),Lib.hid ⟨rfl,fun j p hj=>by omega⟩,Lib.hid (Below.refl _ _)⟩
 case round=>
  obtain⟨i,us,hiL,rfl,rfl,HO,HU,HB⟩:=hrel
  obtain⟨Av,cv,rfl,_⟩:=mx_slice HO.out
  by_cases hlt:i<L
  ·obtain⟨p,hp⟩: ∃p,k.ents[i]? =some p:=⟨_,List.getElem?_eq_getElem (by rw[HL.out];exact hlt)⟩
   obtain⟨A',c',hAc,_,_,hxs⟩:=HEV.out
   simp only[Value.slice.injEq]at hAc
   obtain⟨rfl,-,rfl⟩:=hAc
   obtain⟨g,o,u,rfl,hg,_,d0,d1,hu⟩:=hxs i p hp
   have d0:=(HB.out.cell (p:=⟨g,o+i*2,none⟩) hg).trans d0
   have d1:=(HB.out.cell (p:=⟨g,o+i*2+1,none⟩) hg).trans d1
   have HUI:=Lib.hid hu
   obtain⟨Au,cu,rfl,_⟩:=hu
   have HST:=Lib.hid (isEmpty_take hp)
   obtain⟨e1,he1⟩: ∃e1,(k.ents.take i).any (fun p=>p.2.isEmpty)=e1:=⟨_,rfl⟩
   have HE1:=Lib.hid he1
   rw[he1]at HST⊢
   have HP:=Lib.hid hp
   have HXS:=Lib.hid hxs
   obtain⟨id,c⟩:=p
   simp only at d0 d1
   obtain⟨W2,hW2,hb2,hc2,hz2'⟩:=al_new wr #[.int .i64 id,.slice Au c.length cu] 65
   obtain⟨W3,hW3,hb3,hc3,hz3'⟩:=al_new W2 #[.slice Au c.length cu] 35
   have hx2:=(hb3.block _ (heap_lt hc2)).trans hc2
   rw[hz2']at hc3
   have HW2:=Lib.hid hW2
   have HW3:=Lib.hid hW3
   have hsz:=HB.out.size
   have hb13:Below wr.heap.size wr W3:=hb2.trans (hb3.mono hb2.size)
   have hO3:=own_below HO.out hb13
   have HB3:=Lib.hid (HB.out.trans (hb13.mono hsz))
   have hz13:=hb13.size
   have HO3:=Lib.hid hO3
   have HX2:=Lib.hid hx2
   have HC3:=Lib.hid hc3
   clear hW2 hW3 hp hxs hb2 hb3 hb13 hO3 hx2 hc2 hc3 he1 HO
   have FIN:=Lib.hid (fun(v4:Value) (w4:World) (hown:w4.ownsRow w1.heap.size 35 1 v4 (i+1) (us++ [Value.slice Au c.length cu])) (hgrow:W3.grownBy w4 (Value.slice Av i cv).ownBlock)=>show Hid (w4.ownsRow w1.heap.size 35 1 v4 (i+1) (us++ [Value.slice Au c.length cu]))∧Hid ((us++ [Value.slice Au c.length cu]).length=i+1∧∀(j:Nat) (p:Int×List Int),j<i+1→k.ents[j]? =some p→∃u,(us++ [Value.slice Au c.length cu])[j]? =some u∧IntsIn (fun _=>True) w1 u p.2)∧Hid (Below w1.heap.size w1 w4)from by
    obtain⟨hul,hux⟩:=HU.out
    refine⟨Lib.hid hown,Lib.hid ⟨by rw[List.length_append,hul];rfl,fun j q hj hq=>?_⟩,Lib.hid (HB3.out.grown hgrow HB3.out.size (fun g hg=>(own_lt HO3.out g hg).1))⟩
    rcases Nat.lt_or_ge j i with h|h
    ·obtain⟨u,h1,h2⟩:=hux j q h hq
     exact⟨u,by rw[List.getElem?_append_left (by omega)];exact h1,h2⟩
    ·obtain rfl:j=i:=by omega
     rw[HP.out]at hq
     obtain rfl:=Option.some.inj hq
     exact⟨_,by rw[List.getElem?_append_right (by omega),hul,Nat.sub_self];rfl,HUI.out⟩)
   cases e1
   all_goals
    go_upto_region 6 with fail
    rw[HW2.out]
    have x1:=mx_cell (j:=1) (show W2.heap[wr.heap.size]? =some (.cells #[.int .i64 id,.slice Au c.length cu] 65 (0,0))from by rw[←HW2.out];exact World.alloc_heap_new _ _)
    go_wp2_with (at_builtin;go_must (rw[HW3.out];refine wpList_append_own_at _ rfl _ _ 24 rfl w1.heap.size 35 i0 (.slice none 0 0) 1 24 Tryz.underlying24 hi hz0 hz1 hz2 rfl (by decide) _ i _ rfl HO3.out ⟨wr.heap.size+1,0,none⟩ 1 1 [.slice Au c.length cu] rfl rfl (cells_of_blk HC3.out) (by intro q hq;cases List.mem_singleton.1 hq;rfl) (by unfold maxLen;omega) (by omega) (by omega) ?_;intro v4 w4 hown hgrow hnl hat;have HF4:=FIN.out v4 w4 hown hgrow;obtain⟨Av4,cv4,rfl,_⟩:=mx_slice hown;have x2:=(hgrow.block _ (heap_lt HX2.out) (fun e=>mx_not HO3.out HX2.out (by decide) e.symm)).trans HX2.out;have x3:=mx_cell (j:=1) x2;clear x2 hown hgrow hnl hat))
    go_roundw
    case rel=>
     obtain⟨h1,h2,h3⟩:=HF4
     exact⟨i+1,_,by omega,by rw[HST.out];first|rfl|exact congrArg Value.bool ((empty_len c).trans (Bool.false_or _).symm),by go_num,h1,h2,h3⟩
    case measure=>simp[intOf];omega
  ·obtain rfl:i=L:=by omega
   have hcl:ClsIn (fun _=>True) wr (.slice Av i cv) (k.ents.map Prod.snd):=by
    have hlen:(k.ents.map Prod.snd).length=i:=by rw[List.length_map,HL.out]
    have ho:=HO.out
    rw[←hlen]at ho⊢
    refine cls_of_row ho fun j c hc=>?_
    rw[List.getElem?_map]at hc
    cases hp:k.ents[j]? with
    | none=>rw[hp]at hc;cases hc
    | some p=>
     rw[hp]at hc
     obtain rfl:=Option.some.inj hc
     obtain⟨u,h1,h2⟩:=HU.out.2 j p (by have:=(List.getElem?_eq_some_iff.1 hp).1;rw[HL.out]at this;exact this) hp
     exact⟨u,h1,h2.below HB.out⟩
   have hall:=HALV.out.alive
   rw[show k.ents.take i=k.ents from List.take_of_length_le (by rw[HL.out];exact Nat.le_refl _)]
   have hex:k.proved=k.ents.any (fun p=>p.2.isEmpty):=HALV.out.exact_
   rw[←hex]
   obtain⟨z,hz⟩: ∃z,k.proved=z:=⟨_,rfl⟩
   have HPV:=Lib.hid (show Calls Tryz.prog 23 #[.pointer (some ⟨b,0,none⟩)] wr fun e w'=>e= .returned (.bool z)∧wr=w' from hz▸ck_proved b k wr (HCK1.out.below HB.out))
   have HH:=Lib.hid (law_holds (.slice Av i cv) (k.ents.map Prod.snd) wr hcl HALV.out.litsSix (by rw[List.length_map,HL.out];exact hLN))
   have HT:=Lib.hid (show sat=true→holdsL (k.ents.map Prod.snd)=true from fun e=>satN_holds.1 (HALV.out.sat_ e))
   have HBL:=Lib.hid (HB1.out.trans (HB.out.mono HB1.out.size))
   rw[hz]
   clear hcl hall hex hz
   have hzz:(z==z)=true:=beq_self_eq_true z
   go_wp2_with fail
   refine HPV.out.mono ?_
   rintro e w' ⟨rfl,rfl⟩
   cases sat with
   | false=>
    go_wp2_with fail
    go_ret
    exact⟨rfl,HBL.out⟩
   | true=>
    have hh:=HH.out
    rw[HT.out rfl]at hh
    have HH:=Lib.hid hh
    clear hh
    go_wp2_with fail
    refine HH.out.mono ?_
    rintro e w2 ⟨rfl,hb2⟩
    have HB2:=Lib.hid (HBL.out.trans (hb2.mono HBL.out.size))
    clear hb2
    go_wp2_with fail
    go_ret
    exact⟨rfl,HB2.out⟩
end Go.Proofs.YtkfgplfllddhnaaGreat
namespace Go.Proofs.YtkfgplfllddhnaaGreat
open Go.RowKit
end Go.Proofs.YtkfgplfllddhnaaGreat
