/- Reference of layer 7: Parse. Plain: the lines of a text, one after the other. -/
import Derived.Test.YtajbmjpodeilpaaGreatDoorV231
import Derived.Test.YtajbmjpodeilpaaGreatDoorV219
import Derived.Test.YtajbmjpodeilpaaGreatDoorV207
import Derived.Test.YtajbmjpodeilpaaGreatDoorV205
namespace Go.Proofs.YtajbmjpodeilpaaGreatDoor
open Go.RowKit
theorem res_rp {fn:Func} (h:fn.results= #[.cell 2 83,.tmp 3]) {w:World} {b:Nat} {c0 c1 c2 c3:Value} {t:TypeId} (hb:w.heap[b]? =some (.cells #[c0,c1,c2,c3] t (0,0))) (tmps:Array Value) (t2:tmps[2]?.getD undef= .pointer (some ⟨b,0,none⟩)):
  (results fn tmps).run Tryz.prog w= .ok (.tuple #[.agg #[c0,c1,c2,c3],tmps.getD 3 undef]) w:=by
 have p0:=mx_cell (j:=0) hb
 have p1:=mx_cell (j:=1) hb
 have p2:=mx_cell (j:=2) hb
 have p3:=mx_cell (j:=3) hb
 simp[results,h,go_sem,t2,p0,p1,p2,p3]
section
variable {w:World} {b:Nat} {z0 z1 z2 z3:Value} {t:TypeId} (hb:w.heap[b]? =some (.cells #[z0,z1,z2,z3] t (0,0)))
include hb
theorem four_setP (a0 a1 a2 a3:Value): ∃wy,((((w.setCell ⟨b,0,none⟩ a0).setCell ⟨b,1,none⟩ a1).setCell ⟨b,2,none⟩ a2).setCell ⟨b,3,none⟩ a3)=wy∧wy.heap[b]? =some (.cells #[a0,a1,a2,a3] t (0,0))∧Kept (fun g=>g=b) w wy:=by
 refine⟨_,rfl,?_,?_⟩
 ·have h1:=mx_set hb (j:=0) a0
  have h2:=mx_set h1 (j:=1) a1
  have h3:=mx_set h2 (j:=2) a2
  have h4:=mx_set h3 (j:=3) a3
  exact h4
 ·exact(((((Kept.refl (fun g=>g=b) w).setCell ⟨b,0,none⟩ a0 rfl).setCell ⟨b,1,none⟩ a1 rfl).setCell ⟨b,2,none⟩ a2 rfl).setCell ⟨b,3,none⟩ a3 rfl)
theorem bs0 (v:Value): ∃W,w.setCell ⟨b,0,none⟩ v=W∧W.heap[b]? =some (.cells #[v,z1,z2,z3] t (0,0))∧Kept (fun g=>g=b) w W:=⟨_,rfl,mx_set hb (j:=0) v,(Kept.refl (fun g=>g=b) w).setCell ⟨b,0,none⟩ v rfl⟩
theorem bs1 (v:Value): ∃W,w.setCell ⟨b,1,none⟩ v=W∧W.heap[b]? =some (.cells #[z0,v,z2,z3] t (0,0))∧Kept (fun g=>g=b) w W:=⟨_,rfl,mx_set hb (j:=1) v,(Kept.refl (fun g=>g=b) w).setCell ⟨b,1,none⟩ v rfl⟩
theorem bs2 (v:Value): ∃W,w.setCell ⟨b,2,none⟩ v=W∧W.heap[b]? =some (.cells #[z0,z1,v,z3] t (0,0))∧Kept (fun g=>g=b) w W:=⟨_,rfl,mx_set hb (j:=2) v,(Kept.refl (fun g=>g=b) w).setCell ⟨b,2,none⟩ v rfl⟩
theorem bs3 (v:Value): ∃W,w.setCell ⟨b,3,none⟩ v=W∧W.heap[b]? =some (.cells #[z0,z1,z2,v] t (0,0))∧Kept (fun g=>g=b) w W:=⟨_,rfl,mx_set hb (j:=3) v,(Kept.refl (fun g=>g=b) w).setCell ⟨b,3,none⟩ v rfl⟩
end
theorem rDig_lt: ∀(f:Nat) (s:List UInt8) (n a:Nat),n<10^a→∃m:Nat,(rDig f s (n:Int)).1=(m:Int)∧m<10^(a+f)
 | 0,s,n,a,h=>⟨n,rfl,h⟩
 | f+1,[],n,a,h=>⟨n,rfl,Nat.lt_of_lt_of_le h (Nat.pow_le_pow_right (by decide) (by omega))⟩
 | f+1,b::r,n,a,h=>by
  rw[rDig]
  split
  ·rename_i hb
   have e:(n:Int)*10+(b.toNat:Int)-48=((n*10+(b.toNat-48):Nat):Int):=by omega
   rw[e]
   obtain⟨m,h1,h2⟩:=rDig_lt f r (n*10+(b.toNat-48)) (a+1) (by rw[Nat.pow_succ];omega)
   exact⟨m,h1,by rw[show a+(f+1)=a+1+f by omega];exact h2⟩
  ·exact⟨n,rfl,Nat.lt_of_lt_of_le h (Nat.pow_le_pow_right (by decide) (by omega))⟩
theorem rNumber_rng (s:List UInt8): -9223372036854775808≤(rNumber s).1∧(rNumber s).1≤9223372036854775807:=by
 obtain⟨m,h1,h2⟩:=rDig_lt 11 (rBody s) 0 0 (by decide)
 have h3:(10:Nat)^(0+11)=100000000000:=by decide
 rw[show((0:Nat):Int)=0 from rfl]at h1
 unfold rNumber
 simp only
 split
 ·exact⟨by decide,by decide⟩
 ·simp only
  split <;> omega
theorem rList_rng: ∀(f:Nat) (s:List UInt8) (l:List Int) (m:Nat),rList f s=some (l,m)→∀x∈l,-9223372036854775808≤x∧x≤9223372036854775807
 | 0,s,l,m,h=>by cases h
 | f+1,s,l,m,h=>by
  rw[rList]at h
  split at h
  ·cases h
  split at h
  ·cases h
  split at h
  ·simp only[Option.some.injEq,Prod.mk.injEq]at h
   rw[←h.1]
   exact fun x hx=>by cases hx
  ·split at h
   ·cases h
   ·rename_i l2 m2 h2
    simp only[Option.some.injEq,Prod.mk.injEq]at h
    rw[←h.1]
    intro x hx
    rcases List.mem_cons.1 hx with rfl|hx
    ·exact rNumber_rng s
    ·exact rList_rng f _ l2 m2 h2 x hx
theorem rList_len {f:Nat} {s:List UInt8} {l:List Int} {m:Nat} (h:rList f s=some (l,m)):m≤s.length∧m≠0∧l.length<m:=by
 obtain⟨h1,_,h3,h4⟩:=rList_some f s l m h
 refine⟨h3,h4,?_⟩
 have h5:=listT_len l
 rw[←h1,List.length_take]at h5
 omega
theorem drop_size (S:ByteArray):S.data.toList.length=S.size:=Array.length_toList
def dBeg (S:ByteArray):Bool:=decide (1<S.size)&&((bt S 0==100)&&(bt S 1==32))
theorem rRest_bt (n:Int) (S:ByteArray):rRest n S.data.toList=if dBeg S=true then rFin true n [] (S.data.toList.drop 2)else match rList (S.size+1) S.data.toList with
  | none=>none
  | some (l,m)=>if m=S.size then none else rFin false n l (S.data.toList.drop (m+1)):=by
 unfold rRest
 rw[drop_size]
 have e:(1<S.size∧S.data.toList[0]? =some 100∧S.data.toList[1]? =some 32)=(dBeg S=true):=by
  unfold dBeg
  rw[eq_iff_iff,Bool.and_eq_true,Bool.and_eq_true,decide_eq_true_eq,beq_iff_eq,beq_iff_eq]
  refine and_congr_right fun h=>?_
  unfold bt
  rw[List.getD_eq_getElem?_getD,List.getD_eq_getElem?_getD,List.getElem?_eq_getElem (by rw[drop_size];omega),List.getElem?_eq_getElem (by rw[drop_size];omega)]
  simp
 simp only[e]
 rfl
def POut (n0:Nat) (w':World) (e:Ending) (R:Option EStep):Prop:=
 match R with
 | none=>e= .returned (.tuple #[.agg #[.bool false,.int .i64 0,.slice none 0 0,.slice none 0 0],.bool false])
 | some s=> ∃A c A' c',e= .returned (.tuple #[.agg #[.bool s.del,.int .i64 s.id,.slice A s.lits.length c,.slice A' s.hints.length c'],.bool true])∧w'.ownsRow n0 3 1 (.slice A s.lits.length c) s.lits.length (s.lits.map (Value.int .i64))∧w'.ownsRow n0 3 1 (.slice A' s.hints.length c') s.hints.length (s.hints.map (Value.int .i64))
set_option maxRecDepth 100000 in
set_option maxHeartbeats 8000000 in
theorem ref_parse (S:ByteArray) (w:World) (hs:S.size≤900000):
  Calls Tryz.prog 52 #[.string S] w fun e w'=>POut w.heap.size w' e (rParse S.data.toList)∧Below w.heap.size w w':=by
 obtain⟨W1,hW1,hb1,hx1,hz1⟩:=al_new w #[.bool false,.int .i64 0,.slice none 0 0,.slice none 0 0] 83
 obtain⟨W2,hW2,hb2,hx2,hz2⟩:=al_new W1 #[.bool false,.int .i64 0,.slice none 0 0,.slice none 0 0] 83
 rw[hz1]at hx2
 have hx12:=(hb2.block _ (heap_lt hx1)).trans hx1
 have HB2:=Lib.hid (hb1.trans (hb2.mono hb1.size))
 have HX4:=Lib.hid hx2
 have HX2:=Lib.hid hx12
 have HN:=Lib.hid (ref_num S W2 (by omega))
 have hzz:W2.heap.size=w.heap.size+2:=by omega
 obtain⟨R,hR⟩: ∃R,rParse S.data.toList=R:=⟨_,rfl⟩
 rw[hR]
 unfold rParse at hR
 have hnl:=(rNumber_le S.data.toList).1
 rw[drop_size]at hnl hR
 obtain⟨n,hn⟩: ∃n,(rNumber S.data.toList).1=n:=⟨_,rfl⟩
 obtain⟨z,hz⟩: ∃z,(rNumber S.data.toList).2=z:=⟨_,rfl⟩
 rw[hn,hz]at HN hR
 rw[hz]at hnl
 have HR:=Lib.hid hR
 have HW1:=Lib.hid hW1
 have HW2:=Lib.hid hW2
 clear hn hz hR hW1 hW2 hb1 hb2 hx1 hx2 hx12 hz1 hz2
 go_enter Tryz.func52,Tryz.ntmps52
 go_upto_region 2 with fail
 rw[HW1.out,HW2.out]
 go_wp2_with fail
 refine HN.out.mono ?_
 rintro e wq ⟨rfl,hwq⟩
 rw[hwq]
 clear hwq wq HN
 by_cases hz0:z=0
 ·subst hz0
  have HRN:=Lib.hid (show R=none from by have:=HR.out;rw[if_pos (.inl rfl)]at this;exact this.symm)
  have r0:=mx_cell (j:=0) HX2.out
  have s0:=oj_free (j:=0) HX2.out
  have r1:=mx_cell (j:=1) HX2.out
  have s1:=oj_free (j:=1) HX2.out
  have r2:=mx_cell (j:=2) HX2.out
  have s2:=oj_free (j:=2) HX2.out
  have r3:=mx_cell (j:=3) HX2.out
  have s3:=oj_free (j:=3) HX2.out
  go_wp2_with fail
  obtain⟨WZ,hWZ,hbZ,hkZ⟩:=four_setP HX2.out (.bool false) (.int .i64 0) (.slice none 0 0) (.slice none 0 0)
  try rw[hWZ]
  refine bodyPost_ret (res_rp rfl hbZ _ rfl) rfl ?_
  refine⟨?_,HB2.out.trans (hkZ.below (fun g e=>by rw[e];exact Nat.le_refl _) HB2.out.size)⟩
  rw[HRN.out]
  rfl
 have q0:((z:Int)==0)=false:=by rw[beq_eq_false_iff_ne];omega
 by_cases hzs:z=S.size
 ·have q1:((z:Int)==(S.size:Int))=true:=by rw[beq_iff_eq];omega
  have HRN:=Lib.hid (show R=none from by have:=HR.out;rw[if_pos (.inr hzs)]at this;exact this.symm)
  clear hzs
  have r0:=mx_cell (j:=0) HX2.out
  have s0:=oj_free (j:=0) HX2.out
  have r1:=mx_cell (j:=1) HX2.out
  have s1:=oj_free (j:=1) HX2.out
  have r2:=mx_cell (j:=2) HX2.out
  have s2:=oj_free (j:=2) HX2.out
  have r3:=mx_cell (j:=3) HX2.out
  have s3:=oj_free (j:=3) HX2.out
  go_wp2_with fail
  obtain⟨WZ,hWZ,hbZ,hkZ⟩:=four_setP HX2.out (.bool false) (.int .i64 0) (.slice none 0 0) (.slice none 0 0)
  try rw[hWZ]
  refine bodyPost_ret (res_rp rfl hbZ _ rfl) rfl ?_
  refine⟨?_,HB2.out.trans (hkZ.below (fun g e=>by rw[e];exact Nat.le_refl _) HB2.out.size)⟩
  rw[HRN.out]
  rfl
 have q1:((z:Int)==(S.size:Int))=false:=by rw[beq_eq_false_iff_ne];omega
 have hR2:rRest n (S.data.toList.drop (z+1))=R:=by have:=HR.out;rwa [if_neg (fun h=>h.elim hz0 hzs)]at this
 have w1:IntKind.i64.wrap ((z:Int)+1)=((z+1:Nat):Int):=by rw[show(z:Int)+1=((z+1:Nat):Int) by omega];exact IntWalk.i64_in _ (by omega)
 rw[←ext_drop]at hR2
 obtain⟨S1,hS1⟩: ∃x,S.extract (z+1) S.size=x:=⟨_,rfl⟩
 have hs1:S1.size≤900000:=by rw[←hS1,ext_size];omega
 rw[hS1,rRest_bt]at hR2
 have HR2:=Lib.hid hR2
 have hzl:z+1≤S.size:=by omega
 obtain⟨W3,hW3,hx3,hk3⟩:=bs1 HX4.out (.int .i64 n)
 have HB3:=Lib.hid (HB2.out.trans (hk3.below (fun g e=>by omega) (by omega)))
 have HX3:=Lib.hid hx3
 have HX32:=Lib.hid ((hk3.block w.heap.size (heap_lt HX2.out) (by omega)).trans HX2.out)
 have hz3:W2.heap.size≤W3.heap.size:=hk3.size
 have y1:=mx_cell (j:=1) HX4.out
 have f1:=oj_free (j:=1) HX4.out
 clear hR2 hx3 hk3 hz0 hzs HR
 go_upto_region 6 with fail
 try rw[hW3]
 clear y1 f1 hW3 q0 q1
 go_upto_region 7 with fail
 try rw[hS1]
 clear hS1 w1 hzl hs hnl
 obtain⟨d,hd⟩: ∃d,dBeg S1=d:=⟨_,rfl⟩
 rw[hd]at HR2
 have hg:=get_bt S1
 go_cut [42] (fun v wx=>v= .bool d∧wx=W3)
 case first=>
  unfold dBeg at hd
  have q100:=u8_beq (bt S1 0) 100
  have q32:=u8_beq (bt S1 1) 32
  rw[show((100:UInt8).toNat:Int)=100 from rfl]at q100
  rw[show((32:UInt8).toNat:Int)=32 from rfl]at q32
  by_cases h1:1<S1.size
  ·have d1:decide ((1:Int)<(S1.size:Int))=true:=decide_eq_true (by omega)
   rw[decide_eq_true h1,Bool.true_and]at hd
   cases hc1:(bt S1 0==100)with
   | true=>
    rw[hc1]at q100 hd
    rw[Bool.true_and]at hd
    rw[hd]at q32
    clear hd hc1
    go_wp2_with fail
    go_meet
    exact⟨rfl,rfl⟩
   | false=>
    rw[hc1]at q100 hd
    rw[Bool.false_and]at hd
    subst hd
    clear hc1
    go_wp2_with fail
    go_meet
    exact⟨rfl,rfl⟩
  ·have d1:decide ((1:Int)<(S1.size:Int))=false:=decide_eq_false (by omega)
   rw[decide_eq_false h1,Bool.false_and]at hd
   subst hd
   go_wp2_with fail
   go_meet
   exact⟨rfl,rfl⟩
 case rest=>
  obtain⟨rfl,hwc⟩:=hcut
  rw[hwc]
  clear hwc wc hg
  cases d with
  | true=>
   have hs2:2≤S1.size:=by
    unfold dBeg at hd
    rw[Bool.and_eq_true,decide_eq_true_eq]at hd
    omega
   have hr:=HR2.out
   rw[if_pos rfl,←ext_drop]at hr
   obtain⟨S2,hS2⟩: ∃x,S1.extract 2 S1.size=x:=⟨_,rfl⟩
   have hz2:S2.size≤900000:=by rw[←hS2,ext_size];omega
   rw[hS2]at hr
   have HRF:=Lib.hid hr
   obtain⟨W5,hW5,hx5,hk5⟩:=bs0 HX3.out (.bool true)
   have HB5:=Lib.hid (HB3.out.trans (hk5.below (fun g e=>by omega) (by omega)))
   have HX5:=Lib.hid hx5
   have HX52:=Lib.hid ((hk5.block w.heap.size (heap_lt HX32.out) (by omega)).trans HX32.out)
   have hz5:W3.heap.size≤W5.heap.size:=hk5.size
   have HLV:=Lib.hid (show W5.ownsRow (w.heap.size+2) 3 1 (.slice none ([] :List Int).length 0) ([] :List Int).length (([] :List Int).map (Value.int .i64))from World.ownsRow_nil _ _ _ _)
   have y0:=mx_cell (j:=0) HX3.out
   have f0:=oj_free (j:=0) HX3.out
   clear hr hd hx5 hk5 HR2
   go_upto_region 9 with fail
   try rw[hW5]
   clear y0 f0 hW5
   go_upto_region 15 with fail
   try rw[hS2]
   clear hS2 hs2
   have HLH:=Lib.hid (ref_list S2 W5 (by omega))
   obtain⟨L2,hL2⟩: ∃L,rList (S2.size+1) S2.data.toList=L:=⟨_,rfl⟩
   have hr:=HRF.out
   unfold rFin at hr
   rw[drop_size]at hr
   rw[hL2]at HLH hr
   have HL2:=Lib.hid hL2
   have HRL2:=Lib.hid hr
   clear hL2 hr HRF
   go_wp2_with fail
   refine HLH.out.mono ?_
   rintro e W6 ⟨hlo,hb6⟩
   have HB6:=Lib.hid (HB5.out.trans (hb6.mono (by omega)))
   have HX6:=Lib.hid ((hb6.block _ (heap_lt HX5.out)).trans HX5.out)
   have HX62:=Lib.hid ((hb6.block _ (heap_lt HX52.out)).trans HX52.out)
   have HLV6:=Lib.hid (own_below HLV.out hb6)
   have hz6:W5.heap.size≤W6.heap.size:=hb6.size
   clear hb6 HLH HLV
   cases L2 with
   | none=>
    unfold ListOut at hlo
    subst hlo
    have HRN:=Lib.hid HRL2.out.symm
    have r0:=mx_cell (j:=0) HX62.out
    have s0:=oj_free (j:=0) HX62.out
    have r1:=mx_cell (j:=1) HX62.out
    have s1:=oj_free (j:=1) HX62.out
    have r2:=mx_cell (j:=2) HX62.out
    have s2:=oj_free (j:=2) HX62.out
    have r3:=mx_cell (j:=3) HX62.out
    have s3:=oj_free (j:=3) HX62.out
    go_wp2_with fail
    obtain⟨WZ,hWZ,hbZ,hkZ⟩:=four_setP HX62.out (.bool false) (.int .i64 0) (.slice none 0 0) (.slice none 0 0)
    try rw[hWZ]
    refine bodyPost_ret (res_rp rfl hbZ _ rfl) rfl ?_
    refine⟨?_,HB6.out.trans (hkZ.below (fun g e=>by rw[e];exact Nat.le_refl _) HB6.out.size)⟩
    rw[HRN.out]
    rfl
   | some p=>
    obtain⟨hl,m2⟩:=p
    obtain⟨hv,rfl,hhv⟩:=hlo
    obtain⟨Ah,ch,rfl,_⟩:=mx_slice hhv
    obtain⟨hm1,hm2,hm3⟩:=rList_len HL2.out
    rw[drop_size]at hm1
    have hrng:=rList_rng _ _ _ _ HL2.out
    have q0:((m2:Int)==0)=false:=by rw[beq_eq_false_iff_ne];omega
    by_cases hms:m2<S2.size
    ·have q1:decide ((m2:Int)<(S2.size:Int))=true:=decide_eq_true (by omega)
     have HRN:=Lib.hid (show R=none from by have:=HRL2.out;simp only[if_pos hms]at this;exact this.symm)
     clear hhv hrng
     have r0:=mx_cell (j:=0) HX62.out
     have s0:=oj_free (j:=0) HX62.out
     have r1:=mx_cell (j:=1) HX62.out
     have s1:=oj_free (j:=1) HX62.out
     have r2:=mx_cell (j:=2) HX62.out
     have s2:=oj_free (j:=2) HX62.out
     have r3:=mx_cell (j:=3) HX62.out
     have s3:=oj_free (j:=3) HX62.out
     go_wp2_with fail
     obtain⟨WZ,hWZ,hbZ,hkZ⟩:=four_setP HX62.out (.bool false) (.int .i64 0) (.slice none 0 0) (.slice none 0 0)
     try rw[hWZ]
     refine bodyPost_ret (res_rp rfl hbZ _ rfl) rfl ?_
     refine⟨?_,HB6.out.trans (hkZ.below (fun g e=>by rw[e];exact Nat.le_refl _) HB6.out.size)⟩
     rw[HRN.out]
     rfl
    have q1:decide ((m2:Int)<(S2.size:Int))=false:=decide_eq_false (by omega)
    obtain⟨sb,hsb⟩: ∃x,stepB ⟨true,n,([] :List Int),hl⟩=x:=⟨_,rfl⟩
    have HRB:=Lib.hid (show(if sb=true then some (⟨true,n,([] :List Int),hl⟩:EStep)else none)=R from by
     have:=HRL2.out
     simp only[if_neg hms,hsb]at this
     exact this)
    obtain⟨W7,hW7,hx7,hk7⟩:=bs3 HX6.out (.slice Ah hl.length ch)
    have HB7:=Lib.hid (HB6.out.trans (hk7.below (fun g e=>by omega) (by omega)))
    have HX7:=Lib.hid hx7
    have HX72:=Lib.hid ((hk7.block w.heap.size (heap_lt HX62.out) (by omega)).trans HX62.out)
    have HLV7:=Lib.hid (own_kept HLV6.out hk7 (fun g hg e=>by have:=(own_lt HLV6.out g hg).1;omega))
    have HHV7:=Lib.hid (own_mono (base':=w.heap.size+2) (own_kept hhv hk7 (fun g hg e=>by have:=(own_lt hhv g hg).1;omega)) (by omega))
    have HRI:=ref_right07 true n _ _ ([] :List Int) hl W7 ((IntsIn.of_own HLV7.out).mono (O':=fun _=>True) fun _ _=>trivial) ((IntsIn.of_own HHV7.out).mono (O':=fun _=>True) fun _ _=>trivial) (by first|(show 0≤1000000;omega)|omega) (by omega) hrng
    rw[hsb]at HRI
    have HRI:=Lib.hid HRI
    have y3:=mx_cell (j:=3) HX6.out
    have f3:=oj_free (j:=3) HX6.out
    have hz7:W6.heap.size≤W7.heap.size:=hk7.size
    clear hx7 hk7 hhv hrng hsb HRL2
    have hms2:S2.size≤m2:=by omega
    go_upto_region 19 with fail
    try rw[hW7]
    clear y3 f3 hW7 q0 q1
    have x0:=mx_cell (j:=0) HX7.out
    have x1:=mx_cell (j:=1) HX7.out
    have x2:=mx_cell (j:=2) HX7.out
    have x3:=mx_cell (j:=3) HX7.out
    go_wp2_with fail
    refine HRI.out.mono ?_
    rintro e W8 ⟨rfl,hb8⟩
    have HB8:=Lib.hid (HB7.out.trans (hb8.mono (by omega)))
    have HX8:=Lib.hid ((hb8.block _ (heap_lt HX7.out)).trans HX7.out)
    have HX82:=Lib.hid ((hb8.block _ (heap_lt HX72.out)).trans HX72.out)
    have HLV8:=Lib.hid (own_below HLV7.out hb8)
    have HHV8:=Lib.hid (own_below HHV7.out hb8)
    clear hb8 HRI x0 x1 x2 x3
    cases sb with
    | false=>
     have HRN:=Lib.hid (show R=none from by have:=HRB.out;rw[if_neg (by decide)]at this;exact this.symm)
     have r0:=mx_cell (j:=0) HX82.out
     have s0:=oj_free (j:=0) HX82.out
     have r1:=mx_cell (j:=1) HX82.out
     have s1:=oj_free (j:=1) HX82.out
     have r2:=mx_cell (j:=2) HX82.out
     have s2:=oj_free (j:=2) HX82.out
     have r3:=mx_cell (j:=3) HX82.out
     have s3:=oj_free (j:=3) HX82.out
     go_wp2_with fail
     obtain⟨WZ,hWZ,hbZ,hkZ⟩:=four_setP HX82.out (.bool false) (.int .i64 0) (.slice none 0 0) (.slice none 0 0)
     try rw[hWZ]
     refine bodyPost_ret (res_rp rfl hbZ _ rfl) rfl ?_
     refine⟨?_,HB8.out.trans (hkZ.below (fun g e=>by rw[e];exact Nat.le_refl _) HB8.out.size)⟩
     rw[HRN.out]
     rfl
    | true=>
     have HRS:=Lib.hid (show R=some (⟨true,n,([] :List Int),hl⟩:EStep)from by have:=HRB.out;rw[if_pos rfl]at this;exact this.symm)
     have x0:=mx_cell (j:=0) HX8.out
     have x1:=mx_cell (j:=1) HX8.out
     have x2:=mx_cell (j:=2) HX8.out
     have x3:=mx_cell (j:=3) HX8.out
     have r0:=mx_cell (j:=0) HX82.out
     have s0:=oj_free (j:=0) HX82.out
     have r1:=mx_cell (j:=1) HX82.out
     have s1:=oj_free (j:=1) HX82.out
     have r2:=mx_cell (j:=2) HX82.out
     have s2:=oj_free (j:=2) HX82.out
     have r3:=mx_cell (j:=3) HX82.out
     have s3:=oj_free (j:=3) HX82.out
     go_wp2_with fail
     obtain⟨WZ,hWZ,hbZ,hkZ⟩:=four_setP HX82.out (.bool true) (.int .i64 n) (.slice none 0 0) (.slice Ah hl.length ch)
     try rw[hWZ]
     refine bodyPost_ret (res_rp rfl hbZ _ rfl) rfl ?_
     refine⟨?_,HB8.out.trans (hkZ.below (fun g e=>by rw[e];exact Nat.le_refl _) HB8.out.size)⟩
     rw[HRS.out]
     exact⟨none,0,Ah,ch,rfl,own_mono (own_kept HLV8.out hkZ (fun g hg e=>by have:=(own_lt HLV8.out g hg).1;omega)) (by omega),own_mono (own_kept HHV8.out hkZ (fun g hg e=>by have:=(own_lt HHV8.out g hg).1;omega)) (by omega)⟩
  | false=>
   have hr:=HR2.out
   rw[if_neg (by decide)]at hr
   have HLI:=Lib.hid (ref_list S1 W3 (by omega))
   obtain⟨L,hL⟩: ∃L,rList (S1.size+1) S1.data.toList=L:=⟨_,rfl⟩
   rw[hL]at HLI hr
   have HL:=Lib.hid hL
   have HRL:=Lib.hid hr
   clear hL hr HR2 hd
   go_wp2_with fail
   refine HLI.out.mono ?_
   rintro e W4 ⟨hlo,hb4⟩
   have HB4:=Lib.hid (HB3.out.trans (hb4.mono (by omega)))
   have HX44:=Lib.hid ((hb4.block _ (heap_lt HX3.out)).trans HX3.out)
   have HX42:=Lib.hid ((hb4.block _ (heap_lt HX32.out)).trans HX32.out)
   have hz4:W3.heap.size≤W4.heap.size:=hb4.size
   clear hb4 HLI
   cases L with
   | none=>
    unfold ListOut at hlo
    subst hlo
    have HRN:=Lib.hid HRL.out.symm
    have r0:=mx_cell (j:=0) HX42.out
    have s0:=oj_free (j:=0) HX42.out
    have r1:=mx_cell (j:=1) HX42.out
    have s1:=oj_free (j:=1) HX42.out
    have r2:=mx_cell (j:=2) HX42.out
    have s2:=oj_free (j:=2) HX42.out
    have r3:=mx_cell (j:=3) HX42.out
    have s3:=oj_free (j:=3) HX42.out
    go_wp2_with fail
    obtain⟨WZ,hWZ,hbZ,hkZ⟩:=four_setP HX42.out (.bool false) (.int .i64 0) (.slice none 0 0) (.slice none 0 0)
    try rw[hWZ]
    refine bodyPost_ret (res_rp rfl hbZ _ rfl) rfl ?_
    refine⟨?_,HB4.out.trans (hkZ.below (fun g e=>by rw[e];exact Nat.le_refl _) HB4.out.size)⟩
    rw[HRN.out]
    rfl
   | some p=>
    obtain⟨l,m⟩:=p
    obtain⟨lv,rfl,hlv⟩:=hlo
    obtain⟨Al,cl,rfl,_⟩:=mx_slice hlv
    obtain⟨hm1,hm2,hm3⟩:=rList_len HL.out
    rw[drop_size]at hm1
    have q0:((m:Int)==0)=false:=by rw[beq_eq_false_iff_ne];omega
    by_cases hms:m=S1.size
    ·have q1:((m:Int)==(S1.size:Int))=true:=by rw[beq_iff_eq];omega
     have HRN:=Lib.hid (show R=none from by have:=HRL.out;simp only[if_pos hms]at this;exact this.symm)
     clear hms hlv
     have r0:=mx_cell (j:=0) HX42.out
     have s0:=oj_free (j:=0) HX42.out
     have r1:=mx_cell (j:=1) HX42.out
     have s1:=oj_free (j:=1) HX42.out
     have r2:=mx_cell (j:=2) HX42.out
     have s2:=oj_free (j:=2) HX42.out
     have r3:=mx_cell (j:=3) HX42.out
     have s3:=oj_free (j:=3) HX42.out
     go_wp2_with fail
     obtain⟨WZ,hWZ,hbZ,hkZ⟩:=four_setP HX42.out (.bool false) (.int .i64 0) (.slice none 0 0) (.slice none 0 0)
     try rw[hWZ]
     refine bodyPost_ret (res_rp rfl hbZ _ rfl) rfl ?_
     refine⟨?_,HB4.out.trans (hkZ.below (fun g e=>by rw[e];exact Nat.le_refl _) HB4.out.size)⟩
     rw[HRN.out]
     rfl
    have q1:((m:Int)==(S1.size:Int))=false:=by rw[beq_eq_false_iff_ne];omega
    have hr:rFin false n l (S1.data.toList.drop (m+1))=R:=by have:=HRL.out;simp only[if_neg hms]at this;exact this
    rw[←ext_drop]at hr
    have w1:IntKind.i64.wrap ((m:Int)+1)=((m+1:Nat):Int):=by rw[show(m:Int)+1=((m+1:Nat):Int) by omega];exact IntWalk.i64_in _ (by omega)
    obtain⟨S2,hS2⟩: ∃x,S1.extract (m+1) S1.size=x:=⟨_,rfl⟩
    have hz2:S2.size≤900000:=by rw[←hS2,ext_size];omega
    rw[hS2]at hr
    have HRF:=Lib.hid hr
    have hml:m+1≤S1.size:=by omega
    obtain⟨W5,hW5,hx5,hk5⟩:=bs2 HX44.out (.slice Al l.length cl)
    have HB5:=Lib.hid (HB4.out.trans (hk5.below (fun g e=>by omega) (by omega)))
    have HX5:=Lib.hid hx5
    have HX52:=Lib.hid ((hk5.block w.heap.size (heap_lt HX42.out) (by omega)).trans HX42.out)
    have hz5:W4.heap.size≤W5.heap.size:=hk5.size
    have HLV:=Lib.hid (own_mono (base':=w.heap.size+2) (own_kept hlv hk5 (fun g hg e=>by have:=(own_lt hlv g hg).1;omega)) (by omega))
    have y2:=mx_cell (j:=2) HX44.out
    have f2:=oj_free (j:=2) HX44.out
    clear hr hx5 hk5 hlv hms HRL
    go_upto_region 14 with fail
    try rw[hW5]
    clear y2 f2 hW5 q0 q1
    go_upto_region 15 with fail
    try rw[hS2]
    have hll:l.length≤900000:=by omega
    clear hS2 w1 hml hm1 hm2
    have HLH:=Lib.hid (ref_list S2 W5 (by omega))
    obtain⟨L2,hL2⟩: ∃L,rList (S2.size+1) S2.data.toList=L:=⟨_,rfl⟩
    have hr:=HRF.out
    unfold rFin at hr
    rw[drop_size]at hr
    rw[hL2]at HLH hr
    have HL2:=Lib.hid hL2
    have HRL2:=Lib.hid hr
    clear hL2 hr HRF
    go_wp2_with fail
    refine HLH.out.mono ?_
    rintro e W6 ⟨hlo,hb6⟩
    have HB6:=Lib.hid (HB5.out.trans (hb6.mono (by omega)))
    have HX6:=Lib.hid ((hb6.block _ (heap_lt HX5.out)).trans HX5.out)
    have HX62:=Lib.hid ((hb6.block _ (heap_lt HX52.out)).trans HX52.out)
    have HLV6:=Lib.hid (own_below HLV.out hb6)
    have hz6:W5.heap.size≤W6.heap.size:=hb6.size
    clear hb6 HLH HLV
    cases L2 with
    | none=>
     unfold ListOut at hlo
     subst hlo
     have HRN:=Lib.hid HRL2.out.symm
     have r0:=mx_cell (j:=0) HX62.out
     have s0:=oj_free (j:=0) HX62.out
     have r1:=mx_cell (j:=1) HX62.out
     have s1:=oj_free (j:=1) HX62.out
     have r2:=mx_cell (j:=2) HX62.out
     have s2:=oj_free (j:=2) HX62.out
     have r3:=mx_cell (j:=3) HX62.out
     have s3:=oj_free (j:=3) HX62.out
     go_wp2_with fail
     obtain⟨WZ,hWZ,hbZ,hkZ⟩:=four_setP HX62.out (.bool false) (.int .i64 0) (.slice none 0 0) (.slice none 0 0)
     try rw[hWZ]
     refine bodyPost_ret (res_rp rfl hbZ _ rfl) rfl ?_
     refine⟨?_,HB6.out.trans (hkZ.below (fun g e=>by rw[e];exact Nat.le_refl _) HB6.out.size)⟩
     rw[HRN.out]
     rfl
    | some p=>
     obtain⟨hl,m2⟩:=p
     obtain⟨hv,rfl,hhv⟩:=hlo
     obtain⟨Ah,ch,rfl,_⟩:=mx_slice hhv
     obtain⟨hm1,hm2,hm3⟩:=rList_len HL2.out
     rw[drop_size]at hm1
     have hrng:=rList_rng _ _ _ _ HL2.out
     have q0:((m2:Int)==0)=false:=by rw[beq_eq_false_iff_ne];omega
     by_cases hms:m2<S2.size
     ·have q1:decide ((m2:Int)<(S2.size:Int))=true:=decide_eq_true (by omega)
      have HRN:=Lib.hid (show R=none from by have:=HRL2.out;simp only[if_pos hms]at this;exact this.symm)
      clear hhv hrng
      have r0:=mx_cell (j:=0) HX62.out
      have s0:=oj_free (j:=0) HX62.out
      have r1:=mx_cell (j:=1) HX62.out
      have s1:=oj_free (j:=1) HX62.out
      have r2:=mx_cell (j:=2) HX62.out
      have s2:=oj_free (j:=2) HX62.out
      have r3:=mx_cell (j:=3) HX62.out
      have s3:=oj_free (j:=3) HX62.out
      go_wp2_with fail
      obtain⟨WZ,hWZ,hbZ,hkZ⟩:=four_setP HX62.out (.bool false) (.int .i64 0) (.slice none 0 0) (.slice none 0 0)
      try rw[hWZ]
      refine bodyPost_ret (res_rp rfl hbZ _ rfl) rfl ?_
      refine⟨?_,HB6.out.trans (hkZ.below (fun g e=>by rw[e];exact Nat.le_refl _) HB6.out.size)⟩
      rw[HRN.out]
      rfl
     have q1:decide ((m2:Int)<(S2.size:Int))=false:=decide_eq_false (by omega)
     obtain⟨sb,hsb⟩: ∃x,stepB ⟨false,n,l,hl⟩=x:=⟨_,rfl⟩
     have HRB:=Lib.hid (show(if sb=true then some (⟨false,n,l,hl⟩:EStep)else none)=R from by
      have:=HRL2.out
      simp only[if_neg hms,hsb]at this
      exact this)
     obtain⟨W7,hW7,hx7,hk7⟩:=bs3 HX6.out (.slice Ah hl.length ch)
     have HB7:=Lib.hid (HB6.out.trans (hk7.below (fun g e=>by omega) (by omega)))
     have HX7:=Lib.hid hx7
     have HX72:=Lib.hid ((hk7.block w.heap.size (heap_lt HX62.out) (by omega)).trans HX62.out)
     have HLV7:=Lib.hid (own_kept HLV6.out hk7 (fun g hg e=>by have:=(own_lt HLV6.out g hg).1;omega))
     have HHV7:=Lib.hid (own_mono (base':=w.heap.size+2) (own_kept hhv hk7 (fun g hg e=>by have:=(own_lt hhv g hg).1;omega)) (by omega))
     have HRI:=ref_right07 false n _ _ l hl W7 ((IntsIn.of_own HLV7.out).mono (O':=fun _=>True) fun _ _=>trivial) ((IntsIn.of_own HHV7.out).mono (O':=fun _=>True) fun _ _=>trivial) (by first|(show 0≤1000000;omega)|omega) (by omega) hrng
     rw[hsb]at HRI
     have HRI:=Lib.hid HRI
     have y3:=mx_cell (j:=3) HX6.out
     have f3:=oj_free (j:=3) HX6.out
     have hz7:W6.heap.size≤W7.heap.size:=hk7.size
     clear hx7 hk7 hhv hrng hsb HRL2
     have hms2:S2.size≤m2:=by omega
     go_upto_region 19 with fail
     try rw[hW7]
     clear y3 f3 hW7 q0 q1
     have x0:=mx_cell (j:=0) HX7.out
     have x1:=mx_cell (j:=1) HX7.out
     have x2:=mx_cell (j:=2) HX7.out
     have x3:=mx_cell (j:=3) HX7.out
     go_wp2_with fail
     refine HRI.out.mono ?_
     rintro e W8 ⟨rfl,hb8⟩
     have HB8:=Lib.hid (HB7.out.trans (hb8.mono (by omega)))
     have HX8:=Lib.hid ((hb8.block _ (heap_lt HX7.out)).trans HX7.out)
     have HX82:=Lib.hid ((hb8.block _ (heap_lt HX72.out)).trans HX72.out)
     have HLV8:=Lib.hid (own_below HLV7.out hb8)
     have HHV8:=Lib.hid (own_below HHV7.out hb8)
     clear hb8 HRI x0 x1 x2 x3
     cases sb with
     | false=>
      have HRN:=Lib.hid (show R=none from by have:=HRB.out;rw[if_neg (by decide)]at this;exact this.symm)
      have r0:=mx_cell (j:=0) HX82.out
      have s0:=oj_free (j:=0) HX82.out
      have r1:=mx_cell (j:=1) HX82.out
      have s1:=oj_free (j:=1) HX82.out
      have r2:=mx_cell (j:=2) HX82.out
      have s2:=oj_free (j:=2) HX82.out
      have r3:=mx_cell (j:=3) HX82.out
      have s3:=oj_free (j:=3) HX82.out
      go_wp2_with fail
      obtain⟨WZ,hWZ,hbZ,hkZ⟩:=four_setP HX82.out (.bool false) (.int .i64 0) (.slice none 0 0) (.slice none 0 0)
      try rw[hWZ]
      refine bodyPost_ret (res_rp rfl hbZ _ rfl) rfl ?_
      refine⟨?_,HB8.out.trans (hkZ.below (fun g e=>by rw[e];exact Nat.le_refl _) HB8.out.size)⟩
      rw[HRN.out]
      rfl
     | true=>
      have HRS:=Lib.hid (show R=some (⟨false,n,l,hl⟩:EStep)from by have:=HRB.out;rw[if_pos rfl]at this;exact this.symm)
      have x0:=mx_cell (j:=0) HX8.out
      have x1:=mx_cell (j:=1) HX8.out
      have x2:=mx_cell (j:=2) HX8.out
      have x3:=mx_cell (j:=3) HX8.out
      have r0:=mx_cell (j:=0) HX82.out
      have s0:=oj_free (j:=0) HX82.out
      have r1:=mx_cell (j:=1) HX82.out
      have s1:=oj_free (j:=1) HX82.out
      have r2:=mx_cell (j:=2) HX82.out
      have s2:=oj_free (j:=2) HX82.out
      have r3:=mx_cell (j:=3) HX82.out
      have s3:=oj_free (j:=3) HX82.out
      go_wp2_with fail
      obtain⟨WZ,hWZ,hbZ,hkZ⟩:=four_setP HX82.out (.bool false) (.int .i64 n) (.slice Al l.length cl) (.slice Ah hl.length ch)
      try rw[hWZ]
      refine bodyPost_ret (res_rp rfl hbZ _ rfl) rfl ?_
      refine⟨?_,HB8.out.trans (hkZ.below (fun g e=>by rw[e];exact Nat.le_refl _) HB8.out.size)⟩
      rw[HRS.out]
      exact⟨Al,cl,Ah,ch,rfl,own_mono (own_kept HLV8.out hkZ (fun g hg e=>by have:=(own_lt HLV8.out g hg).1;omega)) (by omega),own_mono (own_kept HHV8.out hkZ (fun g hg e=>by have:=(own_lt HHV8.out g hg).1;omega)) (by omega)⟩
end Go.Proofs.YtajbmjpodeilpaaGreatDoor
namespace Go.Proofs.YtajbmjpodeilpaaGreatDoor
open Go.RowKit
theorem ext_seg (s:ByteArray) (a b:Nat):(s.extract a b).data.toList=(s.data.toList.drop a).take (b-a):=by
 rw[ByteArray.data_extract,Array.toList_extract,List.extract_eq_take_drop]
theorem ba_list (s:ByteArray):s=⟨s.data.toList.toArray⟩:=by
 cases s
 simp
def wds (S:ByteArray) (a i:Nat):List (List UInt8):=if i≤S.size then spl 10 (S.data.toList.drop a)else []
def NoNl (S:ByteArray) (a i:Nat):Prop:=(10:UInt8)∉(S.data.toList.drop a).take (i-a)
theorem noNl_self (S:ByteArray) (a:Nat):NoNl S a a:=by
 unfold NoNl
 rw[Nat.sub_self,List.take_zero]
 exact List.not_mem_nil
theorem bt_get {S:ByteArray} {k:Nat} (h:k<S.size):S.data.toList[k]? =some (bt S k):=by
 have hl:S.data.toList.length=S.size:=Array.length_toList
 unfold bt
 rw[List.getD_eq_getElem?_getD,List.getElem?_eq_getElem (by omega)]
 rfl
theorem NoNl.step {S:ByteArray} {a i:Nat} (h:NoNl S a i) (ha:a≤i) (hi:i<S.size) (hb:bt S i≠10):NoNl S a (i+1):=by
 unfold NoNl at h⊢
 rw[show i+1-a=i-a+1 by omega,List.take_add_one,List.getElem?_drop,show a+(i-a)=i by omega,bt_get hi,List.mem_append,not_or]
 refine⟨h,fun hm=>?_⟩
 simp only[Option.toList_some,List.mem_singleton]at hm
 exact hb hm.symm
theorem wds_next {S:ByteArray} {a i:Nat} (hi:i<S.size):wds S a (i+1)=wds S a i:=by
 unfold wds
 rw[if_pos (by omega),if_pos (by omega)]
theorem wds_line {S:ByteArray} {a i:Nat} (h:NoNl S a i) (ha:a≤i) (hi:i≤S.size) (hb:i<S.size→bt S i=10):wds S a i=(S.extract a i).data.toList::wds S (i+1) (i+1):=by
 have hl:S.data.toList.length=S.size:=Array.length_toList
 unfold wds
 rw[if_pos hi,ext_seg]
 unfold NoNl at h
 by_cases hlt:i<S.size
 ·rw[if_pos (by omega)]
  have e:S.data.toList.drop a=(S.data.toList.drop a).take (i-a)++10::S.data.toList.drop (i+1):=by
   have h1:=List.take_append_drop (i-a) (S.data.toList.drop a)
   rw[List.drop_drop,show a+(i-a)=i by omega,drop_bt S i hlt,hb hlt]at h1
   exact h1.symm
  conv=>lhs;rw[e]
  exact spl_app _ h
 ·rw[if_neg (by omega)]
  have e:(S.data.toList.drop a).take (i-a)=S.data.toList.drop a:=by
   rw[List.take_of_length_le]
   rw[List.length_drop]
   omega
  rw[e]at h⊢
  exact spl_none h
theorem wds_zero (S:ByteArray):wds S 0 0=spl 10 S.data.toList:=by
 unfold wds
 rw[if_pos (Nat.zero_le _),List.drop_zero]
theorem wds_end {S:ByteArray} {a i:Nat} (hi:S.size<i):wds S a i= []:=by
 unfold wds
 rw[if_neg (by omega)]
def LastOk (K:List StV) (z:Int):Prop:=(K= []→z=0)∧∀x,K[K.length-1]? =some x→x.1.id=z
theorem LastOk.nil:LastOk [] 0:=⟨fun _=>rfl,fun x hx=>by simp at hx⟩
theorem LastOk.push (K:List StV) (x:StV):LastOk (K++ [x]) x.1.id:=⟨fun h=>by simp at h,fun y hy=>by
 rw[List.length_append,List.length_singleton,Nat.add_sub_cancel,List.getElem?_append_right (Nat.le_refl _),Nat.sub_self]at hy
 simp only[List.getElem?_cons_zero,Option.some.injEq]at hy
 rw[hy]⟩
end Go.Proofs.YtajbmjpodeilpaaGreatDoor
