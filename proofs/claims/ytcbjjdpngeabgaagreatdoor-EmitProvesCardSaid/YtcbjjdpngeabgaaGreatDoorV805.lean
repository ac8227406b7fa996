/- lratext.line. lratext.Write at proofs that are right; Text (package emit). Small laws of blocks and rows that every chapter uses. -/
import Derived.Test.YtcbjjdpngeabgaaGreatDoorV804
import Derived.Test.YtcbjjdpngeabgaaGreatDoorV800
namespace Go.Proofs.YtcbjjdpngeabgaaGreatDoor
open Go.RowKit
theorem stepOk_rng {s:EStep} (h:StepOk s):Rng s.id∧(∀x∈s.lits,Rng x)∧(∀x∈s.hints,Rng x)∧s.lits.length≤4096:=by
 have h1:=h.lits
 unfold clauseB at h1
 rw[Bool.and_eq_true,decide_eq_true_eq]at h1
 refine⟨⟨by have:=h.id0;omega,by have:=h.id1;omega⟩,fun x hx=>?_,fun x hx=>?_,h1.1⟩
 ·have:=(litB_iff x).1 (List.all_eq_true.1 h1.2 x hx)
  exact⟨by omega,by omega⟩
 ·have:=h.hints x hx
  exact⟨by have:=this.1;omega,by have:=this.2;omega⟩
set_option maxRecDepth 100000 in
set_option maxHeartbeats 2000000 in
theorem line_true {O O':Nat→Prop} (s:EStep) (lv hv:Value) (w:World) (hs:StepOk s) (hd:s.del=true) (hl:IntsIn O w lv s.lits) (hh:IntsIn O' w hv s.hints) (ht:TabW w):
  Calls Tryz.prog 69 #[.agg #[.bool true,.int .i64 s.id,lv,hv]] w fun e w'=>e= .returned (.string ⟨(stepT s).toArray⟩)∧Below w.heap.size w w':=by
 obtain⟨r1,r2,r3,r4⟩:=stepOk_rng hs
 have hil:=Lib.itoa_length_le s.id r1.1 r1.2
 have hhl:=hs.len
 have HSd:=Lib.hid hd
 have HRid:=Lib.hid r1
 have HRl:=Lib.hid r2
 have HRh:=Lib.hid r3
 have HT:=Lib.hid ht
 obtain⟨A,c,rfl,hcc,_,hx1⟩:=hl
 obtain⟨A',c',rfl,hcc',_,hx2⟩:=hh
 have HX1:=Lib.hid hx1
 have HX2:=Lib.hid hx2
 clear hs hd r1 r2 r3 ht hx1 hx2
 go_enter Tryz.func69,Tryz.ntmps69
 go_wp2_with fail
 obtain⟨wb,hwb⟩: ∃wb,(w.alloc (.cells #[.bool true,.int .i64 s.id,.slice A s.lits.length c,.slice A' s.hints.length c'] 41)).alloc (.cells #[.pointer none,.slice none 0 0] 119)=wb:=⟨_,rfl⟩
 have hB:Below w.heap.size w wb:=by rw[←hwb];exact((Below.refl _ _).alloc (Nat.le_refl _) _).alloc (by simp) _
 have hS:wb.heap.size=w.heap.size+2:=by rw[←hwb];simp
 have hI:IsB (w.heap.size+1) (w.heap.size+1) [] wb:=by
  have:=IsB.new (w.heap.size+1) (w.alloc (.cells #[.bool true,.int .i64 s.id,.slice A s.lits.length c,.slice A' s.hints.length c'] 41)) (by simp)
  rw[World.size_alloc]at this
  rw[←hwb];exact this
 have hcell: ∀j,j<4→wb.cell? ⟨w.heap.size,j,none⟩= #[.bool true,.int .i64 s.id,.slice A s.lits.length c,.slice A' s.hints.length c'][j]? :=fun j _=>by
  rw[←hwb,((Below.refl (w.heap.size+1) _).alloc (by simp) _).cell (p:=⟨w.heap.size,j,none⟩) (Nat.lt_succ_self _)]
  exact cell_new _ _ _ _
 have b0:wb.cell? ⟨w.heap.size,0,none⟩=some (.bool true):=hcell 0 (by omega)
 have b1:wb.cell? ⟨w.heap.size,1,none⟩=some (.int .i64 s.id):=hcell 1 (by omega)
 have b2:wb.cell? ⟨w.heap.size,2,none⟩=some (.slice A s.lits.length c):=hcell 2 (by omega)
 have b3:wb.cell? ⟨w.heap.size,3,none⟩=some (.slice A' s.hints.length c'):=hcell 3 (by omega)
 rw[hwb]
 have HTB:=Lib.hid (HT.out.below hB HT.out.lt)
 have HWB:=Lib.hid hB
 have HWS:=Lib.hid hS
 have HI:=Lib.hid hI
 clear hwb hB hS hI hcell
 refine(itoa_any s.id _ HRid.out HTB.out).mono ?_
 rintro e wc ⟨rfl,hbc⟩
 have hzw:=HWS.out
 have hzc:=hbc.size
 have HBC:=Lib.hid hbc
 clear hbc
 go_wp2_with fail
 refine(bw_write _ _ _ _ _ (HI.out.kept HBC.out) (by show [].length+(Lib.itoa s.id).length≤_;simp only[List.length_nil];omega) (by omega)).mono ?_
 rintro e wd ⟨rfl,hid,hbd⟩
 have hzd:=hbd.size
 have HBc:=Lib.hid (show Below (w.heap.size+1) wb wd from(HBC.out.mono (by omega)).trans hbd)
 have HId:=Lib.hid (show IsB (w.heap.size+1) (w.heap.size+1) (Lib.itoa s.id) wd from hid)
 clear hid hbd HBC
 have d0:wd.cell? ⟨w.heap.size,0,none⟩=some (.bool true):=(HBc.out.cell (p:=⟨w.heap.size,0,none⟩) (Nat.lt_succ_self _)).trans b0
 have d2:wd.cell? ⟨w.heap.size,2,none⟩=some (.slice A s.lits.length c):=(HBc.out.cell (p:=⟨w.heap.size,2,none⟩) (Nat.lt_succ_self _)).trans b2
 have d3:wd.cell? ⟨w.heap.size,3,none⟩=some (.slice A' s.hints.length c'):=(HBc.out.cell (p:=⟨w.heap.size,3,none⟩) (Nat.lt_succ_self _)).trans b3
 go_wp2_with fail
 refine(bw_write _ _ _ _ _ HId.out (by show(Lib.itoa s.id).length+2≤_;omega) (by omega)).mono ?_
 rintro e we ⟨rfl,hie,hbe⟩
 have HIe:=Lib.hid (show IsB (w.heap.size+1) (w.heap.size+1) (Lib.itoa s.id++ [32,100]) we from hie)
 have HBc2:=Lib.hid (HBc.out.trans hbe)
 have hze:=hbe.size
 clear HBc hie hbe d0 d2 d3
 have HBc:=HBc2
 clear HBc2
 obtain⟨acc,hacc⟩: ∃acc,Lib.itoa s.id++ [32,100]=acc:=⟨_,rfl⟩
 have HLEN:Hid (acc.length+s.hints.length*22≤50000000):=Lib.hid (by rw[←hacc];simp only[List.length_append,List.length_cons,List.length_nil];omega)
 rw[hacc]at HIe
 have HACC:=Lib.hid hacc
 clear hacc
 have d3:we.cell? ⟨w.heap.size,3,none⟩=some (.slice A' s.hints.length c'):=(HBc.out.cell (p:=⟨w.heap.size,3,none⟩) (Nat.lt_succ_self _)).trans b3
 go_wp2_with fail
 go_loopw [33] (fun i wr=> ∃k:Nat,k≤s.hints.length∧i= .int .i64 k∧Hid (IsB (w.heap.size+1) (w.heap.size+1) (acc++numsT (s.hints.take k)) wr)∧Hid (Below (w.heap.size+1) wb wr)) (fun i _=>s.hints.length-(intOf i).toNat)
 case atStart=>exact⟨0,Nat.zero_le _,rfl,Lib.hid (by simpa [numsT] using HIe.out),HBc⟩
 case round=>
  obtain⟨k,hk,rfl,HIB,HBr⟩:=hrel
  have hzr:=HBr.out.size
  have hzb:=HWS.out
  by_cases hlt:k<s.hints.length
  ·obtain⟨x,hxk⟩:=getElem_of hlt
   obtain⟨g,o,hgo,hg,_,d0⟩:=HX2.out k x hxk
   subst hgo
   have d1:wr.cell? ⟨g,o+k,none⟩=some (.int .i64 x):=(HBr.out.cell (p:=⟨g,o+k,none⟩) (by simp;omega)).trans ((HWB.out.cell (p:=⟨g,o+k,none⟩) hg).trans d0)
   have hrx:=HRh.out x (List.mem_of_getElem? hxk)
   have hta:=HTB.out.below HBr.out (by have:=HT.out.lt;omega)
   have hlen:(acc++numsT (s.hints.take k)).length≤100000000:=by
    have h1:=numsT_len (s.hints.take k) (fun y hy=>HRh.out y (List.mem_of_mem_take hy))
    have h2:(s.hints.take k).length≤s.hints.length:=by rw[List.length_take];omega
    have h3:=HLEN.out
    simp only[List.length_append]at h1 h2 h3⊢
    omega
   have HX:=Lib.hid hxk
   have HRX:=Lib.hid hrx
   have HTA:=Lib.hid hta
   have HLN:=Lib.hid hlen
   clear hxk d0 hrx hta hlen
   go_wp2_with fail
   refine(line_add x _ _ _ _ HIB.out HLN.out (by omega) HRX.out HTA.out).mono ?_
   rintro e wz ⟨⟨vz,rfl⟩,hbz,hbl⟩
   have HBZ:=Lib.hid hbz
   have HBL:=Lib.hid hbl
   clear hbz hbl
   go_wp2_with fail
   go_roundw
   case rel=>exact⟨k+1,by omega,by go_num,Lib.hid (by rw[numsT_take _ _ _ HX.out,←List.append_assoc];exact HBZ.out),Lib.hid (HBr.out.trans HBL.out)⟩
   case measure=>simp[intOf];omega
  ·obtain rfl:k=s.hints.length:=by omega
   have HI1:=HIB
   rw[List.take_length]at HI1
   have hl1:(acc++numsT s.hints).length≤100000000:=by
    have h1:=numsT_len s.hints HRh.out
    have h3:=HLEN.out
    simp only[List.length_append]
    omega
   have HL1:=Lib.hid hl1
   have hta:=HTB.out.below HBr.out (by have:=HT.out.lt;omega)
   have HTA:=Lib.hid hta
   clear hta hl1
   go_wp2_with fail
   refine(line_add 0 _ _ _ _ HI1.out HL1.out (by omega) ⟨by decide,by decide⟩ HTA.out).mono ?_
   rintro e wf ⟨⟨vz,rfl⟩,hif,hbf⟩
   have HF:=Lib.hid hif
   have HBF:=Lib.hid (HBr.out.trans hbf)
   have hzf:=hbf.size
   clear hif hbf HBr HIB HI1
   go_wp2_with fail
   refine(bw_string _ _ _ _ HF.out (by omega)).mono ?_
   rintro e wg ⟨rfl,hbg⟩
   have HBG:=Lib.hid hbg
   clear hbg
   go_wp2_with fail
   go_ret
   refine⟨?_,HWB.out.trans ((HBF.out.trans HBG.out).mono (by omega))⟩
   rw[←HACC.out]
   simp[stepT,HSd.out]
set_option maxRecDepth 100000 in
set_option maxHeartbeats 2000000 in
theorem line_false {O O':Nat→Prop} (s:EStep) (lv hv:Value) (w:World) (hs:StepOk s) (hd:s.del=false) (hl:IntsIn O w lv s.lits) (hh:IntsIn O' w hv s.hints) (ht:TabW w):
  Calls Tryz.prog 69 #[.agg #[.bool false,.int .i64 s.id,lv,hv]] w fun e w'=>e= .returned (.string ⟨(stepT s).toArray⟩)∧Below w.heap.size w w':=by
 obtain⟨r1,r2,r3,r4⟩:=stepOk_rng hs
 have hil:=Lib.itoa_length_le s.id r1.1 r1.2
 have hhl:=hs.len
 have HSd:=Lib.hid hd
 have HRid:=Lib.hid r1
 have HRl:=Lib.hid r2
 have HRh:=Lib.hid r3
 have HT:=Lib.hid ht
 obtain⟨A,c,rfl,hcc,_,hx1⟩:=hl
 obtain⟨A',c',rfl,hcc',_,hx2⟩:=hh
 have HX1:=Lib.hid hx1
 have HX2:=Lib.hid hx2
 clear hs hd r1 r2 r3 ht hx1 hx2
 go_enter Tryz.func69,Tryz.ntmps69
 go_wp2_with fail
 obtain⟨wb,hwb⟩: ∃wb,(w.alloc (.cells #[.bool false,.int .i64 s.id,.slice A s.lits.length c,.slice A' s.hints.length c'] 41)).alloc (.cells #[.pointer none,.slice none 0 0] 119)=wb:=⟨_,rfl⟩
 have hB:Below w.heap.size w wb:=by rw[←hwb];exact((Below.refl _ _).alloc (Nat.le_refl _) _).alloc (by simp) _
 have hS:wb.heap.size=w.heap.size+2:=by rw[←hwb];simp
 have hI:IsB (w.heap.size+1) (w.heap.size+1) [] wb:=by
  have:=IsB.new (w.heap.size+1) (w.alloc (.cells #[.bool false,.int .i64 s.id,.slice A s.lits.length c,.slice A' s.hints.length c'] 41)) (by simp)
  rw[World.size_alloc]at this
  rw[←hwb];exact this
 have hcell: ∀j,j<4→wb.cell? ⟨w.heap.size,j,none⟩= #[.bool false,.int .i64 s.id,.slice A s.lits.length c,.slice A' s.hints.length c'][j]? :=fun j _=>by
  rw[←hwb,((Below.refl (w.heap.size+1) _).alloc (by simp) _).cell (p:=⟨w.heap.size,j,none⟩) (Nat.lt_succ_self _)]
  exact cell_new _ _ _ _
 have b0:wb.cell? ⟨w.heap.size,0,none⟩=some (.bool false):=hcell 0 (by omega)
 have b1:wb.cell? ⟨w.heap.size,1,none⟩=some (.int .i64 s.id):=hcell 1 (by omega)
 have b2:wb.cell? ⟨w.heap.size,2,none⟩=some (.slice A s.lits.length c):=hcell 2 (by omega)
 have b3:wb.cell? ⟨w.heap.size,3,none⟩=some (.slice A' s.hints.length c'):=hcell 3 (by omega)
 rw[hwb]
 have HTB:=Lib.hid (HT.out.below hB HT.out.lt)
 have HWB:=Lib.hid hB
 have HWS:=Lib.hid hS
 have HI:=Lib.hid hI
 clear hwb hB hS hI hcell
 refine(itoa_any s.id _ HRid.out HTB.out).mono ?_
 rintro e wc ⟨rfl,hbc⟩
 have hzw:=HWS.out
 have hzc:=hbc.size
 have HBC:=Lib.hid hbc
 clear hbc
 go_wp2_with fail
 refine(bw_write _ _ _ _ _ (HI.out.kept HBC.out) (by show [].length+(Lib.itoa s.id).length≤_;simp only[List.length_nil];omega) (by omega)).mono ?_
 rintro e wd ⟨rfl,hid,hbd⟩
 have hzd:=hbd.size
 have HBc:=Lib.hid (show Below (w.heap.size+1) wb wd from(HBC.out.mono (by omega)).trans hbd)
 have HId:=Lib.hid (show IsB (w.heap.size+1) (w.heap.size+1) (Lib.itoa s.id) wd from hid)
 clear hid hbd HBC
 have d0:wd.cell? ⟨w.heap.size,0,none⟩=some (.bool false):=(HBc.out.cell (p:=⟨w.heap.size,0,none⟩) (Nat.lt_succ_self _)).trans b0
 have d2:wd.cell? ⟨w.heap.size,2,none⟩=some (.slice A s.lits.length c):=(HBc.out.cell (p:=⟨w.heap.size,2,none⟩) (Nat.lt_succ_self _)).trans b2
 have d3:wd.cell? ⟨w.heap.size,3,none⟩=some (.slice A' s.hints.length c'):=(HBc.out.cell (p:=⟨w.heap.size,3,none⟩) (Nat.lt_succ_self _)).trans b3
 go_wp2_with fail
 obtain⟨acc,hacc⟩: ∃acc,Lib.itoa s.id=acc:=⟨_,rfl⟩
 have HLEN:Hid (acc.length+s.lits.length*22≤1000000):=Lib.hid (by rw[←hacc];omega)
 rw[hacc]at HId
 have HACC:=Lib.hid hacc
 clear hacc
 go_loopw [20] (fun i wr=> ∃k:Nat,k≤s.lits.length∧i= .int .i64 k∧Hid (IsB (w.heap.size+1) (w.heap.size+1) (acc++numsT (s.lits.take k)) wr)∧Hid (Below (w.heap.size+1) wb wr)) (fun i _=>s.lits.length-(intOf i).toNat)
 case atStart=>exact⟨0,Nat.zero_le _,rfl,Lib.hid (by simpa [numsT] using HId.out),HBc⟩
 case round=>
  obtain⟨k,hk,rfl,HIB,HBr⟩:=hrel
  have hzr:=HBr.out.size
  have hzb:=HWS.out
  by_cases hlt:k<s.lits.length
  ·obtain⟨x,hxk⟩:=getElem_of hlt
   obtain⟨g,o,hgo,hg,_,d0⟩:=HX1.out k x hxk
   subst hgo
   have d1:wr.cell? ⟨g,o+k,none⟩=some (.int .i64 x):=(HBr.out.cell (p:=⟨g,o+k,none⟩) (by simp;omega)).trans ((HWB.out.cell (p:=⟨g,o+k,none⟩) hg).trans d0)
   have hrx:=HRl.out x (List.mem_of_getElem? hxk)
   have hta:=HTB.out.below HBr.out (by have:=HT.out.lt;omega)
   have hlen:(acc++numsT (s.lits.take k)).length≤100000000:=by
    have h1:=numsT_len (s.lits.take k) (fun y hy=>HRl.out y (List.mem_of_mem_take hy))
    have h2:(s.lits.take k).length≤s.lits.length:=by rw[List.length_take];omega
    have h3:=HLEN.out
    simp only[List.length_append]at h1 h2 h3⊢
    omega
   have HX:=Lib.hid hxk
   have HRX:=Lib.hid hrx
   have HTA:=Lib.hid hta
   have HLN:=Lib.hid hlen
   clear hxk d0 hrx hta hlen
   go_wp2_with fail
   refine(line_add x _ _ _ _ HIB.out HLN.out (by omega) HRX.out HTA.out).mono ?_
   rintro e wz ⟨⟨vz,rfl⟩,hbz,hbl⟩
   have HBZ:=Lib.hid hbz
   have HBL:=Lib.hid hbl
   clear hbz hbl
   go_wp2_with fail
   go_roundw
   case rel=>exact⟨k+1,by omega,by go_num,Lib.hid (by rw[numsT_take _ _ _ HX.out,←List.append_assoc];exact HBZ.out),Lib.hid (HBr.out.trans HBL.out)⟩
   case measure=>simp[intOf];omega
  ·obtain rfl:k=s.lits.length:=by omega
   have HI1:=HIB
   rw[List.take_length]at HI1
   have hl1:(acc++numsT s.lits).length≤100000000:=by
    have h1:=numsT_len s.lits HRl.out
    have h3:=HLEN.out
    simp only[List.length_append]
    omega
   have HL1:=Lib.hid hl1
   have hta:=HTB.out.below HBr.out (by have:=HT.out.lt;omega)
   have HTA:=Lib.hid hta
   clear hta hl1
   go_wp2_with fail
   refine(line_add 0 _ _ _ _ HI1.out HL1.out (by omega) ⟨by decide,by decide⟩ HTA.out).mono ?_
   rintro e we ⟨⟨vz,rfl⟩,hie,hbe⟩
   have HBc2:=Lib.hid (HBr.out.trans hbe)
   have HIe2:=Lib.hid hie
   have hze:=hbe.size
   clear HBc HBr hie hbe d0 d2 d3 HIB HI1
   have HBc:=HBc2
   clear HBc2
   have HLEN2:Hid ((acc++numsT s.lits++numT 0).length+s.hints.length*22≤50000000):=Lib.hid (by
    have h1:=numsT_len s.lits HRl.out
    have h2:=numT_len 0 ⟨by decide,by decide⟩
    have h3:=HLEN.out
    simp only[List.length_append]at h3⊢
    omega)
   clear HLEN
   have HLEN:=HLEN2
   clear HLEN2
   obtain⟨acc2,hacc2⟩: ∃acc2,acc++numsT s.lits++numT 0=acc2:=⟨_,rfl⟩
   rw[hacc2]at HIe2 HLEN
   have HACC2:=Lib.hid hacc2
   have HIe:=HIe2
   clear hacc2 HIe2
   have d3:we.cell? ⟨w.heap.size,3,none⟩=some (.slice A' s.hints.length c'):=(HBc.out.cell (p:=⟨w.heap.size,3,none⟩) (Nat.lt_succ_self _)).trans b3
   go_wp2_with fail
   go_loopw [33] (fun i wr=> ∃k:Nat,k≤s.hints.length∧i= .int .i64 k∧Hid (IsB (w.heap.size+1) (w.heap.size+1) (acc2++numsT (s.hints.take k)) wr)∧Hid (Below (w.heap.size+1) wb wr)) (fun i _=>s.hints.length-(intOf i).toNat)
   case atStart=>exact⟨0,Nat.zero_le _,rfl,Lib.hid (by simpa [numsT] using HIe.out),HBc⟩
   case round=>
    obtain⟨k,hk,rfl,HIB,HBr⟩:=hrel
    have hzr:=HBr.out.size
    have hzb:=HWS.out
    by_cases hlt:k<s.hints.length
    ·obtain⟨x,hxk⟩:=getElem_of hlt
     obtain⟨g,o,hgo,hg,_,d0⟩:=HX2.out k x hxk
     subst hgo
     have d1:wr.cell? ⟨g,o+k,none⟩=some (.int .i64 x):=(HBr.out.cell (p:=⟨g,o+k,none⟩) (by simp;omega)).trans ((HWB.out.cell (p:=⟨g,o+k,none⟩) hg).trans d0)
     have hrx:=HRh.out x (List.mem_of_getElem? hxk)
     have hta:=HTB.out.below HBr.out (by have:=HT.out.lt;omega)
     have hlen:(acc2++numsT (s.hints.take k)).length≤100000000:=by
      have h1:=numsT_len (s.hints.take k) (fun y hy=>HRh.out y (List.mem_of_mem_take hy))
      have h2:(s.hints.take k).length≤s.hints.length:=by rw[List.length_take];omega
      have h3:=HLEN.out
      simp only[List.length_append]at h1 h2 h3⊢
      omega
     have HX:=Lib.hid hxk
     have HRX:=Lib.hid hrx
     have HTA:=Lib.hid hta
     have HLN:=Lib.hid hlen
     clear hxk d0 hrx hta hlen
     go_wp2_with fail
     refine(line_add x _ _ _ _ HIB.out HLN.out (by omega) HRX.out HTA.out).mono ?_
     rintro e wz ⟨⟨vz,rfl⟩,hbz,hbl⟩
     have HBZ:=Lib.hid hbz
     have HBL:=Lib.hid hbl
     clear hbz hbl
     go_wp2_with fail
     go_roundw
     case rel=>exact⟨k+1,by omega,by go_num,Lib.hid (by rw[numsT_take _ _ _ HX.out,←List.append_assoc];exact HBZ.out),Lib.hid (HBr.out.trans HBL.out)⟩
     case measure=>simp[intOf];omega
    ·obtain rfl:k=s.hints.length:=by omega
     have HI1:=HIB
     rw[List.take_length]at HI1
     have hl1:(acc2++numsT s.hints).length≤100000000:=by
      have h1:=numsT_len s.hints HRh.out
      have h3:=HLEN.out
      simp only[List.length_append]
      omega
     have HL1:=Lib.hid hl1
     have hta:=HTB.out.below HBr.out (by have:=HT.out.lt;omega)
     have HTA:=Lib.hid hta
     clear hta hl1
     go_wp2_with fail
     refine(line_add 0 _ _ _ _ HI1.out HL1.out (by omega) ⟨by decide,by decide⟩ HTA.out).mono ?_
     rintro e wf ⟨⟨vz,rfl⟩,hif,hbf⟩
     have HF:=Lib.hid hif
     have HBF:=Lib.hid (HBr.out.trans hbf)
     have hzf:=hbf.size
     clear hif hbf HBr HIB HI1
     go_wp2_with fail
     refine(bw_string _ _ _ _ HF.out (by omega)).mono ?_
     rintro e wg ⟨rfl,hbg⟩
     have HBG:=Lib.hid hbg
     clear hbg
     go_wp2_with fail
     go_ret
     refine⟨?_,HWB.out.trans ((HBF.out.trans HBG.out).mono (by omega))⟩
     rw[←HACC2.out,←HACC.out]
     simp[stepT,HSd.out]
theorem line_any {O O':Nat→Prop} (s:EStep) (lv hv:Value) (w:World) (hs:StepOk s) (hl:IntsIn O w lv s.lits) (hh:IntsIn O' w hv s.hints) (ht:TabW w):
  Calls Tryz.prog 69 #[.agg #[.bool s.del,.int .i64 s.id,lv,hv]] w fun e w'=>e= .returned (.string ⟨(stepT s).toArray⟩)∧Below w.heap.size w w':=by
 cases hd:s.del
 ·exact line_false s lv hv w hs hd hl hh ht
 ·exact line_true s lv hv w hs hd hl hh ht
end Go.Proofs.YtcbjjdpngeabgaaGreatDoor
namespace Go.Proofs.YtcbjjdpngeabgaaGreatDoor
open Go.RowKit
def proofT (l:List EStep):List UInt8:=l.flatMap fun s=>stepT s++ [10]
theorem proofT_take (l:List EStep) (k:Nat) (s:EStep) (h:l[k]? =some s):proofT (l.take (k+1))=proofT (l.take k)++(stepT s++ [10]):=by
 rw[proofT,proofT,List.take_add_one,h,List.flatMap_append]
 simp
theorem proofT_le (l:List EStep) (k:Nat):(proofT (l.take k)).length≤(proofT l).length:=by
 have:proofT l=proofT (l.take k)++proofT (l.drop k):=by
  rw[proofT,proofT,proofT,←List.flatMap_append,List.take_append_drop]
 rw[this,List.length_append]
 omega
set_option maxRecDepth 100000 in
set_option maxHeartbeats 2000000 in
theorem write_ok {O:Nat→Prop} (v:Value) (l:List EStep) (ms:List MStep) (w:World) (h:StepsAt O w v l ms) (hp:ProofOk l) (ht:TabW w) (hlen:(proofT l).length≤16777216):
  Calls Tryz.prog 41 #[v] w fun e w'=>e= .returned (.tuple #[.string ⟨(proofT l).toArray⟩,.int .i64 (-1),.int .i64 0])∧Below w.heap.size w w':=by
 have hms:ms.length=l.length:=by rw[←h.steps,List.length_map]
 have hml:ms.length≤262144:=by have:=hp.len;omega
 have HC:=Lib.hid (check_ok v l ms w h hp)
 obtain⟨As,cs,rfl,hcs⟩:=own_slice h.row
 have H:=Lib.hid h
 have HP:=Lib.hid hp
 have HM:=Lib.hid hms
 have HT:=Lib.hid ht
 clear h hp hms ht
 go_enter Tryz.func41,Tryz.ntmps41
 go_wp2_with fail
 refine HC.out.mono ?_
 rintro e w1 ⟨rfl,hb1⟩
 have hz1:=hb1.size
 have HB1:=Lib.hid hb1
 clear hb1
 go_wp2_with fail
 obtain⟨wb,hwb⟩: ∃wb,w1.alloc (.cells #[.pointer none,.slice none 0 0] 119)=wb:=⟨_,rfl⟩
 have hB:Below w1.heap.size w1 wb:=by rw[←hwb];exact(Below.refl _ _).alloc (Nat.le_refl _) _
 have hS:wb.heap.size=w1.heap.size+1:=by rw[←hwb];simp
 have hI:IsB w1.heap.size w1.heap.size [] wb:=by rw[←hwb];exact IsB.new _ _ (Nat.le_refl _)
 rw[hwb]
 have HWB:=Lib.hid (HB1.out.trans (hB.mono hz1))
 have HWS:=Lib.hid hS
 have HI:=Lib.hid hI
 clear hwb hB hS hI
 go_loopw [21] (fun i wr=> ∃k:Nat,k≤ms.length∧i= .int .i64 k∧Hid (IsB w1.heap.size w1.heap.size (proofT (l.take k)) wr)∧Hid (Below w1.heap.size wb wr)) (fun i _=>ms.length-(intOf i).toNat)
 case atStart=>exact⟨0,Nat.zero_le _,rfl,HI,Lib.hid (Below.refl _ _)⟩
 case round=>
  obtain⟨k,hk,rfl,HIB,HBr⟩:=hrel
  have hzr:=HBr.out.size
  have hzb:=HWS.out
  have hbW:Below w.heap.size w wr:=HWB.out.trans (HBr.out.mono hz1)
  by_cases hlt:k<ms.length
  ·obtain⟨m,g,hm,hl,hat,⟨c,hv⟩,hg,c0,c1,c2,c3⟩:=step_cells H.out hlt
   simp only[Value.slice.injEq]at hv
   obtain⟨rfl,_,rfl⟩:=hv
   have d0:wr.cell? ⟨g,k*4,none⟩=some (.bool m.s.del):=(hbW.cell (p:=⟨g,k*4,none⟩) hg).trans c0
   have d1:wr.cell? ⟨g,k*4+1,none⟩=some (.int .i64 m.s.id):=(hbW.cell (p:=⟨g,k*4+1,none⟩) hg).trans c1
   have d2:wr.cell? ⟨g,k*4+2,none⟩=some m.lv:=(hbW.cell (p:=⟨g,k*4+2,none⟩) hg).trans c2
   have d3:wr.cell? ⟨g,k*4+3,none⟩=some m.hv:=(hbW.cell (p:=⟨g,k*4+3,none⟩) hg).trans c3
   have hso:=HP.out.each _ (List.mem_of_getElem? hl)
   obtain⟨A1,k1,hlv,_⟩:=own_slice hat.lits
   obtain⟨A2,k2,hhv,_⟩:=own_slice hat.hints
   rw[hlv]at d2
   rw[hhv]at d3
   have hIL: ∀w',Below w.heap.size w w'→IntsIn (fun _=>True) w' (.slice A1 m.s.lits.length k1) m.s.lits:=fun w' hb=>by rw[←hlv];exact((IntsIn.of_own hat.lits).below hb).mono (fun _ _=>trivial)
   have hIH: ∀w',Below w.heap.size w w'→IntsIn (fun _=>True) w' (.slice A2 m.s.hints.length k2) m.s.hints:=fun w' hb=>by rw[←hhv];exact((IntsIn.of_own hat.hints).below hb).mono (fun _ _=>trivial)
   have hpt:=proofT_take l k m.s hl
   have hple:(proofT (l.take (k+1))).length≤16777216:=Nat.le_trans (proofT_le _ _) hlen
   have hpl2:(proofT (l.take k)).length+((stepT m.s).length+1)≤16777216:=by
    rw[hpt]at hple
    simpa [List.length_append,Nat.add_assoc] using hple
   have hsl:(stepT m.s).length≤16777216:=by omega
   have HIL:=Lib.hid hIL
   have HIH:=Lib.hid hIH
   have HSO:=Lib.hid hso
   have HPT:=Lib.hid hpt
   have HPL:=Lib.hid hpl2
   have hpd:decide ((16777216:Int)<(((proofT (l.take (k+1))).length:Nat):Int))=false:=by simp;omega
   have hpd2:decide (16777216<(proofT (l.take (k+1))).length)=false:=by simp;omega
   have HBW:=Lib.hid hbW
   clear c0 c1 c2 c3 hat hso hl hlv hhv hIL hIH hpt hple hpl2 hm hbW
   go_wp2_with fail
   obtain⟨wa,hwa⟩: ∃wa,wr.alloc (.cells #[.bool m.s.del,.int .i64 m.s.id,.slice A1 m.s.lits.length k1,.slice A2 m.s.hints.length k2] 41)=wa:=⟨_,rfl⟩
   have hwb2:Below wr.heap.size wr wa:=by rw[←hwa];exact(Below.refl _ _).alloc (Nat.le_refl _) _
   rw[hwa]
   have hwB:Below w.heap.size w wa:=HBW.out.trans (hwb2.mono HBW.out.size)
   have hza:=hwb2.size
   have HWA:=Lib.hid hwb2
   have HWB2:=Lib.hid hwB
   clear hwa hwb2 hwB d0 d1 d2 d3
   refine(line_any m.s _ _ _ HSO.out (HIL.out _ HWB2.out) (HIH.out _ HWB2.out) (HT.out.below HWB2.out HT.out.lt)).mono ?_
   rintro e w2 ⟨rfl,hb2⟩
   have hz2:=hb2.size
   have hi2:IsB w1.heap.size w1.heap.size (proofT (l.take k)) w2:=HIB.out.kept (HWA.out.trans (hb2.mono hza))
   have HI2:=Lib.hid hi2
   have HB2:=Lib.hid hb2
   clear hi2 hb2
   go_wp2_with fail
   refine(bw_write _ _ _ _ _ HI2.out (by rw[ba_size _ [10]];have:=HPL.out;simp only[List.length_cons,List.length_nil];omega) (by omega)).mono ?_
   rintro e w3 ⟨rfl,hi3,hb3⟩
   have hz3:=hb3.size
   have hi3':IsB w1.heap.size w1.heap.size (proofT (l.take (k+1))) w3:=by rw[HPT.out];simpa using hi3
   have HI3:=Lib.hid hi3'
   have HB3:=Lib.hid hb3
   clear hi3 hb3 hi3'
   go_wp2_with fail
   refine(bw_len _ _ _ _ HI3.out).mono ?_
   rintro e w4 ⟨rfl,rfl⟩
   go_wp2_with fail
   go_roundw
   case rel=>
    exact⟨k+1,by omega,by go_num,HI3,Lib.hid (HBr.out.trans (((HWA.out.mono (by omega)).trans (HB2.out.mono (by omega))).trans HB3.out))⟩
   case measure=>simp[intOf];omega
  ·obtain rfl:k=ms.length:=by omega
   have HI1:=HIB
   rw[HM.out,List.take_length]at HI1
   go_wp2_with fail
   refine(bw_string _ _ _ _ HI1.out (by omega)).mono ?_
   rintro e wg ⟨rfl,hbg⟩
   have HBG:=Lib.hid hbg
   have HBW:=Lib.hid hbW
   clear hbg hbW
   go_wp2_with fail
   go_ret3
   exact⟨rfl,HBW.out.trans (HBG.out.mono (by omega))⟩
theorem log_text {O:Nat→Prop} (b:Nat) (L:ELog) (w:World) (h:LogAt O w b L) (hp:ProofOk L.steps) (ht:TabW w) (hlen:(proofT L.steps).length≤16777216):
  Calls Tryz.prog 22 #[.pointer (some ⟨b,0,none⟩)] w fun e w'=>e= .returned (.tuple #[.string ⟨(proofT L.steps).toArray⟩,.int .i64 0])∧Below w.heap.size w w':=by
 obtain⟨mb,sv,ms,h⟩:=h
 obtain⟨c0,c1,c2,c3,c4⟩:=h.cells
 have HW:=Lib.hid (write_ok sv L.steps ms w ⟨h.row,h.steps,h.each⟩ hp ht hlen)
 obtain⟨As,cs,rfl,hcs⟩:=own_slice h.row
 clear h c0 c1 c2 c4 hp ht hlen
 go_enter Tryz.func22,Tryz.ntmps22
 go_wp2_with fail
 refine HW.out.mono ?_
 rintro e w1 ⟨rfl,hb1⟩
 have HB:=Lib.hid hb1
 clear hb1
 go_wp2_with fail
 go_ret2
 exact⟨rfl,HB.out⟩
end Go.Proofs.YtcbjjdpngeabgaaGreatDoor
namespace Go.Proofs.YtcbjjdpngeabgaaGreatDoor
open Go.RowKit
theorem mx_cell {w:World} {b j:Nat} {cs:Array Value} {t:TypeId} {fz:Nat×Nat} (h:w.heap[b]? =some (.cells cs t fz)):w.cell? ⟨b,j,none⟩=cs[j]? :=by
 simp[World.cell?,h]
theorem mx_set {w:World} {b j:Nat} {cs:Array Value} {t:TypeId} {fz:Nat×Nat} (h:w.heap[b]? =some (.cells cs t fz)) (v:Value):(w.setCell ⟨b,j,none⟩ v).heap[b]? =some (.cells (cs.setIfInBounds j v) t fz):=by
 unfold World.setCell
 simp only[Array.getElem?_modify]
 rw[h]
 simp
theorem mx_slice {w:World} {base size n:Nat} {e:TypeId} {v:Value} {xs:List Value} (h:w.ownsRow base e size v n xs): ∃A c,v= .slice A n c∧n≤c:=by
 rcases h.2 with⟨rfl,rfl⟩|⟨g,cap,cur,rfl,_,_,hle,_⟩
 ·exact⟨none,0,rfl,Nat.le_refl _⟩
 ·exact⟨_,cap,rfl,hle⟩
theorem mx_al (w:World) (o:Obj):Below w.heap.size w (w.alloc o):=(Below.refl _ _).alloc (Nat.le_refl _) _
theorem mx_drew (w:World):Below w.heap.size w w.drew:=(Below.refl _ _).drew
theorem mx_drewN (w:World) (n:Nat):Below w.heap.size w (w.drewN n):=⟨rfl,rfl,rfl,Nat.le_refl _,fun _ _=>rfl⟩
theorem mx_some {w:World} {base size n:Nat} {e:TypeId} {v:Value} {xs:List Value} (h:w.ownsRow base e size v n xs) (hn:0<n): ∃g c cs,v= .slice (some ⟨g,0,none⟩) n c∧n≤c∧base≤g∧g<w.heap.size∧w.heap[g]? =some (.cells cs e (0,0))∧cs.toList.take (n*size)=xs:=by
 rcases h.2 with⟨_,h0⟩|⟨g,cap,cur,hv,hb,hg,hle,_,_,hx⟩
 ·omega
 ·exact⟨g,cap,cur,hv,hle,hb,heap_lt hg,hg,hx⟩
theorem mx_at {w:World} {base size n c g j:Nat} {e:TypeId} {xs:List Value} {u:Value} (h:w.ownsRow base e size (.slice (some ⟨g,0,none⟩) n c) n xs) (hj:xs[j]? =some u):w.cell? ⟨g,j,none⟩=some u:=by
 rcases h.2 with⟨h0,_⟩|⟨g',cap,cur,hv,_,hg,_,_,_,hx⟩
 ·cases h0
 ·cases hv
  rw[mx_cell hg,←Array.getElem?_toList]
  rw[←hx,List.getElem?_take]at hj
  split at hj
  ·exact hj
  ·cases hj
theorem IntsIn.lt {O:Nat→Prop} {w:World} {v:Value} {xs:List Int} (h:IntsIn O w v xs):IntsIn (fun g=>O g∧g<w.heap.size) w v xs:=by
 obtain⟨A,c,hv,hc,hn,hx⟩:=h
 refine⟨A,c,hv,hc,hn,fun i x hi=>?_⟩
 obtain⟨g,o,h1,h2,h3,h4⟩:=hx i x hi
 exact⟨g,o,h1,h2,⟨h3,h2⟩,h4⟩
theorem mx_not {w:World} {base n size:Nat} {e T:TypeId} {v:Value} {xs:List Value} {b:Nat} {cs:Array Value} (h:w.ownsRow base e size v n xs) (hb:w.heap[b]? =some (.cells cs T (0,0))) (hT:T≠e):v.ownBlock≠some b:=by
 intro hg
 obtain⟨c',hc'⟩:=own_type h b hg
 rw[hb]at hc'
 cases hc'
 exact hT rfl
theorem mx_apart {w:World} {base n size base' n' size':Nat} {e e':TypeId} {v v':Value} {xs xs':List Value} (h:w.ownsRow base e size v n xs) (h':w.ownsRow base' e' size' v' n' xs') (he:e≠e') {g:Nat} (hg:v.ownBlock=some g):v'.ownBlock≠some g:=by
 obtain⟨c,hc⟩:=own_type h g hg
 exact mx_not h' hc he
end Go.Proofs.YtcbjjdpngeabgaaGreatDoor
