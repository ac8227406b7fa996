/- lratext.line. -/
import Derived.Test.YteigjcichmpejaaDoorV108
namespace Go.Proofs.YteigjcichmpejaaDoor
open Go.RowKit
theorem stepOk_rng {s:EStep} (h:StepOk s):Rng s.id∧(∀x∈s.lits,Rng x)∧(∀x∈s.hints,Rng x)∧s.lits.length≤4096:=by
 have h1:=h.lits
 unfold clauseB at h1
 rw[Bool.and_eq_true,decide_eq_true_eq]at h1
 refine⟨⟨by have:=h.id0;omega,by have:=h.id1;omega⟩,fun x hx=>?_,fun x hx=>?_,h1.1⟩
 ·have:=(litB_iff x).1 (List.all_eq_true.1 h1.2 x hx)
  exact⟨by omega,by omega⟩
 ·have:=h.hints x hx
  exact⟨by have:=this.1;omega,by have:=this.2;omega⟩
structure StepLn (s:EStep):Prop where
 id:Rng s.id
 lits: ∀x∈s.lits,Rng x
 hints: ∀x∈s.hints,Rng x
 llen:s.lits.length≤4096
 len:s.hints.length≤65536
theorem StepOk.ln {s:EStep} (h:StepOk s):StepLn s:=by
 obtain⟨r1,r2,r3,r4⟩:=stepOk_rng h
 exact⟨r1,r2,r3,r4,h.len⟩
set_option maxRecDepth 100000 in
set_option maxHeartbeats 2000000 in
theorem line_true {O O':Nat→Prop} (s:EStep) (lv hv:Value) (w:World) (hs:StepLn s) (hd:s.del=true) (hl:IntsIn O w lv s.lits) (hh:IntsIn O' w hv s.hints) (ht:TabW w):
  Calls Tryd.prog 43 #[.agg #[.bool true,.int .i64 s.id,lv,hv]] w fun e w'=>e= .returned (.string ⟨(stepT s).toArray⟩)∧Below w.heap.size w w':=by
 obtain⟨r1,r2,r3,r4,hlen0⟩:=hs
 have hil:=Lib.itoa_length_le s.id r1.1 r1.2
 have hhl:=hlen0
 have HSd:=Lib.hid hd
 have HRid:=Lib.hid r1
 have HRl:=Lib.hid r2
 have HRh:=Lib.hid r3
 have HT:=Lib.hid ht
 obtain⟨A,c,rfl,hcc,_,hx1⟩:=hl
 obtain⟨A',c',rfl,hcc',_,hx2⟩:=hh
 have HX1:=Lib.hid hx1
 have HX2:=Lib.hid hx2
 clear hlen0 hd r1 r2 r3 ht hx1 hx2
 go_enter Tryd.func43,Tryd.ntmps43
 go_wp2_with fail
 obtain⟨wb,hwb⟩: ∃wb,(w.alloc (.cells #[.bool true,.int .i64 s.id,.slice A s.lits.length c,.slice A' s.hints.length c'] 49)).alloc (.cells #[.pointer none,.slice none 0 0] 85)=wb:=⟨_,rfl⟩
 have hB:Below w.heap.size w wb:=by rw[←hwb];exact((Below.refl _ _).alloc (Nat.le_refl _) _).alloc (by simp) _
 have hS:wb.heap.size=w.heap.size+2:=by rw[←hwb];simp
 have hI:IsB (w.heap.size+1) (w.heap.size+1) [] wb:=by
  have:=IsB.new (w.heap.size+1) (w.alloc (.cells #[.bool true,.int .i64 s.id,.slice A s.lits.length c,.slice A' s.hints.length c'] 49)) (by simp)
  rw[World.size_alloc]at this
  rw[←hwb];exact this
 have hcell: ∀j,j<4→wb.cell? ⟨w.heap.size,j,none⟩= #[.bool true,.int .i64 s.id,.slice A s.lits.length c,.slice A' s.hints.length c'][j]? :=fun j _=>by
  rw[←hwb,((Below.refl (w.heap.size+1) _).alloc (by simp) _).cell (p:=⟨w.heap.size,j,none⟩) (Nat.lt_succ_self _)]
  exact cell_new _ _ _ _
 have b0:wb.cell? ⟨w.heap.size,0,none⟩=some (.bool true):=hcell 0 (by omega)
 have b1:wb.cell? ⟨w.heap.size,1,none⟩=some (.int .i64 s.id):=hcell 1 (by omega)
 have b2:wb.cell? ⟨w.heap.size,2,none⟩=some (.slice A s.lits.length c):=hcell 2 (by omega)
 have b3:wb.cell? ⟨w.heap.size,3,none⟩=some (.slice A' s.hints.length c'):=hcell 3 (by omega)
 rw[hwb]
 have HTB:=Lib.hid (HT.out.below hB HT.out.lt)
 have HWB:=Lib.hid hB
 have HWS:=Lib.hid hS
 have HI:=Lib.hid hI
 clear hwb hB hS hI hcell
 refine(itoa_any s.id _ HRid.out HTB.out).mono ?_
 rintro e wc ⟨rfl,hbc⟩
 have hzw:=HWS.out
 have hzc:=hbc.size
 have HBC:=Lib.hid hbc
 clear hbc
 go_wp2_with fail
 refine(bw_write _ _ _ _ _ (HI.out.kept HBC.out) (by show [].length+(Lib.itoa s.id).length≤_;simp only[List.length_nil];omega) (by omega)).mono ?_
 rintro e wd ⟨rfl,hid,hbd⟩
 have hzd:=hbd.size
 have HBc:=Lib.hid (show Below (w.heap.size+1) wb wd from(HBC.out.mono (by omega)).trans hbd)
 have HId:=Lib.hid (show IsB (w.heap.size+1) (w.heap.size+1) (Lib.itoa s.id) wd from hid)
 clear hid hbd HBC
 have d0:wd.cell? ⟨w.heap.size,0,none⟩=some (.bool true):=(HBc.out.cell (p:=⟨w.heap.size,0,none⟩) (Nat.lt_succ_self _)).trans b0
 have d2:wd.cell? ⟨w.heap.size,2,none⟩=some (.slice A s.lits.length c):=(HBc.out.cell (p:=⟨w.heap.size,2,none⟩) (Nat.lt_succ_self _)).trans b2
 have d3:wd.cell? ⟨w.heap.size,3,none⟩=some (.slice A' s.hints.length c'):=(HBc.out.cell (p:=⟨w.heap.size,3,none⟩) (Nat.lt_succ_self _)).trans b3
 go_wp2_with fail
 refine(bw_write _ _ _ _ _ HId.out (by show(Lib.itoa s.id).length+2≤_;omega) (by omega)).mono ?_
 rintro e we ⟨rfl,hie,hbe⟩
 have HIe:=Lib.hid (show IsB (w.heap.size+1) (w.heap.size+1) (Lib.itoa s.id++ [32,100]) we from hie)
 have HBc2:=Lib.hid (HBc.out.trans hbe)
 have hze:=hbe.size
 clear HBc hie hbe d0 d2 d3
 have HBc:=HBc2
 clear HBc2
 obtain⟨acc,hacc⟩: ∃acc,Lib.itoa s.id++ [32,100]=acc:=⟨_,rfl⟩
 have HLEN:Hid (acc.length+s.hints.length*22≤50000000):=Lib.hid (by rw[←hacc];simp only[List.length_append,List.length_cons,List.length_nil];omega)
 rw[hacc]at HIe
 have HACC:=Lib.hid hacc
 clear hacc
 have d3:we.cell? ⟨w.heap.size,3,none⟩=some (.slice A' s.hints.length c'):=(HBc.out.cell (p:=⟨w.heap.size,3,none⟩) (Nat.lt_succ_self _)).trans b3
 go_wp2_with fail
 go_loopw [33] (fun i wr=> ∃k:Nat,k≤s.hints.length∧i= .int .i64 k∧Hid (IsB (w.heap.size+1) (w.heap.size+1) (acc++numsT (s.hints.take k)) wr)∧Hid (Below (w.heap.size+1) wb wr)) (fun i _=>s.hints.length-(intOf i).toNat)
 case atStart=>exact⟨0,Nat.zero_le _,rfl,Lib.hid (by simpa [numsT] using HIe.out),HBc⟩
 case round=>
  obtain⟨k,hk,rfl,HIB,HBr⟩:=hrel
  have hzr:=HBr.out.size
  have hzb:=HWS.out
  by_cases hlt:k<s.hints.length
  ·obtain⟨x,hxk⟩:=getElem_of hlt
   obtain⟨g,o,hgo,hg,_,d0⟩:=HX2.out k x hxk
   subst hgo
   have d1:wr.cell? ⟨g,o+k,none⟩=some (.int .i64 x):=(HBr.out.cell (p:=⟨g,o+k,none⟩) (by simp;omega)).trans ((HWB.out.cell (p:=⟨g,o+k,none⟩) hg).trans d0)
   have hrx:=HRh.out x (List.mem_of_getElem? hxk)
   have hta:=HTB.out.below HBr.out (by have:=HT.out.lt;omega)
   have hlen:(acc++numsT (s.hints.take k)).length≤100000000:=by
    have h1:=numsT_len (s.hints.take k) (fun y hy=>HRh.out y (List.mem_of_mem_take hy))
    have h2:(s.hints.take k).length≤s.hints.length:=by rw[List.length_take];omega
    have h3:=HLEN.out
    simp only[List.length_append]at h1 h2 h3⊢
    omega
   have HX:=Lib.hid hxk
   have HRX:=Lib.hid hrx
   have HTA:=Lib.hid hta
   have HLN:=Lib.hid hlen
   clear hxk d0 hrx hta hlen
   go_wp2_with fail
   refine(line_add x _ _ _ _ HIB.out HLN.out (by omega) HRX.out HTA.out).mono ?_
   rintro e wz ⟨⟨vz,rfl⟩,hbz,hbl⟩
   have HBZ:=Lib.hid hbz
   have HBL:=Lib.hid hbl
   clear hbz hbl
   go_wp2_with fail
   go_roundw
   case rel=>exact⟨k+1,by omega,by go_num,Lib.hid (by rw[numsT_take _ _ _ HX.out,←List.append_assoc];exact HBZ.out),Lib.hid (HBr.out.trans HBL.out)⟩
   case measure=>simp[intOf];omega
  ·obtain rfl:k=s.hints.length:=by omega
   have HI1:=HIB
   rw[List.take_length]at HI1
   have hl1:(acc++numsT s.hints).length≤100000000:=by
    have h1:=numsT_len s.hints HRh.out
    have h3:=HLEN.out
    simp only[List.length_append]
    omega
   have HL1:=Lib.hid hl1
   have hta:=HTB.out.below HBr.out (by have:=HT.out.lt;omega)
   have HTA:=Lib.hid hta
   clear hta hl1
   go_wp2_with fail
   refine(line_add 0 _ _ _ _ HI1.out HL1.out (by omega) ⟨by decide,by decide⟩ HTA.out).mono ?_
   rintro e wf ⟨⟨vz,rfl⟩,hif,hbf⟩
   have HF:=Lib.hid hif
   have HBF:=Lib.hid (HBr.out.trans hbf)
   have hzf:=hbf.size
   clear hif hbf HBr HIB HI1
   go_wp2_with fail
   refine(bw_string _ _ _ _ HF.out (by omega)).mono ?_
   rintro e wg ⟨rfl,hbg⟩
   have HBG:=Lib.hid hbg
   clear hbg
   go_wp2_with fail
   go_ret
   refine⟨?_,HWB.out.trans ((HBF.out.trans HBG.out).mono (by omega))⟩
   rw[←HACC.out]
   simp[stepT,HSd.out]
set_option maxRecDepth 100000 in
set_option maxHeartbeats 2000000 in
theorem line_false {O O':Nat→Prop} (s:EStep) (lv hv:Value) (w:World) (hs:StepLn s) (hd:s.del=false) (hl:IntsIn O w lv s.lits) (hh:IntsIn O' w hv s.hints) (ht:TabW w):
  Calls Tryd.prog 43 #[.agg #[.bool false,.int .i64 s.id,lv,hv]] w fun e w'=>e= .returned (.string ⟨(stepT s).toArray⟩)∧Below w.heap.size w w':=by
 obtain⟨r1,r2,r3,r4,hlen0⟩:=hs
 have hil:=Lib.itoa_length_le s.id r1.1 r1.2
 have hhl:=hlen0
 have HSd:=Lib.hid hd
 have HRid:=Lib.hid r1
 have HRl:=Lib.hid r2
 have HRh:=Lib.hid r3
 have HT:=Lib.hid ht
 obtain⟨A,c,rfl,hcc,_,hx1⟩:=hl
 obtain⟨A',c',rfl,hcc',_,hx2⟩:=hh
 have HX1:=Lib.hid hx1
 have HX2:=Lib.hid hx2
 clear hlen0 hd r1 r2 r3 ht hx1 hx2
 go_enter Tryd.func43,Tryd.ntmps43
 go_wp2_with fail
 obtain⟨wb,hwb⟩: ∃wb,(w.alloc (.cells #[.bool false,.int .i64 s.id,.slice A s.lits.length c,.slice A' s.hints.length c'] 49)).alloc (.cells #[.pointer none,.slice none 0 0] 85)=wb:=⟨_,rfl⟩
 have hB:Below w.heap.size w wb:=by rw[←hwb];exact((Below.refl _ _).alloc (Nat.le_refl _) _).alloc (by simp) _
 have hS:wb.heap.size=w.heap.size+2:=by rw[←hwb];simp
 have hI:IsB (w.heap.size+1) (w.heap.size+1) [] wb:=by
  have:=IsB.new (w.heap.size+1) (w.alloc (.cells #[.bool false,.int .i64 s.id,.slice A s.lits.length c,.slice A' s.hints.length c'] 49)) (by simp)
  rw[World.size_alloc]at this
  rw[←hwb];exact this
 have hcell: ∀j,j<4→wb.cell? ⟨w.heap.size,j,none⟩= #[.bool false,.int .i64 s.id,.slice A s.lits.length c,.slice A' s.hints.length c'][j]? :=fun j _=>by
  rw[←hwb,((Below.refl (w.heap.size+1) _).alloc (by simp) _).cell (p:=⟨w.heap.size,j,none⟩) (Nat.lt_succ_self _)]
  exact cell_new _ _ _ _
 have b0:wb.cell? ⟨w.heap.size,0,none⟩=some (.bool false):=hcell 0 (by omega)
 have b1:wb.cell? ⟨w.heap.size,1,none⟩=some (.int .i64 s.id):=hcell 1 (by omega)
 have b2:wb.cell? ⟨w.heap.size,2,none⟩=some (.slice A s.lits.length c):=hcell 2 (by omega)
 have b3:wb.cell? ⟨w.heap.size,3,none⟩=some (.slice A' s.hints.length c'):=hcell 3 (by omega)
 rw[hwb]
 have HTB:=Lib.hid (HT.out.below hB HT.out.lt)
 have HWB:=Lib.hid hB
 have HWS:=Lib.hid hS
 have HI:=Lib.hid hI
 clear hwb hB hS hI hcell
 refine(itoa_any s.id _ HRid.out HTB.out).mono ?_
 rintro e wc ⟨rfl,hbc⟩
 have hzw:=HWS.out
 have hzc:=hbc.size
 have HBC:=Lib.hid hbc
 clear hbc
 go_wp2_with fail
 refine(bw_write _ _ _ _ _ (HI.out.kept HBC.out) (by show [].length+(Lib.itoa s.id).length≤_;simp only[List.length_nil];omega) (by omega)).mono ?_
 rintro e wd ⟨rfl,hid,hbd⟩
 have hzd:=hbd.size
 have HBc:=Lib.hid (show Below (w.heap.size+1) wb wd from(HBC.out.mono (by omega)).trans hbd)
 have HId:=Lib.hid (show IsB (w.heap.size+1) (w.heap.size+1) (Lib.itoa s.id) wd from hid)
 clear hid hbd HBC
 have d0:wd.cell? ⟨w.heap.size,0,none⟩=some (.bool false):=(HBc.out.cell (p:=⟨w.heap.size,0,none⟩) (Nat.lt_succ_self _)).trans b0
 have d2:wd.cell? ⟨w.heap.size,2,none⟩=some (.slice A s.lits.length c):=(HBc.out.cell (p:=⟨w.heap.size,2,none⟩) (Nat.lt_succ_self _)).trans b2
 have d3:wd.cell? ⟨w.heap.size,3,none⟩=some (.slice A' s.hints.length c'):=(HBc.out.cell (p:=⟨w.heap.size,3,none⟩) (Nat.lt_succ_self _)).trans b3
 go_wp2_with fail
 obtain⟨acc,hacc⟩: ∃acc,Lib.itoa s.id=acc:=⟨_,rfl⟩
 have HLEN:Hid (acc.length+s.lits.length*22≤1000000):=Lib.hid (by rw[←hacc];omega)
 rw[hacc]at HId
 have HACC:=Lib.hid hacc
 clear hacc
 go_loopw [20] (fun i wr=> ∃k:Nat,k≤s.lits.length∧i= .int .i64 k∧Hid (IsB (w.heap.size+1) (w.heap.size+1) (acc++numsT (s.lits.take k)) wr)∧Hid (Below (w.heap.size+1) wb wr)) (fun i _=>s.lits.length-(intOf i).toNat)
 case atStart=>exact⟨0,Nat.zero_le _,rfl,Lib.hid (by simpa [numsT] using HId.out),HBc⟩
 case round=>
  obtain⟨k,hk,rfl,HIB,HBr⟩:=hrel
  have hzr:=HBr.out.size
  have hzb:=HWS.out
  by_cases hlt:k<s.lits.length
  ·obtain⟨x,hxk⟩:=getElem_of hlt
   obtain⟨g,o,hgo,hg,_,d0⟩:=HX1.out k x hxk
   subst hgo
   have d1:wr.cell? ⟨g,o+k,none⟩=some (.int .i64 x):=(HBr.out.cell (p:=⟨g,o+k,none⟩) (by simp;omega)).trans ((HWB.out.cell (p:=⟨g,o+k,none⟩) hg).trans d0)
   have hrx:=HRl.out x (List.mem_of_getElem? hxk)
   have hta:=HTB.out.below HBr.out (by have:=HT.out.lt;omega)
   have hlen:(acc++numsT (s.lits.take k)).length≤100000000:=by
    have h1:=numsT_len (s.lits.take k) (fun y hy=>HRl.out y (List.mem_of_mem_take hy))
    have h2:(s.lits.take k).length≤s.lits.length:=by rw[List.length_take];omega
    have h3:=HLEN.out
    simp only[List.length_append]at h1 h2 h3⊢
    omega
   have HX:=Lib.hid hxk
   have HRX:=Lib.hid hrx
   have HTA:=Lib.hid hta
   have HLN:=Lib.hid hlen
   clear hxk d0 hrx hta hlen
   go_wp2_with fail
   refine(line_add x _ _ _ _ HIB.out HLN.out (by omega) HRX.out HTA.out).mono ?_
   rintro e wz ⟨⟨vz,rfl⟩,hbz,hbl⟩
   have HBZ:=Lib.hid hbz
   have HBL:=Lib.hid hbl
   clear hbz hbl
   go_wp2_with fail
   go_roundw
   case rel=>exact⟨k+1,by omega,by go_num,Lib.hid (by rw[numsT_take _ _ _ HX.out,←List.append_assoc];exact HBZ.out),Lib.hid (HBr.out.trans HBL.out)⟩
   case measure=>simp[intOf];omega
  ·obtain rfl:k=s.lits.length:=by omega
   have HI1:=HIB
   rw[List.take_length]at HI1
   have hl1:(acc++numsT s.lits).length≤100000000:=by
    have h1:=numsT_len s.lits HRl.out
    have h3:=HLEN.out
    simp only[List.length_append]
    omega
   have HL1:=Lib.hid hl1
   have hta:=HTB.out.below HBr.out (by have:=HT.out.lt;omega)
   have HTA:=Lib.hid hta
   clear hta hl1
   go_wp2_with fail
   refine(line_add 0 _ _ _ _ HI1.out HL1.out (by omega) ⟨by decide,by decide⟩ HTA.out).mono ?_
   rintro e we ⟨⟨vz,rfl⟩,hie,hbe⟩
   have HBc2:=Lib.hid (HBr.out.trans hbe)
   have HIe2:=Lib.hid hie
   have hze:=hbe.size
   clear HBc HBr hie hbe d0 d2 d3 HIB HI1
   have HBc:=HBc2
   clear HBc2
   have HLEN2:Hid ((acc++numsT s.lits++numT 0).length+s.hints.length*22≤50000000):=Lib.hid (by
    have h1:=numsT_len s.lits HRl.out
    have h2:=numT_len 0 ⟨by decide,by decide⟩
    have h3:=HLEN.out
    simp only[List.length_append]at h3⊢
    omega)
   clear HLEN
   have HLEN:=HLEN2
   clear HLEN2
   obtain⟨acc2,hacc2⟩: ∃acc2,acc++numsT s.lits++numT 0=acc2:=⟨_,rfl⟩
   rw[hacc2]at HIe2 HLEN
   have HACC2:=Lib.hid hacc2
   have HIe:=HIe2
   clear hacc2 HIe2
   have d3:we.cell? ⟨w.heap.size,3,none⟩=some (.slice A' s.hints.length c'):=(HBc.out.cell (p:=⟨w.heap.size,3,none⟩) (Nat.lt_succ_self _)).trans b3
   go_wp2_with fail
   go_loopw [33] (fun i wr=> ∃k:Nat,k≤s.hints.length∧i= .int .i64 k∧Hid (IsB (w.heap.size+1) (w.heap.size+1) (acc2++numsT (s.hints.take k)) wr)∧Hid (Below (w.heap.size+1) wb wr)) (fun i _=>s.hints.length-(intOf i).toNat)
   case atStart=>exact⟨0,Nat.zero_le _,rfl,Lib.hid (by simpa [numsT] using HIe.out),HBc⟩
   case round=>
    obtain⟨k,hk,rfl,HIB,HBr⟩:=hrel
    have hzr:=HBr.out.size
    have hzb:=HWS.out
    by_cases hlt:k<s.hints.length
    ·obtain⟨x,hxk⟩:=getElem_of hlt
     obtain⟨g,o,hgo,hg,_,d0⟩:=HX2.out k x hxk
     subst hgo
     have d1:wr.cell? ⟨g,o+k,none⟩=some (.int .i64 x):=(HBr.out.cell (p:=⟨g,o+k,none⟩) (by simp;omega)).trans ((HWB.out.cell (p:=⟨g,o+k,none⟩) hg).trans d0)
     have hrx:=HRh.out x (List.mem_of_getElem? hxk)
     have hta:=HTB.out.below HBr.out (by have:=HT.out.lt;omega)
     have hlen:(acc2++numsT (s.hints.take k)).length≤100000000:=by
      have h1:=numsT_len (s.hints.take k) (fun y hy=>HRh.out y (List.mem_of_mem_take hy))
      have h2:(s.hints.take k).length≤s.hints.length:=by rw[List.length_take];omega
      have h3:=HLEN.out
      simp only[List.length_append]at h1 h2 h3⊢
      omega
     have HX:=Lib.hid hxk
     have HRX:=Lib.hid hrx
     have HTA:=Lib.hid hta
     have HLN:=Lib.hid hlen
     clear hxk d0 hrx hta hlen
     go_wp2_with fail
     refine(line_add x _ _ _ _ HIB.out HLN.out (by omega) HRX.out HTA.out).mono ?_
     rintro e wz ⟨⟨vz,rfl⟩,hbz,hbl⟩
     have HBZ:=Lib.hid hbz
     have HBL:=Lib.hid hbl
     clear hbz hbl
     go_wp2_with fail
     go_roundw
     case rel=>exact⟨k+1,by omega,by go_num,Lib.hid (by rw[numsT_take _ _ _ HX.out,←List.append_assoc];exact HBZ.out),Lib.hid (HBr.out.trans HBL.out)⟩
     case measure=>simp[intOf];omega
    ·obtain rfl:k=s.hints.length:=by omega
     have HI1:=HIB
     rw[List.take_length]at HI1
     have hl1:(acc2++numsT s.hints).length≤100000000:=by
      have h1:=numsT_len s.hints HRh.out
      have h3:=HLEN.out
      simp only[List.length_append]
      omega
     have HL1:=Lib.hid hl1
     have hta:=HTB.out.below HBr.out (by have:=HT.out.lt;omega)
     have HTA:=Lib.hid hta
     clear hta hl1
     go_wp2_with fail
     refine(line_add 0 _ _ _ _ HI1.out HL1.out (by omega) ⟨by decide,by decide⟩ HTA.out).mono ?_
     rintro e wf ⟨⟨vz,rfl⟩,hif,hbf⟩
     have HF:=Lib.hid hif
     have HBF:=Lib.hid (HBr.out.trans hbf)
     have hzf:=hbf.size
     clear hif hbf HBr HIB HI1
     go_wp2_with fail
     refine(bw_string _ _ _ _ HF.out (by omega)).mono ?_
     rintro e wg ⟨rfl,hbg⟩
     have HBG:=Lib.hid hbg
     clear hbg
     go_wp2_with fail
     go_ret
     refine⟨?_,HWB.out.trans ((HBF.out.trans HBG.out).mono (by omega))⟩
     rw[←HACC2.out,←HACC.out]
     simp[stepT,HSd.out]
theorem line_any {O O':Nat→Prop} (s:EStep) (lv hv:Value) (w:World) (hs:StepLn s) (hl:IntsIn O w lv s.lits) (hh:IntsIn O' w hv s.hints) (ht:TabW w):
  Calls Tryd.prog 43 #[.agg #[.bool s.del,.int .i64 s.id,lv,hv]] w fun e w'=>e= .returned (.string ⟨(stepT s).toArray⟩)∧Below w.heap.size w w':=by
 cases hd:s.del
 ·exact line_false s lv hv w hs hd hl hh ht
 ·exact line_true s lv hv w hs hd hl hh ht
end Go.Proofs.YteigjcichmpejaaDoor
