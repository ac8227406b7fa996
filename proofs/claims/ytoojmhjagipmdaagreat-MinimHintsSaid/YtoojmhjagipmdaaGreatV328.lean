/- minim: start, Covered, Redundant, Shorten. -/
import Derived.Test.YtoojmhjagipmdaaGreatV326
namespace Go.Proofs.YtoojmhjagipmdaaGreat
open Go.RowKit
theorem cell_one15 (W:World) (u:Value) (t:TypeId): ∀j z,([u] :List Value)[j]? =some z→(W.alloc (.cells #[u] t)).cell? ((⟨W.heap.size,0,none⟩:Addr).add j)=some z:=cells_list_new W [u] t
theorem cov_all (a b mb:Nat) (A:Arn) (T:Trl) (its:List RIt) (Ac:Option Addr) (cc:Nat) (c:List Int) (B:Nat) (hs:Sim T its) (hBm:B≤1000000) (hcl:c.length≤4194304) (p:Nat):CovAt a b mb A T its Ac cc c B p:=by
 induction p using Nat.strongRecOn with
 | ind p ih=>exact cov_of_imp a b mb A T its Ac cc c B p hs hBm hcl (imp_of_cov a b mb A T its Ac cc c B p hs ih)
theorem imp_all (a b mb:Nat) (A:Arn) (T:Trl) (its:List RIt) (Ac:Option Addr) (cc:Nat) (c:List Int) (B:Nat) (hs:Sim T its) (hBm:B≤1000000) (hcl:c.length≤4194304) (p:Nat):ImpAt a b mb A T its Ac cc c B p:=
 imp_of_cov a b mb A T its Ac cc c B p hs (fun q _=>cov_all a b mb A T its Ac cc c B hs hBm hcl q)
theorem shor15_cons {A:Arn} {T:Trl} {c out r:List Int} {l:Int} {n:List Int} (h:(if out.contains l=false∧(c.head? =some l∨impl15 A T c (litV l)=false)then out++ [l]else out)=n):shor15 A T c out (l::r)=shor15 A T c n r:=by
 rw[←h]
 rfl
set_option maxRecDepth 100000 in
set_option maxHeartbeats 8000000 in
theorem mn_shorten (a b mb:Nat) (A:Arn) (T:Trl) (its:List RIt) (Ac:Option Addr) (cc:Nat) (c:List Int) (B:Nat) (w:World) (f:Int→Int) (kk:Nat) (hs:Sim T its) (hBm:B≤1000000) (hcl:c.length≤4194304) (hF: ∀l∈c,rVl its l<0) (hw:Wk w a b mb A T (.slice Ac c.length cc) c) (hm:MapAt w mb kk f) (hk:Kq A T its c f its.length) (hB:kk+2*zer its f≤B):
  Calls Tryz.prog 71 #[(.agg #[.pointer (some ⟨a,0,none⟩),.pointer (some ⟨b,0,none⟩),.slice Ac c.length cc,.map (some mb)])] w fun e w'=>(∃u',e= .returned u'∧w'.ownsRow w.heap.size 32 1 u' (short15 A T c).length ((short15 A T c).map (Value.int .i64)))∧Kept (fun g=>g=mb) w w':=by
 obtain⟨i0,hi0,hi1,hi2,hi3⟩:=info_parts ainfo_lit
 obtain⟨wa,hwa⟩: ∃z,w.alloc (.cells #[.pointer (some ⟨a,0,none⟩),.pointer (some ⟨b,0,none⟩),.slice Ac c.length cc,.map (some mb)] 123)=z:=⟨_,rfl⟩
 have hba:Below w.heap.size w wa:=by rw[←hwa];exact mx_al _ _
 have hbn:wa.heap[w.heap.size]? =some (.cells #[.pointer (some ⟨a,0,none⟩),.pointer (some ⟨b,0,none⟩),.slice Ac c.length cc,.map (some mb)] 123 (0,0)):=by rw[←hwa];exact World.alloc_heap_new _ _
 have HWK:=Lib.hid (hw.below hba)
 have HMA:=Lib.hid (hm.below hba)
 have HBA:=Lib.hid hba
 have HWA:=Lib.hid hwa
 have HBN:=Lib.hid hbn
 have HKN:=Lib.hid hk
 have HSI:=Lib.hid hs
 have HFF:=Lib.hid hF
 have hzw:=heap_lt hbn
 have hmb:=hm.lt
 have hnm:w.heap.size≠mb:=by omega
 have C0:=Lib.hid (mx_cell (j:=0) hbn)
 have C1:=Lib.hid (mx_cell (j:=1) hbn)
 have C2:=Lib.hid (mx_cell (j:=2) hbn)
 have C3:=Lib.hid (mx_cell (j:=3) hbn)
 have c2:=mx_cell (j:=2) hbn
 have HIMP:=Lib.hid (fun p x (hp:its[p]? =some x) w' f' k'=>imp_all a b mb A T its Ac cc c B hs hBm hcl p x hp w' f' k')
 obtain⟨SHR,hshr⟩: ∃z,short15 A T c=z:=⟨_,rfl⟩
 have HSHR:=Lib.hid (show shor15 A T c [] c=SHR from hshr)
 rw[hshr]
 clear hba hwa hbn hw hm hk hF hs hshr
 go_enter Tryz.func71,Tryz.ntmps71
 go_upto_region 2 with fail
 rw[HWA.out]
 go_wp2_with fail
 clear c2
 go_loopw [3,9] (fun ov iv wr=> ∃(j:Nat) (out:List Int) (g:Int→Int) (k:Nat),j≤c.length∧iv= .int .i64 j∧out.length≤j∧Hid (wr.ownsRow wa.heap.size 32 1 ov out.length (out.map (Value.int .i64)))∧Hid (shor15 A T c out (c.drop j)=SHR)∧Hid (MapAt wr mb k g)∧Hid (Kq A T its c g its.length)∧k+2*zer its g≤B∧Hid (Kept (fun g=>g=mb) wa wr)) (fun _ iv _=>c.length-(intOf iv).toNat)
 case atStart=>exact⟨0,[],f,kk,Nat.zero_le _,rfl,Nat.le_refl _,Lib.hid (World.ownsRow_nil _ _ _ _),HSHR,HMA,HKN,hB,Lib.hid (Kept.refl _ _)⟩
 case round=>
  obtain⟨j,out,g,k,hj,rfl,hol,HO,HR,HM,HK,hbd,HW⟩:=hrel
  obtain⟨Ao,co,rfl,_⟩:=mx_slice HO.out
  by_cases hlt:j<c.length
  ·
   obtain⟨l,hl⟩:=getElem_of hlt
   have hfl:=HFF.out l (List.mem_of_getElem? hl)
   obtain⟨p,x,hp,hlx,hlv⟩:=HSI.out.fal hfl
   have hdk:c.drop j=l::c.drop (j+1):=by
    rw[List.drop_eq_getElem_cons hlt]
    rw[List.getElem?_eq_getElem hlt]at hl
    rw[Option.some.inj hl]
   have HR2:=Lib.hid (show shor15 A T c out (l::c.drop (j+1))=SHR from by rw[←hdk];exact HR.out)
   obtain⟨l0,hl0⟩: ∃z,c[0]? =some z:=getElem_of (by omega)
   have HJ0:=Lib.hid (show j=0→l0=l from fun h=>by
    subst h
    rw[hl]at hl0
    exact(Option.some.inj hl0).symm)
   have HHD:=Lib.hid (show c.head? =some l0 from by rw[List.head?_eq_getElem?];exact hl0)
   have HWC:=Lib.hid (HWK.out.kept HW.out)
   have hcells:=HWK.out
   obtain⟨_,_,OC,_,_,hci,_,_,hnc,_⟩:=hcells
   obtain⟨A',c',hAc,hcc',_,hxs⟩:=hci
   simp only[Value.slice.injEq,true_and]at hAc
   obtain⟨rfl,rfl⟩:=hAc
   obtain⟨gc,oc,rfl,hgc,hgo,e0⟩:=hxs j l hl
   obtain⟨gc',oc',e1,_,_,e2⟩:=hxs 0 l0 hl0
   simp only[Option.some.injEq,Addr.mk.injEq,and_true]at e1
   obtain⟨rfl,rfl⟩:=e1
   have hgm:gc≠mb:=fun e=>hnc (e▸hgo)
   have d0:wr.cell? ⟨gc,oc+j,none⟩=some (.int .i64 l):=(HW.out.cell (p:=⟨gc,oc+j,none⟩) hgc hgm).trans e0
   have E2:=Lib.hid e2
   have hjc:j<cc:=by omega
   have h0c:0<cc:=by omega
   have h0l:0<c.length:=by omega
   have HCT:=Lib.hid (fun(W:World) (h:IntsIn (fun g=>wa.heap.size≤g∧(Value.slice Ao out.length co).ownBlock=some g) W (.slice Ao out.length co) out)=>contains_c (.slice Ao out.length co) out l W h (by omega))
   have HIO:=Lib.hid (IntsIn.of_own HO.out)
   have HV:=Lib.hid (fun W=>lit_var l W)
   rw[←hlv]at HV
   have HLV:=Lib.hid hlv
   have HPX:=Lib.hid hp
   have hzr:=HW.out.size
   clear hl hfl hlx hdk hl0 hxs hgo hnc e0 e2 hlv hp
   obtain⟨cb,hcb⟩: ∃z,out.contains l=z:=⟨_,rfl⟩
   rw[hcb]at HCT
   have HCB:=Lib.hid hcb
   clear hcb
   cases cb with
   | true=>
    go_upto_region 5 with fail
    refine wp_region_held_drew (S:=fun w'=>Kept (fun g=>g=mb) wa w') (by kernel_rfl) (HW.out.trans (O:=fun g=>g=mb) (Kept.of_below (mx_drew wr)) (fun _ _ h=>h)) (fun hS=>?_)
    have hD:=mx_drew wr
    obtain⟨wD,hwD⟩: ∃q,(wr).drew=q:=⟨_,rfl⟩
    rw[hwD]at hS hD⊢
    clear hwD d0
    refine takeE 0 14 ?_
    refine takeE 1 15 ?_
    refine ready1 2 (fun K hK=>?_)
    go_simp
    refine(HCT.out wD (HIO.out.below hD)).mono ?_
    rintro e w' ⟨rfl,rfl⟩
    refine hK.out _ _ hS (fun _=>?_)
    clear hK
    refine takeE 3 17 ?_
    refine takeE 4 18 ?_
    refine takeU 5 19 ?_
    refine takeU 6 20 ?_
    refine takeU 7 21 ?_
    refine takeU 8 22 ?_
    refine takeU 9 23 ?_
    refine takeU 10 24 ?_
    refine takeU 11 25 ?_
    refine takeU 12 26 ?_
    refine takeU 13 27 ?_
    refine takeU 14 28 ?_
    refine takeU 15 29 ?_
    refine takeU 16 30 ?_
    refine takeU 17 31 ?_
    refine takeU 18 32 ?_
    refine takeU 19 33 ?_
    refine takeU 20 34 ?_
    refine takeU 21 35 ?_
    refine takeE 22 36 ?_
    refine wpAnyH_done (by kernel_rfl) ?_ _
    have HKD:=Lib.hid hS
    have HOD:=Lib.hid (own_below HO.out hD)
    have HMD:=Lib.hid (HM.out.below hD)
    clear hS hD
    have HRN:=Lib.hid (show shor15 A T c out (c.drop (j+1))=SHR from(shor15_cons (by rw[if_neg (fun h=>by rw[HCB.out]at h;cases h.1)])).symm.trans HR2.out)
    go_wp2_with fail
    go_roundw
    case rel=>exact⟨j+1,out,g,k,by omega,by go_num,by omega,HOD,HRN,HMD,HK,hbd,HKD⟩
    case measure=>simp[intOf];omega
   | false=>
    by_cases hj0:j=0
    ·
     have q0:((j:Int)==0)=true:=by simp;omega
     have HEQ:=Lib.hid (show c.head? =some l from by
      rw[HHD.out]
      have h1:=HJ0.out hj0
      rw[h1])
     clear hj0
     go_upto_region 5 with fail
     refine wp_region_held_drew (S:=fun w'=>Kept (fun g=>g=mb) wa w') (by kernel_rfl) (HW.out.trans (O:=fun g=>g=mb) (Kept.of_below (mx_drew wr)) (fun _ _ h=>h)) (fun hS=>?_)
     have hD:=mx_drew wr
     obtain⟨wD,hwD⟩: ∃q,(wr).drew=q:=⟨_,rfl⟩
     rw[hwD]at hS hD⊢
     clear hwD d0
     refine takeE 0 14 ?_
     refine takeE 1 15 ?_
     refine ready1 2 (fun K hK=>?_)
     go_simp
     refine(HCT.out wD (HIO.out.below hD)).mono ?_
     rintro e w' ⟨rfl,rfl⟩
     refine hK.out _ _ hS (fun _=>?_)
     clear hK
     refine takeE 3 17 ?_
     refine takeE 4 18 ?_
     refine takeE 5 19 ?_
     refine takeE 6 20 ?_
     refine takeE 7 21 ?_
     refine takeU 8 22 ?_
     refine takeU 9 23 ?_
     refine takeU 10 24 ?_
     refine takeU 11 25 ?_
     refine takeU 12 26 ?_
     refine takeU 13 27 ?_
     refine takeE 14 28 ?_
     refine takeE 15 29 ?_
     refine takeU 16 30 ?_
     refine takeU 17 31 ?_
     refine takeU 18 32 ?_
     refine takeU 19 33 ?_
     refine takeU 20 34 ?_
     refine takeE 21 35 ?_
     refine takeE 22 36 ?_
     refine wpAnyH_done (by kernel_rfl) ?_ _
     have HKD:=Lib.hid hS
     have HOD:=Lib.hid (own_below HO.out hD)
     have HMD:=Lib.hid (HM.out.below hD)
     clear hS hD
     have HRN:=Lib.hid (show shor15 A T c (out++ [l]) (c.drop (j+1))=SHR from(shor15_cons (by rw[if_pos ⟨HCB.out,.inl HEQ.out⟩])).symm.trans HR2.out)
     have hzn:=HKD.out.size
     go_wp2_with (at_builtin;refine wpList_append_own_at _ rfl _ _ 34 rfl wa.heap.size 32 i0 (.int .i64 0) 1 8 Tryz.underlying34 hi0 hi1 hi2 hi3 rfl (by decide) _ out.length _ rfl (own_below HOD.out (mx_al wD (.cells #[.int .i64 l] 32))) ⟨wD.heap.size,0,none⟩ 1 1 [.int .i64 l] rfl rfl (cell_one15 _ _ _) (by simp[Value.oneCell']) (by unfold maxLen;omega) (by omega) (by simp;omega) ?_;intro v' w9 hown hgrow hnl hat;have hkG:=(HKD.out.trans (O:=fun g=>g=mb) (Kept.of_below (mx_al wD (.cells #[.int .i64 l] 32))) (fun _ _ h=>h)).trans (O:=fun g=>g=mb) (Kept.grown hgrow) (fun i hi e=>absurd (own_lt HOD.out i e.symm).1 (by omega));have hmG:=HMD.out.below (mx_al wD (.cells #[.int .i64 l] 32));have hmG2:=hmG.kept (Kept.grown hgrow) (fun e=>by have h1:=(own_lt HOD.out mb e.symm).1;have h2:=HBA.out.size;omega);obtain⟨A7',k7',hv2,_⟩:=mx_slice hown;subst hv2;have HO9:=Lib.hid hown;have HK9:=Lib.hid hkG;have HM9:=Lib.hid hmG2;clear hown hgrow hnl hat hkG hmG hmG2)
     go_roundw
     case rel=>exact⟨j+1,out++ [l],g,k,by omega,by go_num,by simp;omega,Lib.hid (by rw[List.length_append,List.map_append];exact HO9.out),HRN,HM9,HK,hbd,HK9⟩
     case measure=>simp[intOf];omega
    ·
     have q0:((j:Int)==0)=false:=by simp;omega
     clear hj0
     by_cases hll:l=l0
     ·
      have q1:(l==l0)=true:=by simpa using hll
      have HEQ:=Lib.hid (show c.head? =some l from by rw[HHD.out,hll])
      clear hll
      go_upto_region 5 with fail
      refine wp_region_held_drew (S:=fun w'=>Kept (fun g=>g=mb) wa w') (by kernel_rfl) (HW.out.trans (O:=fun g=>g=mb) (Kept.of_below (mx_drew wr)) (fun _ _ h=>h)) (fun hS=>?_)
      have hD:=mx_drew wr
      obtain⟨wD,hwD⟩: ∃q,(wr).drew=q:=⟨_,rfl⟩
      rw[hwD]at hS hD⊢
      clear hwD d0
      refine takeE 0 14 ?_
      refine takeE 1 15 ?_
      refine ready1 2 (fun K hK=>?_)
      go_simp
      refine(HCT.out wD (HIO.out.below hD)).mono ?_
      rintro e w' ⟨rfl,rfl⟩
      refine hK.out _ _ hS (fun _=>?_)
      clear hK
      refine takeE 3 17 ?_
      refine takeE 4 18 ?_
      refine takeE 5 19 ?_
      refine takeE 6 20 ?_
      refine takeE 7 21 ?_
      refine takeE 8 22 ?_
      refine takeE 9 23 ?_
      refine takeF 10 24 (fun wq hSw=>(hSw.cell (p:=⟨w.heap.size,2,none⟩) hzw hnm).trans C2.out) ?_
      refine takeE 11 25 ?_
      refine takeF 12 26 (fun wq hSw=>(hSw.cell (p:=⟨gc,oc,none⟩) hgc hgm).trans E2.out) ?_
      refine takeE 13 27 ?_
      refine takeE 14 28 ?_
      refine takeE 15 29 ?_
      refine takeU 16 30 ?_
      refine takeU 17 31 ?_
      refine takeU 18 32 ?_
      refine takeU 19 33 ?_
      refine takeU 20 34 ?_
      refine takeE 21 35 ?_
      refine takeE 22 36 ?_
      refine wpAnyH_done (by kernel_rfl) ?_ _
      have HKD:=Lib.hid hS
      have HOD:=Lib.hid (own_below HO.out hD)
      have HMD:=Lib.hid (HM.out.below hD)
      clear hS hD
      have HRN:=Lib.hid (show shor15 A T c (out++ [l]) (c.drop (j+1))=SHR from(shor15_cons (by rw[if_pos ⟨HCB.out,.inl HEQ.out⟩])).symm.trans HR2.out)
      have hzn:=HKD.out.size
      go_wp2_with (at_builtin;refine wpList_append_own_at _ rfl _ _ 34 rfl wa.heap.size 32 i0 (.int .i64 0) 1 8 Tryz.underlying34 hi0 hi1 hi2 hi3 rfl (by decide) _ out.length _ rfl (own_below HOD.out (mx_al wD (.cells #[.int .i64 l] 32))) ⟨wD.heap.size,0,none⟩ 1 1 [.int .i64 l] rfl rfl (cell_one15 _ _ _) (by simp[Value.oneCell']) (by unfold maxLen;omega) (by omega) (by simp;omega) ?_;intro v' w9 hown hgrow hnl hat;have hkG:=(HKD.out.trans (O:=fun g=>g=mb) (Kept.of_below (mx_al wD (.cells #[.int .i64 l] 32))) (fun _ _ h=>h)).trans (O:=fun g=>g=mb) (Kept.grown hgrow) (fun i hi e=>absurd (own_lt HOD.out i e.symm).1 (by omega));have hmG:=HMD.out.below (mx_al wD (.cells #[.int .i64 l] 32));have hmG2:=hmG.kept (Kept.grown hgrow) (fun e=>by have h1:=(own_lt HOD.out mb e.symm).1;have h2:=HBA.out.size;omega);obtain⟨A7',k7',hv2,_⟩:=mx_slice hown;subst hv2;have HO9:=Lib.hid hown;have HK9:=Lib.hid hkG;have HM9:=Lib.hid hmG2;clear hown hgrow hnl hat hkG hmG hmG2)
      go_roundw
      case rel=>exact⟨j+1,out++ [l],g,k,by omega,by go_num,by simp;omega,Lib.hid (by rw[List.length_append,List.map_append];exact HO9.out),HRN,HM9,HK,hbd,HK9⟩
      case measure=>simp[intOf];omega
     ·
      have q1:(l==l0)=false:=by simpa using hll
      have HNE:=Lib.hid (show¬c.head? =some l from by
       rw[HHD.out]
       intro h
       exact hll (Option.some.inj h).symm)
      clear hll
      go_upto_region 5 with fail
      refine wp_region_held_drew (S:=fun w'=>Kept (fun g=>g=mb) wa w') (by kernel_rfl) (HW.out.trans (O:=fun g=>g=mb) (Kept.of_below (mx_drew wr)) (fun _ _ h=>h)) (fun hS=>?_)
      have hD:=mx_drew wr
      obtain⟨wD,hwD⟩: ∃q,(wr).drew=q:=⟨_,rfl⟩
      rw[hwD]at hS hD⊢
      clear hwD d0
      refine takeE 0 14 ?_
      refine takeE 1 15 ?_
      refine ready1 2 (fun K hK=>?_)
      go_simp
      refine(HCT.out wD (HIO.out.below hD)).mono ?_
      rintro e w' ⟨rfl,rfl⟩
      refine hK.out _ _ hS (fun _=>?_)
      clear hK
      refine takeE 3 17 ?_
      refine takeE 4 18 ?_
      refine takeE 5 19 ?_
      refine takeE 6 20 ?_
      refine takeE 7 21 ?_
      refine takeE 8 22 ?_
      refine takeE 9 23 ?_
      refine takeF 10 24 (fun wq hSw=>(hSw.cell (p:=⟨w.heap.size,2,none⟩) hzw hnm).trans C2.out) ?_
      refine takeE 11 25 ?_
      refine takeF 12 26 (fun wq hSw=>(hSw.cell (p:=⟨gc,oc,none⟩) hgc hgm).trans E2.out) ?_
      refine takeE 13 27 ?_
      refine takeE 14 28 ?_
      refine takeE 15 29 ?_
      refine takeF 16 30 (fun wq hSw=>And.intro ((hSw.cell (p:=⟨w.heap.size,0,none⟩) hzw hnm).trans C0.out) (And.intro ((hSw.cell (p:=⟨w.heap.size,1,none⟩) hzw hnm).trans C1.out) (And.intro ((hSw.cell (p:=⟨w.heap.size,2,none⟩) hzw hnm).trans C2.out) ((hSw.cell (p:=⟨w.heap.size,3,none⟩) hzw hnm).trans C3.out)))) ?_
      refine takeE 17 31 ?_
      refine ready1 18 (fun K hK=>?_)
      go_simp
      refine(HV.out wD).mono ?_
      rintro e w' ⟨rfl,rfl⟩
      refine hK.out _ _ hS (fun _=>?_)
      clear hK
      refine ready1 19 (fun K hK=>?_)
      go_simp
      have hih:=HIMP.out p x HPX.out wD g k (HWK.out.kept hS) (HM.out.below hD) (fun q' y' hq' hy'=>HK.out q' y' (List.getElem?_eq_some_iff.1 hy').1 hy') hbd
      refine hih.mono ?_
      rintro e w3 ⟨g2,k2,rfl,hm3,hk3,hu3,hb3,hkw⟩
      have hSN:=hS.trans (O:=fun g=>g=mb) hkw (fun _ _ h=>h)
      have HOD:=Lib.hid (own_kept (own_below HO.out hD) hkw (fun g hg e=>by have h1:=(own_lt HO.out g hg).1;have h2:=HBA.out.size;omega))
      have HKN3:=Lib.hid (show Kq A T its c g2 its.length from fun q' y' hq' hy'=>by
       by_cases h:q'<p
       ·
        exact hk3 q' y' h hy'
       ·
        rw[hu3 q' y' (by omega) hy']
        exact HK.out q' y' hq' hy')
      have HMD:=Lib.hid hm3
      have hbd3:k2+2*zer its g2≤B:=Nat.le_trans hb3 hbd
      refine hK.out _ _ hSN (fun _=>?_)
      clear hK hm3 hk3 hu3 hb3 hkw hS hih hD
      have hS:=hSN
      clear hSN
      obtain⟨ib,hib⟩: ∃z,impl15 A T c (litV x.lit:Nat)=z:=⟨_,rfl⟩
      rw[hib]
      have HIB:=Lib.hid (show impl15 A T c (litV l:Nat)=ib from by rw[←HLV.out];exact hib)
      clear hib
      cases ib with
      | true=>
       refine takeE 20 34 ?_
       refine takeE 21 35 ?_
       refine takeE 22 36 ?_
       refine wpAnyH_done (by kernel_rfl) ?_ _
       have HKD:=Lib.hid hS
       clear hS
       have HRN:=Lib.hid (show shor15 A T c out (c.drop (j+1))=SHR from(shor15_cons (by rw[if_neg (fun h=>h.2.elim HNE.out (fun h=>by rw[HIB.out]at h;cases h))])).symm.trans HR2.out)
       go_wp2_with fail
       go_roundw
       case rel=>exact⟨j+1,out,g2,k2,by omega,by go_num,by omega,HOD,HRN,HMD,HKN3,hbd3,HKD⟩
       case measure=>simp[intOf];omega
      | false=>
       refine takeE 20 34 ?_
       refine takeE 21 35 ?_
       refine takeE 22 36 ?_
       refine wpAnyH_done (by kernel_rfl) ?_ _
       have HKD:=Lib.hid hS
       clear hS
       have HRN:=Lib.hid (show shor15 A T c (out++ [l]) (c.drop (j+1))=SHR from(shor15_cons (by rw[if_pos ⟨HCB.out,.inr HIB.out⟩])).symm.trans HR2.out)
       have hzn:=HKD.out.size
       go_wp2_with (at_builtin;refine wpList_append_own_at _ rfl _ _ 34 rfl wa.heap.size 32 i0 (.int .i64 0) 1 8 Tryz.underlying34 hi0 hi1 hi2 hi3 rfl (by decide) _ out.length _ rfl (own_below HOD.out (mx_al w3 (.cells #[.int .i64 l] 32))) ⟨w3.heap.size,0,none⟩ 1 1 [.int .i64 l] rfl rfl (cell_one15 _ _ _) (by simp[Value.oneCell']) (by unfold maxLen;omega) (by omega) (by simp;omega) ?_;intro v' w9 hown hgrow hnl hat;have hkG:=(HKD.out.trans (O:=fun g=>g=mb) (Kept.of_below (mx_al w3 (.cells #[.int .i64 l] 32))) (fun _ _ h=>h)).trans (O:=fun g=>g=mb) (Kept.grown hgrow) (fun i hi e=>absurd (own_lt HOD.out i e.symm).1 (by omega));have hmG:=HMD.out.below (mx_al w3 (.cells #[.int .i64 l] 32));have hmG2:=hmG.kept (Kept.grown hgrow) (fun e=>by have h1:=(own_lt HOD.out mb e.symm).1;have h2:=HBA.out.size;omega);obtain⟨A7',k7',hv2,_⟩:=mx_slice hown;subst hv2;have HO9:=Lib.hid hown;have HK9:=Lib.hid hkG;have HM9:=Lib.hid hmG2;clear hown hgrow hnl hat hkG hmG hmG2)
       go_roundw
       case rel=>exact⟨j+1,out++ [l],g2,k2,by omega,by go_num,by simp;omega,Lib.hid (by rw[List.length_append,List.map_append];exact HO9.out),HRN,HM9,HKN3,hbd3,HK9⟩
       case measure=>simp[intOf];omega
  ·
   obtain rfl:j=c.length:=by omega
   have hfin:=HR.out
   rw[List.drop_length,show shor15 A T c out []=out from rfl]at hfin
   subst hfin
   go_wp2_with fail
   go_ret
   exact⟨⟨_,rfl,own_mono HO.out HBA.out.size⟩,(Kept.of_below (O:=fun g=>g=mb) HBA.out).trans (O:=fun g=>g=mb) HW.out (fun _ _ h=>h)⟩
end Go.Proofs.YtoojmhjagipmdaaGreat
namespace Go.Proofs.YtoojmhjagipmdaaGreat
open Go.RowKit
theorem res_work {fn:Func} (h:fn.results= #[.cell 6 123,.tmp 7]) {w:World} {r:Nat} {c0 c1 c2 c3 v:Value} {t:TypeId} (h6:w.heap[r]? =some (.cells #[c0,c1,c2,c3] t (0,0)))
  (tmps:Array Value) (t6:tmps[6]?.getD undef= .pointer (some ⟨r,0,none⟩)) (t7:tmps[7]?.getD undef=v):
  (results fn tmps).run Tryz.prog w= .ok (.tuple #[.agg #[c0,c1,c2,c3],v]) w:=by
 obtain⟨⟨p0,p1,p2,p3⟩,_⟩:=cells4 h6
 simp[results,h,go_sem,t6,t7,p0,p1,p2,p3]
set_option maxRecDepth 100000 in
set_option maxHeartbeats 1000000 in
theorem mn_start {OA OT OC:Nat→Prop} (a b:Nat) (A:Arn) (T:Trl) (Ac:Option Addr) (cc:Nat) (c:List Int) (w:World) (ha:ArAt OA w a A) (ht:TrAt OT w b T) (hc:IntsIn OC w (.slice Ac c.length cc) c) (hs:c.length≤4194304):
  Calls Tryz.prog 70 #[.pointer (some ⟨a,0,none⟩),.pointer (some ⟨b,0,none⟩),.slice Ac c.length cc] w fun e w'=>(∃mb,e= .returned (.tuple #[.agg #[.pointer (some ⟨a,0,none⟩),.pointer (some ⟨b,0,none⟩),.slice Ac c.length cc,.map (some mb)],.int .i64 (failE T c)])∧Wk w' a b mb A T (.slice Ac c.length cc) c∧MapAt w' mb 0 (fun _=>0)∧w.heap.size≤mb)∧Below w.heap.size w w':=by
 have hmm:=@run_makeMap Tryz.prog
 obtain⟨wa,hwa⟩: ∃z,w.alloc (.cells #[.pointer none,.pointer none,.slice none 0 0,.map none] 123)=z:=⟨_,rfl⟩
 have hba:Below w.heap.size w wa:=by rw[←hwa];exact mx_al _ _
 have hbn:wa.heap[w.heap.size]? =some (.cells #[.pointer none,.pointer none,.slice none 0 0,.map none] 123 (0,0)):=by rw[←hwa];exact World.alloc_heap_new _ _
 obtain⟨wb,hwb⟩: ∃z,wa.alloc (.map #[] 0)=z:=⟨_,rfl⟩
 have hbb:Below wa.heap.size wa wb:=by rw[←hwb];exact mx_al _ _
 have hmp:MapAt wb wa.heap.size 0 (fun _=>0):=by rw[←hwb];exact MapAt.made wa
 have HBA:=Lib.hid hba
 have HBN:=Lib.hid hbn
 have HWA:=Lib.hid hwa
 have HWB:=Lib.hid hwb
 have HBB:=Lib.hid hbb
 have HMP:=Lib.hid hmp
 have hzw:=heap_lt hbn
 have hzb:=hmp.lt
 have HA:=Lib.hid (ha.below (hba.trans (hbb.mono hba.size)))
 have HT:=Lib.hid (ht.below (hba.trans (hbb.mono hba.size)))
 have HC:=Lib.hid (hc.below (hba.trans (hbb.mono hba.size)))
 have HF:=Lib.hid (mn_failing b T (.slice Ac c.length cc) c wb HT.out HC.out hs)
 have HOA:=Lib.hid ha.own
 have HOT:=Lib.hid ht.own
 have HA0:=Lib.hid ha
 have HT0:=Lib.hid ht
 have HC0:=Lib.hid hc
 obtain⟨FE,hfe⟩: ∃z:Int,((failE T c:Nat):Int)=z:=⟨_,rfl⟩
 rw[hfe]at HF⊢
 clear hba hbn hwa hwb hbb hmp ha ht hc hfe
 go_enter Tryz.func70,Tryz.ntmps70
 go_upto_region 1 with fail
 rw[HWA.out]
 go_wp2_with fail
 rw[HWB.out]
 refine HF.out.mono ?_
 rintro e w1 ⟨rfl,hb1⟩
 have k6:=(hb1.block w.heap.size (by omega)).trans ((HBB.out.block w.heap.size hzw).trans HBN.out)
 have hz6:w.heap.size<w1.heap.size:=heap_lt k6
 obtain⟨⟨p0,p1,p2,p3⟩,f0,f1,f2,f3⟩:=cells4 k6
 have K6:=Lib.hid k6
 have HB1:=Lib.hid hb1
 clear k6 hb1 hmm
 go_wp2_with fail
 obtain⟨Wf,hWf⟩: ∃x,(((w1.setCell ⟨w.heap.size,0,none⟩ (.pointer (some ⟨a,0,none⟩))).setCell ⟨w.heap.size,1,none⟩ (.pointer (some ⟨b,0,none⟩))).setCell ⟨w.heap.size,2,none⟩ (.slice Ac c.length cc)).setCell ⟨w.heap.size,3,none⟩ (.map (some wa.heap.size))=x:=⟨_,rfl⟩
 rw[hWf]
 have r6:Wf.heap[w.heap.size]? =some (.cells #[.pointer (some ⟨a,0,none⟩),.pointer (some ⟨b,0,none⟩),.slice Ac c.length cc,.map (some wa.heap.size)] 123 (0,0)):=by
  rw[←hWf]
  exact mx_set (j:=3) (mx_set (j:=2) (mx_set (j:=1) (mx_set (j:=0) K6.out _) _) _) _
 have hkf:Kept (fun g=>g=w.heap.size) w1 Wf:=by
  rw[←hWf]
  exact((((Kept.refl (fun g=>g=w.heap.size) w1).setCell _ _ rfl).setCell _ _ rfl).setCell _ _ rfl).setCell _ _ rfl
 have hbf:Below w.heap.size w Wf:=HBA.out.trans ((HBB.out.mono HBA.out.size).trans ((HB1.out.mono (Nat.le_trans HBA.out.size HBB.out.size)).trans (hkf.below (fun i e=>by omega) (by omega))))
 have hmf:=(HMP.out.below HB1.out).kept hkf (fun e=>by omega)
 have HWF:=Lib.hid (show Wk Wf a b wa.heap.size A T (.slice Ac c.length cc) c from⟨OA,OT,fun g=>OC g∧g<w.heap.size,HA0.out.below hbf,HT0.out.below hbf,HC0.out.lt.below hbf,fun h=>by have:=HOA.out _ h;omega,fun h=>by have:=HOT.out _ h;omega,fun h=>by have:=h.2;omega,hmf.lt⟩)
 have HMF:=Lib.hid hmf
 have HBF:=Lib.hid hbf
 clear hWf p0 p1 p2 p3 f0 f1 f2 f3 hkf hbf hmf
 exact bodyPost_ret (v:=.tuple #[.agg #[.pointer (some ⟨a,0,none⟩),.pointer (some ⟨b,0,none⟩),.slice Ac c.length cc,.map (some wa.heap.size)],.int .i64 FE]) (res_work rfl r6 _ rfl rfl) rfl ⟨⟨_,rfl,HWF.out,HMF.out,HBA.out.size⟩,HBF.out⟩
theorem failE_zero {T:Trl} {c:List Int} (h:failE T c=0):clauseB c=true∧∀l∈c,T.val l<0:=by
 unfold failE at h
 cases hc:clauseB c with
 | false=>rw[hc,if_pos rfl]at h;cases h
 | true=>
  rw[hc,if_neg (by decide)]at h
  refine⟨rfl,fun l hl=>?_⟩
  by_cases ha:c.any (fun l=>decide (0≤T.val l))=true
  ·
   rw[if_pos ha]at h
   cases h
  ·
   have:=List.any_eq_false.1 (Bool.eq_false_iff.2 ha) l hl
   simp only[decide_eq_true_eq]at this
   omega
set_option maxRecDepth 100000 in
set_option maxHeartbeats 1000000 in
theorem mn_covered {OA OT OC:Nat→Prop} (a b:Nat) (A:Arn) (T:Trl) (its:List RIt) (Ac:Option Addr) (cc:Nat) (c:List Int) (l:Int) (w:World) (hsim:Sim T its) (hil:its.length≤500000) (ha:ArAt OA w a A) (ht:TrAt OT w b T) (hc:IntsIn OC w (.slice Ac c.length cc) c) (hs:c.length≤4194304):
  Calls Tryz.prog 29 #[.pointer (some ⟨a,0,none⟩),.pointer (some ⟨b,0,none⟩),.slice Ac c.length cc,.int .i64 l] w fun e w'=>e= .returned (.tuple #[.bool (if failE T c=0 then decide (T.val l<0)&&cov15 A T c l else false),.int .i64 (failE T c)])∧Below w.heap.size w w':=by
 have HS:=Lib.hid (mn_start a b A T Ac cc c w ha ht hc hs)
 have HSI:=Lib.hid hsim
 clear ha ht hc
 obtain⟨FE,hfe⟩: ∃z,failE T c=z:=⟨_,rfl⟩
 rw[hfe]at HS⊢
 have HFE:=Lib.hid hfe
 clear hfe hsim
 by_cases h0:FE=0
 ·
  subst h0
  have HV:=Lib.hid (fun l hl=>(failE_zero HFE.out).2 l hl)
  simp only[if_pos,Int.natCast_zero]at HS⊢
  have HTV:=Lib.hid (fun(W:World) (O:Nat→Prop) (h:TrAt O W b T)=>tr_value b T l W h)
  by_cases hl:T.val l<0
  ·
   have q1:decide (T.val l<0)=true:=decide_eq_true hl
   rw[HSI.out.val]at hl
   obtain⟨p,x,hp,rfl,_⟩:=HSI.out.fal hl
   have HC:=Lib.hid (fun(mb:Nat) (W:World) (hw:Wk W a b mb A T (.slice Ac c.length cc) c) (hm:MapAt W mb 0 (fun _=>0))=>cov_all a b mb A T its Ac cc c (0+2*zer its (fun _=>0)) HSI.out (by have:=zer_le its (fun _=>0);omega) hs p x hp W _ 0 hw hm (fun q y _ _=>.inl rfl) (Nat.le_refl _))
   obtain⟨z,hz⟩: ∃z,cov15 A T c (-x.lit)=z:=⟨_,rfl⟩
   obtain⟨tv,htv⟩: ∃z,T.val (-x.lit)=z:=⟨_,rfl⟩
   obtain⟨l,hll⟩: ∃z,-x.lit=z:=⟨_,rfl⟩
   rw[hz,hll]at HC
   rw[hll]at htv hz
   rw[hll,htv]at HTV
   rw[hll,htv]at q1
   rw[hll,htv,hz,q1,Bool.true_and]
   clear hz htv hp hl hll
   go_enter Tryz.func29,Tryz.ntmps29
   go_wp2_with fail
   refine HS.out.mono ?_
   rintro e w1 ⟨⟨mb,rfl,hw,hm,hmb⟩,hb⟩
   obtain⟨wx,hwx⟩: ∃x,w1.alloc (.cells #[.pointer (some ⟨a,0,none⟩),.pointer (some ⟨b,0,none⟩),.slice Ac c.length cc,.map (some mb)] 123)=x:=⟨_,rfl⟩
   have hbx:Below w1.heap.size w1 wx:=by rw[←hwx];exact mx_al _ _
   have hbn:wx.heap[w1.heap.size]? =some (.cells #[.pointer (some ⟨a,0,none⟩),.pointer (some ⟨b,0,none⟩),.slice Ac c.length cc,.map (some mb)] 123 (0,0)):=by rw[←hwx];exact World.alloc_heap_new _ _
   have HWX:=Lib.hid hwx
   have HW:=Lib.hid (hw.below hbx)
   have HM:=Lib.hid (hm.below hbx)
   have HB:=Lib.hid (hb.trans (hbx.mono hb.size))
   have HBN:=Lib.hid hbn
   have hzx:=heap_lt hbn
   have hm1:=hm.lt
   clear hw hm hb HS hwx hbx hbn
   have hwk:=HW.out
   obtain⟨_,OT',_,_,htt,_⟩:=hwk
   have HTW:=Lib.hid (HTV.out wx _ htt)
   clear htt HTV
   go_wp2_with (rw[HWX.out])
   refine HTW.out.mono ?_
   rintro e w2 ⟨rfl,hb⟩
   obtain⟨⟨e0,e1,e2,e3⟩,_⟩:=cells4 ((hb.block w1.heap.size hzx).trans HBN.out)
   have HB2:=Lib.hid hb
   have HC2:=Lib.hid (HC.out mb w2 (HW.out.below hb) (HM.out.below hb))
   have hz2:=hb.size
   clear hb HC HTW
   go_wp2_with fail
   refine HC2.out.mono ?_
   rintro e w3 ⟨f3,k3,rfl,_,_,_,_,hk⟩
   have HB3:=Lib.hid (HB.out.trans ((HB2.out.mono HB.out.size).trans (hk.below (B:=w.heap.size) (fun i e=>by omega) (by have:=HB.out.size;omega))))
   clear hk HC2
   go_wp2_with fail
   go_ret2
   exact⟨rfl,HB3.out⟩
  ·
   have q1:decide (T.val l<0)=false:=decide_eq_false hl
   obtain⟨tv,htv⟩: ∃z,T.val l=z:=⟨_,rfl⟩
   rw[htv]at HTV q1⊢
   rw[q1,Bool.false_and]
   clear htv hl
   go_enter Tryz.func29,Tryz.ntmps29
   go_wp2_with fail
   refine HS.out.mono ?_
   rintro e w1 ⟨⟨mb,rfl,hw,hm,hmb⟩,hb⟩
   obtain⟨wx,hwx⟩: ∃x,w1.alloc (.cells #[.pointer (some ⟨a,0,none⟩),.pointer (some ⟨b,0,none⟩),.slice Ac c.length cc,.map (some mb)] 123)=x:=⟨_,rfl⟩
   have hbx:Below w1.heap.size w1 wx:=by rw[←hwx];exact mx_al _ _
   have hbn:wx.heap[w1.heap.size]? =some (.cells #[.pointer (some ⟨a,0,none⟩),.pointer (some ⟨b,0,none⟩),.slice Ac c.length cc,.map (some mb)] 123 (0,0)):=by rw[←hwx];exact World.alloc_heap_new _ _
   have HWX:=Lib.hid hwx
   have HW:=Lib.hid (hw.below hbx)
   have HM:=Lib.hid (hm.below hbx)
   have HB:=Lib.hid (hb.trans (hbx.mono hb.size))
   have HBN:=Lib.hid hbn
   have hzx:=heap_lt hbn
   have hm1:=hm.lt
   clear hw hm hb HS hwx hbx hbn
   have hwk:=HW.out
   obtain⟨_,OT',_,_,htt,_⟩:=hwk
   have HTW:=Lib.hid (HTV.out wx _ htt)
   clear htt HTV
   go_wp2_with (rw[HWX.out])
   refine HTW.out.mono ?_
   rintro e w2 ⟨rfl,hb⟩
   have HB2:=Lib.hid (HB.out.trans (hb.mono HB.out.size))
   clear hb HTW
   go_wp2_with fail
   go_ret2
   exact⟨rfl,HB2.out⟩
 ·
  have q0:((FE:Int) != 0)=true:=by simp;omega
  rw[if_neg h0]
  go_enter Tryz.func29,Tryz.ntmps29
  go_wp2_with fail
  refine HS.out.mono ?_
  rintro e w1 ⟨⟨mb,rfl,hw,hm,hmb⟩,hb⟩
  have HB:=Lib.hid hb
  clear hw hm hb HS
  go_wp2_with fail
  go_ret2
  exact⟨rfl,HB.out.trans ((mx_al _ _).mono HB.out.size)⟩
set_option maxRecDepth 100000 in
set_option maxHeartbeats 1000000 in
theorem mn_shorten_any {OA OT OC:Nat→Prop} (a b:Nat) (A:Arn) (T:Trl) (its:List RIt) (Ac:Option Addr) (cc:Nat) (c:List Int) (w:World) (hsim:Sim T its) (hil:its.length≤500000) (ha:ArAt OA w a A) (ht:TrAt OT w b T) (hc:IntsIn OC w (.slice Ac c.length cc) c) (hs:c.length≤4194304):
  Calls Tryz.prog 24 #[.pointer (some ⟨a,0,none⟩),.pointer (some ⟨b,0,none⟩),.slice Ac c.length cc] w fun e w'=>(∃u',e= .returned (.tuple #[u',.int .i64 (failE T c)])∧w'.ownsRow w.heap.size 32 1 u' (if failE T c=0 then short15 A T c else []).length ((if failE T c=0 then short15 A T c else []).map (Value.int .i64)))∧Below w.heap.size w w':=by
 have HS:=Lib.hid (mn_start a b A T Ac cc c w ha ht hc hs)
 have HSI:=Lib.hid hsim
 clear ha ht hc
 obtain⟨FE,hfe⟩: ∃z,failE T c=z:=⟨_,rfl⟩
 rw[hfe]at HS⊢
 have HFE:=Lib.hid hfe
 clear hfe hsim
 by_cases h0:FE=0
 ·
  subst h0
  have HV:=Lib.hid (fun l hl=>(failE_zero HFE.out).2 l hl)
  simp only[if_pos,Int.natCast_zero]at HS⊢
  have HC:=Lib.hid (fun(mb:Nat) (W:World) (hw:Wk W a b mb A T (.slice Ac c.length cc) c) (hm:MapAt W mb 0 (fun _=>0))=>mn_shorten a b mb A T its Ac cc c (0+2*zer its (fun _=>0)) W _ 0 HSI.out (by have:=zer_le its (fun _=>0);omega) hs (fun l hl=>by rw[←HSI.out.val];exact HV.out l hl) hw hm (fun q y _ _=>.inl rfl) (Nat.le_refl _))
  go_enter Tryz.func24,Tryz.ntmps24
  go_wp2_with fail
  refine HS.out.mono ?_
  rintro e w1 ⟨⟨mb,rfl,hw,hm,hmb⟩,hb⟩
  obtain⟨wx,hwx⟩: ∃x,w1.alloc (.cells #[.pointer (some ⟨a,0,none⟩),.pointer (some ⟨b,0,none⟩),.slice Ac c.length cc,.map (some mb)] 123)=x:=⟨_,rfl⟩
  have hbx:Below w1.heap.size w1 wx:=by rw[←hwx];exact mx_al _ _
  have hbn:wx.heap[w1.heap.size]? =some (.cells #[.pointer (some ⟨a,0,none⟩),.pointer (some ⟨b,0,none⟩),.slice Ac c.length cc,.map (some mb)] 123 (0,0)):=by rw[←hwx];exact World.alloc_heap_new _ _
  have HWX:=Lib.hid hwx
  have HW:=Lib.hid (hw.below hbx)
  have HM:=Lib.hid (hm.below hbx)
  have HB:=Lib.hid (hb.trans (hbx.mono hb.size))
  have HBN:=Lib.hid hbn
  have hzx:=heap_lt hbn
  have hm1:=hm.lt
  clear hw hm hb HS hwx hbx hbn
  obtain⟨⟨e0,e1,e2,e3⟩,_⟩:=cells4 HBN.out
  have HC2:=Lib.hid (HC.out mb wx HW.out HM.out)
  clear HC
  go_wp2_with (rw[HWX.out])
  refine HC2.out.mono ?_
  rintro e w3 ⟨⟨u',rfl,ho⟩,hk⟩
  have HO:=Lib.hid (own_mono ho HB.out.size)
  have HB3:=Lib.hid (HB.out.trans (hk.below (B:=w.heap.size) (fun i e=>by omega) (by have:=HB.out.size;omega)))
  clear hk HC2 ho
  go_wp2_with fail
  go_ret2
  exact⟨⟨_,rfl,HO.out⟩,HB3.out⟩
 ·
  have q0:((FE:Int) != 0)=true:=by simp;omega
  rw[if_neg h0]
  go_enter Tryz.func24,Tryz.ntmps24
  go_wp2_with fail
  refine HS.out.mono ?_
  rintro e w1 ⟨⟨mb,rfl,hw,hm,hmb⟩,hb⟩
  have HB:=Lib.hid hb
  clear hw hm hb HS
  go_wp2_with fail
  go_ret2
  exact⟨⟨_,rfl,World.ownsRow_nil _ _ _ _⟩,HB.out.trans ((mx_al _ _).mono HB.out.size)⟩
set_option maxRecDepth 100000 in
set_option maxHeartbeats 1000000 in
theorem mn_redundant {OA OT OC:Nat→Prop} (a b:Nat) (A:Arn) (T:Trl) (its:List RIt) (Ac:Option Addr) (cc:Nat) (c:List Int) (l:Int) (w:World) (hsim:Sim T its) (hil:its.length≤500000) (ha:ArAt OA w a A) (ht:TrAt OT w b T) (hc:IntsIn OC w (.slice Ac c.length cc) c) (hs:c.length≤4194304):
  Calls Tryz.prog 27 #[.pointer (some ⟨a,0,none⟩),.pointer (some ⟨b,0,none⟩),.slice Ac c.length cc,.int .i64 l] w fun e w'=>e= .returned (.tuple #[.bool (if failE T c=0 then c.contains l&&impl15 A T c (litV l)else false),.int .i64 (failE T c)])∧Below w.heap.size w w':=by
 have HS:=Lib.hid (mn_start a b A T Ac cc c w ha ht hc hs)
 have HSI:=Lib.hid hsim
 clear ha ht hc
 obtain⟨FE,hfe⟩: ∃z,failE T c=z:=⟨_,rfl⟩
 rw[hfe]at HS⊢
 have HFE:=Lib.hid hfe
 clear hfe hsim
 by_cases h0:FE=0
 ·
  subst h0
  have HV:=Lib.hid (fun l hl=>(failE_zero HFE.out).2 l hl)
  simp only[if_pos,Int.natCast_zero]at HS⊢
  have HCT:=Lib.hid (fun(W:World) (OC:Nat→Prop) (h:IntsIn OC W (.slice Ac c.length cc) c)=>contains_c (.slice Ac c.length cc) c l W h (by omega))
  have HLV:=Lib.hid (fun W=>lit_var l W)
  obtain⟨cb,hcb⟩: ∃z,c.contains l=z:=⟨_,rfl⟩
  rw[hcb]at HCT⊢
  cases cb with
  | false=>
   rw[Bool.false_and]
   clear hcb HLV
   go_enter Tryz.func27,Tryz.ntmps27
   go_wp2_with fail
   refine HS.out.mono ?_
   rintro e w1 ⟨⟨mb,rfl,hw,hm,hmb⟩,hb⟩
   obtain⟨wx,hwx⟩: ∃x,w1.alloc (.cells #[.pointer (some ⟨a,0,none⟩),.pointer (some ⟨b,0,none⟩),.slice Ac c.length cc,.map (some mb)] 123)=x:=⟨_,rfl⟩
   have hbx:Below w1.heap.size w1 wx:=by rw[←hwx];exact mx_al _ _
   have hbn:wx.heap[w1.heap.size]? =some (.cells #[.pointer (some ⟨a,0,none⟩),.pointer (some ⟨b,0,none⟩),.slice Ac c.length cc,.map (some mb)] 123 (0,0)):=by rw[←hwx];exact World.alloc_heap_new _ _
   have HWX:=Lib.hid hwx
   have HW:=Lib.hid (hw.below hbx)
   have HM:=Lib.hid (hm.below hbx)
   have HB:=Lib.hid (hb.trans (hbx.mono hb.size))
   have HBN:=Lib.hid hbn
   have hzx:=heap_lt hbn
   have hm1:=hm.lt
   clear hw hm hb HS hwx hbx hbn
   have hwk:=HW.out
   obtain⟨_,_,OCC,_,_,hci,_⟩:=hwk
   have HCI:=Lib.hid hci
   clear hci
   obtain⟨⟨e0,e1,e2,e3⟩,_⟩:=cells4 HBN.out
   go_upto_region 4 with(rw[HWX.out])
   refine wp_region_held_drew (S:=fun w'=>Below wx.heap.size wx w') (by kernel_rfl) (mx_drew wx) (fun hS=>?_)
   have hD:=mx_drew wx
   obtain⟨wD,hwD⟩: ∃q,(wx).drew=q:=⟨_,rfl⟩
   rw[hwD]at hS hD⊢
   clear hwD
   refine takeE 0 22 ?_
   refine takeE 1 23 ?_
   refine ready1 2 (fun K hK=>?_)
   go_simp
   refine(HCT.out wD OCC (HCI.out.below hD)).mono ?_
   rintro e w' ⟨rfl,rfl⟩
   refine hK.out _ _ hS (fun _=>?_)
   clear hK
   refine takeE 3 25 ?_
   refine takeU 4 26 ?_
   refine takeU 5 27 ?_
   refine takeU 6 28 ?_
   refine takeU 7 29 ?_
   refine takeE 8 30 ?_
   refine takeE 9 8 ?_
   refine takeE 10 9 ?_
   refine wpAnyH_done (by kernel_rfl) ?_ _
   have HB2:=Lib.hid (HB.out.trans (hS.mono HB.out.size))
   clear hS hD
   go_wp2_with fail
   go_ret2
   exact⟨rfl,HB2.out⟩
  | true=>
   rw[Bool.true_and]
   have hl:=HV.out l (List.contains_iff_mem.1 hcb)
   rw[HSI.out.val]at hl
   obtain⟨p,x,hp,hle,hlv⟩:=HSI.out.fal hl
   have HC:=Lib.hid (fun(mb:Nat) (W:World) (hw:Wk W a b mb A T (.slice Ac c.length cc) c) (hm:MapAt W mb 0 (fun _=>0))=>imp_all a b mb A T its Ac cc c (0+2*zer its (fun _=>0)) HSI.out (by have:=zer_le its (fun _=>0);omega) hs p x hp W _ 0 hw hm (fun q y _ _=>.inl rfl) (Nat.le_refl _))
   rw[hlv]at HC
   obtain⟨ib,hib⟩: ∃z,impl15 A T c (litV l:Nat)=z:=⟨_,rfl⟩
   rw[hib]at HC⊢
   clear hib hlv hl hcb hp hle
   go_enter Tryz.func27,Tryz.ntmps27
   go_wp2_with fail
   refine HS.out.mono ?_
   rintro e w1 ⟨⟨mb,rfl,hw,hm,hmb⟩,hb⟩
   obtain⟨wx,hwx⟩: ∃x,w1.alloc (.cells #[.pointer (some ⟨a,0,none⟩),.pointer (some ⟨b,0,none⟩),.slice Ac c.length cc,.map (some mb)] 123)=x:=⟨_,rfl⟩
   have hbx:Below w1.heap.size w1 wx:=by rw[←hwx];exact mx_al _ _
   have hbn:wx.heap[w1.heap.size]? =some (.cells #[.pointer (some ⟨a,0,none⟩),.pointer (some ⟨b,0,none⟩),.slice Ac c.length cc,.map (some mb)] 123 (0,0)):=by rw[←hwx];exact World.alloc_heap_new _ _
   have HWX:=Lib.hid hwx
   have HW:=Lib.hid (hw.below hbx)
   have HM:=Lib.hid (hm.below hbx)
   have HB:=Lib.hid (hb.trans (hbx.mono hb.size))
   have HBN:=Lib.hid hbn
   have hzx:=heap_lt hbn
   have hm1:=hm.lt
   clear hw hm hb HS hwx hbx hbn
   have hwk:=HW.out
   obtain⟨_,_,OCC,_,_,hci,_⟩:=hwk
   have HCI:=Lib.hid hci
   clear hci
   obtain⟨⟨e0,e1,e2,e3⟩,_⟩:=cells4 HBN.out
   go_upto_region 4 with(rw[HWX.out])
   refine wp_region_held_drew (S:=fun w'=>Kept (fun g=>g=mb) wx w') (by kernel_rfl) (Kept.of_below (mx_drew wx)) (fun hS=>?_)
   have hD:=mx_drew wx
   obtain⟨wD,hwD⟩: ∃q,(wx).drew=q:=⟨_,rfl⟩
   rw[hwD]at hS hD⊢
   clear hwD
   refine takeE 0 22 ?_
   refine takeE 1 23 ?_
   refine ready1 2 (fun K hK=>?_)
   go_simp
   refine(HCT.out wD OCC (HCI.out.below hD)).mono ?_
   rintro e w' ⟨rfl,rfl⟩
   refine hK.out _ _ hS (fun _=>?_)
   clear hK
   refine takeE 3 25 ?_
   refine takeF 4 26 (fun wq hSw=>And.intro ((hSw.cell (p:=⟨w1.heap.size,0,none⟩) hzx (Nat.ne_of_gt hm1)).trans e0) (And.intro ((hSw.cell (p:=⟨w1.heap.size,1,none⟩) hzx (Nat.ne_of_gt hm1)).trans e1) (And.intro ((hSw.cell (p:=⟨w1.heap.size,2,none⟩) hzx (Nat.ne_of_gt hm1)).trans e2) ((hSw.cell (p:=⟨w1.heap.size,3,none⟩) hzx (Nat.ne_of_gt hm1)).trans e3)))) ?_
   refine takeE 5 27 ?_
   refine ready1 6 (fun K hK=>?_)
   go_simp
   refine(HLV.out wD).mono ?_
   rintro e w' ⟨rfl,rfl⟩
   refine hK.out _ _ hS (fun _=>?_)
   clear hK
   refine ready1 7 (fun K hK=>?_)
   go_simp
   refine(HC.out mb wD (HW.out.below hD) (HM.out.below hD)).mono ?_
   rintro e w3 ⟨f3,k3,rfl,_,_,_,_,hk⟩
   have hSN:=hS.trans (O:=fun g=>g=mb) hk (fun _ _ h=>h)
   refine hK.out _ _ hSN (fun _=>?_)
   clear hK hS hk
   have hS:=hSN
   clear hSN
   refine takeE 8 30 ?_
   refine takeE 9 8 ?_
   refine takeE 10 9 ?_
   refine wpAnyH_done (by kernel_rfl) ?_ _
   have HB2:=Lib.hid (HB.out.trans (hS.below (B:=w.heap.size) (fun i e=>by omega) (by have:=HB.out.size;omega)))
   clear hS hD
   go_wp2_with fail
   go_ret2
   exact⟨rfl,HB2.out⟩
 ·
  have q0:((FE:Int) != 0)=true:=by simp;omega
  rw[if_neg h0]
  go_enter Tryz.func27,Tryz.ntmps27
  go_wp2_with fail
  refine HS.out.mono ?_
  rintro e w1 ⟨⟨mb,rfl,hw,hm,hmb⟩,hb⟩
  have HB:=Lib.hid hb
  clear hw hm hb HS
  go_wp2_with fail
  go_ret2
  exact⟨rfl,HB.out.trans ((mx_al _ _).mono HB.out.size)⟩
end Go.Proofs.YtoojmhjagipmdaaGreat
