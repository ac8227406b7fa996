/- The trail: New. analyze: right. -/
import Derived.Test.YtoojmhjagipmdaaGreatV304
import Derived.Laws.OwnMore
namespace Go.Proofs.YtoojmhjagipmdaaGreat
open Go.RowKit
theorem tinfo_state:(Tryz.prog.info? 150).map (fun i=>(i.zero,i.size,i.bytes))=some (some (.agg #[.int .i64 0,.int .i64 0,.int .i64 0,.int .i64 0]),4,32):=by kernel_rfl
theorem made_state (m:Nat):(madeCells (Value.agg #[.int .i64 0,.int .i64 0,.int .i64 0,.int .i64 0]).cells (m*4)).toList=(List.replicate m (⟨0,0,0,0⟩:TV)).flatMap TV.cells:=by
 apply List.ext_getElem?
 intro q
 rw[tvCells_div,List.getElem?_replicate,Array.getElem?_toList]
 have hz:(Value.agg #[.int .i64 0,.int .i64 0,.int .i64 0,.int .i64 0]).cells= #[.int .i64 0,.int .i64 0,.int .i64 0,.int .i64 0]:=rfl
 rw[hz]
 unfold madeCells
 rw[Array.getElem?_map]
 by_cases hq:q<m*4
 ·rw[if_pos (show q/4<m by omega),Array.getElem?_range,if_pos hq]
  have h4:q%4=0∨q%4=1∨q%4=2∨q%4=3:=by omega
  rcases h4 with e|e|e|e
  all_goals
   show some (#[Value.int .i64 0,.int .i64 0,.int .i64 0,.int .i64 0][q%4]!)=_
   rw[e]
   rfl
 ·rw[if_neg (show¬q/4<m by omega),Array.getElem?_range,if_neg hq]
  rfl
set_option maxRecDepth 100000 in
set_option maxHeartbeats 1000000 in
theorem tr_new (n:Nat) (w:World) (hn:n≤1048576):
  Calls Tryz.prog 101 #[.int .i64 (n:Int)] w fun e w'=> ∃b,e= .returned (.tuple #[.pointer (some ⟨b,0,none⟩),.int .i64 0])∧TrAt (fun g=>w.heap.size≤g∧g<w'.heap.size) w' b ⟨List.replicate (n+1) ⟨0,0,0,0⟩,[],[0]⟩∧Below w.heap.size w w':=by
 have q0:decide ((n:Int)<0)=false:=by simp
 have q1:decide ((1048576:Int)<(n:Int))=false:=by simp;omega
 obtain⟨i0,hi0,hz0,hz1,hz2⟩:=info_parts tinfo_state
 obtain⟨w1,hrun,hown,hgr⟩:=run_make_full (P:=Tryz.prog) (w:=w) w.heap.size 151 150 i0 _ 4 Tryz.underlying151 hi0 hz0 hz1 .i64 .i64 (n+1) (by rw[hz2];omega) (by unfold maxLen;omega) (Nat.le_refl _)
 rw[made_state]at hown
 rw[show((n+1:Nat):Int)=(n:Int)+1 from by omega]at hrun
 have hk1:Below w.heap.size w w1:=(Below.refl _ _).grown hgr (Nat.le_refl _) (fun g hg=>by cases hg)
 have HOWN:=Lib.hid hown
 have HK1:=Lib.hid hk1
 have hz:=hk1.size
 have hg1:=(own_lt hown w.heap.size rfl).2
 clear hown hgr hk1 hi0 hz0 hz1 hz2
 clear i0
 go_enter Tryz.func101,Tryz.ntmps101
 go_wp2_with fail
 obtain⟨w2,hw2⟩: ∃x,w1.alloc (.cells #[.int .i64 0] 3)=x:=⟨_,rfl⟩
 have hb2:Below w1.heap.size w1 w2:=by rw[←hw2];exact mx_al _ _
 have ho2:w2.ownsRow 0 3 1 (.slice (some ⟨w1.heap.size,0,none⟩) 1 1) 1 [.int .i64 0]:=by
  rw[←hw2]
  exact⟨rfl,.inr ⟨w1.heap.size,1,#[.int .i64 0],rfl,Nat.zero_le _,World.alloc_heap_new _ _,Nat.le_refl _,by decide,rfl,rfl⟩⟩
 have hz2:w2.heap.size=w1.heap.size+1:=by rw[←hw2];simp
 obtain⟨w3,hw3⟩: ∃x,w2.alloc (.cells #[.slice (some ⟨w.heap.size,0,none⟩) (n+1) (n+1),.slice none 0 0,.slice (some ⟨w1.heap.size,0,none⟩) 1 1,.bool true] 153)=x:=⟨_,rfl⟩
 have hb3:Below w2.heap.size w2 w3:=by rw[←hw3];exact mx_al _ _
 have hn3:w3.heap[w2.heap.size]? =some (.cells #[.slice (some ⟨w.heap.size,0,none⟩) (n+1) (n+1),.slice none 0 0,.slice (some ⟨w1.heap.size,0,none⟩) 1 1,.bool true] 153 (0,0)):=by rw[←hw3];exact World.alloc_heap_new _ _
 have hz3:w3.heap.size=w2.heap.size+1:=by rw[←hw3];simp
 rw[hw2,hw3]
 go_ret2
 refine⟨w2.heap.size,by rw[hz2];rfl,⟨⟨?_,by simp,by simp,fun s hs=>?_⟩,w.heap.size,n+1,.slice none 0 0,.slice (some ⟨w1.heap.size,0,none⟩) 1 1,⟨fun g hg=>hg.2,⟨by omega,by omega⟩,⟨Nat.le_refl _,by omega⟩,?_,?_,World.ownsRow_nil _ _ _ _,(fun g hg=>by cases hg),own_below ho2 hb3,fun g hg=>?_⟩⟩,HK1.out.trans ((hb2.trans (hb3.mono hb2.size)).mono HK1.out.size)⟩
 ·show 1≤(List.replicate (n+1) _).length∧(List.replicate (n+1) _).length≤1048577
  rw[List.length_replicate]
  omega
 ·rw[List.eq_of_mem_replicate hs]
  exact .inl rfl
 ·show w3.heap[w2.heap.size]? =some (.cells #[.slice _ (List.replicate (n+1) _).length _,_,_,_] _ _)
  rw[List.length_replicate]
  exact hn3
 ·show w3.ownsRow 0 _ 4 (.slice _ (List.replicate (n+1) _).length _) (List.replicate (n+1) _).length _
  rw[List.length_replicate]
  exact own_mono (own_below (own_below HOWN.out hb2) hb3) (Nat.zero_le _)
 ·obtain rfl:w1.heap.size=g:=Option.some.inj hg
  omega
end Go.Proofs.YtoojmhjagipmdaaGreat
namespace Go.Proofs.YtoojmhjagipmdaaGreat
open Go.RowKit
theorem wk_level {O:Nat→Prop} (a b:Nat) (m:Option Nat) (T:Trl) (v:Int) (w:World) (h:TrAt O w b T):
  Calls Tryz.prog 82 #[.agg #[.pointer (some ⟨a,0,none⟩),.pointer (some ⟨b,0,none⟩),.map m],.int .i64 v] w fun e w'=>e= .returned (.int .i64 (T.level v))∧Below w.heap.size w w':=by
 have hba:=mx_al w (.cells #[.pointer (some ⟨a,0,none⟩),.pointer (some ⟨b,0,none⟩),.map m] 111)
 have HC:=Lib.hid (tr_level b T v _ (h.below hba))
 have HBA:=Lib.hid hba
 clear hba h
 go_enter Tryz.func82,Tryz.ntmps82
 go_wp2_with fail
 refine HC.out.mono ?_
 rintro e w' ⟨rfl,hb'⟩
 have HB':=Lib.hid (HBA.out.trans (hb'.mono HBA.out.size))
 clear hb'
 go_wp2_with fail
 go_ret
 exact⟨rfl,HB'.out⟩
def Trl.failMax (T:Trl):List Int→Int→Option Int
 | [],m=>some m
 | l::c,m=>if 0≤T.val l then none else T.failMax c (max m (T.level (litV l)))
theorem wk_fails_none {Oa:Nat→Prop} (a b:Nat) (m:Option Nat) (A:Arn) (id:Int) (w:World) (ha:ArAt Oa w a A) (hg:A.get id=none):
  Calls Tryz.prog 61 #[.agg #[.pointer (some ⟨a,0,none⟩),.pointer (some ⟨b,0,none⟩),.map m],.int .i64 id] w fun e w'=>e= .returned (.tuple #[.slice none 0 0,.int .i64 0,.int .i64 30])∧Below w.heap.size w w':=by
 have hba:=mx_al w (.cells #[.pointer (some ⟨a,0,none⟩),.pointer (some ⟨b,0,none⟩),.map m] 111)
 have HC:=Lib.hid (ar_get_none a A id _ (ha.below hba) hg)
 have HBA:=Lib.hid hba
 clear hba ha hg
 go_enter Tryz.func61,Tryz.ntmps61
 go_wp2_with fail
 refine HC.out.mono ?_
 rintro e w' ⟨rfl,hb'⟩
 have HB':=Lib.hid (HBA.out.trans (hb'.mono HBA.out.size))
 clear hb'
 go_wp2_with fail
 go_ret3
 exact⟨rfl,HB'.out⟩
set_option maxRecDepth 100000 in
set_option maxHeartbeats 2000000 in
theorem wk_fails {O Oa:Nat→Prop} (a b:Nat) (m:Option Nat) (A:Arn) (T:Trl) (id:Int) (c:List Int) (w:World) (ha:ArAt Oa w a A) (h:TrAt O w b T) (hg:A.get id=some c) (hcl:c.length≤4194304):
  Calls Tryz.prog 61 #[.agg #[.pointer (some ⟨a,0,none⟩),.pointer (some ⟨b,0,none⟩),.map m],.int .i64 id] w fun e w'=>((∃v n,T.failMax c 0=some n∧e= .returned (.tuple #[v,.int .i64 n,.int .i64 0])∧w'.ownsRow w.heap.size 32 1 v c.length (c.map (Value.int .i64)))∨(T.failMax c 0=none∧e= .returned (.tuple #[.slice none 0 0,.int .i64 0,.int .i64 140])))∧Below w.heap.size w w':=by
 obtain⟨wa,hwa⟩: ∃z,w.alloc (.cells #[.pointer (some ⟨a,0,none⟩),.pointer (some ⟨b,0,none⟩),.map m] 111)=z:=⟨_,rfl⟩
 have hba:Below w.heap.size w wa:=by rw[←hwa];exact mx_al _ _
 have hbn:wa.heap[w.heap.size]? =some (.cells #[.pointer (some ⟨a,0,none⟩),.pointer (some ⟨b,0,none⟩),.map m] 111 (0,0)):=by rw[←hwa];exact World.alloc_heap_new _ _
 have HC:=Lib.hid (ar_get a A id c wa (ha.below hba) hg)
 have HT:=Lib.hid (h.below hba)
 have HBA:=Lib.hid hba
 have e0:wa.cell? ⟨w.heap.size,0,none⟩=some (.pointer (some ⟨a,0,none⟩)):=mx_cell (j:=0) hbn
 have HBN:=Lib.hid hbn
 have HWA:=Lib.hid hwa
 have hzw:w.heap.size<wa.heap.size:=heap_lt hbn
 clear hba ha hg h hwa hbn
 go_enter Tryz.func61,Tryz.ntmps61
 go_wp2_with (rw[HWA.out])
 refine HC.out.mono ?_
 rintro e w1 ⟨v,rfl,hown,hb1⟩
 obtain⟨Av,cv,rfl,hcv⟩:=mx_slice hown
 have HOW:=Lib.hid hown
 have HB1:=Lib.hid hb1
 have hz1:=hb1.size
 clear hown hb1 HC
 go_wp2_with fail
 go_loopw [24,9] (fun i n wr=> ∃(k:Nat) (x:Int),k≤c.length∧i= .int .i64 k∧n= .int .i64 x∧Hid (T.failMax c 0=T.failMax (c.drop k) x)∧Hid (Below w1.heap.size w1 wr)) (fun i _ _=>c.length-(intOf i).toNat)
 case atStart=>exact⟨0,0,Nat.zero_le _,rfl,rfl,Lib.hid rfl,Lib.hid (Below.refl _ _)⟩
 case round=>
  obtain⟨k,x,hk,rfl,rfl,HF,HW⟩:=hrel
  by_cases hlt:k<c.length
  ·
   obtain⟨l,hl⟩:=getElem_of hlt
   obtain⟨gv,cv',cs0,hvv,_,hgb,hgl,_⟩:=mx_some HOW.out (by omega)
   simp only[Value.slice.injEq]at hvv
   obtain⟨rfl,_,rfl⟩:=hvv
   have d0:wr.cell? ⟨gv,k,none⟩=some (.int .i64 l):=(HW.out.cell (p:=⟨gv,k,none⟩) hgl).trans (mx_at HOW.out (by rw[List.getElem?_map,hl];rfl))
   have hbr:=HB1.out.trans (HW.out.mono hz1)
   have hbk:=(hbr.block w.heap.size hzw).trans HBN.out
   have d1:wr.cell? ⟨w.heap.size,1,none⟩=some (.pointer (some ⟨b,0,none⟩)):=mx_cell (j:=1) hbk
   have hdk:c.drop k=l::c.drop (k+1):=by
    rw[List.drop_eq_getElem_cons hlt]
    rw[List.getElem?_eq_getElem hlt]at hl
    rw[Option.some.inj hl]
   have hTr:=HT.out.below hbr
   have HV:=Lib.hid (tr_value b T l wr hTr)
   have HTR:=Lib.hid hTr
   have HBK:=Lib.hid hbk
   have hzr:=hbr.size
   clear hl hbr hbk hTr
   by_cases hv:0≤T.val l
   ·
    have q0:decide (0≤T.val l)=true:=by simpa using hv
    have HN:=Lib.hid (show T.failMax c 0=none from by rw[HF.out,hdk];exact if_pos hv)
    clear hv hdk
    go_wp2_with fail
    refine HV.out.mono ?_
    rintro e w2 ⟨rfl,hb2⟩
    have HB2:=Lib.hid (HW.out.trans (hb2.mono HW.out.size))
    clear hb2
    go_wp2_with fail
    go_ret3
    exact⟨.inr ⟨HN.out,rfl⟩,HBA.out.trans ((HB1.out.trans (HB2.out.mono hz1)).mono HBA.out.size)⟩
   ·
    have q0:decide (0≤T.val l)=false:=by simpa using hv
    have HN:=Lib.hid (show T.failMax c 0=T.failMax (c.drop (k+1)) (max x (T.level (litV l)))from by rw[HF.out,hdk];exact if_neg hv)
    clear hv hdk
    have d2:wr.cell? ⟨w.heap.size,0,none⟩=some (.pointer (some ⟨a,0,none⟩)):=mx_cell (j:=0) HBK.out
    have d3:wr.cell? ⟨w.heap.size,2,none⟩=some (.map m):=mx_cell (j:=2) HBK.out
    go_wp2_with fail
    refine HV.out.mono ?_
    rintro e w2 ⟨rfl,hb2⟩
    have HB2:=Lib.hid (HW.out.trans (hb2.mono HW.out.size))
    have hz2:=hb2.size
    replace d1:=(hb2.cell (p:=⟨w.heap.size,1,none⟩) (show w.heap.size<wr.heap.size by omega)).trans d1
    replace d2:=(hb2.cell (p:=⟨w.heap.size,0,none⟩) (show w.heap.size<wr.heap.size by omega)).trans d2
    replace d3:=(hb2.cell (p:=⟨w.heap.size,2,none⟩) (show w.heap.size<wr.heap.size by omega)).trans d3
    have HTR2:=Lib.hid (HTR.out.below hb2)
    clear hb2 d0
    go_upto_region 10 with fail
    refine wp_region_held_drew (S:=fun w'=>w'.cell? ⟨w.heap.size,0,none⟩=some (.pointer (some ⟨a,0,none⟩))∧w'.cell? ⟨w.heap.size,1,none⟩=some (.pointer (some ⟨b,0,none⟩))∧w'.cell? ⟨w.heap.size,2,none⟩=some (.map m)) (by kernel_rfl) ⟨d2,d1,d3⟩ (fun hHeld=>?_)
    have hbD:=mx_drew w2
    obtain⟨wD,hwD⟩: ∃x,w2.drew=x:=⟨_,rfl⟩
    rw[hwD]at hHeld hbD⊢
    have HBD:=Lib.hid (HB2.out.trans (hbD.mono (HB2.out.size)))
    have HTD:=Lib.hid (HTR2.out.below hbD)
    have hzD:=hbD.size
    clear hwD hbD d1 d2 d3
    refine takeS 0 33 ?_
    refine takeS 1 34 ?_
    refine takeS 2 35 ?_
    refine ready1 3 (fun K hK=>?_)
    go_simp
    refine(lit_var l wD).mono ?_
    rintro e w' ⟨rfl,rfl⟩
    refine hK.out _ _ hHeld (fun hHeld1=>?_)
    clear hK hHeld1
    refine ready1 4 (fun K hK=>?_)
    go_simp
    refine(wk_level a b m T (litV l:Nat) wD HTD.out).mono ?_
    rintro e w3 ⟨rfl,hb3⟩
    obtain⟨y,hy⟩: ∃y,T.level (litV l:Nat)=y:=⟨_,rfl⟩
    rw[hy]at HN⊢
    have hzW:w.heap.size<wD.heap.size:=by omega
    have hH3:=hHeld
    obtain⟨u0,u1,u2⟩:=hH3
    have hHeld3:w3.cell? ⟨w.heap.size,0,none⟩=some (.pointer (some ⟨a,0,none⟩))∧w3.cell? ⟨w.heap.size,1,none⟩=some (.pointer (some ⟨b,0,none⟩))∧w3.cell? ⟨w.heap.size,2,none⟩=some (.map m):=⟨(hb3.cell (p:=⟨w.heap.size,0,none⟩) hzW).trans u0,(hb3.cell (p:=⟨w.heap.size,1,none⟩) hzW).trans u1,(hb3.cell (p:=⟨w.heap.size,2,none⟩) hzW).trans u2⟩
    refine hK.out _ _ hHeld3 (fun hHeld1=>?_)
    have HB3:=Lib.hid (HBD.out.trans (hb3.mono HBD.out.size))
    clear hK hHeld1 hHeld hb3 u0 u1 u2
    refine takeS 5 38 ?_
    refine takeS 6 9 ?_
    refine wpAnyH_done (by kernel_rfl) ?_ _
    go_wp2_with fail
    go_roundw
    case rel=>exact⟨k+1,max x y,by omega,by go_num,by first|rfl|(congr 1;omega),HN,HB3⟩
    case measure=>simp[intOf];omega
  ·
   obtain rfl:k=c.length:=by omega
   have HN:=Lib.hid (show T.failMax c 0=some x from by rw[HF.out,List.drop_length];rfl)
   go_wp2_with fail
   go_ret3
   exact⟨.inl ⟨_,_,HN.out,rfl,own_mono (own_kept HOW.out (Kept.of_below (O:=fun _=>False) HW.out) (fun _ _ h=>h)) HBA.out.size⟩,HBA.out.trans ((HB1.out.trans (HW.out.mono hz1)).mono HBA.out.size)⟩
end Go.Proofs.YtoojmhjagipmdaaGreat
namespace Go.Proofs.YtoojmhjagipmdaaGreat
open Go.RowKit
def metF (ms:List Int) (z:Int):Int:=if ms.contains z then 1 else 0
theorem metF_put (l:List Int) (x:Int):(fun z=>if z=x then(1:Int)else metF l z)=metF (l++ [x]):=by
 funext z
 unfold metF
 by_cases h:z=x
 ·
  simp[h]
 ·
  simp[h]
theorem metF_zero (l:List Int) (x:Int):(metF l x==0)= !l.contains x:=by
 unfold metF
 cases l.contains x <;> simp
theorem litV_le (l:Int):litV l≤1048576:=by
 unfold litV
 split
 ·
  rename_i h
  have:=(litB_iff l).1 h
  omega
 ·
  omega
def Trl.meetGo (T:Trl) (wo lv:Int):List Int→List Int→Nat→List Int×Nat
 | [],ms,n=>(ms,n)
 | l::c,ms,n=>if(litV l:Int)≠wo∧ms.contains (litV l:Int)=false then T.meetGo wo lv c (ms++ [(litV l:Int)]) (if T.level (litV l:Nat)=lv then n+1 else n+0)else T.meetGo wo lv c ms n
set_option maxRecDepth 100000 in
set_option maxHeartbeats 2000000 in
theorem wk_meet {O Oc:Nat→Prop} (a b mb kk0:Nat) (T:Trl) (cv:Value) (c ms0:List Int) (wo lv:Int) (w:World) (h:TrAt O w b T) (hc:IntsIn Oc w cv c) (hm:MapAt w mb kk0 (metF ms0)) (hnb: ¬O mb) (hnc: ¬Oc mb) (hkk:kk0+c.length≤140737488355328):
  Calls Tryz.prog 80 #[.agg #[.pointer (some ⟨a,0,none⟩),.pointer (some ⟨b,0,none⟩),.map (some mb)],cv,.int .i64 wo,.int .i64 lv] w fun e w'=>e= .returned (.int .i64 ((T.meetGo wo lv c ms0 0).2:Nat))∧(∃kk,kk≤kk0+c.length∧MapAt w' mb kk (metF (T.meetGo wo lv c ms0 0).1))∧Kept (fun g=>g=mb) w w':=by
 obtain⟨wa,hwa⟩: ∃z,w.alloc (.cells #[.pointer (some ⟨a,0,none⟩),.pointer (some ⟨b,0,none⟩),.map (some mb)] 111)=z:=⟨_,rfl⟩
 have hba:Below w.heap.size w wa:=by rw[←hwa];exact mx_al _ _
 have hbn:wa.heap[w.heap.size]? =some (.cells #[.pointer (some ⟨a,0,none⟩),.pointer (some ⟨b,0,none⟩),.map (some mb)] 111 (0,0)):=by rw[←hwa];exact World.alloc_heap_new _ _
 have hmb:=hm.lt
 have hnm:w.heap.size≠mb:=by omega
 have HT:=Lib.hid (h.below hba)
 have HCI:=Lib.hid (hc.below hba)
 have HM0:=Lib.hid (hm.below hba)
 have HBA:=Lib.hid hba
 have HBN:=Lib.hid hbn
 have HWA:=Lib.hid hwa
 have HNB:=Lib.hid hnb
 have HNC:=Lib.hid hnc
 have hzw:w.heap.size<wa.heap.size:=heap_lt hbn
 obtain⟨Ac,cc,rfl,hcc,_,_⟩:=hc
 clear hba h hm hwa hbn hnb hnc
 go_enter Tryz.func80,Tryz.ntmps80
 go_wp2_with (rw[HWA.out])
 go_loopw [15,9] (fun i x wr=> ∃(k n kk:Nat) (ms:List Int),k≤c.length∧n≤k∧kk≤kk0+k∧i= .int .i64 k∧x= .int .i64 n∧Hid (T.meetGo wo lv c ms0 0=T.meetGo wo lv (c.drop k) ms n)∧Hid (Kept (fun g=>g=mb) wa wr)∧Hid (MapAt wr mb kk (metF ms))) (fun i _ _=>c.length-(intOf i).toNat)
 case atStart=>exact⟨0,0,kk0,ms0,Nat.zero_le _,Nat.le_refl _,Nat.le_refl _,rfl,rfl,Lib.hid rfl,Lib.hid (Kept.refl _ _),HM0⟩
 case round=>
  obtain⟨k,n,kk,ms,hk,hnk,hkk2,rfl,rfl,HG,HW,HMP⟩:=hrel
  by_cases hlt:k<c.length
  ·
   obtain⟨l,hl⟩:=getElem_of hlt
   obtain⟨A',c',hAc,_,_,hxs⟩:=HCI.out
   simp only[Value.slice.injEq,true_and]at hAc
   obtain⟨rfl,rfl⟩:=hAc
   obtain⟨g,o,rfl,hg,hgo,d0'⟩:=hxs k l hl
   have d0:wr.cell? ⟨g,o+k,none⟩=some (.int .i64 l):=(HW.out.cell (p:=⟨g,o+k,none⟩) hg (fun e=>HNC.out (by rw[←e];exact hgo))).trans d0'
   have d2:wr.cell? ⟨w.heap.size,2,none⟩=some (.map (some mb)):=(HW.out.cell (p:=⟨w.heap.size,2,none⟩) hzw hnm).trans (mx_cell (j:=2) HBN.out)
   have hdk:c.drop k=l::c.drop (k+1):=by
    rw[List.drop_eq_getElem_cons hlt]
    rw[List.getElem?_eq_getElem hlt]at hl
    rw[Option.some.inj hl]
   have hlv:=litV_le l
   have hwx:(Lit.int .i64 (litV l:Nat)).wf=true:=wf64 (by omega) (by omega)
   have HWX:=Lib.hid hwx
   have hlk:=HMP.out.lookup hwx
   have hz0:=metF_zero ms (litV l:Nat)
   clear hl d0' hgo hxs hwx
   by_cases hvw:(litV l:Int)≠wo
   ·
    have q1:((litV l:Int) != wo)=true:=by simpa using hvw
    cases hms:ms.contains (litV l:Int)with
    | false=>
     rw[hms]at hz0
     by_cases hle:T.level (litV l:Nat)=lv
     ·
      have HMG:=Lib.hid (show T.meetGo wo lv c ms0 0=T.meetGo wo lv (c.drop (k+1)) (ms++ [(litV l:Int)]) (n+1)from by
       rw[HG.out,hdk]
       exact(if_pos ⟨hvw,hms⟩).trans (by rw[if_pos hle]))
      have q3:(T.level (litV l:Nat)==lv)=true:=by simpa using hle
      clear hvw hms hle hdk
      go_wp2_with fail
      refine(lit_var l wr).mono ?_
      rintro e w2 ⟨rfl,rfl⟩
      go_wp2_with (at_mapUpdate;refine wpList_put HMP.out rfl _ _ _ rfl rfl (by unfold maxLen;omega) (litV l:Nat) 1 rfl rfl HWX.out rfl ?_;intro w4 hm4 hg4;have hk4:Kept (fun g=>g=mb) wa w4:=HW.out.trans (Kept.grown hg4) (fun i _ e=>(Option.some.inj e));have hm4':MapAt w4 mb (kk+1) (metF (ms++ [(litV l:Int)])):=(by rw[←metF_put];exact hm4);have HK4:=Lib.hid hk4;have HM4:=Lib.hid hm4';have e0:w4.cell? ⟨w.heap.size,0,none⟩=some (.pointer (some ⟨a,0,none⟩)):=(hk4.cell (p:=⟨w.heap.size,0,none⟩) hzw hnm).trans (mx_cell (j:=0) HBN.out);have e1:w4.cell? ⟨w.heap.size,1,none⟩=some (.pointer (some ⟨b,0,none⟩)):=(hk4.cell (p:=⟨w.heap.size,1,none⟩) hzw hnm).trans (mx_cell (j:=1) HBN.out);have e2:w4.cell? ⟨w.heap.size,2,none⟩=some (.map (some mb)):=(hk4.cell (p:=⟨w.heap.size,2,none⟩) hzw hnm).trans (mx_cell (j:=2) HBN.out);have HL:=Lib.hid (wk_level a b (some mb) T (litV l:Nat) w4 (HT.out.kept hk4 (fun g hg e=>HNB.out (by rw[←e];exact hg))));clear hm4 hm4' hg4 hk4 hlk d2)
      refine HL.out.mono ?_
      rintro e w5 ⟨rfl,hb5⟩
      have HK5:=Lib.hid (HK4.out.trans (O:=fun g=>g=mb) (Kept.of_below (O:=fun _=>False) hb5) (fun _ _ h=>h.elim))
      have HM5:=Lib.hid (HM4.out.below hb5)
      clear hb5
      go_wp2_with fail
      go_roundw
      case rel=>exact⟨k+1,n+1,kk+1,ms++ [(litV l:Int)],by omega,by omega,by omega,by go_num,by go_num,HMG,HK5,HM5⟩
      case measure=>simp[intOf];omega
     ·
      have HMG:=Lib.hid (show T.meetGo wo lv c ms0 0=T.meetGo wo lv (c.drop (k+1)) (ms++ [(litV l:Int)]) (n+0)from by
       rw[HG.out,hdk]
       exact(if_pos ⟨hvw,hms⟩).trans (by rw[if_neg hle]))
      have q3:(T.level (litV l:Nat)==lv)=false:=by simpa using hle
      clear hvw hms hle hdk
      go_wp2_with fail
      refine(lit_var l wr).mono ?_
      rintro e w2 ⟨rfl,rfl⟩
      go_wp2_with (at_mapUpdate;refine wpList_put HMP.out rfl _ _ _ rfl rfl (by unfold maxLen;omega) (litV l:Nat) 1 rfl rfl HWX.out rfl ?_;intro w4 hm4 hg4;have hk4:Kept (fun g=>g=mb) wa w4:=HW.out.trans (Kept.grown hg4) (fun i _ e=>(Option.some.inj e));have hm4':MapAt w4 mb (kk+1) (metF (ms++ [(litV l:Int)])):=(by rw[←metF_put];exact hm4);have HK4:=Lib.hid hk4;have HM4:=Lib.hid hm4';have e0:w4.cell? ⟨w.heap.size,0,none⟩=some (.pointer (some ⟨a,0,none⟩)):=(hk4.cell (p:=⟨w.heap.size,0,none⟩) hzw hnm).trans (mx_cell (j:=0) HBN.out);have e1:w4.cell? ⟨w.heap.size,1,none⟩=some (.pointer (some ⟨b,0,none⟩)):=(hk4.cell (p:=⟨w.heap.size,1,none⟩) hzw hnm).trans (mx_cell (j:=1) HBN.out);have e2:w4.cell? ⟨w.heap.size,2,none⟩=some (.map (some mb)):=(hk4.cell (p:=⟨w.heap.size,2,none⟩) hzw hnm).trans (mx_cell (j:=2) HBN.out);have HL:=Lib.hid (wk_level a b (some mb) T (litV l:Nat) w4 (HT.out.kept hk4 (fun g hg e=>HNB.out (by rw[←e];exact hg))));clear hm4 hm4' hg4 hk4 hlk d2)
      refine HL.out.mono ?_
      rintro e w5 ⟨rfl,hb5⟩
      have HK5:=Lib.hid (HK4.out.trans (O:=fun g=>g=mb) (Kept.of_below (O:=fun _=>False) hb5) (fun _ _ h=>h.elim))
      have HM5:=Lib.hid (HM4.out.below hb5)
      clear hb5
      go_wp2_with fail
      go_roundw
      case rel=>exact⟨k+1,n+0,kk+1,ms++ [(litV l:Int)],by omega,by omega,by omega,by go_num,by rfl,HMG,HK5,HM5⟩
      case measure=>simp[intOf];omega
    | true=>
     rw[hms]at hz0
     have HMG:=Lib.hid (show T.meetGo wo lv c ms0 0=T.meetGo wo lv (c.drop (k+1)) ms n from by
      rw[HG.out,hdk]
      exact if_neg (fun h=>by rw[hms]at h;exact absurd h.2 (by decide)))
     clear hvw hms hdk
     go_wp2_with fail
     refine(lit_var l wr).mono ?_
     rintro e w2 ⟨rfl,rfl⟩
     go_wp2_with fail
     go_roundw
     case rel=>exact⟨k+1,n,kk,ms,by omega,by omega,by omega,by go_num,rfl,HMG,HW,HMP⟩
     case measure=>simp[intOf];omega
   ·
    have q1:((litV l:Int) != wo)=false:=by simpa using hvw
    have HMG:=Lib.hid (show T.meetGo wo lv c ms0 0=T.meetGo wo lv (c.drop (k+1)) ms n from by
     rw[HG.out,hdk]
     exact if_neg (fun h=>hvw h.1))
    have hms:True:=trivial
    clear hvw hms hdk
    go_wp2_with fail
    refine(lit_var l wr).mono ?_
    rintro e w2 ⟨rfl,rfl⟩
    go_wp2_with fail
    go_roundw
    case rel=>exact⟨k+1,n,kk,ms,by omega,by omega,by omega,by go_num,rfl,HMG,HW,HMP⟩
    case measure=>simp[intOf];omega
  ·
   obtain rfl:k=c.length:=by omega
   have hG:=HG.out
   rw[List.drop_length]at hG
   have HN:=Lib.hid (show T.meetGo wo lv c ms0 0=(ms,n)from hG)
   clear hG
   go_wp2_with fail
   go_ret
   rw[HN.out]
   exact⟨rfl,⟨kk,hkk2,HMP.out⟩,(Kept.of_below HBA.out).trans (O:=fun g=>g=mb) HW.out (fun _ _ h=>h)⟩
end Go.Proofs.YtoojmhjagipmdaaGreat
namespace Go.Proofs.YtoojmhjagipmdaaGreat
open Go.RowKit
def Trl.before (T:Trl) (l at_:Int):List Int→Bool
 | []=>true
 | x::c=>if x≠l∧(0≤T.val x∨at_≤T.place (litV x:Nat))then false else T.before l at_ c
def rightP (A:Arn) (T:Trl) (l:Int):Option (Int×List Int):=match A.get (T.reason (litV l:Nat))with
 | none=>none
 | some c=>if(T.why (litV l:Nat)).isSome=true∧c.contains l=true∧T.before l (T.place (litV l:Nat)) c=true then some (T.reason (litV l:Nat),c)else none
theorem rightP_some {A:Arn} {T:Trl} {l r:Int} {c:List Int} (hr:T.reason (litV l:Nat)=r) (hg:A.get r=some c):rightP A T l=if(T.why (litV l:Nat)).isSome=true∧c.contains l=true∧T.before l (T.place (litV l:Nat)) c=true then some (r,c)else none:=by
 unfold rightP
 rw[hr,hg]
set_option maxRecDepth 100000 in
set_option maxHeartbeats 4000000 in
theorem wk_right {O Oa:Nat→Prop} (a b:Nat) (m:Option Nat) (A:Arn) (T:Trl) (l:Int) (w:World) (ha:ArAt Oa w a A) (h:TrAt O w b T) (hlen: ∀id c,A.get id=some c→c.length≤4194304):
  Calls Tryz.prog 60 #[.agg #[.pointer (some ⟨a,0,none⟩),.pointer (some ⟨b,0,none⟩),.map m],.int .i64 l] w fun e w'=>((∃id c v,rightP A T l=some (id,c)∧e= .returned (.tuple #[.int .i64 id,v,.bool true])∧w'.ownsRow w.heap.size 32 1 v c.length (c.map (Value.int .i64)))∨(rightP A T l=none∧e= .returned (.tuple #[.int .i64 0,.slice none 0 0,.bool false])))∧Below w.heap.size w w':=by
 obtain⟨wa,hwa⟩: ∃z,w.alloc (.cells #[.pointer (some ⟨a,0,none⟩),.pointer (some ⟨b,0,none⟩),.map m] 111)=z:=⟨_,rfl⟩
 have hba:Below w.heap.size w wa:=by rw[←hwa];exact mx_al _ _
 have hbn:wa.heap[w.heap.size]? =some (.cells #[.pointer (some ⟨a,0,none⟩),.pointer (some ⟨b,0,none⟩),.map m] 111 (0,0)):=by rw[←hwa];exact World.alloc_heap_new _ _
 have HAR:=Lib.hid (ha.below hba)
 have HT:=Lib.hid (h.below hba)
 have HBA:=Lib.hid hba
 have HBN:=Lib.hid hbn
 have HWA:=Lib.hid hwa
 have HLEN:=Lib.hid hlen
 have HB0:=Lib.hid (Below.refl wa.heap.size wa)
 have hzw:w.heap.size<wa.heap.size:=heap_lt hbn
 clear hba ha h hwa hbn hlen
 go_enter Tryz.func60,Tryz.ntmps60
 go_wp2_with (rw[HWA.out])
 obtain⟨r,hr⟩: ∃r,T.reason (litV l:Nat)=r:=⟨_,rfl⟩
 obtain⟨p,hp⟩: ∃p,T.place (litV l:Nat)=p:=⟨_,rfl⟩
 obtain⟨th,hth⟩: ∃t,(T.why (litV l:Nat)).isSome=t:=⟨_,rfl⟩
 have HRR:=Lib.hid hr
 have HPP:=Lib.hid hp
 have HTH:=Lib.hid hth
 clear hr hp hth
 go_upto_region 1 with fail
 refine wp_region_held_drew (S:=fun w'=>w'.cell? ⟨w.heap.size,1,none⟩=some (.pointer (some ⟨b,0,none⟩))) (by kernel_rfl) (((HB0.out.cell (p:=⟨w.heap.size,1,none⟩) hzw)).trans (mx_cell (j:=1) HBN.out)) (fun hHeld=>?_)
 have hbD:=mx_drew wa
 obtain⟨wD,hwD⟩: ∃x,(wa).drew=x:=⟨_,rfl⟩
 rw[hwD]at hHeld hbD⊢
 have HBD:=Lib.hid (HB0.out.trans (hbD.mono HB0.out.size))
 have hCALL:=tr_reason b T (litV l:Nat) wD (HT.out.below HBD.out)
 rw[HRR.out,HTH.out]at hCALL
 have HCALL:=Lib.hid hCALL
 clear hwD hbD hCALL
 refine takeF 0 18 (fun w hSw=>hSw) ?_
 refine takeF 1 19 (fun w hSw=>hSw) ?_
 refine takeF 2 20 (fun w hSw=>hSw) ?_
 refine ready1 3 (fun K hK=>?_)
 go_simp
 refine(lit_var l wD).mono ?_
 rintro e w' ⟨rfl,rfl⟩
 refine hK.out _ _ hHeld (fun hHeld1=>?_)
 clear hK hHeld1
 refine ready1 4 (fun K hK=>?_)
 go_simp
 refine HCALL.out.mono ?_
 rintro e w3 ⟨rfl,hb3⟩
 have hHeld3:(w3).cell? ⟨w.heap.size,1,none⟩=some (.pointer (some ⟨b,0,none⟩)):=(hb3.cell (p:=⟨w.heap.size,1,none⟩) (Nat.lt_of_lt_of_le hzw HBD.out.size)).trans hHeld
 refine hK.out _ _ hHeld3 (fun hHeld1=>?_)
 have HB3:=Lib.hid (HBD.out.trans (hb3.mono HBD.out.size))
 clear hK hHeld1 hHeld hb3 HCALL HBD
 refine takeF 5 17 (fun w hSw=>hSw) ?_
 refine takeF 6 23 (fun w hSw=>hSw) ?_
 refine takeF 7 24 (fun w hSw=>hSw) ?_
 refine takeF 8 7 (fun w hSw=>hSw) ?_
 refine takeF 9 8 (fun w hSw=>hSw) ?_
 refine wpAnyH_done (by kernel_rfl) ?_ _
 clear hHeld3
 go_upto_region 2 with fail
 refine wp_region_held_drew (S:=fun w'=>w'.cell? ⟨w.heap.size,1,none⟩=some (.pointer (some ⟨b,0,none⟩))) (by kernel_rfl) (((HB3.out.cell (p:=⟨w.heap.size,1,none⟩) hzw)).trans (mx_cell (j:=1) HBN.out)) (fun hHeld=>?_)
 have hbD:=mx_drew w3
 obtain⟨wD,hwD⟩: ∃x,(w3).drew=x:=⟨_,rfl⟩
 rw[hwD]at hHeld hbD⊢
 have HBD:=Lib.hid (HB3.out.trans (hbD.mono HB3.out.size))
 have hCALL:=tr_place b T (litV l:Nat) wD (HT.out.below HBD.out)
 rw[HPP.out,HTH.out]at hCALL
 have HCALL:=Lib.hid hCALL
 clear hwD hbD hCALL
 refine takeF 0 26 (fun w hSw=>hSw) ?_
 refine takeF 1 27 (fun w hSw=>hSw) ?_
 refine takeF 2 28 (fun w hSw=>hSw) ?_
 refine ready1 3 (fun K hK=>?_)
 go_simp
 refine(lit_var l wD).mono ?_
 rintro e w' ⟨rfl,rfl⟩
 refine hK.out _ _ hHeld (fun hHeld1=>?_)
 clear hK hHeld1
 refine ready1 4 (fun K hK=>?_)
 go_simp
 refine HCALL.out.mono ?_
 rintro e w4 ⟨rfl,hb3⟩
 have hHeld3:(w4).cell? ⟨w.heap.size,1,none⟩=some (.pointer (some ⟨b,0,none⟩)):=(hb3.cell (p:=⟨w.heap.size,1,none⟩) (Nat.lt_of_lt_of_le hzw HBD.out.size)).trans hHeld
 refine hK.out _ _ hHeld3 (fun hHeld1=>?_)
 have HB4:=Lib.hid (HBD.out.trans (hb3.mono HBD.out.size))
 clear hK hHeld1 hHeld hb3 HCALL HBD
 refine takeF 5 25 (fun w hSw=>hSw) ?_
 refine takeF 6 31 (fun w hSw=>hSw) ?_
 refine takeF 7 32 (fun w hSw=>hSw) ?_
 refine takeF 8 9 (fun w hSw=>hSw) ?_
 refine takeF 9 10 (fun w hSw=>hSw) ?_
 refine wpAnyH_done (by kernel_rfl) ?_ _
 clear hHeld3
 have d0:w4.cell? ⟨w.heap.size,0,none⟩=some (.pointer (some ⟨a,0,none⟩)):=(HB4.out.cell (p:=⟨w.heap.size,0,none⟩) hzw).trans (mx_cell (j:=0) HBN.out)
 rcases hg:A.get r with _|c
 ·
  have HN:=Lib.hid (show rightP A T l=none from by unfold rightP;rw[HRR.out,hg])
  have HG:=Lib.hid (ar_get_none a A r w4 (HAR.out.below HB4.out) hg)
  clear hg
  go_wp2_with fail
  refine HG.out.mono ?_
  rintro e w5 ⟨rfl,hb5⟩
  have HB5:=Lib.hid (HB4.out.trans (hb5.mono HB4.out.size))
  clear hb5 d0 HB3
  cases th
  ·
   go_wp2_with fail
   go_ret3
   exact⟨.inr ⟨HN.out,rfl⟩,HBA.out.trans (HB5.out.mono HBA.out.size)⟩
  ·
   go_wp2_with fail
   go_ret3
   exact⟨.inr ⟨HN.out,rfl⟩,HBA.out.trans (HB5.out.mono HBA.out.size)⟩
 ·
  have HRP:=Lib.hid (rightP_some HRR.out hg)
  have hcl:=HLEN.out r c hg
  have HG:=Lib.hid (ar_get a A r c w4 (HAR.out.below HB4.out) hg)
  clear hg
  go_wp2_with fail
  refine HG.out.mono ?_
  rintro e w5 ⟨v,rfl,hown,hb5⟩
  obtain⟨Av,cv,rfl,hcv⟩:=mx_slice hown
  have HB5:=Lib.hid (HB4.out.trans (hb5.mono HB4.out.size))
  have hcn:=contains_c _ c l w5 (IntsIn.of_own (hown)) (by omega)
  have HOW:=Lib.hid (own_mono hown (Nat.le_of_lt (Nat.lt_of_lt_of_le hzw HB4.out.size)))
  clear hb5 d0 HB3 HG hown
  cases th
  ·
   have HN:=Lib.hid (show rightP A T l=none from by rw[HRP.out];exact if_neg (fun h=>by rw[HTH.out]at h;cases h.1))
   go_wp2_with fail
   go_ret3
   exact⟨.inr ⟨HN.out,rfl⟩,HBA.out.trans (HB5.out.mono HBA.out.size)⟩
  ·
   cases hco:c.contains l with
   | false=>
    have HN:=Lib.hid (show rightP A T l=none from by rw[HRP.out];exact if_neg (fun h=>by rw[hco]at h;cases h.2.1))
    rw[hco]at hcn
    have HCN:=Lib.hid hcn
    clear hcn hco
    go_wp2_with fail
    refine HCN.out.mono ?_
    rintro e w6 ⟨rfl,rfl⟩
    go_wp2_with fail
    go_ret3
    exact⟨.inr ⟨HN.out,rfl⟩,HBA.out.trans (HB5.out.mono HBA.out.size)⟩
   | true=>
    have HRQ:=Lib.hid (show rightP A T l=if T.before l p c=true then some (r,c)else none from by
     rw[HRP.out,HTH.out,HPP.out,hco]
     simp)
    rw[hco]at hcn
    have HCN:=Lib.hid hcn
    clear hcn hco
    go_wp2_with fail
    refine HCN.out.mono ?_
    rintro e w6 ⟨rfl,rfl⟩
    go_wp2_with fail
    have hz5:=HB5.out.size
    go_loopw [54] (fun i wr=> ∃(k:Nat),k≤c.length∧i= .int .i64 k∧Hid (T.before l p c=T.before l p (c.drop k))∧Hid (Below w5.heap.size w5 wr)) (fun i _=>c.length-(intOf i).toNat)
    case atStart=>exact⟨0,Nat.zero_le _,rfl,Lib.hid rfl,Lib.hid (Below.refl _ _)⟩
    case round=>
     obtain⟨k,hk,rfl,HF,HW⟩:=hrel
     by_cases hlt:k<c.length
     ·
      obtain⟨x,hx⟩:=getElem_of hlt
      obtain⟨gv,cv',cs0,hvv,_,hgb,hgl,_⟩:=mx_some HOW.out (by omega)
      simp only[Value.slice.injEq]at hvv
      obtain⟨rfl,_,rfl⟩:=hvv
      have d0:wr.cell? ⟨gv,k,none⟩=some (.int .i64 x):=(HW.out.cell (p:=⟨gv,k,none⟩) hgl).trans (mx_at HOW.out (by rw[List.getElem?_map,hx];rfl))
      have hdk:c.drop k=x::c.drop (k+1):=by
       rw[List.drop_eq_getElem_cons hlt]
       rw[List.getElem?_eq_getElem hlt]at hx
       rw[Option.some.inj hx]
      have HBR:=Lib.hid (HB5.out.trans (HW.out.mono hz5))
      have HDK:=Lib.hid hdk
      obtain⟨px,hpx⟩: ∃p,T.place (litV x:Nat)=p:=⟨_,rfl⟩
      obtain⟨tx,htx⟩: ∃t,(T.why (litV x:Nat)).isSome=t:=⟨_,rfl⟩
      have HPX:=Lib.hid hpx
      have HTX:=Lib.hid htx
      clear hx hdk hpx htx
      go_upto_region 9 with fail
      refine wp_region_held_drew (S:=fun w'=>w'.cell? ⟨w.heap.size,1,none⟩=some (.pointer (some ⟨b,0,none⟩))) (by kernel_rfl) (((HBR.out.cell (p:=⟨w.heap.size,1,none⟩) hzw)).trans (mx_cell (j:=1) HBN.out)) (fun hHeld=>?_)
      have hbD:=mx_drew wr
      obtain⟨wD,hwD⟩: ∃x,(wr).drew=x:=⟨_,rfl⟩
      rw[hwD]at hHeld hbD⊢
      have HBD:=Lib.hid (HBR.out.trans (hbD.mono HBR.out.size))
      have HWD:=Lib.hid (HW.out.trans (hbD.mono HW.out.size))
      have hCALL:=tr_place b T (litV x:Nat) wD (HT.out.below HBD.out)
      rw[HPX.out,HTX.out]at hCALL
      have HCALL:=Lib.hid hCALL
      clear hwD hbD hCALL
      refine takeF 0 59 (fun w hSw=>hSw) ?_
      refine takeF 1 60 (fun w hSw=>hSw) ?_
      refine takeF 2 61 (fun w hSw=>hSw) ?_
      refine ready1 3 (fun K hK=>?_)
      go_simp
      refine(lit_var x wD).mono ?_
      rintro e w' ⟨rfl,rfl⟩
      refine hK.out _ _ hHeld (fun hHeld1=>?_)
      clear hK hHeld1
      refine ready1 4 (fun K hK=>?_)
      go_simp
      refine HCALL.out.mono ?_
      rintro e w7 ⟨rfl,hb3⟩
      have hHeld3:(w7).cell? ⟨w.heap.size,1,none⟩=some (.pointer (some ⟨b,0,none⟩)):=(hb3.cell (p:=⟨w.heap.size,1,none⟩) (Nat.lt_of_lt_of_le hzw HBD.out.size)).trans hHeld
      refine hK.out _ _ hHeld3 (fun hHeld1=>?_)
      have HB7:=Lib.hid (HBD.out.trans (hb3.mono HBD.out.size))
      have HW7:=Lib.hid (HWD.out.trans (hb3.mono HWD.out.size))
      clear hK hHeld1 hHeld hb3 HCALL HBD
      refine takeF 5 58 (fun w hSw=>hSw) ?_
      refine takeF 6 64 (fun w hSw=>hSw) ?_
      refine takeF 7 65 (fun w hSw=>hSw) ?_
      refine takeF 8 15 (fun w hSw=>hSw) ?_
      refine takeF 9 16 (fun w hSw=>hSw) ?_
      refine wpAnyH_done (by kernel_rfl) ?_ _
      clear hHeld3
      by_cases hxl:x=l
      ·
       have q1:(x != l)=false:=by simpa using hxl
       have HN:=Lib.hid (show T.before l p c=T.before l p (c.drop (k+1))from by rw[HF.out,HDK.out];exact if_neg (fun h=>h.1 hxl))
       clear hxl
       go_wp2_with fail
       go_roundw
       case rel=>exact⟨k+1,by omega,by go_num,HN,HW7⟩
       case measure=>simp[intOf];omega
      ·
       have q1:(x != l)=true:=by simpa using hxl
       have d1:w7.cell? ⟨w.heap.size,1,none⟩=some (.pointer (some ⟨b,0,none⟩)):=(HB7.out.cell (p:=⟨w.heap.size,1,none⟩) hzw).trans (mx_cell (j:=1) HBN.out)
       have HV:=Lib.hid (tr_value b T x w7 (HT.out.below HB7.out))
       by_cases hv:0≤T.val x
       ·
        have q2:decide (0≤T.val x)=true:=by simpa using hv
        have HN:=Lib.hid (show rightP A T l=none from by rw[HRQ.out,HF.out,HDK.out];exact if_neg (fun h=>by rw[show T.before l p (x::c.drop (k+1))=false from if_pos ⟨hxl,.inl hv⟩]at h;cases h))
        clear hxl hv
        go_wp2_with fail
        refine HV.out.mono ?_
        rintro e w8 ⟨rfl,hb8⟩
        have HB8:=Lib.hid (HB7.out.trans (hb8.mono HB7.out.size))
        clear hb8 d1
        go_wp2_with fail
        go_ret3
        exact⟨.inr ⟨HN.out,rfl⟩,HBA.out.trans (HB8.out.mono HBA.out.size)⟩
       ·
        have q2:decide (0≤T.val x)=false:=by simpa using hv
        by_cases hpl:p≤px
        ·
         have q3:decide (p≤px)=true:=by simpa using hpl
         have HN:=Lib.hid (show rightP A T l=none from by rw[HRQ.out,HF.out,HDK.out];exact if_neg (fun h=>by rw[show T.before l p (x::c.drop (k+1))=false from if_pos ⟨hxl,.inr (by rw[HPX.out];exact hpl)⟩]at h;cases h))
         clear hxl hv hpl
         go_wp2_with fail
         refine HV.out.mono ?_
         rintro e w8 ⟨rfl,hb8⟩
         have HB8:=Lib.hid (HB7.out.trans (hb8.mono HB7.out.size))
         clear hb8 d1
         go_wp2_with fail
         go_ret3
         exact⟨.inr ⟨HN.out,rfl⟩,HBA.out.trans (HB8.out.mono HBA.out.size)⟩
        ·
         have q3:decide (p≤px)=false:=by simpa using hpl
         have HN:=Lib.hid (show T.before l p c=T.before l p (c.drop (k+1))from by rw[HF.out,HDK.out];exact if_neg (fun h=>h.2.elim hv (fun h'=>hpl (by rw[HPX.out]at h';exact h'))))
         clear hxl hv hpl
         go_wp2_with fail
         refine HV.out.mono ?_
         rintro e w8 ⟨rfl,hb8⟩
         have HW8:=Lib.hid (HW7.out.trans (hb8.mono HW7.out.size))
         clear hb8 d1
         go_wp2_with fail
         go_roundw
         case rel=>exact⟨k+1,by omega,by go_num,HN,HW8⟩
         case measure=>simp[intOf];omega
     ·
      obtain rfl:k=c.length:=by omega
      have HN:=Lib.hid (show rightP A T l=some (r,c)from by rw[HRQ.out,HF.out,List.drop_length];rfl)
      go_wp2_with fail
      go_ret3
      exact⟨.inl ⟨r,c,_,HN.out,rfl,own_kept HOW.out (Kept.of_below (O:=fun _=>False) HW.out) (fun _ _ h=>h)⟩,HBA.out.trans ((HB5.out.trans (HW.out.mono hz5)).mono HBA.out.size)⟩
end Go.Proofs.YtoojmhjagipmdaaGreat
