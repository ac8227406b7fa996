/- MinimOnce: the walk. -/
import Derived.Test.YtoojmhjagipmdaaGreatV134
import Derived.Test.YtoojmhjagipmdaaGreatV135
import Derived.Test.YtoojmhjagipmdaaGreatV125
namespace Go.Proofs.YtoojmhjagipmdaaGreat
open Go.RowKit
def onC (now xs:List Int):List Int:=if now.length=0 then []else xs.map fun n=> -(now.getD (n.toNat%now.length) 0)
theorem onC_snoc (now xs:List Int) (n:Int):onC now (xs++ [n])=if now.length=0 then onC now xs else onC now xs++ [-(now.getD (n.toNat%now.length) 0)]:=by
 unfold onC
 split
 ·rfl
 ·rw[List.map_append]
  rfl
theorem onC_mem {now xs:List Int} {y:Int} (h:y∈onC now xs): -y∈now:=by
 unfold onC at h
 split at h
 ·cases h
 ·rename_i h0
  obtain⟨n,_,rfl⟩:=List.mem_map.1 h
  have hl:n.toNat%now.length<now.length:=Nat.mod_lt _ (by omega)
  rw[Int.neg_neg,List.getD_eq_getElem?_getD,List.getElem?_eq_getElem hl]
  exact List.getElem_mem _
theorem onC_len (now xs:List Int):(onC now xs).length≤xs.length:=by
 unfold onC
 split
 ·exact Nat.zero_le _
 ·rw[List.length_map]
  exact Nat.le_refl _
theorem u8_wf {x:Int} (h:(Lit.int .u8 x).wf=true):0≤x∧x≤255:=by
 simp only[Lit.wf,Bool.and_eq_true,decide_eq_true_eq]at h
 exact⟨h.1,h.2⟩
section
variable {w0 w:World} {lab:Nat→Nat} {sb b ab tb:Nat} {A:Arn} {T:Trl} {its:List RIt} {S:Wst} {cs:List (List Int)} {av:Value} {us:List Value} {OC:Nat→Prop}
structure OnO (T:Trl) (its:List RIt) (c:List Int):Prop where
 fal: ∀y∈c,Has its (-y)
 len:c.length≤10
 clb:clauseB c=true
 six: ∀y∈c,y≠0∧ -7<y∧y<7
 fe:failE T c=0
 val: ∀y∈c,T.val y<0
theorem onO {c:List Int} (hs:Sim T its) (hv:T.vars.length=7) (hm: ∀y∈c,-y∈T.order) (hl:c.length≤10):OnO T its c:=by
 have hf: ∀y∈c,Has its (-y):=fun y hy=>by
  have:=hm y hy
  rw[hs.order]at this
  obtain⟨x,hx,e⟩:=List.mem_map.1 this
  obtain⟨p,hp⟩:=List.getElem?_of_mem hx
  exact⟨p,x,hp,e⟩
 have hb: ∀y∈c,litB y=true∧litV y<7:=fun y hy=>by
  obtain⟨p,x,hp,e⟩:=hf y hy
  obtain⟨h1,_⟩:=at_fal hs hp e
  have h2:=(hs.varlt hp).2
  rw[e,litV_negate]at h2
  exact⟨h1,by omega⟩
 have hcl:clauseB c=true:=by
  unfold clauseB
  rw[Bool.and_eq_true,decide_eq_true_eq,List.all_eq_true]
  exact⟨by omega,fun y hy=>(hb y hy).1⟩
 refine⟨hf,hl,hcl,fun y hy=>?_,fail_zero hs hcl hf,fun y hy=>?_⟩
 ·obtain⟨h1,h2⟩:=hb y hy
  have h3:=litV_pos h1
  have h4:=(litB_iff y).1 h1
  omega
 ·obtain⟨p,x,hp,e⟩:=hf y hy
  exact(at_fal hs hp e).2.2.1
theorem OnO.sub {c s:List Int} (h:OnO T its c) (hs:Sim T its) (hv:T.vars.length=7) (hm: ∀y∈s,y∈c) (hl:s.length≤10):OnO T its s:=
 onO hs hv (fun y hy=>by
  obtain⟨p,x,hp,e⟩:=h.fal y (hm y hy)
  rw[hs.order]
  exact List.mem_map.2 ⟨x,List.mem_of_getElem? hp,e⟩) hl
theorem sr_shorten (h:SrAt w0 w lab sb b ab tb A T S cs av us) (hs:Sim T its) (hil:its.length≤500000) {c:List Int} (ho:OnO T its c) (Ac:Option Addr) (cc:Nat) (hc:IntsIn OC w (.slice Ac c.length cc) c):
  Calls Tryz.prog 24 #[.pointer (some ⟨ab,0,none⟩),.pointer (some ⟨tb,0,none⟩),.slice Ac c.length cc] w fun e w'=> ∃u',e= .returned (.tuple #[u',.int .i64 0])∧w'.ownsRow w.heap.size 32 1 u' (short15 A T c).length ((short15 A T c).map (Value.int .i64))∧Below w.heap.size w w':=by
 refine(mn_shorten_any ab tb A T its Ac cc c w hs hil h.lw.sys.ar h.lw.sys.tr hc (by have:=ho.len;omega)).mono ?_
 rintro e w' ⟨⟨u',he,hr⟩,hb⟩
 rw[ho.fe]at he
 rw[if_pos ho.fe]at hr
 exact⟨u',he,hr,hb⟩
theorem sr_redundant (h:SrAt w0 w lab sb b ab tb A T S cs av us) (hs:Sim T its) (hil:its.length≤500000) {c:List Int} (ho:OnO T its c) (Ac:Option Addr) (cc:Nat) (hc:IntsIn OC w (.slice Ac c.length cc) c) (y:Int):
  Calls Tryz.prog 27 #[.pointer (some ⟨ab,0,none⟩),.pointer (some ⟨tb,0,none⟩),.slice Ac c.length cc,.int .i64 y] w fun e w'=>e= .returned (.tuple #[.bool (c.contains y&&impl15 A T c (litV y)),.int .i64 0])∧Below w.heap.size w w':=by
 refine(mn_redundant ab tb A T its Ac cc c y w hs hil h.lw.sys.ar h.lw.sys.tr hc (by have:=ho.len;omega)).mono ?_
 rintro e w' ⟨he,hb⟩
 rw[ho.fe,if_pos rfl]at he
 exact⟨he,hb⟩
theorem sr_covered (h:SrAt w0 w lab sb b ab tb A T S cs av us) (hs:Sim T its) (hil:its.length≤500000) {c:List Int} (ho:OnO T its c) (Ac:Option Addr) (cc:Nat) (hc:IntsIn OC w (.slice Ac c.length cc) c) {y:Int} (hy:T.val y<0) (hcv:cov15 A T c y=true):
  Calls Tryz.prog 29 #[.pointer (some ⟨ab,0,none⟩),.pointer (some ⟨tb,0,none⟩),.slice Ac c.length cc,.int .i64 y] w fun e w'=>e= .returned (.tuple #[.bool true,.int .i64 0])∧Below w.heap.size w w':=by
 refine(mn_covered ab tb A T its Ac cc c y w hs hil h.lw.sys.ar h.lw.sys.tr hc (by have:=ho.len;omega)).mono ?_
 rintro e w' ⟨he,hb⟩
 rw[ho.fe,if_pos rfl,decide_eq_true hy,hcv]at he
 exact⟨he,hb⟩
theorem once_sat (hs:Sim T its) (hA: ∀j,A.get j=clsC cs j) (hl6: ∀d∈cs,∀y∈d,litB y=true) {c:List Int} (ho:OnO T its c) (n:Nat) (hall:allT n cs=true) (hc:c.any (bitT n)=true):(short15 A T c).any (bitT n)=true:=by
 obtain⟨y,hy,hby⟩:=List.any_eq_true.1 hc
 obtain⟨p,x,hp,e⟩:=ho.fal y hy
 have hye:y= -x.lit:=by rw[e,Int.neg_neg]
 have hcv:=short_all (A:=A) hs (ho.fal y hy) hy
 rw[hye]at hcv hby
 have hx0:=(ho.six y hy).1
 obtain⟨z,hz,hbz⟩:=cov_sat hs hA (B:=fun y=>y≠0∧bitT n y=true) (fun y hy hn2=>by
  rw[bitT_neg hy.1,hy.2]at hn2
  cases hn2.2) (fun j d hd=>by
  obtain⟨i,_,hi,_⟩:=clsC_some hd
  unfold allT at hall
  have:=List.all_eq_true.1 hall d (List.mem_of_getElem? hi)
  obtain⟨z,hz,hbz⟩:=List.any_eq_true.1 this
  exact⟨z,hz,((litB_iff z).1 (hl6 d (List.mem_of_getElem? hi) z hz)).1,hbz⟩) p x hp hcv ⟨by rw[←hye];exact hx0,hby⟩
 exact List.any_eq_true.2 ⟨z,hz,hbz.2⟩
end
set_option maxRecDepth 100000 in
set_option maxHeartbeats 8000000 in
theorem once_any (v0 v1 v2:Value) (x:List (List Int)) (l m:List Int) (w:World) (h0:RowsAt .i8 w v0 x) (h1:RowAt .i8 w v1 l) (h2:RowAt .u8 w v2 m):
  Calls Tryz.prog 4 #[v0,v1,v2] w fun e w'=>e= .returned (.bool true)∧Below w.heap.size w w':=by
 obtain⟨cs,hcs⟩: ∃cs,(x.take 14).map madeL=cs:=⟨_,rfl⟩
 have h6:Six cs:=by rw[←hcs];exact six_made x 14 (by decide)
 have H0:=Lib.hid h0
 have H1:=Lib.hid h1
 have HCS:=Lib.hid hcs
 obtain⟨A0,c0,rfl,_⟩:=h0
 obtain⟨A1,c1,rfl,hc1,hm1,_⟩:=h1
 obtain⟨A2,c2,rfl,hc2,hm2,hn2,hwf2,hx2⟩:=h2
 obtain⟨i0,hi,hz0,hz1,hz2⟩:=info_parts info_lit
 have HWF:=Lib.hid hwf2
 have HX2:=Lib.hid hx2
 clear hcs hwf2 hx2 hn2
 go_enter Tryz.func4,Tryz.ntmps4
 go_wp2_with fail
 refine(awake15_any w).mono ?_
 rintro e w1 ⟨rfl,hb1⟩
 have HB1:=Lib.hid hb1
 have HCN:=Lib.hid (law_conflict15 _ _ x l cs w1 (H0.out.below hb1) (H1.out.below hb1) HCS.out h6)
 clear hb1
 go_wp2_with fail
 refine HCN.out.mono ?_
 rintro e wc ⟨w2,sb,b,a,t,labr,T,its,S,id,av,us,rfl,hb2,hl,hg⟩
 have HB2:=Lib.hid (HB1.out.trans (hb2.mono HB1.out.size))
 have HL:=Lib.hid hl
 have HG:=Lib.hid hg
 have HBW:=Lib.hid (HB2.out.trans (HL.out.lw.hb.mono HB2.out.size))
 have hfew:=hg.st.sim.few hg.st.vars
 have HAS:=law_assigned14 t T wc hl.lw.sys.tr (by omega)
 obtain⟨now,hnow⟩: ∃now,T.order=now:=⟨_,rfl⟩
 rw[hnow]at HAS hfew
 have HAS:=Lib.hid HAS
 have HNOW:=Lib.hid hnow
 obtain⟨-,e1,-,-⟩:=hl.cells
 clear hb2 hl hg HCN hnow
 go_wp2_with fail
 refine HAS.out.mono ?_
 rintro e w6 ⟨vn,rfl,hrn,hb6⟩
 obtain⟨An,cn,rfl,hcn⟩:=mx_slice hrn
 have HRN:=Lib.hid hrn
 have H6:=Lib.hid (HL.out.below hb6)
 have HBW6:=Lib.hid (HBW.out.trans (hb6.mono HBW.out.size))
 clear hrn hb6 HAS e1
 obtain⟨N,hN⟩: ∃N:Nat,min m.length 10=N:=⟨_,rfl⟩
 have hNi:min (m.length:Int) 10=(N:Int):=by omega
 have hNm:N≤m.length:=by omega
 have hNc:N≤c2:=by omega
 have hNd:N≤10:=by omega
 clear hN
 go_wp2_with fail
 go_loopw [11,49] (fun v i wr=> ∃k:Nat,k≤N∧i= .int .i64 k∧Hid (Below w6.heap.size w6 wr)∧Hid (wr.ownsRow w6.heap.size 32 1 v (onC now (m.take k)).length ((onC now (m.take k)).map (Value.int .i64)))) (fun _ i _=>N-(intOf i).toNat)
 case atStart=>exact⟨0,Nat.zero_le _,rfl,Lib.hid (Below.refl _ _),Lib.hid (by rw[List.take_zero,show onC now []= []from by unfold onC;split <;> rfl];exact World.ownsRow_nil _ _ _ _)⟩
 case round=>
  obtain⟨k,hk,rfl,HB,HR⟩:=hrel
  by_cases hlt:k<N
  ·obtain⟨n,hnk⟩:=getElem_of (show k<m.length by omega)
   obtain⟨g,o,rfl,hg,d0⟩:=HX2.out k n hnk
   obtain⟨n0,n255⟩:=u8_wf (HWF.out n (List.mem_of_getElem? hnk))
   have d1:wr.cell? ⟨g,o+k,none⟩=some (.int .u8 n):=((HBW6.out.trans (HB.out.mono HBW6.out.size)).cell (p:=⟨g,o+k,none⟩) hg).trans d0
   obtain⟨cK,hcK⟩: ∃cK,onC now (m.take k)=cK:=⟨_,rfl⟩
   have hcl:cK.length≤10:=by
    rw[←hcK]
    have:=onC_len now (m.take k)
    rw[List.length_take]at this
    omega
   have HTK:=Lib.hid (show onC now (m.take (k+1))=if now.length=0 then cK else cK++ [-(now.getD (n.toNat%now.length) 0)]from by
    rw[List.take_add_one,hnk,←hcK]
    exact onC_snoc _ _ _)
   rw[hcK]at HR
   obtain⟨Ak,ck,rfl,hck⟩:=mx_slice HR.out
   obtain⟨nn,rfl⟩: ∃nn:Nat,n=nn:=⟨n.toNat,by omega⟩
   rw[Int.toNat_natCast]at HTK
   have hwn:IntKind.i64.wrap (nn:Int)=(nn:Int):=IntWalk.i64_in _ (by omega)
   clear hnk d0 hcK
   by_cases hz:now.length=0
   ·have q0:decide ((0:Int)<(now.length:Int))=false:=decide_eq_false (by omega)
    have q0n:decide (0<now.length)=false:=decide_eq_false (by omega)
    have HTK2:=Lib.hid (HTK.out.trans (if_pos hz))
    clear hz HTK
    go_wp2_with fail
    go_roundw
    case rel=>exact⟨k+1,by omega,by go_num,HB,Lib.hid (by rw[HTK2.out];exact HR.out)⟩
    case measure=>simp[intOf];omega
   ·have hpos:0<now.length:=by omega
    have q0:decide ((0:Int)<(now.length:Int))=true:=decide_eq_true (by omega)
    have q0n:decide (0<now.length)=true:=decide_eq_true hpos
    have q1:((now.length:Int)==0)=false:=beq_eq_false_iff_ne.2 (by omega)
    have hwl:IntKind.i64.wrap (now.length:Int)=(now.length:Int):=IntWalk.i64_in _ (by omega)
    obtain⟨j,hj⟩: ∃j,nn%now.length=j:=⟨_,rfl⟩
    have hjl:j<now.length:=by rw[←hj];exact Nat.mod_lt _ hpos
    have hmod:(nn:Int).tmod (now.length:Int)=(j:Int):=by rw[←hj];rfl
    have hwj:IntKind.i64.wrap (j:Int)=(j:Int):=IntWalk.i64_in _ (by omega)
    obtain⟨y,hy⟩:=getElem_of hjl
    have HTK2:=Lib.hid (show onC now (m.take (k+1))=cK++ [-y]from by
     rw[HTK.out,if_neg hz,hj,List.getD_eq_getElem?_getD,hy]
     rfl)
    obtain⟨g2,cc2,hv2,hg20,hg2,e0⟩:=own_cell HRN.out hy
    simp only[Value.slice.injEq,true_and]at hv2
    obtain⟨rfl,rfl⟩:=hv2
    have d2:wr.cell? ⟨g2,j,none⟩=some (.int .i64 y):=(HB.out.cell (p:=⟨g2,j,none⟩) hg2).trans e0
    have hyr:IntKind.i64.wrap (-y)= -y:=by
     have hm:y∈T.order:=by rw[HNOW.out];exact List.mem_of_getElem? hy
     rw[HG.out.st.sim.order]at hm
     obtain⟨r,hr,rfl⟩:=List.mem_map.1 hm
     have h3:=(litB_iff _).1 (HG.out.st.sim.litb hr)
     exact IntWalk.i64_in _ (by omega)
    clear hz HTK e0 hy hj
    go_wp2_with (at_builtin;refine wpList_append_own_at _ rfl _ _ 34 rfl w6.heap.size 32 i0 (.int .i64 0) 1 8 Tryz.underlying34 hi hz0 hz1 hz2 rfl (by decide) _ cK.length _ rfl (own_below HR.out (below_alloc1 wr _)) ⟨wr.heap.size,0,none⟩ 1 1 [.int .i64 (-y)] rfl rfl (cell_one_new' _ _ _) (by simp[Value.oneCell']) (by unfold maxLen;omega) (by omega) (by have:=HB.out.size;simp;omega) ?_;intro v' w7 hown hgrow hnl hat)
    obtain⟨Av,kv,rfl,_⟩:=mx_slice hown
    have hb7:Below w6.heap.size w6 w7:=(HB.out.trans ((below_alloc1 wr (.cells #[.int .i64 (-y)] 32)).mono HB.out.size)).grown hgrow (by have:=HB.out.size;simp;omega) (fun g hg=>(own_lt HR.out g hg).1)
    have HO:=Lib.hid (show w7.ownsRow w6.heap.size 32 1 (.slice Av (cK.length+1) kv) (onC now (m.take (k+1))).length ((onC now (m.take (k+1))).map (Value.int .i64))from by
     rw[HTK2.out,List.length_append,List.map_append]
     exact hown)
    have HB7:=Lib.hid hb7
    clear hown hgrow hnl hat hb7
    go_wp2
    go_roundw
    case rel=>exact⟨k+1,by omega,by go_num,HB7,HO⟩
    case measure=>simp[intOf];omega
  ·obtain rfl:k=N:=by omega
   obtain⟨c,hc⟩: ∃c,onC now (m.take k)=c:=⟨_,rfl⟩
   rw[hc]at HR
   have hsim:=HG.out.st.sim
   have hon:OnO T its c:=onO hsim HG.out.st.vars (fun y hy=>by
    rw[HNOW.out]
    exact onC_mem (by rw[hc];exact hy)) (by
    rw[←hc]
    have:=onC_len now (m.take k)
    rw[List.length_take]at this
    omega)
   obtain⟨Ac,cc,rfl,hcc⟩:=mx_slice HR.out
   have HON:=Lib.hid hon
   have HI:=Lib.hid (IntsIn.of_own HR.out)
   have hit:its.length≤500000:=by
    have:=congrArg List.length hsim.order
    rw[List.length_map,HNOW.out]at this
    omega
   obtain⟨wd,hwd⟩: ∃z,z=wr:=⟨_,rfl⟩
   rw[←hwd]at HB HR HI⊢
   clear hwd
   have H7:=Lib.hid (H6.out.below HB.out)
   have HBW7:=Lib.hid (HBW6.out.trans (HB.out.mono HBW6.out.size))
   obtain⟨e0,e1,-,-⟩:=H7.out.cells
   have hsbl:=H7.out.sblt
   have HSIM:=Lib.hid hsim
   have HIT:=Lib.hid hit
   obtain⟨A,hA⟩: ∃A,addAll arn0 0 cs=A:=⟨_,rfl⟩
   have hget: ∀j,A.get j=clsC cs j:=fun j=>by rw[←hA];exact get_cls h6 j
   rw[hA]at H7 HL H6
   obtain⟨s,hs⟩: ∃s,short15 A T c=s:=⟨_,rfl⟩
   have hsm: ∀y∈s,y∈c:=fun y hy=>by
    rw[←hs]at hy
    exact(short_mem.1 hy).1
   have hnd:s.Nodup:=by rw[←hs];exact short_nodup c
   have hsl:s.length≤10:=Nat.le_trans (List.Nodup.length_le_of_subset hnd hsm) hon.len
   have hos:=hon.sub hsim HG.out.st.vars hsm hsl
   have hag:short15 A T s=s:=by
    have:=short_again (A:=A) hsim hon.fal
    rw[hs]at this
    exact this
   have HHD:=Lib.hid (show s.head? =c.head? from by rw[←hs];exact short_head c)
   have HND:=Lib.hid hnd
   have HSM:=Lib.hid hsm
   have HOS:=Lib.hid hos
   have HNEED:=Lib.hid (show∀(i:Nat) (y:Int),s[i]? =some y→0<i→impl15 A T s (litV y)=false from fun i y hi h0=>by
    have:=short_need (A:=A) hsim hon.fal (c:=c) (i:=i) (y:=y) (by rw[hs];exact hi) h0
    rwa [hs]at this)
   have HSAT:=Lib.hid (show∀n,allT n cs=true→c.any (bitT n)=true→s.any (bitT n)=true from fun n h1 h2=>by
    have:=once_sat hsim hget (fun d hd y hy=>((h6.2 d hd).2 y hy).1) hon n h1 h2
    rwa [hs]at this)
   have HCV:=Lib.hid (show∀y∈c,cov15 A T s y=true from fun y hy=>by
    have:=short_all (A:=A) hsim (hon.fal y hy) hy
    rwa [hs]at this)
   have HSH:=Lib.hid (fun W (hb:Below wd.heap.size wd W)=>sr_shorten (H7.out.below hb) hsim hit hon Ac cc (HI.out.below hb))
   have HSH2:=Lib.hid (fun W (hb:Below wd.heap.size wd W) As ks (hi:IntsIn (fun _=>True) W (.slice As s.length ks) s)=>sr_shorten (H7.out.below hb) hsim hit hos As ks hi)
   have HRD:=Lib.hid (fun W (hb:Below wd.heap.size wd W) As ks (hi:IntsIn (fun _=>True) W (.slice As s.length ks) s) (y:Int)=>sr_redundant (H7.out.below hb) hsim hit hos As ks hi y)
   have HCO:=Lib.hid (fun W (hb:Below wd.heap.size wd W) As ks (hi:IntsIn (fun _=>True) W (.slice As s.length ks) s) (y:Int) (hy:y∈c)=>sr_covered (H7.out.below hb) hsim hit hos As ks hi (hon.val y hy) (HCV.out y hy))
   rw[hs]at HSH
   rw[hag]at HSH2
   have HEQL:=Lib.hid (show(0<c.length↔0<s.length)from by
    have:=HHD.out
    cases c with
    | nil=>
     cases s with
     | nil=>exact Iff.rfl
     | cons a r=>cases this
    | cons b q=>
     cases s with
     | nil=>cases this
     | cons a r=>simp)
   clear hc hsim hon hit hs hsm hnd hos hag hget hA
   go_upto_region 14 with fail
   refine wp_region_held_drew (S:=fun w'=>Below wd.heap.size wd w') (by kernel_rfl) (mx_drew wd) (fun hS=>?_)
   obtain⟨xD,hxD⟩: ∃z,wd.drew=z:=⟨_,rfl⟩
   rw[hxD]at hS⊢
   clear hxD
   refine takeE 0 70 ?_
   refine takeE 1 71 ?_
   refine takeE 2 72 ?_
   refine takeF 3 73 (fun wq hSw=>(hSw.cell (p:=⟨sb,0,none⟩) hsbl).trans e0) ?_
   refine takeE 4 74 ?_
   refine takeE 5 75 ?_
   refine takeE 6 76 ?_
   refine takeF 7 77 (fun wq hSw=>(hSw.cell (p:=⟨sb,1,none⟩) hsbl).trans e1) ?_
   refine takeE 8 78 ?_
   refine ready1 9 (fun K hK=>?_)
   go_simp
   refine(HSH.out _ hS).mono ?_
   rintro e w8 ⟨u8,rfl,hr8,hbN⟩
   obtain⟨As,ks,rfl,hks⟩:=mx_slice hr8
   have HR8:=Lib.hid hr8
   have hSN:=hS.trans (hbN.mono hS.size)
   refine hK.out _ _ hSN (fun _=>?_)
   clear hK
   refine takeE 10 69 ?_
   refine takeE 11 80 ?_
   refine takeE 12 81 ?_
   refine takeE 13 14 ?_
   refine takeE 14 15 ?_
   refine wpAnyH_done (by kernel_rfl) ?_ _
   have hS8:=hSN
   clear hSN hS hr8 hbN
   go_wp2_with fail
   have e0:=(hS8.cell (p:=⟨sb,0,none⟩) hsbl).trans e0
   have e1:=(hS8.cell (p:=⟨sb,1,none⟩) hsbl).trans e1
   have hsbl:=(H7.out.below hS8).sblt
   go_upto_region 15 with fail
   refine wp_region_held_drew (S:=fun w'=>Below w8.heap.size w8 w') (by kernel_rfl) (mx_drew w8) (fun hS=>?_)
   obtain⟨xD,hxD⟩: ∃z,w8.drew=z:=⟨_,rfl⟩
   rw[hxD]at hS⊢
   clear hxD
   refine takeE 0 83 ?_
   refine takeE 1 84 ?_
   refine takeE 2 85 ?_
   refine takeF 3 86 (fun wq hSw=>(hSw.cell (p:=⟨sb,0,none⟩) hsbl).trans e0) ?_
   refine takeE 4 87 ?_
   refine takeE 5 88 ?_
   refine takeE 6 89 ?_
   refine takeF 7 90 (fun wq hSw=>(hSw.cell (p:=⟨sb,1,none⟩) hsbl).trans e1) ?_
   refine takeE 8 91 ?_
   refine ready1 9 (fun K hK=>?_)
   go_simp
   refine(HSH2.out _ (hS8.trans (hS.mono hS8.size)) As ks ((((IntsIn.of_own HR8.out).below hS)).mono (fun _ _=>trivial))).mono ?_
   rintro e w9 ⟨u9,rfl,hr9,hbN⟩
   obtain⟨At,kt,rfl,hkt⟩:=mx_slice hr9
   have HR9:=Lib.hid hr9
   have hSN:=hS.trans (hbN.mono hS.size)
   refine hK.out _ _ hSN (fun _=>?_)
   clear hK
   refine takeE 10 82 ?_
   refine takeE 11 93 ?_
   refine takeE 12 94 ?_
   refine takeE 13 16 ?_
   refine takeE 14 17 ?_
   refine wpAnyH_done (by kernel_rfl) ?_ _
   have hS9:=hS8.trans (hSN.mono hS8.size)
   have HB9:=Lib.hid hSN
   clear hSN hS hr9 hbN
   obtain⟨bb,hbb⟩: ∃bb,decide (0<c.length)=bb:=⟨_,rfl⟩
   have q2:decide (0<s.length)=bb:=by rw[←hbb];exact decide_eq_decide.2 HEQL.out.symm
   have q1:decide ((0:Int)<(c.length:Int))=bb:=by rw[←hbb];exact decide_eq_decide.2 (by omega)
   have q3:decide ((0:Int)<(s.length:Int))=bb:=by rw[←q2];exact decide_eq_decide.2 (by omega)
   have q4:(bb != bb)=false:=by simp
   have hsl2:s.length≤140737488355328:=by omega
   have HE:=Lib.hid (fun W (hb:Below w9.heap.size w9 W)=>eq_c (.slice At s.length kt) (.slice As s.length ks) s s W ((IntsIn.of_own HR9.out).below hb) (((IntsIn.of_own HR8.out).below HB9.out).below hb) hsl2)
   rw[show(s==s)=true from by simp]at HE
   have HW:=Lib.hid (fun W (hb:Below w9.heap.size w9 W)=>within_yes (.slice As s.length ks) (.slice Ac c.length cc) s c W (((IntsIn.of_own HR8.out).below HB9.out).below hb) ((HI.out.below hS9).below hb) HOS.out.clb HON.out.clb HSM.out)
   go_wp2_with fail
   refine(HE.out w9 (Below.refl _ _)).mono ?_
   rintro e w10 ⟨rfl,n10,h10⟩
   have HB10:=Lib.hid (show Below w9.heap.size w9 w10 from by rw[h10];exact mx_drewN _ _)
   clear h10
   go_wp2_with fail
   refine(HW.out w10 HB10.out).mono ?_
   rintro e w11 ⟨rfl,hb11⟩
   have HB11:=Lib.hid (HB10.out.trans (hb11.mono HB10.out.size))
   clear hb11 HE HW
   go_wp2_with fail
   have HS11:=Lib.hid (hS9.trans (HB11.out.mono hS9.size))
   have HIS:=Lib.hid (show IntsIn (fun _=>True) w11 (.slice As s.length ks) s from(((IntsIn.of_own HR8.out).below HB9.out).below HB11.out).mono (fun _ _=>trivial))
   have HIC:=Lib.hid (show IntsIn (fun _=>True) w11 (.slice Ac c.length cc) c from(HI.out.below HS11.out).mono (fun _ _=>trivial))
   clear hS8 hS9 q1 q2 q3 q4 hbb HB10
   have H11:=Lib.hid (H7.out.below HS11.out)
   have HBW11:=Lib.hid (HBW7.out.trans (HS11.out.mono HBW7.out.size))
   clear e0 e1 hsbl
   go_loopw [122] (fun iv wr=> ∃k:Nat,k≤s.length∧iv= .int .i64 k∧Hid (Below w11.heap.size w11 wr)) (fun iv _=>s.length-(intOf iv).toNat)
   case atStart=>exact⟨0,Nat.zero_le _,rfl,Lib.hid (Below.refl _ _)⟩
   case round=>
    obtain⟨k,hk,rfl,HB2⟩:=hrel
    by_cases hlt:k<s.length
    ·obtain⟨y,hyk⟩:=getElem_of hlt
     obtain⟨A',c',hAc,_,_,hxs⟩:=HIS.out
     simp only[Value.slice.injEq,true_and]at hAc
     obtain⟨rfl,rfl⟩:=hAc
     obtain⟨g,o,rfl,hg,-,d0⟩:=hxs k y hyk
     have d1:=(HB2.out.cell (p:=⟨g,o+k,none⟩) hg).trans d0
     obtain⟨we,hwe⟩: ∃z,z=wr:=⟨_,rfl⟩
     rw[←hwe]at HB2 d1⊢
     clear hwe
     have H12:=Lib.hid (H11.out.below HB2.out)
     have HSE:=Lib.hid (HS11.out.trans (HB2.out.mono HS11.out.size))
     obtain⟨e0,e1,-,-⟩:=H12.out.cells
     have hsbl:=H12.out.sblt
     have hkk:k≤ks:=by omega
     obtain⟨z,hz⟩: ∃z,(s.contains y&&impl15 A T s (litV y))=z:=⟨_,rfl⟩
     have hrd:=fun W (hb:Below we.heap.size we W)=>HRD.out W (HSE.out.trans (hb.mono HSE.out.size)) _ _ ((HIS.out.below HB2.out).below hb) y
     rw[hz]at hrd
     have HRD2:=Lib.hid hrd
     have HYK:=Lib.hid hyk
     have hcn:(s.take k).contains y=false:=by
      cases hx:(s.take k).contains y with
      | false=>rfl
      | true=>
       obtain⟨i,hi2⟩:=List.getElem?_of_mem (List.contains_iff_mem.1 hx)
       rw[List.getElem?_take]at hi2
       split at hi2
       ·rename_i hik
        have:=(List.getElem?_inj (by omega) HND.out).1 (hi2.trans hyk.symm)
        omega
       ·cases hi2
     have hct:=fun W (hb:Below we.heap.size we W)=>contains_c _ (s.take k) y W (((HIS.out.below HB2.out).below hb).take hk) (by rw[List.length_take];omega)
     rw[hcn]at hct
     have HCT:=Lib.hid hct
     have HZ:=Lib.hid hz
     clear hrd hyk hcn hct hz d0 hxs
     go_upto_region 21 with fail
     refine wp_region_held_drew (S:=fun w'=>Below we.heap.size we w') (by kernel_rfl) (mx_drew we) (fun hS=>?_)
     obtain⟨xD,hxD⟩: ∃z,we.drew=z:=⟨_,rfl⟩
     rw[hxD]at hS⊢
     clear hxD
     refine takeE 0 128 ?_
     refine takeE 1 129 ?_
     refine takeE 2 130 ?_
     refine takeF 3 131 (fun wq hSw=>(hSw.cell (p:=⟨sb,0,none⟩) hsbl).trans e0) ?_
     refine takeE 4 132 ?_
     refine takeE 5 133 ?_
     refine takeE 6 134 ?_
     refine takeF 7 135 (fun wq hSw=>(hSw.cell (p:=⟨sb,1,none⟩) hsbl).trans e1) ?_
     refine takeE 8 136 ?_
     refine takeE 9 137 ?_
     refine ready1 10 (fun K hK=>?_)
     go_simp
     refine(HRD2.out _ hS).mono ?_
     rintro e w12 ⟨rfl,hbN⟩
     have hSN:=hS.trans (hbN.mono hS.size)
     refine hK.out _ _ hSN (fun _=>?_)
     clear hK
     refine takeE 11 127 ?_
     refine takeE 12 139 ?_
     refine takeE 13 140 ?_
     refine takeE 14 20 ?_
     refine takeE 15 21 ?_
     refine wpAnyH_done (by kernel_rfl) ?_ _
     have HSF:=Lib.hid hSN
     clear hS hbN hSN e0 e1
     by_cases hk0:k=0
     ·have q0:decide ((0:Int)<(k:Int))=false:=decide_eq_false (by omega)
      have q0n:decide (0<k)=false:=decide_eq_false (by omega)
      have qe:((k:Int)==0)=true:=beq_iff_eq.2 (by omega)
      have qy:(y != y)=false:=by simp
      have hy0:c[0]? =some y:=by
       have h1:=HYK.out
       rw[hk0,←List.head?_eq_getElem?,HHD.out]at h1
       rw[←List.head?_eq_getElem?]
       exact h1
      obtain⟨A',c',hAc,_,_,hxs⟩:=HIC.out
      simp only[Value.slice.injEq,true_and]at hAc
      obtain⟨rfl,rfl⟩:=hAc
      obtain⟨g4,o4,rfl,hg4,-,d4⟩:=hxs 0 y hy0
      have hb4:=HB2.out.trans (HSF.out.mono HB2.out.size)
      have d5:=(hb4.cell (p:=⟨g4,o4+0,none⟩) hg4).trans d4
      simp only[Nat.add_zero]at d5
      have hcl0:0<c.length:=(List.getElem?_eq_some_iff.1 hy0).1
      clear hxs d4 hy0 hb4 hk0
      cases z with
      | true=>
       go_wp2_with fail
       refine(HCT.out _ HSF.out).mono ?_
       rintro e w' ⟨rfl,rfl⟩
       go_wp2_with fail
       go_roundw
       case rel=>exact⟨k+1,by omega,by go_num,Lib.hid (HB2.out.trans (HSF.out.mono HB2.out.size))⟩
       case measure=>simp[intOf];omega
      | false=>
       go_wp2_with fail
       refine(HCT.out _ HSF.out).mono ?_
       rintro e w' ⟨rfl,rfl⟩
       go_wp2_with fail
       go_roundw
       case rel=>exact⟨k+1,by omega,by go_num,Lib.hid (HB2.out.trans (HSF.out.mono HB2.out.size))⟩
       case measure=>simp[intOf];omega
     ·have qe:((k:Int)==0)=false:=beq_eq_false_iff_ne.2 (by omega)
      obtain rfl:z=false:=by
       rw[←HZ.out,HNEED.out k y HYK.out (by omega),Bool.and_false]
      clear hk0
      go_wp2_with fail
      refine(HCT.out _ HSF.out).mono ?_
      rintro e w' ⟨rfl,rfl⟩
      go_wp2_with fail
      go_roundw
      case rel=>exact⟨k+1,by omega,by go_num,Lib.hid (HB2.out.trans (HSF.out.mono HB2.out.size))⟩
      case measure=>simp[intOf];omega
    ·obtain rfl:k=s.length:=by omega
     have hcl10:=HON.out.len
     clear hlt HRD HNEED HHD HND
     obtain⟨wx,hwx⟩: ∃z,z=wr:=⟨_,rfl⟩
     rw[←hwx]at HB2⊢
     clear hwx
     have HSX:=Lib.hid (HS11.out.trans (HB2.out.mono HS11.out.size))
     have HISX:=Lib.hid (HIS.out.below HB2.out)
     have HICX:=Lib.hid (HIC.out.below HB2.out)
     have H13:=Lib.hid (H11.out.below HB2.out)
     go_wp2_with fail
     go_loopw [171] (fun iv wr=> ∃k:Nat,k≤c.length∧iv= .int .i64 k∧Hid (Below wx.heap.size wx wr)) (fun iv _=>c.length-(intOf iv).toNat)
     case atStart=>exact⟨0,Nat.zero_le _,rfl,Lib.hid (Below.refl _ _)⟩
     case round=>
      obtain⟨k,hk,rfl,HB3⟩:=hrel
      by_cases hlt:k<c.length
      ·obtain⟨y,hyk⟩:=getElem_of hlt
       obtain⟨A',c',hAc,_,_,hxs⟩:=HICX.out
       simp only[Value.slice.injEq,true_and]at hAc
       obtain⟨rfl,rfl⟩:=hAc
       obtain⟨g,o,rfl,hg,-,d0⟩:=hxs k y hyk
       have d1:=(HB3.out.cell (p:=⟨g,o+k,none⟩) hg).trans d0
       obtain⟨we,hwe⟩: ∃z,z=wr:=⟨_,rfl⟩
       rw[←hwe]at HB3 d1⊢
       clear hwe
       have H14:=Lib.hid (H13.out.below HB3.out)
       have HSE:=Lib.hid (HSX.out.trans (HB3.out.mono HSX.out.size))
       obtain⟨e0,e1,-,-⟩:=H14.out.cells
       have hsbl:=H14.out.sblt
       have HCO2:=Lib.hid (fun W (hb:Below we.heap.size we W)=>HCO.out W (HSE.out.trans (hb.mono HSE.out.size)) _ _ ((HISX.out.below HB3.out).below hb) y (List.mem_of_getElem? hyk))
       clear hyk d0 hxs
       go_upto_region 28 with fail
       refine wp_region_held_drew (S:=fun w'=>Below we.heap.size we w') (by kernel_rfl) (mx_drew we) (fun hS=>?_)
       obtain⟨xD,hxD⟩: ∃z,we.drew=z:=⟨_,rfl⟩
       rw[hxD]at hS⊢
       clear hxD
       refine takeE 0 176 ?_
       refine takeE 1 177 ?_
       refine takeE 2 178 ?_
       refine takeF 3 179 (fun wq hSw=>(hSw.cell (p:=⟨sb,0,none⟩) hsbl).trans e0) ?_
       refine takeE 4 180 ?_
       refine takeE 5 181 ?_
       refine takeE 6 182 ?_
       refine takeF 7 183 (fun wq hSw=>(hSw.cell (p:=⟨sb,1,none⟩) hsbl).trans e1) ?_
       refine takeE 8 184 ?_
       refine takeE 9 185 ?_
       refine ready1 10 (fun K hK=>?_)
       go_simp
       refine(HCO2.out _ hS).mono ?_
       rintro e w12 ⟨rfl,hbN⟩
       have hSN:=hS.trans (hbN.mono hS.size)
       refine hK.out _ _ hSN (fun _=>?_)
       clear hK
       refine takeE 11 175 ?_
       refine takeE 12 187 ?_
       refine takeE 13 188 ?_
       refine takeE 14 24 ?_
       refine takeE 15 25 ?_
       refine wpAnyH_done (by kernel_rfl) ?_ _
       have HSF:=Lib.hid hSN
       clear hS hbN hSN e0 e1
       go_wp2_with fail
       go_roundw
       case rel=>exact⟨k+1,by omega,by go_num,Lib.hid (HB3.out.trans (HSF.out.mono HB3.out.size))⟩
       case measure=>simp[intOf];omega
      ·obtain rfl:k=c.length:=by omega
       clear hlt HCO
       obtain⟨wz,hwz⟩: ∃z,z=wr:=⟨_,rfl⟩
       rw[←hwz]at HB3⊢
       clear hwz
       have HISZ:=Lib.hid (HISX.out.below HB3.out)
       have HICZ:=Lib.hid (HICX.out.below HB3.out)
       have H15:=Lib.hid (H13.out.below HB3.out)
       have HBWZ:=Lib.hid (HBW11.out.trans ((HB2.out.trans (HB3.out.mono HB2.out.size)).mono HBW11.out.size))
       have hcsl:=h6.1
       go_wp2_with fail
       go_loopw [26] (fun iv wr=> ∃n:Nat,n≤130∧iv= .int .i64 n∧Hid (Below wz.heap.size wz wr)) (fun iv _=>200-(intOf iv).toNat)
       case atStart=>exact⟨0,by decide,rfl,Lib.hid (Below.refl _ _)⟩
       case round=>
        obtain⟨n,hn,rfl,HB4⟩:=hrel
        by_cases hn2:n<128
        ·have q1:decide ((n:Int)<128)=true:=decide_eq_true (by omega)
         have hn0:(n:Int)<128:=by omega
         have hwn:IntKind.i64.wrap ((n:Int)+2)=((n+2:Nat):Int):=by rw[IntWalk.i64_in _ (by omega)];omega
         have H16:=Lib.hid (H15.out.below HB4.out)
         obtain⟨-,-,-,e3⟩:=H16.out.cells
         obtain⟨z1,hz1'⟩: ∃z1,allT n cs=z1:=⟨_,rfl⟩
         obtain⟨z2,hz2'⟩: ∃z2,c.any (bitT n)=z2:=⟨_,rfl⟩
         obtain⟨z3,hz3'⟩: ∃z3,s.any (bitT n)=z3:=⟨_,rfl⟩
         have hal:=law_alltrue av cs n wr H16.out.cls hn2 (lits_ok h6) (by omega)
         have htc:=fun W (hb:Below wr.heap.size wr W)=>law_true _ c n W ((HICZ.out.below HB4.out).below hb) (by have:=HON.out.len;omega) hn2 HON.out.six
         have hts:=fun W (hb:Below wr.heap.size wr W)=>law_true _ s n W ((HISZ.out.below HB4.out).below hb) (by have:=HOS.out.len;omega) hn2 HOS.out.six
         rw[hz1']at hal
         rw[hz2']at htc
         rw[hz3']at hts
         have HSZ:=Lib.hid (show z1=true→z2=true→z3=true from fun a b=>by rw[←hz3'];exact HSAT.out n (hz1'.trans a) (hz2'.trans b))
         have HAL:=Lib.hid hal
         have HTC:=Lib.hid htc
         have HTS:=Lib.hid hts
         clear hal htc hts hz1' hz2' hz3' hn2
         go_wp2_with fail
         refine HAL.out.mono ?_
         rintro e w20 ⟨rfl,hb20⟩
         have HB20:=Lib.hid hb20
         have HBZ:=Lib.hid (HB4.out.trans (hb20.mono HB4.out.size))
         clear hb20 HAL
         cases z1 with
         | false=>
          go_wp2_with fail
          go_roundw
          case rel=>exact⟨n+2,by omega,by go_num,HBZ⟩
          case measure=>simp[intOf];omega
         | true=>
          have HSZ2:=Lib.hid (show z2=true→z3=true from HSZ.out rfl)
          clear HSZ
          cases z2 with
          | false=>
           clear HSZ2
           go_wp2_with fail
           refine(HTC.out w20 HB20.out).mono ?_
           rintro e w' ⟨rfl,rfl⟩
           go_wp2_with fail
           go_roundw
           case rel=>exact⟨n+2,by omega,by go_num,HBZ⟩
           case measure=>simp[intOf];omega
          | true=>
           obtain rfl:=HSZ2.out rfl
           clear HSZ2
           go_wp2_with fail
           refine(HTC.out w20 HB20.out).mono ?_
           rintro e w' ⟨rfl,rfl⟩
           go_wp2_with fail
           refine(HTS.out w20 HB20.out).mono ?_
           rintro e w' ⟨rfl,rfl⟩
           go_wp2_with fail
           go_roundw
           case rel=>exact⟨n+2,by omega,by go_num,HBZ⟩
           case measure=>simp[intOf];omega
        ·have q1:decide ((n:Int)<128)=false:=decide_eq_false (by omega)
         have HBF:=Lib.hid (HBWZ.out.trans (HB4.out.mono HBWZ.out.size))
         go_wp2_with fail
         go_ret
         exact⟨rfl,HBF.out⟩
end Go.Proofs.YtoojmhjagipmdaaGreat
