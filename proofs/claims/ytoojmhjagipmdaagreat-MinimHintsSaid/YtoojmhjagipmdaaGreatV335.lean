/- MinimHints: the walk. -/
import Derived.Test.YtoojmhjagipmdaaGreatV333
import Derived.Test.YtoojmhjagipmdaaGreatV334
namespace Go.Proofs.YtoojmhjagipmdaaGreat
open Go.RowKit
section
variable {w0 w:World} {lab:Nat→Nat} {sb b ab tb:Nat} {A:Arn} {T:Trl} {its:List RIt} {S:Wst} {cs:List (List Int)} {av:Value} {us:List Value} {OC:Nat→Prop}
structure OnP (T:Trl) (its:List RIt) (c:List Int):Prop where
 fal: ∀y∈c,Has its (-y)
 len:c.length≤100
 clb:clauseB c=true
 fe:failE T c=0
theorem onP {c:List Int} (hs:Sim T its) (hv:T.vars.length=7) (hm: ∀y∈c,-y∈T.order) (hl:c.length≤100):OnP T its c:=by
 have hf: ∀y∈c,Has its (-y):=fun y hy=>by
  have:=hm y hy
  rw[hs.order]at this
  obtain⟨x,hx,e⟩:=List.mem_map.1 this
  obtain⟨p,hp⟩:=List.getElem?_of_mem hx
  exact⟨p,x,hp,e⟩
 have hb: ∀y∈c,litB y=true∧litV y<7:=fun y hy=>by
  obtain⟨p,x,hp,e⟩:=hf y hy
  obtain⟨h1,_⟩:=at_fal hs hp e
  have h2:=(hs.varlt hp).2
  rw[e,litV_negate]at h2
  exact⟨h1,by omega⟩
 have hcl:clauseB c=true:=by
  unfold clauseB
  rw[Bool.and_eq_true,decide_eq_true_eq,List.all_eq_true]
  exact⟨by omega,fun y hy=>(hb y hy).1⟩
 exact⟨hf,hl,hcl,fail_zero hs hcl hf⟩
theorem sr_hints (h:SrAt w0 w lab sb b ab tb A T S cs av us) (hs:Sim T its) {c:List Int} (ho:OnP T its c) (id:Int) (Ac:Option Addr) (cc:Nat) (hc:IntsIn OC w (.slice Ac c.length cc) c):
  Calls Tryz.prog 40 #[.pointer (some ⟨ab,0,none⟩),.pointer (some ⟨tb,0,none⟩),.int .i64 id,.slice Ac c.length cc] w fun e w'=> ∃u',e= .returned (.tuple #[u',.int .i64 ((hintP A T c id).2:Nat)])∧w'.ownsRow w.heap.size 3 1 u' (hintP A T c id).1.length ((hintP A T c id).1.map (Value.int .i64))∧Below w.heap.size w w':=by
 have hh:=mn_hints ab tb A T its Ac cc c id w hs h.lw.sys.ar h.lw.sys.tr hc (by have:=ho.len;omega)
 unfold hintsP at hh
 rw[if_pos ho.fe]at hh
 refine hh.mono ?_
 rintro e w' ⟨⟨u',he,hr⟩,hb⟩
 exact⟨u',he,hr,hb⟩
structure FolO (cs:List (List Int)) (c ys:List Int):Prop where
 ex: ∃hcl u0 t0,hcl.length=ys.length∧(∀(k:Nat) (h:Int),ys[k]? =some h→∃(i:Nat) (d:List Int),h=(i:Int)+1∧cs[i]? =some d∧hcl[k]? =some d)∧(∀d∈hcl,clauseB d=true)∧chkP c hcl=(u0,ys.length,0)∧trimP c hcl=t0∧t0.length=ys.length
 len:ys.length≤1000
theorem chain_fol15 (h6:Six cs) (hs:Sim T its) (hil:its.length≤900) {cf L:List Int} {R:List Nat} {id:Int} (hcc:clsC cs id=some cf) (ch:Chain (clsC cs) its L cf R) (hL:clauseB L=true):FolO cs L (R.map (rsAt its)++ [id]):=by
 obtain⟨h1,h2⟩:=chain_check ch hs h6.fitB (h6.fit.right hcc) hL
 have hlen:(R.map (rsAt its)++ [id]).length=R.length+1:=by simp
 have hR:R.length≤its.length:=by
  have hnd:R.Nodup:=ch.up.imp (fun h=>by omega)
  have:=List.Nodup.length_le_of_subset hnd (l₂:=List.range its.length) (fun r hr=>by
   obtain⟨z,_,hz,_⟩:=ch.rs r hr
   exact List.mem_range.2 (List.getElem?_eq_some_iff.1 hz).1)
  rwa [List.length_range]at this
 refine⟨⟨R.map (rcAt (clsC cs) its)++ [cf],_,_,by simp,?_,?_,by rw[hlen];exact h1,rfl,by rw[hlen];exact h2⟩,by rw[hlen];omega⟩
 ·intro k h hk
  rcases Nat.lt_or_ge k R.length with hlt|hge
  ·rw[List.getElem?_append_left (by simpa using hlt),List.getElem?_map]at hk
   obtain⟨r,hr⟩:=getElem_of hlt
   rw[hr]at hk
   obtain rfl:=Option.some.inj hk
   obtain⟨z,d,-,-,e1,e2,-⟩:=ch.at (List.mem_of_getElem? hr)
   obtain⟨n,hn,hd,_⟩:=clsC_some e2
   refine⟨n,d,hn,hd,?_⟩
   rw[List.getElem?_append_left (by simpa using hlt),List.getElem?_map,hr]
   exact congrArg some e1
  ·have hk2:=(List.getElem?_eq_some_iff.1 hk).1
   rw[hlen]at hk2
   obtain rfl:k=R.length:=by omega
   rw[List.getElem?_append_right (by simp),List.length_map,Nat.sub_self]at hk
   obtain rfl:=Option.some.inj hk
   obtain⟨n,hn,hd,_⟩:=clsC_some hcc
   refine⟨n,cf,hn,hd,?_⟩
   rw[List.getElem?_append_right (by simp),List.length_map,Nat.sub_self]
   rfl
 ·intro d hd
  rcases List.mem_append.1 hd with hd|hd
  ·obtain⟨r,hr,rfl⟩:=List.mem_map.1 hd
   obtain⟨z,d,-,-,e1,e2,-⟩:=ch.at hr
   rw[e1]
   exact h6.fitB _ _ e2
  ·rw[List.mem_singleton.1 hd]
   exact h6.fit.right hcc
theorem sr_follows (h:SrAt w0 w lab sb b ab tb A T S cs av us) (h6:Six cs) {c ys:List Int} (hf:FolO cs c ys) (hcb:clauseB c=true) (Ax Ay:Option Addr) (cx cy:Nat) (hx:IntsIn (fun _=>True) w (.slice Ax c.length cx) c) (hy:IntsIn (fun _=>True) w (.slice Ay ys.length cy) ys):
  Calls Tryz.prog 42 #[.pointer (some ⟨sb,0,none⟩),.slice Ax c.length cx,.slice Ay ys.length cy] w fun e w'=>e= .returned (.bool true)∧Below w.heap.size w w':=by
 obtain⟨hcl,u0,t0,h1,h2,h3,h4,h5,h7⟩:=hf.ex
 exact law_follows15 Ax Ay cx cy h h6 hx hy h2 h1 rfl hf.len hcb h3 h4 h5 h7 (.inl rfl)
theorem sr_nil (h:SrAt w0 w lab sb b ab tb A T S cs av us) (h6:Six cs) {c:List Int} (hs:Sim T its) (hp:OnP T its c) (Ax:Option Addr) (cx:Nat) (hx:IntsIn (fun _=>True) w (.slice Ax c.length cx) c):
  Calls Tryz.prog 42 #[.pointer (some ⟨sb,0,none⟩),.slice Ax c.length cx,.slice none 0 0] w fun e w'=>e= .returned (.bool false)∧Below w.heap.size w w':=by
 obtain⟨h1,h2⟩:=chk_nil hp.clb (fun y hy hn=>by
  have hb2:=hp.clb
  unfold clauseB at hb2
  rw[Bool.and_eq_true]at hb2
  have hb:=List.all_eq_true.1 hb2.2 y hy
  have h1:=hp.fal _ hn
  rw[Int.neg_neg]at h1
  exact has_two hs hb h1 (hp.fal y hy))
 exact law_follows15 (ys:= []) (hcl:= []) (M:=0) (E:=82) Ax none cx 0 h h6 hx (IntsIn.nil _ _) (fun k h hk=>by simp at hk) rfl rfl (by omega) hp.clb (fun d hd=>by cases hd) h1 h2 rfl (.inr rfl)
theorem hints_two (h6:Six cs) (hs:Sim T its) (hr:Rsn (clsC cs) its) (hil:its.length≤900) (hA: ∀j,A.get j=clsC cs j) {cf c d:List Int} {id:Int} (hcc:clsC cs id=some cf) (hcf: ∀y∈cf,Has its (-y)) (hp:OnP T its c) (hpd:OnP T its d) (hsub: ∀y∈c,y∈d):
  (hintP A T c id=([],150)∧openGo T cs c (varsI cf) T.order.reverse=true)∨
  ((hintP A T c id).2=0∧(hintP A T d id).2=0∧(hintP A T d id).1.length≤(hintP A T c id).1.length∧FolO cs c (hintP A T c id).1∧FolO cs d (hintP A T d id).1∧∀y∈(hintP A T d id).1,y∈(hintP A T c id).1):=by
 have hb:=h6.fit.right hcc
 by_cases h0:(hintP A T c id).2=0
 ·right
  have hcv:=hints_cov hs hA hcc hb hcf hp.fal h0
  obtain⟨R,e1,ch⟩:=hints_chain hs hA hcc hb hcf hp.fal hcv
  obtain⟨R2,e2,ch2⟩:=hints_chain hs hA hcc hb hcf hpd.fal (fun y hy=>cov_lift hs (fun p x _ hm=>.inl (hsub _ hm)) (hcf y hy) (hcv y hy))
  have hss:=chain_sub hs ch ch2 hsub
  have hl:R2.length≤R.length:=List.Nodup.length_le_of_subset (ch2.up.imp (fun h=>by omega)) hss
  rw[e1,e2]
  refine⟨rfl,rfl,by simpa using hl,chain_fol15 h6 hs hil hcc ch hp.clb,chain_fol15 h6 hs hil hcc ch2 hpd.clb,fun y hy=>?_⟩
  rcases List.mem_append.1 hy with hy|hy
  ·obtain⟨r,hr,rfl⟩:=List.mem_map.1 hy
   exact List.mem_append_left _ (List.mem_map.2 ⟨r,hss r hr,rfl⟩)
  ·exact List.mem_append_right _ hy
 ·left
  exact open_some hs hA hr (fun j d hd=>by
   obtain⟨n,rfl,hn,hl⟩:=clsC_some hd
   refine⟨by omega,by omega,?_⟩
   rw[show((n:Int)+1-1).toNat=n by omega,List.getD_eq_getElem?_getD,hn]
   rfl) hcc hb hcf hp.fal h0
end
set_option maxRecDepth 100000 in
set_option maxHeartbeats 8000000 in
theorem hints_any (v0 v1 v2:Value) (x:List (List Int)) (l m:List Int) (v:Int) (w:World) (h0:RowsAt .i8 w v0 x) (h1:RowAt .i8 w v1 l) (h2:RowAt .u8 w v2 m) (hv:(Lit.int .u8 v).wf=true):
  Calls Tryz.prog 7 #[v0,v1,v2,.int .u8 v] w fun e w'=>e= .returned (.bool true)∧Below w.heap.size w w':=by
 obtain⟨cs,hcs⟩: ∃cs,(x.take 14).map madeL=cs:=⟨_,rfl⟩
 have h6:Six cs:=by rw[←hcs];exact six_made x 14 (by decide)
 have H0:=Lib.hid h0
 have H1:=Lib.hid h1
 have HCS:=Lib.hid hcs
 obtain⟨A0,c0,rfl,_⟩:=h0
 obtain⟨A1,c1,rfl,hc1,hm1,_⟩:=h1
 obtain⟨A2,c2,rfl,hc2,hm2,hn2,hwf2,hx2⟩:=h2
 obtain⟨i0,hi,hz0,hz1,hz2⟩:=info_parts info_lit
 have HWF:=Lib.hid hwf2
 have HX2:=Lib.hid hx2
 clear hcs hwf2 hx2 hn2
 go_enter Tryz.func7,Tryz.ntmps7
 go_wp2_with fail
 refine(awake15_any w).mono ?_
 rintro e w1 ⟨rfl,hb1⟩
 have HB1:=Lib.hid hb1
 have HCN:=Lib.hid (law_conflict15 _ _ x l cs w1 (H0.out.below hb1) (H1.out.below hb1) HCS.out h6)
 clear hb1
 go_wp2_with fail
 refine HCN.out.mono ?_
 rintro e wc ⟨w2,sb,b,a,t,labr,T,its,S,id,av,us,rfl,hb2,hl,hg⟩
 have HB2:=Lib.hid (HB1.out.trans (hb2.mono HB1.out.size))
 have HL:=Lib.hid hl
 have HG:=Lib.hid hg
 have HBW:=Lib.hid (HB2.out.trans (HL.out.lw.hb.mono HB2.out.size))
 have hfew:=hg.st.sim.few hg.st.vars
 have HAS:=law_assigned14 t T wc hl.lw.sys.tr (by omega)
 obtain⟨now,hnow⟩: ∃now,T.order=now:=⟨_,rfl⟩
 rw[hnow]at HAS hfew
 have HAS:=Lib.hid HAS
 have HNOW:=Lib.hid hnow
 obtain⟨-,e1,-,-⟩:=hl.cells
 clear hb2 hl hg HCN hnow
 obtain⟨vn0,vn255⟩:=u8_wf hv
 clear hv
 by_cases hid:id=0
 ·have qz:(id==0)=true:=by simpa using hid
  clear hid
  go_wp2_with fail
  go_ret
  exact⟨rfl,HBW.out⟩
 have qz:(id==0)=false:=by simpa using hid
 obtain⟨cf,hcc,hcf⟩:=HG.out.bad hid
 have HCC:=Lib.hid hcc
 have HCF:=Lib.hid hcf
 clear hid hcc hcf
 go_wp2_with fail
 refine HAS.out.mono ?_
 rintro e w6 ⟨vn,rfl,hrn,hb6⟩
 obtain⟨An,cn,rfl,hcn⟩:=mx_slice hrn
 have HRN:=Lib.hid hrn
 have H6:=Lib.hid (HL.out.below hb6)
 have HBW6:=Lib.hid (HBW.out.trans (hb6.mono HBW.out.size))
 clear hrn hb6 HAS e1
 by_cases hz:now.length=0
 ·have q0:((now.length:Int)==0)=true:=by rw[hz];rfl
  clear hz
  go_wp2_with fail
  go_ret
  exact⟨rfl,HBW6.out⟩
 have hpos:0<now.length:=by omega
 have q1:((now.length:Int)==0)=false:=beq_eq_false_iff_ne.2 (by omega)
 have hwl:IntKind.i64.wrap (now.length:Int)=(now.length:Int):=IntWalk.i64_in _ (by omega)
 have hnz:now.length≠0:=hz
 have HNZ:=Lib.hid hnz
 clear hz hnz
 obtain⟨N,hN⟩: ∃N:Nat,min m.length 10=N:=⟨_,rfl⟩
 have hNi:min (m.length:Int) 10=(N:Int):=by omega
 have hNm:N≤m.length:=by omega
 have hNc:N≤c2:=by omega
 have hNd:N≤10:=by omega
 clear hN
 go_wp2_with fail
 go_loopw [13,53] (fun v i wr=> ∃k:Nat,k≤N∧i= .int .i64 k∧Hid (Below w6.heap.size w6 wr)∧Hid (wr.ownsRow w6.heap.size 32 1 v (onC now (m.take k)).length ((onC now (m.take k)).map (Value.int .i64)))) (fun _ i _=>N-(intOf i).toNat)
 case atStart=>exact⟨0,Nat.zero_le _,rfl,Lib.hid (Below.refl _ _),Lib.hid (by rw[List.take_zero,show onC now []= []from by unfold onC;split <;> rfl];exact World.ownsRow_nil _ _ _ _)⟩
 case round=>
  obtain⟨k,hk,rfl,HB,HR⟩:=hrel
  by_cases hlt:k<N
  ·obtain⟨n,hnk⟩:=getElem_of (show k<m.length by omega)
   obtain⟨g,o,rfl,hg,d0⟩:=HX2.out k n hnk
   obtain⟨n0,n255⟩:=u8_wf (HWF.out n (List.mem_of_getElem? hnk))
   have d1:wr.cell? ⟨g,o+k,none⟩=some (.int .u8 n):=((HBW6.out.trans (HB.out.mono HBW6.out.size)).cell (p:=⟨g,o+k,none⟩) hg).trans d0
   obtain⟨cK,hcK⟩: ∃cK,onC now (m.take k)=cK:=⟨_,rfl⟩
   have hcl:cK.length≤10:=by
    rw[←hcK]
    have:=onC_len now (m.take k)
    rw[List.length_take]at this
    omega
   have HTK:=Lib.hid (show onC now (m.take (k+1))=if now.length=0 then cK else cK++ [-(now.getD (n.toNat%now.length) 0)]from by
    rw[List.take_add_one,hnk,←hcK]
    exact onC_snoc _ _ _)
   rw[hcK]at HR
   obtain⟨Ak,ck,rfl,hck⟩:=mx_slice HR.out
   obtain⟨nn,rfl⟩: ∃nn:Nat,n=nn:=⟨n.toNat,by omega⟩
   rw[Int.toNat_natCast]at HTK
   have hwn:IntKind.i64.wrap (nn:Int)=(nn:Int):=IntWalk.i64_in _ (by omega)
   clear hnk d0 hcK
   obtain⟨j,hj⟩: ∃j,nn%now.length=j:=⟨_,rfl⟩
   have hjl:j<now.length:=by rw[←hj];exact Nat.mod_lt _ hpos
   have hmod:(nn:Int).tmod (now.length:Int)=(j:Int):=by rw[←hj];rfl
   have hwj:IntKind.i64.wrap (j:Int)=(j:Int):=IntWalk.i64_in _ (by omega)
   obtain⟨y,hy⟩:=getElem_of hjl
   have HTK2:=Lib.hid (show onC now (m.take (k+1))=cK++ [-y]from by
    rw[HTK.out,if_neg HNZ.out,hj,List.getD_eq_getElem?_getD,hy]
    rfl)
   obtain⟨g2,cc2,hv2,hg20,hg2,e0⟩:=own_cell HRN.out hy
   simp only[Value.slice.injEq,true_and]at hv2
   obtain⟨rfl,rfl⟩:=hv2
   have d2:wr.cell? ⟨g2,j,none⟩=some (.int .i64 y):=(HB.out.cell (p:=⟨g2,j,none⟩) hg2).trans e0
   have hyr:IntKind.i64.wrap (-y)= -y:=by
    have hm:y∈T.order:=by rw[HNOW.out];exact List.mem_of_getElem? hy
    rw[HG.out.st.sim.order]at hm
    obtain⟨r,hr,rfl⟩:=List.mem_map.1 hm
    have h3:=(litB_iff _).1 (HG.out.st.sim.litb hr)
    exact IntWalk.i64_in _ (by omega)
   clear HTK e0 hy hj
   go_wp2_with (at_builtin;refine wpList_append_own_at _ rfl _ _ 34 rfl w6.heap.size 32 i0 (.int .i64 0) 1 8 Tryz.underlying34 hi hz0 hz1 hz2 rfl (by decide) _ cK.length _ rfl (own_below HR.out (below_alloc1 wr _)) ⟨wr.heap.size,0,none⟩ 1 1 [.int .i64 (-y)] rfl rfl (cell_one_new' _ _ _) (by simp[Value.oneCell']) (by unfold maxLen;omega) (by omega) (by have:=HB.out.size;simp;omega) ?_;intro v' w7 hown hgrow hnl hat)
   obtain⟨Av,kv,rfl,_⟩:=mx_slice hown
   have hb7:Below w6.heap.size w6 w7:=(HB.out.trans ((below_alloc1 wr (.cells #[.int .i64 (-y)] 32)).mono HB.out.size)).grown hgrow (by have:=HB.out.size;simp;omega) (fun g hg=>(own_lt HR.out g hg).1)
   have HO:=Lib.hid (show w7.ownsRow w6.heap.size 32 1 (.slice Av (cK.length+1) kv) (onC now (m.take (k+1))).length ((onC now (m.take (k+1))).map (Value.int .i64))from by
    rw[HTK2.out,List.length_append,List.map_append]
    exact hown)
   have HB7:=Lib.hid hb7
   clear hown hgrow hnl hat hb7
   go_wp2
   go_roundw
   case rel=>exact⟨k+1,by omega,by go_num,HB7,HO⟩
   case measure=>simp[intOf];omega
  ·obtain rfl:k=N:=by omega
   obtain⟨c,hc⟩: ∃c,onC now (m.take k)=c:=⟨_,rfl⟩
   rw[hc]at HR
   have hsim:=HG.out.st.sim
   have hcl:c.length≤10:=by
    rw[←hc]
    have:=onC_len now (m.take k)
    rw[List.length_take]at this
    omega
   have hcm: ∀y∈c,-y∈T.order:=fun y hy=>by
    rw[HNOW.out]
    exact onC_mem (by rw[hc];exact hy)
   have hon:OnP T its c:=onP hsim HG.out.st.vars hcm (by omega)
   obtain⟨vv,rfl⟩: ∃vv:Nat,v=vv:=⟨v.toNat,by omega⟩
   have hwv:IntKind.i64.wrap (vv:Int)=(vv:Int):=IntWalk.i64_in _ (by omega)
   obtain⟨j,hj⟩: ∃j,vv%now.length=j:=⟨_,rfl⟩
   have hjl:j<now.length:=by rw[←hj];exact Nat.mod_lt _ hpos
   have hji:(j:Int)<(now.length:Int):=by omega
   have hmod:(vv:Int).tmod (now.length:Int)=(j:Int):=by rw[←hj];rfl
   have hwj:IntKind.i64.wrap (j:Int)=(j:Int):=IntWalk.i64_in _ (by omega)
   obtain⟨y,hy⟩:=getElem_of hjl
   have hym:y∈T.order:=by rw[HNOW.out];exact List.mem_of_getElem? hy
   have hyr:IntKind.i64.wrap (-y)= -y:=by
    have hm:=hym
    rw[hsim.order]at hm
    obtain⟨r,hr,rfl⟩:=List.mem_map.1 hm
    have h3:=(litB_iff _).1 (hsim.litb hr)
    exact IntWalk.i64_in _ (by omega)
   obtain⟨d,hd⟩: ∃d,c++ [-y]=d:=⟨_,rfl⟩
   have hdl:d.length=c.length+1:=by rw[←hd];simp
   have hond:OnP T its d:=onP hsim HG.out.st.vars (fun z hz=>by
    rw[←hd]at hz
    rcases List.mem_append.1 hz with hz|hz
    ·exact hcm z hz
    ·rw[List.mem_singleton.1 hz,Int.neg_neg]
     exact hym) (by omega)
   obtain⟨g2,cc2,hv2,hg20,hg2,e00⟩:=own_cell HRN.out hy
   simp only[Value.slice.injEq,true_and]at hv2
   obtain⟨rfl,rfl⟩:=hv2
   have dn:wr.cell? ⟨g2,j,none⟩=some (.int .i64 y):=(HB.out.cell (p:=⟨g2,j,none⟩) hg2).trans e00
   obtain⟨Ac,cc,rfl,hcc⟩:=mx_slice HR.out
   have HON:=Lib.hid hon
   have HOND:=Lib.hid hond
   have HI:=Lib.hid (IntsIn.of_own HR.out)
   have hit:its.length≤900:=by
    have:=congrArg List.length hsim.order
    rw[List.length_map,HNOW.out]at this
    omega
   have hg2l:g2<wr.heap.size:=Nat.lt_of_lt_of_le hg2 HB.out.size
   obtain⟨wd,hwd⟩: ∃z,z=wr:=⟨_,rfl⟩
   rw[←hwd]at HB HR HI dn hg2l⊢
   clear hwd
   have H7:=Lib.hid (H6.out.below HB.out)
   have HBW7:=Lib.hid (HBW6.out.trans (HB.out.mono HBW6.out.size))
   obtain⟨e0,e1,-,-⟩:=H7.out.cells
   have hsbl:=H7.out.sblt
   have HSIM:=Lib.hid hsim
   have HD:=Lib.hid hd
   have HOL:=Lib.hid (show T.order.length≤40 from by rw[HNOW.out];omega)
   have HTWO:=Lib.hid (hints_two (A:=addAll arn0 0 cs) h6 hsim HG.out.st.inv.rs hit (fun j=>get_cls h6 j) HCC.out HCF.out hon hond (fun z hz=>by rw[←hd];exact List.mem_append_left _ hz))
   have HH1:=Lib.hid (fun W (hb:Below wd.heap.size wd W)=>sr_hints (H7.out.below hb) hsim hon id Ac cc (HI.out.below hb))
   have HH2:=Lib.hid (fun W (hb:Below wd.heap.size wd W) Ad kd (hi:IntsIn (fun _=>True) W (.slice Ad d.length kd) d)=>sr_hints (H7.out.below hb) hsim hond id Ad kd hi)
   obtain⟨P1,hP1⟩: ∃P1,hintP (addAll arn0 0 cs) T c id=P1:=⟨_,rfl⟩
   obtain⟨P2,hP2⟩: ∃P2,hintP (addAll arn0 0 cs) T d id=P2:=⟨_,rfl⟩
   rw[hP1]at HH1 HTWO
   rw[hP2]at HH2 HTWO
   obtain⟨h1,n1⟩:=P1
   obtain⟨h2,n2⟩:=P2
   have HYM:=Lib.hid hym
   have hne: ¬now= []:=fun e=>by rw[e]at hpos;exact absurd hpos (by decide)
   clear hc hsim hon hond hit hP1 hP2 hd hcm hj hy e00 hym
   go_upto_region 15 with fail
   refine wp_region_held_drew (S:=fun w'=>Below wd.heap.size wd w') (by kernel_rfl) (mx_drew wd) (fun hS=>?_)
   obtain⟨xD,hxD⟩: ∃z,wd.drew=z:=⟨_,rfl⟩
   rw[hxD]at hS⊢
   clear hxD
   refine takeE 0 71 ?_
   refine takeE 1 72 ?_
   refine takeE 2 73 ?_
   refine takeF 3 74 (fun wq hSw=>(hSw.cell (p:=⟨sb,0,none⟩) hsbl).trans e0) ?_
   refine takeE 4 75 ?_
   refine takeE 5 76 ?_
   refine takeE 6 77 ?_
   refine takeF 7 78 (fun wq hSw=>(hSw.cell (p:=⟨sb,1,none⟩) hsbl).trans e1) ?_
   refine takeE 8 79 ?_
   refine takeE 9 80 ?_
   refine ready1 10 (fun K hK=>?_)
   go_simp
   refine(HH1.out _ hS).mono ?_
   rintro e w8 ⟨u8,rfl,hr8,hbN⟩
   obtain⟨As,ks,rfl,hks⟩:=mx_slice hr8
   have HR8:=Lib.hid hr8
   have hSN:=hS.trans (hbN.mono hS.size)
   refine hK.out _ _ hSN (fun _=>?_)
   clear hK
   refine takeE 11 70 ?_
   refine takeE 12 82 ?_
   refine takeE 13 83 ?_
   refine takeE 14 16 ?_
   refine takeE 15 17 ?_
   refine wpAnyH_done (by kernel_rfl) ?_ _
   have hS8:=hSN
   clear hSN hS hr8 hbN
   go_wp2_with fail
   have dn8:=(hS8.cell (p:=⟨g2,j,none⟩) hg2l).trans dn
   have hg8:g2<w8.heap.size:=Nat.lt_of_lt_of_le hg2l hS8.size
   have HCL:=Lib.hid (fun W (hb:Below w8.heap.size w8 W)=>clone_c (.slice Ac c.length cc) c W ((HI.out.below hS8).below hb) (by omega))
   have hsz8:w8.drew.heap.size=w8.heap.size:=by simp
   clear dn
   go_upto_region 16 with fail
   go_cut [18] (fun q wx=> ∃Ad kd,q= .slice Ad d.length kd∧Hid (IntsIn (fun _=>True) wx (.slice Ad d.length kd) d)∧Hid (Below w8.heap.size w8 wx))
   case first=>
    refine wp_region_held_drew (S:=fun w'=>Below w8.heap.size w8 w') (by kernel_rfl) (mx_drew w8) (fun hS=>?_)
    obtain⟨xD,hxD⟩: ∃z,w8.drew=z:=⟨_,rfl⟩
    rw[hxD]at hS hsz8⊢
    clear hxD
    have HSZ:=Lib.hid hsz8
    clear hsz8
    refine takeE 0 84 ?_
    refine takeE 2 86 ?_
    refine takeE 3 87 ?_
    refine takeE 4 88 ?_
    refine takeE 5 89 ?_
    refine takeE 6 90 ?_
    refine takeE 7 91 ?_
    refine takeE 8 92 ?_
    refine takeF 9 93 (fun wq hSw=>(hSw.cell (p:=⟨g2,j,none⟩) hg8).trans dn8) ?_
    refine takeE 10 94 ?_
    refine wpAnyH_ready (rs:= [1,11]) (by kernel_rfl) (by simp) ?_
    refine AllReadyH.cons rfl (fun K hK=>?_) (AllReadyH.cons rfl (fun K hK=>?_) AllReadyH.nil)
    ·go_simp
     refine(HCL.out _ hS).mono ?_
     rintro e w9 ⟨v9,rfl,hr9,hbN⟩
     obtain⟨A9,k9,rfl,hk9⟩:=mx_slice hr9
     have hS9:=hS.trans (hbN.mono hS.size)
     refine hK.out _ _ hS9 (fun _=>?_)
     have HR9:=Lib.hid hr9
     have hzx:=hbN.size
     clear hK hr9 hbN hS
     refine ready1 11 (fun K hK=>?_)
     go_simp
     have hbA:=mx_al w9 (.cells #[.int .i64 (-y)] 32)
     have hS:=hS9.trans (hbA.mono hS9.size)
     refine hK.out _ _ hS (fun _=>?_)
     have HBA:=Lib.hid hbA
     have HOW:=Lib.hid (own_below HR9.out HBA.out)
     have HSR:=Lib.hid (mx_src w9 32 [.int .i64 (-y)])
     have hzb:xD.heap.size≤(w9.alloc (.cells #[.int .i64 (-y)] 32)).heap.size:=by simp;omega
     have hz8:w8.heap.size≤xD.heap.size:=by have:=HSZ.out;omega
     clear hK hbA hS9 HBA
     refine ready1 12 (fun K hK=>?_)
     rw[if_pos (by rfl)]
     refine wp_append_any_at 96 (by rfl) _ _ 34 rfl xD.heap.size 32 i0 (.int .i64 0) 1 8 Tryz.underlying34 hi hz0 hz1 hz2 rfl (by decide) _ c.length _ (by rfl) HOW.out (.slice (some ⟨w9.heap.size,0,none⟩) 1 1) 1 [.int .i64 (-y)] (by rfl) HSR.out rfl (by simp[Value.oneCell']) (by unfold maxLen;omega) (by omega) hzb ?_
     intro v10 w10 hown' hgrow _
     obtain⟨A10,k10,rfl,_⟩:=mx_slice hown'
     have hbX:=hS.grown hgrow hS.size (fun g e=>Nat.le_trans hz8 (own_lt HOW.out g e).1)
     refine hK.out _ _ hbX (fun hS2=>?_)
     have HOD:=Lib.hid (show IntsIn (fun _=>True) w10 (.slice A10 d.length k10) d from by
      have h1:=IntsIn.of_own (xs:=d) (by
       rw[hdl,←HD.out,List.map_append]
       exact hown')
      rw[hdl]
      exact h1.mono (fun _ _=>trivial))
     have HBX:=Lib.hid hbX
     clear hK hown' hgrow hS hbX hS2
     have hS2:=HBX.out
     simp only[Act.put,List.setIfInBounds_toArray,List.set_cons_zero,List.set_cons_succ]
     refine takeE 13 18 ?_
     refine wpAnyH_done (by kernel_rfl) ?_ _
     go_wp2_with fail
     go_meet
     exact⟨A10,k10,by rw[hdl],HOD,HBX⟩
    ·go_simp
     have hbA:=mx_al xD (.cells #[.int .i64 (-y)] 32)
     have hSA:=hS.trans (hbA.mono hS.size)
     refine hK.out _ _ hSA (fun _=>?_)
     obtain⟨xA,hxA⟩: ∃z,xD.alloc (.cells #[.int .i64 (-y)] 32)=z:=⟨_,rfl⟩
     have hsr:=mx_src xD 32 [.int .i64 (-y)]
     have hsr:SrcAt xA (.slice (some ⟨xD.heap.size,0,none⟩) 1 1) 1 [.int .i64 (-y)]:=by rw[←hxA];exact hsr
     have hzA:xD.heap.size≤xA.heap.size:=by rw[←hxA];simp
     rw[hxA]at hSA⊢
     clear hxA hbA hK hS
     refine ready1 1 (fun K hK=>?_)
     go_simp
     refine(HCL.out _ hSA).mono ?_
     rintro e w9 ⟨v9,rfl,hr9,hbN⟩
     obtain⟨A9,k9,rfl,hk9⟩:=mx_slice hr9
     have hS:=hSA.trans (hbN.mono hSA.size)
     refine hK.out _ _ hS (fun _=>?_)
     have HOW:=Lib.hid hr9
     have HSR:=Lib.hid (hsr.below hbN)
     have hzb:=hbN.size
     have hz8:w8.heap.size≤xA.heap.size:=by have:=HSZ.out;omega
     clear hK hr9 hbN hSA hsr
     refine ready1 12 (fun K hK=>?_)
     rw[if_pos (by rfl)]
     refine wp_append_any_at 96 (by rfl) _ _ 34 rfl xA.heap.size 32 i0 (.int .i64 0) 1 8 Tryz.underlying34 hi hz0 hz1 hz2 rfl (by decide) _ c.length _ (by rfl) HOW.out (.slice (some ⟨xD.heap.size,0,none⟩) 1 1) 1 [.int .i64 (-y)] (by rfl) HSR.out rfl (by simp[Value.oneCell']) (by unfold maxLen;omega) (by omega) hzb ?_
     intro v10 w10 hown' hgrow _
     obtain⟨A10,k10,rfl,_⟩:=mx_slice hown'
     have hbX:=hS.grown hgrow hS.size (fun g e=>Nat.le_trans hz8 (own_lt HOW.out g e).1)
     refine hK.out _ _ hbX (fun hS2=>?_)
     have HOD:=Lib.hid (show IntsIn (fun _=>True) w10 (.slice A10 d.length k10) d from by
      have h1:=IntsIn.of_own (xs:=d) (by
       rw[hdl,←HD.out,List.map_append]
       exact hown')
      rw[hdl]
      exact h1.mono (fun _ _=>trivial))
     have HBX:=Lib.hid hbX
     clear hK hown' hgrow hS hbX hS2
     have hS2:=HBX.out
     simp only[Act.put,List.setIfInBounds_toArray,List.set_cons_zero,List.set_cons_succ]
     refine takeE 13 18 ?_
     refine wpAnyH_done (by kernel_rfl) ?_ _
     go_wp2_with fail
     go_meet
     exact⟨A10,k10,by rw[hdl],HOD,HBX⟩
   case rest=>
    obtain⟨Ad,kd,rfl,HID,HBC⟩:=hcut
    obtain⟨wF,hwF⟩: ∃z,z=wc:=⟨_,rfl⟩
    rw[←hwF]at HID HBC⊢
    clear hwF dn8 hg8 hsz8 HCL hdl
    have hSc:=hS8.trans (HBC.out.mono hS8.size)
    have e0:=(hSc.cell (p:=⟨sb,0,none⟩) hsbl).trans e0
    have e1:=(hSc.cell (p:=⟨sb,1,none⟩) hsbl).trans e1
    have hsbl:=(H7.out.below hSc).sblt
    go_upto_region 17 with fail
    refine wp_region_held_drew (S:=fun w'=>Below wF.heap.size wF w') (by kernel_rfl) (mx_drew wF) (fun hS=>?_)
    obtain⟨xD,hxD⟩: ∃z,wF.drew=z:=⟨_,rfl⟩
    rw[hxD]at hS⊢
    clear hxD
    refine takeE 0 98 ?_
    refine takeE 1 99 ?_
    refine takeE 2 100 ?_
    refine takeF 3 101 (fun wq hSw=>(hSw.cell (p:=⟨sb,0,none⟩) hsbl).trans e0) ?_
    refine takeE 4 102 ?_
    refine takeE 5 103 ?_
    refine takeE 6 104 ?_
    refine takeF 7 105 (fun wq hSw=>(hSw.cell (p:=⟨sb,1,none⟩) hsbl).trans e1) ?_
    refine takeE 8 106 ?_
    refine takeE 9 107 ?_
    refine ready1 10 (fun K hK=>?_)
    go_simp
    refine(HH2.out _ (hSc.trans (hS.mono hSc.size)) Ad kd (HID.out.below hS)).mono ?_
    rintro e w9 ⟨u9,rfl,hr9,hbN⟩
    obtain⟨At,kt,rfl,hkt⟩:=mx_slice hr9
    have HR9:=Lib.hid hr9
    have hSN:=hS.trans (hbN.mono hS.size)
    refine hK.out _ _ hSN (fun _=>?_)
    clear hK
    refine takeE 11 97 ?_
    refine takeE 12 109 ?_
    refine takeE 13 110 ?_
    refine takeE 14 19 ?_
    refine takeE 15 20 ?_
    refine wpAnyH_done (by kernel_rfl) ?_ _
    have hS9:=hSc.trans (hSN.mono hSc.size)
    have HS9:=Lib.hid hS9
    have H9:=Lib.hid (H7.out.below hS9)
    have HBW9:=Lib.hid (HBW7.out.trans (hS9.mono HBW7.out.size))
    have HI9:=Lib.hid (show IntsIn (fun _=>True) w9 (.slice Ac c.length cc) c from(HI.out.below hS9).mono (fun _ _=>trivial))
    have HD9:=Lib.hid (show IntsIn (fun _=>True) w9 (.slice Ad d.length kd) d from HID.out.below hSN)
    have HA9:=Lib.hid (show IntsIn (fun _=>True) w9 (.slice As h1.length ks) h1 from((IntsIn.of_own HR8.out).below (HBC.out.trans (hSN.mono HBC.out.size))).mono (fun _ _=>trivial))
    have HT9:=Lib.hid (show IntsIn (fun _=>True) w9 (.slice At h2.length kt) h2 from(IntsIn.of_own HR9.out).mono (fun _ _=>trivial))
    clear hSN hS hr9 hbN hSc hS8 hS9 e0 e1 hsbl HH1 HH2
    rcases HTWO.out with⟨hp,hop⟩|⟨hn1,hn2,hlen,hf1,hf2,hmem⟩
    ·simp only[Prod.mk.injEq]at hp
     obtain⟨rfl,rfl⟩:=hp
     obtain⟨n,hnid,hn,_⟩:=clsC_some HCC.out
     have HFN:=Lib.hid (sr_nil H9.out h6 HSIM.out HON.out Ac cc HI9.out)
     have HOP:=Lib.hid (fun W (hb:Below w9.heap.size w9 W)=>law_open15 Ac cc (H9.out.below hb) h6 (HI9.out.below hb) (by omega) hnid hn HOL.out (fun z hz=>by
      rw[HSIM.out.order]at hz
      obtain⟨r,hr,rfl⟩:=List.mem_map.1 hz
      exact HSIM.out.litb hr) hop)
     clear hop hnid hn HTWO
     go_wp2_with fail
     refine HFN.out.mono ?_
     rintro e w11 ⟨rfl,hb11⟩
     have HB11:=Lib.hid hb11
     clear hb11 HFN
     go_wp2_with fail
     refine(HOP.out _ HB11.out).mono ?_
     rintro e w12 ⟨rfl,hb12⟩
     have HB12:=Lib.hid (HBW9.out.trans ((HB11.out.trans (hb12.mono HB11.out.size)).mono HBW9.out.size))
     clear hb12 HOP
     go_wp2_with fail
     go_ret
     exact⟨rfl,HB12.out⟩
    ·obtain rfl:n1=0:=hn1
     obtain rfl:n2=0:=hn2
     have hlen2:h2.length≤h1.length:=hlen
     have q0:decide ((h1.length:Int)<(h2.length:Int))=false:=decide_eq_false (by omega)
     have q0n:decide (h1.length<h2.length)=false:=decide_eq_false (by omega)
     have HF1:=Lib.hid (sr_follows H9.out h6 hf1 HON.out.clb Ac As cc ks HI9.out HA9.out)
     have HF2:=Lib.hid (fun W (hb:Below w9.heap.size w9 W)=>sr_follows (H9.out.below hb) h6 hf2 HOND.out.clb Ad At kd kt (HD9.out.below hb) (HT9.out.below hb))
     have hl1:h1.length≤1000:=hf1.len
     have hl2:h2.length≤1000:=hf2.len
     have HMEM:=Lib.hid (show∀y∈h2,y∈h1 from hmem)
     clear hlen hlen2 hf1 hf2 hmem HTWO
     go_wp2_with fail
     refine HF1.out.mono ?_
     rintro e w11 ⟨rfl,hb11⟩
     have HB11:=Lib.hid hb11
     clear hb11 HF1
     go_wp2_with fail
     refine(HF2.out _ HB11.out).mono ?_
     rintro e w12 ⟨rfl,hb12⟩
     have HB12:=Lib.hid (HB11.out.trans (hb12.mono HB11.out.size))
     clear hb12 HF2 HB11
     go_wp2_with fail
     go_loopw [157] (fun iv wr=> ∃k:Nat,k≤h2.length∧iv= .int .i64 k∧Hid (Below w9.heap.size w9 wr)) (fun iv _=>h2.length-(intOf iv).toNat)
     case atStart=>exact⟨0,Nat.zero_le _,rfl,HB12⟩
     case round=>
      obtain⟨k,hk,rfl,HBk⟩:=hrel
      by_cases hlt:k<h2.length
      ·obtain⟨y,hyk⟩:=getElem_of hlt
       obtain⟨A',c',hAc,_,_,hxs⟩:=HT9.out.below HBk.out
       simp only[Value.slice.injEq,true_and]at hAc
       obtain⟨rfl,rfl⟩:=hAc
       obtain⟨g,o,rfl,hg,-,d0⟩:=hxs k y hyk
       have HCT:=Lib.hid (contains_i _ h1 y wr (HA9.out.below HBk.out) (by omega))
       rw[show h1.contains y=true from List.contains_iff_mem.2 (HMEM.out y (List.mem_of_getElem? hyk))]at HCT
       clear hxs hyk
       go_wp2_with fail
       refine HCT.out.mono ?_
       rintro e w' ⟨rfl,rfl⟩
       go_wp2_with fail
       go_roundw
       case rel=>exact⟨k+1,by omega,by go_num,HBk⟩
       case measure=>simp[intOf];omega
      ·obtain rfl:k=h2.length:=by omega
       have HBF:=Lib.hid (HBW9.out.trans (HBk.out.mono HBW9.out.size))
       go_wp2_with fail
       go_ret
       exact⟨rfl,HBF.out⟩
end Go.Proofs.YtoojmhjagipmdaaGreat
