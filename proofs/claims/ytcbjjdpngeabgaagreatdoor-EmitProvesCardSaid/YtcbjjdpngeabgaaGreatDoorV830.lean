/- package salvorlaw10: Resolved. -/
import Derived.Test.YtcbjjdpngeabgaaGreatDoorV829
import Derived.Test.YtcbjjdpngeabgaaGreatDoorV818
namespace Go.Proofs.YtcbjjdpngeabgaaGreatDoor
open Go.RowKit
attribute [local go_sem] Oper.semAt_some
theorem resGo_at {most n L:Nat} {xs:List Int} {o:Int} (h:xs[n]? =some o) (all:List (List Int)) (hL:all.length=L) (out:List EStep):resGo most n (xs.drop n) all out=if out.length<most∧0<L then
   (match resNew all (o.toNat%L) ((o.toNat/7+n)%L)with
    | none=>resGo most (n+1) (xs.drop (n+1)) all out
    | some c=>resGo most (n+1) (xs.drop (n+1)) (all++ [c]) (out++ [⟨false,(L:Int)+1,c,[((o.toNat%L:Nat):Int)+1,(((o.toNat/7+n)%L:Nat):Int)+1]⟩]))
  else out:=by
 subst hL
 have hlt:=(List.getElem?_eq_some_iff.1 h).1
 rw[List.drop_eq_getElem_cons hlt]
 rw[List.getElem?_eq_getElem hlt]at h
 rw[Option.some.inj h]
 rfl
theorem resGo_end {most n:Nat} {xs:List Int} (h:xs.length≤n) (all:List (List Int)) (out:List EStep):resGo most n (xs.drop n) all out=out:=by
 rw[List.drop_eq_nil_of_le h]
 rfl
theorem resGo_full {most n:Nat} (xs:List Int) (all:List (List Int)) (out:List EStep) (h: ¬(out.length<most∧0<all.length)):resGo most n xs all out=out:=by
 cases xs with
 | nil=>rfl
 | cons o r=>exact if_neg h
def litsV (x:StV):Value:=.slice x.2.1.1 x.1.lits.length x.2.1.2
def allOf (cs:List (List Int)) (K:List StV):List (List Int):=cs++K.map fun x=>x.1.lits
theorem allOf_len (cs:List (List Int)) (K:List StV):(allOf cs K).length=cs.length+K.length:=by
 unfold allOf
 rw[List.length_append,List.length_map]
structure ResAt (wc:World) (us:List Value) (cs:List (List Int)) (w:World) (av ov:Value) (K:List StV):Prop where
 row:w.ownsRow wc.heap.size 38 1 av (cs.length+K.length) (us++K.map litsV)
 st:StMem wc.heap.size w ov K
 low:Below wc.heap.size wc w
section
variable {wc w w':World} {us:List Value} {cs:List (List Int)} {av ov:Value} {K:List StV}
theorem ResAt.below (h:ResAt wc us cs w av ov K) (k:Below w.heap.size w w'):ResAt wc us cs w' av ov K:=⟨own_below h.row k,h.st.below k,h.low.trans (k.mono h.low.size)⟩
theorem ResAt.val (h:ResAt wc us cs w av ov K) (hus:us.length=cs.length) (hin: ∀(i:Nat) (c:List Int),cs[i]? =some c→∃u,us[i]? =some u∧IntsIn (fun _=>True) wc u c) {i:Nat} {c:List Int} (hi:(allOf cs K)[i]? =some c): ∃u,(us++K.map litsV)[i]? =some u∧IntsIn (fun _=>True) w u c:=by
 unfold allOf at hi
 rcases Nat.lt_or_ge i cs.length with hl|hl
 ·rw[List.getElem?_append_left hl]at hi
  obtain⟨u,h1,h2⟩:=hin i c hi
  exact⟨u,by rw[List.getElem?_append_left (by omega)];exact h1,h2.below h.low⟩
 ·rw[List.getElem?_append_right hl,List.getElem?_map]at hi
  cases hx:K[i-cs.length]? with
  | none=>rw[hx]at hi;cases hi
  | some x=>
   rw[hx]at hi
   obtain rfl:=Option.some.inj hi
   refine⟨litsV x,?_,(IntsIn.of_own (h.st.lit x (List.mem_of_getElem? hx))).mono fun _ _=>trivial⟩
   rw[List.getElem?_append_right (by omega),hus,List.getElem?_map,hx]
   rfl
theorem ResAt.cls (h:ResAt wc us cs w av ov K) (hus:us.length=cs.length) (hin: ∀(i:Nat) (c:List Int),cs[i]? =some c→∃u,us[i]? =some u∧IntsIn (fun _=>True) wc u c):ClsIn (fun _=>True) w av (allOf cs K):=by
 have hr:=h.row
 have hlen:=allOf_len cs K
 rcases hr.2 with⟨rfl,h0⟩|⟨g,cap,cur,rfl,hb,hg,hle,_⟩
 ·exact⟨none,0,by rw[hlen,h0],by rw[hlen,h0];exact Nat.le_refl _,fun _=>rfl,fun i c hi=>by
   have:=(List.getElem?_eq_some_iff.1 hi).1
   omega⟩
 ·refine⟨_,cap,by rw[hlen],by rw[hlen];exact hle,(fun h=>by cases h),fun i c hi=>?_⟩
  obtain⟨u,h1,h2⟩:=h.val hus hin hi
  exact⟨g,0,u,rfl,heap_lt hg,trivial,by rw[Nat.zero_add];exact mx_at hr h1,h2⟩
end
theorem ClsOwn.kept {n:Nat} {O:Nat→Prop} {w w':World} {v:Value} {cs:List (List Int)} (h:ClsOwn n w v cs) (k:Kept O w w') (hO: ∀g,n≤g→¬O g):ClsOwn n w' v cs:=by
 obtain⟨us,h1,h2⟩:=h
 refine⟨us,own_kept h1 k (fun g hg=>hO g (own_lt h1 g hg).1),fun i xs hi=>?_⟩
 obtain⟨u,hu,ho⟩:=h2 i xs hi
 exact⟨u,hu,own_kept ho k (fun g hg=>hO g (own_lt ho g hg).1)⟩
theorem res_made10 {fn:Func} (h:fn.results= #[.cell 2 27]) {w:World} {b:Nat} {c0 c1:Value} (hb:w.heap[b]? =some (.cells #[c0,c1] 27 (0,0))) (tmps:Array Value) (t1:tmps[2]?.getD undef= .pointer (some ⟨b,0,none⟩)):(results fn tmps).run Tryz.prog w= .ok (.agg #[c0,c1]) w:=by
 have p0:=mx_cell (j:=0) hb
 have p1:=mx_cell (j:=1) hb
 simp[results,h,go_sem,t1,p0,p1]
set_option maxRecDepth 100000 in
set_option maxHeartbeats 1000000 in
theorem made10_any (u:Value) (xss:List (List Int)) (w:World) (h:RowsAt .i8 w u xss) {cs:List (List Int)} (hcs:(xss.take 14).map madeL=cs) {n:Nat} (hn:cs.length=n):
  Calls Tryz.prog 5 #[u] w fun e w'=> ∃A k,e= .returned (.agg #[.int .i64 6,.slice A n k])∧ClsOwn w.heap.size w' (.slice A n k) cs∧Below w.heap.size w w':=by
 have HA:=Lib.hid (fun(W:World) (hb:Below w.heap.size w W)=>all_any u xss 14 W (h.below hb) (by decide))
 rw[hcs]at HA
 clear h
 go_enter Tryz.func5,Tryz.ntmps5
 go_wp2_with fail
 refine(HA.out _ (mx_al _ _)).mono ?_
 rintro e w1 ⟨v,rfl,hv,hb⟩
 rw[World.size_alloc]at hv hb
 have HV:=Lib.hid hv
 have b0:w1.heap[w.heap.size]? =some (.cells #[.int .i64 0,.slice none 0 0] 27 (0,0)):=(hb.block _ (by omega)).trans (World.alloc_heap_new _ _)
 have HB:=Lib.hid ((mx_al w (.cells #[.int .i64 0,.slice none 0 0] 27)).trans (hb.mono (Nat.le_succ _)))
 have hlt:=heap_lt b0
 obtain⟨us,ho,_⟩:=hv
 obtain⟨Al,cl,rfl,_⟩:=mx_slice ho
 rw[hn]at HV⊢
 clear ho hn
 have f0:=free_at (j:=0) b0
 have f1:=free_at (j:=1) b0
 have e0:=mx_cell (j:=0) b0
 have e1:=mx_cell (j:=1) b0
 have HB0:=Lib.hid b0
 clear hb b0
 go_wp2_with fail
 have hs:=mx_set (mx_set HB0.out (.int .i64 6) (j:=0)) (.slice Al n cl) (j:=1)
 have hk2:Kept (fun g=>g=w.heap.size) w1 ((w1.setCell ⟨w.heap.size,0,none⟩ (.int .i64 6)).setCell ⟨w.heap.size,1,none⟩ (.slice Al n cl)):=Kept.setCell (O:=fun g=>g=w.heap.size) (Kept.setCell (O:=fun g=>g=w.heap.size) (Kept.refl _ w1) _ _ rfl) _ _ rfl
 refine bodyPost_ret (res_made10 (b:=w.heap.size) rfl hs _ (by simp)) rfl ?_
 exact⟨_,_,rfl,(HV.out.kept hk2 (fun g hg e=>by omega)).mono (Nat.le_succ _),HB.out.trans (hk2.below (fun g e=>by omega) HB.out.size)⟩
theorem u8_rng10 {x:Int} (h:(Lit.int .u8 x).wf=true):0≤x∧x≤255:=by
 simp only[Lit.wf,Bool.and_eq_true,decide_eq_true_eq]at h
 exact⟨h.1,h.2⟩
theorem find_at {α:Type} {P:α→Bool}: ∀{xs:List α} {p:Nat} {x:α},xs[p]? =some x→(∀q y,q<p→xs[q]? =some y→P y=false)→P x=true→xs.find? P=some x
 | [],_,_,h,_,_=>by simp at h
 | z::r,0,x,h,_,hP=>by
  obtain rfl:z=x:=by simpa using h
  exact List.find?_cons_of_pos hP
 | z::r,p+1,x,h,hn,hP=>by
  have hz:=hn 0 z (Nat.succ_pos _) rfl
  rw[List.find?_cons_of_neg (by rw[hz];decide)]
  exact find_at (p:=p) (by simpa using h) (fun q y hq hy=>hn (q+1) y (by omega) (by simpa using hy)) hP
theorem find_no {α:Type} {P:α→Bool} {xs:List α} (h: ∀q y,q<xs.length→xs[q]? =some y→P y=false):xs.find? P=none:=List.find?_eq_none.2 fun x hx=>by
 obtain⟨q,hq⟩:=List.getElem?_of_mem hx
 rw[h q x (List.getElem?_eq_some_iff.1 hq).1 hq]
 decide
def pickB (a b:List Int) (l:Int):Bool:=b.contains (-l)&& !clashL a&& !clashL b
theorem resNew_none {all:List (List Int)} {i k:Nat} {a b:List Int} (hi:all[i]? =some a) (hk:all[k]? =some b) (h:a.find? (pickB a b)=none):resNew all i k=none:=by
 have ea:all.getD i []=a:=by rw[List.getD_eq_getElem?_getD,hi];rfl
 have eb:all.getD k []=b:=by rw[List.getD_eq_getElem?_getD,hk];rfl
 unfold resNew
 rw[ea,eb,show resPick a b=none from h]
theorem resNew_pick {all:List (List Int)} {i k:Nat} {a b:List Int} {l:Int} (hi:all[i]? =some a) (hk:all[k]? =some b) (h:a.find? (pickB a b)=some l):resNew all i k=if(clashL (joinL a b l)||all.contains (joinL a b l))=true then none else some (joinL a b l):=by
 have ea:all.getD i []=a:=by rw[List.getD_eq_getElem?_getD,hi];rfl
 have eb:all.getD k []=b:=by rw[List.getD_eq_getElem?_getD,hk];rfl
 unfold resNew
 rw[ea,eb,show resPick a b=some l from h]
theorem any_eq (cs:List (List Int)) (c:List Int):(cs.any fun d=>d==c)=cs.contains c:=by
 induction cs with
 | nil=>rfl
 | cons d r ih=>
  rw[List.any_cons,List.contains_cons,ih]
  congr 1
  by_cases h:d=c
  ·subst h;simp
  ·have h2:c≠d:=fun e=>h e.symm
   rw[beq_eq_false_iff_ne.2 h,beq_eq_false_iff_ne.2 h2]
theorem own_two {w:World} {b g:Nat} {t:TypeId} {x y:Value} (hb:b≤g) (h:w.heap[g]? =some (.cells #[x,y] t (0,0))):w.ownsRow b t 1 (.slice (some ⟨g,0,none⟩) 2 2) 2 [x,y]:=
 ⟨rfl,.inr ⟨g,2,#[x,y],rfl,hb,h,Nat.le_refl _,by decide,rfl,rfl⟩⟩
set_option maxRecDepth 100000 in
set_option maxHeartbeats 1000000 in
theorem same_one {O:Nat→Prop} (q:Nat) (u v:Value) (d c:List Int) (w:World) (h:IntsIn O w u d) (h2:IntsIn (fun _=>True) w v c) (hq:w.cell? ⟨q,0,none⟩=some v) (hl:d.length≤1000000):
  Calls Tryz.prog 47 #[u,.pointer (some ⟨q,0,none⟩)] w fun e w'=>e= .returned (.bool (d==c))∧Below w.heap.size w w':=by
 have HC:=Lib.hid (eq_c u v d c w h h2 (by omega))
 obtain⟨z,hz⟩: ∃z,(d==c)=z:=⟨_,rfl⟩
 rw[hz]at HC⊢
 obtain⟨A,k,rfl,_⟩:=h
 obtain⟨A2,k2,rfl,_⟩:=h2
 clear hz
 go_enter Tryz.func47,Tryz.ntmps47
 go_wp2_with fail
 refine HC.out.mono ?_
 rintro e w' ⟨rfl,n,rfl⟩
 go_wp2_with fail
 go_ret
 exact⟨rfl,mx_drewN _ _⟩
theorem one_setR {w5:World} {yb:Nat} {z0:Value} {t:TypeId} (hb:w5.heap[yb]? =some (.cells #[z0] t (0,0))) (a0:Value): ∃wy,(w5.setCell ⟨yb,0,none⟩ a0)=wy∧wy.heap[yb]? =some (.cells #[a0] t (0,0))∧Kept (fun g=>g=yb) w5 wy:=
 ⟨_,rfl,mx_set hb (j:=0) a0,(Kept.refl (fun g=>g=yb) w5).setCell ⟨yb,0,none⟩ a0 rfl⟩
theorem cells_of_blk {w:World} {g:Nat} {us:List Value} {t:TypeId} {z:Nat×Nat} (h:w.heap[g]? =some (.cells us.toArray t z)): ∀j u,us[j]? =some u→w.cell? ((⟨g,0,none⟩:Addr).add j)=some u:=fun j u hj=>by
 rw[show(⟨g,0,none⟩:Addr).add j=⟨g,j,none⟩from by
  unfold Addr.add
  split
  ·rename_i e;rw[e]
  ·simp]
 exact blk_cell h hj
theorem lits_six {c:List Int} (h:Lit6 c): ∀y∈c,litB y=true:=fun y hy=>(h.2 y hy).1
set_option maxRecDepth 100000 in
set_option maxHeartbeats 8000000 in
theorem law_resolved {O:Nat→Prop} (n0:Int) (most:Nat) (lv xv:Value) (cs:List (List Int)) (xs:List Int) (w:World) (h:ClsIn O w lv cs) (h6: ∀c∈cs,Lit6 c) (hcl:cs.length≤1000) (hx:RowAt .u8 w xv xs) (hm:most≤1000) (hxl:xs.length≤140737488355328):
  Calls Tryz.prog 24 #[.agg #[.int .i64 n0,lv],xv,.int .i64 (most:Nat)] w fun e w'=> ∃v K,e= .returned v∧K.map Prod.fst=resL cs xs most∧StMem w.heap.size w' v K∧Below w.heap.size w w':=by
 obtain⟨i0,hi,hz0,hz1,hz2⟩:=info_parts info_cls
 obtain⟨si,hsi,sz0,sz1,sz2⟩:=info_parts stinfo
 obtain⟨W1,hW1,hb1,hc1,hz1'⟩:=al_new w #[.int .i64 n0,lv] 27
 obtain⟨us,hus,hsrc,hone,hin⟩:=h.src
 obtain⟨R,hR⟩: ∃R,resL cs xs most=R:=⟨_,rfl⟩
 rw[hR]
 have HR0:=Lib.hid (show R=resGo most 0 (xs.drop 0) (allOf cs []) (([] :List StV).map Prod.fst)from by
  rw[←hR]
  unfold resL allOf
  simp)
 have HIN:=Lib.hid (show∀(X:World),Below w.heap.size w X→∀(i:Nat) (c:List Int),cs[i]? =some c→∃u,us[i]? =some u∧IntsIn (fun _=>True) X u c from fun X hX i c hi=>by
  obtain⟨u,g1,g2⟩:=hin i c hi
  exact⟨u,g1,(g2.below hX).mono fun _ _=>trivial⟩)
 have HUS:=Lib.hid hus
 have H6:=Lib.hid h6
 have HX:=Lib.hid (fun(X:World) (hX:Below w.heap.size w X)=>hx.below hX)
 obtain⟨A,c,rfl,_⟩:=h
 have hAn:A=none→cs.length=0∧c=0:=by
  rename_i hh
  intro hA
  have:=hh.2.1 hA
  have:=hh.1
  omega
 have HCL:=Lib.hid (clone_row A cs.length c us W1 (hsrc.below hb1) hAn hus hone (by omega))
 obtain⟨Ax,cx,rfl,hxc,hxm,_⟩:=hx
 have HW1:=Lib.hid hW1
 have HB1:=Lib.hid hb1
 clear hR hin hus h6 hsrc hone hAn hW1 hb1
 go_enter Tryz.func24,Tryz.ntmps24
 have c0:=mx_cell (j:=0) hc1
 have c1:=mx_cell (j:=1) hc1
 go_upto_region 1 with fail
 rw[HW1.out]
 go_wp2_with fail
 refine HCL.out.mono ?_
 rintro e w1 ⟨av,rfl,hrow,hb⟩
 clear c0 c1 hc1 hz1' HCL HW1
 have HW:=Lib.hid (HB1.out.trans (hb.mono HB1.out.size))
 have hwz:w.heap.size≤w1.heap.size:=HW.out.size
 have HAT:=Lib.hid (show ResAt w us cs w1 av (.slice none 0 0) []from⟨by
  rw[List.map_nil,List.append_nil]
  exact own_mono hrow HB1.out.size,StMem.nil _ _,HW.out⟩)
 obtain⟨Aa,ca,rfl,_⟩:=mx_slice hrow
 clear hb hrow HB1
 go_wp2_with fail
 go_loopw [7,8,9] (fun dv ov nv wr=> ∃(n:Nat) (K:List StV),n≤xs.length∧K.length≤n∧K.length≤most∧nv= .int .i64 n∧Hid (R=resGo most n (xs.drop n) (allOf cs K) (K.map Prod.fst))∧Hid (∀c∈allOf cs K,Lit6 c)∧Hid (ResAt w us cs wr dv ov K)) (fun _ _ i _=>xs.length-(intOf i).toNat)
 case atStart=>exact⟨0,[],Nat.zero_le _,Nat.le_refl _,Nat.zero_le _,rfl,HR0,Lib.hid (by
  unfold allOf
  rw[List.map_nil,List.append_nil]
  exact H6.out),HAT⟩
 case round=>
  obtain⟨n,K,hn,hKn,hKm,rfl,HR,HA6,HA⟩:=hrel
  obtain⟨Ad,cd,rfl,_⟩:=mx_slice HA.out.row
  obtain⟨Ao,co,rfl,_⟩:=mx_slice HA.out.st.row
  obtain⟨L,hL⟩: ∃L,cs.length+K.length=L:=⟨_,rfl⟩
  have HL:=Lib.hid hL
  have hLm:L≤2000:=by omega
  rw[hL]
  by_cases hlt:n<xs.length
  ·by_cases hfull:K.length<most∧0<L
   ·obtain⟨o,hxo⟩:=getElem_of hlt
    have hlen:=allOf_len cs K
    rw[hL]at hlen
    obtain⟨A7,c7,h7,_,_,_,hwf,hxs⟩:=HX.out wr HA.out.low
    simp only[Value.slice.injEq,true_and]at h7
    obtain⟨rfl,rfl⟩:=h7
    obtain⟨gx,ox,rfl,hgx,dx⟩:=hxs n o hxo
    have hor:=u8_rng10 (hwf o (List.mem_of_getElem? hxo))
    have HST:=Lib.hid (HR.out.trans (resGo_at hxo (allOf cs K) hlen (K.map Prod.fst)))
    rw[List.length_map]at HST
    have HST:=Lib.hid (HST.out.trans (if_pos hfull))
    obtain⟨on,rfl⟩: ∃on:Nat,o=on:=⟨o.toNat,by omega⟩
    rw[Int.toNat_natCast]at HST
    obtain⟨hk1,hk2⟩:=hfull
    obtain⟨i,hi'⟩: ∃i,on%L=i:=⟨_,rfl⟩
    obtain⟨k,hk'⟩: ∃k,(on/7+n)%L=k:=⟨_,rfl⟩
    have hil:i<L:=by rw[←hi'];exact Nat.mod_lt _ hk2
    have hkl:k<L:=by rw[←hk'];exact Nat.mod_lt _ hk2
    rw[hi',hk']at HST
    have s1:decide ((K.length:Int)<(most:Int))=true:=decide_eq_true (by omega)
    have s2:decide ((0:Int)<(L:Int))=true:=decide_eq_true (by omega)
    have DX:=Lib.hid dx
    have HI':=Lib.hid hi'
    have HK':=Lib.hid hk'
    clear hxs hwf hxo dx hi' hk'
    go_wp2_with fail
    refine wp_region_held_drew (S:=fun w'=>Below wr.heap.size wr w') (by kernel_rfl) (mx_drew wr) (fun hS=>?_)
    obtain⟨wD,hwD⟩: ∃y,wr.drew=y:=⟨_,rfl⟩
    rw[hwD]at hS⊢
    clear hwD
    have hLz: ¬L=0:=by omega
    have ho1:(on:Int)≤255:=hor.2
    have w1:IntKind.i64.wrap (on:Int)=(on:Int):=IntWalk.i64_in _ (by omega)
    have w2:IntKind.i64.wrap ((on:Int)/7)=(on:Int)/7:=IntWalk.i64_in _ (by omega)
    have w3:IntKind.i64.wrap ((on:Int)/7+(n:Int))=(on:Int)/7+(n:Int):=IntWalk.i64_in _ (by omega)
    have r1:(on:Int).tmod (L:Int)=(i:Int):=by rw[←HI'.out];rfl
    have r2:((on:Int)/7+(n:Int)).tmod (L:Int)=(k:Int):=by rw[←HK'.out];rfl
    refine takeE 0 35 ?_
    refine takeE 1 36 ?_
    refine takeE 2 37 ?_
    refine takeF 3 38 (fun wq hSw=>(hSw.cell (p:=⟨gx,ox+n,none⟩) hgx).trans DX.out) ?_
    refine takeE 4 39 ?_
    refine takeE 5 40 ?_
    refine takeE 6 41 ?_
    refine takeE 7 42 ?_
    refine takeE 8 43 ?_
    refine takeE 9 44 ?_
    refine takeE 10 45 ?_
    refine takeF 11 46 (fun wq hSw=>(hSw.cell (p:=⟨gx,ox+n,none⟩) hgx).trans DX.out) ?_
    refine takeE 12 47 ?_
    refine takeE 13 48 ?_
    refine takeE 14 49 ?_
    refine takeE 15 50 ?_
    refine takeE 16 51 ?_
    refine takeE 17 52 ?_
    refine takeE 18 53 ?_
    refine takeE 19 10 ?_
    refine takeE 20 11 ?_
    refine wpAnyH_done (by kernel_rfl) ?_ _
    clear w1 w2 w3 r1 r2 hLz ho1
    have hA0:=HA.out.below hS
    rw[hL]at hA0
    have HAD:=Lib.hid hA0
    obtain⟨a,hia⟩: ∃a,(allOf cs K)[i]? =some a:=⟨_,List.getElem?_eq_getElem (by rw[hlen];exact hil)⟩
    obtain⟨b,hkb⟩: ∃b,(allOf cs K)[k]? =some b:=⟨_,List.getElem?_eq_getElem (by rw[hlen];exact hkl)⟩
    have h6a:=HA6.out a (List.mem_of_getElem? hia)
    have h6b:=HA6.out b (List.mem_of_getElem? hkb)
    have hal:=h6a.1
    have hbl:=h6b.1
    have H6A:=Lib.hid h6a
    have H6B:=Lib.hid h6b
    obtain⟨A9,c9,h9,_,_,hxs⟩:=HAD.out.cls HUS.out (HIN.out w (Below.refl _ _))
    rw[hlen]at h9
    simp only[Value.slice.injEq,true_and]at h9
    obtain⟨rfl,rfl⟩:=h9
    obtain⟨ga,oa,ua,rfl,hga,_,da,hua⟩:=hxs i a hia
    obtain⟨gb,ob,ub,hgb,_,_,db,hub⟩:=hxs k b hkb
    simp only[Option.some.injEq,Addr.mk.injEq,and_true]at hgb
    obtain⟨rfl,rfl⟩:=hgb
    have HUA:=Lib.hid hua
    have HUB:=Lib.hid hub
    have DA:=Lib.hid da
    have DB:=Lib.hid db
    have HIA:=Lib.hid hia
    have HKB:=Lib.hid hkb
    obtain⟨Aa',ca',rfl,_⟩:=hua
    obtain⟨Ab',cb',rfl,_⟩:=hub
    clear hxs hia hkb h6a h6b db hS hA0
    go_wp2_with fail
    clear da
    go_loopw [7,8,59] (fun dv ov iv w5=> ∃(p:Nat),p≤a.length∧dv= .slice (some ⟨ga,oa,none⟩) L cd∧ov= .slice Ao K.length co∧iv= .int .i64 p∧Hid (∀q y,q<p→a[q]? =some y→pickB a b y=false)∧Hid (Below wD.heap.size wD w5)) (fun _ _ iv _=>a.length-(intOf iv).toNat)
    case atStart=>exact⟨0,Nat.zero_le _,rfl,rfl,rfl,Lib.hid (fun q y hq=>by omega),Lib.hid (Below.refl _ _)⟩
    case round=>
     rename World=>w5
     obtain⟨p,hp,rfl,rfl,rfl,HNO,HB5⟩:=hrel
     by_cases hpl:p<a.length
     ·obtain⟨x,hxp⟩:=getElem_of hpl
      obtain⟨A',c',hAc,_,_,hxs⟩:=HUA.out.below HB5.out
      simp only[Value.slice.injEq,true_and]at hAc
      obtain⟨rfl,rfl⟩:=hAc
      obtain⟨g1,o1,rfl,hg1,_,d1⟩:=hxs p x hxp
      have hxb:litB x=true:=(H6A.out.2 x (List.mem_of_getElem? hxp)).1
      have hnw:=neg_wrap hxb
      have da:=(HB5.out.cell (p:=⟨ga,oa+i,none⟩) hga).trans DA.out
      have db:=(HB5.out.cell (p:=⟨ga,oa+k,none⟩) hga).trans DB.out
      have HCT:=Lib.hid (contains_c _ b (-x) w5 (HUB.out.below HB5.out) (by omega))
      have HXP:=Lib.hid hxp
      have HXB:=Lib.hid hxb
      obtain⟨b1,hb1⟩: ∃z,b.contains (-x)=z:=⟨_,rfl⟩
      rw[hb1]at HCT
      have HB1:=Lib.hid hb1
      clear hxs hxp hxb hb1
      go_wp2_with fail
      refine HCT.out.mono ?_
      rintro e w6 ⟨rfl,rfl⟩
      clear HCT d1
      have HNEXT:=Lib.hid (fun(hf:pickB a b x=false)=>(fun q y hq hy=>by
       rcases Nat.lt_or_ge q p with h|h
       ·exact HNO.out q y h hy
       ·obtain rfl:q=p:=by omega
        rw[HXP.out]at hy
        rw[←Option.some.inj hy]
        exact hf: ∀q y,q<p+1→a[q]? =some y→pickB a b y=false))
      cases b1 with
      | false=>
       have HNX:=Lib.hid (HNEXT.out (by unfold pickB;rw[HB1.out];rfl))
       clear da db
       go_wp2_with fail
       go_roundw
       case rel=>exact⟨p+1,by omega,rfl,rfl,by go_num,HNX,HB5⟩
       case measure=>simp[intOf];omega
      | true=>
       have HCA:=Lib.hid (law_clash _ a w5 (HUA.out.below HB5.out) (by omega) (lits_six H6A.out))
       obtain⟨b2,hb2⟩: ∃z,clashL a=z:=⟨_,rfl⟩
       rw[hb2]at HCA
       have HB2:=Lib.hid hb2
       clear hb2
       go_wp2_with fail
       refine HCA.out.mono ?_
       rintro e w7 ⟨rfl,hb7⟩
       have HB7:=Lib.hid (HB5.out.trans (hb7.mono HB5.out.size))
       clear HCA da db hb7
       cases b2 with
       | true=>
        have HNX:=Lib.hid (HNEXT.out (by unfold pickB;rw[HB2.out,HB1.out];rfl))
        go_wp2_with fail
        go_roundw
        case rel=>exact⟨p+1,by omega,rfl,rfl,by go_num,HNX,HB7⟩
        case measure=>simp[intOf];omega
       | false=>
        have db:=(HB7.out.cell (p:=⟨ga,oa+k,none⟩) hga).trans DB.out
        have HCB:=Lib.hid (law_clash _ b w7 (HUB.out.below HB7.out) (by omega) (lits_six H6B.out))
        obtain⟨b3,hb3⟩: ∃z,clashL b=z:=⟨_,rfl⟩
        rw[hb3]at HCB
        have HB3:=Lib.hid hb3
        clear hb3
        go_wp2_with fail
        refine HCB.out.mono ?_
        rintro e w8 ⟨rfl,hb8⟩
        have HB8:=Lib.hid (HB7.out.trans (hb8.mono HB7.out.size))
        clear HCB db hb8
        cases b3 with
        | true=>
         have HNX:=Lib.hid (HNEXT.out (by unfold pickB;rw[HB2.out,HB1.out,HB3.out];rfl))
         go_wp2_with fail
         go_roundw
         case rel=>exact⟨p+1,by omega,rfl,rfl,by go_num,HNX,HB8⟩
         case measure=>simp[intOf];omega
        | false=>
         have HFN:=Lib.hid (find_at HXP.out HNO.out (show pickB a b x=true from by unfold pickB;rw[HB2.out,HB1.out,HB3.out];rfl))
         clear HNEXT HNO HB1 HB2 HB3 hnw
         go_wp2_with fail
         have HJ:=Lib.hid (fun(X:World) (hX:Below w8.heap.size w8 X)=>law_joined _ _ a b x X ((HUA.out.below HB8.out).below hX) ((HUB.out.below HB8.out).below hX) (by omega) (by omega) HXB.out)
         obtain⟨cj,hcj⟩: ∃z,joinL a b x=z:=⟨_,rfl⟩
         rw[hcj]at HJ
         have h6j:Lit6 cj:=by rw[←hcj];exact join_six H6A.out H6B.out x
         have hcl:=h6j.1
         have H6J:=Lib.hid h6j
         have hg8:ga<w8.heap.size:=Nat.lt_of_lt_of_le hga HB8.out.size
         have DA8:=Lib.hid (show w8.cell? ⟨ga,oa+i,none⟩=some (.slice (some ⟨g1,o1,none⟩) a.length ca')from(HB8.out.cell (p:=⟨ga,oa+i,none⟩) hga).trans DA.out)
         have DB8:=Lib.hid (show w8.cell? ⟨ga,oa+k,none⟩=some (.slice Ab' b.length cb')from(HB8.out.cell (p:=⟨ga,oa+k,none⟩) hga).trans DB.out)
         have HRN:=Lib.hid (resNew_pick HIA.out HKB.out HFN.out)
         rw[hcj]at HRN
         have HAW:=Lib.hid (HAD.out.below HB8.out)
         have hw8:w.heap.size≤w8.heap.size:=HAW.out.low.size
         clear hcj h6j HFN
         refine wp_region_sink_at (fun w'=>Below w8.heap.size w8 w') (by kernel_rfl) rfl (by kernel_rfl) (mx_drew w8) (fun hS=>?_)
         simp only[List.dropLast]
         obtain⟨xD,hxD⟩: ∃y,w8.drew=y:=⟨_,rfl⟩
         rw[hxD]at hS⊢
         clear hxD
         refine takeE 0 85 ?_
         refine takeE 1 86 ?_
         refine takeE 2 87 ?_
         refine takeF 3 88 (fun wq hSw=>(hSw.cell (p:=⟨ga,oa+i,none⟩) hg8).trans DA8.out) ?_
         refine takeE 4 89 ?_
         refine takeE 5 90 ?_
         refine takeE 6 91 ?_
         refine takeF 7 92 (fun wq hSw=>(hSw.cell (p:=⟨ga,oa+k,none⟩) hg8).trans DB8.out) ?_
         refine takeE 8 93 ?_
         apply via
         ·intro TAIL
          refine wpAnyH_ready (rs:= [9,10]) (by kernel_rfl) (by simp) (AllReadyH.cons rfl (fun KK hKK=>?_) (AllReadyH.cons rfl (fun KK hKK=>?_) AllReadyH.nil))
          ·go_simp
           refine(HJ.out xD hS).mono ?_
           rintro e wc ⟨vc,rfl,hcl,hbc⟩
           have hSc:=hS.trans (hbc.mono hS.size)
           obtain⟨Acl,ccl,rfl,_⟩:=mx_slice hcl
           refine hKK.out _ _ hSc (fun hh1=>?_)
           clear hKK hh1
           refine ready1 10 (fun KK hKK=>?_)
           go_simp
           obtain⟨wZ,hwa,hba,hbx,-⟩:=al_new wc #[.slice none 0 0] 38
           rw[hwa]
           have hbel:=hSc.trans (hba.mono hSc.size)
           have hrow:=own_mono (own_below hcl hba) hS.size
           refine hKK.out _ _ hbel (fun hh2=>?_)
           have hge:w8.heap.size≤wc.heap.size:=hSc.size
           clear hKK hh2 hwa hba hcl hbc hSc
           obtain⟨B,hB⟩: ∃B,wc.heap.size=B:=⟨_,rfl⟩
           rw[hB]at hbx hge⊢
           clear hB wc
           revert B wZ Acl ccl
           exact TAIL
          ·go_simp
           obtain⟨wa,hwa,hba,hbx0,-⟩:=al_new xD #[.slice none 0 0] 38
           rw[hwa]
           have hSa:=hS.trans (hba.mono hS.size)
           refine hKK.out _ _ hSa (fun hh1=>?_)
           clear hKK hh1 hwa
           refine ready1 9 (fun KK hKK=>?_)
           go_simp
           refine(HJ.out wa hSa).mono ?_
           rintro e wZ ⟨vc,rfl,hcl,hbc⟩
           have hbel:=hSa.trans (hbc.mono hSa.size)
           obtain⟨Acl,ccl,rfl,_⟩:=mx_slice hcl
           have hrow:=own_mono hcl hSa.size
           have hbx:=(hbc.block _ (heap_lt hbx0)).trans hbx0
           have hge:w8.heap.size≤xD.heap.size:=hS.size
           refine hKK.out _ _ hbel (fun hh2=>?_)
           clear hKK hh2 hcl hbc hSa hbx0
           revert hbx hrow hbel hge
           generalize xD.heap.size=B
           intro hbx hrow hbel hge
           apply TAIL <;> assumption
         ·intro Acl ccl _ wZ hbel hrow B hge hbx
          obtain⟨wS,hwS,hbxS,hkS⟩:=one_setR hbx (.slice Acl cj.length ccl)
          have r0:=mx_cell (j:=0) hbx
          have f0:=free_at (j:=0) hbx
          refine wpAnyH_done (by kernel_rfl) ?_ _
          refine lastPost_normal ?_
          refine wpOp_step rfl (fun KK hKK=>?_)
          go_simp
          try rw[hwS]
          refine hKK _ _ ?_
          have HBXS:=Lib.hid hbxS
          have hbelS:=hbel.trans (hkS.below (fun i e=>by omega) hbel.size)
          have HCR:=Lib.hid (show wS.ownsRow w8.heap.size 57 1 (.slice Acl cj.length ccl) cj.length (cj.map (Value.int .i64))from own_kept hrow hkS (fun g h1 h2=>mx_not hrow hbx (by decide) (by rw[←h2];exact h1)))
          have HAS:=Lib.hid (HAW.out.below hbelS)
          have HBES:=Lib.hid hbelS
          have c0:=mx_cell (j:=0) hbxS
          have HCLS:=Lib.hid (law_clash _ cj wS (IntsIn.of_own HCR.out) (by omega) (lits_six H6J.out))
          obtain⟨b4,hb4⟩: ∃z,clashL cj=z:=⟨_,rfl⟩
          rw[hb4]at HCLS HRN
          clear hKK r0 f0 hwS hbxS hkS hbx hrow hbel hbelS hb4 hS
          go_wp2_with fail
          refine HCLS.out.mono ?_
          rintro e w9 ⟨rfl,hb9⟩
          have HA9:=Lib.hid (HAS.out.below hb9)
          have HBX9:=Lib.hid ((hb9.block _ (heap_lt HBXS.out)).trans HBXS.out)
          have HCR9:=Lib.hid (own_below HCR.out hb9)
          have HB9:=Lib.hid (HBES.out.trans (hb9.mono HBES.out.size))
          clear hb9 c0 HCLS
          cases b4 with
          | true=>
           have HSN:=Lib.hid (show R=resGo most (n+1) (xs.drop (n+1)) (allOf cs K) (K.map Prod.fst)from by
            rw[HST.out,HRN.out]
            rfl)
           go_wp2_with fail
           go_roundw
           case rel=>exact⟨n+1,K,by omega,by omega,hKm,by go_num,HSN,HA6,HA9⟩
           case measure=>simp[intOf];omega
          | false=>
           have HCK:=Lib.hid (contains_kf 47 #[.pointer (some ⟨B,0,none⟩)] (.slice (some ⟨ga,oa,none⟩) L cd) (allOf cs K) (fun d=>d==cj) w9 (enters_of Tryz.func47 (by kernel_rfl) rfl) (HA9.out.cls HUS.out (HIN.out w (Below.refl _ _))) (by rw[hlen];omega) (fun W hW u' d hd hu'=>same_one B u' _ d cj W hu' ((IntsIn.of_own (own_below HCR9.out hW)).mono fun _ _=>trivial) ((hW.cell (p:=⟨B,0,none⟩) (heap_lt HBX9.out)).trans (mx_cell (j:=0) HBX9.out)) (by have:=(HA6.out d hd).1;omega)))
           rw[any_eq]at HCK
           obtain⟨b5,hb5⟩: ∃z,(allOf cs K).contains cj=z:=⟨_,rfl⟩
           rw[hb5]at HCK HRN
           clear hb5
           go_wp2_with fail
           refine HCK.out.mono ?_
           rintro e w10 ⟨rfl,hb10⟩
           have HA10:=Lib.hid (HA9.out.below hb10)
           have HBX10:=Lib.hid ((hb10.block _ (heap_lt HBX9.out)).trans HBX9.out)
           have HCR10:=Lib.hid (own_mono (own_below HCR9.out hb10) hw8)
           have HB10:=Lib.hid (HB9.out.trans (hb10.mono HB9.out.size))
           clear hb10 HCK
           cases b5 with
           | true=>
            have HSN:=Lib.hid (show R=resGo most (n+1) (xs.drop (n+1)) (allOf cs K) (K.map Prod.fst)from by
             rw[HST.out,HRN.out]
             rfl)
            go_wp2_with fail
            go_roundw
            case rel=>exact⟨n+1,K,by omega,by omega,hKm,by go_num,HSN,HA6,HA10⟩
            case measure=>simp[intOf];omega
           | false=>
            have HSN:=Lib.hid (show R=resGo most (n+1) (xs.drop (n+1)) (allOf cs K++ [cj]) (K.map Prod.fst++ [⟨false,(L:Int)+1,cj,[(i:Int)+1,(k:Int)+1]⟩])from by
             rw[HST.out,HRN.out]
             rfl)
            have c0:=mx_cell (j:=0) HBX10.out
            obtain⟨wI,hwI,hbI,hcI,hzI⟩:=al_new w10 #[.int .i64 ((i:Int)+1),.int .i64 ((k:Int)+1)] 3
            obtain⟨wJ,hwJ,hbJ,hcJ,hzJ⟩:=al_new wI #[.bool false,.int .i64 ((L:Int)+1),.slice Acl cj.length ccl,.slice (some ⟨w10.heap.size,0,none⟩) 2 2] 41
            rw[hzI]at hcJ hzJ
            have HWI:=Lib.hid hwI
            have HWJ:=Lib.hid hwJ
            have HBJ:=Lib.hid (hbI.trans (hbJ.mono hbI.size))
            have HCJ:=Lib.hid hcJ
            have HCI:=Lib.hid ((hbJ.block _ (heap_lt hcI)).trans hcI)
            have hsJ:wJ.heap.size=w10.heap.size+2:=hzJ
            have hw10:w.heap.size≤w10.heap.size:=HA10.out.low.size
            have hax:allOf cs (K++ [(((⟨false,(L:Int)+1,cj,[(i:Int)+1,(k:Int)+1]⟩:EStep),(Acl,ccl),((some ⟨w10.heap.size,0,none⟩:Option Addr),2)):StV)])=allOf cs K++ [cj]:=by
             unfold allOf
             rw[List.map_append,List.append_assoc]
             rfl
            have HAX:=Lib.hid hax
            clear hwI hwJ hbI hbJ hcI hcJ hzI hzJ hax
            go_upto_region 14 with(at_builtin;rw[HWI.out,HWJ.out];go_must (refine wpList_append_own_at _ rfl _ _ 31 rfl w.heap.size 41 si (.agg #[.bool false,.int .i64 0,.slice none 0 0,.slice none 0 0]) 4 64 Tryz.underlying31 hsi sz0 sz1 sz2 rfl (by decide) _ K.length _ rfl (own_below HA10.out.st.row HBJ.out) ⟨w10.heap.size+1,0,none⟩ 1 1 [.bool false,.int .i64 ((L:Int)+1),.slice Acl cj.length ccl,.slice (some ⟨w10.heap.size,0,none⟩) 2 2] rfl rfl (cells_of_blk HCJ.out) (by simp[Value.oneCell']) (by unfold maxLen;omega) (by omega) (by omega) ?_);intro v' w12 hown hgrow hnl hat;obtain⟨Av,kv,rfl,_⟩:=mx_slice hown;have hbx12:=(hgrow.block B (heap_lt ((HBJ.out.block _ (heap_lt HBX10.out)).trans HBX10.out)) (fun e=>mx_not (own_below HA10.out.st.row HBJ.out) ((HBJ.out.block _ (heap_lt HBX10.out)).trans HBX10.out) (by decide) e.symm)).trans ((HBJ.out.block _ (heap_lt HBX10.out)).trans HBX10.out);have c0:=mx_cell (j:=0) hbx12;have HOWN:=Lib.hid hown;have HGROW:=Lib.hid hgrow;clear hown hgrow hnl hat hbx12)
            have HS12:=Lib.hid (StMem.push (HA10.out.st.below HBJ.out) HGROW.out (⟨false,(L:Int)+1,cj,[(i:Int)+1,(k:Int)+1]⟩,(Acl,ccl),(some ⟨w10.heap.size,0,none⟩,2)) HOWN.out (own_below HCR10.out HBJ.out) (own_two hw10 HCI.out))
            have HR12:=Lib.hid (show w12.ownsRow w.heap.size 38 1 (.slice (some ⟨ga,oa,none⟩) L cd) L (us++K.map litsV)from by
             have h1:=own_kept (own_below HA10.out.row HBJ.out) (Kept.grown HGROW.out) (fun g h1 h2=>mx_apart (own_below HA10.out.row HBJ.out) (own_below HA10.out.st.row HBJ.out) (by decide) h1 h2.symm)
             rw[hL]at h1
             exact h1)
            have HB12:=Lib.hid ((HA10.out.low.trans (HBJ.out.mono hw10)).grown HGROW.out (by have:=HBJ.out.size;omega) (fun g e=>(own_lt HA10.out.st.row g e).1))
            have hw12:w.heap.size≤w12.heap.size:=HB12.out.size
            have hsp:us.length+K.length=L:=by rw[HUS.out];exact HL.out
            go_wp2_with (at_builtin;go_must (refine wpList_append_own_at _ rfl _ _ 25 rfl w.heap.size 38 i0 (.slice none 0 0) 1 24 Tryz.underlying25 hi hz0 hz1 hz2 rfl (by decide) _ L _ rfl (own_below HR12.out (mx_al w12 _)) ⟨w12.heap.size,0,none⟩ 1 1 [.slice Acl cj.length ccl] rfl rfl (cell_one_new' _ _ _) (by simp[Value.oneCell']) (by unfold maxLen;omega) (by omega) (by simp;omega) ?_);intro v2 w13 hown2 hgrow2 hnl2 hat2;obtain⟨A13,k13,rfl,_⟩:=mx_slice hown2)
            have hbA:=mx_al w12 (.cells #[.slice Acl cj.length ccl] 38)
            have HS13:=Lib.hid ((HS12.out.below hbA).kept (Kept.grown hgrow2) (fun g h1 h2=>mx_apart (own_below HR12.out hbA) (HS12.out.below hbA).row (by decide) h2.symm h1) (fun y hy g h1 h2=>mx_apart (own_below HR12.out hbA) ((HS12.out.below hbA).lit y hy) (by decide) h2.symm h1) (fun y hy g h1 h2=>mx_apart (own_below HR12.out hbA) ((HS12.out.below hbA).hnt y hy) (by decide) h2.symm h1))
            have HA13:=Lib.hid (show ResAt w us cs w13 (.slice A13 (L+1) k13) (.slice Av (K.length+1) kv) (K++ [(((⟨false,(L:Int)+1,cj,[(i:Int)+1,(k:Int)+1]⟩:EStep),(Acl,ccl),((some ⟨w10.heap.size,0,none⟩:Option Addr),2)):StV)])from⟨by
             rw[List.length_append,List.length_singleton,←Nat.add_assoc,hL,List.map_append,←List.append_assoc]
             exact hown2,HS13.out,(HB12.out.trans (hbA.mono hw12)).grown hgrow2 (by have:=hbA.size;omega) (fun g e=>(own_lt HR12.out g e).1)⟩)
            have HSN2:=Lib.hid (show R=resGo most (n+1) (xs.drop (n+1)) (allOf cs (K++ [(((⟨false,(L:Int)+1,cj,[(i:Int)+1,(k:Int)+1]⟩:EStep),(Acl,ccl),((some ⟨w10.heap.size,0,none⟩:Option Addr),2)):StV)])) ((K++ [(((⟨false,(L:Int)+1,cj,[(i:Int)+1,(k:Int)+1]⟩:EStep),(Acl,ccl),((some ⟨w10.heap.size,0,none⟩:Option Addr),2)):StV)]).map Prod.fst)from by
             rw[HAX.out,List.map_append]
             exact HSN.out)
            have HA6N:=Lib.hid (show∀d∈allOf cs (K++ [(((⟨false,(L:Int)+1,cj,[(i:Int)+1,(k:Int)+1]⟩:EStep),(Acl,ccl),((some ⟨w10.heap.size,0,none⟩:Option Addr),2)):StV)]),Lit6 d from fun d hd=>by
             rw[HAX.out]at hd
             rcases List.mem_append.1 hd with hd|hd
             ·exact HA6.out d hd
             ·rw[List.mem_singleton.1 hd]
              exact H6J.out)
            clear hown2 hgrow2 hnl2 hat2 hbA
            go_wp2_with fail
            go_roundw
            case rel=>exact⟨n+1,K++ [((⟨false,(L:Int)+1,cj,[(i:Int)+1,(k:Int)+1]⟩:EStep),(Acl,ccl),(some ⟨w10.heap.size,0,none⟩,2))],by omega,by rw[List.length_append,List.length_singleton];omega,by rw[List.length_append,List.length_singleton];omega,by go_num,HSN2,HA6N,HA13⟩
            case measure=>simp[intOf];omega
     ·obtain rfl:p=a.length:=by omega
      have HSN:=Lib.hid (show R=resGo most (n+1) (xs.drop (n+1)) (allOf cs K) (K.map Prod.fst)from by
       rw[HST.out,resNew_none HIA.out HKB.out (find_no HNO.out)])
      have HA5:=Lib.hid (HAD.out.below HB5.out)
      go_wp2_with fail
      go_roundw
      case rel=>exact⟨n+1,K,by omega,by omega,hKm,by go_num,HSN,HA6,HA5⟩
      case measure=>simp[intOf];omega
   ·have HRF:=Lib.hid (show R=K.map Prod.fst from by
     rw[HR.out,resGo_full _ _ _ (by rw[List.length_map,allOf_len,hL];exact hfull)])
    by_cases hm1:K.length<most
    ·have hl0:L=0:=by omega
     have s1:decide ((K.length:Int)<(most:Int))=true:=decide_eq_true (by omega)
     subst hl0
     clear hfull
     go_wp2_with fail
     go_ret
     exact⟨_,K,rfl,HRF.out.symm,HA.out.st,HA.out.low⟩
    ·have s1:decide ((K.length:Int)<(most:Int))=false:=decide_eq_false (by omega)
     clear hfull
     go_wp2_with fail
     go_ret
     exact⟨_,K,rfl,HRF.out.symm,HA.out.st,HA.out.low⟩
  ·obtain rfl:n=xs.length:=by omega
   have HRF:=Lib.hid (show R=K.map Prod.fst from by rw[HR.out,resGo_end (Nat.le_refl _)])
   go_wp2_with fail
   go_ret
   exact⟨_,K,rfl,HRF.out.symm,HA.out.st,HA.out.low⟩
end Go.Proofs.YtcbjjdpngeabgaaGreatDoor
