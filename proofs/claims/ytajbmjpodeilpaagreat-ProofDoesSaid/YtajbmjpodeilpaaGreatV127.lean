/- package proof: Check, at a right formula. Steps that a program builds: a row of its own, with rows of literals and of hints. slices.Backward and slices.Reverse at steps. slices.Reverse at steps. -/
import Derived.Test.YtajbmjpodeilpaaGreatV122
import Derived.Test.YtajbmjpodeilpaaGreatV126
import Derived.Test.YtajbmjpodeilpaaGreatV102
import Derived.Test.YtajbmjpodeilpaaGreatV125
import Derived.Test.YtajbmjpodeilpaaGreatV117
import Derived.Test.YtajbmjpodeilpaaGreatV115
namespace Go.Proofs.YtajbmjpodeilpaaGreat
open Go.RowKit Go.Maps
def repZ:Value:=.agg #[.bool false,.int .i64 0,.int .i64 0,.int .i64 0,.int .i64 0]
def runRep (r:Ckr×Nat×Nat):Value:=if runE r=0 then r.1.rep else repZ
theorem res_chk456 {fn:Func} (h:fn.results= #[.cell 4 43,.tmp 5,.tmp 6]) {w:World} {r:Nat} {c0 c1 c2 c3 c4:Value} {t:TypeId} (hb:w.heap[r]? =some (.cells #[c0,c1,c2,c3,c4] t (0,0))) (tmps:Array Value) (t4:tmps[4]?.getD undef= .pointer (some ⟨r,0,none⟩)):
  (results fn tmps).run Tryz.prog w= .ok (.tuple #[.agg #[c0,c1,c2,c3,c4],tmps[5]?.getD undef,tmps[6]?.getD undef]) w:=by
 have p0:w.cell? ⟨r,0,none⟩=some c0:=mx_cell (j:=0) hb
 have p1:w.cell? ⟨r,1,none⟩=some c1:=mx_cell (j:=1) hb
 have p2:w.cell? ⟨r,2,none⟩=some c2:=mx_cell (j:=2) hb
 have p3:w.cell? ⟨r,3,none⟩=some c3:=mx_cell (j:=3) hb
 have p4:w.cell? ⟨r,4,none⟩=some c4:=mx_cell (j:=4) hb
 simp[results,h,go_sem,t4,p0,p1,p2,p3,p4]
theorem rep_err {R:Ckr×Nat×Nat} {k:Ckr} {n e E:Nat} (hR:R=(k,n,e)) (hE:runE R=E) (h0:E≠0):Ending.returned (.tuple #[.agg #[.bool false,.int .i64 0,.int .i64 0,.int .i64 0,.int .i64 0],.int .i64 (n:Int),.int .i64 (E:Int)])= .returned (.tuple #[runRep R,.int .i64 (R.2.1:Nat),.int .i64 (runE R:Nat)]):=by
 unfold runRep
 rw[hE,if_neg h0,hR]
 rfl
theorem rep_ok {R:Ckr×Nat×Nat} {k:Ckr} {n:Nat} {a d r l:Int} (hR:R=(k,n,0)) (hp:k.proved=true) (hf:k.rep= .agg #[.bool true,.int .i64 a,.int .i64 d,.int .i64 r,.int .i64 l]):Ending.returned (.tuple #[.agg #[.bool true,.int .i64 a,.int .i64 d,.int .i64 r,.int .i64 l],.int .i64 (n:Int),.int .i64 0])= .returned (.tuple #[runRep R,.int .i64 (R.2.1:Nat),.int .i64 (runE R:Nat)]):=by
 have hE:runE R=0:=by
  rw[hR]
  show(if(0:Nat)≠0 then _ else if k.proved=true then 0 else 101)=0
  rw[hp]
  rfl
 unfold runRep
 rw[hE,if_pos rfl,hR]
 simp only
 rw[hf]
 rfl
theorem run_step {k:Ckr} {l:List EStep} {j:Nat} {s:EStep} (h:l[j]? =some s) (n:Nat):runGo k (l.drop j) n=if k.proved=true then(k,n,0)else if(k.do_ s).2.2.2≠0 then((k.do_ s).1,n,(k.do_ s).2.2.2)else runGo (k.do_ s).1 (l.drop (j+1)) (n+1):=by
 have hlt:=(List.getElem?_eq_some_iff.1 h).1
 rw[List.drop_eq_getElem_cons hlt]
 rw[List.getElem?_eq_getElem hlt]at h
 rw[Option.some.inj h]
 rfl
theorem run_nil (k:Ckr) (n:Nat):runGo k [] n=(k,n,0):=rfl
set_option maxRecDepth 100000 in
set_option maxHeartbeats 4000000 in
theorem proof_check {O Os:Nat→Prop} (n:Int) (lv sv:Value) (cs:List (List Int)) (l:List EStep) (w:World) (h:ClsIn O w lv cs) (hc: ∀c∈cs,clauseB c=true) (hn:cs.length≤1000) (hf:fchk n cs=(-1,0)) (hs:StepIn Os w sv l) (hl:l.length≤1000) (hls: ∀s∈l,s.lits.length≤100000000∧s.hints.length≤100000000):
  Calls Tryz.prog 14 #[.agg #[.int .i64 n,lv],sv] w fun e w'=>e= .returned (.tuple #[runRep (runGo (ckrNew cs) l 0),.int .i64 ((runGo (ckrNew cs) l 0).2.1:Nat),.int .i64 (runE (runGo (ckrNew cs) l 0):Nat)])∧Below w.heap.size w w':=by
 obtain⟨W0,hW0⟩: ∃x,w.alloc (.cells #[.int .i64 n,lv] 24)=x:=⟨_,rfl⟩
 obtain⟨W1,hW1⟩: ∃x,W0.alloc (.cells #[.bool false,.int .i64 0,.int .i64 0,.int .i64 0,.int .i64 0] 43)=x:=⟨_,rfl⟩
 have hb0:Below w.heap.size w W0:=by rw[←hW0];exact mx_al _ _
 have hb1:Below W0.heap.size W0 W1:=by rw[←hW1];exact mx_al _ _
 have hz0:W0.heap.size=w.heap.size+1:=by rw[←hW0];simp
 have hz1:W1.heap.size=w.heap.size+2:=by rw[←hW1];simp[hz0]
 have hbf:W0.heap[w.heap.size]? =some (.cells #[.int .i64 n,lv] 24 (0,0)):=by rw[←hW0];exact World.alloc_heap_new _ _
 have hbf1:=(hb1.block _ (heap_lt hbf)).trans hbf
 have b0:W1.cell? ⟨w.heap.size,0,none⟩=some (.int .i64 n):=mx_cell (j:=0) hbf1
 have b1:W1.cell? ⟨w.heap.size,1,none⟩=some lv:=mx_cell (j:=1) hbf1
 have hbr:W1.heap[w.heap.size+1]? =some (.cells #[.bool false,.int .i64 0,.int .i64 0,.int .i64 0,.int .i64 0] 43 (0,0)):=by rw[←hW1,←hz0];exact World.alloc_heap_new _ _
 have hbw:Below w.heap.size w W1:=hb0.trans (hb1.mono (by omega))
 have HNEW:=Lib.hid (ck_new n lv cs W1 (h.below hbw) hc hn hf)
 have HBX:=Lib.hid (fun(X:World) (hx:Below W1.heap.size W1 X)=>show X.heap[w.heap.size+1]? =some (.cells #[.bool false,.int .i64 0,.int .i64 0,.int .i64 0,.int .i64 0] 43 (0,0))∧Below w.heap.size w X from⟨(hx.block _ (heap_lt hbr)).trans hbr,hbw.trans (hx.mono hbw.size)⟩)
 have HSI:=Lib.hid (fun(X:World) (hx:Below W1.heap.size W1 X)=>(hs.below hbw).below hx)
 obtain⟨R,hR⟩: ∃R,runGo (ckrNew cs) l 0=R:=⟨_,rfl⟩
 rw[hR]
 have HR:=Lib.hid (show R=runGo (ckrNew cs) (l.drop 0) 0 from by rw[List.drop_zero];exact hR.symm)
 have HOK:=Lib.hid (show(ckrNew cs).Ok (1000+0)from by rw[ckrNew_of];exact ckrOf_ok hc hn (Nat.zero_le _))
 have HLS:=Lib.hid hls
 obtain⟨A,c,rfl,hcc,_⟩:=h
 obtain⟨As,cs',rfl,hcs,_⟩:=hs
 have HW0:=Lib.hid hW0
 have HW1:=Lib.hid hW1
 clear hb0 hb1 hbf hbf1 hbr hbw hR hc hf hls hW0 hW1
 go_enter Tryz.func14,Tryz.ntmps14
 go_upto_region 1 with fail
 try rw[HW0.out]
 try rw[HW1.out]
 go_wp2_with fail
 refine wp_scope_straight ?_
 go_wp2_with fail
 refine HNEW.out.mono ?_
 rintro e w2 ⟨b,rfl,hck,hb2⟩
 have HCK:=Lib.hid hck
 have HB2:=Lib.hid hb2
 clear hck hb2 HNEW b0 b1
 go_wp2_with fail
 refine wp_label ?_
 go_wp2_with fail
 go_loopw [8,9] (fun ev iv wr=> ∃(k:Nat) (kk:Ckr),k≤l.length∧ev= .int .i64 0∧iv= .int .i64 k∧Hid (R=runGo kk (l.drop k) k)∧Hid (kk.Ok (1000+k))∧Hid (CkAt W1.heap.size wr b kk)∧Hid (Below W1.heap.size W1 wr)) (fun _ i _=>l.length-(intOf i).toNat)
 case atStart=>exact⟨0,ckrNew cs,Nat.zero_le _,rfl,rfl,HR,HOK,HCK,HB2⟩
 case round=>
  obtain⟨k,kk,hk,rfl,rfl,HRk,HOKk,HCKk,HBk⟩:=hrel
  obtain⟨p,hp⟩: ∃p,kk.proved=p:=⟨_,rfl⟩
  have hpv:=ck_proved b kk wr HCKk.out
  have hrp:=ck_report b kk wr HCKk.out
  unfold Ckr.rep at hrp
  obtain⟨ra,hra⟩: ∃p,kk.adds=p:=⟨_,rfl⟩
  obtain⟨rd,hrd⟩: ∃p,kk.dels=p:=⟨_,rfl⟩
  obtain⟨rr,hrr⟩: ∃p,kk.rats=p:=⟨_,rfl⟩
  obtain⟨rl,hrl⟩: ∃p,kk.largest=p:=⟨_,rfl⟩
  rw[hp]at hpv hrp
  rw[hra,hrd,hrr,hrl]at hrp
  have HPV:=Lib.hid hpv
  have HREP:=Lib.hid hrp
  have HP:=Lib.hid hp
  have HRF:=Lib.hid (show kk.rep= .agg #[.bool p,.int .i64 ra,.int .i64 rd,.int .i64 rr,.int .i64 rl]from by unfold Ckr.rep;rw[hp,hra,hrd,hrr,hrl])
  clear hpv hrp hp hra hrd hrr hrl
  by_cases hlt:k<l.length
  ·obtain⟨s,hs⟩:=getElem_of hlt
   have hst:=HRk.out.trans (run_step hs k)
   rw[HP.out]at hst
   cases p with
   | true=>
    have HRZ:=Lib.hid (rep_ok (R:=R) (n:=k) (hst.trans (if_pos rfl)) HP.out HRF.out)
    clear hs hst
    go_wp2_with fail
    refine HPV.out.mono ?_
    rintro e w' ⟨rfl,rfl⟩
    go_wp2_with fail
    refine HPV.out.mono ?_
    rintro e w' ⟨rfl,rfl⟩
    go_wp2_with fail
    refine HREP.out.mono ?_
    rintro e w6 ⟨rfl,hb6⟩
    obtain⟨hbx,hlow⟩:=HBX.out w6 (HBk.out.trans (hb6.mono HBk.out.size))
    have r0:=mx_cell (j:=0) hbx
    have r1:=mx_cell (j:=1) hbx
    have r2:=mx_cell (j:=2) hbx
    have r3:=mx_cell (j:=3) hbx
    have r4:=mx_cell (j:=4) hbx
    have f0:=free_at (j:=0) hbx
    have f1:=free_at (j:=1) hbx
    have f2:=free_at (j:=2) hbx
    have f3:=free_at (j:=3) hbx
    have f4:=free_at (j:=4) hbx
    obtain⟨wy,hwy,hby,hky⟩:=five_setR hbx (.bool true) (.int .i64 ra) (.int .i64 rd) (.int .i64 rr) (.int .i64 rl)
    have HBY:=Lib.hid hby
    have HFIN:=Lib.hid (hlow.trans (hky.below (fun i e=>by rw[e];exact Nat.le_succ _) hlow.size))
    clear hbx hlow hky hby hb6
    go_wp2_with fail
    try rw[hwy]
    rw[Exit.noGoto_ret]
    refine bodyPost_ret (res_chk456 rfl HBY.out _ rfl) rfl ?_
    exact⟨HRZ.out,HFIN.out⟩
   | false=>
    have hst2:=hst.trans (if_neg (by decide))
    obtain⟨A',c',hAc,_,_,hxs⟩:=HSI.out wr HBk.out
    simp only[Value.slice.injEq,true_and]at hAc
    obtain⟨rfl,rfl⟩:=hAc
    obtain⟨g,o,ul,uh,rfl,hg,_,d0,d1,d2,d3,hul,huh⟩:=hxs k s hs
    obtain⟨hl1,hl2⟩:=HLS.out s (List.mem_of_getElem? hs)
    have HDO:=Lib.hid (ck_do_all b kk s ul uh wr HCKk.out HBk.out.size HOKk.out (by omega) hul huh (by omega) (by omega))
    have HOKn:=Lib.hid (do_ok (s:=s) HOKk.out)
    obtain⟨D,hD⟩: ∃D,kk.do_ s=D:=⟨_,rfl⟩
    rw[hD]at HDO HOKn hst2
    have HST:=Lib.hid hst2
    obtain⟨Dk,Dt,Di,De⟩:=D
    obtain⟨Aul,cul,rfl,_⟩:=hul
    obtain⟨Auh,cuh,rfl,_⟩:=huh
    clear hs hst hst2 hxs hD
    go_wp2_with fail
    refine HPV.out.mono ?_
    rintro e w' ⟨rfl,rfl⟩
    go_wp2_with fail
    refine HDO.out.mono ?_
    rintro e w5 ⟨rfl,hck5,hb5,-⟩
    have HCK5:=Lib.hid hck5
    have HB5:=Lib.hid (HBk.out.trans hb5)
    clear hck5 hb5 HDO d0 d1 d2 d3
    by_cases hE:De=0
    ·subst hE
     have HRn:=Lib.hid (show R=runGo Dk (l.drop (k+1)) (k+1)from HST.out.trans (if_neg (fun h=>h rfl)))
     clear HST
     go_wp2_with fail
     go_roundw
     case rel=>exact⟨k+1,Dk,by omega,rfl,by go_num,HRn,HOKn,HCK5,HB5⟩
     case measure=>simp[intOf];omega
    ·have q0:((De:Int)==0)=false:=beq_eq_false_iff_ne.2 (by omega)
     have q1:((De:Int) != 0)=true:=by rw[bne,q0];rfl
     have HRZ:=Lib.hid (rep_err (R:=R) (n:=k) (E:=De) (k:=Dk) (HST.out.trans (if_pos hE)) (by rw[HST.out.trans (if_pos hE)];exact if_pos hE) hE)
     obtain⟨wz,hwz⟩: ∃z,w5=z:=⟨_,rfl⟩
     have HBZ:=Lib.hid (show Below W1.heap.size W1 wz from hwz▸HB5.out)
     rw[hwz]
     clear HST hE hwz
     obtain⟨hbx,hlow⟩:=HBX.out wz HBZ.out
     have r0:=mx_cell (j:=0) hbx
     have r1:=mx_cell (j:=1) hbx
     have r2:=mx_cell (j:=2) hbx
     have r3:=mx_cell (j:=3) hbx
     have r4:=mx_cell (j:=4) hbx
     have f0:=free_at (j:=0) hbx
     have f1:=free_at (j:=1) hbx
     have f2:=free_at (j:=2) hbx
     have f3:=free_at (j:=3) hbx
     have f4:=free_at (j:=4) hbx
     obtain⟨wy,hwy,hby,hky⟩:=five_setR hbx (.bool false) (.int .i64 0) (.int .i64 0) (.int .i64 0) (.int .i64 0)
     have HBY:=Lib.hid hby
     have HFIN:=Lib.hid (hlow.trans (hky.below (fun i e=>by rw[e];exact Nat.le_succ _) hlow.size))
     clear hbx hlow hky hby
     go_wp2_with fail
     try rw[hwy]
     rw[Exit.noGoto_ret]
     refine bodyPost_ret (res_chk456 rfl HBY.out _ rfl) rfl ?_
     exact⟨HRZ.out,HFIN.out⟩
  ·obtain rfl:k=l.length:=by omega
   have hst:R=(kk,l.length,0):=by rw[HRk.out,List.drop_length,run_nil]
   cases p with
   | true=>
    have HRZ:=Lib.hid (rep_ok (R:=R) (n:=l.length) hst HP.out HRF.out)
    clear hst
    go_wp2_with fail
    refine HPV.out.mono ?_
    rintro e w' ⟨rfl,rfl⟩
    go_wp2_with fail
    refine HREP.out.mono ?_
    rintro e w6 ⟨rfl,hb6⟩
    obtain⟨hbx,hlow⟩:=HBX.out w6 (HBk.out.trans (hb6.mono HBk.out.size))
    have r0:=mx_cell (j:=0) hbx
    have r1:=mx_cell (j:=1) hbx
    have r2:=mx_cell (j:=2) hbx
    have r3:=mx_cell (j:=3) hbx
    have r4:=mx_cell (j:=4) hbx
    have f0:=free_at (j:=0) hbx
    have f1:=free_at (j:=1) hbx
    have f2:=free_at (j:=2) hbx
    have f3:=free_at (j:=3) hbx
    have f4:=free_at (j:=4) hbx
    obtain⟨wy,hwy,hby,hky⟩:=five_setR hbx (.bool true) (.int .i64 ra) (.int .i64 rd) (.int .i64 rr) (.int .i64 rl)
    have HBY:=Lib.hid hby
    have HFIN:=Lib.hid (hlow.trans (hky.below (fun i e=>by rw[e];exact Nat.le_succ _) hlow.size))
    clear hbx hlow hky hby hb6
    go_wp2_with fail
    try rw[hwy]
    rw[Exit.noGoto_ret]
    refine bodyPost_ret (res_chk456 rfl HBY.out _ rfl) rfl ?_
    exact⟨HRZ.out,HFIN.out⟩
   | false=>
    have HRZ:=Lib.hid (rep_err (R:=R) (n:=l.length) (E:=101) (k:=kk) hst (by
     rw[hst]
     show(if(0:Nat)≠0 then _ else if kk.proved=true then 0 else 101)=101
     rw[HP.out]
     rfl) (by decide))
    have HBZ:=Lib.hid HBk.out
    clear hst
    go_wp2_with fail
    refine HPV.out.mono ?_
    rintro e w' ⟨rfl,rfl⟩
    obtain⟨wz,hwz⟩: ∃z,wr=z:=⟨_,rfl⟩
    rw[hwz]at HBZ⊢
    clear hwz
    obtain⟨hbx,hlow⟩:=HBX.out wz HBZ.out
    have r0:=mx_cell (j:=0) hbx
    have r1:=mx_cell (j:=1) hbx
    have r2:=mx_cell (j:=2) hbx
    have r3:=mx_cell (j:=3) hbx
    have r4:=mx_cell (j:=4) hbx
    have f0:=free_at (j:=0) hbx
    have f1:=free_at (j:=1) hbx
    have f2:=free_at (j:=2) hbx
    have f3:=free_at (j:=3) hbx
    have f4:=free_at (j:=4) hbx
    obtain⟨wy,hwy,hby,hky⟩:=five_setR hbx (.bool false) (.int .i64 0) (.int .i64 0) (.int .i64 0) (.int .i64 0)
    have HBY:=Lib.hid hby
    have HFIN:=Lib.hid (hlow.trans (hky.below (fun i e=>by rw[e];exact Nat.le_succ _) hlow.size))
    clear hbx hlow hky hby
    go_wp2_with fail
    try rw[hwy]
    rw[Exit.noGoto_ret]
    refine bodyPost_ret (res_chk456 rfl HBY.out _ rfl) rfl ?_
    exact⟨HRZ.out,HFIN.out⟩
end Go.Proofs.YtajbmjpodeilpaaGreat
namespace Go.Proofs.YtajbmjpodeilpaaGreat
open Go.RowKit
section
variable {n0:Nat} {w w1:World} {v:Value} {K:List StV}
theorem StMem.ckf {b:Nat} {cs:Array Value} {z:Nat×Nat} (h:StMem n0 w v K) (k:CkF b w w1) (hb:w.heap[b]? =some (.cells cs 115 z)):StMem n0 w1 v K:=by
 have key: ∀{e:TypeId} {size n:Nat} {u:Value} {xs:List Value},w.ownsRow n0 e size u n xs→115≠e→∀g,u.ownBlock=some g→¬(g=b∨∃o:Obj,w.heap[g]? =some o∧o.isCells=false):=by
  rintro e size n u xs hu he g hg (h1|⟨o,h1,h2⟩)
  ·subst h1
   obtain⟨cur,hc⟩:=own_type hu g hg
   rw[hb]at hc
   cases hc
   exact he rfl
  ·obtain⟨cur,hc⟩:=own_type hu g hg
   rw[hc]at h1
   cases h1
   cases h2
 exact h.kept k (key h.row (by decide)) (fun x hx=>key (h.lit x hx) (by decide)) (fun x hx=>key (h.hnt x hx) (by decide))
end
def bkStep (st:(Int→Int)×List StV) (x:StV):(Int→Int)×List StV:=if 0<x.1.lits.length∧st.1 x.1.id=0 then st else(needI st.1 x.1.hints,st.2++ [x])
theorem bk_fold: ∀(r:List StV) (f:Int→Int) (out:List StV),bkGo f (r.map Prod.fst) (out.map Prod.fst)=(r.foldl bkStep (f,out)).2.map Prod.fst
 | [],_,_=>rfl
 | x::r,f,out=>by
  rw[List.map_cons,List.foldl_cons]
  unfold bkGo bkStep
  simp only
  split
  ·exact bk_fold r f out
  ·have:=bk_fold r (needI f x.1.hints) (out++ [x])
   rw[List.map_append]at this
   exact this
theorem bk_sub: ∀(r:List StV) (st:(Int→Int)×List StV),∀y∈(r.foldl bkStep st).2,y∈st.2∨y∈r
 | [],_,y,h=>.inl h
 | x::r,st,y,h=>by
  rw[List.foldl_cons]at h
  rcases bk_sub r _ y h with h1|h1
  ·unfold bkStep at h1
   split at h1
   ·exact .inl h1
   ·rcases List.mem_append.1 h1 with h2|h2
    ·exact .inl h2
    ·exact .inr (by rw[List.mem_singleton.1 h2];exact List.mem_cons_self)
  ·exact .inr (List.mem_cons_of_mem _ h1)
theorem bk_len: ∀(r:List StV) (st:(Int→Int)×List StV),(r.foldl bkStep st).2.length≤st.2.length+r.length
 | [],_=>Nat.le_refl _
 | x::r,st=>by
  rw[List.foldl_cons,List.length_cons]
  have h1:=bk_len r (bkStep st x)
  have h2:(bkStep st x).2.length≤st.2.length+1:=by
   unfold bkStep
   split
   ·omega
   ·rw[List.length_append,List.length_singleton]
    exact Nat.le_refl _
  omega
end Go.Proofs.YtajbmjpodeilpaaGreat
namespace Go.Proofs.YtajbmjpodeilpaaGreat
open Go.RowKit Go.Shelf Go.Maps
attribute [local go_sem] Oper.semAt_some
def bsv (x:StV×Nat):Array Value:= #[.int .i64 (x.2:Int),.agg #[.bool x.1.1.del,.int .i64 x.1.1.id,.slice x.1.2.1.1 x.1.1.lits.length x.1.2.1.2,.slice x.1.2.2.1 x.1.1.hints.length x.1.2.2.2]]
def BSPre (xs:List StV) (_:Nat) (pre:List (StV×Nat)) (x:StV×Nat) (_:World):Prop:=pre++ [x] <+: xs.zipIdx.reverse
def BSPost (X:Nat→Prop) (_:StV×Nat) (W W':World):Prop:=KpC X W W'
theorem BSPost.turn {X:Nat→Prop} {x:StV×Nat} {W W3:World} {l:Nat} {r r':Loop} (h:BSPost X x W W3) (hl:W3.heap[l]? =some (.loop r)):BSPost X x W (W3.putObj l (.loop r')):=
 KpC.trans h ((KpC.putObj W3 l _ _ hl rfl rfl).mono (fun _ _ e=>e.elim))
theorem bks_run (A:Option Addr) (n c:Nat) (w:World):Calls Tryz.prog 41 #[.slice A n c] w fun e w'=>e= .returned (.func (.func 72) #[] #[.pointer (some ⟨w.heap.size,0,none⟩)])∧w.alloc (.cells #[.slice A n c] 25)=w':=by
 go_enter Tryz.func41,Tryz.ntmps41
 go_wp2
 go_ret
 exact⟨rfl,rfl⟩
theorem zip_st {xs:List StV} {k:Nat} {x:StV} (h:xs[k]? =some x):(xs.zipIdx.take (k+1)).reverse=(x,k)::(xs.zipIdx.take k).reverse:=by
 rw[List.take_add_one,List.getElem?_zipIdx,h]
 simp
set_option maxRecDepth 100000 in
set_option maxHeartbeats 4000000 in
theorem bks_stops {X:Nat→Prop} {n0:Nat} (Bb:Nat) (u:Value) (xs:List StV) (w:World) (hB:w.cell? ⟨Bb,0,none⟩=some u) (hX: ¬X Bb) (hu:w.ownsRow n0 34 4 u xs.length (xs.flatMap stcell)) (hOX: ∀g,u.ownBlock=some g→¬X g) (hlen:xs.length≤140737488355328):
  SeqM Tryz.prog 72 #[.pointer (some ⟨Bb,0,none⟩)] bsv (BSPre xs) (BSPost X) (fun _ _ _=>True) (fun ys=>ys=xs.zipIdx.reverse) (fun _=>True) w:=by
 intro l J Jx W hW hJ hJx hY h0
 have hB':=World.block_lt_of_cell? w _ hB
 have d0:W.cell? ⟨Bb,0,none⟩=some u:=(hW.cell (p:=⟨Bb,0,none⟩) hB').trans hB
 have hzW:=hW.size
 have hBW:Bb<W.heap.size:=World.block_lt_of_cell? W _ d0
 have HN:=Lib.hid (own_below hu hW)
 obtain⟨A,c,rfl,hc⟩:=mx_slice hu
 have HD0:=Lib.hid d0
 have HX:=Lib.hid hX
 have HOX:=Lib.hid hOX
 have HY:=Lib.hid hY
 have H0:=Lib.hid h0
 have hwl:IntKind.i64.wrap ((xs.length:Int)-1)=(xs.length:Int)-1:=IntWalk.i64_in _ (by omega)
 clear hB hW hJ hJx hY h0 hX hOX hu
 refine callsIn_of_wp Tryz.func72 rfl trivial ?_ rfl
 simp only[Tryz.ntmps72,List.size_toArray,List.length_cons,List.length_nil,Nat.reduceAdd,Nat.reduceSub,Array.replicate_succ,Array.replicate_zero,List.push_toArray,List.append_toArray,List.nil_append,List.cons_append]
 gi_wp2
 clear d0
 gi_loopw [3] (fun i wr=> ∃(k:Nat) (z:Int) (pre:List (StV×Nat)),k≤xs.length∧z=(k:Int)-1∧i= .int .i64 z∧Hid (pre++(xs.zipIdx.take k).reverse=xs.zipIdx.reverse)∧Hid (KpC X W wr)∧Hid (J pre wr)) (fun i _=>(intOf i+1).toNat)
 case atStart=>exact⟨xs.length,_,[],Nat.le_refl _,rfl,rfl,Lib.hid (by rw[List.nil_append,List.take_of_length_le (by simp)]),Lib.hid (KpC.refl _ _),H0⟩
 case round=>
  obtain⟨k,z,pre,hk,hz,rfl,HE,HK,HJ⟩:=hrel
  by_cases hlt:0<k
  ·obtain⟨j,rfl⟩: ∃j,k=j+1:=⟨k-1,by omega⟩
   obtain rfl:z=(j:Int):=by omega
   obtain⟨x,hxj⟩:=getElem_of (show j<xs.length by omega)
   obtain⟨g,c',cs,hv,hle,hg0,hg,hgc⟩:=mx_some HN.out (by omega)
   simp only[Value.slice.injEq,true_and]at hv
   obtain⟨rfl,rfl⟩:=hv
   obtain⟨y0,y1,y2,y3⟩:=stcell_at xs j x hxj
   have hnx: ∀t u,W.cell? ⟨g,t,none⟩=some u→wr.cell? ⟨g,t,none⟩=some u:=fun t u e=>(HK.out.kept.cell (p:=⟨g,t,none⟩) hg (fun h=>h.elim (HOX.out g rfl) (xo_cell e))).trans e
   have e0:=hnx _ _ (mx_at HN.out y0)
   have e1:=hnx _ _ (mx_at HN.out y1)
   have e2:=hnx _ _ (mx_at HN.out y2)
   have e3:=hnx _ _ (mx_at HN.out y3)
   have d0:wr.cell? ⟨Bb,0,none⟩=some (.slice (some ⟨g,0,none⟩) xs.length c):=(HK.out.kept.cell (p:=⟨Bb,0,none⟩) hBW (fun h=>h.elim HX.out (xo_cell HD0.out))).trans HD0.out
   have HE2:=Lib.hid (show(pre++ [(x,j)])++(xs.zipIdx.take j).reverse=xs.zipIdx.reverse from by
    have:=HE.out
    rw[zip_st hxj]at this
    rw[←this]
    simp)
   have q0:decide ((0:Int)≤(j:Int))=true:=decide_eq_true (by omega)
   have hji:(j:Int)<(xs.length:Int):=by omega
   have hjn:j<xs.length:=by omega
   have hwj:IntKind.i64.wrap ((j:Int)-1)=(j:Int)-1:=IntWalk.i64_in _ (by omega)
   obtain⟨fn,tmps,assign,body,hy,hR⟩:=yield_any 8 (HY.out pre (x,j) wr HJ.out (by
    unfold BSPre
    rw[←HE2.out]
    exact List.prefix_append _ _))
   dsimp only[bsv]at hy
   have HRR:=Lib.hid hR
   obtain⟨⟨dl,id,ls,hs⟩,⟨a1,c1⟩,⟨a2,c2⟩⟩:=x
   simp only at e0 e1 e2 e3
   clear hxj hR hz y0 y1 y2 y3 hnx hgc
   gi_wp2_with fail
   refine HRR.out.mono ?_
   rintro e W3 (⟨rfl,hJ3,hk3⟩|⟨rfl,hJx3,_⟩)
   ·have HJ3:=Lib.hid hJ3
    have HK3:=Lib.hid (HK.out.trans hk3)
    clear hJ3 hk3 hy d0 e0 e1 e2 e3
    gi_wp2_with fail
    go_roundw
    case rel=>exact⟨j,_,_,by omega,rfl,rfl,HE2,HK3,HJ3⟩
    case measure=>simp[intOf]
   ·gi_wp2
    refine bodyPost_ret (results_none rfl _ _ _) rfl ?_
    exact⟨⟨_,rfl⟩,.inr ⟨_,trivial,hJx3⟩⟩
  ·obtain rfl:k=0:=by omega
   have q0:decide ((0:Int)≤z)=false:=decide_eq_false (by omega)
   gi_wp2_with fail
   go_end0
   refine⟨⟨_,rfl⟩,.inl ⟨pre,?_,HJ.out⟩⟩
   have:=HE.out
   simpa using this
end Go.Proofs.YtajbmjpodeilpaaGreat
namespace Go.Proofs.YtajbmjpodeilpaaGreat
open Go.RowKit
theorem viaR {T R:Prop} (f:T→R) (t:T):R:=f t
theorem st_set: ∀(K:List StV) (i:Nat) (x:StV),i<K.length→((((K.flatMap stcell).set (i*4) (.bool x.1.del)).set (i*4+1) (.int .i64 x.1.id)).set (i*4+2) (Value.slice x.2.1.1 x.1.lits.length x.2.1.2)).set (i*4+3) (Value.slice x.2.2.1 x.1.hints.length x.2.2.2)=(K.set i x).flatMap stcell
 | [],i,x,h=>by cases h
 | y::K,0,x,_=>rfl
 | y::K,i+1,x,h=>by
  have:=st_set K i x (by rw[List.length_cons]at h;omega)
  rw[show(i+1)*4=i*4+4 by omega,List.set_cons_succ]
  show _=stcell y++(K.set i x).flatMap stcell
  rw[←this]
  rfl
def RevAt (K K':List StV) (i:Nat):Prop:=K'.length=K.length∧∀t,K'[t]? =if t<i∨K.length-i≤t then K.reverse[t]? else K[t]?
theorem RevAt.zero (K:List StV):RevAt K K 0:=⟨rfl,fun t=>by
 by_cases h:t<K.length
 ·rw[if_neg (by omega)]
 ·rw[List.getElem?_eq_none (by omega),List.getElem?_eq_none (by rw[List.length_reverse];omega)]
  split <;> rfl⟩
theorem RevAt.mem {K K':List StV} {i:Nat} (h:RevAt K K' i) {t:Nat} {x:StV} (hx:K'[t]? =some x):x∈K:=by
 rw[h.2 t]at hx
 split at hx
 ·exact List.mem_reverse.1 (List.mem_of_getElem? hx)
 ·exact List.mem_of_getElem? hx
theorem RevAt.step {K K':List StV} {i:Nat} (h:RevAt K K' i) (hi:i+1<K.length-i) {x y:StV} (hx:K'[i]? =some x) (hy:K'[K.length-1-i]? =some y):RevAt K ((K'.set i y).set (K.length-1-i) x) (i+1):=by
 obtain⟨h1,h2⟩:=h
 refine⟨by rw[List.length_set,List.length_set,h1],fun t=>?_⟩
 have hx2:K[i]? =some x:=by
  rw[h2 i,if_neg (by omega)]at hx
  exact hx
 have hy2:K[K.length-1-i]? =some y:=by
  rw[h2,if_neg (by omega)]at hy
  exact hy
 rw[List.getElem?_set,List.length_set,h1,List.getElem?_set,h1]
 by_cases e1:K.length-1-i=t
 ·rw[if_pos e1,if_pos (by omega),if_pos (by omega),←e1,List.getElem?_reverse (by omega),show K.length-1-(K.length-1-i)=i by omega,hx2]
 ·rw[if_neg e1]
  by_cases e2:i=t
  ·rw[if_pos e2,if_pos (by omega),if_pos (by omega),←e2,List.getElem?_reverse (by omega),hy2]
  ·rw[if_neg e2,h2 t]
   by_cases e3:t<i∨K.length-i≤t
   ·rw[if_pos e3,if_pos (by omega)]
   ·rw[if_neg e3,if_neg (by omega)]
theorem RevAt.done {K K':List StV} {i:Nat} (h:RevAt K K' i) (hi:K.length≤2*i+1):K'=K.reverse:=by
 obtain⟨h1,h2⟩:=h
 refine List.ext_getElem? fun t=>?_
 rw[h2 t]
 split
 ·rfl
 ·rename_i e
  have et:t=i:=by omega
  subst et
  rcases Nat.lt_or_ge t K.length with h3|h3
  ·rw[List.getElem?_reverse h3,show K.length-1-t=t by omega]
  ·rw[List.getElem?_eq_none h3,List.getElem?_eq_none (by rw[List.length_reverse];exact h3)]
theorem st_store {n0:Nat} {w:World} {n c g i:Nat} {K:List StV} (h:w.ownsRow n0 34 4 (.slice (some ⟨g,0,none⟩) n c) n (K.flatMap stcell)) (hn:K.length=n) (hi:i<n) (x:StV):
  ∃W,(((w.setCell ⟨g,i*4,none⟩ (.bool x.1.del)).setCell ⟨g,i*4+1,none⟩ (.int .i64 x.1.id)).setCell ⟨g,i*4+2,none⟩ (Value.slice x.2.1.1 x.1.lits.length x.2.1.2)).setCell ⟨g,i*4+3,none⟩ (Value.slice x.2.2.1 x.1.hints.length x.2.2.2)=W∧W.ownsRow n0 34 4 (.slice (some ⟨g,0,none⟩) n c) n ((K.set i x).flatMap stcell)∧Kept (fun b=>b=g) w W:=by
 refine⟨_,rfl,?_,((((Kept.refl (fun b=>b=g) w).setCell ⟨g,i*4,none⟩ _ rfl).setCell ⟨g,i*4+1,none⟩ _ rfl).setCell ⟨g,i*4+2,none⟩ _ rfl).setCell ⟨g,i*4+3,none⟩ _ rfl⟩
 rw[←st_set K i x (by omega)]
 exact own_setg (own_setg (own_setg (own_setg h _) _) _) _
set_option maxRecDepth 100000 in
set_option maxHeartbeats 4000000 in
theorem rev_steps {n0:Nat} (v:Value) (K:List StV) (w:World) (h:w.ownsRow n0 34 4 v K.length (K.flatMap stcell)) (hl:K.length≤1000000):
  Calls Tryz.prog 42 #[v] w fun e w'=>e= .returned (.tuple #[])∧w'.ownsRow n0 34 4 v K.length (K.reverse.flatMap stcell)∧Kept (fun g=>v.ownBlock=some g) w w':=by
 obtain⟨A,c,rfl,hc⟩:=mx_slice h
 have HRW:=Lib.hid h
 obtain⟨n,hn⟩: ∃n,K.length=n:=⟨_,rfl⟩
 rw[hn]at HRW hl⊢
 have HN:=Lib.hid hn
 have HR0:=Lib.hid (RevAt.zero K)
 have hwl:IntKind.i64.wrap ((n:Int)-1)=(n:Int)-1:=IntWalk.i64_in _ (by omega)
 clear h hn hc
 go_enter Tryz.func42,Tryz.ntmps42
 go_wp2_with fail
 go_loopw [2,3] (fun a b wr=> ∃(i:Nat) (K':List StV),2*i≤n+1∧a= .int .i64 i∧b= .int .i64 ((n:Int)-1-i)∧Hid (RevAt K K' i)∧Hid (wr.ownsRow n0 34 4 (.slice A n c) n (K'.flatMap stcell))∧Hid (Kept (fun g=>(Value.slice A n c).ownBlock=some g) w wr)) (fun a _ _=>n-(intOf a).toNat)
 case atStart=>exact⟨0,K,by omega,rfl,by simp,HR0,HRW,Lib.hid (Kept.refl _ _)⟩
 case round=>
  obtain⟨i,K',hi,rfl,rfl,HRV,HO,HK⟩:=hrel
  by_cases hlt:i+1<n-i
  ·obtain⟨j,hj⟩: ∃j,n-1-i=j:=⟨_,rfl⟩
   have hji:(n:Int)-1-(i:Int)=(j:Int):=by omega
   rw[hji]
   have hij:(i:Int)<(j:Int):=by omega
   have hij2:i<j:=by omega
   have hin:(i:Int)<(n:Int):=by omega
   have hjn:(j:Int)<(n:Int):=by omega
   have hkl:K'.length=n:=HRV.out.1.trans HN.out
   obtain⟨x,hx⟩:=getElem_of (show i<K'.length by omega)
   obtain⟨y,hy⟩:=getElem_of (show j<K'.length by omega)
   obtain⟨g,c',cs,hv,hle,hg0,hg,hgc⟩:=mx_some HO.out (by omega)
   simp only[Value.slice.injEq,true_and]at hv
   obtain⟨rfl,rfl⟩:=hv
   have HX:=Lib.hid (HRV.out.step (by rw[HN.out];omega) hx (by rw[HN.out,hj];exact hy))
   rw[HN.out,hj]at HX
   have HXX:=Lib.hid hx
   have HYY:=Lib.hid hy
   clear hx hy hgc
   go_upto_region 3 with fail
   refine wp_region_held_drew (S:=fun w'=>Kept (fun b=>b=g) wr w') (by kernel_rfl) (Kept.of_below (mx_drew wr)) (fun hS=>?_)
   have hD:=mx_drew wr
   obtain⟨xD,hxD⟩: ∃z,wr.drew=z:=⟨_,rfl⟩
   rw[hxD]at hS hD⊢
   have hOD:=own_below HO.out hD
   obtain⟨hX0,hX1,hX2,hX3⟩:=stcell_at K' i x HXX.out
   obtain⟨hY0,hY1,hY2,hY3⟩:=stcell_at K' j y HYY.out
   have x0:=mx_at hOD hX0
   have x1:=mx_at hOD hX1
   have x2:=mx_at hOD hX2
   have x3:=mx_at hOD hX3
   have y0:=mx_at hOD hY0
   have y1:=mx_at hOD hY1
   have y2:=mx_at hOD hY2
   have y3:=mx_at hOD hY3
   obtain⟨cur,hcur⟩:=own_type hOD g rfl
   obtain⟨WA,hWA,hoA,hkA⟩:=st_store hOD hkl (show i<n by omega) y
   obtain⟨curA,hcurA⟩:=own_type hoA g rfl
   obtain⟨W5,hW5,ho5,hk5⟩:=st_store hoA (by rw[List.length_set];exact hkl) (show j<n by omega) x
   have HO5:=Lib.hid ho5
   have hSA:=hS.trans hkA (fun _ _ h=>h)
   have hS5:=hSA.trans hk5 (fun _ _ h=>h)
   have HK5:=Lib.hid (HK.out.trans hS5 (fun i _ h=>by rw[h];rfl))
   obtain⟨hZ0,hZ1,hZ2,hZ3⟩:=stcell_at (K'.set i y) j y (by rw[List.getElem?_set_ne (by omega)];exact HYY.out)
   have z0:=mx_at hoA hZ0
   have z1:=mx_at hoA hZ1
   have z2:=mx_at hoA hZ2
   have z3:=mx_at hoA hZ3
   have f0:=free_at (j:=i*4) hcur
   have f1:=free_at (j:=i*4+1) hcur
   have f2:=free_at (j:=i*4+2) hcur
   have f3:=free_at (j:=i*4+3) hcur
   have g0:=free_at (j:=j*4) hcurA
   have g1:=free_at (j:=j*4+1) hcurA
   have g2:=free_at (j:=j*4+2) hcurA
   have g3:=free_at (j:=j*4+3) hcurA
   obtain⟨⟨xd,xi,xl,xh⟩,⟨xa,xb⟩,⟨xu,xv⟩⟩:=x
   obtain⟨⟨yd,yi,yl,yh⟩,⟨ya,yb⟩,⟨yu,yv⟩⟩:=y
   simp only at x0 x1 x2 x3 y0 y1 y2 y3 z0 z1 z2 z3 hWA hW5
   clear hX0 hX1 hX2 hX3 hY0 hY1 hY2 hY3 hZ0 hZ1 hZ2 hZ3 hcur hcurA hoA hkA ho5 hk5 hD hOD hxD
   refine takeE 0 14 ?_
   refine takeE 1 15 ?_
   refine takeE 2 16 ?_
   refine takeE 3 17 ?_
   refine takeE 4 18 ?_
   refine takeE 5 19 ?_
   refine takeE 6 20 ?_
   refine takeE 8 22 ?_
   refine takeE 9 23 ?_
   refine takeE 10 24 ?_
   apply viaR
   ·intro TAIL
    refine wpAnyH_ready (rs:= [7,11]) (by kernel_rfl) (by simp) (AllReadyH.cons rfl (fun KK hKK=>?_) (AllReadyH.cons rfl (fun KK hKK=>?_) AllReadyH.nil))
    ·go_simp
     refine hKK.out _ _ hS (fun _=>?_)
     refine ready1 11 (fun KK hKK=>?_)
     go_simp
     refine hKK.out _ _ hS (fun _=>?_)
     exact TAIL
    ·go_simp
     refine hKK.out _ _ hS (fun _=>?_)
     refine ready1 7 (fun KK hKK=>?_)
     go_simp
     refine hKK.out _ _ hS (fun _=>?_)
     exact TAIL
   ·refine takeE 12 26 ?_
    refine ready1 13 (fun KK hKK=>?_)
    go_simp
    try rw[hWA]
    refine hKK.out _ _ hSA (fun _=>?_)
    clear x0 x1 x2 x3 y0 y1 y2 y3 f0 f1 f2 f3 hKK
    refine takeE 14 27 ?_
    refine ready1 15 (fun KK hKK=>?_)
    go_simp
    try rw[hW5]
    refine hKK.out _ _ hS5 (fun _=>?_)
    clear z0 z1 z2 z3 g0 g1 g2 g3 hKK hS hSA hS5 hWA hW5
    refine wpAnyH_done (by kernel_rfl) ?_ _
    go_wp2_with fail
    go_roundw
    case rel=>exact⟨i+1,_,by omega,by go_num,by rw[show(j:Int)=(n:Int)-1-(i:Int) by omega];go_num,HX,HO5,HK5⟩
    case measure=>simp[intOf];omega
  ·have hd:decide ((i:Int)<(n:Int)-1-(i:Int))=false:=decide_eq_false (by omega)
   have HRD:=Lib.hid (show wr.ownsRow n0 34 4 (.slice A n c) n (K.reverse.flatMap stcell)from by
    rw[←HRV.out.done (by rw[HN.out];omega)]
    exact HO.out)
   go_wp2_with fail
   go_end0
   exact⟨rfl,HRD.out,HK.out⟩
end Go.Proofs.YtajbmjpodeilpaaGreat
