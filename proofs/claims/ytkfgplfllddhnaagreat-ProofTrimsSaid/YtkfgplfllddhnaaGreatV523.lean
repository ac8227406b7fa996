/- package proof: Check, at a right formula. The example of chapter 10: plain. Rows that a program writes out; the example of chapter 10: four. -/
import Derived.Test.YtkfgplfllddhnaaGreatV522
import Derived.Test.YtkfgplfllddhnaaGreatV519
import Derived.Test.YtkfgplfllddhnaaGreatV508
namespace Go.Proofs.YtkfgplfllddhnaaGreat
open Go.RowKit Go.Maps
def repZ:Value:=.agg #[.bool false,.int .i64 0,.int .i64 0,.int .i64 0,.int .i64 0]
def runRep (r:Ckr×Nat×Nat):Value:=if runE r=0 then r.1.rep else repZ
theorem res_chk456 {fn:Func} (h:fn.results= #[.cell 4 50,.tmp 5,.tmp 6]) {w:World} {r:Nat} {c0 c1 c2 c3 c4:Value} {t:TypeId} (hb:w.heap[r]? =some (.cells #[c0,c1,c2,c3,c4] t (0,0))) (tmps:Array Value) (t4:tmps[4]?.getD undef= .pointer (some ⟨r,0,none⟩)):
  (results fn tmps).run Tryz.prog w= .ok (.tuple #[.agg #[c0,c1,c2,c3,c4],tmps[5]?.getD undef,tmps[6]?.getD undef]) w:=by
 have p0:w.cell? ⟨r,0,none⟩=some c0:=mx_cell (j:=0) hb
 have p1:w.cell? ⟨r,1,none⟩=some c1:=mx_cell (j:=1) hb
 have p2:w.cell? ⟨r,2,none⟩=some c2:=mx_cell (j:=2) hb
 have p3:w.cell? ⟨r,3,none⟩=some c3:=mx_cell (j:=3) hb
 have p4:w.cell? ⟨r,4,none⟩=some c4:=mx_cell (j:=4) hb
 simp[results,h,go_sem,t4,p0,p1,p2,p3,p4]
theorem rep_err {R:Ckr×Nat×Nat} {k:Ckr} {n e E:Nat} (hR:R=(k,n,e)) (hE:runE R=E) (h0:E≠0):Ending.returned (.tuple #[.agg #[.bool false,.int .i64 0,.int .i64 0,.int .i64 0,.int .i64 0],.int .i64 (n:Int),.int .i64 (E:Int)])= .returned (.tuple #[runRep R,.int .i64 (R.2.1:Nat),.int .i64 (runE R:Nat)]):=by
 unfold runRep
 rw[hE,if_neg h0,hR]
 rfl
theorem rep_ok {R:Ckr×Nat×Nat} {k:Ckr} {n:Nat} {a d r l:Int} (hR:R=(k,n,0)) (hp:k.proved=true) (hf:k.rep= .agg #[.bool true,.int .i64 a,.int .i64 d,.int .i64 r,.int .i64 l]):Ending.returned (.tuple #[.agg #[.bool true,.int .i64 a,.int .i64 d,.int .i64 r,.int .i64 l],.int .i64 (n:Int),.int .i64 0])= .returned (.tuple #[runRep R,.int .i64 (R.2.1:Nat),.int .i64 (runE R:Nat)]):=by
 have hE:runE R=0:=by
  rw[hR]
  show(if(0:Nat)≠0 then _ else if k.proved=true then 0 else 101)=0
  rw[hp]
  rfl
 unfold runRep
 rw[hE,if_pos rfl,hR]
 simp only
 rw[hf]
 rfl
theorem run_step {k:Ckr} {l:List EStep} {j:Nat} {s:EStep} (h:l[j]? =some s) (n:Nat):runGo k (l.drop j) n=if k.proved=true then(k,n,0)else if(k.do_ s).2.2.2≠0 then((k.do_ s).1,n,(k.do_ s).2.2.2)else runGo (k.do_ s).1 (l.drop (j+1)) (n+1):=by
 have hlt:=(List.getElem?_eq_some_iff.1 h).1
 rw[List.drop_eq_getElem_cons hlt]
 rw[List.getElem?_eq_getElem hlt]at h
 rw[Option.some.inj h]
 rfl
theorem run_nil (k:Ckr) (n:Nat):runGo k [] n=(k,n,0):=rfl
set_option maxRecDepth 100000 in
set_option maxHeartbeats 4000000 in
theorem proof_check {O Os:Nat→Prop} (n:Int) (lv sv:Value) (cs:List (List Int)) (l:List EStep) (w:World) (h:ClsIn O w lv cs) (hc: ∀c∈cs,clauseB c=true) (hn:cs.length≤1000) (hf:fchk n cs=(-1,0)) (hs:StepIn Os w sv l) (hl:l.length≤1000) (hls: ∀s∈l,s.lits.length≤100000000∧s.hints.length≤100000000):
  Calls Tryz.prog 17 #[.agg #[.int .i64 n,lv],sv] w fun e w'=>e= .returned (.tuple #[runRep (runGo (ckrNew cs) l 0),.int .i64 ((runGo (ckrNew cs) l 0).2.1:Nat),.int .i64 (runE (runGo (ckrNew cs) l 0):Nat)])∧Below w.heap.size w w':=by
 obtain⟨W0,hW0⟩: ∃x,w.alloc (.cells #[.int .i64 n,lv] 26)=x:=⟨_,rfl⟩
 obtain⟨W1,hW1⟩: ∃x,W0.alloc (.cells #[.bool false,.int .i64 0,.int .i64 0,.int .i64 0,.int .i64 0] 50)=x:=⟨_,rfl⟩
 have hb0:Below w.heap.size w W0:=by rw[←hW0];exact mx_al _ _
 have hb1:Below W0.heap.size W0 W1:=by rw[←hW1];exact mx_al _ _
 have hz0:W0.heap.size=w.heap.size+1:=by rw[←hW0];simp
 have hz1:W1.heap.size=w.heap.size+2:=by rw[←hW1];simp[hz0]
 have hbf:W0.heap[w.heap.size]? =some (.cells #[.int .i64 n,lv] 26 (0,0)):=by rw[←hW0];exact World.alloc_heap_new _ _
 have hbf1:=(hb1.block _ (heap_lt hbf)).trans hbf
 have b0:W1.cell? ⟨w.heap.size,0,none⟩=some (.int .i64 n):=mx_cell (j:=0) hbf1
 have b1:W1.cell? ⟨w.heap.size,1,none⟩=some lv:=mx_cell (j:=1) hbf1
 have hbr:W1.heap[w.heap.size+1]? =some (.cells #[.bool false,.int .i64 0,.int .i64 0,.int .i64 0,.int .i64 0] 50 (0,0)):=by rw[←hW1,←hz0];exact World.alloc_heap_new _ _
 have hbw:Below w.heap.size w W1:=hb0.trans (hb1.mono (by omega))
 have HNEW:=Lib.hid (ck_new n lv cs W1 (h.below hbw) hc hn hf)
 have HBX:=Lib.hid (fun(X:World) (hx:Below W1.heap.size W1 X)=>show X.heap[w.heap.size+1]? =some (.cells #[.bool false,.int .i64 0,.int .i64 0,.int .i64 0,.int .i64 0] 50 (0,0))∧Below w.heap.size w X from⟨(hx.block _ (heap_lt hbr)).trans hbr,hbw.trans (hx.mono hbw.size)⟩)
 have HSI:=Lib.hid (fun(X:World) (hx:Below W1.heap.size W1 X)=>(hs.below hbw).below hx)
 obtain⟨R,hR⟩: ∃R,runGo (ckrNew cs) l 0=R:=⟨_,rfl⟩
 rw[hR]
 have HR:=Lib.hid (show R=runGo (ckrNew cs) (l.drop 0) 0 from by rw[List.drop_zero];exact hR.symm)
 have HOK:=Lib.hid (show(ckrNew cs).Ok (1000+0)from by rw[ckrNew_of];exact ckrOf_ok hc hn (Nat.zero_le _))
 have HLS:=Lib.hid hls
 obtain⟨A,c,rfl,hcc,_⟩:=h
 obtain⟨As,cs',rfl,hcs,_⟩:=hs
 have HW0:=Lib.hid hW0
 have HW1:=Lib.hid hW1
 clear hb0 hb1 hbf hbf1 hbr hbw hR hc hf hls hW0 hW1
 go_enter Tryz.func17,Tryz.ntmps17
 go_upto_region 1 with fail
 try rw[HW0.out]
 try rw[HW1.out]
 go_wp2_with fail
 refine wp_scope_straight ?_
 go_wp2_with fail
 refine HNEW.out.mono ?_
 rintro e w2 ⟨b,rfl,hck,hb2⟩
 have HCK:=Lib.hid hck
 have HB2:=Lib.hid hb2
 clear hck hb2 HNEW b0 b1
 go_wp2_with fail
 refine wp_label ?_
 go_wp2_with fail
 go_loopw [8,9] (fun ev iv wr=> ∃(k:Nat) (kk:Ckr),k≤l.length∧ev= .int .i64 0∧iv= .int .i64 k∧Hid (R=runGo kk (l.drop k) k)∧Hid (kk.Ok (1000+k))∧Hid (CkAt W1.heap.size wr b kk)∧Hid (Below W1.heap.size W1 wr)) (fun _ i _=>l.length-(intOf i).toNat)
 case atStart=>exact⟨0,ckrNew cs,Nat.zero_le _,rfl,rfl,HR,HOK,HCK,HB2⟩
 case round=>
  obtain⟨k,kk,hk,rfl,rfl,HRk,HOKk,HCKk,HBk⟩:=hrel
  obtain⟨p,hp⟩: ∃p,kk.proved=p:=⟨_,rfl⟩
  have hpv:=ck_proved b kk wr HCKk.out
  have hrp:=ck_report b kk wr HCKk.out
  unfold Ckr.rep at hrp
  obtain⟨ra,hra⟩: ∃p,kk.adds=p:=⟨_,rfl⟩
  obtain⟨rd,hrd⟩: ∃p,kk.dels=p:=⟨_,rfl⟩
  obtain⟨rr,hrr⟩: ∃p,kk.rats=p:=⟨_,rfl⟩
  obtain⟨rl,hrl⟩: ∃p,kk.largest=p:=⟨_,rfl⟩
  rw[hp]at hpv hrp
  rw[hra,hrd,hrr,hrl]at hrp
  have HPV:=Lib.hid hpv
  have HREP:=Lib.hid hrp
  have HP:=Lib.hid hp
  have HRF:=Lib.hid (show kk.rep= .agg #[.bool p,.int .i64 ra,.int .i64 rd,.int .i64 rr,.int .i64 rl]from by unfold Ckr.rep;rw[hp,hra,hrd,hrr,hrl])
  clear hpv hrp hp hra hrd hrr hrl
  by_cases hlt:k<l.length
  ·obtain⟨s,hs⟩:=getElem_of hlt
   have hst:=HRk.out.trans (run_step hs k)
   rw[HP.out]at hst
   cases p with
   | true=>
    have HRZ:=Lib.hid (rep_ok (R:=R) (n:=k) (hst.trans (if_pos rfl)) HP.out HRF.out)
    clear hs hst
    go_wp2_with fail
    refine HPV.out.mono ?_
    rintro e w' ⟨rfl,rfl⟩
    go_wp2_with fail
    refine HPV.out.mono ?_
    rintro e w' ⟨rfl,rfl⟩
    go_wp2_with fail
    refine HREP.out.mono ?_
    rintro e w6 ⟨rfl,hb6⟩
    obtain⟨hbx,hlow⟩:=HBX.out w6 (HBk.out.trans (hb6.mono HBk.out.size))
    have r0:=mx_cell (j:=0) hbx
    have r1:=mx_cell (j:=1) hbx
    have r2:=mx_cell (j:=2) hbx
    have r3:=mx_cell (j:=3) hbx
    have r4:=mx_cell (j:=4) hbx
    have f0:=free_at (j:=0) hbx
    have f1:=free_at (j:=1) hbx
    have f2:=free_at (j:=2) hbx
    have f3:=free_at (j:=3) hbx
    have f4:=free_at (j:=4) hbx
    obtain⟨wy,hwy,hby,hky⟩:=five_setR hbx (.bool true) (.int .i64 ra) (.int .i64 rd) (.int .i64 rr) (.int .i64 rl)
    have HBY:=Lib.hid hby
    have HFIN:=Lib.hid (hlow.trans (hky.below (fun i e=>by rw[e];exact Nat.le_succ _) hlow.size))
    clear hbx hlow hky hby hb6
    go_wp2_with fail
    try rw[hwy]
    rw[Exit.noGoto_ret]
    refine bodyPost_ret (res_chk456 rfl HBY.out _ rfl) rfl ?_
    exact⟨HRZ.out,HFIN.out⟩
   | false=>
    have hst2:=hst.trans (if_neg (by decide))
    obtain⟨A',c',hAc,_,_,hxs⟩:=HSI.out wr HBk.out
    simp only[Value.slice.injEq,true_and]at hAc
    obtain⟨rfl,rfl⟩:=hAc
    obtain⟨g,o,ul,uh,rfl,hg,_,d0,d1,d2,d3,hul,huh⟩:=hxs k s hs
    obtain⟨hl1,hl2⟩:=HLS.out s (List.mem_of_getElem? hs)
    have HDO:=Lib.hid (ck_do_all b kk s ul uh wr HCKk.out HBk.out.size HOKk.out (by omega) hul huh (by omega) (by omega))
    have HOKn:=Lib.hid (do_ok (s:=s) HOKk.out)
    obtain⟨D,hD⟩: ∃D,kk.do_ s=D:=⟨_,rfl⟩
    rw[hD]at HDO HOKn hst2
    have HST:=Lib.hid hst2
    obtain⟨Dk,Dt,Di,De⟩:=D
    obtain⟨Aul,cul,rfl,_⟩:=hul
    obtain⟨Auh,cuh,rfl,_⟩:=huh
    clear hs hst hst2 hxs hD
    go_wp2_with fail
    refine HPV.out.mono ?_
    rintro e w' ⟨rfl,rfl⟩
    go_wp2_with fail
    refine HDO.out.mono ?_
    rintro e w5 ⟨rfl,hck5,hb5,-⟩
    have HCK5:=Lib.hid hck5
    have HB5:=Lib.hid (HBk.out.trans hb5)
    clear hck5 hb5 HDO d0 d1 d2 d3
    by_cases hE:De=0
    ·subst hE
     have HRn:=Lib.hid (show R=runGo Dk (l.drop (k+1)) (k+1)from HST.out.trans (if_neg (fun h=>h rfl)))
     clear HST
     go_wp2_with fail
     go_roundw
     case rel=>exact⟨k+1,Dk,by omega,rfl,by go_num,HRn,HOKn,HCK5,HB5⟩
     case measure=>simp[intOf];omega
    ·have q0:((De:Int)==0)=false:=beq_eq_false_iff_ne.2 (by omega)
     have q1:((De:Int) != 0)=true:=by rw[bne,q0];rfl
     have HRZ:=Lib.hid (rep_err (R:=R) (n:=k) (E:=De) (k:=Dk) (HST.out.trans (if_pos hE)) (by rw[HST.out.trans (if_pos hE)];exact if_pos hE) hE)
     obtain⟨wz,hwz⟩: ∃z,w5=z:=⟨_,rfl⟩
     have HBZ:=Lib.hid (show Below W1.heap.size W1 wz from hwz▸HB5.out)
     rw[hwz]
     clear HST hE hwz
     obtain⟨hbx,hlow⟩:=HBX.out wz HBZ.out
     have r0:=mx_cell (j:=0) hbx
     have r1:=mx_cell (j:=1) hbx
     have r2:=mx_cell (j:=2) hbx
     have r3:=mx_cell (j:=3) hbx
     have r4:=mx_cell (j:=4) hbx
     have f0:=free_at (j:=0) hbx
     have f1:=free_at (j:=1) hbx
     have f2:=free_at (j:=2) hbx
     have f3:=free_at (j:=3) hbx
     have f4:=free_at (j:=4) hbx
     obtain⟨wy,hwy,hby,hky⟩:=five_setR hbx (.bool false) (.int .i64 0) (.int .i64 0) (.int .i64 0) (.int .i64 0)
     have HBY:=Lib.hid hby
     have HFIN:=Lib.hid (hlow.trans (hky.below (fun i e=>by rw[e];exact Nat.le_succ _) hlow.size))
     clear hbx hlow hky hby
     go_wp2_with fail
     try rw[hwy]
     rw[Exit.noGoto_ret]
     refine bodyPost_ret (res_chk456 rfl HBY.out _ rfl) rfl ?_
     exact⟨HRZ.out,HFIN.out⟩
  ·obtain rfl:k=l.length:=by omega
   have hst:R=(kk,l.length,0):=by rw[HRk.out,List.drop_length,run_nil]
   cases p with
   | true=>
    have HRZ:=Lib.hid (rep_ok (R:=R) (n:=l.length) hst HP.out HRF.out)
    clear hst
    go_wp2_with fail
    refine HPV.out.mono ?_
    rintro e w' ⟨rfl,rfl⟩
    go_wp2_with fail
    refine HREP.out.mono ?_
    rintro e w6 ⟨rfl,hb6⟩
    obtain⟨hbx,hlow⟩:=HBX.out w6 (HBk.out.trans (hb6.mono HBk.out.size))
    have r0:=mx_cell (j:=0) hbx
    have r1:=mx_cell (j:=1) hbx
    have r2:=mx_cell (j:=2) hbx
    have r3:=mx_cell (j:=3) hbx
    have r4:=mx_cell (j:=4) hbx
    have f0:=free_at (j:=0) hbx
    have f1:=free_at (j:=1) hbx
    have f2:=free_at (j:=2) hbx
    have f3:=free_at (j:=3) hbx
    have f4:=free_at (j:=4) hbx
    obtain⟨wy,hwy,hby,hky⟩:=five_setR hbx (.bool true) (.int .i64 ra) (.int .i64 rd) (.int .i64 rr) (.int .i64 rl)
    have HBY:=Lib.hid hby
    have HFIN:=Lib.hid (hlow.trans (hky.below (fun i e=>by rw[e];exact Nat.le_succ _) hlow.size))
    clear hbx hlow hky hby hb6
    go_wp2_with fail
    try rw[hwy]
    rw[Exit.noGoto_ret]
    refine bodyPost_ret (res_chk456 rfl HBY.out _ rfl) rfl ?_
    exact⟨HRZ.out,HFIN.out⟩
   | false=>
    have HRZ:=Lib.hid (rep_err (R:=R) (n:=l.length) (E:=101) (k:=kk) hst (by
     rw[hst]
     show(if(0:Nat)≠0 then _ else if kk.proved=true then 0 else 101)=101
     rw[HP.out]
     rfl) (by decide))
    have HBZ:=Lib.hid HBk.out
    clear hst
    go_wp2_with fail
    refine HPV.out.mono ?_
    rintro e w' ⟨rfl,rfl⟩
    obtain⟨wz,hwz⟩: ∃z,wr=z:=⟨_,rfl⟩
    rw[hwz]at HBZ⊢
    clear hwz
    obtain⟨hbx,hlow⟩:=HBX.out wz HBZ.out
    have r0:=mx_cell (j:=0) hbx
    have r1:=mx_cell (j:=1) hbx
    have r2:=mx_cell (j:=2) hbx
    have r3:=mx_cell (j:=3) hbx
    have r4:=mx_cell (j:=4) hbx
    have f0:=free_at (j:=0) hbx
    have f1:=free_at (j:=1) hbx
    have f2:=free_at (j:=2) hbx
    have f3:=free_at (j:=3) hbx
    have f4:=free_at (j:=4) hbx
    obtain⟨wy,hwy,hby,hky⟩:=five_setR hbx (.bool false) (.int .i64 0) (.int .i64 0) (.int .i64 0) (.int .i64 0)
    have HBY:=Lib.hid hby
    have HFIN:=Lib.hid (hlow.trans (hky.below (fun i e=>by rw[e];exact Nat.le_succ _) hlow.size))
    clear hbx hlow hky hby
    go_wp2_with fail
    try rw[hwy]
    rw[Exit.noGoto_ret]
    refine bodyPost_ret (res_chk456 rfl HBY.out _ rfl) rfl ?_
    exact⟨HRZ.out,HFIN.out⟩
end Go.Proofs.YtkfgplfllddhnaaGreat
namespace Go.Proofs.YtkfgplfllddhnaaGreat
open Go.RowKit
def fourC:List (List Int):= [[1,2],[-1,2],[1,-2],[-1,-2]]
def exA:EStep:=⟨false,5,[2],[1,2]⟩
def exB:EStep:=⟨false,6,[],[5,3,4]⟩
theorem four_ok:(∀c∈fourC,clauseB c=true)∧fchk 2 fourC=(-1,0):=by decide
theorem ex_full:(runRep (runGo (ckrNew fourC) [exA,exB] 0),(runGo (ckrNew fourC) [exA,exB] 0).2.1,runE (runGo (ckrNew fourC) [exA,exB] 0))=(.agg #[.bool true,.int .i64 2,.int .i64 0,.int .i64 0,.int .i64 6],2,0):=by kernel_rfl
theorem ex_want:ratWant (ckrNew fourC).ents 2= [3,4]:=by
 have h1:(ckrNew fourC).ents= [(1,[1,2]),(2,[-1,2]),(3,[1,-2]),(4,[-1,-2])]:=by kernel_rfl
 have h2:alwL [1,-2]=false:=alwL_no (by decide)
 have h3:alwL [-1,-2]=false:=alwL_no (by decide)
 rw[h1]
 have e1:candB 2 [1,2]=false:=by kernel_rfl
 have e2:candB 2 [-1,2]=false:=by kernel_rfl
 have e3:candB 2 [1,-2]=true:=by
  unfold candB
  rw[h2]
  kernel_rfl
 have e4:candB 2 [-1,-2]=true:=by
  unfold candB
  rw[h3]
  kernel_rfl
 simp[ratWant,e1,e2,e3,e4]
theorem ex_less:runGo (ckrNew fourC) [⟨false,5,[2],[1]⟩,exB] 0=(ckrNew fourC,0,92):=by
 have h1:ratGrp (ckrNew fourC).ents 2 []=(3,92):=by
  unfold ratGrp
  rw[ex_want]
  rfl
 have h2:ratP (ckrNew fourC).ents [2] [1] []=(0,3,92):=by
  have g1:alwL [2]=false:=by kernel_rfl
  have g2:(ratFol (ckrNew fourC).ents (asmL [2]) [1]).2=(false,0,0):=by kernel_rfl
  unfold ratP
  rw[if_neg (by rw[g1];decide),if_neg (by rw[g2];decide),if_neg (by rw[g2];decide)]
  show(if(ratGrp (ckrNew fourC).ents 2 []).2≠0 then _ else _)=_
  rw[h1]
  rfl
 have h3:ckAdd (ckrNew fourC).ents [2] [1]=(0,3,92):=by
  have g1:ckFol (ckrNew fourC).ents [2] [1]=(false,0,0):=by kernel_rfl
  unfold ckAdd
  rw[show splitL [1]=([1],[])from by kernel_rfl,g1,if_neg (by decide),if_neg (by decide)]
  exact h2
 have h4:(ckrNew fourC).do_ ⟨false,5,[2],[1]⟩=(ckrNew fourC,0,3,92):=by
  unfold Ckr.do_
  rw[if_neg (by decide),if_neg (by decide),if_neg (by decide),if_neg (by decide)]
  simp only[h3]
  rfl
 unfold runGo
 rw[if_neg (by decide),h4]
 rfl
theorem ex_early:runGo (ckrNew fourC) [⟨false,4,[2],[1,2]⟩,exB] 0=(ckrNew fourC,0,100):=by kernel_rfl
theorem ex_gone:(runRep (runGo (ckrNew fourC) [exA,⟨true,5,[],[3]⟩,exB] 0),(runGo (ckrNew fourC) [exA,⟨true,5,[],[3]⟩,exB] 0).2.1,runE (runGo (ckrNew fourC) [exA,⟨true,5,[],[3]⟩,exB] 0))=(.agg #[.bool false,.int .i64 0,.int .i64 0,.int .i64 0,.int .i64 0],2,91):=by kernel_rfl
theorem ex_zero:(runRep (runGo (ckrNew [[]]) [] 0),(runGo (ckrNew [[]]) [] 0).2.1,runE (runGo (ckrNew [[]]) [] 0))=(.agg #[.bool true,.int .i64 0,.int .i64 0,.int .i64 0,.int .i64 1],0,0):=by kernel_rfl
def exM:List EStep:= [⟨false,5,[1,2],[1]⟩,⟨false,6,[2],[1,2]⟩,⟨false,7,[],[6,3,4]⟩]
theorem ex_chk:chkP [1,2] [[1,2]]=([],1,0):=by
 have x1:sortL [1,2]= [1,2]:=List.mergeSort_of_pairwise (by decide)
 have x2:sortL [-1,-2]= [-1,-2]:=List.mergeSort_of_pairwise (by decide)
 have x3:asmL [1,2]= [-1,-2]:=by
  unfold asmL normL
  rw[x1]
  exact x2
 have x4:alwL [1,2]=false:=alwL_no (by decide)
 have x5:asgF [-1,-2]=some (putF (putF (fun _=>0) (-1)) (-2)):=by rfl
 unfold chkP
 rw[x4,x3,x5]
 rfl
def exK:Ckr:=⟨[(1,[1,2]),(2,[-1,2]),(3,[1,-2]),(4,[-1,-2]),(5,[1,2])],5,false,1,0,0,5⟩
theorem ex_do:(ckrNew fourC).do_ ⟨false,5,[1,2],[1]⟩=(exK,1,0,0):=by
 have g0:ckNamed (ckrNew fourC).ents [1]= [[1,2]]:=by kernel_rfl
 have g1:ckFol (ckrNew fourC).ents [1,2] [1]=(true,0,0):=by
  unfold ckFol
  rw[g0,ex_chk]
  rfl
 have g2:ckAdd (ckrNew fourC).ents [1,2] [1]=(1,0,0):=by
  unfold ckAdd
  rw[show splitL [1]=([1],[])from by kernel_rfl,g1]
  rfl
 unfold Ckr.do_
 rw[if_neg (by decide),if_neg (by decide),if_neg (by decide),if_neg (by decide)]
 simp only[g2]
 rfl
theorem ex_trm2:trmGo exK [⟨false,6,[2],[1,2]⟩,⟨false,7,[],[6,3,4]⟩] 1 [⟨false,5,[1,2],[1]⟩]=([⟨false,5,[1,2],[1]⟩,⟨false,6,[2],[1,2]⟩,⟨false,7,[],[6,3,4]⟩],3,true):=by kernel_rfl
theorem ex_run2:runE (runGo exK [⟨false,6,[2],[1,2]⟩,⟨false,7,[],[6,3,4]⟩] 1)=0:=by kernel_rfl
theorem ex_trm:trmGo (ckrNew fourC) exM 0 []=(exM,3,true):=by
 have g0:ckNamed (ckrNew fourC).ents [1]= [[1,2]]:=by kernel_rfl
 have g1:trimS (ckrNew fourC) ⟨false,5,[1,2],[1]⟩=⟨false,5,[1,2],[1]⟩:=by
  unfold trimS trimP
  simp only[show splitL [1]=([1],[])from by kernel_rfl,g0,ex_chk]
  rfl
 unfold exM trmGo
 rw[if_neg (by decide),ex_do,if_neg (by decide)]
 simp only[if_true,g1]
 show trmGo exK [⟨false,6,[2],[1,2]⟩,⟨false,7,[],[6,3,4]⟩] 1 [⟨false,5,[1,2],[1]⟩]=_
 exact ex_trm2
theorem ex_run:runE (runGo (ckrNew fourC) exM 0)=0:=by
 unfold exM runGo
 rw[if_neg (by decide),ex_do]
 exact ex_run2
theorem ex_bk:bkL exM= [⟨false,6,[2],[1,2]⟩,⟨false,7,[],[6,3,4]⟩]:=by kernel_rfl
end Go.Proofs.YtkfgplfllddhnaaGreat
namespace Go.Proofs.YtkfgplfllddhnaaGreat
open Go.RowKit
theorem al_new (W:World) (cs:Array Value) (t:TypeId): ∃W',W.alloc (.cells cs t)=W'∧Below W.heap.size W W'∧W'.heap[W.heap.size]? =some (.cells cs t (0,0))∧W'.heap.size=W.heap.size+1:=
 ⟨_,rfl,mx_al _ _,World.alloc_heap_new _ _,by simp⟩
theorem blk_cell {w:World} {g j:Nat} {us:List Value} {t:TypeId} {z:Nat×Nat} {u:Value} (h:w.heap[g]? =some (.cells us.toArray t z)) (hu:us[j]? =some u):w.cell? ⟨g,j,none⟩=some u:=by
 simp[World.cell?,h,hu]
theorem ints_blk {O:Nat→Prop} {w:World} {g:Nat} {xs:List Int} {t:TypeId} {z:Nat×Nat} (h:w.heap[g]? =some (.cells (xs.map (Value.int .i64)).toArray t z)) (hO:O g):IntsIn O w (.slice (some ⟨g,0,none⟩) xs.length xs.length) xs:=
 ⟨_,_,rfl,Nat.le_refl _,(fun h=>by cases h),fun i x hi=>⟨g,0,rfl,heap_lt h,hO,by
  rw[Nat.zero_add]
  exact blk_cell h (by rw[List.getElem?_map,hi];rfl)⟩⟩
theorem cls_blk {O:Nat→Prop} {w:World} {g:Nat} {us:List Value} {cs:List (List Int)} {t:TypeId} {z:Nat×Nat} (h:w.heap[g]? =some (.cells us.toArray t z)) (hO:O g) (hx: ∀(i:Nat) (c:List Int),cs[i]? =some c→∃u,us[i]? =some u∧IntsIn O w u c):ClsIn O w (.slice (some ⟨g,0,none⟩) cs.length cs.length) cs:=
 ⟨_,_,rfl,Nat.le_refl _,(fun h=>by cases h),fun i c hi=>by
  obtain⟨u,h1,h2⟩:=hx i c hi
  exact⟨g,0,u,rfl,heap_lt h,hO,by rw[Nat.zero_add];exact blk_cell h h1,h2⟩⟩
def rcell (x:EStep×Value×Value):List Value:= [.bool x.1.del,.int .i64 x.1.id,x.2.1,x.2.2]
theorem rcell_at: ∀(K:List (EStep×Value×Value)) (i:Nat) (x:EStep×Value×Value),K[i]? =some x→(K.flatMap rcell)[i*4]? =some (.bool x.1.del)∧(K.flatMap rcell)[i*4+1]? =some (.int .i64 x.1.id)∧(K.flatMap rcell)[i*4+2]? =some x.2.1∧(K.flatMap rcell)[i*4+3]? =some x.2.2
 | [],i,x,h=>by simp at h
 | y::K,0,x,h=>by
  obtain rfl:y=x:=by simpa using h
  exact⟨rfl,rfl,rfl,rfl⟩
 | y::K,i+1,x,h=>by
  have:=rcell_at K i x (by simpa using h)
  rw[show(i+1)*4=i*4+4 by omega]
  exact this
theorem step_blk {O:Nat→Prop} {w:World} {g:Nat} {K:List (EStep×Value×Value)} {t:TypeId} {z:Nat×Nat} (h:w.heap[g]? =some (.cells (K.flatMap rcell).toArray t z)) (hO:O g) (hx: ∀x∈K,IntsIn O w x.2.1 x.1.lits∧IntsIn O w x.2.2 x.1.hints):StepIn O w (.slice (some ⟨g,0,none⟩) K.length K.length) (K.map Prod.fst):=
 ⟨_,_,by rw[List.length_map],by rw[List.length_map];exact Nat.le_refl _,(fun h=>by cases h),fun i s hi=>by
  rw[List.getElem?_map]at hi
  cases hk:K[i]? with
  | none=>rw[hk]at hi;cases hi
  | some x=>
   rw[hk]at hi
   obtain rfl:=Option.some.inj hi
   obtain⟨e0,e1,e2,e3⟩:=rcell_at K i x hk
   obtain⟨h1,h2⟩:=hx x (List.mem_of_getElem? hk)
   exact⟨g,0,x.2.1,x.2.2,rfl,heap_lt h,hO,by rw[Nat.zero_add];exact blk_cell h e0,by rw[Nat.zero_add];exact blk_cell h e1,by rw[Nat.zero_add];exact blk_cell h e2,by rw[Nat.zero_add];exact blk_cell h e3,h1,h2⟩⟩
theorem res_cell01 {fn:Func} (h:fn.results= #[.cell 0 26,.tmp 1]) {w:World} {r:Nat} {c0 c1:Value} {t:TypeId} (hb:w.heap[r]? =some (.cells #[c0,c1] t (0,0))) (tmps:Array Value) (t0:tmps[0]?.getD undef= .pointer (some ⟨r,0,none⟩)):
  (results fn tmps).run Tryz.prog w= .ok (.tuple #[.agg #[c0,c1],tmps[1]?.getD undef]) w:=by
 have p0:w.cell? ⟨r,0,none⟩=some c0:=mx_cell (j:=0) hb
 have p1:w.cell? ⟨r,1,none⟩=some c1:=mx_cell (j:=1) hb
 simp[results,h,go_sem,t0,p0,p1]
set_option maxRecDepth 100000 in
set_option maxHeartbeats 4000000 in
theorem four_any (w:World):Calls Tryz.prog 36 #[] w fun e w'=> ∃gl gs,e= .returned (.tuple #[.agg #[.int .i64 2,.slice (some ⟨gl,0,none⟩) 4 4],.slice (some ⟨gs,0,none⟩) 2 2])∧ClsIn (fun _=>True) w' (.slice (some ⟨gl,0,none⟩) 4 4) fourC∧StepIn (fun _=>True) w' (.slice (some ⟨gs,0,none⟩) 2 2) [exA,exB]∧Below w.heap.size w w':=by
 obtain⟨W1,hW1,hb1,hc1,hz1⟩:=al_new w #[.int .i64 2,.slice (some ⟨w.heap.size+1+1+1+1+1,0,none⟩) 4 4] 26
 have B1:Below w.heap.size w W1:=hb1
 obtain⟨W2,hW2,hb2,hc2,hz2⟩:=al_new W1 #[.int .i64 1,.int .i64 2] 58
 rw[hz1]at hc2 hz2
 have B2:Below (w.heap.size+1) W1 W2:=by rw[←hz1];exact hb2
 obtain⟨W3,hW3,hb3,hc3,hz3⟩:=al_new W2 #[.int .i64 (-1),.int .i64 2] 58
 rw[hz2]at hc3 hz3
 have B3:Below (w.heap.size+1+1) W2 W3:=by rw[←hz2];exact hb3
 obtain⟨W4,hW4,hb4,hc4,hz4⟩:=al_new W3 #[.int .i64 1,.int .i64 (-2)] 58
 rw[hz3]at hc4 hz4
 have B4:Below (w.heap.size+1+1+1) W3 W4:=by rw[←hz3];exact hb4
 obtain⟨W5,hW5,hb5,hc5,hz5⟩:=al_new W4 #[.int .i64 (-1),.int .i64 (-2)] 58
 rw[hz4]at hc5 hz5
 have B5:Below (w.heap.size+1+1+1+1) W4 W5:=by rw[←hz4];exact hb5
 obtain⟨W6,hW6,hb6,hc6,hz6⟩:=al_new W5 #[.slice (some ⟨w.heap.size+1,0,none⟩) 2 2,.slice (some ⟨w.heap.size+1+1,0,none⟩) 2 2,.slice (some ⟨w.heap.size+1+1+1,0,none⟩) 2 2,.slice (some ⟨w.heap.size+1+1+1+1,0,none⟩) 2 2] 35
 rw[hz5]at hc6 hz6
 have B6:Below (w.heap.size+1+1+1+1+1) W5 W6:=by rw[←hz5];exact hb6
 obtain⟨W7,hW7,hb7,hc7,hz7⟩:=al_new W6 #[.int .i64 2] 58
 rw[hz6]at hc7 hz7
 have B7:Below (w.heap.size+1+1+1+1+1+1) W6 W7:=by rw[←hz6];exact hb7
 obtain⟨W8,hW8,hb8,hc8,hz8⟩:=al_new W7 #[.int .i64 1,.int .i64 2] 3
 rw[hz7]at hc8 hz8
 have B8:Below (w.heap.size+1+1+1+1+1+1+1) W7 W8:=by rw[←hz7];exact hb8
 obtain⟨W9,hW9,hb9,hc9,hz9⟩:=al_new W8 #[.int .i64 5,.int .i64 3,.int .i64 4] 3
 rw[hz8]at hc9 hz9
 have B9:Below (w.heap.size+1+1+1+1+1+1+1+1) W8 W9:=by rw[←hz8];exact hb9
 obtain⟨W10,hW10,hb10,hc10,hz10⟩:=al_new W9 #[.bool false,.int .i64 5,.slice (some ⟨w.heap.size+1+1+1+1+1+1,0,none⟩) 1 1,.slice (some ⟨w.heap.size+1+1+1+1+1+1+1,0,none⟩) 2 2,.bool false,.int .i64 6,.slice none 0 0,.slice (some ⟨w.heap.size+1+1+1+1+1+1+1+1,0,none⟩) 3 3] 39
 rw[hz9]at hc10 hz10
 have B10:Below (w.heap.size+1+1+1+1+1+1+1+1+1) W9 W10:=by rw[←hz9];exact hb10
 clear hb1 hb2 hb3 hb4 hb5 hb6 hb7 hb8 hb9 hb10
 have T9:=B10
 have T8:=B9.trans (T9.mono (by omega))
 have T7:=B8.trans (T8.mono (by omega))
 have T6:=B7.trans (T7.mono (by omega))
 have T5:=B6.trans (T6.mono (by omega))
 have T4:=B5.trans (T5.mono (by omega))
 have T3:=B4.trans (T4.mono (by omega))
 have T2:=B3.trans (T3.mono (by omega))
 have T1:=B2.trans (T2.mono (by omega))
 have T0:=B1.trans (T1.mono (by omega))
 have D1:=((T1.block _ (by omega)).trans hc1)
 have D2:=((T2.block _ (by omega)).trans hc2)
 have D3:=((T3.block _ (by omega)).trans hc3)
 have D4:=((T4.block _ (by omega)).trans hc4)
 have D5:=((T5.block _ (by omega)).trans hc5)
 have D6:=((T6.block _ (by omega)).trans hc6)
 have D7:=((T7.block _ (by omega)).trans hc7)
 have D8:=((T8.block _ (by omega)).trans hc8)
 have D9:=((T9.block _ (by omega)).trans hc9)
 have D10:=hc10
 have HCL:=Lib.hid (show ClsIn (fun _=>True) W10 (.slice (some ⟨w.heap.size+1+1+1+1+1,0,none⟩) 4 4) fourC from cls_blk (us:= [.slice (some ⟨w.heap.size+1,0,none⟩) 2 2,.slice (some ⟨w.heap.size+1+1,0,none⟩) 2 2,.slice (some ⟨w.heap.size+1+1+1,0,none⟩) 2 2,.slice (some ⟨w.heap.size+1+1+1+1,0,none⟩) 2 2]) (cs:=fourC) D6 trivial (fun i c hi=>by
  match i,hi with
  | 0,hi=>cases hi;exact⟨_,rfl,ints_blk (xs:= [1,2]) D2 trivial⟩
  | 1,hi=>cases hi;exact⟨_,rfl,ints_blk (xs:= [-1,2]) D3 trivial⟩
  | 2,hi=>cases hi;exact⟨_,rfl,ints_blk (xs:= [1,-2]) D4 trivial⟩
  | 3,hi=>cases hi;exact⟨_,rfl,ints_blk (xs:= [-1,-2]) D5 trivial⟩
  | n+4,hi=>exact absurd hi (by simp[fourC])))
 have HST:=Lib.hid (show StepIn (fun _=>True) W10 (.slice (some ⟨w.heap.size+1+1+1+1+1+1+1+1+1,0,none⟩) 2 2) [exA,exB]from step_blk (K:= [(exA,.slice (some ⟨w.heap.size+1+1+1+1+1+1,0,none⟩) 1 1,.slice (some ⟨w.heap.size+1+1+1+1+1+1+1,0,none⟩) 2 2),(exB,.slice none 0 0,.slice (some ⟨w.heap.size+1+1+1+1+1+1+1+1,0,none⟩) 3 3)]) D10 trivial (fun x hx=>by
  rcases List.mem_cons.1 hx with rfl|hx
  ·exact⟨ints_blk (xs:= [2]) D7 trivial,ints_blk (xs:= [1,2]) D8 trivial⟩
  ·obtain rfl:=List.mem_singleton.1 hx
   exact⟨IntsIn.nil _ _,ints_blk (xs:= [5,3,4]) D9 trivial⟩))
 have HD1:=Lib.hid D1
 have HB:=Lib.hid T0
 have HW1:=Lib.hid hW1
 have HW2:=Lib.hid hW2
 have HW3:=Lib.hid hW3
 have HW4:=Lib.hid hW4
 have HW5:=Lib.hid hW5
 have HW6:=Lib.hid hW6
 have HW7:=Lib.hid hW7
 have HW8:=Lib.hid hW8
 have HW9:=Lib.hid hW9
 have HW10:=Lib.hid hW10
 clear hW1 hc1 hz1 B1 hW2 hc2 hz2 B2 hW3 hc3 hz3 B3 hW4 hc4 hz4 B4 hW5 hc5 hz5 B5 hW6 hc6 hz6 B6 hW7 hc7 hz7 B7 hW8 hc8 hz8 B8 hW9 hc9 hz9 B9 hW10 hc10 hz10 B10 T0 T1 T2 T3 T4 T5 T6 T7 T8 T9 D1 D2 D3 D4 D5 D6 D7 D8 D9 D10
 go_enter Tryz.func36,Tryz.ntmps36
 go_wp2_with fail
 rw[HW1.out,HW2.out,HW3.out,HW4.out,HW5.out,HW6.out,HW7.out,HW8.out,HW9.out,HW10.out]
 have e0:=mx_cell (j:=0) HD1.out
 have e1:=mx_cell (j:=1) HD1.out
 refine bodyPost_ret (res_cell01 rfl HD1.out _ rfl) rfl ?_
 exact⟨_,_,rfl,HCL.out,HST.out,HB.out⟩
end Go.Proofs.YtkfgplfllddhnaaGreat
