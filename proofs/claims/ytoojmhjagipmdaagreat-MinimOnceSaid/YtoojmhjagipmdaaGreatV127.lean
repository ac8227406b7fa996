/- package salvorlaw14: Decide. What is used of Put (salvorlaw14), in every chapter that calls it. -/
import Derived.Test.YtoojmhjagipmdaaGreatV126
import Derived.Test.YtoojmhjagipmdaaGreatV114
import Derived.Test.YtoojmhjagipmdaaGreatV115
import Derived.Lib.SliceRun
namespace Go.Proofs.YtoojmhjagipmdaaGreat
open Go.RowKit
section
variable {w0 w w':World} {lab:Nat→Nat} {sb b ab tb:Nat} {A A':Arn} {T T':Trl} {its:List RIt} {S S':Wst} {cs:List (List Int)} {av:Value} {us:List Value}
theorem sr_dec (hr:Sr cs T its S 0) (h6:Six cs) {l:Int} (hl:litB l=true∧litV l<7): ∃its',Sr cs (propW (addAll arn0 0 cs) (decT T l) S).1 its' (propW (addAll arn0 0 cs) (decT T l) S).2.1 ((propW (addAll arn0 0 cs) (decT T l) S).2.2.getD 0)∧(propW (addAll arn0 0 cs) (decT T l) S).1.now=T.now+1∧its <+: its'∧(Has its' l∨Has its (-l))∧∀id,(propW (addAll arn0 0 cs) (decT T l) S).2.2=some id→1≤id:=by
 have hrun:=hr.ok rfl
 obtain⟨its',hd⟩:=dec_step hrun h6 hl
 have hid: ∀id,(propW (addAll arn0 0 cs) (decT T l) S).2.2=some id→1≤id:=fun id h=>by
  obtain⟨c,hc,_⟩:=hd.bad id h
  exact(h6.fit id c hc).1.1
 have hp:=hr.st.push hrun.lk
 have hz:DZ (decT T l):=by
  unfold decT decA
  split
  ·rename_i hz
   have herr:=free_err (T:=T.push) hr.st.vars hl.1 hl.2 hz (r:=0) ⟨by omega,by omega⟩
   refine⟨_,hp.sim.snoc herr,hr.dcs.snoc fun _=>?_⟩
   have hn:=push_now (T:=T)
   have h0:=hr.st.sim.now
   show 1≤T.push.now∧∀y∈its,y.level<T.push.now
   exact⟨by omega,fun y hy=>by have:=(hr.st.sim.pos y hy).2;omega⟩
  ·exact⟨its,hp.sim,hr.dcs⟩
 have hsd: ∃i2,Sim (decT T l) i2:=hz.imp fun _ h=>h.1
 have hz2:=DZ.propGo (A:=addAll arn0 0 cs) ((decT T l).vars.length+1) (S:=S) hrun.st.inv.bnd hrun.st.inv.link hsd hz
 refine⟨its',⟨hd.st,hz2.dcs hd.st.sim,fun h=>hd.ok ?_,fun h=>?_,fun _=>.inr ⟨hd.kn,hd.one⟩⟩,hd.now,hd.pre,hd.has,hid⟩
 ·cases hq:(propW (addAll arn0 0 cs) (decT T l) S).2.2 with
  | none=>rfl
  | some x=>
   rw[hq]at h
   have:=hid x hq
   have h:x=0:=h
   omega
 ·cases hq:(propW (addAll arn0 0 cs) (decT T l) S).2.2 with
  | none=>rw[hq]at h;exact absurd rfl h
  | some x=>exact hd.bad x hq
set_option maxRecDepth 100000 in
set_option maxHeartbeats 4000000 in
theorem law_decide14 (l:Int) (h:SrAt w0 w lab sb b ab tb (addAll arn0 0 cs) T S cs av us) (hr:Sr cs T its S 0) (h6:Six cs) (hl:litB l=true∧litV l<7) (hn:T.now≤1000):
  Calls Tryz.prog 13 #[.pointer (some ⟨sb,0,none⟩),.int .i64 l] w fun e w'=> ∃lab' T' its' S' id,e= .returned (.tuple #[.int .i64 id,.bool true])∧SrAt w0 w' lab' sb b ab tb (addAll arn0 0 cs) T' S' cs av us∧Sr cs T' its' S' id∧T'.now=T.now+1∧its <+: its'∧(Has its' l∨Has its (-l)):=by
 obtain⟨its',hd,hnow,hpre,hhas,hid⟩:=sr_dec hr h6 hl
 have hv:=hr.st.vars
 have hL:=hr.st.inv.link
 have HPU:=Lib.hid (lw_push h.lw (by have:=now_eq (T:=T);omega))
 have hs1:=hr.st.sim.pushT
 obtain⟨A,hA⟩: ∃A,addAll arn0 0 cs=A:=⟨_,rfl⟩
 rw[hA]at h hd hid hnow HPU⊢
 obtain⟨R,hR⟩: ∃R,propW A (decT T l) S=R:=⟨_,rfl⟩
 rw[hR]at hid hd hnow
 obtain⟨R1,R2,r,rfl⟩: ∃R1 R2 r,R=(R1,R2,r):=⟨R.1,R.2.1,R.2.2,rfl⟩
 have hfr:(r.isSome==(r.getD 0 != 0))=true:=by
  cases r with
  | none=>rfl
  | some x=>
   have:=hid x rfl
   have e:(x != 0)=true:=by simp;omega
   show(true==(x != 0))=true
   rw[e]
   rfl
 have HR:=Lib.hid hR
 have HS1:=Lib.hid hs1
 obtain⟨rs,hrs⟩: ∃rs,r.isSome=rs:=⟨_,rfl⟩
 obtain⟨rg,hrg⟩: ∃rg,r.getD 0=rg:=⟨_,rfl⟩
 rw[hrs,hrg]at hfr
 have HD:=Lib.hid (show Sr cs R1 its' R2 rg from by rw[←hrg];exact hd)
 have HNP:=Lib.hid (show R1.now=T.now+1∧its <+: its'∧(Has its' l∨Has its (-l))from⟨hnow,hpre,hhas⟩)
 have HRS:=Lib.hid hrs
 have HRG:=Lib.hid hrg
 have HH:=Lib.hid h
 obtain⟨-,d1,-,-⟩:=h.cells
 obtain⟨z,hz⟩: ∃z,T.push.val l=z:=⟨_,rfl⟩
 have HZ:=Lib.hid hz
 clear hrs hrg h hs1 hid hz hR hd hnow hpre hhas hA
 go_enter Tryz.func13,Tryz.ntmps13
 go_wp2_with fail
 refine HPU.out.mono ?_
 rintro e w1 ⟨rfl,hn1⟩
 obtain⟨lab1,h1⟩:=HH.out.next hn1
 have H1:=Lib.hid h1
 obtain⟨-,d2,-,-⟩:=h1.cells
 have hva:=tr_value tb T.push l w1 h1.lw.sys.tr
 rw[HZ.out]at hva
 have HVA:=Lib.hid hva
 clear h1 hn1 hva HPU d1
 go_wp2_with fail
 refine HVA.out.mono ?_
 rintro e w2 ⟨rfl,hb2⟩
 have H2:=Lib.hid (H1.out.below hb2)
 obtain⟨-,d3,d4,-⟩:=H2.out.cells
 clear hb2 HVA H1 d2
 cases hzz:(z==0)with
 | true=>
  have hz0:T.push.val l=0:=by rw[HZ.out];simpa using hzz
  have herr:=free_err (T:=T.push) hv hl.1 hl.2 hz0 (r:=0) ⟨by omega,by omega⟩
  have has:=lw_assign H2.out.lw l 0 (by have:=HS1.out.few hv;omega)
  rw[herr]at has
  have hdd:decT T l=T.push.assigned l 0:=by unfold decT decA;rw[if_pos hz0]
  have HSD:=Lib.hid (HS1.out.snoc herr)
  have HDD:=Lib.hid hdd
  have HAS:=Lib.hid has
  clear has hdd herr hz0 d4
  go_wp2_with fail
  refine HAS.out.mono ?_
  rintro e w3 ⟨rfl,hn3⟩
  obtain⟨lab3,h3⟩:=H2.out.next hn3
  obtain⟨-,-,d5,-⟩:=h3.cells
  have hpr:=lw_prop h3.lw hL ⟨_,HSD.out⟩ (by rw[assigned_vars];show T.vars.length≤_;omega)
  rw[←HDD.out,HR.out]at hpr
  simp only at hpr
  rw[HRS.out,HRG.out]at hpr
  have HPR:=Lib.hid hpr
  have H3:=Lib.hid h3
  clear h3 hn3 hpr HAS d3
  go_wp2_with fail
  refine HPR.out.mono ?_
  rintro e w4 ⟨rfl,hn4⟩
  obtain⟨lab4,h4⟩:=H3.out.next hn4
  have H4:=Lib.hid h4
  clear h4 hn4 HPR H3 d5
  go_wp2_with fail
  go_ret2
  exact⟨lab4,R1,its',R2,rg,rfl,H4.out,HD.out,HNP.out⟩
 | false=>
  have hz0:T.push.val l≠0:=by rw[HZ.out];simpa using hzz
  have hdd:decT T l=T.push:=by unfold decT decA;rw[if_neg hz0]
  have hpr:=lw_prop H2.out.lw hL ⟨_,HS1.out⟩ (by show T.vars.length≤_;omega)
  rw[←hdd,HR.out]at hpr
  simp only at hpr
  rw[HRS.out,HRG.out]at hpr
  have HPR:=Lib.hid hpr
  clear hpr hdd hz0 d3
  go_wp2_with fail
  refine HPR.out.mono ?_
  rintro e w4 ⟨rfl,hn4⟩
  obtain⟨lab4,h4⟩:=H2.out.next hn4
  have H4:=Lib.hid h4
  clear h4 hn4 HPR d4
  go_wp2_with fail
  go_ret2
  exact⟨lab4,R1,its',R2,rg,rfl,H4.out,HD.out,HNP.out⟩
end
end Go.Proofs.YtoojmhjagipmdaaGreat
namespace Go.Proofs.YtoojmhjagipmdaaGreat
open Go.RowKit
def ActP.cells (a:ActP):List Value:= [.bool a.push,.int .i64 a.l,.int .i64 a.by_]
theorem actCells_at (l:List ActP) (i j:Nat) (x:ActP) (h:l[i]? =some x) (hj:j<3):(l.flatMap ActP.cells)[i*3+j]? =x.cells[j]? :=by
 induction l generalizing i with
 | nil=>simp at h
 | cons y l ih=>
  rw[List.flatMap_cons]
  cases i with
  | zero=>
   obtain rfl:y=x:=by simpa using h
   rw[Nat.zero_mul,Nat.zero_add,List.getElem?_append_left (by simpa [ActP.cells] using hj)]
  | succ i=>
   rw[List.getElem?_append_right (by simp[ActP.cells];omega)]
   have e:(i+1)*3+j-y.cells.length=i*3+j:=by simp[ActP.cells];omega
   rw[e]
   exact ih i (by simpa using h)
theorem acts_of_block {w:World} {g n c:Nat} {cs:Array Value} {t:TypeId} {l:List ActP} (h:w.heap[g]? =some (.cells cs t (0,0))) (hl:l.length=n) (ht:cs.toList.take (n*3)=l.flatMap ActP.cells):ActsIn w (.slice (some ⟨g,0,none⟩) n c) l:=by
 subst hl
 refine⟨_,c,rfl,fun i a hi=>⟨g,0,rfl,heap_lt h,?_⟩⟩
 have hlt:i<l.length:=(List.getElem?_eq_some_iff.1 hi).1
 have hc: ∀j,j<3→w.cell? ⟨g,i*3+j,none⟩=a.cells[j]? :=fun j hj=>by
  rw[mx_cell h,←actCells_at l i j a hi hj,←ht,List.getElem?_take_of_lt (by omega),Array.getElem?_toList]
 have h0:=hc 0 (by omega)
 have h1:=hc 1 (by omega)
 have h2:=hc 2 (by omega)
 exact⟨by rw[Nat.zero_add];exact h0,by rw[Nat.zero_add];exact h1,by rw[Nat.zero_add];exact h2⟩
theorem LrnAt.parts {n:Nat} {w:World} {v:Value} {r:Lrn} (h:LrnAt n w v r): ∃Ax cx Ay cy Az cz,v= .agg #[.slice Ax r.lits.length cx,.int .i64 r.back,.int .i64 r.levels,.slice Ay r.hints.length cy,.slice Az r.met.length cz]∧
  (∀w',Below w.heap.size w w'→IntsIn (fun g=>n≤g) w' (.slice Ax r.lits.length cx) r.lits)∧(∀w',Below w.heap.size w w'→IntsIn (fun g=>n≤g) w' (.slice Ay r.hints.length cy) r.hints)∧(∀w',Below w.heap.size w w'→IntsIn (fun g=>n≤g) w' (.slice Az r.met.length cz) r.met):=by
 obtain⟨x,y,z,rfl,hx,hy,hz⟩:=h
 obtain⟨Ax,cx,rfl,_⟩:=mx_slice hx
 obtain⟨Ay,cy,rfl,_⟩:=mx_slice hy
 obtain⟨Az,cz,rfl,_⟩:=mx_slice hz
 exact⟨Ax,cx,Ay,cy,Az,cz,rfl,fun w' hb=>((IntsIn.of_own hx).below hb).mono (fun g hg=>hg.1),fun w' hb=>((IntsIn.of_own hy).below hb).mono (fun g hg=>hg.1),fun w' hb=>((IntsIn.of_own hz).below hb).mono (fun g hg=>hg.1)⟩
theorem eqi_lit {O:Nat→Prop} (W:World) (u:Value) (xs ys:List Int) (h: ∀w',Below W.heap.size W w'→IntsIn O w' u xs) (hs:xs.length≤1000):
  Calls Tryz.prog 46 #[u,.slice (some ⟨W.heap.size,0,none⟩) ys.length ys.length] (W.alloc (.cells (ys.map (Value.int .i64)).toArray 3)) fun e w'=>e= .returned (.bool (xs==ys))∧Below W.heap.size W w':=by
 have hb:=mx_al W (.cells (ys.map (Value.int .i64)).toArray 3)
 refine(eq_i u _ xs ys _ (h _ hb) (mx_ints W ys _) (by omega)).mono ?_
 rintro e w' ⟨rfl,n,rfl⟩
 exact⟨rfl,hb.trans ((mx_drewN _ n).mono hb.size)⟩
end Go.Proofs.YtoojmhjagipmdaaGreat
