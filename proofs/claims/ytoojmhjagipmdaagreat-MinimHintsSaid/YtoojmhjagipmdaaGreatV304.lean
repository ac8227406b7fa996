/- The arena: Add. The trail: Assign. -/
import Derived.Test.YtoojmhjagipmdaaGreatV300
import Derived.Test.YtoojmhjagipmdaaGreatV303
import Derived.Deep.DeepCutAuto
import Derived.Deep.CutBlock
import Derived.Test.YtoojmhjagipmdaaGreatV302
namespace Go.Proofs.YtoojmhjagipmdaaGreat
open Go.RowKit
section
variable {P:Program}
theorem append_types {t t' e e':TypeId} (h:P.underlying t=some (.slice e)) (h':P.underlying t'=some (.slice e')) (ty:TypeId) (s x:Value) (w:World):
  (Builtin.append_ #[t,t'] ty #[s,x]).run P w=(Builtin.append_ #[t,t] ty #[s,x]).run P w:=by
 have hu: ∀(w:World),(underlying t).run P w= .ok (.slice e) w:=fun w=>by simp[underlying,h,go_sem]
 have hu': ∀(w:World),(underlying t').run P w= .ok (.slice e') w:=fun w=>by simp[underlying,h',go_sem]
 unfold Builtin.append_
 simp only[List.getElem?_toArray,List.getElem?_cons_zero,List.getElem?_cons_succ,Sem.run_bind,hu,Result.andThen_ok]
 cases s
 case slice=>simp only[Sem.run_bind,hu,hu',Result.andThen_ok,Sem.run_pure]
 all_goals rfl
theorem wpList_append_two {w:World} {ops:Array Oper} {rest:List Oper} {o:Oper} {a:Act} {Q:Exit→Act→World→Prop} (hg:o.guard=none) (s x:Operand) (t t':TypeId) (ho:o.op= .call { callee:=.builtin .append,args:= #[s,x],argTypes:= #[t,t'] })
  (base:Nat) (e e':TypeId) (i:TypeInfo) (z:Value) (size bytes:Nat) (ht:P.underlying t=some (.slice e)) (ht':P.underlying t'=some (.slice e')) (hi:P.info? e=some i) (hz:i.zero=some z) (hsize:i.size=size) (hby:i.bytes=bytes) (hzs:z.cells.size=size) (hsz:0<size)
  (v:Value) (n:Nat) (xs:List Value) (hs:a.eval s=v) (hown:w.ownsRow base e size v n xs)
  (y:Value) (m:Nat) (news:List Value) (hx:a.eval x=y) (hy:SrcAt w y m news) (hl:news.length=m*size) (h1: ∀u∈news,u.oneCell'=true)
  (h63:n+m≤maxLen) (hbytes:(n+m)*bytes≤140737488355328) (hbase:base≤w.heap.size)
  (h: ∀v' w',w'.ownsRow base e size v' (n+m) (xs++news)→w.grownBy w' v.ownBlock→(v'.ownBlock=v.ownBlock∨v'.ownBlock=some w.heap.size)→wpList P ops Q rest (a.put o.dst v') w'):wpList P ops Q (o::rest) a w:=by
 refine wpList_plain hg fun K hK=>?_
 obtain⟨v',w',hr,h2,h3,h5⟩:=run_append_any (P:=P) w base t o.type e i z size bytes ht hi hz hsize hby hzs hsz v n xs hown y m news hy hl h1 h63 hbytes hbase
 rw[←append_types ht ht']at hr
 unfold Oper.wp execOp
 simp only[ho,resolve,invoke,builtin,Sem.run_bind,Sem.run_pure,Result.andThen_ok,List.map_toArray,List.map_cons,List.map_nil,hs,hx,hr]
 exact hK _ _ (h v' w' h2 h3 h5)
end
end Go.Proofs.YtoojmhjagipmdaaGreat
namespace Go.Proofs.YtoojmhjagipmdaaGreat
open Go.RowKit
theorem ainfo_lit:(Tryz.prog.info? 32).map (fun i=>(i.zero,i.size,i.bytes))=some (some (.int .i64 0),1,8):=by kernel_rfl
theorem ainfo_ent:(Tryz.prog.info? 196).map (fun i=>(i.zero,i.size,i.bytes))=some (some (.agg #[.int .i64 0,.int .i64 0,.int .i64 0,.bool false]),4,32):=by kernel_rfl
def Arn.add (A:Arn) (id:Int) (c:List Int):Arn:=⟨A.store++c,A.all++ [⟨A.store.length,A.store.length+c.length,id,false⟩],A.used+c.length,A.count+1,id⟩
def ArNext (O:Nat→Prop) (w w':World) (b:Nat) (A':Arn):Prop:=ArAt (fun g=>O g∨w.heap.size≤g∧g<w'.heap.size) w' b A'∧Kept O w w'
theorem ar_added {O:Nat→Prop} {b:Nat} {A:Arn} {id:Int} {c:List Int} {w wf wI:World} {SL:Nat} {Ast Aal Ax Ay:Option Addr} {cst cal kx ky:Nat} (hid:A.last<id) (hid2:id≤1073741824) (hus:A.used+c.length≤1048576) (hal:A.all.length<1073741824) (hct:A.count<1073741824) (hSL:A.store.length+c.length=SL)
  (hk:A.Ok) (hm:ArMem O w b A (.slice Ast A.store.length cst) (.slice Aal A.all.length cal)) (hbw:b<w.heap.size) (hbwf:b<wf.heap.size)
  (hblk:wI.heap[b]? =some (.cells #[.slice Ax SL kx,.slice Ay (A.all.length+1) ky,.int .i64 ((A.used:Int)+(c.length:Int)),.int .i64 ((A.count:Int)+1),.int .i64 id,.bool true] 192 (0,0)))
  (hkw:Kept (fun g=>g=b∨(Value.slice Ast A.store.length cst).ownBlock=some g∨(Value.slice Aal A.all.length cal).ownBlock=some g) w wI) (hkf:Kept (fun g=>g=b) wf wI)
  (hx:wf.ownsRow 0 32 1 (.slice Ax SL kx) SL (A.store.map (Value.int .i64)++c.map (Value.int .i64)))
  (hy:wf.ownsRow 0 196 4 (.slice Ay (A.all.length+1) ky) (A.all.length+1) (A.all.flatMap Ent.cells++ [.int .i64 (A.store.length:Nat),.int .i64 (SL:Nat),.int .i64 id,.bool false]))
  (hnx:(Value.slice Ax SL kx).ownBlock≠some b) (hny:(Value.slice Ay (A.all.length+1) ky).ownBlock≠some b)
  (hax: ∀g,(Value.slice Ax SL kx).ownBlock=some g→O g∨w.heap.size≤g∧g<wf.heap.size) (hay: ∀g,(Value.slice Ay (A.all.length+1) ky).ownBlock=some g→O g∨w.heap.size≤g∧g<wf.heap.size) (hsl:SL≤4194304):
  ArNext O w wI b (A.add id c):=by
 have hz:=hkf.size
 have hzw:=hkw.size
 have hnum:=hk.nums
 have hlens:=hk.lens
 have hall: ∀e∈A.all++ [(⟨A.store.length,A.store.length+c.length,id,false⟩:Ent)],1≤e.id∧e.id≤1073741824∧e.fr≤e.upto∧e.upto≤(A.store++c).length:=fun e he=>by
  rw[List.length_append]
  rcases List.mem_append.1 he with h1|h1
  ·
   have:=hk.each e h1
   omega
  ·
   rw[List.mem_singleton.1 h1]
   simp only[]
   omega
 refine⟨⟨⟨?_,hall,⟨?_,?_⟩,⟨hus,?_,?_,hid2⟩,?_⟩,.slice Ax SL kx,.slice Ay (A.all.length+1) ky,⟨?_,.inl hm.inb,?_,?_,?_,?_,?_⟩⟩,hkw.mono (fun g hg e=>?_)⟩
 ·
  show(A.all++ [_]).Pairwise _
  rw[List.pairwise_append]
  refine⟨hk.sorted,List.pairwise_singleton _ _,fun x hx y hy=>?_⟩
  rw[List.mem_singleton.1 hy]
  have:=hk.last x hx
  show x.id<id
  omega
 ·
  show(A.all++ [_]).length≤_
  rw[List.length_append,List.length_singleton]
  omega
 ·
  show(A.store++c).length≤_
  rw[List.length_append]
  omega
 ·
  show A.count+1≤_
  omega
 ·
  show 0≤id
  omega
 ·
  intro e he
  rcases List.mem_append.1 (show e∈A.all++ [_]from he)with h1|h1
  ·
   have:=hk.last e h1
   show e.id≤id
   omega
  ·
   rw[List.mem_singleton.1 h1]
   exact Int.le_refl _
 ·
  intro g hg
  rcases hg with hg|hg
  ·
   exact Nat.lt_of_lt_of_le (hm.own g hg) hzw
  ·
   exact hg.2
 ·
  show wI.heap[b]? =some (.cells #[_,_,.int .i64 ((A.used+c.length:Nat):Int),.int .i64 ((A.count+1:Nat):Int),.int .i64 id,.bool true] _ _)
  rw[Int.natCast_add,Int.natCast_add]
  exact hblk
 ·
  have h1:=own_kept hx hkf (fun g hg e=>by
   subst e
   exact hnx hg)
  show wI.ownsRow 0 _ 1 _ (A.store++c).length ((A.store++c).map _)
  rw[List.length_append,hSL,List.map_append]
  exact h1
 ·
  intro g hg
  rcases hax g hg with h1|h1
  ·
   exact .inl h1
  ·
   exact .inr ⟨h1.1,by omega⟩
 ·
  have h1:=own_kept hy hkf (fun g hg e=>by
   subst e
   exact hny hg)
  show wI.ownsRow 0 _ 4 _ (A.all++ [_]).length ((A.all++ [_]).flatMap _)
  rw[List.length_append,List.flatMap_append,hSL]
  exact h1
 ·
  intro g hg
  rcases hay g hg with h1|h1
  ·
   exact .inl h1
  ·
   exact .inr ⟨h1.1,by omega⟩
 ·
  rcases e with e|e|e
  ·
   rw[e]
   exact hm.inb
  ·
   exact hm.storeb g e
  ·
   exact hm.allb g e
set_option maxRecDepth 100000 in
set_option maxHeartbeats 4000000 in
theorem ar_add {O Oc:Nat→Prop} (b:Nat) (A:Arn) (id:Int) (cv:Value) (c:List Int) (w:World) (h:ArAt O w b A) (hc:IntsIn Oc w cv c) (hr:clauseB c=true) (hcl:c.length≤4096) (hid:A.last<id) (hid2:id≤1073741824) (hus:A.used+c.length≤1048576) (hsl:A.store.length+c.length≤4194304) (hal:A.all.length<1073741824) (hct:A.count<1073741824):
  Calls Tryz.prog 92 #[.pointer (some ⟨b,0,none⟩),.int .i64 id,cv] w fun e w'=>e= .returned (.int .i64 0)∧ArNext O w w' b (A.add id c):=by
 have HIS:=Lib.hid (ar_is b A w h)
 have hrc:=right_clause cv c w hc (by omega)
 rw[hr]at hrc
 have HRC:=Lib.hid hrc
 obtain⟨hk,stv,alv,h⟩:=h
 have hnum:=hk.nums
 have HK:=Lib.hid hk
 have HM:=Lib.hid h
 have HC:=Lib.hid hc
 obtain⟨Ast,cst,rfl,_⟩:=mx_slice h.store
 obtain⟨Aal,cal,rfl,_⟩:=mx_slice h.all
 obtain⟨Ac,cc,rfl,_,_,_⟩:=hc
 have c0:w.cell? ⟨b,0,none⟩=some (.slice Ast A.store.length cst):=mx_cell (j:=0) h.block
 have c2:w.cell? ⟨b,2,none⟩=some (.int .i64 (A.used:Nat)):=mx_cell (j:=2) h.block
 have c4:w.cell? ⟨b,4,none⟩=some (.int .i64 A.last):=mx_cell (j:=4) h.block
 have fb0:=mx_free (j:=0) h.block
 have q1:decide (id<1)=false:=by simp;omega
 have q2:decide ((1073741824:Int)<id)=false:=by simp;omega
 have q3:decide (id≤A.last)=false:=by simp;omega
 have q4:decide ((1048576:Int)<(A.used:Int)+(c.length:Int))=false:=by simp;omega
 have hbw:=heap_lt h.block
 obtain⟨i0,hi0,hz0,hz1,hz2⟩:=info_parts ainfo_lit
 clear h hk hrc hr
 go_enter Tryz.func92,Tryz.ntmps92
 go_wp2_with fail
 refine HIS.out.mono ?_
 rintro e w' ⟨rfl,rfl⟩
 go_wp2_with fail
 refine HRC.out.mono ?_
 rintro e w' ⟨rfl,rfl⟩
 go_upto_region 10 with fail
 go_wp2_with (at_builtin;refine wpList_append_two rfl _ _ 33 34 rfl 0 32 32 i0 (.int .i64 0) 1 8 Tryz.underlying33 Tryz.underlying34 hi0 hz0 hz1 hz2 rfl (by decide) _ A.store.length _ rfl HM.out.store (.slice Ac c.length cc) c.length (c.map (Value.int .i64)) rfl (HC.out.src) (by simp) (by simp[Value.oneCell']) (by unfold maxLen;omega) (by omega) (Nat.zero_le _) ?_;intro v' w1 hown hgrow hat;obtain⟨Ax,kx,hv2,_⟩:=mx_slice hown;subst hv2;have HOX:=Lib.hid hown;have hkg:Kept (fun g=>(Value.slice Ast A.store.length cst).ownBlock=some g) w w1:=(Kept.grown hgrow).mono (fun i hi e=>e.symm);have hnb:(Value.slice Ast A.store.length cst).ownBlock≠some b:=mx_not HM.out.store HM.out.block (by decide);have hb2:=(hkg.block b hbw hnb).trans HM.out.block;have p0:w1.cell? ⟨b,0,none⟩=some (.slice Ast A.store.length cst):=mx_cell (j:=0) hb2;have fp0:=mx_free (j:=0) hb2;have HKG:=Lib.hid hkg;have HB2:=Lib.hid hb2;have HAT:=Lib.hid (show(Value.slice Ax (A.store.length+c.length) kx).ownBlock=(Value.slice Ast A.store.length cst).ownBlock∨(Value.slice Ax (A.store.length+c.length) kx).ownBlock=some w.heap.size from hat);clear hown hgrow hat hkg hb2 c0 c2 c4 fb0)
 obtain⟨SL,hSL⟩: ∃n,A.store.length+c.length=n:=⟨_,rfl⟩
 rw[hSL]at HOX HAT⊢
 have HSL:=Lib.hid hSL
 have hslb:SL≤4194304:=by omega
 clear hSL
 obtain⟨wa,hwa⟩: ∃x,w1.setCell ⟨b,0,none⟩ (.slice Ax SL kx)=x:=⟨_,rfl⟩
 have hka:Kept (fun g=>g=b) w1 wa:=by rw[←hwa];exact(Kept.refl (fun g=>g=b) w1).setCell ⟨b,0,none⟩ _ rfl
 have hba:wa.heap[b]? =some (.cells #[.slice Ax SL kx,.slice Aal A.all.length cal,.int .i64 (A.used:Nat),.int .i64 (A.count:Nat),.int .i64 A.last,.bool true] 192 (0,0)):=by rw[←hwa];exact mx_set HB2.out _ (j:=0)
 have hnx:(Value.slice Ax SL kx).ownBlock≠some b:=mx_not HOX.out HB2.out (by decide)
 have hox:wa.ownsRow 0 32 1 (.slice Ax SL kx) SL (A.store.map (Value.int .i64)++c.map (Value.int .i64)):=own_kept HOX.out hka (fun g hg e=>by
  subst e
  exact hnx hg)
 have hkw:Kept (fun g=>g=b∨(Value.slice Ast A.store.length cst).ownBlock=some g) w wa:=(HKG.out.mono (fun g _ h=>.inr h)).trans hka (fun i _ e=>.inl e)
 have hra:wa.ownsRow 0 196 4 (.slice Aal A.all.length cal) A.all.length (A.all.flatMap Ent.cells):=own_kept HM.out.all hkw (fun g hg e=>by
  rcases e with e|e
  ·
   subst e
   exact mx_not HM.out.all HM.out.block (by decide) hg
  ·
   exact mx_apart HM.out.all HM.out.store (by decide) hg e)
 rw[hwa]
 have hwza:=hkw.size
 have HBA:=Lib.hid hba
 have HOXA:=Lib.hid hox
 have HKW:=Lib.hid hkw
 have HRA:=Lib.hid hra
 have HNX:=Lib.hid hnx
 clear hwa hka hba hnx hox hkw hra HOX HKG HB2 p0 fp0 hnb hi0 hz0 hz1 hz2
 clear i0
 obtain⟨i0,hi0,hz0,hz1,hz2⟩:=info_parts ainfo_ent
 have c0:wa.cell? ⟨b,0,none⟩=some (.slice Ax SL kx):=mx_cell (j:=0) HBA.out
 have c1:wa.cell? ⟨b,1,none⟩=some (.slice Aal A.all.length cal):=mx_cell (j:=1) HBA.out
 refine wp_region_sink_at (S:=fun w'=>w'.cell? ⟨b,0,none⟩=some (.slice Ax SL kx)∧w'.cell? ⟨b,1,none⟩=some (.slice Aal A.all.length cal)) (by kernel_rfl) rfl (by kernel_rfl) ⟨c0,c1⟩ (fun hHeld=>?_)
 obtain⟨wD,hwD⟩: ∃x,wa.drew=x:=⟨_,rfl⟩
 have hbD:Below wa.heap.size wa wD:=by rw[←hwD];exact mx_drew wa
 rw[hwD]at hHeld⊢
 have hzD:=hbD.size
 have HBD:=Lib.hid hbD
 clear hwD hbD c0 c1
 refine takeS 0 54 ?_
 refine takeS 1 55 ?_
 refine takeS 2 56 ?_
 refine takeS 3 57 ?_
 refine takeS 4 58 ?_
 refine takeS 5 59 ?_
 refine takeS 6 60 ?_
 refine takeS 7 61 ?_
 refine takeS 8 62 ?_
 refine takeS 9 63 ?_
 refine takeS 10 64 ?_
 refine takeS 11 65 ?_
 refine takeS 12 66 ?_
 refine takeS 13 67 ?_
 refine ready1 14 (fun K hK=>?_)
 go_simp
 obtain⟨wN,hwN⟩: ∃x,wD.alloc (.cells #[.int .i64 (A.store.length:Nat),.int .i64 (SL:Nat),.int .i64 id,.bool false] 196)=x:=⟨_,rfl⟩
 have hbN:Below wD.heap.size wD wN:=by rw[←hwN];exact mx_al _ _
 have hsrc:=mx_src wD 196 [.int .i64 (A.store.length:Nat),.int .i64 (SL:Nat),.int .i64 id,.bool false]
 rw[hwN]at hsrc
 rw[hwN]
 have HSRC:=Lib.hid hsrc
 have HBN:=Lib.hid (HBD.out.trans (hbN.mono HBD.out.size))
 refine hK.out _ _ ⟨(hbN.cell (p:=⟨b,0,none⟩) (by show b<_;omega)).trans hHeld.1,(hbN.cell (p:=⟨b,1,none⟩) (by show b<_;omega)).trans hHeld.2⟩ (fun hHeld1=>?_)
 have hzN1:=hbN.size
 clear hK hHeld hbN hsrc hwN
 have hHeld:=hHeld1
 clear hHeld1
 refine ready1 15 (fun K hK=>?_)
 rw[if_pos (by rfl)]
 refine wp_append_any_at 69 (by rfl) _ _ 190 rfl 0 196 i0 (.agg #[.int .i64 0,.int .i64 0,.int .i64 0,.bool false]) 4 32 Tryz.underlying190 hi0 hz0 hz1 hz2 rfl (by decide) _ A.all.length _ (by rfl) (own_below HRA.out HBN.out) (.slice (some ⟨wD.heap.size,0,none⟩) 1 1) 1 [.int .i64 (A.store.length:Nat),.int .i64 (SL:Nat),.int .i64 id,.bool false] (by rfl) HSRC.out rfl (by simp[Value.oneCell']) (by unfold maxLen;omega) (by omega) (Nat.zero_le _) ?_
 intro v' w2 hown hgrow hat
 obtain⟨Ay,ky,rfl,_⟩:=mx_slice hown
 have hkb:Kept (fun g=>(Value.slice Aal A.all.length cal).ownBlock=some g) wa w2:=(Kept.of_below HBN.out).trans (Kept.grown hgrow) (fun i hi e=>e.symm)
 have hnb:(Value.slice Aal A.all.length cal).ownBlock≠some b:=mx_not HRA.out HBA.out (by decide)
 have hba':b<wa.heap.size:=by omega
 have HOY:=Lib.hid hown
 have HKB:=Lib.hid hkb
 have HNB:=Lib.hid hnb
 have HAY:=Lib.hid (show(Value.slice Ay (A.all.length+1) ky).ownBlock=(Value.slice Aal A.all.length cal).ownBlock∨(Value.slice Ay (A.all.length+1) ky).ownBlock=some wN.heap.size from hat)
 refine hK.out _ _ ⟨(hkb.cell (p:=⟨b,0,none⟩) hba' hnb).trans (mx_cell (j:=0) HBA.out),(hkb.cell (p:=⟨b,1,none⟩) hba' hnb).trans (mx_cell (j:=1) HBA.out)⟩ (fun hHeld1=>?_)
 clear hK hHeld hown hgrow hat hkb hnb
 refine takeS 16 70 ?_
 refine takeS 17 71 ?_
 refine wpAnyH_done (by kernel_rfl) ?_ _
 refine lastPost_normal ?_
 obtain⟨z0,z1⟩:=hHeld1
 have hblk:=(HKB.out.block b hba' HNB.out).trans HBA.out
 have fr1:=mx_free (j:=1) hblk
 have HBLK:=Lib.hid hblk
 clear hblk
 refine wpOp_step rfl (fun K hK=>?_)
 go_simp
 refine hK _ _ ?_
 clear hK z0 z1 fr1
 obtain⟨wf,hwf⟩: ∃x,w2.setCell ⟨b,1,none⟩ (.slice Ay (A.all.length+1) ky)=x:=⟨_,rfl⟩
 have hkf:Kept (fun g=>g=b) w2 wf:=by rw[←hwf];exact(Kept.refl (fun g=>g=b) w2).setCell ⟨b,1,none⟩ _ rfl
 have hbf:wf.heap[b]? =some (.cells #[.slice Ax SL kx,.slice Ay (A.all.length+1) ky,.int .i64 (A.used:Nat),.int .i64 (A.count:Nat),.int .i64 A.last,.bool true] 192 (0,0)):=by rw[←hwf];exact mx_set HBLK.out _ (j:=1)
 have hny:(Value.slice Ay (A.all.length+1) ky).ownBlock≠some b:=mx_not HOY.out HBLK.out (by decide)
 have hoy:wf.ownsRow 0 196 4 (.slice Ay (A.all.length+1) ky) (A.all.length+1) (A.all.flatMap Ent.cells++ [.int .i64 (A.store.length:Nat),.int .i64 (SL:Nat),.int .i64 id,.bool false]):=own_kept HOY.out hkf (fun g hg e=>by
  subst e
  exact hny hg)
 have hoxf:wf.ownsRow 0 32 1 (.slice Ax SL kx) SL (A.store.map (Value.int .i64)++c.map (Value.int .i64)):=own_kept (own_kept HOXA.out HKB.out (fun g hg e=>mx_apart HOXA.out HRA.out (by decide) hg e)) hkf (fun g hg e=>by
  subst e
  exact HNX.out hg)
 have hkwf:Kept (fun g=>g=b∨(Value.slice Ast A.store.length cst).ownBlock=some g∨(Value.slice Aal A.all.length cal).ownBlock=some g) w wf:=((HKW.out.mono (fun g _ h=>h.imp (fun x=>x) .inl)).trans HKB.out (fun i _ e=>.inr (.inr e))).trans hkf (fun i _ e=>.inl e)
 rw[hwf]
 have HBF:=Lib.hid hbf
 have HOYF:=Lib.hid hoy
 have HOXF:=Lib.hid hoxf
 have HKWF:=Lib.hid hkwf
 have HNY:=Lib.hid hny
 have hzf:=hkf.size
 have hbwf:=heap_lt hbf
 have hayb: ∀g,(Value.slice Ay (A.all.length+1) ky).ownBlock=some g→O g∨w.heap.size≤g∧g<wf.heap.size:=fun g hg=>by
  have h1:=(own_lt HOY.out g hg).2
  rcases HAY.out with h3|h3
  ·
   exact .inl (HM.out.allb g (h3▸hg))
  ·
   rw[hg]at h3
   have:=Option.some.inj h3
   exact .inr ⟨by omega,by omega⟩
 have haxb: ∀g,(Value.slice Ax SL kx).ownBlock=some g→O g∨w.heap.size≤g∧g<wf.heap.size:=fun g hg=>by
  have h1:=(own_lt HOXF.out g hg).2
  rcases HAT.out with h3|h3
  ·
   exact .inl (HM.out.storeb g (h3▸hg))
  ·
   rw[hg]at h3
   have:=Option.some.inj h3
   exact .inr ⟨by omega,by omega⟩
 have HAYB:=Lib.hid hayb
 have HAXB:=Lib.hid haxb
 clear hwf hkf hbf hny hoy hoxf hkwf hayb haxb HOY HOXA HKB HKW HRA HBLK HBA HBD HBN HSRC HAY HAT hi0 hz0 hz1 hz2
 clear i0
 have p2:wf.cell? ⟨b,2,none⟩=some (.int .i64 (A.used:Nat)):=mx_cell (j:=2) HBF.out
 have p3:wf.cell? ⟨b,3,none⟩=some (.int .i64 (A.count:Nat)):=mx_cell (j:=3) HBF.out
 have w9:IntKind.i64.wrap ((A.used:Int)+(c.length:Int))=(A.used:Int)+(c.length:Int):=IntWalk.i64_in _ (by omega)
 have w14:IntKind.i64.wrap ((A.count:Int)+1)=(A.count:Int)+1:=IntWalk.i64_in _ (by omega)
 go_wp2_with fail
 refine wp_region_held_drew (S:=fun _=>True) (by kernel_rfl) trivial (fun hHeld=>?_)
 obtain⟨wD,hwD⟩: ∃x,wf.drew=x:=⟨_,rfl⟩
 have hbD:Below wf.heap.size wf wD:=by rw[←hwD];exact mx_drew wf
 rw[hwD]
 have HBwD:=Lib.hid ((hbD.block b hbwf).trans HBF.out)
 have HKwD:=Lib.hid (Kept.of_below (O:=fun g=>g=b) hbD)
 have p2:=(hbD.cell (p:=⟨b,2,none⟩) hbwf).trans p2
 have p3:=(hbD.cell (p:=⟨b,3,none⟩) hbwf).trans p3
 clear hwD hbD
 refine takeF 0 72 (fun w hSw=>hSw) ?_
 refine takeF 1 73 (fun w hSw=>hSw) ?_
 refine takeF 2 74 (fun w hSw=>hSw) ?_
 refine takeF 3 75 (fun w hSw=>hSw) ?_
 refine takeF 4 76 (fun w hSw=>hSw) ?_
 refine takeF 5 77 (fun w hSw=>hSw) ?_
 refine takeF 7 79 (fun w hSw=>hSw) ?_
 refine takeF 8 80 (fun w hSw=>hSw) ?_
 refine takeF 10 82 (fun w hSw=>hSw) ?_
 refine takeF 11 83 (fun w hSw=>hSw) ?_
 refine takeF 12 84 (fun w hSw=>hSw) ?_
 refine takeF 15 87 (fun w hSw=>hSw) ?_
 refine wpAnyH_ready (rs:= [6,13]) (by kernel_rfl) (by simp) ?_
 refine AllReadyH.cons rfl (fun K hK=>?_) (AllReadyH.cons rfl (fun K hK=>?_) AllReadyH.nil)
 ·
  go_simp
  refine hK.out _ _ trivial (fun _=>?_)
  clear hK
  refine takeF 9 81 (fun w hSw=>hSw) ?_
  refine ready1 13 (fun K hK=>?_)
  go_simp
  refine hK.out _ _ trivial (fun _=>?_)
  clear hK
  refine takeF 14 86 (fun w hSw=>hSw) ?_
  clear p2 p3
  refine takeF 16 88 (fun w hSw=>hSw) ?_
  refine takeF 17 89 (fun w hSw=>hSw) ?_
  have p2:=mx_cell (j:=2) HBwD.out
  have fp2:=mx_free (j:=2) HBwD.out
  simp only[List.getElem?_toArray,List.getElem?_cons_zero,List.getElem?_cons_succ]at p2
  refine ready1 18 (fun K hK=>?_)
  go_simp
  obtain⟨wG,hwG⟩: ∃x,wD.setCell ⟨b,2,none⟩ (.int .i64 ((A.used:Int)+(c.length:Int)))=x:=⟨_,rfl⟩
  have hkwG:Kept (fun g=>g=b) wD wG:=by rw[←hwG];exact(Kept.refl (fun g=>g=b) wD).setCell ⟨b,2,none⟩ _ rfl
  have HBwG:=Lib.hid (show wG.heap[b]? =some (.cells #[.slice Ax SL kx,.slice Ay (A.all.length+1) ky,.int .i64 ((A.used:Int)+(c.length:Int)),.int .i64 (A.count:Nat),.int .i64 A.last,.bool true] 192 (0,0))from by rw[←hwG];exact mx_set HBwD.out _ (j:=2))
  have HKwG:=Lib.hid (HKwD.out.trans hkwG (fun i _ e=>e))
  rw[hwG]
  refine hK.out _ _ trivial (fun _=>?_)
  clear hK hwG hkwG p2 fp2
  refine takeF 19 90 (fun w hSw=>hSw) ?_
  refine takeF 20 91 (fun w hSw=>hSw) ?_
  have p3:=mx_cell (j:=3) HBwG.out
  have fp3:=mx_free (j:=3) HBwG.out
  simp only[List.getElem?_toArray,List.getElem?_cons_zero,List.getElem?_cons_succ]at p3
  refine ready1 21 (fun K hK=>?_)
  go_simp
  obtain⟨wH,hwH⟩: ∃x,wG.setCell ⟨b,3,none⟩ (.int .i64 ((A.count:Int)+1))=x:=⟨_,rfl⟩
  have hkwH:Kept (fun g=>g=b) wG wH:=by rw[←hwH];exact(Kept.refl (fun g=>g=b) wG).setCell ⟨b,3,none⟩ _ rfl
  have HBwH:=Lib.hid (show wH.heap[b]? =some (.cells #[.slice Ax SL kx,.slice Ay (A.all.length+1) ky,.int .i64 ((A.used:Int)+(c.length:Int)),.int .i64 ((A.count:Int)+1),.int .i64 A.last,.bool true] 192 (0,0))from by rw[←hwH];exact mx_set HBwG.out _ (j:=3))
  have HKwH:=Lib.hid (HKwG.out.trans hkwH (fun i _ e=>e))
  rw[hwH]
  refine hK.out _ _ trivial (fun _=>?_)
  clear hK hwH hkwH p3 fp3
  refine takeF 22 92 (fun w hSw=>hSw) ?_
  refine takeF 23 93 (fun w hSw=>hSw) ?_
  have p4:=mx_cell (j:=4) HBwH.out
  have fp4:=mx_free (j:=4) HBwH.out
  simp only[List.getElem?_toArray,List.getElem?_cons_zero,List.getElem?_cons_succ]at p4
  refine ready1 24 (fun K hK=>?_)
  go_simp
  obtain⟨wI,hwI⟩: ∃x,wH.setCell ⟨b,4,none⟩ (.int .i64 id)=x:=⟨_,rfl⟩
  have hkwI:Kept (fun g=>g=b) wH wI:=by rw[←hwI];exact(Kept.refl (fun g=>g=b) wH).setCell ⟨b,4,none⟩ _ rfl
  have HBwI:=Lib.hid (show wI.heap[b]? =some (.cells #[.slice Ax SL kx,.slice Ay (A.all.length+1) ky,.int .i64 ((A.used:Int)+(c.length:Int)),.int .i64 ((A.count:Int)+1),.int .i64 id,.bool true] 192 (0,0))from by rw[←hwI];exact mx_set HBwH.out _ (j:=4))
  have HKwI:=Lib.hid (HKwH.out.trans hkwI (fun i _ e=>e))
  rw[hwI]
  refine hK.out _ _ trivial (fun _=>?_)
  clear hK hwI hkwI p4 fp4
  refine wpAnyH_done (by kernel_rfl) ?_ _
  go_wp2_with fail
  go_ret
  exact⟨rfl,ar_added hid hid2 hus hal hct HSL.out HK.out HM.out hbw hbwf HBwI.out ((HKWF.out.trans HKwI.out (fun i _ e=>.inl e)).mono (fun g _ h=>h)) HKwI.out HOXF.out HOYF.out HNX.out HNY.out HAXB.out HAYB.out hslb⟩
 ·
  go_simp
  refine hK.out _ _ trivial (fun _=>?_)
  clear hK
  refine takeF 14 86 (fun w hSw=>hSw) ?_
  refine ready1 6 (fun K hK=>?_)
  go_simp
  refine hK.out _ _ trivial (fun _=>?_)
  clear hK
  refine takeF 9 81 (fun w hSw=>hSw) ?_
  clear p2 p3
  refine takeF 16 88 (fun w hSw=>hSw) ?_
  refine takeF 17 89 (fun w hSw=>hSw) ?_
  have p2:=mx_cell (j:=2) HBwD.out
  have fp2:=mx_free (j:=2) HBwD.out
  simp only[List.getElem?_toArray,List.getElem?_cons_zero,List.getElem?_cons_succ]at p2
  refine ready1 18 (fun K hK=>?_)
  go_simp
  obtain⟨wG,hwG⟩: ∃x,wD.setCell ⟨b,2,none⟩ (.int .i64 ((A.used:Int)+(c.length:Int)))=x:=⟨_,rfl⟩
  have hkwG:Kept (fun g=>g=b) wD wG:=by rw[←hwG];exact(Kept.refl (fun g=>g=b) wD).setCell ⟨b,2,none⟩ _ rfl
  have HBwG:=Lib.hid (show wG.heap[b]? =some (.cells #[.slice Ax SL kx,.slice Ay (A.all.length+1) ky,.int .i64 ((A.used:Int)+(c.length:Int)),.int .i64 (A.count:Nat),.int .i64 A.last,.bool true] 192 (0,0))from by rw[←hwG];exact mx_set HBwD.out _ (j:=2))
  have HKwG:=Lib.hid (HKwD.out.trans hkwG (fun i _ e=>e))
  rw[hwG]
  refine hK.out _ _ trivial (fun _=>?_)
  clear hK hwG hkwG p2 fp2
  refine takeF 19 90 (fun w hSw=>hSw) ?_
  refine takeF 20 91 (fun w hSw=>hSw) ?_
  have p3:=mx_cell (j:=3) HBwG.out
  have fp3:=mx_free (j:=3) HBwG.out
  simp only[List.getElem?_toArray,List.getElem?_cons_zero,List.getElem?_cons_succ]at p3
  refine ready1 21 (fun K hK=>?_)
  go_simp
  obtain⟨wH,hwH⟩: ∃x,wG.setCell ⟨b,3,none⟩ (.int .i64 ((A.count:Int)+1))=x:=⟨_,rfl⟩
  have hkwH:Kept (fun g=>g=b) wG wH:=by rw[←hwH];exact(Kept.refl (fun g=>g=b) wG).setCell ⟨b,3,none⟩ _ rfl
  have HBwH:=Lib.hid (show wH.heap[b]? =some (.cells #[.slice Ax SL kx,.slice Ay (A.all.length+1) ky,.int .i64 ((A.used:Int)+(c.length:Int)),.int .i64 ((A.count:Int)+1),.int .i64 A.last,.bool true] 192 (0,0))from by rw[←hwH];exact mx_set HBwG.out _ (j:=3))
  have HKwH:=Lib.hid (HKwG.out.trans hkwH (fun i _ e=>e))
  rw[hwH]
  refine hK.out _ _ trivial (fun _=>?_)
  clear hK hwH hkwH p3 fp3
  refine takeF 22 92 (fun w hSw=>hSw) ?_
  refine takeF 23 93 (fun w hSw=>hSw) ?_
  have p4:=mx_cell (j:=4) HBwH.out
  have fp4:=mx_free (j:=4) HBwH.out
  simp only[List.getElem?_toArray,List.getElem?_cons_zero,List.getElem?_cons_succ]at p4
  refine ready1 24 (fun K hK=>?_)
  go_simp
  obtain⟨wI,hwI⟩: ∃x,wH.setCell ⟨b,4,none⟩ (.int .i64 id)=x:=⟨_,rfl⟩
  have hkwI:Kept (fun g=>g=b) wH wI:=by rw[←hwI];exact(Kept.refl (fun g=>g=b) wH).setCell ⟨b,4,none⟩ _ rfl
  have HBwI:=Lib.hid (show wI.heap[b]? =some (.cells #[.slice Ax SL kx,.slice Ay (A.all.length+1) ky,.int .i64 ((A.used:Int)+(c.length:Int)),.int .i64 ((A.count:Int)+1),.int .i64 id,.bool true] 192 (0,0))from by rw[←hwI];exact mx_set HBwH.out _ (j:=4))
  have HKwI:=Lib.hid (HKwH.out.trans hkwI (fun i _ e=>e))
  rw[hwI]
  refine hK.out _ _ trivial (fun _=>?_)
  clear hK hwI hkwI p4 fp4
  refine wpAnyH_done (by kernel_rfl) ?_ _
  go_wp2_with fail
  go_ret
  exact⟨rfl,ar_added hid hid2 hus hal hct HSL.out HK.out HM.out hbw hbwf HBwI.out ((HKWF.out.trans HKwI.out (fun i _ e=>.inl e)).mono (fun g _ h=>h)) HKwI.out HOXF.out HOYF.out HNX.out HNY.out HAXB.out HAYB.out hslb⟩
theorem ar_add_bad {O Oc:Nat→Prop} (b:Nat) (A:Arn) (id:Int) (cv:Value) (c:List Int) (w:World) (h:ArAt O w b A) (hc:IntsIn Oc w cv c) (hr:clauseB c=false) (hcl:c.length≤140737488355328):
  Calls Tryz.prog 92 #[.pointer (some ⟨b,0,none⟩),.int .i64 id,cv] w fun e w'=>e= .returned (.int .i64 20)∧w=w':=by
 have HIS:=Lib.hid (ar_is b A w h)
 have hrc:=right_clause cv c w hc hcl
 rw[hr]at hrc
 have HRC:=Lib.hid hrc
 obtain⟨Ac,cc,rfl,_,_,_⟩:=hc
 clear h hrc hr
 go_enter Tryz.func92,Tryz.ntmps92
 go_wp2_with fail
 refine HIS.out.mono ?_
 rintro e w' ⟨rfl,rfl⟩
 go_wp2_with fail
 refine HRC.out.mono ?_
 rintro e w' ⟨rfl,rfl⟩
 go_wp2_with fail
 go_ret
 exact⟨rfl,rfl⟩
end Go.Proofs.YtoojmhjagipmdaaGreat
namespace Go.Proofs.YtoojmhjagipmdaaGreat
open Go.RowKit
theorem TrNext.of_below {O:Nat→Prop} {w w':World} {b:Nat} {T:Trl} (h:TrAt O w b T) (hb:Below w.heap.size w w'):TrNext O w w' b T:=by
 obtain⟨hk,gv,cv,ov,sv,h⟩:=h
 have k:=h.kept (O':=fun _=>False) (Kept.of_below hb) (fun _ _ h=>h)
 exact⟨⟨hk,gv,cv,ov,sv,⟨fun g hg=>hg.elim (fun h1=>k.own g h1) (fun h1=>h1.2),.inl k.inb,.inl k.invs,k.block,k.vars,k.order,fun g hg=>.inl (k.orderb g hg),k.starts,fun g hg=>.inl (k.startsb g hg)⟩⟩,Kept.of_below hb⟩
def Trl.now (T:Trl):Int:=(T.starts.length:Int)-1
def Trl.assignErr (T:Trl) (l r:Int):Nat:=match T.at (litV l)with
 | none=>40
 | some s=>if r<0∨1073741824<r then 2 else if s.value≠0 then 41 else 0
def Trl.assign (T:Trl) (l r:Int):Trl:=⟨T.vars.set (litV l) ⟨T.now,r,T.order.length,litS l⟩,T.order++ [l],T.starts⟩
def Trl.assigned (T:Trl) (l r:Int):Trl:=if T.assignErr l r=0 then T.assign l r else T
theorem tvCells_len (l:List TV):(l.flatMap TV.cells).length=l.length*4:=by
 induction l with
 | nil=>rfl
 | cons x l ih=>
  rw[List.flatMap_cons,List.length_append,ih]
  simp[TV.cells]
  omega
theorem tvCells_div (l:List TV) (q:Nat):(l.flatMap TV.cells)[q]? =(l[q/4]?).bind fun x=>x.cells[q%4]? :=by
 have e:q=q/4*4+q%4:=by omega
 cases h:l[q/4]? with
 | none=>
  rw[List.getElem?_eq_none]
  ·
   rfl
  ·
   have:=List.getElem?_eq_none_iff.1 h
   rw[tvCells_len]
   omega
 | some x=>
  conv=>lhs;rw[e]
  rw[tvCells_at l (q/4) (q%4) x h (Nat.mod_lt _ (by decide))]
  rfl
theorem vars_set {w:World} {g n c i:Nat} {l:List TV} (h:w.ownsRow 0 150 4 (.slice (some ⟨g,0,none⟩) n c) n (l.flatMap TV.cells)) (hn:l.length=n) (hi:i<n) (x:TV):
  ((((w.setCell ⟨g,i*4,none⟩ (.int .i64 x.level)).setCell ⟨g,i*4+1,none⟩ (.int .i64 x.reason)).setCell ⟨g,i*4+2,none⟩ (.int .i64 x.place)).setCell ⟨g,i*4+3,none⟩ (.int .i64 x.value)).ownsRow 0 150 4 (.slice (some ⟨g,0,none⟩) n c) n ((l.set i x).flatMap TV.cells):=by
 obtain⟨h0,h1⟩:=h
 rcases h1 with⟨h1,_⟩|⟨g',cap,cur,hv,hb,hg,hle,hm,hs,hx⟩
 ·
  cases h1
 ·
  cases hv
  refine⟨by rw[tvCells_len,List.length_set,hn],.inr ⟨g,c,_,rfl,hb,mx_set (mx_set (mx_set (mx_set hg _) _) _) _,hle,hm,by simpa using hs,?_⟩⟩
  apply List.ext_getElem?
  intro q
  rw[List.getElem?_take,tvCells_div,List.getElem?_set]
  have hq0:(l.flatMap TV.cells)[q]? =if q<n*4 then cur[q]? else none:=by
   rw[←hx,List.getElem?_take]
   split
   ·
    rw[Array.getElem?_toList]
   ·
    rfl
  rw[tvCells_div]at hq0
  by_cases hq:q<n*4
  ·
   rw[if_pos hq]at hq0⊢
   rw[Array.getElem?_toList]
   simp only[Array.getElem?_setIfInBounds,Array.size_setIfInBounds]
   by_cases hqi:i=q/4
   ·
    rw[if_pos hqi,if_pos (show i<l.length by omega)]
    have hq4:q=i*4∨q=i*4+1∨q=i*4+2∨q=i*4+3:=by omega
    have hsz:q<cur.size:=by omega
    rcases hq4 with e|e|e|e
    ·
     rw[if_neg (show¬i*4+3=q by omega),if_neg (show¬i*4+2=q by omega),if_neg (show¬i*4+1=q by omega),if_pos (show i*4=q by omega),if_pos (show i*4<cur.size by omega)]
     rw[show q%4=0 by omega]
     rfl
    ·
     rw[if_neg (show¬i*4+3=q by omega),if_neg (show¬i*4+2=q by omega),if_pos (show i*4+1=q by omega),if_pos (show i*4+1<cur.size by omega)]
     rw[show q%4=1 by omega]
     rfl
    ·
     rw[if_neg (show¬i*4+3=q by omega),if_pos (show i*4+2=q by omega),if_pos (show i*4+2<cur.size by omega)]
     rw[show q%4=2 by omega]
     rfl
    ·
     rw[if_pos (show i*4+3=q by omega),if_pos (show i*4+3<cur.size by omega)]
     rw[show q%4=3 by omega]
     rfl
   ·
    rw[if_neg hqi,if_neg (show¬i*4+3=q by omega),if_neg (show¬i*4+2=q by omega),if_neg (show¬i*4+1=q by omega),if_neg (show¬i*4=q by omega)]
    exact hq0.symm
  ·
   rw[if_neg hq]
   by_cases hqi:i=q/4
   ·
    omega
   ·
    rw[if_neg hqi,List.getElem?_eq_none (by omega)]
    rfl
set_option maxRecDepth 100000 in
set_option maxHeartbeats 2000000 in
theorem tr_assign {O:Nat→Prop} (b:Nat) (T:Trl) (l r:Int) (w:World) (h:TrAt O w b T) (hno:T.order.length<1048576):
  Calls Tryz.prog 54 #[.pointer (some ⟨b,0,none⟩),.int .i64 l,.int .i64 r] w fun e w'=>e= .returned (.int .i64 (T.assignErr l r:Nat))∧TrNext O w w' b (T.assigned l r):=by
 have HIS:=Lib.hid (tr_is b T w h)
 have HV:=Lib.hid (lit_var l w)
 have HT:=Lib.hid h
 obtain⟨hk,gv,cv,ov,sv,h⟩:=h
 have hst:=tr_state b T gv cv ov sv (litV l) w hk h
 have HK:=Lib.hid hk
 have HM:=Lib.hid h
 obtain⟨m,hm⟩: ∃m,litV l=m:=⟨_,rfl⟩
 rw[hm]at hst HV
 have hbw:=heap_lt h.block
 rcases hat:T.at (m:Int)with _|s
 ·
  rw[hat,stateVal_none]at hst
  have HST:=Lib.hid hst
  have hE:T.assignErr l r=40:=by unfold Trl.assignErr;rw[hm,hat]
  have HE:=Lib.hid hE
  have HA:=Lib.hid (show T.assigned l r=T from by unfold Trl.assigned;rw[if_neg (by rw[hE];decide)])
  clear hst hat h hk hm hE
  go_enter Tryz.func54,Tryz.ntmps54
  go_wp2_with fail
  refine HIS.out.mono ?_
  rintro e w' ⟨rfl,rfl⟩
  go_wp2_with fail
  refine HV.out.mono ?_
  rintro e w' ⟨rfl,rfl⟩
  go_wp2_with fail
  refine HST.out.mono ?_
  rintro e w' ⟨rfl,rfl⟩
  go_wp2_with fail
  go_ret
  exact⟨by rw[HE.out];rfl,by rw[HA.out];exact TrNext.of_below HT.out (Below.refl _ _)⟩
 ·
  rw[hat,stateVal_some]at hst
  have hget:=Trl.at_get hat
  rw[Int.toNat_natCast]at hget hst
  obtain⟨c0,c1,c2,c3⟩:=h.var hget
  have HST:=Lib.hid hst
  by_cases hr:r<0∨1073741824<r
  ·
   have hE:T.assignErr l r=2:=by unfold Trl.assignErr;rw[hm,hat];exact if_pos hr
   have HE:=Lib.hid hE
   have HA:=Lib.hid (show T.assigned l r=T from by unfold Trl.assigned;rw[if_neg (by rw[hE];decide)])
   clear hst hat h hk hm hE hget
   by_cases hr0:r<0
   ·
    have q0:decide (r<0)=true:=by simpa using hr0
    clear hr
    go_enter Tryz.func54,Tryz.ntmps54
    go_wp2_with fail
    refine HIS.out.mono ?_
    rintro e w' ⟨rfl,rfl⟩
    go_wp2_with fail
    refine HV.out.mono ?_
    rintro e w' ⟨rfl,rfl⟩
    go_wp2_with fail
    refine HST.out.mono ?_
    rintro e w' ⟨rfl,rfl⟩
    go_wp2_with fail
    go_ret
    exact⟨by rw[HE.out];rfl,by rw[HA.out];exact TrNext.of_below HT.out (Below.refl _ _)⟩
   ·
    have q0:decide (r<0)=false:=by simpa using hr0
    have q1:decide ((1073741824:Int)<r)=true:=by simp;omega
    clear hr
    go_enter Tryz.func54,Tryz.ntmps54
    go_wp2_with fail
    refine HIS.out.mono ?_
    rintro e w' ⟨rfl,rfl⟩
    go_wp2_with fail
    refine HV.out.mono ?_
    rintro e w' ⟨rfl,rfl⟩
    go_wp2_with fail
    refine HST.out.mono ?_
    rintro e w' ⟨rfl,rfl⟩
    go_wp2_with fail
    go_ret
    exact⟨by rw[HE.out];rfl,by rw[HA.out];exact TrNext.of_below HT.out (Below.refl _ _)⟩
  ·
   have q0:decide (r<0)=false:=by simp;omega
   have q1:decide ((1073741824:Int)<r)=false:=by simp;omega
   by_cases hs0:s.value=0
   ·
    have q2:(s.value != 0)=false:=by simpa using hs0
    have hE:T.assignErr l r=0:=by unfold Trl.assignErr;rw[hm,hat];simp only[];rw[if_neg hr,if_neg (by simpa using hs0)]
    have HE:=Lib.hid hE
    have HA:=Lib.hid (show T.assigned l r=⟨T.vars.set m ⟨T.now,r,T.order.length,litS l⟩,T.order++ [l],T.starts⟩from by unfold Trl.assigned;rw[if_pos hE];unfold Trl.assign;rw[hm])
    have hmv:m<T.vars.length:=(List.getElem?_eq_some_iff.1 hget).1
    obtain⟨sg,hsg⟩: ∃g,litS l=g:=⟨_,rfl⟩
    have hsa:=litS_abs l
    rw[hsg]at hsa
    have HSG:=Lib.hid (fun W=>(hsg▸tr_sign l W:Calls Tryz.prog 94 #[.int .i64 l] W fun e w'=>e= .returned (.int .i64 sg)∧W=w'))
    rw[hsg]at HA
    obtain⟨Ao,co,rfl,_⟩:=mx_slice h.order
    obtain⟨As,cs,rfl,_⟩:=mx_slice h.starts
    have d1:w.cell? ⟨b,1,none⟩=some (.slice Ao T.order.length co):=mx_cell (j:=1) h.block
    have hgv:=(own_lt h.vars gv rfl).2
    have HSA:=Lib.hid hsa
    have HS0:=Lib.hid hs0
    clear hst hat h hk hm hE hget hsg hsa hr hs0
    go_enter Tryz.func54,Tryz.ntmps54
    go_wp2_with fail
    refine HIS.out.mono ?_
    rintro e w' ⟨rfl,rfl⟩
    go_wp2_with fail
    refine HV.out.mono ?_
    rintro e w' ⟨rfl,rfl⟩
    go_wp2_with fail
    refine HST.out.mono ?_
    rintro e w' ⟨rfl,rfl⟩
    go_wp2_with fail
    refine wp_region_held_drew (S:=fun w'=>w'.cell? ⟨b,1,none⟩=some (.slice Ao T.order.length co)) (by kernel_rfl) d1 (fun hHeld=>?_)
    have hbD:=mx_drew w
    obtain⟨wD,hwD⟩: ∃x,w.drew=x:=⟨_,rfl⟩
    rw[hwD]at hHeld hbD⊢
    have hzD:=hbD.size
    have HBD:=Lib.hid hbD
    clear hwD d1 c0 c1 c2 c3 hbD
    refine takeF 0 35 (fun w hSw=>hSw) ?_
    refine takeF 1 36 (fun w hSw=>hSw) ?_
    refine takeF 3 38 (fun w hSw=>hSw) ?_
    refine takeF 4 39 (fun w hSw=>hSw) ?_
    refine takeF 5 40 (fun w hSw=>hSw) ?_
    refine takeF 6 41 (fun w hSw=>hSw) ?_
    refine takeF 7 42 (fun w hSw=>hSw) ?_
    refine takeF 8 43 (fun w hSw=>hSw) ?_
    refine takeF 10 45 (fun w hSw=>hSw) ?_
    refine ready1 2 (fun K hK=>?_)
    go_simp
    refine(tr_now b T wD (HT.out.below HBD.out)).mono ?_
    rintro e w' ⟨rfl,rfl⟩
    refine hK.out _ _ hHeld (fun hHeld1=>?_)
    clear hK hHeld1
    refine takeF 9 44 (fun w hSw=>hSw) ?_
    refine ready1 11 (fun K hK=>?_)
    go_simp
    refine(HSG.out wD).mono ?_
    rintro e w' ⟨rfl,rfl⟩
    refine hK.out _ _ hHeld (fun hHeld1=>?_)
    clear hK hHeld1
    refine takeF 12 47 (fun w hSw=>hSw) ?_
    refine takeF 13 48 (fun w hSw=>hSw) ?_
    have hMD:=HM.out.kept (O':=fun _=>False) (Kept.of_below HBD.out) (fun _ _ h=>h)
    obtain⟨x0,hx0⟩: ∃s',T.vars[m]? =some s':=⟨_,List.getElem?_eq_getElem hmv⟩
    obtain⟨v0,v1,v2,v3⟩:=hMD.var hx0
    obtain⟨cv0,hvb⟩:=own_type hMD.vars gv rfl
    have f0:=mx_free (j:=m*4) hvb
    have f1:=mx_free (j:=m*4+1) hvb
    have f2:=mx_free (j:=m*4+2) hvb
    have f3:=mx_free (j:=m*4+3) hvb
    have HMD:=Lib.hid hMD
    have HVB:=Lib.hid hvb
    clear hMD hvb hx0
    refine ready1 14 (fun K hK=>?_)
    go_simp
    have hks:Kept (fun g=>g=gv) wD ((((wD.setCell ⟨gv,m*4,none⟩ (.int .i64 ((T.starts.length:Int)-1))).setCell ⟨gv,m*4+1,none⟩ (.int .i64 r)).setCell ⟨gv,m*4+2,none⟩ (.int .i64 (T.order.length:Int))).setCell ⟨gv,m*4+3,none⟩ (.int .i64 sg)):=((((Kept.refl (fun g=>g=gv) wD).setCell ⟨gv,m*4,none⟩ _ rfl).setCell ⟨gv,m*4+1,none⟩ _ rfl).setCell ⟨gv,m*4+2,none⟩ _ rfl).setCell ⟨gv,m*4+3,none⟩ _ rfl
    have hvr:=vars_set HMD.out.vars rfl hmv ⟨T.now,r,T.order.length,sg⟩
    obtain⟨ws,hws⟩: ∃x,((((wD.setCell ⟨gv,m*4,none⟩ (.int .i64 ((T.starts.length:Int)-1))).setCell ⟨gv,m*4+1,none⟩ (.int .i64 r)).setCell ⟨gv,m*4+2,none⟩ (.int .i64 (T.order.length:Int))).setCell ⟨gv,m*4+3,none⟩ (.int .i64 sg))=x:=⟨_,rfl⟩
    have hvr':ws.ownsRow 0 150 4 (.slice (some ⟨gv,0,none⟩) T.vars.length cv) T.vars.length ((T.vars.set m ⟨T.now,r,T.order.length,sg⟩).flatMap TV.cells):=by rw[←hws];exact hvr
    rw[hws]at hks⊢
    have hnv:b≠gv:=fun e=>mx_not HMD.out.vars HMD.out.block (by decide) (by rw[e];rfl)
    have hbs:=(hks.block b (by omega) hnv).trans HMD.out.block
    have d1:ws.cell? ⟨b,1,none⟩=some (.slice Ao T.order.length co):=mx_cell (j:=1) hbs
    refine hK.out _ _ d1 (fun hHeld1=>?_)
    have HKS:=Lib.hid hks
    have HVR:=Lib.hid hvr'
    have HBS:=Lib.hid hbs
    have HKW:=Lib.hid ((Kept.of_below (O:=fun g=>g=gv) HBD.out).trans hks (fun i _ h=>h))
    clear hK hHeld hHeld1 hks hvr hvr' hws hbs v0 v1 v2 v3 f0 f1 f2 f3 HVB
    refine wpAnyH_done (by kernel_rfl) ?_ _
    have fr1:=mx_free (j:=1) HBS.out
    obtain⟨i0,hi0,hz0,hz1,hz2⟩:=info_parts tinfo_lit
    have hro:=own_kept HMD.out.order HKS.out (fun g hg e=>by
     subst e
     exact mx_apart HMD.out.order HMD.out.vars (by decide) hg rfl)
    have HRO:=Lib.hid hro
    have hzs:=HKS.out.size
    clear hro
    go_wp2_with (at_builtin;refine wpList_append_any rfl _ _ 33 rfl 0 32 i0 (.int .i64 0) 1 8 Tryz.underlying33 hi0 hz0 hz1 hz2 rfl (by decide) _ T.order.length _ rfl (own_below HRO.out (mx_al ws (.cells #[.int .i64 l] 32))) (.slice (some ⟨ws.heap.size,0,none⟩) 1 1) 1 [.int .i64 l] rfl (mx_src ws 32 [.int .i64 l]) rfl (by simp[Value.oneCell']) (by unfold maxLen;omega) (by omega) (Nat.zero_le _) ?_;intro v' w2 hown hgrow hat;obtain⟨Ax,kx,hv2,_⟩:=mx_slice hown;subst hv2;have HOX:=Lib.hid hown;have hkg:Kept (fun g=>(Value.slice Ao T.order.length co).ownBlock=some g) ws w2:=(Kept.of_below (mx_al ws (.cells #[.int .i64 l] 32))).trans (Kept.grown hgrow) (fun i hi e=>e.symm);have hnb:(Value.slice Ao T.order.length co).ownBlock≠some b:=mx_not HRO.out HBS.out (by decide);have hb2:=(hkg.block b (by omega) hnb).trans HBS.out;have p1:w2.cell? ⟨b,1,none⟩=some (.slice Ao T.order.length co):=mx_cell (j:=1) hb2;have fp1:=mx_free (j:=1) hb2;have HKG:=Lib.hid hkg;have HB2:=Lib.hid hb2;have HAT:=Lib.hid (show(Value.slice Ax (T.order.length+1) kx).ownBlock=(Value.slice Ao T.order.length co).ownBlock∨(Value.slice Ax (T.order.length+1) kx).ownBlock=some (ws.heap.size+1)from by rw[←World.size_alloc];exact hat);clear hown hgrow hat hkg hb2 d1 fr1)
    obtain⟨wf,hwf⟩: ∃x,w2.setCell ⟨b,1,none⟩ (.slice Ax (T.order.length+1) kx)=x:=⟨_,rfl⟩
    have hkf:Kept (fun g=>g=b) w2 wf:=by rw[←hwf];exact(Kept.refl (fun g=>g=b) w2).setCell ⟨b,1,none⟩ _ rfl
    have hbf:wf.heap[b]? =some (.cells #[.slice (some ⟨gv,0,none⟩) T.vars.length cv,.slice Ax (T.order.length+1) kx,.slice As T.starts.length cs,.bool true] 153 (0,0)):=by rw[←hwf];exact mx_set HB2.out _ (j:=1)
    rw[hwf]
    have hnx:(Value.slice Ax (T.order.length+1) kx).ownBlock≠some b:=mx_not HOX.out HB2.out (by decide)
    have hsf:Kept (fun g=>g=b∨(Value.slice Ao T.order.length co).ownBlock=some g) ws wf:=(HKG.out.mono (fun g _ h=>.inr h)).trans hkf (fun i _ e=>.inl e)
    have hwW:Kept (fun g=>g=gv∨g=b∨(Value.slice Ao T.order.length co).ownBlock=some g) w wf:=(HKW.out.mono (fun g _ h=>.inl h)).trans hsf (fun i _ e=>.inr e)
    have hsz:=hwW.size
    go_ret
    rw[HE.out,HA.out]
    refine⟨rfl,⟨⟨?_,?_,HK.out.starts,?_⟩,gv,cv,.slice Ax (T.order.length+1) kx,.slice As T.starts.length cs,⟨?_,.inl HM.out.inb,.inl HM.out.invs,?_,?_,?_,?_,?_,fun g hg=>.inl (HM.out.startsb g hg)⟩⟩,hwW.mono (fun g hg e=>?_)⟩
    ·
     show 1≤(T.vars.set m _).length∧(T.vars.set m _).length≤1048577
     rw[List.length_set]
     exact HK.out.vars
    ·
     show(T.order++ [l]).length≤1048576
     rw[List.length_append,List.length_singleton]
     omega
    ·
     intro s' hs'
     rcases List.mem_or_eq_of_mem_set hs' with h1|h1
     ·
      exact HK.out.each s' h1
     ·
      rw[h1]
      exact .inr HSA.out
    ·
     intro g hg
     rcases hg with hg|hg
     ·
      exact Nat.lt_of_lt_of_le (HM.out.own g hg) hsz
     ·
      exact hg.2
    ·
     show wf.heap[b]? =some (.cells #[.slice (some ⟨gv,0,none⟩) (T.vars.set m _).length cv,.slice Ax (T.order.length+1) kx,_,.bool true] 153 (0,0))
     rw[List.length_set]
     exact hbf
    ·
     show wf.ownsRow 0 _ 4 (.slice (some ⟨gv,0,none⟩) (T.vars.set m _).length cv) (T.vars.set m _).length _
     rw[List.length_set]
     refine own_kept HVR.out hsf (fun g hg e=>?_)
     obtain rfl:gv=g:=Option.some.inj hg
     rcases e with e|e
     ·
      exact hnv e.symm
     ·
      exact mx_apart HRO.out HVR.out (by decide) e rfl
    ·
     have hx:=own_kept HOX.out hkf (fun g hg e=>by
      subst e
      exact hnx hg)
     show wf.ownsRow 0 32 1 (.slice Ax (T.order.length+1) kx) (T.order++ [_]).length ((T.order++ [_]).map _)
     rw[List.length_append,List.map_append]
     exact hx
    ·
     intro g hg
     have h1:=(own_lt HOX.out g hg).2
     rcases Nat.lt_or_ge g w.heap.size with h2|h2
     ·
      rcases HAT.out with h3|h3
      ·
       exact .inl (HM.out.orderb g (h3▸hg))
      ·
       rw[hg]at h3
       have:=Option.some.inj h3
       omega
     ·
      exact .inr ⟨h2,Nat.lt_of_lt_of_le h1 hkf.size⟩
    ·
     refine own_kept HM.out.starts hwW (fun g hg e=>?_)
     rcases e with e|e|e
     ·
      subst e
      exact mx_apart HM.out.starts HM.out.vars (by decide) hg rfl
     ·
      subst e
      exact mx_not HM.out.starts HM.out.block (by decide) hg
     ·
      exact mx_apart HM.out.starts HM.out.order (by decide) hg e
    ·
     rcases e with e|e|e
     ·
      rw[e]
      exact HM.out.invs
     ·
      rw[e]
      exact HM.out.inb
     ·
      exact HM.out.orderb g e
   ·
    have q2:(s.value != 0)=true:=by simpa using hs0
    have hE:T.assignErr l r=41:=by unfold Trl.assignErr;rw[hm,hat];simp only[];rw[if_neg hr,if_pos (by simpa using hs0)]
    have HE:=Lib.hid hE
    have HA:=Lib.hid (show T.assigned l r=T from by unfold Trl.assigned;rw[if_neg (by rw[hE];decide)])
    clear hst hat h hk hm hE hget hr hs0
    go_enter Tryz.func54,Tryz.ntmps54
    go_wp2_with fail
    refine HIS.out.mono ?_
    rintro e w' ⟨rfl,rfl⟩
    go_wp2_with fail
    refine HV.out.mono ?_
    rintro e w' ⟨rfl,rfl⟩
    go_wp2_with fail
    refine HST.out.mono ?_
    rintro e w' ⟨rfl,rfl⟩
    go_wp2_with fail
    go_ret
    exact⟨by rw[HE.out];rfl,by rw[HA.out];exact TrNext.of_below HT.out (Below.refl _ _)⟩
end Go.Proofs.YtoojmhjagipmdaaGreat
