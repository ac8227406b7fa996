/- The arena: Add. -/
import Derived.Test.YtoojmhjagipmdaaGreatV101
import Derived.Test.YtoojmhjagipmdaaGreatV103
import Derived.Deep.DeepCutAuto
import Derived.Deep.CutBlock
namespace Go.Proofs.YtoojmhjagipmdaaGreat
open Go.RowKit
section
variable {P:Program}
theorem append_types {t t' e e':TypeId} (h:P.underlying t=some (.slice e)) (h':P.underlying t'=some (.slice e')) (ty:TypeId) (s x:Value) (w:World):
  (Builtin.append_ #[t,t'] ty #[s,x]).run P w=(Builtin.append_ #[t,t] ty #[s,x]).run P w:=by
 have hu: ∀(w:World),(underlying t).run P w= .ok (.slice e) w:=fun w=>by simp[underlying,h,go_sem]
 have hu': ∀(w:World),(underlying t').run P w= .ok (.slice e') w:=fun w=>by simp[underlying,h',go_sem]
 unfold Builtin.append_
 simp only[List.getElem?_toArray,List.getElem?_cons_zero,List.getElem?_cons_succ,Sem.run_bind,hu,Result.andThen_ok]
 cases s
 case slice=>simp only[Sem.run_bind,hu,hu',Result.andThen_ok,Sem.run_pure]
 all_goals rfl
theorem wpList_append_two {w:World} {ops:Array Oper} {rest:List Oper} {o:Oper} {a:Act} {Q:Exit→Act→World→Prop} (hg:o.guard=none) (s x:Operand) (t t':TypeId) (ho:o.op= .call { callee:=.builtin .append,args:= #[s,x],argTypes:= #[t,t'] })
  (base:Nat) (e e':TypeId) (i:TypeInfo) (z:Value) (size bytes:Nat) (ht:P.underlying t=some (.slice e)) (ht':P.underlying t'=some (.slice e')) (hi:P.info? e=some i) (hz:i.zero=some z) (hsize:i.size=size) (hby:i.bytes=bytes) (hzs:z.cells.size=size) (hsz:0<size)
  (v:Value) (n:Nat) (xs:List Value) (hs:a.eval s=v) (hown:w.ownsRow base e size v n xs)
  (y:Value) (m:Nat) (news:List Value) (hx:a.eval x=y) (hy:SrcAt w y m news) (hl:news.length=m*size) (h1: ∀u∈news,u.oneCell'=true)
  (h63:n+m≤maxLen) (hbytes:(n+m)*bytes≤140737488355328) (hbase:base≤w.heap.size)
  (h: ∀v' w',w'.ownsRow base e size v' (n+m) (xs++news)→w.grownBy w' v.ownBlock→(v'.ownBlock=v.ownBlock∨v'.ownBlock=some w.heap.size)→wpList P ops Q rest (a.put o.dst v') w'):wpList P ops Q (o::rest) a w:=by
 refine wpList_plain hg fun K hK=>?_
 obtain⟨v',w',hr,h2,h3,h5⟩:=run_append_any (P:=P) w base t o.type e i z size bytes ht hi hz hsize hby hzs hsz v n xs hown y m news hy hl h1 h63 hbytes hbase
 rw[←append_types ht ht']at hr
 unfold Oper.wp execOp
 simp only[ho,resolve,invoke,builtin,Sem.run_bind,Sem.run_pure,Result.andThen_ok,List.map_toArray,List.map_cons,List.map_nil,hs,hx,hr]
 exact hK _ _ (h v' w' h2 h3 h5)
end
end Go.Proofs.YtoojmhjagipmdaaGreat
namespace Go.Proofs.YtoojmhjagipmdaaGreat
open Go.RowKit
theorem ainfo_lit:(Tryz.prog.info? 32).map (fun i=>(i.zero,i.size,i.bytes))=some (some (.int .i64 0),1,8):=by kernel_rfl
theorem ainfo_ent:(Tryz.prog.info? 196).map (fun i=>(i.zero,i.size,i.bytes))=some (some (.agg #[.int .i64 0,.int .i64 0,.int .i64 0,.bool false]),4,32):=by kernel_rfl
def Arn.add (A:Arn) (id:Int) (c:List Int):Arn:=⟨A.store++c,A.all++ [⟨A.store.length,A.store.length+c.length,id,false⟩],A.used+c.length,A.count+1,id⟩
def ArNext (O:Nat→Prop) (w w':World) (b:Nat) (A':Arn):Prop:=ArAt (fun g=>O g∨w.heap.size≤g∧g<w'.heap.size) w' b A'∧Kept O w w'
theorem ar_added {O:Nat→Prop} {b:Nat} {A:Arn} {id:Int} {c:List Int} {w wf wI:World} {SL:Nat} {Ast Aal Ax Ay:Option Addr} {cst cal kx ky:Nat} (hid:A.last<id) (hid2:id≤1073741824) (hus:A.used+c.length≤1048576) (hal:A.all.length<1073741824) (hct:A.count<1073741824) (hSL:A.store.length+c.length=SL)
  (hk:A.Ok) (hm:ArMem O w b A (.slice Ast A.store.length cst) (.slice Aal A.all.length cal)) (hbw:b<w.heap.size) (hbwf:b<wf.heap.size)
  (hblk:wI.heap[b]? =some (.cells #[.slice Ax SL kx,.slice Ay (A.all.length+1) ky,.int .i64 ((A.used:Int)+(c.length:Int)),.int .i64 ((A.count:Int)+1),.int .i64 id,.bool true] 192 (0,0)))
  (hkw:Kept (fun g=>g=b∨(Value.slice Ast A.store.length cst).ownBlock=some g∨(Value.slice Aal A.all.length cal).ownBlock=some g) w wI) (hkf:Kept (fun g=>g=b) wf wI)
  (hx:wf.ownsRow 0 32 1 (.slice Ax SL kx) SL (A.store.map (Value.int .i64)++c.map (Value.int .i64)))
  (hy:wf.ownsRow 0 196 4 (.slice Ay (A.all.length+1) ky) (A.all.length+1) (A.all.flatMap Ent.cells++ [.int .i64 (A.store.length:Nat),.int .i64 (SL:Nat),.int .i64 id,.bool false]))
  (hnx:(Value.slice Ax SL kx).ownBlock≠some b) (hny:(Value.slice Ay (A.all.length+1) ky).ownBlock≠some b)
  (hax: ∀g,(Value.slice Ax SL kx).ownBlock=some g→O g∨w.heap.size≤g∧g<wf.heap.size) (hay: ∀g,(Value.slice Ay (A.all.length+1) ky).ownBlock=some g→O g∨w.heap.size≤g∧g<wf.heap.size) (hsl:SL≤4194304):
  ArNext O w wI b (A.add id c):=by
 have hz:=hkf.size
 have hzw:=hkw.size
 have hnum:=hk.nums
 have hlens:=hk.lens
 have hall: ∀e∈A.all++ [(⟨A.store.length,A.store.length+c.length,id,false⟩:Ent)],1≤e.id∧e.id≤1073741824∧e.fr≤e.upto∧e.upto≤(A.store++c).length:=fun e he=>by
  rw[List.length_append]
  rcases List.mem_append.1 he with h1|h1
  ·
   have:=hk.each e h1
   omega
  ·
   rw[List.mem_singleton.1 h1]
   simp only[]
   omega
 refine⟨⟨⟨?_,hall,⟨?_,?_⟩,⟨hus,?_,?_,hid2⟩,?_⟩,.slice Ax SL kx,.slice Ay (A.all.length+1) ky,⟨?_,.inl hm.inb,?_,?_,?_,?_,?_⟩⟩,hkw.mono (fun g hg e=>?_)⟩
 ·
  show(A.all++ [_]).Pairwise _
  rw[List.pairwise_append]
  refine⟨hk.sorted,List.pairwise_singleton _ _,fun x hx y hy=>?_⟩
  rw[List.mem_singleton.1 hy]
  have:=hk.last x hx
  show x.id<id
  omega
 ·
  show(A.all++ [_]).length≤_
  rw[List.length_append,List.length_singleton]
  omega
 ·
  show(A.store++c).length≤_
  rw[List.length_append]
  omega
 ·
  show A.count+1≤_
  omega
 ·
  show 0≤id
  omega
 ·
  intro e he
  rcases List.mem_append.1 (show e∈A.all++ [_]from he)with h1|h1
  ·
   have:=hk.last e h1
   show e.id≤id
   omega
  ·
   rw[List.mem_singleton.1 h1]
   exact Int.le_refl _
 ·
  intro g hg
  rcases hg with hg|hg
  ·
   exact Nat.lt_of_lt_of_le (hm.own g hg) hzw
  ·
   exact hg.2
 ·
  show wI.heap[b]? =some (.cells #[_,_,.int .i64 ((A.used+c.length:Nat):Int),.int .i64 ((A.count+1:Nat):Int),.int .i64 id,.bool true] _ _)
  rw[Int.natCast_add,Int.natCast_add]
  exact hblk
 ·
  have h1:=own_kept hx hkf (fun g hg e=>by
   subst e
   exact hnx hg)
  show wI.ownsRow 0 _ 1 _ (A.store++c).length ((A.store++c).map _)
  rw[List.length_append,hSL,List.map_append]
  exact h1
 ·
  intro g hg
  rcases hax g hg with h1|h1
  ·
   exact .inl h1
  ·
   exact .inr ⟨h1.1,by omega⟩
 ·
  have h1:=own_kept hy hkf (fun g hg e=>by
   subst e
   exact hny hg)
  show wI.ownsRow 0 _ 4 _ (A.all++ [_]).length ((A.all++ [_]).flatMap _)
  rw[List.length_append,List.flatMap_append,hSL]
  exact h1
 ·
  intro g hg
  rcases hay g hg with h1|h1
  ·
   exact .inl h1
  ·
   exact .inr ⟨h1.1,by omega⟩
 ·
  rcases e with e|e|e
  ·
   rw[e]
   exact hm.inb
  ·
   exact hm.storeb g e
  ·
   exact hm.allb g e
set_option maxRecDepth 100000 in
set_option maxHeartbeats 4000000 in
theorem ar_add {O Oc:Nat→Prop} (b:Nat) (A:Arn) (id:Int) (cv:Value) (c:List Int) (w:World) (h:ArAt O w b A) (hc:IntsIn Oc w cv c) (hr:clauseB c=true) (hcl:c.length≤4096) (hid:A.last<id) (hid2:id≤1073741824) (hus:A.used+c.length≤1048576) (hsl:A.store.length+c.length≤4194304) (hal:A.all.length<1073741824) (hct:A.count<1073741824):
  Calls Tryz.prog 92 #[.pointer (some ⟨b,0,none⟩),.int .i64 id,cv] w fun e w'=>e= .returned (.int .i64 0)∧ArNext O w w' b (A.add id c):=by
 have HIS:=Lib.hid (ar_is b A w h)
 have hrc:=right_clause cv c w hc (by omega)
 rw[hr]at hrc
 have HRC:=Lib.hid hrc
 obtain⟨hk,stv,alv,h⟩:=h
 have hnum:=hk.nums
 have HK:=Lib.hid hk
 have HM:=Lib.hid h
 have HC:=Lib.hid hc
 obtain⟨Ast,cst,rfl,_⟩:=mx_slice h.store
 obtain⟨Aal,cal,rfl,_⟩:=mx_slice h.all
 obtain⟨Ac,cc,rfl,_,_,_⟩:=hc
 have c0:w.cell? ⟨b,0,none⟩=some (.slice Ast A.store.length cst):=mx_cell (j:=0) h.block
 have c2:w.cell? ⟨b,2,none⟩=some (.int .i64 (A.used:Nat)):=mx_cell (j:=2) h.block
 have c4:w.cell? ⟨b,4,none⟩=some (.int .i64 A.last):=mx_cell (j:=4) h.block
 have fb0:=mx_free (j:=0) h.block
 have q1:decide (id<1)=false:=by simp;omega
 have q2:decide ((1073741824:Int)<id)=false:=by simp;omega
 have q3:decide (id≤A.last)=false:=by simp;omega
 have q4:decide ((1048576:Int)<(A.used:Int)+(c.length:Int))=false:=by simp;omega
 have hbw:=heap_lt h.block
 obtain⟨i0,hi0,hz0,hz1,hz2⟩:=info_parts ainfo_lit
 clear h hk hrc hr
 go_enter Tryz.func92,Tryz.ntmps92
 go_wp2_with fail
 refine HIS.out.mono ?_
 rintro e w' ⟨rfl,rfl⟩
 go_wp2_with fail
 refine HRC.out.mono ?_
 rintro e w' ⟨rfl,rfl⟩
 go_upto_region 10 with fail
 go_wp2_with (at_builtin;refine wpList_append_two rfl _ _ 33 34 rfl 0 32 32 i0 (.int .i64 0) 1 8 Tryz.underlying33 Tryz.underlying34 hi0 hz0 hz1 hz2 rfl (by decide) _ A.store.length _ rfl HM.out.store (.slice Ac c.length cc) c.length (c.map (Value.int .i64)) rfl (HC.out.src) (by simp) (by simp[Value.oneCell']) (by unfold maxLen;omega) (by omega) (Nat.zero_le _) ?_;intro v' w1 hown hgrow hat;obtain⟨Ax,kx,hv2,_⟩:=mx_slice hown;subst hv2;have HOX:=Lib.hid hown;have hkg:Kept (fun g=>(Value.slice Ast A.store.length cst).ownBlock=some g) w w1:=(Kept.grown hgrow).mono (fun i hi e=>e.symm);have hnb:(Value.slice Ast A.store.length cst).ownBlock≠some b:=mx_not HM.out.store HM.out.block (by decide);have hb2:=(hkg.block b hbw hnb).trans HM.out.block;have p0:w1.cell? ⟨b,0,none⟩=some (.slice Ast A.store.length cst):=mx_cell (j:=0) hb2;have fp0:=mx_free (j:=0) hb2;have HKG:=Lib.hid hkg;have HB2:=Lib.hid hb2;have HAT:=Lib.hid (show(Value.slice Ax (A.store.length+c.length) kx).ownBlock=(Value.slice Ast A.store.length cst).ownBlock∨(Value.slice Ax (A.store.length+c.length) kx).ownBlock=some w.heap.size from hat);clear hown hgrow hat hkg hb2 c0 c2 c4 fb0)
 obtain⟨SL,hSL⟩: ∃n,A.store.length+c.length=n:=⟨_,rfl⟩
 rw[hSL]at HOX HAT⊢
 have HSL:=Lib.hid hSL
 have hslb:SL≤4194304:=by omega
 clear hSL
 obtain⟨wa,hwa⟩: ∃x,w1.setCell ⟨b,0,none⟩ (.slice Ax SL kx)=x:=⟨_,rfl⟩
 have hka:Kept (fun g=>g=b) w1 wa:=by rw[←hwa];exact(Kept.refl (fun g=>g=b) w1).setCell ⟨b,0,none⟩ _ rfl
 have hba:wa.heap[b]? =some (.cells #[.slice Ax SL kx,.slice Aal A.all.length cal,.int .i64 (A.used:Nat),.int .i64 (A.count:Nat),.int .i64 A.last,.bool true] 192 (0,0)):=by rw[←hwa];exact mx_set HB2.out _ (j:=0)
 have hnx:(Value.slice Ax SL kx).ownBlock≠some b:=mx_not HOX.out HB2.out (by decide)
 have hox:wa.ownsRow 0 32 1 (.slice Ax SL kx) SL (A.store.map (Value.int .i64)++c.map (Value.int .i64)):=own_kept HOX.out hka (fun g hg e=>by
  subst e
  exact hnx hg)
 have hkw:Kept (fun g=>g=b∨(Value.slice Ast A.store.length cst).ownBlock=some g) w wa:=(HKG.out.mono (fun g _ h=>.inr h)).trans hka (fun i _ e=>.inl e)
 have hra:wa.ownsRow 0 196 4 (.slice Aal A.all.length cal) A.all.length (A.all.flatMap Ent.cells):=own_kept HM.out.all hkw (fun g hg e=>by
  rcases e with e|e
  ·
   subst e
   exact mx_not HM.out.all HM.out.block (by decide) hg
  ·
   exact mx_apart HM.out.all HM.out.store (by decide) hg e)
 rw[hwa]
 have hwza:=hkw.size
 have HBA:=Lib.hid hba
 have HOXA:=Lib.hid hox
 have HKW:=Lib.hid hkw
 have HRA:=Lib.hid hra
 have HNX:=Lib.hid hnx
 clear hwa hka hba hnx hox hkw hra HOX HKG HB2 p0 fp0 hnb hi0 hz0 hz1 hz2
 clear i0
 obtain⟨i0,hi0,hz0,hz1,hz2⟩:=info_parts ainfo_ent
 have c0:wa.cell? ⟨b,0,none⟩=some (.slice Ax SL kx):=mx_cell (j:=0) HBA.out
 have c1:wa.cell? ⟨b,1,none⟩=some (.slice Aal A.all.length cal):=mx_cell (j:=1) HBA.out
 refine wp_region_sink_at (S:=fun w'=>w'.cell? ⟨b,0,none⟩=some (.slice Ax SL kx)∧w'.cell? ⟨b,1,none⟩=some (.slice Aal A.all.length cal)) (by kernel_rfl) rfl (by kernel_rfl) ⟨c0,c1⟩ (fun hHeld=>?_)
 obtain⟨wD,hwD⟩: ∃x,wa.drew=x:=⟨_,rfl⟩
 have hbD:Below wa.heap.size wa wD:=by rw[←hwD];exact mx_drew wa
 rw[hwD]at hHeld⊢
 have hzD:=hbD.size
 have HBD:=Lib.hid hbD
 clear hwD hbD c0 c1
 refine takeS 0 54 ?_
 refine takeS 1 55 ?_
 refine takeS 2 56 ?_
 refine takeS 3 57 ?_
 refine takeS 4 58 ?_
 refine takeS 5 59 ?_
 refine takeS 6 60 ?_
 refine takeS 7 61 ?_
 refine takeS 8 62 ?_
 refine takeS 9 63 ?_
 refine takeS 10 64 ?_
 refine takeS 11 65 ?_
 refine takeS 12 66 ?_
 refine takeS 13 67 ?_
 refine ready1 14 (fun K hK=>?_)
 go_simp
 obtain⟨wN,hwN⟩: ∃x,wD.alloc (.cells #[.int .i64 (A.store.length:Nat),.int .i64 (SL:Nat),.int .i64 id,.bool false] 196)=x:=⟨_,rfl⟩
 have hbN:Below wD.heap.size wD wN:=by rw[←hwN];exact mx_al _ _
 have hsrc:=mx_src wD 196 [.int .i64 (A.store.length:Nat),.int .i64 (SL:Nat),.int .i64 id,.bool false]
 rw[hwN]at hsrc
 rw[hwN]
 have HSRC:=Lib.hid hsrc
 have HBN:=Lib.hid (HBD.out.trans (hbN.mono HBD.out.size))
 refine hK.out _ _ ⟨(hbN.cell (p:=⟨b,0,none⟩) (by show b<_;omega)).trans hHeld.1,(hbN.cell (p:=⟨b,1,none⟩) (by show b<_;omega)).trans hHeld.2⟩ (fun hHeld1=>?_)
 have hzN1:=hbN.size
 clear hK hHeld hbN hsrc hwN
 have hHeld:=hHeld1
 clear hHeld1
 refine ready1 15 (fun K hK=>?_)
 rw[if_pos (by rfl)]
 refine wp_append_any_at 69 (by rfl) _ _ 190 rfl 0 196 i0 (.agg #[.int .i64 0,.int .i64 0,.int .i64 0,.bool false]) 4 32 Tryz.underlying190 hi0 hz0 hz1 hz2 rfl (by decide) _ A.all.length _ (by rfl) (own_below HRA.out HBN.out) (.slice (some ⟨wD.heap.size,0,none⟩) 1 1) 1 [.int .i64 (A.store.length:Nat),.int .i64 (SL:Nat),.int .i64 id,.bool false] (by rfl) HSRC.out rfl (by simp[Value.oneCell']) (by unfold maxLen;omega) (by omega) (Nat.zero_le _) ?_
 intro v' w2 hown hgrow hat
 obtain⟨Ay,ky,rfl,_⟩:=mx_slice hown
 have hkb:Kept (fun g=>(Value.slice Aal A.all.length cal).ownBlock=some g) wa w2:=(Kept.of_below HBN.out).trans (Kept.grown hgrow) (fun i hi e=>e.symm)
 have hnb:(Value.slice Aal A.all.length cal).ownBlock≠some b:=mx_not HRA.out HBA.out (by decide)
 have hba':b<wa.heap.size:=by omega
 have HOY:=Lib.hid hown
 have HKB:=Lib.hid hkb
 have HNB:=Lib.hid hnb
 have HAY:=Lib.hid (show(Value.slice Ay (A.all.length+1) ky).ownBlock=(Value.slice Aal A.all.length cal).ownBlock∨(Value.slice Ay (A.all.length+1) ky).ownBlock=some wN.heap.size from hat)
 refine hK.out _ _ ⟨(hkb.cell (p:=⟨b,0,none⟩) hba' hnb).trans (mx_cell (j:=0) HBA.out),(hkb.cell (p:=⟨b,1,none⟩) hba' hnb).trans (mx_cell (j:=1) HBA.out)⟩ (fun hHeld1=>?_)
 clear hK hHeld hown hgrow hat hkb hnb
 refine takeS 16 70 ?_
 refine takeS 17 71 ?_
 refine wpAnyH_done (by kernel_rfl) ?_ _
 refine lastPost_normal ?_
 obtain⟨z0,z1⟩:=hHeld1
 have hblk:=(HKB.out.block b hba' HNB.out).trans HBA.out
 have fr1:=mx_free (j:=1) hblk
 have HBLK:=Lib.hid hblk
 clear hblk
 refine wpOp_step rfl (fun K hK=>?_)
 go_simp
 refine hK _ _ ?_
 clear hK z0 z1 fr1
 obtain⟨wf,hwf⟩: ∃x,w2.setCell ⟨b,1,none⟩ (.slice Ay (A.all.length+1) ky)=x:=⟨_,rfl⟩
 have hkf:Kept (fun g=>g=b) w2 wf:=by rw[←hwf];exact(Kept.refl (fun g=>g=b) w2).setCell ⟨b,1,none⟩ _ rfl
 have hbf:wf.heap[b]? =some (.cells #[.slice Ax SL kx,.slice Ay (A.all.length+1) ky,.int .i64 (A.used:Nat),.int .i64 (A.count:Nat),.int .i64 A.last,.bool true] 192 (0,0)):=by rw[←hwf];exact mx_set HBLK.out _ (j:=1)
 have hny:(Value.slice Ay (A.all.length+1) ky).ownBlock≠some b:=mx_not HOY.out HBLK.out (by decide)
 have hoy:wf.ownsRow 0 196 4 (.slice Ay (A.all.length+1) ky) (A.all.length+1) (A.all.flatMap Ent.cells++ [.int .i64 (A.store.length:Nat),.int .i64 (SL:Nat),.int .i64 id,.bool false]):=own_kept HOY.out hkf (fun g hg e=>by
  subst e
  exact hny hg)
 have hoxf:wf.ownsRow 0 32 1 (.slice Ax SL kx) SL (A.store.map (Value.int .i64)++c.map (Value.int .i64)):=own_kept (own_kept HOXA.out HKB.out (fun g hg e=>mx_apart HOXA.out HRA.out (by decide) hg e)) hkf (fun g hg e=>by
  subst e
  exact HNX.out hg)
 have hkwf:Kept (fun g=>g=b∨(Value.slice Ast A.store.length cst).ownBlock=some g∨(Value.slice Aal A.all.length cal).ownBlock=some g) w wf:=((HKW.out.mono (fun g _ h=>h.imp (fun x=>x) .inl)).trans HKB.out (fun i _ e=>.inr (.inr e))).trans hkf (fun i _ e=>.inl e)
 rw[hwf]
 have HBF:=Lib.hid hbf
 have HOYF:=Lib.hid hoy
 have HOXF:=Lib.hid hoxf
 have HKWF:=Lib.hid hkwf
 have HNY:=Lib.hid hny
 have hzf:=hkf.size
 have hbwf:=heap_lt hbf
 have hayb: ∀g,(Value.slice Ay (A.all.length+1) ky).ownBlock=some g→O g∨w.heap.size≤g∧g<wf.heap.size:=fun g hg=>by
  have h1:=(own_lt HOY.out g hg).2
  rcases HAY.out with h3|h3
  ·
   exact .inl (HM.out.allb g (h3▸hg))
  ·
   rw[hg]at h3
   have:=Option.some.inj h3
   exact .inr ⟨by omega,by omega⟩
 have haxb: ∀g,(Value.slice Ax SL kx).ownBlock=some g→O g∨w.heap.size≤g∧g<wf.heap.size:=fun g hg=>by
  have h1:=(own_lt HOXF.out g hg).2
  rcases HAT.out with h3|h3
  ·
   exact .inl (HM.out.storeb g (h3▸hg))
  ·
   rw[hg]at h3
   have:=Option.some.inj h3
   exact .inr ⟨by omega,by omega⟩
 have HAYB:=Lib.hid hayb
 have HAXB:=Lib.hid haxb
 clear hwf hkf hbf hny hoy hoxf hkwf hayb haxb HOY HOXA HKB HKW HRA HBLK HBA HBD HBN HSRC HAY HAT hi0 hz0 hz1 hz2
 clear i0
 have p2:wf.cell? ⟨b,2,none⟩=some (.int .i64 (A.used:Nat)):=mx_cell (j:=2) HBF.out
 have p3:wf.cell? ⟨b,3,none⟩=some (.int .i64 (A.count:Nat)):=mx_cell (j:=3) HBF.out
 have w9:IntKind.i64.wrap ((A.used:Int)+(c.length:Int))=(A.used:Int)+(c.length:Int):=IntWalk.i64_in _ (by omega)
 have w14:IntKind.i64.wrap ((A.count:Int)+1)=(A.count:Int)+1:=IntWalk.i64_in _ (by omega)
 go_wp2_with fail
 refine wp_region_held_drew (S:=fun _=>True) (by kernel_rfl) trivial (fun hHeld=>?_)
 obtain⟨wD,hwD⟩: ∃x,wf.drew=x:=⟨_,rfl⟩
 have hbD:Below wf.heap.size wf wD:=by rw[←hwD];exact mx_drew wf
 rw[hwD]
 have HBwD:=Lib.hid ((hbD.block b hbwf).trans HBF.out)
 have HKwD:=Lib.hid (Kept.of_below (O:=fun g=>g=b) hbD)
 have p2:=(hbD.cell (p:=⟨b,2,none⟩) hbwf).trans p2
 have p3:=(hbD.cell (p:=⟨b,3,none⟩) hbwf).trans p3
 clear hwD hbD
 refine takeF 0 72 (fun w hSw=>hSw) ?_
 refine takeF 1 73 (fun w hSw=>hSw) ?_
 refine takeF 2 74 (fun w hSw=>hSw) ?_
 refine takeF 3 75 (fun w hSw=>hSw) ?_
 refine takeF 4 76 (fun w hSw=>hSw) ?_
 refine takeF 5 77 (fun w hSw=>hSw) ?_
 refine takeF 7 79 (fun w hSw=>hSw) ?_
 refine takeF 8 80 (fun w hSw=>hSw) ?_
 refine takeF 10 82 (fun w hSw=>hSw) ?_
 refine takeF 11 83 (fun w hSw=>hSw) ?_
 refine takeF 12 84 (fun w hSw=>hSw) ?_
 refine takeF 15 87 (fun w hSw=>hSw) ?_
 refine wpAnyH_ready (rs:= [6,13]) (by kernel_rfl) (by simp) ?_
 refine AllReadyH.cons rfl (fun K hK=>?_) (AllReadyH.cons rfl (fun K hK=>?_) AllReadyH.nil)
 ·
  go_simp
  refine hK.out _ _ trivial (fun _=>?_)
  clear hK
  refine takeF 9 81 (fun w hSw=>hSw) ?_
  refine ready1 13 (fun K hK=>?_)
  go_simp
  refine hK.out _ _ trivial (fun _=>?_)
  clear hK
  refine takeF 14 86 (fun w hSw=>hSw) ?_
  clear p2 p3
  refine takeF 16 88 (fun w hSw=>hSw) ?_
  refine takeF 17 89 (fun w hSw=>hSw) ?_
  have p2:=mx_cell (j:=2) HBwD.out
  have fp2:=mx_free (j:=2) HBwD.out
  simp only[List.getElem?_toArray,List.getElem?_cons_zero,List.getElem?_cons_succ]at p2
  refine ready1 18 (fun K hK=>?_)
  go_simp
  obtain⟨wG,hwG⟩: ∃x,wD.setCell ⟨b,2,none⟩ (.int .i64 ((A.used:Int)+(c.length:Int)))=x:=⟨_,rfl⟩
  have hkwG:Kept (fun g=>g=b) wD wG:=by rw[←hwG];exact(Kept.refl (fun g=>g=b) wD).setCell ⟨b,2,none⟩ _ rfl
  have HBwG:=Lib.hid (show wG.heap[b]? =some (.cells #[.slice Ax SL kx,.slice Ay (A.all.length+1) ky,.int .i64 ((A.used:Int)+(c.length:Int)),.int .i64 (A.count:Nat),.int .i64 A.last,.bool true] 192 (0,0))from by rw[←hwG];exact mx_set HBwD.out _ (j:=2))
  have HKwG:=Lib.hid (HKwD.out.trans hkwG (fun i _ e=>e))
  rw[hwG]
  refine hK.out _ _ trivial (fun _=>?_)
  clear hK hwG hkwG p2 fp2
  refine takeF 19 90 (fun w hSw=>hSw) ?_
  refine takeF 20 91 (fun w hSw=>hSw) ?_
  have p3:=mx_cell (j:=3) HBwG.out
  have fp3:=mx_free (j:=3) HBwG.out
  simp only[List.getElem?_toArray,List.getElem?_cons_zero,List.getElem?_cons_succ]at p3
  refine ready1 21 (fun K hK=>?_)
  go_simp
  obtain⟨wH,hwH⟩: ∃x,wG.setCell ⟨b,3,none⟩ (.int .i64 ((A.count:Int)+1))=x:=⟨_,rfl⟩
  have hkwH:Kept (fun g=>g=b) wG wH:=by rw[←hwH];exact(Kept.refl (fun g=>g=b) wG).setCell ⟨b,3,none⟩ _ rfl
  have HBwH:=Lib.hid (show wH.heap[b]? =some (.cells #[.slice Ax SL kx,.slice Ay (A.all.length+1) ky,.int .i64 ((A.used:Int)+(c.length:Int)),.int .i64 ((A.count:Int)+1),.int .i64 A.last,.bool true] 192 (0,0))from by rw[←hwH];exact mx_set HBwG.out _ (j:=3))
  have HKwH:=Lib.hid (HKwG.out.trans hkwH (fun i _ e=>e))
  rw[hwH]
  refine hK.out _ _ trivial (fun _=>?_)
  clear hK hwH hkwH p3 fp3
  refine takeF 22 92 (fun w hSw=>hSw) ?_
  refine takeF 23 93 (fun w hSw=>hSw) ?_
  have p4:=mx_cell (j:=4) HBwH.out
  have fp4:=mx_free (j:=4) HBwH.out
  simp only[List.getElem?_toArray,List.getElem?_cons_zero,List.getElem?_cons_succ]at p4
  refine ready1 24 (fun K hK=>?_)
  go_simp
  obtain⟨wI,hwI⟩: ∃x,wH.setCell ⟨b,4,none⟩ (.int .i64 id)=x:=⟨_,rfl⟩
  have hkwI:Kept (fun g=>g=b) wH wI:=by rw[←hwI];exact(Kept.refl (fun g=>g=b) wH).setCell ⟨b,4,none⟩ _ rfl
  have HBwI:=Lib.hid (show wI.heap[b]? =some (.cells #[.slice Ax SL kx,.slice Ay (A.all.length+1) ky,.int .i64 ((A.used:Int)+(c.length:Int)),.int .i64 ((A.count:Int)+1),.int .i64 id,.bool true] 192 (0,0))from by rw[←hwI];exact mx_set HBwH.out _ (j:=4))
  have HKwI:=Lib.hid (HKwH.out.trans hkwI (fun i _ e=>e))
  rw[hwI]
  refine hK.out _ _ trivial (fun _=>?_)
  clear hK hwI hkwI p4 fp4
  refine wpAnyH_done (by kernel_rfl) ?_ _
  go_wp2_with fail
  go_ret
  exact⟨rfl,ar_added hid hid2 hus hal hct HSL.out HK.out HM.out hbw hbwf HBwI.out ((HKWF.out.trans HKwI.out (fun i _ e=>.inl e)).mono (fun g _ h=>h)) HKwI.out HOXF.out HOYF.out HNX.out HNY.out HAXB.out HAYB.out hslb⟩
 ·
  go_simp
  refine hK.out _ _ trivial (fun _=>?_)
  clear hK
  refine takeF 14 86 (fun w hSw=>hSw) ?_
  refine ready1 6 (fun K hK=>?_)
  go_simp
  refine hK.out _ _ trivial (fun _=>?_)
  clear hK
  refine takeF 9 81 (fun w hSw=>hSw) ?_
  clear p2 p3
  refine takeF 16 88 (fun w hSw=>hSw) ?_
  refine takeF 17 89 (fun w hSw=>hSw) ?_
  have p2:=mx_cell (j:=2) HBwD.out
  have fp2:=mx_free (j:=2) HBwD.out
  simp only[List.getElem?_toArray,List.getElem?_cons_zero,List.getElem?_cons_succ]at p2
  refine ready1 18 (fun K hK=>?_)
  go_simp
  obtain⟨wG,hwG⟩: ∃x,wD.setCell ⟨b,2,none⟩ (.int .i64 ((A.used:Int)+(c.length:Int)))=x:=⟨_,rfl⟩
  have hkwG:Kept (fun g=>g=b) wD wG:=by rw[←hwG];exact(Kept.refl (fun g=>g=b) wD).setCell ⟨b,2,none⟩ _ rfl
  have HBwG:=Lib.hid (show wG.heap[b]? =some (.cells #[.slice Ax SL kx,.slice Ay (A.all.length+1) ky,.int .i64 ((A.used:Int)+(c.length:Int)),.int .i64 (A.count:Nat),.int .i64 A.last,.bool true] 192 (0,0))from by rw[←hwG];exact mx_set HBwD.out _ (j:=2))
  have HKwG:=Lib.hid (HKwD.out.trans hkwG (fun i _ e=>e))
  rw[hwG]
  refine hK.out _ _ trivial (fun _=>?_)
  clear hK hwG hkwG p2 fp2
  refine takeF 19 90 (fun w hSw=>hSw) ?_
  refine takeF 20 91 (fun w hSw=>hSw) ?_
  have p3:=mx_cell (j:=3) HBwG.out
  have fp3:=mx_free (j:=3) HBwG.out
  simp only[List.getElem?_toArray,List.getElem?_cons_zero,List.getElem?_cons_succ]at p3
  refine ready1 21 (fun K hK=>?_)
  go_simp
  obtain⟨wH,hwH⟩: ∃x,wG.setCell ⟨b,3,none⟩ (.int .i64 ((A.count:Int)+1))=x:=⟨_,rfl⟩
  have hkwH:Kept (fun g=>g=b) wG wH:=by rw[←hwH];exact(Kept.refl (fun g=>g=b) wG).setCell ⟨b,3,none⟩ _ rfl
  have HBwH:=Lib.hid (show wH.heap[b]? =some (.cells #[.slice Ax SL kx,.slice Ay (A.all.length+1) ky,.int .i64 ((A.used:Int)+(c.length:Int)),.int .i64 ((A.count:Int)+1),.int .i64 A.last,.bool true] 192 (0,0))from by rw[←hwH];exact mx_set HBwG.out _ (j:=3))
  have HKwH:=Lib.hid (HKwG.out.trans hkwH (fun i _ e=>e))
  rw[hwH]
  refine hK.out _ _ trivial (fun _=>?_)
  clear hK hwH hkwH p3 fp3
  refine takeF 22 92 (fun w hSw=>hSw) ?_
  refine takeF 23 93 (fun w hSw=>hSw) ?_
  have p4:=mx_cell (j:=4) HBwH.out
  have fp4:=mx_free (j:=4) HBwH.out
  simp only[List.getElem?_toArray,List.getElem?_cons_zero,List.getElem?_cons_succ]at p4
  refine ready1 24 (fun K hK=>?_)
  go_simp
  obtain⟨wI,hwI⟩: ∃x,wH.setCell ⟨b,4,none⟩ (.int .i64 id)=x:=⟨_,rfl⟩
  have hkwI:Kept (fun g=>g=b) wH wI:=by rw[←hwI];exact(Kept.refl (fun g=>g=b) wH).setCell ⟨b,4,none⟩ _ rfl
  have HBwI:=Lib.hid (show wI.heap[b]? =some (.cells #[.slice Ax SL kx,.slice Ay (A.all.length+1) ky,.int .i64 ((A.used:Int)+(c.length:Int)),.int .i64 ((A.count:Int)+1),.int .i64 id,.bool true] 192 (0,0))from by rw[←hwI];exact mx_set HBwH.out _ (j:=4))
  have HKwI:=Lib.hid (HKwH.out.trans hkwI (fun i _ e=>e))
  rw[hwI]
  refine hK.out _ _ trivial (fun _=>?_)
  clear hK hwI hkwI p4 fp4
  refine wpAnyH_done (by kernel_rfl) ?_ _
  go_wp2_with fail
  go_ret
  exact⟨rfl,ar_added hid hid2 hus hal hct HSL.out HK.out HM.out hbw hbwf HBwI.out ((HKWF.out.trans HKwI.out (fun i _ e=>.inl e)).mono (fun g _ h=>h)) HKwI.out HOXF.out HOYF.out HNX.out HNY.out HAXB.out HAYB.out hslb⟩
theorem ar_add_bad {O Oc:Nat→Prop} (b:Nat) (A:Arn) (id:Int) (cv:Value) (c:List Int) (w:World) (h:ArAt O w b A) (hc:IntsIn Oc w cv c) (hr:clauseB c=false) (hcl:c.length≤140737488355328):
  Calls Tryz.prog 92 #[.pointer (some ⟨b,0,none⟩),.int .i64 id,cv] w fun e w'=>e= .returned (.int .i64 20)∧w=w':=by
 have HIS:=Lib.hid (ar_is b A w h)
 have hrc:=right_clause cv c w hc hcl
 rw[hr]at hrc
 have HRC:=Lib.hid hrc
 obtain⟨Ac,cc,rfl,_,_,_⟩:=hc
 clear h hrc hr
 go_enter Tryz.func92,Tryz.ntmps92
 go_wp2_with fail
 refine HIS.out.mono ?_
 rintro e w' ⟨rfl,rfl⟩
 go_wp2_with fail
 refine HRC.out.mono ?_
 rintro e w' ⟨rfl,rfl⟩
 go_wp2_with fail
 go_ret
 exact⟨rfl,rfl⟩
end Go.Proofs.YtoojmhjagipmdaaGreat
