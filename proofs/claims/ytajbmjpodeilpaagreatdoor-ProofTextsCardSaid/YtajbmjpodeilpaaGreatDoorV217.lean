/- Reference of layer 10: put. Reference of layer 10: New. package rat: rest. -/
import Derived.Test.YtajbmjpodeilpaaGreatDoorV216
import Derived.Test.YtajbmjpodeilpaaGreatDoorV214
namespace Go.Proofs.YtajbmjpodeilpaaGreatDoor
open Go.RowKit
theorem oj_free {w:World} {b j:Nat} {cs:Array Value} {t:TypeId} (h:w.heap[b]? =some (.cells cs t (0,0))):w.frozen? ⟨b,j,none⟩=false:=by
 simp[World.frozen?,h]
theorem set7_all {W:World} {r:Nat} {z0 z1 z2 z3 z4 z5 z6:Value} {t:TypeId} (h:W.heap[r]? =some (.cells #[z0,z1,z2,z3,z4,z5,z6] t (0,0))) (c0 c1 c2 c3 c4 c5 c6:Value):
  ∃W',(((((((W.setCell ⟨r,0,none⟩ c0).setCell ⟨r,1,none⟩ c1).setCell ⟨r,2,none⟩ c2).setCell ⟨r,3,none⟩ c3).setCell ⟨r,4,none⟩ c4).setCell ⟨r,5,none⟩ c5).setCell ⟨r,6,none⟩ c6)=W'∧W'.heap[r]? =some (.cells #[c0,c1,c2,c3,c4,c5,c6] t (0,0))∧Below r W W'∧Kept (fun g=>g=r) W W':=by
 have s0:=mx_set (j:=0) h c0
 have s1:=mx_set (j:=1) s0 c1
 have s2:=mx_set (j:=2) s1 c2
 have s3:=mx_set (j:=3) s2 c3
 have s4:=mx_set (j:=4) s3 c4
 have s5:=mx_set (j:=5) s4 c5
 have s6:=mx_set (j:=6) s5 c6
 have b0:Below r W _:=(Below.refl r W).setCell (p:=⟨r,0,none⟩) (Nat.le_refl _) c0
 have b1:=b0.setCell (p:=⟨r,1,none⟩) (Nat.le_refl _) c1
 have b2:=b1.setCell (p:=⟨r,2,none⟩) (Nat.le_refl _) c2
 have b3:=b2.setCell (p:=⟨r,3,none⟩) (Nat.le_refl _) c3
 have b4:=b3.setCell (p:=⟨r,4,none⟩) (Nat.le_refl _) c4
 have b5:=b4.setCell (p:=⟨r,5,none⟩) (Nat.le_refl _) c5
 have b6:=b5.setCell (p:=⟨r,6,none⟩) (Nat.le_refl _) c6
 have k0:=(Kept.refl (fun g=>g=r) W).setCell ⟨r,0,none⟩ c0 rfl
 have k1:=k0.setCell ⟨r,1,none⟩ c1 rfl
 have k2:=k1.setCell ⟨r,2,none⟩ c2 rfl
 have k3:=k2.setCell ⟨r,3,none⟩ c3 rfl
 have k4:=k3.setCell ⟨r,4,none⟩ c4 rfl
 have k5:=k4.setCell ⟨r,5,none⟩ c5 rfl
 have k6:=k5.setCell ⟨r,6,none⟩ c6 rfl
 simp only[List.setIfInBounds_toArray,List.set_cons_zero,List.set_cons_succ]at s6
 exact⟨_,rfl,s6,b6,k6⟩
theorem res_ck {fn:Func} {s:Nat} (h:fn.results= #[.cell s 75]) {w:World} {r:Nat} {c0 c1 c2 c3 c4 c5 c6:Value} {t:TypeId} (h6:w.heap[r]? =some (.cells #[c0,c1,c2,c3,c4,c5,c6] t (0,0)))
  (tmps:Array Value) (t6:tmps[s]?.getD undef= .pointer (some ⟨r,0,none⟩)):
  (results fn tmps).run Tryz.prog w= .ok (.agg #[c0,c1,c2,c3,c4,c5,c6]) w:=by
 have p0:=mx_cell (j:=0) h6
 have p1:=mx_cell (j:=1) h6
 have p2:=mx_cell (j:=2) h6
 have p3:=mx_cell (j:=3) h6
 have p4:=mx_cell (j:=4) h6
 have p5:=mx_cell (j:=5) h6
 have p6:=mx_cell (j:=6) h6
 simp at p0 p1 p2 p3 p4 p5 p6
 simp[results,h,go_sem,t6,p0,p1,p2,p3,p4,p5,p6]
def ckV (ev:Value) (b:Bool) (la ad de ra lg:Int):Value:=.agg #[ev,.int .i64 la,.bool b,.int .i64 ad,.int .i64 de,.int .i64 ra,.int .i64 lg]
set_option maxRecDepth 100000 in
set_option maxHeartbeats 4000000 in
theorem ref_put10 {O:Nat→Prop} (ev:Value) (es:Ents) (b:Bool) (la ad de ra lg id:Int) (u:Value) (c:List Int) (w:World) (h:EntIn O w ev es) (hu:IntsIn O w u c) (hel:es.length≤1000000) (hcl:c.length≤100000000000):
  Calls Tryz.prog 61 #[ckV ev b la ad de ra lg,.int .i64 id,u] w fun e w'=>(∃v K,e= .returned (ckV v (b||c.isEmpty) id ad de ra (max lg ((es.length+1:Nat):Int)))∧RE O w.heap.size w' v K∧K.map (·.1)=es++ [(id,c)])∧Below w.heap.size w w':=by
 obtain⟨i0,hi0,iz1,iz2,iz3⟩:=info_parts oinfo_ent
 obtain⟨K,hK,hsrc,hlow⟩:=h.list
 have hul:=hu.lt
 have HUL:=Lib.hid hul
 obtain⟨A,ce,rfl,hce,_⟩:=h
 obtain⟨Au,cu,rfl,hcu,_⟩:=hu
 obtain⟨W1,hW1,hb1,hx1,hz1⟩:=al_new w #[.slice A es.length ce,.int .i64 la,.bool b,.int .i64 ad,.int .i64 de,.int .i64 ra,.int .i64 lg] 75
 obtain⟨W2,hW2,hb2,hx2,hz2⟩:=al_new W1 #[.slice none 0 0,.int .i64 0,.bool false,.int .i64 0,.int .i64 0,.int .i64 0,.int .i64 0] 75
 have HW1:=Lib.hid hW1
 have HW2:=Lib.hid hW2
 obtain⟨ie,hie⟩: ∃z,c.isEmpty=z:=⟨_,rfl⟩
 have qe:((c.length:Int)==0)=ie:=by
  rw[←hie]
  cases c with
  | nil=>rfl
  | cons _ _=>exact beq_eq_false_iff_ne.2 (by simp only[List.length_cons];omega)
 rw[hie]
 clear hie
 unfold ckV
 go_enter Tryz.func61,Tryz.ntmps61
 go_upto_region 1 with fail
 have hw2:Below w.heap.size w W2:=hb1.trans (hb2.mono hb1.size)
 have hx12:W2.heap[w.heap.size]? =some (.cells #[.slice A es.length ce,.int .i64 la,.bool b,.int .i64 ad,.int .i64 de,.int .i64 ra,.int .i64 lg] 75 (0,0)):=(hb2.block _ (by omega)).trans hx1
 rw[hz1]at hx2
 have ho1:=own_newS W2 [] 179 2 0 rfl (by omega)
 have hb3:=mx_al W2 (.cells ([] :List Value).toArray 179)
 obtain⟨W3,hW3⟩: ∃z,W2.alloc (.cells ([] :List Value).toArray 179)=z:=⟨_,rfl⟩
 rw[hW3]at ho1 hb3
 have HW3:=Lib.hid hW3
 have hx13:=(hb3.block w.heap.size (by omega)).trans hx12
 have y0:(W2.alloc (.cells #[] 179)).cell? ⟨w.heap.size,0,none⟩=some (.slice A es.length ce):=(congrArg (fun z=>World.cell? z ⟨w.heap.size,0,none⟩) hW3).trans (mx_cell (j:=0) hx13)
 have HX1:=Lib.hid hx12
 have HX2:=Lib.hid hx2
 have HO1:=Lib.hid ho1
 have HB3:=Lib.hid hb3
 have HZ:=Lib.hid (show W2.heap.size=w.heap.size+2 by omega)
 have HWB:=Lib.hid hw2
 have HK:=Lib.hid hK
 have HSR:=Lib.hid (hsrc.below (hw2.trans (hb3.mono hw2.size)))
 have HLOW:=Lib.hid hlow
 have hkl:K.length=es.length:=by rw[←hK,List.length_map]
 have HKL:=Lib.hid hkl
 have HCL:=Lib.hid (show(K.flatMap REn.cells).length=es.length*2 from by rw[rcells_len,hkl])
 have HONE:=Lib.hid (show∀z∈K.flatMap REn.cells,z.oneCell'=true from fun z hz=>by
  obtain⟨x,hx,hm⟩:=List.mem_flatMap.1 hz
  rcases List.mem_cons.1 hm with rfl|hm
  ·rfl
  ·obtain rfl:=List.mem_singleton.1 hm
   obtain⟨_,_,h2,_⟩:=hlow x hx
   rw[h2];rfl)
 clear hx1 hx2 hx12 hx13 ho1 hb3 hW1 hW2 hz1 hz2 hb1 hb2 hW3 hw2 hK hsrc hlow hkl
 go_upto_region 2 with(at_builtin;first|(rw[HW3.out];refine wpList_append_any rfl _ _ 73 rfl W2.heap.size 179 i0 (.agg #[.int .i64 0,.slice none 0 0]) 2 32 Tryz.underlying73 hi0 iz1 iz2 iz3 rfl (by decide) _ 0 _ rfl HO1.out (.slice A es.length ce) es.length (K.flatMap REn.cells) rfl HSR.out HCL.out HONE.out (by unfold maxLen;omega) (by omega) HB3.out.size ?_;intro v' W4 hown hgrow hat;rw[Nat.zero_add,List.nil_append]at hown;obtain⟨A4,k4,rfl,_⟩:=mx_slice hown;have hb4:Below W2.heap.size W2 W4:=HB3.out.trans (Below.grown (Below.refl _ _) (show W3.grownBy W4 (Value.slice (some ⟨W2.heap.size,0,none⟩) 0 0).ownBlock from hgrow) HB3.out.size (fun g e=>(own_lt HO1.out g e).1));have HO4:=Lib.hid hown;have HB4:=Lib.hid hb4;have hz4:=hb4.size;clear hown hgrow hat hb4)|(refine wpList_append_own_at _ rfl _ _ 73 rfl W2.heap.size 179 i0 (.agg #[.int .i64 0,.slice none 0 0]) 2 32 Tryz.underlying73 hi0 iz1 iz2 iz3 rfl (by decide) _ es.length _ rfl (own_below HO4.out (mx_al W4 _)) ⟨W4.heap.size,0,none⟩ 1 1 [.int .i64 id,.slice Au c.length cu] rfl rfl (fun j u hj=>cells_list_new W4 [.int .i64 id,.slice Au c.length cu] 179 j u hj) (by simp[Value.oneCell']) (by unfold maxLen;omega) (by omega) (by simp;omega) ?_;intro v' W5 hown hgrow hnl hat;obtain⟨A5,k5,hv5,_⟩:=mx_slice hown;subst hv5;have HO5:=Lib.hid hown;have HB5:=Lib.hid (HB4.out.trans (grow_low HO4.out hgrow hz4));have HX15:=Lib.hid ((HB5.out.block w.heap.size (by have:=HZ.out;omega)).trans HX1.out);have HX25:=Lib.hid ((HB5.out.block (w.heap.size+1) (by have:=HZ.out;omega)).trans HX2.out);have z0:=mx_cell (j:=0) HX15.out;have f0:=oj_free (j:=0) HX15.out;clear hown hgrow hnl hat y0))
 obtain⟨W6,hW6⟩: ∃z,W5.setCell ⟨w.heap.size,0,none⟩ (.slice A5 (es.length+1) k5)=z:=⟨_,rfl⟩
 have hx6:W6.heap[w.heap.size]? =some (.cells #[.slice A5 (es.length+1) k5,.int .i64 la,.bool b,.int .i64 ad,.int .i64 de,.int .i64 ra,.int .i64 lg] 75 (0,0)):=by rw[←hW6];exact mx_set (j:=0) HX15.out _
 have hr6:W6.heap[w.heap.size+1]? =some (.cells #[.slice none 0 0,.int .i64 0,.bool false,.int .i64 0,.int .i64 0,.int .i64 0,.int .i64 0] 75 (0,0)):=by rw[←hW6,Below.heap_setCell _ _ _ _ (by simp)];exact HX25.out
 rw[hW6]
 have hb6:Below w.heap.size W5 W6:=by rw[←hW6];exact(Below.refl _ _).setCell (p:=⟨w.heap.size,_,none⟩) (Nat.le_refl _) _
 have hk6:Kept (fun g=>g=w.heap.size∨g=w.heap.size+1) W5 W6:=by rw[←hW6];exact(Kept.refl _ _).setCell ⟨w.heap.size,0,none⟩ _ (.inl rfl)
 have HX6:=Lib.hid hx6
 have HR6:=Lib.hid hr6
 have HB6:=Lib.hid hb6
 have HK6:=Lib.hid hk6
 have y1:=mx_cell (j:=1) hx6
 have f1:=oj_free (j:=1) hx6
 clear hx6 hr6 hb6 hk6 hW6 z0 f0
 go_upto_region 3 with fail
 obtain⟨W7,hW7⟩: ∃z,W6.setCell ⟨w.heap.size,1,none⟩ (.int .i64 id)=z:=⟨_,rfl⟩
 have hx7:W7.heap[w.heap.size]? =some (.cells #[.slice A5 (es.length+1) k5,.int .i64 id,.bool b,.int .i64 ad,.int .i64 de,.int .i64 ra,.int .i64 lg] 75 (0,0)):=by rw[←hW7];exact mx_set (j:=1) HX6.out _
 have hr7:W7.heap[w.heap.size+1]? =some (.cells #[.slice none 0 0,.int .i64 0,.bool false,.int .i64 0,.int .i64 0,.int .i64 0,.int .i64 0] 75 (0,0)):=by rw[←hW7,Below.heap_setCell _ _ _ _ (by simp)];exact HR6.out
 rw[hW7]
 have hb7:Below w.heap.size W6 W7:=by rw[←hW7];exact(Below.refl _ _).setCell (p:=⟨w.heap.size,_,none⟩) (Nat.le_refl _) _
 have hk7:Kept (fun g=>g=w.heap.size∨g=w.heap.size+1) W6 W7:=by rw[←hW7];exact(Kept.refl _ _).setCell ⟨w.heap.size,1,none⟩ _ (.inl rfl)
 have HX7:=Lib.hid hx7
 have HR7:=Lib.hid hr7
 have HB7:=Lib.hid (HB6.out.trans hb7)
 have HK7:=Lib.hid (HK6.out.trans hk7 (fun _ _ h=>h))
 have y6:=mx_cell (j:=6) hx7
 have y0:=mx_cell (j:=0) hx7
 have f6:=oj_free (j:=6) hx7
 clear hx7 hr7 hb7 hk7 hW7 y1 f1
 go_upto_region 4 with fail
 obtain⟨W8,hW8⟩: ∃z,W7.setCell ⟨w.heap.size,6,none⟩ (.int .i64 (max lg ((es.length:Int)+1)))=z:=⟨_,rfl⟩
 have hx8:W8.heap[w.heap.size]? =some (.cells #[.slice A5 (es.length+1) k5,.int .i64 id,.bool b,.int .i64 ad,.int .i64 de,.int .i64 ra,.int .i64 (max lg ((es.length:Int)+1))] 75 (0,0)):=by rw[←hW8];exact mx_set (j:=6) HX7.out _
 have hr8:W8.heap[w.heap.size+1]? =some (.cells #[.slice none 0 0,.int .i64 0,.bool false,.int .i64 0,.int .i64 0,.int .i64 0,.int .i64 0] 75 (0,0)):=by rw[←hW8,Below.heap_setCell _ _ _ _ (by simp)];exact HR7.out
 rw[hW8]
 have hb8:Below w.heap.size W7 W8:=by rw[←hW8];exact(Below.refl _ _).setCell (p:=⟨w.heap.size,_,none⟩) (Nat.le_refl _) _
 have hk8:Kept (fun g=>g=w.heap.size∨g=w.heap.size+1) W7 W8:=by rw[←hW8];exact(Kept.refl _ _).setCell ⟨w.heap.size,6,none⟩ _ (.inl rfl)
 have HX8:=Lib.hid hx8
 have HR8:=Lib.hid hr8
 have HB8:=Lib.hid (HB7.out.trans hb8)
 have HK8:=Lib.hid (HK7.out.trans hk8 (fun _ _ h=>h))
 have y2:=mx_cell (j:=2) hx8
 have f2:=oj_free (j:=2) hx8
 clear hx8 hr8 hb8 hk8 hW8 y6 y0 f6
 have HWB5:=Lib.hid (HWB.out.trans (HB5.out.mono HWB.out.size))
 have HZ5:=Lib.hid (show w.heap.size+2≤W5.heap.size from by have:=HB5.out.size;have:=HZ.out;omega)
 have HRE:=Lib.hid (show∀W,Below w.heap.size W5 W→Kept (fun g=>g=w.heap.size∨g=w.heap.size+1) W5 W→RE O w.heap.size W (.slice A5 (es.length+1) k5) (K++ [((id,c),.slice Au c.length cu)])from fun W hW hkW=>by
  have hL:(K++ [(((id,c),.slice Au c.length cu):REn)]).length=es.length+1:=by rw[List.length_append,List.length_singleton,HKL.out]
  refine⟨?_,fun x hx=>?_⟩
  ·rw[hL,List.flatMap_append]
   exact own_kept (own_rebase (b':=w.heap.size) HO5.out (fun g hg=>by have:=(own_lt HO5.out g hg).1;have:=HZ.out;omega)) hkW (fun g hg e=>by have:=(own_lt HO5.out g hg).1;have:=HZ.out;omega)
  ·rcases List.mem_append.1 hx with hx|hx
   ·exact ints_low (HLOW.out x hx) (HWB5.out.trans hW)
   ·obtain rfl:=List.mem_singleton.1 hx
    exact ints_low HUL.out (HWB5.out.trans hW))
 have HMAP:=Lib.hid (show(K++ [(((id,c),.slice Au c.length cu):REn)]).map (·.1)=es++ [(id,c)]from by rw[List.map_append,HK.out];rfl)
 cases ie with
 | false=>
  clear y2 f2
  have y0:=mx_cell (j:=0) HX8.out
  have y1:=mx_cell (j:=1) HX8.out
  have y2:=mx_cell (j:=2) HX8.out
  have y3:=mx_cell (j:=3) HX8.out
  have y4:=mx_cell (j:=4) HX8.out
  have y5:=mx_cell (j:=5) HX8.out
  have y6:=mx_cell (j:=6) HX8.out
  have z0:=mx_cell (j:=0) HR8.out
  have z1:=mx_cell (j:=1) HR8.out
  have z2:=mx_cell (j:=2) HR8.out
  have z3:=mx_cell (j:=3) HR8.out
  have z4:=mx_cell (j:=4) HR8.out
  have z5:=mx_cell (j:=5) HR8.out
  have z6:=mx_cell (j:=6) HR8.out
  have f0:=oj_free (j:=0) HR8.out
  have f1:=oj_free (j:=1) HR8.out
  have f2:=oj_free (j:=2) HR8.out
  have f3:=oj_free (j:=3) HR8.out
  have f4:=oj_free (j:=4) HR8.out
  have f5:=oj_free (j:=5) HR8.out
  have f6:=oj_free (j:=6) HR8.out
  go_wp2_with fail
  obtain⟨WF,hWF,hrF,hbF,hkF⟩:=set7_all HR8.out (.slice A5 (es.length+1) k5) (.int .i64 id) (.bool b) (.int .i64 ad) (.int .i64 de) (.int .i64 ra) (.int .i64 (max lg ((es.length:Int)+1)))
  rw[hWF]
  refine bodyPost_ret (res_ck rfl hrF _ rfl) rfl ?_
  have hbL:Below w.heap.size W5 WF:=HB8.out.trans (hbF.mono (by omega))
  exact⟨⟨_,_,by rw[Bool.or_false];rfl,HRE.out WF hbL (HK8.out.trans (hkF.mono (fun g _ e=>.inr e)) (fun _ _ h=>h)),HMAP.out⟩,HWB5.out.trans hbL⟩
 | true=>
  go_upto_region 6 with fail
  obtain⟨W9,hW9⟩: ∃z,W8.setCell ⟨w.heap.size,2,none⟩ (.bool true)=z:=⟨_,rfl⟩
  have hx9:W9.heap[w.heap.size]? =some (.cells #[.slice A5 (es.length+1) k5,.int .i64 id,.bool true,.int .i64 ad,.int .i64 de,.int .i64 ra,.int .i64 (max lg ((es.length:Int)+1))] 75 (0,0)):=by rw[←hW9];exact mx_set (j:=2) HX8.out _
  have hr9:W9.heap[w.heap.size+1]? =some (.cells #[.slice none 0 0,.int .i64 0,.bool false,.int .i64 0,.int .i64 0,.int .i64 0,.int .i64 0] 75 (0,0)):=by rw[←hW9,Below.heap_setCell _ _ _ _ (by simp)];exact HR8.out
  rw[hW9]
  have hb9:Below w.heap.size W8 W9:=by rw[←hW9];exact(Below.refl _ _).setCell (p:=⟨w.heap.size,_,none⟩) (Nat.le_refl _) _
  have hk9:Kept (fun g=>g=w.heap.size∨g=w.heap.size+1) W8 W9:=by rw[←hW9];exact(Kept.refl _ _).setCell ⟨w.heap.size,2,none⟩ _ (.inl rfl)
  have HX9:=Lib.hid hx9
  have HR9:=Lib.hid hr9
  have HB9:=Lib.hid (HB8.out.trans hb9)
  have HK9:=Lib.hid (HK8.out.trans hk9 (fun _ _ h=>h))
  clear hx9 hr9 hb9 hk9 hW9 y2 f2
  have y0:=mx_cell (j:=0) HX9.out
  have y1:=mx_cell (j:=1) HX9.out
  have y2:=mx_cell (j:=2) HX9.out
  have y3:=mx_cell (j:=3) HX9.out
  have y4:=mx_cell (j:=4) HX9.out
  have y5:=mx_cell (j:=5) HX9.out
  have y6:=mx_cell (j:=6) HX9.out
  have z0:=mx_cell (j:=0) HR9.out
  have z1:=mx_cell (j:=1) HR9.out
  have z2:=mx_cell (j:=2) HR9.out
  have z3:=mx_cell (j:=3) HR9.out
  have z4:=mx_cell (j:=4) HR9.out
  have z5:=mx_cell (j:=5) HR9.out
  have z6:=mx_cell (j:=6) HR9.out
  have f0:=oj_free (j:=0) HR9.out
  have f1:=oj_free (j:=1) HR9.out
  have f2:=oj_free (j:=2) HR9.out
  have f3:=oj_free (j:=3) HR9.out
  have f4:=oj_free (j:=4) HR9.out
  have f5:=oj_free (j:=5) HR9.out
  have f6:=oj_free (j:=6) HR9.out
  go_wp2_with fail
  obtain⟨WF,hWF,hrF,hbF,hkF⟩:=set7_all HR9.out (.slice A5 (es.length+1) k5) (.int .i64 id) (.bool true) (.int .i64 ad) (.int .i64 de) (.int .i64 ra) (.int .i64 (max lg ((es.length:Int)+1)))
  rw[hWF]
  refine bodyPost_ret (res_ck rfl hrF _ rfl) rfl ?_
  have hbL:Below w.heap.size W5 WF:=HB9.out.trans (hbF.mono (by omega))
  exact⟨⟨_,_,by rw[Bool.or_true];rfl,HRE.out WF hbL (HK9.out.trans (hkF.mono (fun g _ e=>.inr e)) (fun _ _ h=>h)),HMAP.out⟩,HWB5.out.trans hbL⟩
end Go.Proofs.YtajbmjpodeilpaaGreatDoor
namespace Go.Proofs.YtajbmjpodeilpaaGreatDoor
open Go.RowKit
def Ckr.putR (k:Ckr) (id:Int) (c:List Int):Ckr:=⟨k.ents++ [(id,c)],id,k.proved||c.isEmpty,k.adds,k.dels,k.rats,max k.largest ((k.ents.length+1:Nat):Int)⟩
def Ckr.putAllR (k:Ckr):Nat→List (List Int)→Ckr
 | _,[]=>k
 | i,c::r=>(k.putR ((i:Int)+1) c).putAllR (i+1) r
def ckK (v:Value) (k:Ckr):Value:=ckV v k.proved k.last k.adds k.dels k.rats k.largest
def ckCells (v:Value) (k:Ckr):Array Value:= #[v,.int .i64 k.last,.bool k.proved,.int .i64 k.adds,.int .i64 k.dels,.int .i64 k.rats,.int .i64 k.largest]
set_option maxRecDepth 100000 in
set_option maxHeartbeats 4000000 in
theorem ref_new10 {O:Nat→Prop} (vn:Int) (v:Value) (cs:List (List Int)) (w:World) (h:ClsIn O w v cs) (hl:cs.length≤100000) (hcl: ∀c∈cs,c.length≤100000000000):
  Calls Tryz.prog 30 #[.agg #[.int .i64 vn,v]] w fun e w'=>(∃v',e= .returned (ckK v' (ckr0.putAllR 0 cs))∧EntIn (fun g=>O g∨w.heap.size≤g) w' v' (ckr0.putAllR 0 cs).ents)∧Below w.heap.size w w':=by
 obtain⟨R,hR⟩: ∃R,ckr0.putAllR 0 cs=R:=⟨_,rfl⟩
 rw[hR]
 have HR0:=Lib.hid hR
 have HCL:=Lib.hid hcl
 have HC:=Lib.hid h
 obtain⟨A,cc,rfl,hcc,_⟩:=h
 obtain⟨W1,hW1,hb1,hx1,hz1⟩:=al_new w #[.int .i64 vn,.slice A cs.length cc] 54
 obtain⟨W2,hW2,hb2,hx2,hz2⟩:=al_new W1 #[.slice none 0 0,.int .i64 0,.bool false,.int .i64 0,.int .i64 0,.int .i64 0,.int .i64 0] 75
 obtain⟨W3,hW3,hb3,hx3,hz3⟩:=al_new W2 #[.slice none 0 0,.int .i64 0,.bool false,.int .i64 0,.int .i64 0,.int .i64 0,.int .i64 0] 75
 have HB3:=Lib.hid (show Below w.heap.size w W3 from(hb1.trans (hb2.mono hb1.size)).trans (hb3.mono (by omega)))
 have HX1:=Lib.hid (show W3.heap[w.heap.size]? =some (.cells #[.int .i64 vn,.slice A cs.length cc] 54 (0,0))from(hb3.block _ (by omega)).trans ((hb2.block _ (by omega)).trans hx1))
 have HX2:=Lib.hid (show W3.heap[W1.heap.size]? =some (.cells #[.slice none 0 0,.int .i64 0,.bool false,.int .i64 0,.int .i64 0,.int .i64 0,.int .i64 0] 75 (0,0))from(hb3.block _ (by omega)).trans hx2)
 have HX3:=Lib.hid (show W3.heap[W2.heap.size]? =some (.cells (ckCells (.slice none 0 0) ckr0) 75 (0,0))from hx3)
 have HZ:=Lib.hid (show W1.heap.size=w.heap.size+1∧W2.heap.size=w.heap.size+2∧W3.heap.size=w.heap.size+3 by omega)
 have HC3:=Lib.hid (show ClsIn (fun g=>O g∧g<w.heap.size) w (.slice A cs.length cc) cs from by
  obtain⟨A',c',h1,h2,h3,h4⟩:=HC.out
  refine⟨A',c',h1,h2,h3,fun i xs hi=>?_⟩
  obtain⟨g,o,u,e1,e2,e3,e4,e5⟩:=h4 i xs hi
  exact⟨g,o,u,e1,e2,⟨e3,e2⟩,e4,e5.lt⟩)
 have HW3:=Lib.hid hW3
 clear hR hcl hx1 hx2 hx3 hb1 hb2 hb3 hz1 hz2 hz3 hW3 HC
 go_enter Tryz.func30,Tryz.ntmps30
 go_upto_region 2 with fail
 rw[HW3.out]
 clear hW1 hW2
 go_wp2_with fail
 go_loopw [4] (fun iv wr=> ∃(i:Nat) (ev:Value) (k:Ckr),i≤cs.length∧iv= .int .i64 i∧Hid (k.putAllR i (cs.drop i)=R)∧Hid (k.ents.length≤i)∧Hid (wr.heap[W2.heap.size]? =some (.cells (ckCells ev k) 75 (0,0)))∧Hid (EntIn (fun g=>(O g∨w.heap.size≤g)∧g≠W1.heap.size∧g≠W2.heap.size) wr ev k.ents)∧Hid (Kept (fun g=>g=W2.heap.size) W3 wr)) (fun iv _=>cs.length-(intOf iv).toNat)
 case atStart=>exact⟨0,.slice none 0 0,ckr0,Nat.zero_le _,rfl,Lib.hid HR0.out,Lib.hid (Nat.le_refl _),Lib.hid HX3.out,Lib.hid ⟨none,0,rfl,Nat.le_refl _,fun _=>rfl,fun i p hi=>by cases hi⟩,Lib.hid (Kept.refl _ _)⟩
 case round=>
  obtain⟨i,ev,k,hi,rfl,HK,HKL,HBX,HE,HKP⟩:=hrel
  obtain⟨z1,z2,z3⟩:=HZ.out
  have hzr:=HKP.out.size
  have HX1r:=Lib.hid ((HKP.out.block w.heap.size (by omega) (by omega)).trans HX1.out)
  have HX2r:=Lib.hid ((HKP.out.block W1.heap.size (by omega) (by omega)).trans HX2.out)
  have e1:=mx_cell (j:=1) HX1r.out
  obtain⟨Ae,ce,rfl,_⟩:=id HE.out
  by_cases hlt:i<cs.length
  ·obtain⟨c,hc⟩:=atOf hlt
   have hkk:=HK.out
   rw[dropAt hc,Ckr.putAllR]at hkk
   have HN:=Lib.hid hkk
   have hcm:=HCL.out c (List.mem_of_getElem? hc)
   have hkl:=HKL.out
   obtain⟨A2,c2,hA2,_,_,hx⟩:=HC3.out
   simp only[Value.slice.injEq,true_and]at hA2
   obtain⟨rfl,rfl⟩:=hA2
   obtain⟨g,o,u,rfl,hg,_,d0,hu⟩:=hx i c hc
   have hkw:Kept (fun g=>w.heap.size≤g) w wr:=(Kept.of_below HB3.out).trans (HKP.out.mono (O':=fun g=>w.heap.size≤g) (fun g _ e=>by omega)) (fun _ _ h=>h) |>.mono (fun _ _ h=>h)
   have hur:=hu.kept hkw (fun g hg h=>by have:=hg.2;omega)
   have d0r:=(hkw.cell (p:=⟨g,o+i,none⟩) hg (by simp;omega)).trans d0
   have hgr:g<wr.heap.size:=by omega
   have hB0:w.heap.size<wr.heap.size:=by omega
   have hB2:W2.heap.size<wr.heap.size:=by omega
   have wk:IntKind.i64.wrap (i:Int)=(i:Int):=IntWalk.i64_in _ (by omega)
   have wk1:IntKind.i64.wrap ((i:Int)+1)=(i:Int)+1:=IntWalk.i64_in _ (by omega)
   have lk:(i:Int)<(cs.length:Int):=by omega
   have HPUT:=Lib.hid (show∀W,Below wr.heap.size wr W→_ from fun W hW=>ref_put10 (O:=fun g=>(O g∨w.heap.size≤g)∧g≠W1.heap.size∧g≠W2.heap.size) (.slice Ae k.ents.length ce) k.ents k.proved k.last k.adds k.dels k.rats k.largest ((i:Int)+1) u c W (HE.out.below hW) ((hur.mono (fun g hg=>⟨.inl hg.1,by have:=hg.2;omega,by have:=hg.2;omega⟩)).below hW) (by omega) hcm)
   unfold ckV at HPUT
   obtain⟨Au,cu,rfl,_⟩:=hu
   clear hkk hc hx hur hkw hcm d0 z1 z2 z3 hzr
   unfold ckCells at HBX
   have y0:=mx_cell (j:=0) HBX.out
   have y1:=mx_cell (j:=1) HBX.out
   have y2:=mx_cell (j:=2) HBX.out
   have y3:=mx_cell (j:=3) HBX.out
   have y4:=mx_cell (j:=4) HBX.out
   have y5:=mx_cell (j:=5) HBX.out
   have y6:=mx_cell (j:=6) HBX.out
   go_upto_region 5 with fail
   refine wp_region_sink_at (S:=fun w'=>Below wr.heap.size wr w') (by kernel_rfl) rfl (by kernel_rfl) (mx_drew wr) (fun hS=>?_)
   refine takeF 0 13 (fun wq hSw=>And.intro ((hSw.cell (p:=⟨W2.heap.size,0,none⟩) hB2).trans y0) (And.intro ((hSw.cell (p:=⟨W2.heap.size,1,none⟩) hB2).trans y1) (And.intro ((hSw.cell (p:=⟨W2.heap.size,2,none⟩) hB2).trans y2) (And.intro ((hSw.cell (p:=⟨W2.heap.size,3,none⟩) hB2).trans y3) (And.intro ((hSw.cell (p:=⟨W2.heap.size,4,none⟩) hB2).trans y4) (And.intro ((hSw.cell (p:=⟨W2.heap.size,5,none⟩) hB2).trans y5) ((hSw.cell (p:=⟨W2.heap.size,6,none⟩) hB2).trans y6))))))) ?_
   refine takeE 1 14 ?_
   refine takeE 2 15 ?_
   refine takeE 3 16 ?_
   refine takeF 4 17 (fun wq hSw=>(hSw.cell (p:=⟨w.heap.size,1,none⟩) hB0).trans e1) ?_
   refine takeE 5 18 ?_
   refine takeE 6 19 ?_
   refine takeF 7 20 (fun wq hSw=>(hSw.cell (p:=⟨g,o+i,none⟩) hgr).trans d0r) ?_
   refine ready1 8 (fun K hK=>?_)
   go_simp
   refine(HPUT.out _ hS).mono ?_
   rintro e w4 ⟨⟨v4,K4,rfl,hre4,hm4⟩,hb4⟩
   have hSN:=hS.trans (hb4.mono hS.size)
   refine hK.out _ _ hSN (fun _=>?_)
   clear hK
   have hE4:EntIn (fun g=>(O g∨w.heap.size≤g)∧g≠W1.heap.size∧g≠W2.heap.size) w4 v4 (k.putR ((i:Int)+1) c).ents:=by
    have:=hre4.ents
    rw[hm4]at this
    refine this.mono fun g hg=>?_
    rcases hg with hg|hg
    ·exact hg
    ·have:=hS.size
     have:=HZ.out
     exact⟨.inr (by omega),by omega,by omega⟩
   obtain⟨A4,k4,rfl,_⟩:=mx_slice hre4.own
   have hBX4:=(hSN.block W2.heap.size hB2).trans HBX.out
   have HBX4:=Lib.hid hBX4
   have HE4:=Lib.hid hE4
   have HSN:=Lib.hid hSN
   have HL4:=Lib.hid hm4
   clear hre4 hE4 hb4 hS
   refine wpAnyH_done (by kernel_rfl) ?_ _
   refine lastPost_normal ?_
   clear y0 y1 y2 y3 y4 y5 y6
   have y0:=mx_cell (j:=0) HBX4.out
   have y1:=mx_cell (j:=1) HBX4.out
   have y2:=mx_cell (j:=2) HBX4.out
   have y3:=mx_cell (j:=3) HBX4.out
   have y4:=mx_cell (j:=4) HBX4.out
   have y5:=mx_cell (j:=5) HBX4.out
   have y6:=mx_cell (j:=6) HBX4.out
   have f0:=oj_free (j:=0) HBX4.out
   have f1:=oj_free (j:=1) HBX4.out
   have f2:=oj_free (j:=2) HBX4.out
   have f3:=oj_free (j:=3) HBX4.out
   have f4:=oj_free (j:=4) HBX4.out
   have f5:=oj_free (j:=5) HBX4.out
   have f6:=oj_free (j:=6) HBX4.out
   refine wpOp_step rfl (fun K hK=>?_)
   go_simp
   refine hK _ _ ?_
   clear hK
   obtain⟨WF,hWF,hrF,hbF,hkF⟩:=set7_all HBX4.out (.slice A4 K4.length k4) (.int .i64 ((i:Int)+1)) (.bool (k.proved||c.isEmpty)) (.int .i64 k.adds) (.int .i64 k.dels) (.int .i64 k.rats) (.int .i64 (max k.largest ((k.ents.length:Int)+1)))
   rw[hWF]
   clear y0 f0 y1 f1 y2 f2 y3 f3 y4 f4 y5 f5 y6 f6
   go_wp2_with fail
   go_roundw
   case rel=>exact⟨i+1,.slice A4 K4.length k4,k.putR ((i:Int)+1) c,by omega,by go_num,HN,Lib.hid (by show(k.ents++ [((i:Int)+1,c)]).length≤_;rw[List.length_append,List.length_singleton];omega),Lib.hid hrF,Lib.hid (HE4.out.kept hkF (fun g hg e=>hg.2.2 e)),Lib.hid (HKP.out.trans ((Kept.of_below HSN.out).trans hkF (fun _ _ h=>h)) (fun _ _ h=>h))⟩
   case measure=>simp[intOf];omega
  ·have hke:=HK.out
   rw[List.drop_of_length_le (by omega),Ckr.putAllR]at hke
   subst hke
   clear z1 z2 z3 hzr
   unfold ckCells at HBX
   have y0:=mx_cell (j:=0) HBX.out
   have y1:=mx_cell (j:=1) HBX.out
   have y2:=mx_cell (j:=2) HBX.out
   have y3:=mx_cell (j:=3) HBX.out
   have y4:=mx_cell (j:=4) HBX.out
   have y5:=mx_cell (j:=5) HBX.out
   have y6:=mx_cell (j:=6) HBX.out
   have u0:=mx_cell (j:=0) HX2r.out
   have u1:=mx_cell (j:=1) HX2r.out
   have u2:=mx_cell (j:=2) HX2r.out
   have u3:=mx_cell (j:=3) HX2r.out
   have u4:=mx_cell (j:=4) HX2r.out
   have u5:=mx_cell (j:=5) HX2r.out
   have u6:=mx_cell (j:=6) HX2r.out
   have f0:=oj_free (j:=0) HX2r.out
   have f1:=oj_free (j:=1) HX2r.out
   have f2:=oj_free (j:=2) HX2r.out
   have f3:=oj_free (j:=3) HX2r.out
   have f4:=oj_free (j:=4) HX2r.out
   have f5:=oj_free (j:=5) HX2r.out
   have f6:=oj_free (j:=6) HX2r.out
   go_wp2_with fail
   obtain⟨WF,hWF,hrF,hbF,hkF⟩:=set7_all HX2r.out (.slice Ae k.ents.length ce) (.int .i64 k.last) (.bool k.proved) (.int .i64 k.adds) (.int .i64 k.dels) (.int .i64 k.rats) (.int .i64 k.largest)
   rw[hWF]
   refine bodyPost_ret (res_ck rfl hrF _ rfl) rfl ?_
   obtain⟨z1,z2,z3⟩:=HZ.out
   exact⟨⟨_,rfl,((HE.out.kept hkF (fun g hg e=>hg.2.1 e)).mono fun _ hg=>hg.1)⟩,HB3.out.trans ((HKP.out.below (fun g e=>by omega) (by omega)).trans (hbF.mono (by omega)))⟩
end Go.Proofs.YtajbmjpodeilpaaGreatDoor
namespace Go.Proofs.YtajbmjpodeilpaaGreatDoor
open Go.RowKit Go.Maps
theorem restGo_step {p:Int} {asg out c:List Int} {j:Nat} {l:Int} (h:c[j]? =some l):restGo p asg out (c.drop j)=if l=litN p then restGo p asg out (c.drop (j+1))else if asg.contains l=true then([],false)else restGo p asg (out++ [litN l]) (c.drop (j+1)):=by
 have hlt:=(List.getElem?_eq_some_iff.1 h).1
 rw[List.drop_eq_getElem_cons hlt]
 rw[List.getElem?_eq_getElem hlt]at h
 rw[Option.some.inj h]
 rfl
set_option maxRecDepth 100000 in
set_option maxHeartbeats 4000000 in
theorem rat_rest {Oc Oa:Nat→Prop} (cv av:Value) (p:Int) (c asg:List Int) (w:World) (hc:IntsIn Oc w cv c) (ha:IntsIn Oa w av asg) (hcl:c.length≤10000) (hal:asg.length≤1000000):
  Calls Tryz.prog 121 #[cv,.int .i64 p,av] w fun e w'=> ∃u,e= .returned (.tuple #[u,.bool (restGo p asg [] c).2])∧w'.ownsRow w.heap.size 28 1 u (restGo p asg [] c).1.length ((restGo p asg [] c).1.map (Value.int .i64))∧Below w.heap.size w w':=by
 obtain⟨i0,hi,hz0,hz1,hz2⟩:=info_parts cinfo_lit
 have HC:=Lib.hid hc
 have HA:=Lib.hid ha
 obtain⟨R,hR⟩: ∃R,restGo p asg [] c=R:=⟨_,rfl⟩
 rw[hR]
 have HR:=Lib.hid (show R=restGo p asg [] (c.drop 0)from by rw[List.drop_zero];exact hR.symm)
 obtain⟨Ac,cc,rfl,_⟩:=hc
 obtain⟨Aa,ca,rfl,_⟩:=ha
 obtain⟨q,hq⟩: ∃q,litN p=q:=⟨_,rfl⟩
 have HNP:=Lib.hid (fun W=>lit_neg p W)
 rw[hq]at HNP
 have HQ:=Lib.hid hq
 clear hR hq
 go_enter Tryz.func121,Tryz.ntmps121
 go_wp2_with fail
 go_loopw [8,13] (fun v i wr=> ∃(j:Nat) (out:List Int),j≤c.length∧i= .int .i64 j∧out.length≤j∧Hid (wr.ownsRow w.heap.size 28 1 v out.length (out.map (Value.int .i64)))∧Hid (R=restGo p asg out (c.drop j))∧Hid (Below w.heap.size w wr)) (fun _ i _=>c.length-(intOf i).toNat)
 case atStart=>exact⟨0,[],Nat.zero_le _,rfl,Nat.le_refl _,Lib.hid (World.ownsRow_nil _ _ _ _),HR,Lib.hid (Below.refl _ _)⟩
 case round=>
  obtain⟨j,out,hj,rfl,hol,HO,HRs,HB⟩:=hrel
  obtain⟨Ao,co,rfl,_⟩:=mx_slice HO.out
  by_cases hlt:j<c.length
  ·obtain⟨l,hl⟩:=getElem_of hlt
   obtain⟨A',c',hAc,_,_,hxs⟩:=HC.out.below HB.out
   simp only[Value.slice.injEq,true_and]at hAc
   obtain⟨rfl,rfl⟩:=hAc
   obtain⟨g,o,rfl,hg,_,d1⟩:=hxs j l hl
   have hst:=HRs.out.trans (restGo_step hl)
   rw[HQ.out]at hst
   clear hl hxs
   by_cases h1:l=q
   ·have q1:(l==q)=true:=by simpa using h1
    have HST:=Lib.hid (hst.trans (if_pos h1))
    clear hst h1
    go_wp2_with fail
    refine(HNP.out _).mono ?_
    rintro e w' ⟨rfl,rfl⟩
    go_wp2_with fail
    go_roundw
    case rel=>exact⟨j+1,out,by omega,by go_num,by omega,HO,HST,HB⟩
    case measure=>simp[intOf];omega
   ·have q1:(l==q)=false:=by simpa using h1
    have hst2:=hst.trans (if_neg h1)
    have HCT:=Lib.hid (contains_l _ asg l wr (HA.out.below HB.out) (by omega))
    clear hst h1
    cases hcn:asg.contains l with
    | true=>
     have HST:=Lib.hid (hst2.trans (if_pos hcn))
     rw[hcn]at HCT
     clear hst2 hcn
     go_wp2_with fail
     refine(HNP.out _).mono ?_
     rintro e w' ⟨rfl,rfl⟩
     go_wp2_with fail
     refine HCT.out.mono ?_
     rintro e w' ⟨rfl,rfl⟩
     go_wp2_with fail
     go_ret2
     rw[HST.out]
     exact⟨_,rfl,World.ownsRow_nil _ _ _ _,HB.out⟩
    | false=>
     have HST:=Lib.hid (hst2.trans (if_neg (by rw[hcn];decide)))
     rw[hcn]at HCT
     have HNL:=Lib.hid (fun W=>lit_neg l W)
     obtain⟨m,hm⟩: ∃m,litN l=m:=⟨_,rfl⟩
     rw[hm]at HNL HST
     clear hst2 hcn hm
     go_wp2_with fail
     refine(HNP.out _).mono ?_
     rintro e w' ⟨rfl,rfl⟩
     go_wp2_with fail
     refine HCT.out.mono ?_
     rintro e w' ⟨rfl,rfl⟩
     go_wp2_with fail
     refine(HNL.out _).mono ?_
     rintro e w' ⟨rfl,rfl⟩
     go_wp2_with (at_builtin;refine wpList_append_own_at _ rfl _ _ 29 rfl w.heap.size 28 i0 (.int .i64 0) 1 8 Tryz.underlying29 hi hz0 hz1 hz2 rfl (by decide) _ out.length _ rfl (own_below HO.out (mx_al wr _)) ⟨wr.heap.size,0,none⟩ 1 1 [.int .i64 m] rfl rfl (cell_one_new' _ _ _) (by simp[Value.oneCell']) (by unfold maxLen;omega) (by omega) (by have:=HB.out.size;simp;omega) ?_;intro v' w2 hown hgrow hnl hat)
     obtain⟨Av,kv,rfl,_⟩:=mx_slice hown
     have hb2:Below w.heap.size w w2:=(HB.out.trans ((mx_al wr (.cells #[.int .i64 m] 28)).mono HB.out.size)).grown hgrow (by have:=HB.out.size;simp;omega) (fun g hg=>(own_lt HO.out g hg).1)
     have HO2:=Lib.hid (show w2.ownsRow w.heap.size 28 1 (.slice Av (out.length+1) kv) (out++ [m]).length ((out++ [m]).map (Value.int .i64))from by
      rw[List.length_append,List.map_append]
      exact hown)
     have HB2:=Lib.hid hb2
     clear hown hgrow hnl hat hb2
     go_wp2_with fail
     go_roundw
     case rel=>exact⟨j+1,out++ [m],by omega,by go_num,by simp;omega,HO2,HST,HB2⟩
     case measure=>simp[intOf];omega
  ·obtain rfl:j=c.length:=by omega
   have HST:=Lib.hid (show R=(out,true)from by rw[HRs.out,List.drop_length];rfl)
   go_wp2_with fail
   go_ret2
   rw[HST.out]
   exact⟨_,rfl,HO.out,HB.out⟩
end Go.Proofs.YtajbmjpodeilpaaGreatDoor
