/- slices.Reverse at steps. -/
import Derived.Test.YtkfgplfllddhnaaGreatV524
import Derived.Test.YtkfgplfllddhnaaGreatV516
namespace Go.Proofs.YtkfgplfllddhnaaGreat
open Go.RowKit
theorem viaR {T R:Prop} (f:T→R) (t:T):R:=f t
theorem st_set: ∀(K:List StV) (i:Nat) (x:StV),i<K.length→((((K.flatMap stcell).set (i*4) (.bool x.1.del)).set (i*4+1) (.int .i64 x.1.id)).set (i*4+2) (Value.slice x.2.1.1 x.1.lits.length x.2.1.2)).set (i*4+3) (Value.slice x.2.2.1 x.1.hints.length x.2.2.2)=(K.set i x).flatMap stcell
 | [],i,x,h=>by cases h
 | y::K,0,x,_=>rfl
 | y::K,i+1,x,h=>by
  have:=st_set K i x (by rw[List.length_cons]at h;omega)
  rw[show(i+1)*4=i*4+4 by omega,List.set_cons_succ]
  show _=stcell y++(K.set i x).flatMap stcell
  rw[←this]
  rfl
def RevAt (K K':List StV) (i:Nat):Prop:=K'.length=K.length∧∀t,K'[t]? =if t<i∨K.length-i≤t then K.reverse[t]? else K[t]?
theorem RevAt.zero (K:List StV):RevAt K K 0:=⟨rfl,fun t=>by
 by_cases h:t<K.length
 ·rw[if_neg (by omega)]
 ·rw[List.getElem?_eq_none (by omega),List.getElem?_eq_none (by rw[List.length_reverse];omega)]
  split <;> rfl⟩
theorem RevAt.mem {K K':List StV} {i:Nat} (h:RevAt K K' i) {t:Nat} {x:StV} (hx:K'[t]? =some x):x∈K:=by
 rw[h.2 t]at hx
 split at hx
 ·exact List.mem_reverse.1 (List.mem_of_getElem? hx)
 ·exact List.mem_of_getElem? hx
theorem RevAt.step {K K':List StV} {i:Nat} (h:RevAt K K' i) (hi:i+1<K.length-i) {x y:StV} (hx:K'[i]? =some x) (hy:K'[K.length-1-i]? =some y):RevAt K ((K'.set i y).set (K.length-1-i) x) (i+1):=by
 obtain⟨h1,h2⟩:=h
 refine⟨by rw[List.length_set,List.length_set,h1],fun t=>?_⟩
 have hx2:K[i]? =some x:=by
  rw[h2 i,if_neg (by omega)]at hx
  exact hx
 have hy2:K[K.length-1-i]? =some y:=by
  rw[h2,if_neg (by omega)]at hy
  exact hy
 rw[List.getElem?_set,List.length_set,h1,List.getElem?_set,h1]
 by_cases e1:K.length-1-i=t
 ·rw[if_pos e1,if_pos (by omega),if_pos (by omega),←e1,List.getElem?_reverse (by omega),show K.length-1-(K.length-1-i)=i by omega,hx2]
 ·rw[if_neg e1]
  by_cases e2:i=t
  ·rw[if_pos e2,if_pos (by omega),if_pos (by omega),←e2,List.getElem?_reverse (by omega),hy2]
  ·rw[if_neg e2,h2 t]
   by_cases e3:t<i∨K.length-i≤t
   ·rw[if_pos e3,if_pos (by omega)]
   ·rw[if_neg e3,if_neg (by omega)]
theorem RevAt.done {K K':List StV} {i:Nat} (h:RevAt K K' i) (hi:K.length≤2*i+1):K'=K.reverse:=by
 obtain⟨h1,h2⟩:=h
 refine List.ext_getElem? fun t=>?_
 rw[h2 t]
 split
 ·rfl
 ·rename_i e
  have et:t=i:=by omega
  subst et
  rcases Nat.lt_or_ge t K.length with h3|h3
  ·rw[List.getElem?_reverse h3,show K.length-1-t=t by omega]
  ·rw[List.getElem?_eq_none h3,List.getElem?_eq_none (by rw[List.length_reverse];exact h3)]
theorem st_store {n0:Nat} {w:World} {n c g i:Nat} {K:List StV} (h:w.ownsRow n0 39 4 (.slice (some ⟨g,0,none⟩) n c) n (K.flatMap stcell)) (hn:K.length=n) (hi:i<n) (x:StV):
  ∃W,(((w.setCell ⟨g,i*4,none⟩ (.bool x.1.del)).setCell ⟨g,i*4+1,none⟩ (.int .i64 x.1.id)).setCell ⟨g,i*4+2,none⟩ (Value.slice x.2.1.1 x.1.lits.length x.2.1.2)).setCell ⟨g,i*4+3,none⟩ (Value.slice x.2.2.1 x.1.hints.length x.2.2.2)=W∧W.ownsRow n0 39 4 (.slice (some ⟨g,0,none⟩) n c) n ((K.set i x).flatMap stcell)∧Kept (fun b=>b=g) w W:=by
 refine⟨_,rfl,?_,((((Kept.refl (fun b=>b=g) w).setCell ⟨g,i*4,none⟩ _ rfl).setCell ⟨g,i*4+1,none⟩ _ rfl).setCell ⟨g,i*4+2,none⟩ _ rfl).setCell ⟨g,i*4+3,none⟩ _ rfl⟩
 rw[←st_set K i x (by omega)]
 exact own_setg (own_setg (own_setg (own_setg h _) _) _) _
set_option maxRecDepth 100000 in
set_option maxHeartbeats 4000000 in
theorem rev_steps {n0:Nat} (v:Value) (K:List StV) (w:World) (h:w.ownsRow n0 39 4 v K.length (K.flatMap stcell)) (hl:K.length≤1000000):
  Calls Tryz.prog 57 #[v] w fun e w'=>e= .returned (.tuple #[])∧w'.ownsRow n0 39 4 v K.length (K.reverse.flatMap stcell)∧Kept (fun g=>v.ownBlock=some g) w w':=by
 obtain⟨A,c,rfl,hc⟩:=mx_slice h
 have HRW:=Lib.hid h
 obtain⟨n,hn⟩: ∃n,K.length=n:=⟨_,rfl⟩
 rw[hn]at HRW hl⊢
 have HN:=Lib.hid hn
 have HR0:=Lib.hid (RevAt.zero K)
 have hwl:IntKind.i64.wrap ((n:Int)-1)=(n:Int)-1:=IntWalk.i64_in _ (by omega)
 clear h hn hc
 go_enter Tryz.func57,Tryz.ntmps57
 go_wp2_with fail
 go_loopw [2,3] (fun a b wr=> ∃(i:Nat) (K':List StV),2*i≤n+1∧a= .int .i64 i∧b= .int .i64 ((n:Int)-1-i)∧Hid (RevAt K K' i)∧Hid (wr.ownsRow n0 39 4 (.slice A n c) n (K'.flatMap stcell))∧Hid (Kept (fun g=>(Value.slice A n c).ownBlock=some g) w wr)) (fun a _ _=>n-(intOf a).toNat)
 case atStart=>exact⟨0,K,by omega,rfl,by simp,HR0,HRW,Lib.hid (Kept.refl _ _)⟩
 case round=>
  obtain⟨i,K',hi,rfl,rfl,HRV,HO,HK⟩:=hrel
  by_cases hlt:i+1<n-i
  ·obtain⟨j,hj⟩: ∃j,n-1-i=j:=⟨_,rfl⟩
   have hji:(n:Int)-1-(i:Int)=(j:Int):=by omega
   rw[hji]
   have hij:(i:Int)<(j:Int):=by omega
   have hij2:i<j:=by omega
   have hin:(i:Int)<(n:Int):=by omega
   have hjn:(j:Int)<(n:Int):=by omega
   have hkl:K'.length=n:=HRV.out.1.trans HN.out
   obtain⟨x,hx⟩:=getElem_of (show i<K'.length by omega)
   obtain⟨y,hy⟩:=getElem_of (show j<K'.length by omega)
   obtain⟨g,c',cs,hv,hle,hg0,hg,hgc⟩:=mx_some HO.out (by omega)
   simp only[Value.slice.injEq,true_and]at hv
   obtain⟨rfl,rfl⟩:=hv
   have HX:=Lib.hid (HRV.out.step (by rw[HN.out];omega) hx (by rw[HN.out,hj];exact hy))
   rw[HN.out,hj]at HX
   have HXX:=Lib.hid hx
   have HYY:=Lib.hid hy
   clear hx hy hgc
   go_upto_region 3 with fail
   refine wp_region_held_drew (S:=fun w'=>Kept (fun b=>b=g) wr w') (by kernel_rfl) (Kept.of_below (mx_drew wr)) (fun hS=>?_)
   have hD:=mx_drew wr
   obtain⟨xD,hxD⟩: ∃z,wr.drew=z:=⟨_,rfl⟩
   rw[hxD]at hS hD⊢
   have hOD:=own_below HO.out hD
   obtain⟨hX0,hX1,hX2,hX3⟩:=stcell_at K' i x HXX.out
   obtain⟨hY0,hY1,hY2,hY3⟩:=stcell_at K' j y HYY.out
   have x0:=mx_at hOD hX0
   have x1:=mx_at hOD hX1
   have x2:=mx_at hOD hX2
   have x3:=mx_at hOD hX3
   have y0:=mx_at hOD hY0
   have y1:=mx_at hOD hY1
   have y2:=mx_at hOD hY2
   have y3:=mx_at hOD hY3
   obtain⟨cur,hcur⟩:=own_type hOD g rfl
   obtain⟨WA,hWA,hoA,hkA⟩:=st_store hOD hkl (show i<n by omega) y
   obtain⟨curA,hcurA⟩:=own_type hoA g rfl
   obtain⟨W5,hW5,ho5,hk5⟩:=st_store hoA (by rw[List.length_set];exact hkl) (show j<n by omega) x
   have HO5:=Lib.hid ho5
   have hSA:=hS.trans hkA (fun _ _ h=>h)
   have hS5:=hSA.trans hk5 (fun _ _ h=>h)
   have HK5:=Lib.hid (HK.out.trans hS5 (fun i _ h=>by rw[h];rfl))
   obtain⟨hZ0,hZ1,hZ2,hZ3⟩:=stcell_at (K'.set i y) j y (by rw[List.getElem?_set_ne (by omega)];exact HYY.out)
   have z0:=mx_at hoA hZ0
   have z1:=mx_at hoA hZ1
   have z2:=mx_at hoA hZ2
   have z3:=mx_at hoA hZ3
   have f0:=free_at (j:=i*4) hcur
   have f1:=free_at (j:=i*4+1) hcur
   have f2:=free_at (j:=i*4+2) hcur
   have f3:=free_at (j:=i*4+3) hcur
   have g0:=free_at (j:=j*4) hcurA
   have g1:=free_at (j:=j*4+1) hcurA
   have g2:=free_at (j:=j*4+2) hcurA
   have g3:=free_at (j:=j*4+3) hcurA
   obtain⟨⟨xd,xi,xl,xh⟩,⟨xa,xb⟩,⟨xu,xv⟩⟩:=x
   obtain⟨⟨yd,yi,yl,yh⟩,⟨ya,yb⟩,⟨yu,yv⟩⟩:=y
   simp only at x0 x1 x2 x3 y0 y1 y2 y3 z0 z1 z2 z3 hWA hW5
   clear hX0 hX1 hX2 hX3 hY0 hY1 hY2 hY3 hZ0 hZ1 hZ2 hZ3 hcur hcurA hoA hkA ho5 hk5 hD hOD hxD
   refine takeE 0 14 ?_
   refine takeE 1 15 ?_
   refine takeE 2 16 ?_
   refine takeE 3 17 ?_
   refine takeE 4 18 ?_
   refine takeE 5 19 ?_
   refine takeE 6 20 ?_
   refine takeE 8 22 ?_
   refine takeE 9 23 ?_
   refine takeE 10 24 ?_
   apply viaR
   ·intro TAIL
    refine wpAnyH_ready (rs:= [7,11]) (by kernel_rfl) (by simp) (AllReadyH.cons rfl (fun KK hKK=>?_) (AllReadyH.cons rfl (fun KK hKK=>?_) AllReadyH.nil))
    ·go_simp
     refine hKK.out _ _ hS (fun _=>?_)
     refine ready1 11 (fun KK hKK=>?_)
     go_simp
     refine hKK.out _ _ hS (fun _=>?_)
     exact TAIL
    ·go_simp
     refine hKK.out _ _ hS (fun _=>?_)
     refine ready1 7 (fun KK hKK=>?_)
     go_simp
     refine hKK.out _ _ hS (fun _=>?_)
     exact TAIL
   ·refine takeE 12 26 ?_
    refine ready1 13 (fun KK hKK=>?_)
    go_simp
    try rw[hWA]
    refine hKK.out _ _ hSA (fun _=>?_)
    clear x0 x1 x2 x3 y0 y1 y2 y3 f0 f1 f2 f3 hKK
    refine takeE 14 27 ?_
    refine ready1 15 (fun KK hKK=>?_)
    go_simp
    try rw[hW5]
    refine hKK.out _ _ hS5 (fun _=>?_)
    clear z0 z1 z2 z3 g0 g1 g2 g3 hKK hS hSA hS5 hWA hW5
    refine wpAnyH_done (by kernel_rfl) ?_ _
    go_wp2_with fail
    go_roundw
    case rel=>exact⟨i+1,_,by omega,by go_num,by rw[show(j:Int)=(n:Int)-1-(i:Int) by omega];go_num,HX,HO5,HK5⟩
    case measure=>simp[intOf];omega
  ·have hd:decide ((i:Int)<(n:Int)-1-(i:Int))=false:=decide_eq_false (by omega)
   have HRD:=Lib.hid (show wr.ownsRow n0 39 4 (.slice A n c) n (K.reverse.flatMap stcell)from by
    rw[←HRV.out.done (by rw[HN.out];omega)]
    exact HO.out)
   go_wp2_with fail
   go_end0
   exact⟨rfl,HRD.out,HK.out⟩
end Go.Proofs.YtkfgplfllddhnaaGreat
