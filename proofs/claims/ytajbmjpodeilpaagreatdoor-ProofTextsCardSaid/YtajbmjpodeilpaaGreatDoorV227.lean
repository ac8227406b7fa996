/- Steps that a program builds: a row of its own, with rows of literals and of hints. slices.Backward and slices.Reverse at steps. slices.Reverse at steps. Plain: proofs whose steps follow by their hints: Check accepts them; what Trim leaves of them is accepted too, is the same trimmed again, and no step of it can be left out. Plain: what Trim leaves of a proof whose steps follow by their hints. -/
import Derived.Test.YtajbmjpodeilpaaGreatDoorV223
import Derived.Test.YtajbmjpodeilpaaGreatDoorV202
import Derived.Test.YtajbmjpodeilpaaGreatDoorV205
import Derived.Test.YtajbmjpodeilpaaGreatDoorV225
import Derived.Test.YtajbmjpodeilpaaGreatDoorV220
import Derived.Test.YtajbmjpodeilpaaGreatDoorV218
import Derived.Test.YtajbmjpodeilpaaGreatDoorV221
namespace Go.Proofs.YtajbmjpodeilpaaGreatDoor
open Go.RowKit
section
variable {n0:Nat} {w w1:World} {v:Value} {K:List StV}
theorem StMem.ckf {b:Nat} {cs:Array Value} {z:Nat×Nat} (h:StMem n0 w v K) (k:CkF b w w1) (hb:w.heap[b]? =some (.cells cs 91 z)):StMem n0 w1 v K:=by
 have key: ∀{e:TypeId} {size n:Nat} {u:Value} {xs:List Value},w.ownsRow n0 e size u n xs→91≠e→∀g,u.ownBlock=some g→¬(g=b∨∃o:Obj,w.heap[g]? =some o∧o.isCells=false):=by
  rintro e size n u xs hu he g hg (h1|⟨o,h1,h2⟩)
  ·subst h1
   obtain⟨cur,hc⟩:=own_type hu g hg
   rw[hb]at hc
   cases hc
   exact he rfl
  ·obtain⟨cur,hc⟩:=own_type hu g hg
   rw[hc]at h1
   cases h1
   cases h2
 exact h.kept k (key h.row (by decide)) (fun x hx=>key (h.lit x hx) (by decide)) (fun x hx=>key (h.hnt x hx) (by decide))
end
def bkStep (st:(Int→Int)×List StV) (x:StV):(Int→Int)×List StV:=if 0<x.1.lits.length∧st.1 x.1.id=0 then st else(needI st.1 x.1.hints,st.2++ [x])
theorem bk_fold: ∀(r:List StV) (f:Int→Int) (out:List StV),bkGo f (r.map Prod.fst) (out.map Prod.fst)=(r.foldl bkStep (f,out)).2.map Prod.fst
 | [],_,_=>rfl
 | x::r,f,out=>by
  rw[List.map_cons,List.foldl_cons]
  unfold bkGo bkStep
  simp only
  split
  ·exact bk_fold r f out
  ·have:=bk_fold r (needI f x.1.hints) (out++ [x])
   rw[List.map_append]at this
   exact this
theorem bk_sub: ∀(r:List StV) (st:(Int→Int)×List StV),∀y∈(r.foldl bkStep st).2,y∈st.2∨y∈r
 | [],_,y,h=>.inl h
 | x::r,st,y,h=>by
  rw[List.foldl_cons]at h
  rcases bk_sub r _ y h with h1|h1
  ·unfold bkStep at h1
   split at h1
   ·exact .inl h1
   ·rcases List.mem_append.1 h1 with h2|h2
    ·exact .inl h2
    ·exact .inr (by rw[List.mem_singleton.1 h2];exact List.mem_cons_self)
  ·exact .inr (List.mem_cons_of_mem _ h1)
theorem bk_len: ∀(r:List StV) (st:(Int→Int)×List StV),(r.foldl bkStep st).2.length≤st.2.length+r.length
 | [],_=>Nat.le_refl _
 | x::r,st=>by
  rw[List.foldl_cons,List.length_cons]
  have h1:=bk_len r (bkStep st x)
  have h2:(bkStep st x).2.length≤st.2.length+1:=by
   unfold bkStep
   split
   ·omega
   ·rw[List.length_append,List.length_singleton]
    exact Nat.le_refl _
  omega
end Go.Proofs.YtajbmjpodeilpaaGreatDoor
namespace Go.Proofs.YtajbmjpodeilpaaGreatDoor
open Go.RowKit Go.Shelf Go.Maps
attribute [local go_sem] Oper.semAt_some
def bsv (x:StV×Nat):Array Value:= #[.int .i64 (x.2:Int),.agg #[.bool x.1.1.del,.int .i64 x.1.1.id,.slice x.1.2.1.1 x.1.1.lits.length x.1.2.1.2,.slice x.1.2.2.1 x.1.1.hints.length x.1.2.2.2]]
def BSPre (xs:List StV) (_:Nat) (pre:List (StV×Nat)) (x:StV×Nat) (_:World):Prop:=pre++ [x] <+: xs.zipIdx.reverse
def BSPost (X:Nat→Prop) (_:StV×Nat) (W W':World):Prop:=KpC X W W'
theorem BSPost.turn {X:Nat→Prop} {x:StV×Nat} {W W3:World} {l:Nat} {r r':Loop} (h:BSPost X x W W3) (hl:W3.heap[l]? =some (.loop r)):BSPost X x W (W3.putObj l (.loop r')):=
 KpC.trans h ((KpC.putObj W3 l _ _ hl rfl rfl).mono (fun _ _ e=>e.elim))
theorem bks_run (A:Option Addr) (n c:Nat) (w:World):Calls Tryz.prog 56 #[.slice A n c] w fun e w'=>e= .returned (.func (.func 98) #[] #[.pointer (some ⟨w.heap.size,0,none⟩)])∧w.alloc (.cells #[.slice A n c] 35)=w':=by
 go_enter Tryz.func56,Tryz.ntmps56
 go_wp2
 go_ret
 exact⟨rfl,rfl⟩
theorem zip_st {xs:List StV} {k:Nat} {x:StV} (h:xs[k]? =some x):(xs.zipIdx.take (k+1)).reverse=(x,k)::(xs.zipIdx.take k).reverse:=by
 rw[List.take_add_one,List.getElem?_zipIdx,h]
 simp
set_option maxRecDepth 100000 in
set_option maxHeartbeats 4000000 in
theorem bks_stops {X:Nat→Prop} {n0:Nat} (Bb:Nat) (u:Value) (xs:List StV) (w:World) (hB:w.cell? ⟨Bb,0,none⟩=some u) (hX: ¬X Bb) (hu:w.ownsRow n0 34 4 u xs.length (xs.flatMap stcell)) (hOX: ∀g,u.ownBlock=some g→¬X g) (hlen:xs.length≤140737488355328):
  SeqM Tryz.prog 98 #[.pointer (some ⟨Bb,0,none⟩)] bsv (BSPre xs) (BSPost X) (fun _ _ _=>True) (fun ys=>ys=xs.zipIdx.reverse) (fun _=>True) w:=by
 intro l J Jx W hW hJ hJx hY h0
 have hB':=World.block_lt_of_cell? w _ hB
 have d0:W.cell? ⟨Bb,0,none⟩=some u:=(hW.cell (p:=⟨Bb,0,none⟩) hB').trans hB
 have hzW:=hW.size
 have hBW:Bb<W.heap.size:=World.block_lt_of_cell? W _ d0
 have HN:=Lib.hid (own_below hu hW)
 obtain⟨A,c,rfl,hc⟩:=mx_slice hu
 have HD0:=Lib.hid d0
 have HX:=Lib.hid hX
 have HOX:=Lib.hid hOX
 have HY:=Lib.hid hY
 have H0:=Lib.hid h0
 have hwl:IntKind.i64.wrap ((xs.length:Int)-1)=(xs.length:Int)-1:=IntWalk.i64_in _ (by omega)
 clear hB hW hJ hJx hY h0 hX hOX hu
 refine callsIn_of_wp Tryz.func98 rfl trivial ?_ rfl
 simp only[Tryz.ntmps98,List.size_toArray,List.length_cons,List.length_nil,Nat.reduceAdd,Nat.reduceSub,Array.replicate_succ,Array.replicate_zero,List.push_toArray,List.append_toArray,List.nil_append,List.cons_append]
 gi_wp2
 clear d0
 gi_loopw [3] (fun i wr=> ∃(k:Nat) (z:Int) (pre:List (StV×Nat)),k≤xs.length∧z=(k:Int)-1∧i= .int .i64 z∧Hid (pre++(xs.zipIdx.take k).reverse=xs.zipIdx.reverse)∧Hid (KpC X W wr)∧Hid (J pre wr)) (fun i _=>(intOf i+1).toNat)
 case atStart=>exact⟨xs.length,_,[],Nat.le_refl _,rfl,rfl,Lib.hid (by rw[List.nil_append,List.take_of_length_le (by simp)]),Lib.hid (KpC.refl _ _),H0⟩
 case round=>
  obtain⟨k,z,pre,hk,hz,rfl,HE,HK,HJ⟩:=hrel
  by_cases hlt:0<k
  ·obtain⟨j,rfl⟩: ∃j,k=j+1:=⟨k-1,by omega⟩
   obtain rfl:z=(j:Int):=by omega
   obtain⟨x,hxj⟩:=getElem_of (show j<xs.length by omega)
   obtain⟨g,c',cs,hv,hle,hg0,hg,hgc⟩:=mx_some HN.out (by omega)
   simp only[Value.slice.injEq,true_and]at hv
   obtain⟨rfl,rfl⟩:=hv
   obtain⟨y0,y1,y2,y3⟩:=stcell_at xs j x hxj
   have hnx: ∀t u,W.cell? ⟨g,t,none⟩=some u→wr.cell? ⟨g,t,none⟩=some u:=fun t u e=>(HK.out.kept.cell (p:=⟨g,t,none⟩) hg (fun h=>h.elim (HOX.out g rfl) (xo_cell e))).trans e
   have e0:=hnx _ _ (mx_at HN.out y0)
   have e1:=hnx _ _ (mx_at HN.out y1)
   have e2:=hnx _ _ (mx_at HN.out y2)
   have e3:=hnx _ _ (mx_at HN.out y3)
   have d0:wr.cell? ⟨Bb,0,none⟩=some (.slice (some ⟨g,0,none⟩) xs.length c):=(HK.out.kept.cell (p:=⟨Bb,0,none⟩) hBW (fun h=>h.elim HX.out (xo_cell HD0.out))).trans HD0.out
   have HE2:=Lib.hid (show(pre++ [(x,j)])++(xs.zipIdx.take j).reverse=xs.zipIdx.reverse from by
    have:=HE.out
    rw[zip_st hxj]at this
    rw[←this]
    simp)
   have q0:decide ((0:Int)≤(j:Int))=true:=decide_eq_true (by omega)
   have hji:(j:Int)<(xs.length:Int):=by omega
   have hjn:j<xs.length:=by omega
   have hwj:IntKind.i64.wrap ((j:Int)-1)=(j:Int)-1:=IntWalk.i64_in _ (by omega)
   obtain⟨fn,tmps,assign,body,hy,hR⟩:=yield_any 8 (HY.out pre (x,j) wr HJ.out (by
    unfold BSPre
    rw[←HE2.out]
    exact List.prefix_append _ _))
   dsimp only[bsv]at hy
   have HRR:=Lib.hid hR
   obtain⟨⟨dl,id,ls,hs⟩,⟨a1,c1⟩,⟨a2,c2⟩⟩:=x
   simp only at e0 e1 e2 e3
   clear hxj hR hz y0 y1 y2 y3 hnx hgc
   gi_wp2_with fail
   refine HRR.out.mono ?_
   rintro e W3 (⟨rfl,hJ3,hk3⟩|⟨rfl,hJx3,_⟩)
   ·have HJ3:=Lib.hid hJ3
    have HK3:=Lib.hid (HK.out.trans hk3)
    clear hJ3 hk3 hy d0 e0 e1 e2 e3
    gi_wp2_with fail
    go_roundw
    case rel=>exact⟨j,_,_,by omega,rfl,rfl,HE2,HK3,HJ3⟩
    case measure=>simp[intOf]
   ·gi_wp2
    refine bodyPost_ret (results_none rfl _ _ _) rfl ?_
    exact⟨⟨_,rfl⟩,.inr ⟨_,trivial,hJx3⟩⟩
  ·obtain rfl:k=0:=by omega
   have q0:decide ((0:Int)≤z)=false:=decide_eq_false (by omega)
   gi_wp2_with fail
   go_end0
   refine⟨⟨_,rfl⟩,.inl ⟨pre,?_,HJ.out⟩⟩
   have:=HE.out
   simpa using this
end Go.Proofs.YtajbmjpodeilpaaGreatDoor
namespace Go.Proofs.YtajbmjpodeilpaaGreatDoor
open Go.RowKit
theorem viaR {T R:Prop} (f:T→R) (t:T):R:=f t
theorem st_set: ∀(K:List StV) (i:Nat) (x:StV),i<K.length→((((K.flatMap stcell).set (i*4) (.bool x.1.del)).set (i*4+1) (.int .i64 x.1.id)).set (i*4+2) (Value.slice x.2.1.1 x.1.lits.length x.2.1.2)).set (i*4+3) (Value.slice x.2.2.1 x.1.hints.length x.2.2.2)=(K.set i x).flatMap stcell
 | [],i,x,h=>by cases h
 | y::K,0,x,_=>rfl
 | y::K,i+1,x,h=>by
  have:=st_set K i x (by rw[List.length_cons]at h;omega)
  rw[show(i+1)*4=i*4+4 by omega,List.set_cons_succ]
  show _=stcell y++(K.set i x).flatMap stcell
  rw[←this]
  rfl
def RevAt (K K':List StV) (i:Nat):Prop:=K'.length=K.length∧∀t,K'[t]? =if t<i∨K.length-i≤t then K.reverse[t]? else K[t]?
theorem RevAt.zero (K:List StV):RevAt K K 0:=⟨rfl,fun t=>by
 by_cases h:t<K.length
 ·rw[if_neg (by omega)]
 ·rw[List.getElem?_eq_none (by omega),List.getElem?_eq_none (by rw[List.length_reverse];omega)]
  split <;> rfl⟩
theorem RevAt.mem {K K':List StV} {i:Nat} (h:RevAt K K' i) {t:Nat} {x:StV} (hx:K'[t]? =some x):x∈K:=by
 rw[h.2 t]at hx
 split at hx
 ·exact List.mem_reverse.1 (List.mem_of_getElem? hx)
 ·exact List.mem_of_getElem? hx
theorem RevAt.step {K K':List StV} {i:Nat} (h:RevAt K K' i) (hi:i+1<K.length-i) {x y:StV} (hx:K'[i]? =some x) (hy:K'[K.length-1-i]? =some y):RevAt K ((K'.set i y).set (K.length-1-i) x) (i+1):=by
 obtain⟨h1,h2⟩:=h
 refine⟨by rw[List.length_set,List.length_set,h1],fun t=>?_⟩
 have hx2:K[i]? =some x:=by
  rw[h2 i,if_neg (by omega)]at hx
  exact hx
 have hy2:K[K.length-1-i]? =some y:=by
  rw[h2,if_neg (by omega)]at hy
  exact hy
 rw[List.getElem?_set,List.length_set,h1,List.getElem?_set,h1]
 by_cases e1:K.length-1-i=t
 ·rw[if_pos e1,if_pos (by omega),if_pos (by omega),←e1,List.getElem?_reverse (by omega),show K.length-1-(K.length-1-i)=i by omega,hx2]
 ·rw[if_neg e1]
  by_cases e2:i=t
  ·rw[if_pos e2,if_pos (by omega),if_pos (by omega),←e2,List.getElem?_reverse (by omega),hy2]
  ·rw[if_neg e2,h2 t]
   by_cases e3:t<i∨K.length-i≤t
   ·rw[if_pos e3,if_pos (by omega)]
   ·rw[if_neg e3,if_neg (by omega)]
theorem RevAt.done {K K':List StV} {i:Nat} (h:RevAt K K' i) (hi:K.length≤2*i+1):K'=K.reverse:=by
 obtain⟨h1,h2⟩:=h
 refine List.ext_getElem? fun t=>?_
 rw[h2 t]
 split
 ·rfl
 ·rename_i e
  have et:t=i:=by omega
  subst et
  rcases Nat.lt_or_ge t K.length with h3|h3
  ·rw[List.getElem?_reverse h3,show K.length-1-t=t by omega]
  ·rw[List.getElem?_eq_none h3,List.getElem?_eq_none (by rw[List.length_reverse];exact h3)]
theorem st_store {n0:Nat} {w:World} {n c g i:Nat} {K:List StV} (h:w.ownsRow n0 34 4 (.slice (some ⟨g,0,none⟩) n c) n (K.flatMap stcell)) (hn:K.length=n) (hi:i<n) (x:StV):
  ∃W,(((w.setCell ⟨g,i*4,none⟩ (.bool x.1.del)).setCell ⟨g,i*4+1,none⟩ (.int .i64 x.1.id)).setCell ⟨g,i*4+2,none⟩ (Value.slice x.2.1.1 x.1.lits.length x.2.1.2)).setCell ⟨g,i*4+3,none⟩ (Value.slice x.2.2.1 x.1.hints.length x.2.2.2)=W∧W.ownsRow n0 34 4 (.slice (some ⟨g,0,none⟩) n c) n ((K.set i x).flatMap stcell)∧Kept (fun b=>b=g) w W:=by
 refine⟨_,rfl,?_,((((Kept.refl (fun b=>b=g) w).setCell ⟨g,i*4,none⟩ _ rfl).setCell ⟨g,i*4+1,none⟩ _ rfl).setCell ⟨g,i*4+2,none⟩ _ rfl).setCell ⟨g,i*4+3,none⟩ _ rfl⟩
 rw[←st_set K i x (by omega)]
 exact own_setg (own_setg (own_setg (own_setg h _) _) _) _
set_option maxRecDepth 100000 in
set_option maxHeartbeats 4000000 in
theorem rev_steps {n0:Nat} (v:Value) (K:List StV) (w:World) (h:w.ownsRow n0 34 4 v K.length (K.flatMap stcell)) (hl:K.length≤1000000):
  Calls Tryz.prog 57 #[v] w fun e w'=>e= .returned (.tuple #[])∧w'.ownsRow n0 34 4 v K.length (K.reverse.flatMap stcell)∧Kept (fun g=>v.ownBlock=some g) w w':=by
 obtain⟨A,c,rfl,hc⟩:=mx_slice h
 have HRW:=Lib.hid h
 obtain⟨n,hn⟩: ∃n,K.length=n:=⟨_,rfl⟩
 rw[hn]at HRW hl⊢
 have HN:=Lib.hid hn
 have HR0:=Lib.hid (RevAt.zero K)
 have hwl:IntKind.i64.wrap ((n:Int)-1)=(n:Int)-1:=IntWalk.i64_in _ (by omega)
 clear h hn hc
 go_enter Tryz.func57,Tryz.ntmps57
 go_wp2_with fail
 go_loopw [2,3] (fun a b wr=> ∃(i:Nat) (K':List StV),2*i≤n+1∧a= .int .i64 i∧b= .int .i64 ((n:Int)-1-i)∧Hid (RevAt K K' i)∧Hid (wr.ownsRow n0 34 4 (.slice A n c) n (K'.flatMap stcell))∧Hid (Kept (fun g=>(Value.slice A n c).ownBlock=some g) w wr)) (fun a _ _=>n-(intOf a).toNat)
 case atStart=>exact⟨0,K,by omega,rfl,by simp,HR0,HRW,Lib.hid (Kept.refl _ _)⟩
 case round=>
  obtain⟨i,K',hi,rfl,rfl,HRV,HO,HK⟩:=hrel
  by_cases hlt:i+1<n-i
  ·obtain⟨j,hj⟩: ∃j,n-1-i=j:=⟨_,rfl⟩
   have hji:(n:Int)-1-(i:Int)=(j:Int):=by omega
   rw[hji]
   have hij:(i:Int)<(j:Int):=by omega
   have hij2:i<j:=by omega
   have hin:(i:Int)<(n:Int):=by omega
   have hjn:(j:Int)<(n:Int):=by omega
   have hkl:K'.length=n:=HRV.out.1.trans HN.out
   obtain⟨x,hx⟩:=getElem_of (show i<K'.length by omega)
   obtain⟨y,hy⟩:=getElem_of (show j<K'.length by omega)
   obtain⟨g,c',cs,hv,hle,hg0,hg,hgc⟩:=mx_some HO.out (by omega)
   simp only[Value.slice.injEq,true_and]at hv
   obtain⟨rfl,rfl⟩:=hv
   have HX:=Lib.hid (HRV.out.step (by rw[HN.out];omega) hx (by rw[HN.out,hj];exact hy))
   rw[HN.out,hj]at HX
   have HXX:=Lib.hid hx
   have HYY:=Lib.hid hy
   clear hx hy hgc
   go_upto_region 3 with fail
   refine wp_region_held_drew (S:=fun w'=>Kept (fun b=>b=g) wr w') (by kernel_rfl) (Kept.of_below (mx_drew wr)) (fun hS=>?_)
   have hD:=mx_drew wr
   obtain⟨xD,hxD⟩: ∃z,wr.drew=z:=⟨_,rfl⟩
   rw[hxD]at hS hD⊢
   have hOD:=own_below HO.out hD
   obtain⟨hX0,hX1,hX2,hX3⟩:=stcell_at K' i x HXX.out
   obtain⟨hY0,hY1,hY2,hY3⟩:=stcell_at K' j y HYY.out
   have x0:=mx_at hOD hX0
   have x1:=mx_at hOD hX1
   have x2:=mx_at hOD hX2
   have x3:=mx_at hOD hX3
   have y0:=mx_at hOD hY0
   have y1:=mx_at hOD hY1
   have y2:=mx_at hOD hY2
   have y3:=mx_at hOD hY3
   obtain⟨cur,hcur⟩:=own_type hOD g rfl
   obtain⟨WA,hWA,hoA,hkA⟩:=st_store hOD hkl (show i<n by omega) y
   obtain⟨curA,hcurA⟩:=own_type hoA g rfl
   obtain⟨W5,hW5,ho5,hk5⟩:=st_store hoA (by rw[List.length_set];exact hkl) (show j<n by omega) x
   have HO5:=Lib.hid ho5
   have hSA:=hS.trans hkA (fun _ _ h=>h)
   have hS5:=hSA.trans hk5 (fun _ _ h=>h)
   have HK5:=Lib.hid (HK.out.trans hS5 (fun i _ h=>by rw[h];rfl))
   obtain⟨hZ0,hZ1,hZ2,hZ3⟩:=stcell_at (K'.set i y) j y (by rw[List.getElem?_set_ne (by omega)];exact HYY.out)
   have z0:=mx_at hoA hZ0
   have z1:=mx_at hoA hZ1
   have z2:=mx_at hoA hZ2
   have z3:=mx_at hoA hZ3
   have f0:=free_at (j:=i*4) hcur
   have f1:=free_at (j:=i*4+1) hcur
   have f2:=free_at (j:=i*4+2) hcur
   have f3:=free_at (j:=i*4+3) hcur
   have g0:=free_at (j:=j*4) hcurA
   have g1:=free_at (j:=j*4+1) hcurA
   have g2:=free_at (j:=j*4+2) hcurA
   have g3:=free_at (j:=j*4+3) hcurA
   obtain⟨⟨xd,xi,xl,xh⟩,⟨xa,xb⟩,⟨xu,xv⟩⟩:=x
   obtain⟨⟨yd,yi,yl,yh⟩,⟨ya,yb⟩,⟨yu,yv⟩⟩:=y
   simp only at x0 x1 x2 x3 y0 y1 y2 y3 z0 z1 z2 z3 hWA hW5
   clear hX0 hX1 hX2 hX3 hY0 hY1 hY2 hY3 hZ0 hZ1 hZ2 hZ3 hcur hcurA hoA hkA ho5 hk5 hD hOD hxD
   refine takeE 0 14 ?_
   refine takeE 1 15 ?_
   refine takeE 2 16 ?_
   refine takeE 3 17 ?_
   refine takeE 4 18 ?_
   refine takeE 5 19 ?_
   refine takeE 6 20 ?_
   refine takeE 8 22 ?_
   refine takeE 9 23 ?_
   refine takeE 10 24 ?_
   apply viaR
   ·intro TAIL
    refine wpAnyH_ready (rs:= [7,11]) (by kernel_rfl) (by simp) (AllReadyH.cons rfl (fun KK hKK=>?_) (AllReadyH.cons rfl (fun KK hKK=>?_) AllReadyH.nil))
    ·go_simp
     refine hKK.out _ _ hS (fun _=>?_)
     refine ready1 11 (fun KK hKK=>?_)
     go_simp
     refine hKK.out _ _ hS (fun _=>?_)
     exact TAIL
    ·go_simp
     refine hKK.out _ _ hS (fun _=>?_)
     refine ready1 7 (fun KK hKK=>?_)
     go_simp
     refine hKK.out _ _ hS (fun _=>?_)
     exact TAIL
   ·refine takeE 12 26 ?_
    refine ready1 13 (fun KK hKK=>?_)
    go_simp
    try rw[hWA]
    refine hKK.out _ _ hSA (fun _=>?_)
    clear x0 x1 x2 x3 y0 y1 y2 y3 f0 f1 f2 f3 hKK
    refine takeE 14 27 ?_
    refine ready1 15 (fun KK hKK=>?_)
    go_simp
    try rw[hW5]
    refine hKK.out _ _ hS5 (fun _=>?_)
    clear z0 z1 z2 z3 g0 g1 g2 g3 hKK hS hSA hS5 hWA hW5
    refine wpAnyH_done (by kernel_rfl) ?_ _
    go_wp2_with fail
    go_roundw
    case rel=>exact⟨i+1,_,by omega,by go_num,by rw[show(j:Int)=(n:Int)-1-(i:Int) by omega];go_num,HX,HO5,HK5⟩
    case measure=>simp[intOf];omega
  ·have hd:decide ((i:Int)<(n:Int)-1-(i:Int))=false:=decide_eq_false (by omega)
   have HRD:=Lib.hid (show wr.ownsRow n0 34 4 (.slice A n c) n (K.reverse.flatMap stcell)from by
    rw[←HRV.out.done (by rw[HN.out];omega)]
    exact HO.out)
   go_wp2_with fail
   go_end0
   exact⟨rfl,HRD.out,HK.out⟩
end Go.Proofs.YtajbmjpodeilpaaGreatDoor
namespace Go.Proofs.YtajbmjpodeilpaaGreatDoor
open Go.RowKit
def clOf (cs:List (List Int)) (l:List EStep) (h:Int):List Int:=(cs++l.map EStep.lits).getD (h-1).toNat []
structure RupL (cs:List (List Int)) (l:List EStep):Prop where
 cls: ∀c∈cs,clauseB c=true
 small:cs.length+l.length≤1000
 at_: ∀(j:Nat) (s:EStep),l[j]? =some s→s.del=false∧s.id=((cs.length+j:Nat):Int)+1∧clauseB s.lits=true∧s.hints.length≤65536∧(∀h∈s.hints,1≤h∧h≤((cs.length+j:Nat):Int))∧(chkP s.lits (s.hints.map (clOf cs l))).2.2=0
section
variable {cs:List (List Int)} {l:List EStep}
structure Part (cs:List (List Int)) (l p:List EStep):Prop where
 asc:p.Pairwise fun a b=>a.id<b.id
 of: ∀s∈p,∃(j:Nat) (x:EStep),l[j]? =some x∧x.id=s.id∧x.lits=s.lits
theorem Part.grw {p:List EStep} (h:Part cs l p) (hl:RupL cs l):Grw1 cs p:=⟨h.asc,fun s hs=>by
 obtain⟨j,x,h1,h2,_⟩:=h.of s hs
 have:=(hl.at_ j x h1).2.1
 omega⟩
theorem Part.get {p:List EStep} (h:Part cs l p) (hl:RupL cs l) {x:Int} (h1:1≤x) (hx:x≤(cs.length:Int)∨∃s∈p,s.id=x):getA (pEnts cs p) x=some (clOf cs l x):=by
 refine getA_of (h.grw hl).rise ?_
 unfold pEnts
 rcases hx with hx|⟨s,hs,hx⟩
 ·refine List.mem_append_left _ (entsFrom_mem.2 ⟨(x-1).toNat,?_,by simp only;omega⟩)
  show cs[(x-1).toNat]? =some (clOf cs l x)
  unfold clOf
  rw[List.getD_eq_getElem?_getD,List.getElem?_append_left (by omega),List.getElem?_eq_getElem (by omega)]
  rfl
 ·obtain⟨j,z,a1,a2,a3⟩:=h.of s hs
  have hid:=(hl.at_ j z a1).2.1
  have hj:=(List.getElem?_eq_some_iff.1 a1).1
  refine List.mem_append_right _ (List.mem_map.2 ⟨s,hs,?_⟩)
  show(s.id,s.lits)=(x,clOf cs l x)
  unfold clOf
  rw[List.getD_eq_getElem?_getD,List.getElem?_append_right (by omega),List.getElem?_map,show(x-1).toNat-cs.length=j by omega,a1,hx,←a3]
  rfl
theorem Part.take {p:List EStep} (h:Part cs l p) (k:Nat):Part cs l (p.take k):=⟨h.asc.sublist (List.take_sublist _ _),fun s hs=>h.of s (List.mem_of_mem_take hs)⟩
theorem RupL.part (h:RupL cs l):Part cs l l:=⟨by
 rw[List.pairwise_iff_getElem]
 intro i j hi hj hij
 have h1:=(h.at_ i _ (List.getElem?_eq_getElem hi)).2.1
 have h2:=(h.at_ j _ (List.getElem?_eq_getElem hj)).2.1
 omega,fun s hs=>by
 obtain⟨j,hj⟩:=List.getElem?_of_mem hs
 exact⟨j,s,hj,rfl,rfl⟩⟩
theorem RupL.addy (h:RupL cs l) {j:Nat} {s:EStep} (hj:l[j]? =some s):Addy s:=by
 obtain⟨a1,a2,a3,a4,a5,_⟩:=h.at_ j s hj
 have hjl:=(List.getElem?_eq_some_iff.1 hj).1
 have:=h.small
 exact⟨a1,by omega,by omega,a3,a4,fun x hx=>by
  have:=a5 x hx
  omega⟩
structure Full (cs:List (List Int)) (l p:List EStep):Prop where
 part:Part cs l p
 addy: ∀s∈p,Addy s
 chk: ∀s∈p,(chkP s.lits (s.hints.map (clOf cs l))).2.2=0
 there: ∀s∈p,∀h∈s.hints,h<s.id∧(h≤(cs.length:Int)∨∃z∈p,z.id=h)
theorem Full.named {p q r:List EStep} {s:EStep} (h:Full cs l p) (hl:RupL cs l) (e:p=q++s::r):ckNamed (pEnts cs q) s.hints=s.hints.map (clOf cs l):=by
 have hs:s∈p:=by rw[e];simp
 have hq:Part cs l q:=by
  have:=h.part.take q.length
  rw[e,List.take_left]at this
  exact this
 refine named_all s.hints fun x hx=>?_
 obtain⟨h1,h2⟩:=h.there s hs x hx
 refine hq.get hl (by have:=((h.addy s hs).pos x hx).1;omega) (h2.imp id fun⟨z,hz,hzx⟩=>⟨z,?_,hzx⟩)
 have ha:=h.part.asc
 rw[e]at hz ha
 rcases List.mem_append.1 hz with hz|hz
 ·exact hz
 ·rw[List.pairwise_append,List.pairwise_cons]at ha
  rcases List.mem_cons.1 hz with hz|hz
  ·subst hz
   omega
  ·have:=ha.2.1.1 z hz
   omega
theorem Full.step {p q r:List EStep} {s:EStep} (h:Full cs l p) (hl:RupL cs l) (e:p=q++s::r) (hp:(ckrP cs q).proved=false):(ckrP cs q).do_ s=(ckrP cs (q++ [s]),1,0,0):=by
 have hs:s∈p:=by rw[e];simp
 have hq:Part cs l q:=by
  have:=h.part.take q.length
  rw[e,List.take_left]at this
  exact this
 have hg:Grw1 cs p:=h.part.grw hl
 refine do_rup (hq.grw hl) hp (h.addy s hs) ?_ (by rw[h.named hl e];exact h.chk s hs)
 have ha:=hg.asc
 have hlo:=hg.lo s hs
 unfold pLast
 cases hx:q.getLast? with
 | none=>exact hlo
 | some z=>
  rw[e,List.pairwise_append]at ha
  exact ha.2.2 z (List.mem_of_getLast? hx) s List.mem_cons_self
theorem Full.run {p:List EStep} (h:Full cs l p) (hl:RupL cs l): ∀(r q:List EStep),p=q++r→∃m,m≤p.length∧q.length≤m∧runGo (ckrP cs q) r q.length=(ckrP cs (p.take m),m,0)∧(∀i,q.length≤i→i<m→(ckrP cs (p.take i)).proved=false)∧(m<p.length→(ckrP cs (p.take m)).proved=true):=by
 intro r
 induction r with
 | nil=>
  intro q e
  rw[List.append_nil]at e
  subst e
  exact⟨p.length,Nat.le_refl _,Nat.le_refl _,by rw[List.take_length];rfl,fun i h1 h2=>by omega,fun h=>by omega⟩
 | cons s r ih=>
  intro q e
  have hql:q.length<p.length:=by rw[e];simp
  have htk:p.take q.length=q:=by rw[e,List.take_left]
  cases hp:(ckrP cs q).proved with
  | true=>
   refine⟨q.length,Nat.le_of_lt hql,Nat.le_refl _,?_,fun i h1 h2=>by omega,fun _=>by rw[htk];exact hp⟩
   unfold runGo
   rw[if_pos hp,htk]
  | false=>
   have hst:=h.step hl e hp
   obtain⟨m,a1,a2,a3,a4,a5⟩:=ih (q++ [s]) (by rw[e];simp)
   rw[List.length_append,List.length_singleton]at a2 a3 a4
   refine⟨m,a1,by omega,?_,fun i h1 h2=>?_,a5⟩
   ·unfold runGo
    rw[if_neg (by rw[hp];decide),hst,if_neg (by simp)]
    exact a3
   ·rcases Nat.eq_or_lt_of_le h1 with h3|h3
    ·rw[←h3,htk]
     exact hp
    ·exact a4 i h3 h2
end
end Go.Proofs.YtajbmjpodeilpaaGreatDoor
namespace Go.Proofs.YtajbmjpodeilpaaGreatDoor
open Go.RowKit
theorem asc_len: ∀(T:List Nat) (a n:Nat),(∀j∈T,a≤j∧j<n)→T.Pairwise (fun x y=>x<y)→T.length≤n-a:=by
 intro T
 induction T with
 | nil=>exact fun _ _ _ _=>Nat.zero_le _
 | cons x T ih=>
  intro a n h hp
  rw[List.pairwise_cons]at hp
  have h1:=h x List.mem_cons_self
  have:=ih (x+1) n (fun j hj=>⟨hp.1 j hj,(h j (List.mem_cons_of_mem _ hj)).2⟩) hp.2
  rw[List.length_cons]
  omega
def tS (cs:List (List Int)) (l:List EStep) (s:EStep):EStep:=⟨false,s.id,s.lits,(trimP s.lits (s.hints.map (clOf cs l))).map fun j=>s.hints.getD j.toNat 0⟩
structure TStep (cs:List (List Int)) (l:List EStep) (s d:EStep):Prop where
 del:d.del=false
 id:d.id=s.id
 lits:d.lits=s.lits
 sub: ∀x∈d.hints,x∈s.hints
 len:d.hints.length≤s.hints.length
 chk:(chkP d.lits (d.hints.map (clOf cs l))).2.2=0
 again:tS cs l d=d
 few: ∀k,k<d.hints.length→(chkP d.lits ((d.hints.map (clOf cs l)).take k)).2.2=82
section
variable {cs:List (List Int)} {l:List EStep}
end
end Go.Proofs.YtajbmjpodeilpaaGreatDoor
