/- package rat: Split at any right hints. Reference of layer 9: Split. -/
import Derived.Test.YtajbmjpodeilpaaGreatDoorV217
namespace Go.Proofs.YtajbmjpodeilpaaGreatDoor
open Go.RowKit Go.Maps
theorem src_new (W:World) (e:TypeId) (xs:List Value):SrcAt (W.alloc (.cells xs.toArray e)) (.slice (some ⟨W.heap.size,0,none⟩) 1 1) 1 xs:=
 .inr ⟨_,_,rfl,fun j u hj=>cells_list_new W xs e j u hj⟩
theorem ginfo:(Tryz.prog.info? 172).map (fun i=>(i.zero,i.size,i.bytes))=some (some (.agg #[.int .i64 0,.slice none 0 0]),2,32):=by kernel_rfl
theorem split_neg {out:List Int} {gs:List (Int×List Int)} {hs:List Int} {j:Nat} {h:Int} (hj:hs[j]? =some h) (hn:h<0):splitGo out gs (hs.drop j)=splitGo out (gs++ [(-h,[])]) (hs.drop (j+1)):=by
 have hlt:=(List.getElem?_eq_some_iff.1 hj).1
 rw[List.drop_eq_getElem_cons hlt]
 rw[List.getElem?_eq_getElem hlt]at hj
 rw[Option.some.inj hj]
 show(if h<0 then _ else _)=_
 rw[if_pos hn]
theorem split_out {out:List Int} {hs:List Int} {j:Nat} {h:Int} (hj:hs[j]? =some h) (hn: ¬h<0):splitGo out [] (hs.drop j)=splitGo (out++ [h]) [] (hs.drop (j+1)):=by
 have hlt:=(List.getElem?_eq_some_iff.1 hj).1
 rw[List.drop_eq_getElem_cons hlt]
 rw[List.getElem?_eq_getElem hlt]at hj
 rw[Option.some.inj hj]
 show(if h<0 then _ else _)=_
 rw[if_neg hn]
 rfl
theorem split_grp {out:List Int} {gs:List (Int×List Int)} {g:Int×List Int} {hs:List Int} {j:Nat} {h:Int} (hj:hs[j]? =some h) (hn: ¬h<0):splitGo out (gs++ [g]) (hs.drop j)=splitGo out (gs++ [(g.1,g.2++ [h])]) (hs.drop (j+1)):=by
 have hlt:=(List.getElem?_eq_some_iff.1 hj).1
 rw[List.drop_eq_getElem_cons hlt]
 rw[List.getElem?_eq_getElem hlt]at hj
 rw[Option.some.inj hj]
 show(if h<0 then _ else _)=_
 rw[if_neg hn,List.getLast?_concat]
 simp only
 rw[List.dropLast_concat]
abbrev GrpV:=(Int×List Int)×Value
def gcell (x:GrpV):List Value:= [.int .i64 x.1.1,x.2]
theorem gcell_at: ∀(K:List GrpV) (i:Nat) (x:GrpV),K[i]? =some x→(K.flatMap gcell)[i*2]? =some (.int .i64 x.1.1)∧(K.flatMap gcell)[i*2+1]? =some x.2
 | [],i,x,h=>by simp at h
 | y::K,0,x,h=>by
  obtain rfl:y=x:=by simpa using h
  exact⟨rfl,rfl⟩
 | y::K,i+1,x,h=>by
  have:=gcell_at K i x (by simpa using h)
  rw[show(i+1)*2=i*2+2 by omega]
  exact this
theorem gcell_set: ∀(K:List GrpV) (x:GrpV) (v:Value) (g:Int×List Int),x.1.1=g.1→((K++ [x]).flatMap gcell).set (K.length*2+1) v=(K++ [(g,v)]).flatMap gcell
 | [],x,v,g,h=>by
  show [Value.int .i64 x.1.1,v]= [Value.int .i64 g.1,v]
  rw[h]
 | y::K,x,v,g,h=>by
  have:=gcell_set K x v g h
  rw[List.length_cons,show(K.length+1)*2+1=(K.length*2+1)+2 by omega]
  show Value.int .i64 y.1.1::y.2::(((K++ [x]).flatMap gcell).set (K.length*2+1) v)=_
  rw[this]
  rfl
structure GrpMem (n0:Nat) (w:World) (v:Value) (K:List GrpV):Prop where
 row:w.ownsRow n0 172 2 v K.length (K.flatMap gcell)
 sub: ∀x∈K,w.ownsRow n0 3 1 x.2 x.1.2.length (x.1.2.map (Value.int .i64))
 dis:K.Pairwise fun x y=> ∀g,x.2.ownBlock=some g→y.2.ownBlock≠some g
theorem own_setg {w:World} {base size n c g j:Nat} {e:TypeId} {xs:List Value} (h:w.ownsRow base e size (.slice (some ⟨g,0,none⟩) n c) n xs) (v:Value):
  (w.setCell ⟨g,j,none⟩ v).ownsRow base e size (.slice (some ⟨g,0,none⟩) n c) n (xs.set j v):=by
 obtain⟨h0,h1⟩:=h
 rcases h1 with⟨h1,_⟩|⟨g',cap,cur,hv,hb,hg,hle,hm,hs,hx⟩
 ·cases h1
 ·cases hv
  refine⟨by rw[List.length_set,h0],.inr ⟨g,c,_,rfl,hb,mx_set hg _,hle,hm,by simpa using hs,?_⟩⟩
  rw[Array.toList_setIfInBounds,List.take_set,hx]
section
variable {n0:Nat} {w w1 w2:World} {v v':Value} {K:List GrpV}
theorem GrpMem.nil (n0:Nat) (w:World):GrpMem n0 w (.slice none 0 0) []:=⟨World.ownsRow_nil _ _ _ _,(fun x hx=>by cases hx),List.Pairwise.nil⟩
theorem GrpMem.below (h:GrpMem n0 w v K) (k:Below w.heap.size w w1):GrpMem n0 w1 v K:=⟨own_below h.row k,fun x hx=>own_below (h.sub x hx) k,h.dis⟩
theorem GrpMem.kept {O:Nat→Prop} (h:GrpMem n0 w v K) (k:Kept O w w1) (hv: ∀g,v.ownBlock=some g→¬O g) (hx: ∀x∈K,∀g,x.2.ownBlock=some g→¬O g):GrpMem n0 w1 v K:=⟨own_kept h.row k hv,fun x h1=>own_kept (h.sub x h1) k (hx x h1),h.dis⟩
theorem GrpMem.push (h:GrpMem n0 w v K) (hg:w.grownBy w1 v.ownBlock) (id:Int) (hr:w1.ownsRow n0 172 2 v' (K.length+1) (K.flatMap gcell++ [.int .i64 id,.slice none 0 0])):GrpMem n0 w1 v' (K++ [((id,[]),.slice none 0 0)]) where
 row:=by
  rw[List.length_append,List.flatMap_append]
  exact hr
 sub:=fun x hx=>by
  rcases List.mem_append.1 hx with hx|hx
  ·exact own_kept (h.sub x hx) (Kept.grown hg) (fun g h1 h2=>mx_apart (h.sub x hx) h.row (by decide) h1 h2.symm)
  ·rw[List.mem_singleton.1 hx]
   exact World.ownsRow_nil _ _ _ _
 dis:=by
  rw[List.pairwise_append]
  refine⟨h.dis,List.pairwise_singleton _ _,fun x _ y hy g _=>?_⟩
  rw[List.mem_singleton.1 hy]
  exact fun e=>by cases e
theorem GrpMem.grow {gb c:Nat} {x:GrpV} {y:Int} {u':Value} {K0:List GrpV} (h:GrpMem n0 w (.slice (some ⟨gb,0,none⟩) (K0.length+1) c) (K0++ [x])) (hg:w.grownBy w1 x.2.ownBlock) (hr:w1.ownsRow n0 3 1 u' (x.1.2.length+1) (x.1.2.map (Value.int .i64)++ [.int .i64 y])) (hat:u'.ownBlock=x.2.ownBlock∨u'.ownBlock=some w.heap.size):
  GrpMem n0 (w1.setCell ⟨gb,K0.length*2+1,none⟩ u') (.slice (some ⟨gb,0,none⟩) (K0.length+1) c) (K0++ [((x.1.1,x.1.2++ [y]),u')]):=by
 have hrow:=h.row
 rw[List.length_append]at hrow
 have hxm:x∈K0++ [x]:=List.mem_append_right _ List.mem_cons_self
 have hrow1:=own_kept hrow (Kept.grown hg) (fun g h1 h2=>mx_apart hrow (h.sub x hxm) (by decide) h1 h2.symm)
 have hk:Kept (fun g=>g=gb) w1 (w1.setCell ⟨gb,K0.length*2+1,none⟩ u'):=(Kept.refl (fun g=>g=gb) w1).setCell ⟨gb,K0.length*2+1,none⟩ u' rfl
 have hd:=h.dis
 rw[List.pairwise_append]at hd
 refine⟨?_,fun z hz=>?_,?_⟩
 ·have h2:=own_setg (j:=K0.length*2+1) hrow1 u'
  rw[gcell_set K0 x u' (x.1.1,x.1.2++ [y]) rfl]at h2
  rw[List.length_append]
  exact h2
 ·rcases List.mem_append.1 hz with hz|hz
  ·have h1:=own_kept (h.sub z (List.mem_append_left _ hz)) (Kept.grown hg) (fun g h1 h2=>hd.2.2 z hz x List.mem_cons_self g h1 h2.symm)
   exact own_kept h1 hk (fun g h2 e=>mx_apart h1 hrow1 (by decide) h2 (by rw[e];rfl))
  ·rw[List.mem_singleton.1 hz]
   show World.ownsRow _ n0 _ 1 u' (x.1.2++ [y]).length ((x.1.2++ [y]).map (Value.int .i64))
   rw[List.length_append,List.map_append]
   exact own_kept hr hk (fun g h2 e=>mx_apart hr hrow1 (by decide) h2 (by rw[e];rfl))
 ·rw[List.pairwise_append]
  refine⟨hd.1,List.pairwise_singleton _ _,fun z hz z' hz' g hg1=>?_⟩
  rw[List.mem_singleton.1 hz']
  show u'.ownBlock≠some g
  rcases hat with e|e
  ·rw[e]
   exact hd.2.2 z hz x List.mem_cons_self g hg1
  ·rw[e]
   intro e2
   have:=(own_lt (h.sub z (List.mem_append_left _ hz)) g hg1).2
   have e3:=Option.some.inj e2
   omega
end
set_option maxRecDepth 100000 in
set_option maxHeartbeats 8000000 in
theorem rat_split {O:Nat→Prop} (hv:Value) (hs:List Int) (w:World) (hh:IntsIn O w hv hs) (hok: ∀x∈hs,x≠0∧ -1073741824≤x∧x≤1073741824) (hl:hs.length≤1000000):
  Calls Tryz.prog 53 #[hv] w fun e w'=> ∃u v K,e= .returned (.tuple #[u,v,.int .i64 0])∧w'.ownsRow w.heap.size 3 1 u (splitL hs).1.length ((splitL hs).1.map (Value.int .i64))∧GrpMem w.heap.size w' v K∧K.map Prod.fst=(splitL hs).2∧Below w.heap.size w w':=by
 obtain⟨i0,hi,hz0,hz1,hz2⟩:=info_parts jinfo_int
 obtain⟨i1,gi,gz0,gz1,gz2⟩:=info_parts ginfo
 have HH:=Lib.hid hh
 have HP:=Lib.hid hok
 obtain⟨R,hR⟩: ∃R,splitL hs=R:=⟨_,rfl⟩
 rw[hR]
 have HR:=Lib.hid (show R=splitGo [] (([] :List GrpV).map Prod.fst) (hs.drop 0)from by rw[List.drop_zero];exact hR.symm)
 obtain⟨A,c,rfl,hc,_,_⟩:=hh
 clear hok hR
 go_enter Tryz.func53,Tryz.ntmps53
 go_wp2_with fail
 go_loopw [5,6,12] (fun v gv i wr=> ∃(j:Nat) (out:List Int) (K:List GrpV),j≤hs.length∧i= .int .i64 j∧out.length≤j∧K.length≤j∧Hid (∀x∈K,x.1.2.length≤j)∧Hid (wr.ownsRow w.heap.size 3 1 v out.length (out.map (Value.int .i64)))∧Hid (GrpMem w.heap.size wr gv K)∧Hid (∀x∈K,∀g,x.2.ownBlock=some g→v.ownBlock≠some g)∧Hid (R=splitGo out (K.map Prod.fst) (hs.drop j))∧Hid (Below w.heap.size w wr)) (fun _ _ i _=>hs.length-(intOf i).toNat)
 case atStart=>exact⟨0,[],[],Nat.zero_le _,rfl,Nat.le_refl _,Nat.le_refl _,Lib.hid (fun x hx=>by cases hx),Lib.hid (World.ownsRow_nil _ _ _ _),Lib.hid (GrpMem.nil _ _),Lib.hid (fun x hx=>by cases hx),HR,Lib.hid (Below.refl _ _)⟩
 case round=>
  obtain⟨j,out,K,hj,rfl,hol,hkl,HL,HO,HG,HD,HRs,HB⟩:=hrel
  obtain⟨Ao,co,rfl,_⟩:=mx_slice HO.out
  obtain⟨Ag,cg,rfl,_⟩:=mx_slice HG.out.row
  by_cases hlt:j<hs.length
  ·obtain⟨x,hx⟩:=getElem_of hlt
   obtain⟨A',c',hAc,_,_,hxs⟩:=HH.out.below HB.out
   simp only[Value.slice.injEq,true_and]at hAc
   obtain⟨rfl,rfl⟩:=hAc
   obtain⟨g,o,rfl,hg,_,d0⟩:=hxs j x hx
   obtain⟨hx0,hx1,hx2⟩:=HP.out x (List.mem_of_getElem? hx)
   have q0:(x==0)=false:=beq_eq_false_iff_ne.2 hx0
   have q1:decide ((1073741824:Int)<x)=false:=decide_eq_false (by omega)
   have q2:decide (x<(-1073741824:Int))=false:=decide_eq_false (by omega)
   have hsz:=HB.out.size
   by_cases hneg:x<0
   ·have q3:decide (x<(0:Int))=true:=decide_eq_true hneg
    have q4:IntKind.i64.wrap (-x)= -x:=IntWalk.i64_in _ (by omega)
    have HST:=Lib.hid (HRs.out.trans (split_neg hx hneg))
    clear hx hxs hneg
    go_wp2_with (at_builtin;go_must (refine wpList_append_any rfl _ _ 109 rfl w.heap.size 172 i1 (.agg #[.int .i64 0,.slice none 0 0]) 2 32 Tryz.underlying109 gi gz0 gz1 gz2 rfl (by decide) _ K.length _ rfl (own_below HG.out.row (mx_al wr _)) (.slice (some ⟨wr.heap.size,0,none⟩) 1 1) 1 [.int .i64 (-x),.slice none 0 0] rfl (src_new wr 172 [.int .i64 (-x),.slice none 0 0]) rfl (by simp[Value.oneCell']) (by unfold maxLen;omega) (by omega) (by simp;omega) ?_);intro v' w2 hown hgrow hat)
    obtain⟨Av,kv,rfl,_⟩:=mx_slice hown
    have ha:=mx_al wr (.cells #[.int .i64 (-x),.slice none 0 0] 172)
    have hb2:Below w.heap.size w w2:=(HB.out.trans (ha.mono hsz)).grown hgrow (by simp;omega) (fun g hg=>(own_lt HG.out.row g hg).1)
    have HG2:=Lib.hid ((HG.out.below ha).push hgrow (-x) hown)
    have HO2:=Lib.hid (own_kept (own_below HO.out ha) (Kept.grown hgrow) (fun g h1 h2=>mx_apart HO.out HG.out.row (by decide) h1 h2.symm))
    have HD2:=Lib.hid (show∀z∈K++ [((-x,[]),Value.slice none 0 0)],∀g,z.2.ownBlock=some g→(Value.slice Ao out.length co).ownBlock≠some g from fun z hz g hg=>by
     rcases List.mem_append.1 hz with hz|hz
     ·exact HD.out z hz g hg
     ·rw[List.mem_singleton.1 hz]at hg
      cases hg)
    have HL2:=Lib.hid (show∀z∈K++ [((-x,([] :List Int)),Value.slice none 0 0)],z.1.2.length≤j+1 from fun z hz=>by
     rcases List.mem_append.1 hz with hz|hz
     ·exact Nat.le_succ_of_le (HL.out z hz)
     ·rw[List.mem_singleton.1 hz]
      exact Nat.zero_le _)
    have HST2:=Lib.hid (show R=splitGo out ((K++ [((-x,([] :List Int)),Value.slice none 0 0)]).map Prod.fst) (hs.drop (j+1))from by
     rw[List.map_append]
     exact HST.out)
    have HB2:=Lib.hid hb2
    clear hown hgrow hat ha hb2
    go_wp2_with fail
    go_roundw
    case rel=>exact⟨j+1,out,K++ [((-x,[]),.slice none 0 0)],by omega,by go_num,by omega,by simp;omega,HL2,HO2,HG2,HD2,HST2,HB2⟩
    case measure=>simp[intOf];omega
   ·have q3:decide (x<(0:Int))=false:=decide_eq_false hneg
    rcases List.eq_nil_or_concat K with rfl|⟨K0,y,hKy⟩
    ·have HST:=Lib.hid (HRs.out.trans (split_out hx hneg))
     clear hx hxs hneg
     go_wp2_with (at_builtin;go_must (refine wpList_append_own_at _ rfl _ _ 31 rfl w.heap.size 3 i0 (.int .i64 0) 1 8 Tryz.underlying31 hi hz0 hz1 hz2 rfl (by decide) _ out.length _ rfl (own_below HO.out (mx_al wr _)) ⟨wr.heap.size,0,none⟩ 1 1 [.int .i64 x] rfl rfl (cell_one_new' _ _ _) (by simp[Value.oneCell']) (by unfold maxLen;omega) (by omega) (by simp;omega) ?_);intro v' w2 hown hgrow hnl hat)
     obtain⟨Av,kv,rfl,_⟩:=mx_slice hown
     have ha:=mx_al wr (.cells #[.int .i64 x] 3)
     have hb2:Below w.heap.size w w2:=(HB.out.trans (ha.mono hsz)).grown hgrow (by simp;omega) (fun g hg=>(own_lt HO.out g hg).1)
     have HG2:=Lib.hid ((HG.out.below ha).kept (Kept.grown hgrow) (fun g h1 h2=>mx_apart HG.out.row HO.out (by decide) h1 h2.symm) (fun z hz=>by cases hz))
     have HO2:=Lib.hid (show w2.ownsRow w.heap.size 3 1 (.slice Av (out.length+1) kv) (out++ [x]).length ((out++ [x]).map (Value.int .i64))from by
      rw[List.length_append,List.map_append]
      exact hown)
     have HB2:=Lib.hid hb2
     clear hown hgrow hnl hat ha hb2
     go_wp2_with fail
     go_roundw
     case rel=>exact⟨j+1,out++ [x],[],by omega,by go_num,by simp;omega,Nat.zero_le _,Lib.hid (fun z hz=>by cases hz),HO2,HG2,Lib.hid (fun z hz=>by cases hz),HST,HB2⟩
     case measure=>simp[intOf];omega
    ·rw[List.concat_eq_append]at hKy
     subst hKy
     have hst:=HRs.out
     rw[List.map_append]at hst
     have HST:=Lib.hid (hst.trans (split_grp hx hneg))
     obtain⟨n,hn⟩: ∃n,K0.length=n:=⟨_,rfl⟩
     have hlen:(K0++ [y]).length=n+1:=by rw[List.length_append,hn];rfl
     have hrow:=HG.out.row
     rw[hlen]at hrow hkl
     rw[hlen]
     obtain⟨gb,cgb,cells,hv,_,_,hgbl,hgb,_⟩:=mx_some hrow (Nat.succ_pos n)
     simp only[Value.slice.injEq]at hv
     obtain⟨rfl,-,rfl⟩:=hv
     have hym:y∈K0++ [y]:=List.mem_append_right _ List.mem_cons_self
     have hsub:=HG.out.sub y hym
     have hyl:=HL.out y hym
     have hyd:=HD.out y hym
     obtain⟨⟨yi,ys⟩,yv⟩:=y
     simp only at hsub hyl hyd
     obtain⟨Ay,cy,rfl,_⟩:=mx_slice hsub
     have e1:wr.cell? ⟨gb,n*2+1,none⟩=some (.slice Ay ys.length cy):=mx_at hrow (gcell_at _ n ((yi,ys),.slice Ay ys.length cy) (by rw[List.getElem?_append_right (by omega),hn,Nat.sub_self];rfl)).2
     have HGB:=Lib.hid hgb
     have HSUB:=Lib.hid hsub
     have HYD:=Lib.hid hyd
     have HROW:=Lib.hid hrow
     have hni:(n:Int)<((n+1:Nat):Int):=by omega
     have hnn:n<n+1:=Nat.lt_succ_self n
     have hwn:IntKind.i64.wrap (((n+1:Nat):Int)-1)=(n:Int):=by rw[IntWalk.i64_in _ (by omega)];omega
     have q5:decide ((0:Int)<((n+1:Nat):Int))=true:=decide_eq_true (by omega)
     have hwn2:IntKind.i64.wrap ((n:Int)+1-1)=(n:Int):=by rw[IntWalk.i64_in _ (by omega)];omega
     clear hx hxs hneg hst hlen hrow hsub hyd hgb hym
     go_wp2_with (at_builtin;go_must (refine wpList_append_own_at _ rfl _ _ 31 rfl w.heap.size 3 i0 (.int .i64 0) 1 8 Tryz.underlying31 hi hz0 hz1 hz2 rfl (by decide) _ ys.length _ rfl (own_below HSUB.out (mx_al wr _)) ⟨wr.heap.size,0,none⟩ 1 1 [.int .i64 x] rfl rfl (cell_one_new' _ _ _) (by simp[Value.oneCell']) (by unfold maxLen;omega) (by omega) (by simp;omega) ?_;intro v' w2 hown hgrow hnl hat;obtain⟨Av,kv,rfl,_⟩:=mx_slice hown;have hgb2:=(hgrow.block gb (by simp;omega) (fun e=>mx_apart HSUB.out HROW.out (by decide) e.symm rfl)).trans (((mx_al wr (.cells #[.int .i64 x] 3)).block gb hgbl).trans HGB.out);have f2:=free_at (j:=n*2+1) hgb2;have e2:w2.cell? ⟨gb,n*2+1,none⟩=some (.slice Ay ys.length cy):=(World.cell?_of_block (a:=⟨gb,n*2+1,none⟩) (hgb2.trans HGB.out.symm)).trans e1))
     have ha:=mx_al wr (.cells #[.int .i64 x] 3)
     obtain⟨wa,hwa⟩: ∃wa,wr.alloc (.cells #[.int .i64 x] 3)=wa:=⟨_,rfl⟩
     have hza:wr.heap.size<wa.heap.size:=by rw[←hwa];simp
     rw[hwa]at ha hgrow hat
     have hk3:Kept (fun g=>g=gb) w2 (w2.setCell ⟨gb,n*2+1,none⟩ (.slice Av (ys.length+1) kv)):=(Kept.refl (fun g=>g=gb) w2).setCell ⟨gb,n*2+1,none⟩ _ rfl
     have hgo:=own_lt HROW.out gb rfl
     have hb2:Below w.heap.size w w2:=(HB.out.trans (ha.mono hsz)).grown hgrow (by omega) (fun g hg=>(own_lt HSUB.out g hg).1)
     have hO1:=own_kept (own_below HO.out ha) (Kept.grown hgrow) (fun g h1 h2=>HYD.out g h2.symm h1)
     have hO2:=own_kept hO1 hk3 (fun g h1 e=>mx_apart HO.out HROW.out (by decide) h1 (by rw[e];rfl))
     have hG2:GrpMem w.heap.size (w2.setCell ⟨gb,n*2+1,none⟩ (.slice Av (ys.length+1) kv)) (.slice (some ⟨gb,0,none⟩) (n+1) cg) (K0++ [((yi,ys++ [x]),.slice Av (ys.length+1) kv)]):=by
      have hg0:=HG.out.below ha
      rw[List.length_append,hn]at hg0
      rw[←hn]at hg0⊢
      exact hg0.grow hgrow hown hat
     have hB3:=below_kept hb2 hk3 (fun i e=>by rw[e];exact hgo.1) (by have:=hb2.size;omega)
     have HD2:=Lib.hid (show∀z∈K0++ [((yi,ys++ [x]),Value.slice Av (ys.length+1) kv)],∀g,z.2.ownBlock=some g→(Value.slice Ao out.length co).ownBlock≠some g from fun z hz g hg e=>by
      rcases List.mem_append.1 hz with hz|hz
      ·exact HD.out z (List.mem_append_left _ hz) g hg e
      ·rw[List.mem_singleton.1 hz]at hg
       rcases hat with e2|e2
       ·exact HYD.out g (e2▸hg) e
       ·have h3:=hg.symm.trans e2
        have h4:=(own_lt HO.out g e).2
        have h5:=Option.some.inj h3
        omega)
     have HL2:=Lib.hid (show∀z∈K0++ [((yi,ys++ [x]),Value.slice Av (ys.length+1) kv)],z.1.2.length≤j+1 from fun z hz=>by
      rcases List.mem_append.1 hz with hz|hz
      ·exact Nat.le_succ_of_le (HL.out z (List.mem_append_left _ hz))
      ·rw[List.mem_singleton.1 hz]
       show(ys++ [x]).length≤_
       rw[List.length_append]
       exact Nat.succ_le_succ hyl)
     have HST2:=Lib.hid (show R=splitGo out ((K0++ [((yi,ys++ [x]),Value.slice Av (ys.length+1) kv)]).map Prod.fst) (hs.drop (j+1))from by
      rw[List.map_append]
      exact HST.out)
     have HO2:=Lib.hid hO2
     have HG2:=Lib.hid (show GrpMem w.heap.size (w2.setCell ⟨gb,n*2+1,none⟩ (.slice Av (ys.length+1) kv)) (.slice (some ⟨gb,0,none⟩) (n+1) cg) (K0++ [((yi,ys++ [x]),.slice Av (ys.length+1) kv)])from hG2)
     have HB3:=Lib.hid hB3
     have hln:(K0++ [((yi,ys++ [x]),Value.slice Av (ys.length+1) kv)]).length=n+1:=by rw[List.length_append,hn];rfl
     clear hown hgrow hnl hat ha hwa hza hk3 hb2 hO1 hO2 hG2 hB3 hgb2 f2 e2 e1
     try go_wp2_with fail
     go_roundw
     case rel=>exact⟨j+1,out,K0++ [((yi,ys++ [x]),.slice Av (ys.length+1) kv)],by omega,by go_num,by omega,by rw[hln];omega,HL2,HO2,HG2,HD2,HST2,HB3⟩
     case measure=>simp[intOf];omega
  ·obtain rfl:j=hs.length:=by omega
   have HST:=Lib.hid (show R=(out,K.map Prod.fst)from by rw[HRs.out,List.drop_length];rfl)
   go_wp2_with fail
   refine bodyPost_ret (v:=.tuple #[.slice Ao out.length co,.slice Ag K.length cg,.int .i64 0]) (by simp[results,Tryz.results53,go_sem]) rfl ?_
   rw[HST.out]
   exact⟨_,_,K,rfl,HO.out,HG.out,rfl,HB.out⟩
end Go.Proofs.YtajbmjpodeilpaaGreatDoor
namespace Go.Proofs.YtajbmjpodeilpaaGreatDoor
open Go.RowKit
theorem oinfo_grp:(Tryz.prog.info? 183).map (fun i=>(i.zero,i.size,i.bytes))=some (some (.agg #[.int .i64 0,.slice none 0 0]),2,32):=by kernel_rfl
structure RG (B:Nat) (w:World) (v:Value) (K:List REn):Prop where
 own:w.ownsRow B 183 2 v K.length (K.flatMap REn.cells)
 low: ∀x∈K,IntsIn (fun g=>v.ownBlock≠some g) w x.2 x.1.2
theorem RG.ents {B:Nat} {w:World} {v:Value} {K:List REn} (h:RG B w v K):EntIn (fun _=>True) w v (K.map (·.1)):=by
 obtain⟨ho,hl⟩:=h
 rcases ho.2 with⟨rfl,h0⟩|⟨g,cap,cur,rfl,hBg,hg,hle,_⟩
 ·have:K= []:=List.eq_nil_of_length_eq_zero h0
  subst this
  exact⟨none,0,rfl,Nat.le_refl _,fun _=>rfl,fun i p hi=>by simp at hi⟩
 ·refine⟨_,cap,by rw[List.length_map],by rw[List.length_map];omega,(fun h=>by cases h),fun i p hi=>?_⟩
  rw[List.getElem?_map,Option.map_eq_some_iff]at hi
  obtain⟨x,hx,rfl⟩:=hi
  obtain⟨e0,e1⟩:=ricell_at K i x hx
  exact⟨g,0,x.2,rfl,heap_lt hg,trivial,by rw[Nat.zero_add];exact mx_at ho e0,by rw[Nat.zero_add];exact mx_at ho e1,(hl x (List.mem_of_getElem? hx)).mono fun _ _=>trivial⟩
theorem RG.push {B:Nat} {w w9:World} {v v':Value} {K:List REn} {id:Int} (h:RG B w v K) (hg:(w.alloc (.cells #[.int .i64 id,.slice none 0 0] 183)).grownBy w9 v.ownBlock) (hat:v'.ownBlock=v.ownBlock∨v'.ownBlock=some (w.alloc (.cells #[.int .i64 id,.slice none 0 0] 183)).heap.size)
  (ho:w9.ownsRow B 183 2 v' (K.length+1) (K.flatMap REn.cells++ [.int .i64 id,.slice none 0 0])):RG B w9 v' (K++ [((id,[]),.slice none 0 0)]):=
 ⟨by rw[List.length_append,List.length_singleton,List.flatMap_append];exact ho,fun y hy=>by
  rcases List.mem_append.1 hy with hy|hy
  ·have h1:=((h.low y hy).below (mx_al w (.cells #[.int .i64 id,.slice none 0 0] 183)))
   have hz:=(mx_al w (.cells #[.int .i64 id,.slice none 0 0] 183)).size
   have h2:IntsIn (fun g=>v.ownBlock≠some g∧g<(w.alloc (.cells #[.int .i64 id,.slice none 0 0] 183)).heap.size) w9 y.2 y.1.2:=h1.lt.kept (Kept.grown hg) (fun g hg e=>hg.1 e.symm)
   refine h2.mono fun g hg e=>?_
   rcases hat with ha|ha
   ·rw[ha]at e;exact hg.1 e
   ·rw[ha]at e
    have:=Option.some.inj e
    have:=hg.2
    omega
  ·obtain rfl:=List.mem_singleton.1 hy
   exact IntsIn.nil _ _⟩
theorem RG.setLast {B:Nat} {w:World} {gb n c:Nat} {K0:List REn} {x:REn} (h:RG B w (.slice (some ⟨gb,0,none⟩) n c) (K0++ [x])) {u:Value} {c':List Int} (hu:IntsIn (fun g=>gb≠g) w u c'):
  RG B (w.setCell ⟨gb,K0.length*2+1,none⟩ u) (.slice (some ⟨gb,0,none⟩) n c) (K0++ [((x.1.1,c'),u)]):=by
 have hk:Kept (fun g=>g=gb) w (w.setCell ⟨gb,K0.length*2+1,none⟩ u):=(Kept.refl _ _).setCell ⟨gb,K0.length*2+1,none⟩ u rfl
 have hn:n=(K0++ [x]).length:=by
  obtain⟨A',c1,e,_⟩:=mx_slice h.own
  cases e;rfl
 subst hn
 refine⟨?_,fun y hy=>?_⟩
 ·have:=own_setg (j:=K0.length*2+1) h.own u
  rw[List.flatMap_append,List.set_append_right _ _ (by rw[rcells_len];omega),rcells_len,show K0.length*2+1-K0.length*2=1 by omega]at this
  have hlen:(K0++ [(((x.1.1,c'),u):REn)]).length=(K0++ [x]).length:=by rw[List.length_append,List.length_append];rfl
  rw[List.flatMap_append,hlen]
  exact this
 ·rcases List.mem_append.1 hy with hy|hy
  ·refine(h.low y (List.mem_append_left _ hy)).kept hk (fun g hg e=>hg (by rw[e];rfl))
  ·obtain rfl:=List.mem_singleton.1 hy
   exact(hu.kept hk (fun g hg e=>hg e.symm)).mono fun g hg e=>hg (Option.some.inj e)
theorem RG.below {B:Nat} {w w':World} {v:Value} {K:List REn} (h:RG B w v K) (k:Below w.heap.size w w'):RG B w' v K:=
 ⟨own_below h.own k,fun x hx=>(h.low x hx).below k⟩
def splitOk (hs:List Int):Prop:= ∀x∈hs,x≠0∧ -1073741824≤x∧x≤1073741824
set_option maxRecDepth 100000 in
set_option maxHeartbeats 4000000 in
theorem ref_split09 {O:Nat→Prop} (u:Value) (hs:List Int) (w:World) (h:IntsIn O w u hs) (hl:hs.length≤100000) (hok:splitOk hs):
  Calls Tryz.prog 65 #[u] w fun e w'=>(∃ov gv,e= .returned (.tuple #[ov,gv,.int .i64 0])∧IntsIn (fun g=>w.heap.size≤g) w' ov (splitL hs).1∧EntIn (fun _=>True) w' gv (splitL hs).2)∧Below w.heap.size w w':=by
 obtain⟨i0,hi0,iz1,iz2,iz3⟩:=info_parts oinfo_int
 obtain⟨g0,gi0,gz1,gz2,gz3⟩:=info_parts oinfo_grp
 obtain⟨R,hR⟩: ∃R,splitL hs=R:=⟨_,rfl⟩
 rw[hR]
 have HR0:=Lib.hid (show splitGo [] [] hs=R from hR)
 have HH:=Lib.hid h
 have HOK:=Lib.hid hok
 obtain⟨A,c0,rfl,hc0,_⟩:=h
 clear hR hok
 go_enter Tryz.func65,Tryz.ntmps65
 go_wp2_with fail
 go_loopw [5,6,7] (fun ov gv iv wr=> ∃(i:Nat) (out:List Int) (K:List REn),i≤hs.length∧iv= .int .i64 i∧Hid (splitGo out (K.map (·.1)) (hs.drop i)=R)∧Hid (out.length≤i∧K.length≤i∧∀x∈K,x.1.2.length≤i)∧Hid (wr.ownsRow w.heap.size 3 1 ov out.length (out.map (Value.int .i64)))∧Hid (RG w.heap.size wr gv K)∧Hid (∀g,ov.ownBlock=some g→gv.ownBlock≠some g)∧Hid (Below w.heap.size w wr)) (fun _ _ iv _=>hs.length-(intOf iv).toNat)
 case atStart=>exact⟨0,[],[],Nat.zero_le _,rfl,Lib.hid HR0.out,Lib.hid ⟨Nat.le_refl _,Nat.le_refl _,fun x hx=>by cases hx⟩,Lib.hid (World.ownsRow_nil _ _ _ _),Lib.hid ⟨World.ownsRow_nil _ _ _ _,fun x hx=>by cases hx⟩,Lib.hid (fun g e=>by cases e),Lib.hid (Below.refl _ _)⟩
 case round=>
  obtain⟨i,out,K,hi,rfl,HS,HL,HO,HG,HD,HB⟩:=hrel
  obtain⟨Ao,co,rfl,hco⟩:=mx_slice HO.out
  obtain⟨Ag,cg,rfl,hcg⟩:=mx_slice HG.out.own
  have hzw:=HB.out.size
  obtain⟨l1,l2,l3⟩:=HL.out
  by_cases hlt:i<hs.length
  ·obtain⟨id,hid⟩:=atOf hlt
   obtain⟨n0,m1,m2⟩:=HOK.out id (List.mem_of_getElem? hid)
   obtain⟨A2,c2,hA2,_,_,hx⟩:=HH.out.below HB.out
   simp only[Value.slice.injEq,true_and]at hA2
   obtain⟨rfl,rfl⟩:=hA2
   obtain⟨g,o,rfl,hg,_,d0⟩:=hx i id hid
   have hE:=HS.out
   rw[dropAt hid,splitGo]at hE
   have q0:(id==0)=false:=beq_eq_false_iff_ne.2 n0
   have q1:decide ((1073741824:Int)<id)=false:=decide_eq_false (by omega)
   have q2:decide (id<(-1073741824:Int))=false:=decide_eq_false (by omega)
   have wi:IntKind.i64.wrap (i:Int)=(i:Int):=IntWalk.i64_in _ (by omega)
   have li:(i:Int)<(hs.length:Int):=by omega
   clear hx hid n0 hlt
   by_cases hn:id<0
   ·rw[if_pos hn]at hE
    have q3:decide (id<0)=true:=decide_eq_true hn
    have wn:IntKind.i64.wrap (-id)= -id:=IntWalk.i64_in _ (by omega)
    have HE:=Lib.hid hE
    have HD2:=Lib.hid hn
    clear hE hn
    have wl:IntKind.i64.wrap ((K.length:Int)-1)=(K.length:Int)-1:=IntWalk.i64_in _ (by omega)
    go_wp2_with (at_builtin;refine wpList_append_own_at _ rfl _ _ 127 rfl w.heap.size 183 g0 (.agg #[.int .i64 0,.slice none 0 0]) 2 32 Tryz.underlying127 gi0 gz1 gz2 gz3 rfl (by decide) _ K.length _ rfl (own_below HG.out.own (mx_al wr _)) ⟨wr.heap.size,0,none⟩ 1 1 [.int .i64 (-id),.slice none 0 0] rfl rfl (fun j u hj=>cells_list_new wr [.int .i64 (-id),.slice none 0 0] 183 j u hj) (by simp[Value.oneCell']) (by unfold maxLen;omega) (by omega) (by simp;omega) ?_;intro v' w9 hown hgrow hnl hat;have HRG:=Lib.hid (HG.out.push hgrow hat hown);obtain⟨Aw,kw,hv2,_⟩:=mx_slice hown;subst hv2;have HGR:=Lib.hid hgrow;have HAT:=Lib.hid hat;clear hown hgrow hnl hat)
    have hb9:=HB.out.trans (grow_low HG.out.own HGR.out hzw)
    have ho9:=own_kept (own_below HO.out (mx_al wr (.cells #[.int .i64 (-id),.slice none 0 0] 183))) (Kept.grown HGR.out) (fun g hg e=>HD.out g hg e.symm)
    have hd9: ∀g,(Value.slice Ao out.length co).ownBlock=some g→(Value.slice Aw (K.length+1) kw).ownBlock≠some g:=fun g hg e=>by
     rcases HAT.out with ha|ha
     ·rw[ha]at e
      exact HD.out g hg e
     ·rw[ha]at e
      have h1:=Option.some.inj e
      have h2:=(own_lt HO.out g hg).2
      have h3:=(mx_al wr (.cells #[.int .i64 (-id),.slice none 0 0] 183)).size
      omega
    go_roundw
    case rel=>exact⟨i+1,out,K++ [((-id,[]),.slice none 0 0)],by omega,by go_num,Lib.hid (by rw[List.map_append];exact HE.out),Lib.hid ⟨by omega,by rw[List.length_append,List.length_singleton];omega,fun x hx=>by
     rcases List.mem_append.1 hx with hx|hx
     ·have:=l3 x hx;omega
     ·obtain rfl:=List.mem_singleton.1 hx
      exact Nat.zero_le _⟩,Lib.hid ho9,HRG,Lib.hid hd9,Lib.hid hb9⟩
    case measure=>simp[intOf];omega
   ·rw[if_neg hn]at hE
    have q3:decide (id<0)=false:=decide_eq_false hn
    clear hn
    rcases List.eq_nil_or_concat K with hK|⟨K0,x,hK⟩
    ·subst hK
     have HE:=Lib.hid (show splitGo (out++ [id]) [] (hs.drop (i+1))=R from hE)
     have wl:IntKind.i64.wrap (-1:Int)= -1:=by decide
     clear hE
     go_wp2_with (at_builtin;refine wpList_append_own_at _ rfl _ _ 31 rfl w.heap.size 3 i0 (.int .i64 0) 1 8 Tryz.underlying31 hi0 iz1 iz2 iz3 rfl (by decide) _ out.length _ rfl (own_below HO.out (mx_al wr _)) ⟨wr.heap.size,0,none⟩ 1 1 [.int .i64 id] rfl rfl (cell_one_new' _ _ _) (by simp[Value.oneCell']) (by unfold maxLen;omega) (by omega) (by simp;omega) ?_;intro v' w9 hown hgrow hnl hat;obtain⟨Aw,kw,hv2,_⟩:=mx_slice hown;subst hv2;have HOWN:=Lib.hid hown;have HGR:=Lib.hid hgrow;have HAT:=Lib.hid hat;clear hown hgrow hnl hat)
     have hb9:=HB.out.trans (grow_low HO.out HGR.out hzw)
     have hg9:=own_kept (own_below HG.out.own (mx_al wr (.cells #[.int .i64 id] 3))) (Kept.grown HGR.out) (fun g hg e=>HD.out g e.symm hg)
     have hd9: ∀g,(Value.slice Aw (out.length+1) kw).ownBlock=some g→(Value.slice Ag ([] :List REn).length cg).ownBlock≠some g:=fun g hg e=>by
      rcases HAT.out with ha|ha
      ·rw[ha]at hg
       exact HD.out g hg e
      ·rw[ha]at hg
       have h1:=Option.some.inj hg
       have h2:=(own_lt HG.out.own g e).2
       have h3:=(mx_al wr (.cells #[.int .i64 id] 3)).size
       omega
     go_roundw
     case rel=>exact⟨i+1,out++ [id],[],by omega,by go_num,HE,Lib.hid ⟨by rw[List.length_append,List.length_singleton];omega,Nat.zero_le _,fun x hx=>by cases hx⟩,Lib.hid (by rw[List.length_append,List.length_singleton,List.map_append];exact HOWN.out),Lib.hid ⟨hg9,fun x hx=>by cases hx⟩,Lib.hid hd9,Lib.hid hb9⟩
     case measure=>simp[intOf];omega
    ·rw[List.concat_eq_append]at hK
     obtain⟨⟨xi,xl⟩,xv⟩:=x
     have hE2:splitGo out (K0.map (·.1)++ [(xi,xl++ [id])]) (hs.drop (i+1))=R:=by
      have:=hE
      rw[hK,List.map_append,List.map_singleton,List.getLast?_concat,List.dropLast_concat]at this
      exact this
     have hxk:K[K0.length]? =some ((xi,xl),xv):=by rw[hK,List.getElem?_append_right (Nat.le_refl _),Nat.sub_self];rfl
     have hkl:K.length=K0.length+1:=by rw[hK,List.length_append];rfl
     have hxl:=l3 _ (List.mem_of_getElem? hxk)
     have hlow:=HG.out.low _ (List.mem_of_getElem? hxk)
     simp only at hxl hlow
     obtain⟨gb,rfl⟩: ∃gb,Ag=some ⟨gb,0,none⟩:=by
      rcases HG.out.own.2 with⟨hv,h0⟩|⟨gb,_,_,hv,_⟩
      ·omega
      ·cases hv;exact⟨gb,rfl⟩
     obtain⟨hgb1,hgb2⟩:=own_lt HG.out.own gb rfl
     obtain⟨gcs,hgcs⟩:=own_type HG.out.own gb rfl
     have d1:=mx_at HG.out.own (ricell_at K K0.length _ hxk).2
     simp only at d1
     have hsrc:=hlow.src
     obtain⟨Ax,cx,rfl,_⟩:=hlow
     have ho2:=own_newS wr [] 3 1 0 rfl (by omega)
     have hb2:=mx_al wr (.cells ([] :List Value).toArray 3)
     have y0:(wr.alloc (.cells #[] 3)).cell? ⟨gb,K0.length*2+1,none⟩=some (.slice Ax xl.length cx):=(hb2.cell (p:=⟨gb,K0.length*2+1,none⟩) hgb2).trans d1
     obtain⟨W2,hW2⟩: ∃z,wr.alloc (.cells ([] :List Value).toArray 3)=z:=⟨_,rfl⟩
     rw[hW2]at ho2 hb2
     have HW2:=Lib.hid hW2
     have HO2:=Lib.hid ho2
     have HB2:=Lib.hid hb2
     have HSR:=Lib.hid (hsrc.below hb2)
     have HK:=Lib.hid hK
     have HKL:=Lib.hid hkl
     have HE:=Lib.hid hE2
     have HD1:=Lib.hid d1
     have HGC:=Lib.hid hgcs
     have HXL:=Lib.hid (show(xl.map (Value.int .i64)).length=xl.length*1 from by simp)
     have wl:IntKind.i64.wrap ((K.length:Int)-1)=(K0.length:Int):=by rw[IntWalk.i64_in _ (by omega)];omega
     have wj:IntKind.i64.wrap (K0.length:Int)=(K0.length:Int):=IntWalk.i64_in _ (by omega)
     have lk:(K0.length:Int)<(K.length:Int):=by omega
     have qk:decide ((K0.length:Int)<0)=false:=decide_eq_false (by omega)
     have hK0:K0.length≤100000:=by omega
     clear hE hE2 hK hkl hxk hgcs d1 hsrc hW2 ho2 hb2 hgb1
     go_upto_region 5 with(at_builtin;first|(rw[HW2.out];refine wpList_append_any rfl _ _ 31 rfl wr.heap.size 3 i0 (.int .i64 0) 1 8 Tryz.underlying31 hi0 iz1 iz2 iz3 rfl (by decide) _ 0 _ rfl HO2.out (.slice Ax xl.length cx) xl.length (xl.map (Value.int .i64)) rfl HSR.out HXL.out (by simp[Value.oneCell']) (by unfold maxLen;omega) (by omega) HB2.out.size ?_;intro v' W4 hown hgrow hat;rw[Nat.zero_add,List.nil_append]at hown;obtain⟨A4,k4,rfl,_⟩:=mx_slice hown;have hb4:Below wr.heap.size wr W4:=HB2.out.trans (Below.grown (Below.refl _ _) (show W2.grownBy W4 (Value.slice (some ⟨wr.heap.size,0,none⟩) 0 0).ownBlock from hgrow) HB2.out.size (fun g e=>(own_lt HO2.out g e).1));have HO4:=Lib.hid hown;have HB4:=Lib.hid hb4;have hz4:=hb4.size;clear hown hgrow hat hb4 y0)|(refine wpList_append_own_at _ rfl _ _ 31 rfl wr.heap.size 3 i0 (.int .i64 0) 1 8 Tryz.underlying31 hi0 iz1 iz2 iz3 rfl (by decide) _ xl.length _ rfl (own_below HO4.out (mx_al W4 _)) ⟨W4.heap.size,0,none⟩ 1 1 [.int .i64 id] rfl rfl (cell_one_new' _ _ _) (by simp[Value.oneCell']) (by unfold maxLen;omega) (by omega) (by simp;omega) ?_;intro v' W5 hown hgrow hnl hat;obtain⟨A5,k5,hv5,_⟩:=mx_slice hown;subst hv5;have HO5:=Lib.hid hown;have HB5:=Lib.hid (HB4.out.trans (grow_low HO4.out hgrow hz4));have z0:=(HB5.out.cell (p:=⟨gb,K0.length*2+1,none⟩) hgb2).trans HD1.out;have f0:=oj_free (j:=K0.length*2+1) ((HB5.out.block gb hgb2).trans HGC.out);clear hown hgrow hnl hat))
     obtain⟨W6,hW6⟩: ∃z,W5.setCell ⟨gb,K0.length*2+1,none⟩ (.slice A5 (xl.length+1) k5)=z:=⟨_,rfl⟩
     rw[hW6]
     have hown5:=HO5.out
     have hrg5:=HG.out.below HB5.out
     rw[HK.out]at hrg5
     have hints:IntsIn (fun g=>gb≠g) W5 (.slice A5 (xl.length+1) k5) (xl++ [id]):=by
      have h1:W5.ownsRow wr.heap.size 3 1 (.slice A5 (xl.length+1) k5) (xl++ [id]).length ((xl++ [id]).map (Value.int .i64)):=by
       rw[List.length_append,List.length_singleton,List.map_append];exact hown5
      exact(IntsIn.of_own h1).mono fun g hg e=>by have:=hg.1;omega
     have hrg6:=RG.setLast hrg5 hints
     rw[hW6]at hrg6
     have hk6:Kept (fun g=>g=gb) W5 W6:=by rw[←hW6];exact(Kept.refl _ _).setCell ⟨gb,K0.length*2+1,none⟩ _ rfl
     have ho6:=own_kept (own_below HO.out HB5.out) hk6 (fun g hg e=>HD.out g hg (by rw[e];rfl))
     have hgb1:=(own_lt HG.out.own gb rfl).1
     have hb6:Below w.heap.size w W6:=(HB.out.trans (HB5.out.mono hzw)).trans (hk6.below (fun g e=>by omega) (Nat.le_trans hzw HB5.out.size))
     have HRG6:=Lib.hid hrg6
     have HO6:=Lib.hid ho6
     have HB6:=Lib.hid hb6
     clear hrg5 hrg6 hints hk6 ho6 hb6 hown5 hW6 z0 f0
     go_wp2_with fail
     go_roundw
     case rel=>exact⟨i+1,out,K0++ [((xi,xl++ [id]),.slice A5 (xl.length+1) k5)],by omega,by go_num,Lib.hid (by rw[List.map_append];exact HE.out),Lib.hid ⟨by omega,by have:=HKL.out;rw[List.length_append,List.length_singleton];omega,fun x hx=>by
      rcases List.mem_append.1 hx with hx|hx
      ·have:=l3 x (by rw[HK.out];exact List.mem_append_left _ hx)
       omega
      ·obtain rfl:=List.mem_singleton.1 hx
       show(xl++ [id]).length≤_
       rw[List.length_append,List.length_singleton];omega⟩,HO6,Lib.hid (by have h:=HRG6.out;rw[←HK.out]at h;exact h),HD,HB6⟩
     case measure=>simp[intOf];omega
  ·have hE:=HS.out
   rw[List.drop_of_length_le (by omega),splitGo]at hE
   subst hE
   go_wp2_with fail
   go_ret3
   exact⟨⟨_,_,rfl,(IntsIn.of_own HO.out).mono (fun _ hg=>hg.1),HG.out.ents⟩,HB.out⟩
end Go.Proofs.YtajbmjpodeilpaaGreatDoor
