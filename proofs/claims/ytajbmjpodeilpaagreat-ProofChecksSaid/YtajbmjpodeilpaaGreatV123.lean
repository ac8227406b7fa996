/- Plain: the reference's Trim: which hints, which steps are needed. Plain: reference 08: follow, Check, Trim. salvorlaw02.Ints, salvorlaw08.Ints; salvorlaw07.Equal at any equal steps. salvorlaw05.Theirs: a formula for the reference. -/
import Derived.Test.YtajbmjpodeilpaaGreatV122
import Derived.Test.YtajbmjpodeilpaaGreatV101
import Derived.Test.YtajbmjpodeilpaaGreatV102
namespace Go.Proofs.YtajbmjpodeilpaaGreat
open Go.RowKit
def rBit (hs:List (List Int)) (us:List Int) (n i:Nat) (t:List Bool):Bool:=
 decide (i+1=n)||((hs.drop (i+1)).zip t).any fun p=>p.2&&p.1.contains (-(us.getD i 0))
def rNd (hs:List (List Int)) (us:List Int) (n:Nat):Nat→List Bool
 | 0=> []
 | k+1=>rBit hs us n (n-(k+1)) (rNd hs us n k)::rNd hs us n k
def idxGo:Nat→List Bool→List Int
 | _,[]=> []
 | i,b::r=>if b=true then(i:Int)::idxGo (i+1) r else idxGo (i+1) r
def rWo (hs:List (List Int)) (us:List Int):List Int:=idxGo 0 (rNd hs us hs.length hs.length)
theorem needM_zero: ∀(xs:List Int) (f:Int→Int) (z:Int),(needM f xs z=0↔f z=0∧∀l∈xs,z≠litN l)
 | [],f,z=>by simp[needM]
 | x::r,f,z=>by
  have e:needM f (x::r) z=needM (fun z=>if z=litN x then 1 else f z) r z:=rfl
  rw[e,needM_zero r]
  by_cases h:z=litN x
  ·simp[h]
  ·simp[h]
theorem rNd_len (hs:List (List Int)) (us:List Int) (n:Nat): ∀k,(rNd hs us n k).length=k
 | 0=>rfl
 | k+1=>by rw[rNd,List.length_cons,rNd_len hs us n k]
def Wants (hs:List (List Int)) (k:Nat) (t:List Bool) (z:Int):Prop:=((hs.drop k).zip t).any (fun p=>p.2&&p.1.contains (-z))=true
theorem need_rWo {hs:List (List Int)} {us:List Int} {n:Nat} (hn:hs.length=n) (hu:us.length+1=n) (hl: ∀c∈hs,∀x∈c,litB x=true): ∀(k:Nat) (f:Int→Int),k≤n→(∀z,f z=0↔¬Wants hs k (rNd hs us n (n-k)) z)→needGo hs us k f (idxGo k (rNd hs us n (n-k))).reverse=(idxGo 0 (rNd hs us n n)).reverse
 | 0,f,_,_=>by rw[needGo,Nat.sub_zero]
 | k+1,f,hk,hf=>by
  have e:n-k=(n-(k+1))+1:=by omega
  have hT:rNd hs us n (n-k)=rBit hs us n k (rNd hs us n (n-(k+1)))::rNd hs us n (n-(k+1)):=by
   rw[e,rNd]
   congr 1
   congr 1
   omega
  obtain⟨T,hTT⟩: ∃T,rNd hs us n (n-(k+1))=T:=⟨_,rfl⟩
  rw[hTT]at hf hT⊢
  have hd:hs.drop k=hs.getD k []::hs.drop (k+1):=by
   rw[List.drop_eq_getElem_cons (by omega),List.getD_eq_getElem?_getD,List.getElem?_eq_getElem (by omega),Option.getD_some]
  have hW: ∀b z,Wants hs k (b::T) z↔(b=true∧ -z∈hs.getD k [])∨Wants hs (k+1) T z:=fun b z=>by
   unfold Wants
   rw[hd,List.zip_cons_cons,List.any_cons]
   simp
  have hc: ∀x∈hs.getD k [],litB x=true:=fun x hx=>by
   rw[List.getD_eq_getElem?_getD,List.getElem?_eq_getElem (by omega),Option.getD_some]at hx
   exact hl _ (List.getElem_mem _) x hx
  rw[needGo]
  have hbit:rBit hs us n k T=true↔¬(k<us.length∧f (us.getD k 0)=0):=by
   rw[hf]
   unfold rBit Wants
   rw[Bool.or_eq_true,decide_eq_true_eq]
   by_cases h1:k+1=n
   ·exact⟨fun _ h=>by omega,fun _=>.inl h1⟩
   ·constructor
    ·rintro (h|h) ⟨_,h2⟩
     ·exact h1 h
     ·exact h2 h
    ·intro h
     exact .inr (Classical.byContradiction fun h2=>h ⟨by omega,h2⟩)
  by_cases h:k<us.length∧f (us.getD k 0)=0
  ·rw[if_pos h]
   have hb:rBit hs us n k T=false:=Bool.eq_false_iff.2 fun hb=>(hbit.1 hb) h
   rw[hb]at hT
   have hi:idxGo k (rNd hs us n (n-k))=idxGo (k+1) T:=by rw[hT,idxGo,if_neg (by decide)]
   rw[←hi]
   refine need_rWo hn hu hl k f (by omega) fun z=>?_
   rw[hf,hT,hW]
   simp
  ·rw[if_neg h]
   rw[hbit.2 h]at hT
   have hi:(idxGo (k+1) T).reverse++ [(k:Int)]=(idxGo k (rNd hs us n (n-k))).reverse:=by rw[hT,idxGo,if_pos rfl,List.reverse_cons]
   rw[hi]
   refine need_rWo hn hu hl k _ (by omega) fun z=>?_
   rw[needM_zero,hf,hT,hW,not_or]
   constructor
   ·rintro ⟨h1,h2⟩
    exact⟨fun h3=>h2 _ h3.2 (by rw[litN_eq (hc _ h3.2),Int.neg_neg]),h1⟩
   ·rintro ⟨h1,h2⟩
    exact⟨h2,fun l hl e=>h1 ⟨rfl,by rw[e,litN_eq (hc l hl),Int.neg_neg];exact hl⟩⟩
theorem rWo_eq {hs:List (List Int)} {us:List Int} (hu:us.length+1=hs.length) (hl: ∀c∈hs,∀x∈c,litB x=true):rWo hs us=needL hs us:=by
 unfold needL rWo
 have:=need_rWo (hs:=hs) (us:=us) (n:=hs.length) rfl hu hl hs.length (fun _=>0) (Nat.le_refl _) (fun z=>by
  rw[Nat.sub_self]
  simp[Wants,rNd])
 rw[Nat.sub_self]at this
 have e:(idxGo hs.length (rNd hs us hs.length 0)).reverse= []:=rfl
 rw[e]at this
 rw[this,List.reverse_reverse]
def tBit (s:EStep) (r:List EStep) (t:List Bool):Bool:=s.lits.isEmpty||(r.zip t).any fun p=>p.2&&p.1.hints.contains s.id
def rTn:List EStep→List Bool
 | []=> []
 | s::r=>tBit s r (rTn r)::rTn r
def rPick:List EStep→List Bool→List EStep
 | s::r,b::t=>if b=true then s::rPick r t else rPick r t
 | _,_=> []
theorem rTn_len: ∀l:List EStep,(rTn l).length=l.length
 | []=>rfl
 | s::r=>by rw[rTn,List.length_cons,List.length_cons,rTn_len r]
theorem needI_zero: ∀(xs:List Int) (f:Int→Int) (z:Int),(needI f xs z=0↔f z=0∧z∉xs)
 | [],f,z=>by simp[needI]
 | x::r,f,z=>by
  have e:needI f (x::r) z=needI (fun z=>if z=x then 1 else f z) r z:=rfl
  rw[e,needI_zero r]
  by_cases h:z=x
  ·simp[h]
  ·simp[h]
theorem bk_pick: ∀(l r:List EStep) (f:Int→Int),(∀z,f z=0↔¬((r.zip (rTn r)).any fun p=>p.2&&p.1.hints.contains z)=true)→bkGo f l (rPick r (rTn r)).reverse=(rPick (l.reverse++r) (rTn (l.reverse++r))).reverse
 | [],r,f,_=>rfl
 | s::l,r,f,hf=>by
  rw[bkGo,List.reverse_cons,List.append_assoc,List.singleton_append]
  have hbit:tBit s r (rTn r)=true↔¬(0<s.lits.length∧f s.id=0):=by
   rw[hf]
   unfold tBit
   rw[Bool.or_eq_true,List.isEmpty_iff_length_eq_zero]
   constructor
   ·rintro (h|h) ⟨h1,h2⟩
    ·omega
    ·exact h2 h
   ·intro h
    by_cases h1:s.lits.length=0
    ·exact .inl h1
    ·exact .inr (Classical.byContradiction fun h2=>h ⟨by omega,h2⟩)
  have hT:rTn (s::r)=tBit s r (rTn r)::rTn r:=rfl
  by_cases h:0<s.lits.length∧f s.id=0
  ·rw[if_pos h]
   have hb:tBit s r (rTn r)=false:=Bool.eq_false_iff.2 fun hb=>(hbit.1 hb) h
   rw[hb]at hT
   have hi:rPick (s::r) (rTn (s::r))=rPick r (rTn r):=by rw[hT,rPick,if_neg (by decide)]
   rw[←hi]
   refine bk_pick l (s::r) f fun z=>?_
   rw[hf,hT,List.zip_cons_cons,List.any_cons,Bool.false_and,Bool.false_or]
  ·rw[if_neg h]
   rw[hbit.2 h]at hT
   have hi:(rPick r (rTn r)).reverse++ [s]=(rPick (s::r) (rTn (s::r))).reverse:=by rw[hT,rPick,if_pos rfl,List.reverse_cons]
   rw[hi]
   refine bk_pick l (s::r) _ fun z=>?_
   rw[needI_zero,hf,hT,List.zip_cons_cons,List.any_cons]
   simp only[Bool.true_and,Bool.or_eq_true,List.contains_iff_mem,not_or]
   exact⟨fun h=>⟨h.2,h.1⟩,fun h=>⟨h.2,h.1⟩⟩
theorem bkL_pick (l:List EStep):bkL l=rPick l (rTn l):=by
 unfold bkL
 have:=bk_pick l.reverse [] (fun _=>0) (fun z=>by simp[rTn])
 rw[List.reverse_reverse,List.append_nil]at this
 show(bkGo (fun _=>0) l.reverse (rPick [] (rTn [])).reverse).reverse=_
 rw[this,List.reverse_reverse]
end Go.Proofs.YtajbmjpodeilpaaGreat
namespace Go.Proofs.YtajbmjpodeilpaaGreat
open Go.RowKit
def rFolC:List Int→List (List Int)→Nat→List Int×Nat×Bool×Nat
 | all,[],i=>(all,i,false,0)
 | all,c::r,i=>if(rLook all c []).1=2 then(all,i+1,true,0)else if(rLook all c []).1=3 then rFolC (all++ [(rLook all c []).2]) r (i+1)else([],i,false,81)
theorem folC_eq: ∀(cs:List (List Int)) (all us:List Int) (f:Int→Int) (i:Nat),Says f (fun y=>y∈all)→(∀c∈cs,∀y∈c,litB y=true)→(rFolC all cs i).2=(folGo f cs us i).2∧((folGo f cs us i).2.2.2=0→∃vs,(rFolC all cs i).1=all++vs∧(folGo f cs us i).1=us++vs)
 | [],all,us,f,i,_,_=>⟨rfl,fun _=>⟨[],by simp[rFolC],by simp[folGo]⟩⟩
 | c::r,all,us,f,i,hf,hc=>by
  have hcl:=hc c List.mem_cons_self
  have e:rLook all c []=lookF f c:=rLook_go hf c [] 2 0 hcl (.inl ⟨rfl,rfl,rfl⟩)
  rw[rFolC,folGo,e]
  by_cases h2:(lookF f c).1=2
  ·rw[if_pos h2,if_pos h2]
   exact⟨rfl,fun _=>⟨[],by simp,by simp⟩⟩
  ·rw[if_neg h2,if_neg h2]
   by_cases h3:(lookF f c).1=3
   ·rw[if_pos h3,if_pos h3]
    obtain⟨h4,h5⟩:=lookF_unit (show lookF f c=(3,(lookF f c).2)from Prod.ext h3 rfl)
    have hu:=hcl _ h4
    obtain⟨a,b⟩:=hf _ hu
    have hs:Says (putF f (lookF f c).2) (fun y=>y∈all++ [(lookF f c).2]):=(says_put hf hu (fun h=>by have:=a.2 h;omega) (fun h=>by have:=b.2 h;omega)).same fun y=>by rw[List.mem_append,List.mem_singleton]
    obtain⟨i1,i2⟩:=folC_eq r _ (us++ [(lookF f c).2]) _ (i+1) hs (fun c h=>hc c (List.mem_cons_of_mem _ h))
    refine⟨i1,fun h=>?_⟩
    obtain⟨vs,j1,j2⟩:=i2 h
    exact⟨(lookF f c).2::vs,by rw[j1];simp,by rw[j2];simp⟩
   ·rw[if_neg h3,if_neg h3]
    exact⟨rfl,fun h=>by cases h⟩
theorem folGo_cut: ∀(cs:List (List Int)) (f:Int→Int) (us:List Int) (i:Nat),(folGo f cs us i).2.2.1=true→∃m,m<cs.length∧(folGo f cs us i).2.1=i+(m+1)∧(folGo f cs us i).1.length=us.length+m∧folGo f (cs.take (m+1)) us i=folGo f cs us i
 | [],f,us,i,h=>by cases h
 | c::r,f,us,i,h=>by
  rw[folGo]at h⊢
  by_cases h2:(lookF f c).1=2
  ·rw[if_pos h2]at h⊢
   exact⟨0,by simp,by simp,by simp,by rw[List.take_succ_cons,List.take_zero,folGo,if_pos h2]⟩
  ·rw[if_neg h2]at h⊢
   by_cases h3:(lookF f c).1=3
   ·rw[if_pos h3]at h⊢
    obtain⟨m,h4,h5,h6,h7⟩:=folGo_cut r _ _ _ h
    refine⟨m+1,by simp only[List.length_cons];omega,by rw[h5];omega,by rw[h6];simp;omega,?_⟩
    rw[List.take_succ_cons,folGo,if_neg h2,if_pos h3,h7]
   ·rw[if_neg h3]at h
    cases h
section
variable {c out:List Int} {hs:List (List Int)}
theorem chk_alw (h:alwR c=true) (hc:clauseB c=true):(chkP c hs).2=(0,0)∧trimP c hs= []:=by
 have h1:alwL c=true:=by rw[←alwR_eq hc];exact h
 have h2:chkP c hs=([],0,0):=by unfold chkP;rw[if_pos h1]
 refine⟨by rw[h2],?_⟩
 unfold trimP
 rw[h2,if_neg (fun h=>h.2 rfl)]
theorem chk_fol (hc:clauseB c=true) (hal:alwR c=false) (hout: ∀y,y∈out↔ -y∈c) (hcs: ∀d∈hs,clauseB d=true):
  (chkP c hs).2=((rFolC out hs 0).2.1,if(rFolC out hs 0).2.2.2=0∧(rFolC out hs 0).2.2.1=false then 82 else(rFolC out hs 0).2.2.2):=by
 have h1:alwL c=false:=by rw[←alwR_eq hc];exact hal
 obtain⟨f,hf⟩:=asm_some hc h1
 have hs1:Says f (fun y=>y∈out):=(asgF_says hf).same fun y=>by rw[asmL_mem hc,hout]
 obtain⟨e1,e2⟩:=folC_eq hs out [] f 0 hs1 (fun d hd y hy=>clauseB_lit (hcs d hd) hy)
 unfold chkP
 rw[if_neg (by rw[h1];decide),hf]
 simp only
 rw[e1]
theorem trim_fol (hc:clauseB c=true) (hal:alwR c=false) (hout: ∀y,y∈out↔ -y∈c) (hcs: ∀d∈hs,clauseB d=true) (h0:(chkP c hs).2.2=0) {n:Nat} (hn:(chkP c hs).2.1=n):
  1≤n∧n≤hs.length∧∃us,(rFolC out (hs.take n) 0).1=out++us∧us.length+1=n∧(∀x∈us,litB x=true)∧rWo (hs.take n) us=trimP c hs:=by
 have h1:alwL c=false:=by rw[←alwR_eq hc];exact hal
 obtain⟨f,hf⟩:=asm_some hc h1
 have hs1:Says f (fun y=>y∈out):=(asgF_says hf).same fun y=>by rw[asmL_mem hc,hout]
 have hk:chkP c hs=((folGo f hs [] 0).1,(folGo f hs [] 0).2.1,if(folGo f hs [] 0).2.2.2=0∧(folGo f hs [] 0).2.2.1=false then 82 else(folGo f hs [] 0).2.2.2):=by
  unfold chkP
  rw[if_neg (by rw[h1];decide),hf]
 obtain⟨F,hF⟩: ∃F,folGo f hs [] 0=F:=⟨_,rfl⟩
 rw[hF]at hk
 have h0':=h0
 rw[hk]at h0 hn
 simp only at h0 hn
 have h2:F.2.2.2=0:=by
  by_cases h:F.2.2.2=0∧F.2.2.1=false
  ·exact h.1
  ·rwa [if_neg h]at h0
 have h3:F.2.2.1=true:=by
  cases h:F.2.2.1 with
  | true=>rfl
  | false=>
   rw[if_pos ⟨h2,h⟩]at h0
   cases h0
 obtain⟨m,m1,m2,m3,m4⟩:=folGo_cut hs f [] 0 (by rw[hF];exact h3)
 rw[hF]at m2 m3 m4
 have hm:n=m+1:=by omega
 subst hm
 have hlit: ∀d∈hs.take (m+1),∀y∈d,litB y=true:=fun d hd y hy=>clauseB_lit (hcs d (List.mem_of_mem_take hd)) hy
 obtain⟨e1,e2⟩:=folC_eq (hs.take (m+1)) out [] f 0 hs1 hlit
 rw[m4]at e1 e2
 obtain⟨vs,j1,j2⟩:=e2 h2
 rw[List.nil_append]at j2
 have hvl:vs.length+1=m+1:=by
  rw[←j2,m3]
  simp
 refine⟨by omega,by omega,vs,j1,hvl,fun x hx=>?_,?_⟩
 ·rcases folGo_lit hs f [] 0 x (by rw[hF,j2];exact hx)with h|⟨d,hd,hxd⟩
  ·cases h
  ·exact clauseB_lit (hcs d hd) hxd
 rw[rWo_eq (by rw[List.length_take];omega) hlit]
 unfold trimP
 have hm2:F.2.1=m+1:=by omega
 have hk2:chkP c hs=(vs,m+1,0):=by rw[hk,if_neg (by rw[h3];simp),h2,hm2,j2]
 rw[hk2,if_pos ⟨rfl,by simp⟩]
end
end Go.Proofs.YtajbmjpodeilpaaGreat
namespace Go.Proofs.YtajbmjpodeilpaaGreat
open Go.RowKit
theorem qinfo_int:(Tryz.prog.info? 3).map (fun i=>(i.zero,i.size,i.bytes))=some (some (.int .i64 0),1,8):=by kernel_rfl
set_option maxRecDepth 100000 in
set_option maxHeartbeats 1000000 in
theorem ints02 {O:Nat→Prop} (u:Value) (xs:List Int) (w:World) (h1:IntsIn O w u xs) (hs:xs.length≤1000000):
  Calls Tryz.prog 35 #[u] w fun e w'=> ∃v,e= .returned v∧w'.ownsRow w.heap.size 3 1 v xs.length (xs.map (Value.int .i64))∧Below w.heap.size w w':=by
 obtain⟨i0,hi,hz0,hz1,hz2⟩:=info_parts qinfo_int
 obtain⟨A,c,rfl,hc,_,hx⟩:=h1
 have HX:=Lib.hid hx
 clear hx
 go_enter Tryz.func35,Tryz.ntmps35
 go_wp2_with fail
 go_loopw [3,8] (fun t i wr=> ∃k:Nat,k≤xs.length∧i= .int .i64 k∧Hid (wr.ownsRow w.heap.size 3 1 t k ((xs.take k).map (Value.int .i64)))∧Hid (Below w.heap.size w wr)) (fun _ i _=>xs.length-(intOf i).toNat)
 case atStart=>exact⟨0,Nat.zero_le _,rfl,Lib.hid (World.ownsRow_nil _ _ _ _),Lib.hid (Below.refl _ _)⟩
 case round=>
  obtain⟨k,hk,rfl,HV,HW⟩:=hrel
  have hzw:=HW.out.size
  obtain⟨Av,cv,hv,_⟩:=mx_slice HV.out
  subst hv
  by_cases hlt:k<xs.length
  ·obtain⟨x,hxk⟩:=getElem_of hlt
   obtain⟨g,o,rfl,hg,_,d0⟩:=HX.out k x hxk
   have d1:=(HW.out.cell (p:=⟨g,o+k,none⟩) hg).trans d0
   have hnx:(xs.take (k+1)).map (Value.int .i64)=(xs.take k).map (Value.int .i64)++ [.int .i64 x]:=by rw[List.take_add_one,hxk];simp
   have HNX:=Lib.hid hnx
   obtain⟨XS,hXS⟩: ∃XS,(xs.take k).map (Value.int .i64)=XS:=⟨_,rfl⟩
   rw[hXS]at HV HNX
   clear hXS hnx hxk d0
   go_wp2_with (at_builtin;refine wpList_append_own_at _ rfl _ _ 32 rfl w.heap.size 3 i0 (.int .i64 0) 1 8 Tryz.underlying32 hi hz0 hz1 hz2 rfl (by decide) _ k _ rfl (own_below HV.out (mx_al wr _)) ⟨wr.heap.size,0,none⟩ 1 1 [.int .i64 x] rfl rfl (cell_one_new' _ _ _) (by simp[Value.oneCell']) (by unfold maxLen;omega) (by omega) (by simp;omega) ?_;intro v' w1 hown hgrow hnl hat;obtain⟨Aw,kw,hv2,_⟩:=mx_slice hown;subst hv2;have HOWN:=Lib.hid hown;have HG:=Lib.hid hgrow;clear hown hgrow hnl hat)
   have hw1:Below w.heap.size w w1:=(HW.out.trans ((mx_al wr (.cells #[.int .i64 x] 3)).mono hzw)).grown HG.out (by simp;omega) (fun g hg=>(own_lt HV.out g hg).1)
   go_roundw
   case rel=>exact⟨k+1,by omega,by go_num,Lib.hid (by rw[HNX.out];exact HOWN.out),Lib.hid hw1⟩
   case measure=>simp[intOf];omega
  ·obtain rfl:k=xs.length:=by omega
   rw[List.take_length]at HV
   go_wp2_with fail
   go_ret
   exact⟨_,rfl,HV.out,HW.out⟩
set_option maxRecDepth 100000 in
set_option maxHeartbeats 4000000 in
theorem eq7_step {O O':Nat→Prop} (s:EStep) (lv hv lv' hv':Value) (w:World) (hl:IntsIn O w lv s.lits) (hh:IntsIn O w hv s.hints) (hl':IntsIn O' w lv' s.lits) (hh':IntsIn O' w hv' s.hints) (hll:s.lits.length≤1000000) (hhl:s.hints.length≤1000000):
  Calls Tryz.prog 47 #[.agg #[.bool s.del,.int .i64 s.id,lv,hv],.agg #[.bool s.del,.int .i64 s.id,lv',hv']] w fun e w'=>e= .returned (.bool true)∧Below w.heap.size w w':=by
 obtain⟨del,id,lits,hints⟩:=s
 simp only[]at hl hh hl' hh' hll hhl
 have HL:=Lib.hid hl
 have HH:=Lib.hid hh
 have HL':=Lib.hid hl'
 have HH':=Lib.hid hh'
 obtain⟨A1,c1,rfl,_,_,_⟩:=hl
 obtain⟨A2,c2,rfl,_,_,_⟩:=hh
 obtain⟨A3,c3,rfl,_,_,_⟩:=hl'
 obtain⟨A4,c4,rfl,_,_,_⟩:=hh'
 obtain⟨wb,hwb⟩: ∃x,(w.alloc (.cells #[.bool del,.int .i64 id,.slice A1 lits.length c1,.slice A2 hints.length c2] 34)).alloc (.cells #[.bool del,.int .i64 id,.slice A3 lits.length c3,.slice A4 hints.length c4] 78)=x:=⟨_,rfl⟩
 have hB:Below w.heap.size w wb:=by rw[←hwb];exact((Below.refl _ _).alloc (Nat.le_refl _) _).alloc (by simp) _
 have hzb:wb.heap.size=w.heap.size+2:=by rw[←hwb];simp
 have hb3:wb.heap[w.heap.size+1]? =some (.cells #[.bool del,.int .i64 id,.slice A3 lits.length c3,.slice A4 hints.length c4] 78 (0,0)):=by
  rw[←hwb]
  have:=World.alloc_heap_new (w.alloc (.cells #[.bool del,.int .i64 id,.slice A1 lits.length c1,.slice A2 hints.length c2] 34)) (.cells #[.bool del,.int .i64 id,.slice A3 lits.length c3,.slice A4 hints.length c4] 78)
  rwa [World.size_alloc]at this
 have hb2:wb.heap[w.heap.size]? =some (.cells #[.bool del,.int .i64 id,.slice A1 lits.length c1,.slice A2 hints.length c2] 34 (0,0)):=by
  rw[←hwb,Below.heap_alloc _ _ _ (by simp)]
  exact World.alloc_heap_new _ _
 have HWB:=Lib.hid hwb
 have HB:=Lib.hid hB
 have b0:=mx_cell (j:=0) hb2
 have b1:=mx_cell (j:=1) hb2
 have b2:=mx_cell (j:=2) hb2
 have b3:=mx_cell (j:=3) hb2
 have e0:=mx_cell (j:=0) hb3
 have e1:=mx_cell (j:=1) hb3
 have e2:=mx_cell (j:=2) hb3
 have e3:=mx_cell (j:=3) hb3
 have HS0:=Lib.hid (show wb.cell? ⟨w.heap.size,0,none⟩=some (.bool del)∧wb.cell? ⟨w.heap.size,1,none⟩=some (.int .i64 id)∧wb.cell? ⟨w.heap.size,2,none⟩=some (.slice A1 lits.length c1)∧wb.cell? ⟨w.heap.size,3,none⟩=some (.slice A2 hints.length c2)∧wb.cell? ⟨w.heap.size+1,0,none⟩=some (.bool del)∧wb.cell? ⟨w.heap.size+1,1,none⟩=some (.int .i64 id)∧wb.cell? ⟨w.heap.size+1,2,none⟩=some (.slice A3 lits.length c3)∧wb.cell? ⟨w.heap.size+1,3,none⟩=some (.slice A4 hints.length c4)from⟨b0,b1,b2,b3,e0,e1,e2,e3⟩)
 clear hwb hB b0 b1 b2 b3 e0 e1 e2 e3 hb2 hb3
 go_enter Tryz.func47,Tryz.ntmps47
 go_wp2_with fail
 rw[HWB.out]
 refine wp_region_held_drew (S:=fun w'=>w'.cell? ⟨w.heap.size,0,none⟩=some (.bool del)∧w'.cell? ⟨w.heap.size,1,none⟩=some (.int .i64 id)∧w'.cell? ⟨w.heap.size,2,none⟩=some (.slice A1 lits.length c1)∧w'.cell? ⟨w.heap.size,3,none⟩=some (.slice A2 hints.length c2)∧w'.cell? ⟨w.heap.size+1,0,none⟩=some (.bool del)∧w'.cell? ⟨w.heap.size+1,1,none⟩=some (.int .i64 id)∧w'.cell? ⟨w.heap.size+1,2,none⟩=some (.slice A3 lits.length c3)∧w'.cell? ⟨w.heap.size+1,3,none⟩=some (.slice A4 hints.length c4)) (by kernel_rfl) HS0.out (fun hHeld=>?_)
 obtain⟨wD,hwD⟩: ∃x,wb.drew=x:=⟨_,rfl⟩
 have hbD:Below wb.heap.size wb wD:=by rw[←hwD];exact mx_drew wb
 rw[hwD]at hHeld⊢
 have hzD:wD.heap.size=w.heap.size+2:=by rw[←hwD];exact hzb
 clear hwD
 refine takeS 0 5 ?_
 refine takeS 1 6 ?_
 refine takeS 2 7 ?_
 refine takeS 3 8 ?_
 refine takeS 4 9 ?_
 refine takeS 5 10 ?_
 refine takeS 6 11 ?_
 refine takeS 7 12 ?_
 refine takeS 8 13 ?_
 refine takeS 9 14 ?_
 refine takeS 10 15 ?_
 refine takeS 11 16 ?_
 refine takeS 12 17 ?_
 refine takeS 13 18 ?_
 refine takeS 14 19 ?_
 refine takeS 16 21 ?_
 refine takeS 17 22 ?_
 refine ready1 15 (fun K hK=>?_)
 go_simp
 refine(ints02 (.slice A1 lits.length c1) lits wD (HL.out.below (HB.out.trans (hbD.mono HB.out.size))) (by omega)).mono ?_
 rintro e w1 ⟨v1,rfl,ho1,hb1⟩
 obtain⟨Ai,ki,hv1,_⟩:=mx_slice ho1
 subst hv1
 have hz1:=hb1.size
 have HI1:=Lib.hid (IntsIn.of_own ho1)
 have HB1:=Lib.hid (HB.out.trans ((hbD.trans (hb1.mono hbD.size)).mono HB.out.size))
 refine hK.out _ _ ⟨(hb1.cell (p:=⟨w.heap.size,0,none⟩) (by show w.heap.size<_;omega)).trans hHeld.1,(hb1.cell (p:=⟨w.heap.size,1,none⟩) (by show w.heap.size<_;omega)).trans hHeld.2.1,(hb1.cell (p:=⟨w.heap.size,2,none⟩) (by show w.heap.size<_;omega)).trans hHeld.2.2.1,(hb1.cell (p:=⟨w.heap.size,3,none⟩) (by show w.heap.size<_;omega)).trans hHeld.2.2.2.1,(hb1.cell (p:=⟨w.heap.size+1,0,none⟩) (by show w.heap.size+1<_;omega)).trans hHeld.2.2.2.2.1,(hb1.cell (p:=⟨w.heap.size+1,1,none⟩) (by show w.heap.size+1<_;omega)).trans hHeld.2.2.2.2.2.1,(hb1.cell (p:=⟨w.heap.size+1,2,none⟩) (by show w.heap.size+1<_;omega)).trans hHeld.2.2.2.2.2.2.1,(hb1.cell (p:=⟨w.heap.size+1,3,none⟩) (by show w.heap.size+1<_;omega)).trans hHeld.2.2.2.2.2.2.2⟩ (fun hHeld1=>?_)
 clear hK hHeld ho1 hb1 hbD
 have hHeld:=hHeld1
 clear hHeld1
 refine ready1 18 (fun K hK=>?_)
 go_simp
 have he:=eq_i _ _ lits lits w1 HI1.out (HL'.out.below HB1.out) (by omega)
 rw[beq_self_eq_true]at he
 refine he.mono ?_
 rintro e w2 ⟨rfl,n2,hn2⟩
 have hb2:Below w1.heap.size w1 w2:=by rw[hn2];exact mx_drewN w1 n2
 have hz2:=hb2.size
 have HB2:=Lib.hid (HB1.out.trans (hb2.mono HB1.out.size))
 refine hK.out _ _ ⟨(hb2.cell (p:=⟨w.heap.size,0,none⟩) (by show w.heap.size<_;omega)).trans hHeld.1,(hb2.cell (p:=⟨w.heap.size,1,none⟩) (by show w.heap.size<_;omega)).trans hHeld.2.1,(hb2.cell (p:=⟨w.heap.size,2,none⟩) (by show w.heap.size<_;omega)).trans hHeld.2.2.1,(hb2.cell (p:=⟨w.heap.size,3,none⟩) (by show w.heap.size<_;omega)).trans hHeld.2.2.2.1,(hb2.cell (p:=⟨w.heap.size+1,0,none⟩) (by show w.heap.size+1<_;omega)).trans hHeld.2.2.2.2.1,(hb2.cell (p:=⟨w.heap.size+1,1,none⟩) (by show w.heap.size+1<_;omega)).trans hHeld.2.2.2.2.2.1,(hb2.cell (p:=⟨w.heap.size+1,2,none⟩) (by show w.heap.size+1<_;omega)).trans hHeld.2.2.2.2.2.2.1,(hb2.cell (p:=⟨w.heap.size+1,3,none⟩) (by show w.heap.size+1<_;omega)).trans hHeld.2.2.2.2.2.2.2⟩ (fun hHeld1=>?_)
 clear hK hHeld hb2 hn2 he
 have hHeld:=hHeld1
 clear hHeld1
 refine takeS 19 24 ?_
 refine takeS 20 25 ?_
 refine takeS 21 26 ?_
 refine takeS 22 27 ?_
 refine takeS 23 28 ?_
 refine takeS 24 29 ?_
 refine ready1 25 (fun K hK=>?_)
 go_simp
 have he:=eq_i _ _ hints hints w2 (HH.out.below HB2.out) (HH'.out.below HB2.out) (by omega)
 rw[beq_self_eq_true]at he
 refine he.mono ?_
 rintro e w3 ⟨rfl,n3,hn3⟩
 have hb3:Below w2.heap.size w2 w3:=by rw[hn3];exact mx_drewN w2 n3
 have hz3:=hb3.size
 have HB3:=Lib.hid (HB2.out.trans (hb3.mono HB2.out.size))
 refine hK.out _ _ ⟨(hb3.cell (p:=⟨w.heap.size,0,none⟩) (by show w.heap.size<_;omega)).trans hHeld.1,(hb3.cell (p:=⟨w.heap.size,1,none⟩) (by show w.heap.size<_;omega)).trans hHeld.2.1,(hb3.cell (p:=⟨w.heap.size,2,none⟩) (by show w.heap.size<_;omega)).trans hHeld.2.2.1,(hb3.cell (p:=⟨w.heap.size,3,none⟩) (by show w.heap.size<_;omega)).trans hHeld.2.2.2.1,(hb3.cell (p:=⟨w.heap.size+1,0,none⟩) (by show w.heap.size+1<_;omega)).trans hHeld.2.2.2.2.1,(hb3.cell (p:=⟨w.heap.size+1,1,none⟩) (by show w.heap.size+1<_;omega)).trans hHeld.2.2.2.2.2.1,(hb3.cell (p:=⟨w.heap.size+1,2,none⟩) (by show w.heap.size+1<_;omega)).trans hHeld.2.2.2.2.2.2.1,(hb3.cell (p:=⟨w.heap.size+1,3,none⟩) (by show w.heap.size+1<_;omega)).trans hHeld.2.2.2.2.2.2.2⟩ (fun hHeld1=>?_)
 clear hK hHeld hb3 hn3 he
 refine takeS 26 31 ?_
 refine takeS 27 4 ?_
 refine wpAnyH_done (by kernel_rfl) ?_ _
 go_wp2_with fail
 go_ret
 exact⟨rfl,HB3.out⟩
set_option maxRecDepth 100000 in
set_option maxHeartbeats 1000000 in
theorem eq7_any {O O':Nat→Prop} (u v:Value) (xs:List EStep) (w:World) (h1:StepIn O w u xs) (h2:StepIn O' w v xs) (hn:xs.length≤1000000) (hs: ∀s∈xs,s.lits.length≤1000000∧s.hints.length≤1000000):
  Calls Tryz.prog 18 #[u,v] w fun e w'=>e= .returned (.bool true)∧Below w.heap.size w w':=by
 have H1:=Lib.hid h1
 have H2:=Lib.hid h2
 have HS:=Lib.hid hs
 obtain⟨A1,c1,rfl,hc1,_,_⟩:=h1
 obtain⟨A2,c2,rfl,hc2,_,_⟩:=h2
 obtain⟨L,hL⟩: ∃L,xs.length=L:=⟨_,rfl⟩
 have HL:=Lib.hid hL
 rw[hL]at H1 H2 hc1 hc2 hn⊢
 have hEF:Calls Tryz.prog 46 #[.slice A1 L c1,.slice A2 L c2,.func (.func 47) #[] #[]] w fun e w'=>e= .returned (.bool true)∧Below w.heap.size w w':=by
  clear hL hs
  have hEN: ∀args w,(callFunc 47 args).run Tryz.prog w= .ok (.enter 47 args) w:=enters_of Tryz.func47 (by kernel_rfl) rfl
  go_enter Tryz.func46,Tryz.ntmps46
  go_wp2_with fail
  go_loopw [17] (fun iv wr=> ∃i:Nat,i≤L∧iv= .int .i64 i∧Hid (Below w.heap.size w wr)) (fun iv _=>L-(intOf iv).toNat)
  case atStart=>exact⟨0,Nat.zero_le _,rfl,Lib.hid (Below.refl _ _)⟩
  case round=>
   obtain⟨i,hi,rfl,HB⟩:=hrel
   by_cases hlt:i<L
   ·obtain⟨s,hs⟩: ∃s,xs[i]? =some s:=⟨_,List.getElem?_eq_getElem (by rw[HL.out];exact hlt)⟩
    obtain⟨A',c',hAc,_,_,hxs⟩:=H1.out.below HB.out
    obtain⟨A'',c'',hAc',_,_,hys⟩:=H2.out.below HB.out
    simp only[Value.slice.injEq]at hAc hAc'
    obtain⟨rfl,-,rfl⟩:=hAc
    obtain⟨rfl,-,rfl⟩:=hAc'
    obtain⟨g,o,ul,uh,rfl,hg,_,d0,d1,d2,d3,hul,huh⟩:=hxs i s hs
    obtain⟨g',o',vl,vh,rfl,hg',_,e0,e1,e2,e3,hvl,hvh⟩:=hys i s hs
    obtain⟨hsl,hsh⟩:=HS.out s (List.mem_of_getElem? hs)
    obtain⟨W1,hW1,hb1,hx1,hz1⟩:=al_new wr #[.bool s.del,.int .i64 s.id,ul,uh] 34
    obtain⟨W2,hW2,hb2,hx2,hz2⟩:=al_new W1 #[.bool s.del,.int .i64 s.id,vl,vh] 78
    have hb12:=hb1.trans (hb2.mono hb1.size)
    have hx12:=(hb2.block _ (heap_lt hx1)).trans hx1
    have HSM:=Lib.hid (eq7_step s ul uh vl vh W2 (hul.below hb12) (huh.below hb12) (hvl.below hb12) (hvh.below hb12) hsl hsh)
    have HB2:=Lib.hid (HB.out.trans (hb12.mono HB.out.size))
    obtain⟨Al,cl,rfl,_⟩:=hul
    obtain⟨Ah,ch,rfl,_⟩:=huh
    obtain⟨Bl,dl,rfl,_⟩:=hvl
    obtain⟨Bh,dh,rfl,_⟩:=hvh
    have e0:=(hb1.cell (p:=⟨g',o'+i*4,none⟩) hg').trans e0
    have e1:=(hb1.cell (p:=⟨g',o'+i*4+1,none⟩) hg').trans e1
    have e2:=(hb1.cell (p:=⟨g',o'+i*4+2,none⟩) hg').trans e2
    have e3:=(hb1.cell (p:=⟨g',o'+i*4+3,none⟩) hg').trans e3
    have x0:=mx_cell (j:=0) hx12
    have x1:=mx_cell (j:=1) hx12
    have x2:=mx_cell (j:=2) hx12
    have x3:=mx_cell (j:=3) hx12
    have y0:=mx_cell (j:=0) hx2
    have y1:=mx_cell (j:=1) hx2
    have y2:=mx_cell (j:=2) hx2
    have y3:=mx_cell (j:=3) hx2
    have HW1:=Lib.hid hW1
    have HW2:=Lib.hid hW2
    clear hW1 hW2 hb1 hb2 hb12 hx1 hx2 hx12 hz1 hz2 hxs hys hs hsl hsh
    go_upto_region 6 with fail
    rw[HW1.out]
    go_upto_region 7 with fail
    rw[HW2.out]
    go_wp2_with fail
    refine HSM.out.mono ?_
    rintro e w3 ⟨rfl,hb3⟩
    have HB3:=Lib.hid (HB2.out.trans (hb3.mono HB2.out.size))
    clear hb3 x0 x1 x2 x3 y0 y1 y2 y3 d0 d1 d2 d3 e0 e1 e2 e3
    go_wp2_with fail
    go_roundw
    case rel=>exact⟨i+1,by omega,by go_num,HB3⟩
    case measure=>simp[intOf];omega
   ·obtain rfl:i=L:=by omega
    go_wp2_with fail
    go_ret
    exact⟨rfl,HB.out⟩
 have HEF:=Lib.hid hEF
 clear hEF hs
 go_enter Tryz.func18,Tryz.ntmps18
 go_wp2_with fail
 refine HEF.out.mono ?_
 rintro e w1 ⟨rfl,hb1⟩
 have HB1:=Lib.hid hb1
 clear hb1
 go_wp2_with fail
 go_ret
 exact⟨rfl,HB1.out⟩
end Go.Proofs.YtajbmjpodeilpaaGreat
namespace Go.Proofs.YtajbmjpodeilpaaGreat
open Go.RowKit
def LstOwn (n:Nat) (w:World) (v:Value) (cs:List (List Int)):Prop:=
 ∃us:List Value,w.ownsRow n 32 1 v cs.length us∧∀(i:Nat) (xs:List Int),cs[i]? =some xs→∃u,us[i]? =some u∧w.ownsRow n 3 1 u xs.length (xs.map (Value.int .i64))
theorem LstOwn.kept {O:Nat→Prop} {n:Nat} {w w':World} {v:Value} {cs:List (List Int)} (h:LstOwn n w v cs) (k:Kept O w w') (hO: ∀g,n≤g→¬O g):LstOwn n w' v cs:=by
 obtain⟨us,h1,h2⟩:=h
 refine⟨us,own_kept h1 k (fun g hg=>hO g (own_lt h1 g hg).1),fun i xs hi=>?_⟩
 obtain⟨u,hu,ho⟩:=h2 i xs hi
 exact⟨u,hu,own_kept ho k (fun g hg=>hO g (own_lt ho g hg).1)⟩
theorem LstOwn.below {n:Nat} {w w':World} {v:Value} {cs:List (List Int)} (h:LstOwn n w v cs) (hb:Below w.heap.size w w'):LstOwn n w' v cs:=
 h.kept (O:=fun _=>False) (Kept.of_below hb) (fun _ _ h=>h)
theorem LstOwn.clsIn {n:Nat} {w:World} {v:Value} {cs:List (List Int)} (h:LstOwn n w v cs):ClsIn (fun g=>n≤g) w v cs:=by
 obtain⟨us,h1,h2⟩:=h
 rcases h1.2 with⟨rfl,h0⟩|⟨g,cap,cur,rfl,hb,hg,hle,_⟩
 ·exact⟨none,0,by rw[h0],by omega,fun _=>rfl,fun i xs hi=>by
   have:=(List.getElem?_eq_some_iff.1 hi).1
   omega⟩
 ·refine⟨_,cap,rfl,hle,(fun h=>by cases h),fun i xs hi=>?_⟩
  obtain⟨u,hu,ho⟩:=h2 i xs hi
  exact⟨g,0,u,rfl,heap_lt hg,hb,by rw[Nat.zero_add];exact mx_at h1 hu,(IntsIn.of_own ho).mono (fun g hg=>(own_lt ho g hg.2).1)⟩
theorem info_lst:(Tryz.prog.info? 32).map (fun i=>(i.zero,i.size,i.bytes))=some (some (.slice none 0 0),1,24):=by kernel_rfl
theorem LstOwn.push {n:Nat} {w w1 w2:World} {v v' u:Value} {cs:List (List Int)} {xs:List Int} {us:List Value} (h1:w.ownsRow n 32 1 v cs.length us) (h2: ∀(i:Nat) (xs:List Int),cs[i]? =some xs→∃u,us[i]? =some u∧w.ownsRow n 3 1 u xs.length (xs.map (Value.int .i64)))
  (hb:Below w.heap.size w w1) (hu:w1.ownsRow n 3 1 u xs.length (xs.map (Value.int .i64))) (hg:w1.grownBy w2 v.ownBlock) (ho:w2.ownsRow n 32 1 v' (cs.length+1) (us++ [u])):LstOwn n w2 v' (cs++ [xs]):=by
 have hlu:us.length=cs.length:=by
  have:=h1.1
  omega
 have hk: ∀{u:Value} {ys:List Int},w1.ownsRow n 3 1 u ys.length (ys.map (Value.int .i64))→w2.ownsRow n 3 1 u ys.length (ys.map (Value.int .i64)):=fun hu=>own_kept hu (Kept.grown hg) (fun g hg e=>mx_apart hu (own_below h1 hb) (by decide) hg e.symm)
 refine⟨us++ [u],by rw[List.length_append];exact ho,fun i ys hi=>?_⟩
 by_cases hil:i<cs.length
 ·rw[List.getElem?_append_left hil]at hi
  obtain⟨z,hz,hzo⟩:=h2 i ys hi
  exact⟨z,by rw[List.getElem?_append_left (by omega)];exact hz,hk (own_below hzo hb)⟩
 ·have hi2:=(List.getElem?_eq_some_iff.1 hi).1
  rw[List.length_append,List.length_singleton]at hi2
  obtain rfl:i=cs.length:=by omega
  rw[List.getElem?_append_right (Nat.le_refl _),Nat.sub_self,List.getElem?_cons_zero]at hi
  obtain rfl:=Option.some.inj hi
  refine⟨u,?_,hk hu⟩
  rw[List.getElem?_append_right (by omega),hlu,Nat.sub_self,List.getElem?_cons_zero]
theorem free_of5 {w:World} {b j:Nat} {cs:Array Value} {t:TypeId} (h:w.heap[b]? =some (.cells cs t (0,0))):w.frozen? ⟨b,j,none⟩=false:=by
 simp[World.frozen?,h]
theorem two_set5 {W:World} {r:Nat} {z0 z1:Value} {t:TypeId} (h:W.heap[r]? =some (.cells #[z0,z1] t (0,0))) (c0 c1:Value): ∃WF,(W.setCell ⟨r,0,none⟩ c0).setCell ⟨r,1,none⟩ c1=WF∧WF.heap[r]? =some (.cells #[c0,c1] t (0,0))∧Kept (fun g=>g=r) W WF:=
 ⟨_,rfl,mx_set (mx_set h (j:=0) c0) (j:=1) c1,((Kept.refl (fun g=>g=r) W).setCell ⟨r,0,none⟩ _ rfl).setCell ⟨r,1,none⟩ _ rfl⟩
theorem res_two5 {fn:Func} {s:Nat} (h:fn.results= #[.cell s 38]) {w:World} {r:Nat} {c0 c1:Value} {t:TypeId} (h6:w.heap[r]? =some (.cells #[c0,c1] t (0,0)))
  (tmps:Array Value) (t6:tmps[s]?.getD undef= .pointer (some ⟨r,0,none⟩)):
  (results fn tmps).run Tryz.prog w= .ok (.agg #[c0,c1]) w:=by
 have p0:=mx_cell (j:=0) h6
 have p1:=mx_cell (j:=1) h6
 simp at p0 p1
 simp[results,h,go_sem,t6,p0,p1]
set_option maxRecDepth 100000 in
set_option maxHeartbeats 4000000 in
theorem theirs_05 {O:Nat→Prop} (vn:Int) (u:Value) (cs:List (List Int)) (w:World) (h:ClsIn O w u cs) (hl:cs.length≤1000000) (hcl: ∀c∈cs,c.length≤1000000):
  Calls Tryz.prog 12 #[.agg #[.int .i64 vn,u]] w fun e w'=> ∃v,e= .returned (.agg #[.int .i64 vn,v])∧LstOwn w.heap.size w' v cs∧Below w.heap.size w w':=by
 obtain⟨i0,hi,hz0,hz1,hz2⟩:=info_parts info_lst
 have HC:=Lib.hid h
 have HCL:=Lib.hid hcl
 obtain⟨A,c,rfl,hc,_⟩:=h
 obtain⟨W1,hW1,hb1,hx1,hz1'⟩:=al_new w #[.int .i64 vn,.slice A cs.length c] 24
 obtain⟨W2,hW2,hb2,hx2,hz2'⟩:=al_new W1 #[.int .i64 0,.slice none 0 0] 38
 rw[hz1']at hx2
 have hx1':=(hb2.block _ (heap_lt hx1)).trans hx1
 have HW1:=Lib.hid hW1
 have HW2:=Lib.hid hW2
 clear hcl hW1 hW2
 go_enter Tryz.func12,Tryz.ntmps12
 go_upto_region 1 with fail
 rw[HW1.out,HW2.out]
 have b0:=mx_cell (j:=0) hx1'
 have b1:=mx_cell (j:=1) hx1'
 obtain⟨W3,hW3,hb3,hx3,hz3'⟩:=al_new W2 #[.int .i64 vn,.slice none 0 0] 38
 rw[hz2',hz1']at hx3
 have hx13:=(hb3.block _ (heap_lt hx1')).trans hx1'
 have hx23:=(hb3.block _ (heap_lt hx2)).trans hx2
 have HW3:=Lib.hid hW3
 have HX2:=Lib.hid hx23
 have HX3:=Lib.hid hx3
 have hz3:W3.heap.size=w.heap.size+1+1+1:=by omega
 have HB3:=Lib.hid (show Below w.heap.size w W3 from(hb1.trans (hb2.mono hb1.size)).trans (hb3.mono (by omega)))
 clear hW3
 go_upto_region 2 with fail
 rw[HW3.out]
 clear b0 b1
 have b1:=mx_cell (j:=1) hx13
 clear hb1 hb2 hb3 hx1 hx1' hx2 hx3 hx13 hx23 hz1' hz2' hz3' HW1 HW2 HW3
 go_wp2_with fail
 clear b1
 go_loopw [12] (fun iv wr=> ∃(k:Nat) (ov:Value),k≤cs.length∧iv= .int .i64 k∧Hid (wr.heap[w.heap.size+1+1]? =some (.cells #[.int .i64 vn,ov] 38 (0,0)))∧Hid (LstOwn W3.heap.size wr ov (cs.take k))∧Hid (Kept (fun g=>g=w.heap.size+1+1) W3 wr)) (fun iv _=>cs.length-(intOf iv).toNat)
 case atStart=>exact⟨0,.slice none 0 0,Nat.zero_le _,rfl,HX3,Lib.hid ⟨[],World.ownsRow_nil _ _ _ _,fun i xs h=>by simp at h⟩,Lib.hid (Kept.refl _ _)⟩
 case round=>
  obtain⟨k,ov,hk,rfl,HBX,HR,HK⟩:=hrel
  have hzr:=HK.out.size
  by_cases hlt:k<cs.length
  ·obtain⟨x,hxk⟩:=getElem_of hlt
   have HXL:=Lib.hid (HCL.out x (List.mem_of_getElem? hxk))
   obtain⟨A',c',hv,_,_,hx⟩:=HC.out
   simp only[Value.slice.injEq,true_and]at hv
   obtain⟨rfl,rfl⟩:=hv
   obtain⟨g,o,uv,rfl,hg,_,d0,hu⟩:=hx k x hxk
   have hkw:Kept (fun g=>w.heap.size≤g) w wr:=(Kept.of_below HB3.out).trans (HK.out.mono (O':=fun g=>w.heap.size≤g) (fun g _ e=>by omega)) (fun _ _ h=>h) |>.mono (fun _ _ h=>h)
   have hbw:Below w.heap.size w wr:=hkw.below (fun _ h=>h) (Nat.le_refl _)
   have d1:=(hbw.cell (p:=⟨g,o+k,none⟩) hg).trans d0
   have HM:=Lib.hid (fun(X:World) (hX:Below wr.heap.size wr X)=>ints02 uv x X ((hu.below hbw).below hX) HXL.out)
   obtain⟨us,h1,h2⟩:=HR.out
   have hlk:(cs.take k).length=k:=by rw[List.length_take];omega
   have HUS:=Lib.hid h1
   have HU2:=Lib.hid h2
   have HLK:=Lib.hid hlk
   rw[hlk]at h1
   obtain⟨Ao,co,rfl,_⟩:=mx_slice h1
   obtain⟨Au,cu,rfl,_⟩:=hu
   have HO1:=Lib.hid h1
   have HTK:=Lib.hid (show cs.take (k+1)=cs.take k++ [x]from by
    rw[List.take_add_one,hxk]
    rfl)
   have hbl:w.heap.size+1+1<wr.heap.size:=heap_lt HBX.out
   have HBC:=Lib.hid (show wr.cell? ⟨w.heap.size+1+1,1,none⟩=some (.slice Ao k co)from mx_cell (j:=1) HBX.out)
   clear h1 h2 hlk hxk d0 hx hkw hbw
   go_upto_region 5 with fail
   refine wp_region_sink_at (S:=fun w'=>w'.cell? ⟨w.heap.size+1+1,1,none⟩=some (.slice Ao k co)) (by kernel_rfl) rfl (by kernel_rfl) (((mx_drew wr).cell (p:=⟨w.heap.size+1+1,1,none⟩) hbl).trans HBC.out) (fun hS=>?_)
   have hbD:=mx_drew wr
   obtain⟨xD,hxD⟩: ∃z,wr.drew=z:=⟨_,rfl⟩
   rw[hxD]at hS hbD⊢
   clear hxD
   refine takeE 0 16 ?_
   refine takeS 1 17 ?_
   refine takeE 2 18 ?_
   refine ready1 3 (fun K hK=>?_)
   go_simp
   refine(HM.out _ hbD).mono ?_
   rintro e w1 ⟨vx,rfl,hox,hb1⟩
   obtain⟨Ax,cx,rfl,_⟩:=mx_slice hox
   have hbr1:=hbD.trans (hb1.mono hbD.size)
   refine hK.out _ _ ((hbr1.cell (p:=⟨w.heap.size+1+1,1,none⟩) hbl).trans HBC.out) (fun _=>?_)
   clear hK
   refine ready1 4 (fun K hK=>?_)
   go_simp
   obtain⟨w2,hw2,hb2,-,hzw2⟩:=al_new w1 #[.slice Ax x.length cx] 32
   rw[hw2]
   have hbr2:=hbr1.trans (hb2.mono hbr1.size)
   refine hK.out _ _ ((hbr2.cell (p:=⟨w.heap.size+1+1,1,none⟩) hbl).trans HBC.out) (fun _=>?_)
   clear hK
   have hwz1:=hbr1.size
   have hwz2:=hbr2.size
   refine ready1 5 (fun K hK=>?_)
   rw[if_pos (by rfl)]
   refine wp_append_at 21 (by rfl) _ _ 36 rfl W3.heap.size 32 i0 (.slice none 0 0) 1 24 Tryz.underlying36 hi hz0 hz1 hz2 rfl (by decide) _ k _ (by rfl) (own_below HO1.out hbr2) ⟨w1.heap.size,0,none⟩ 1 1 [.slice Ax x.length cx] (by rfl) rfl (by rw[←hw2];exact cell_one_new' _ _ _) (by simp[Value.oneCell']) (by unfold maxLen;omega) (by omega) (by omega) ?_
   intro v' w4 hown hgrow hat
   obtain⟨Av,cv,rfl,_⟩:=mx_slice hown
   have hgk:=Kept.grown hgrow
   have hblk:=(hgk.block (w.heap.size+1+1) (Nat.lt_of_lt_of_le hbl hwz2) (fun e=>mx_not HO1.out HBX.out (by decide) e.symm)).trans ((hbr2.block _ hbl).trans HBX.out)
   have HBK:=Lib.hid hblk
   have hpush:=LstOwn.push HUS.out HU2.out hbr2 (own_below (own_mono hox (by have:=hbD.size;omega)) hb2) hgrow (by rw[HLK.out];exact hown)
   rw[←HTK.out]at hpush
   have HP:=Lib.hid hpush
   have HK4:=Lib.hid (show Kept (fun g=>g=w.heap.size+1+1) W3 w4 from(HK.out.trans (Kept.of_below hbr2) (fun _ _ h=>h)).trans hgk (fun i hi e=>by
    have:=(own_lt HO1.out i e.symm).1
    omega))
   refine hK.out _ _ (mx_cell (j:=1) hblk) (fun _=>?_)
   clear hK hown hgrow hat hgk hblk hpush hox hb1 hb2 hbr1 hbr2 hbD hw2 hzw2
   simp only[Act.put,List.setIfInBounds_toArray,List.set_cons_zero,List.set_cons_succ]
   refine takeE 6 22 ?_
   refine wpAnyH_done (by kernel_rfl) ?_ _
   refine lastPost_normal ?_
   have y1:=mx_cell (j:=1) HBK.out
   have f1:=free_of5 (j:=1) HBK.out
   refine wpOp_step rfl (fun K hK=>?_)
   go_simp
   refine hK _ _ ?_
   clear hK y1 f1
   have hk5:Kept (fun g=>g=w.heap.size+1+1) w4 (w4.setCell ⟨w.heap.size+1+1,1,none⟩ (.slice Av (k+1) cv)):=(Kept.refl (fun g=>g=w.heap.size+1+1) w4).setCell ⟨w.heap.size+1+1,1,none⟩ _ rfl
   have HB5:=Lib.hid (show(w4.setCell ⟨w.heap.size+1+1,1,none⟩ (.slice Av (k+1) cv)).heap[w.heap.size+1+1]? =some (.cells #[.int .i64 vn,.slice Av (k+1) cv] 38 (0,0))from mx_set HBK.out _ (j:=1))
   have HP5:=Lib.hid (HP.out.kept hk5 (fun g hg e=>by omega))
   have HK5:=Lib.hid (HK4.out.trans hk5 (fun _ _ h=>h))
   clear hk5
   go_wp2_with fail
   go_roundw
   case rel=>exact⟨k+1,.slice Av (k+1) cv,by omega,by go_num,HB5,HP5,HK5⟩
   case measure=>simp[intOf];omega
  ·obtain rfl:k=cs.length:=by omega
   have hR:=HR.out
   rw[List.take_length]at hR
   have HRF:=Lib.hid hR
   obtain⟨Ao,co,rfl,_⟩:=mx_slice hR.choose_spec.1
   have hb2r:=(HK.out.block (w.heap.size+1) (by omega) (by omega)).trans HX2.out
   have HBR:=Lib.hid hb2r
   have y0:=mx_cell (j:=0) HBX.out
   have y1:=mx_cell (j:=1) HBX.out
   have x0:=mx_cell (j:=0) hb2r
   have x1:=mx_cell (j:=1) hb2r
   have f0:=free_of5 (j:=0) hb2r
   have f1:=free_of5 (j:=1) hb2r
   clear hR hb2r
   go_wp2_with fail
   obtain⟨WF,hWF,hrF,hkF⟩:=two_set5 HBR.out (.int .i64 vn) (.slice Ao cs.length co)
   rw[hWF]
   refine bodyPost_ret (res_two5 rfl hrF _ rfl) rfl ?_
   refine⟨_,rfl,?_,?_⟩
   ·have:=HRF.out.kept hkF (fun g hg e=>by omega)
    obtain⟨us,q1,q2⟩:=this
    exact⟨us,own_mono q1 (by omega),fun i xs hi=>by
     obtain⟨u,q3,q4⟩:=q2 i xs hi
     exact⟨u,q3,own_mono q4 (by omega)⟩⟩
   ·have hkw:Kept (fun g=>w.heap.size≤g) w WF:=((Kept.of_below HB3.out).trans (HK.out.mono (O':=fun g=>w.heap.size≤g) (fun g _ e=>by omega)) (fun _ _ h=>h)).trans (hkF.mono (O':=fun g=>w.heap.size≤g) (fun g _ e=>by omega)) (fun _ _ h=>h)
    exact hkw.below (fun _ h=>h) (Nat.le_refl _)
end Go.Proofs.YtajbmjpodeilpaaGreat
