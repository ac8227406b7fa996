/- The examples of chapter 10: awake. IndexFunc at steps; what is resolved: plain. Plain: what comes of a deletion (ProofDeletes). package salvorlaw10: ProofResolves. -/
import Derived.Test.YtkfgplfllddhnaaGreatV230
import Derived.Test.YtkfgplfllddhnaaGreatV232
import Derived.Test.YtkfgplfllddhnaaGreatV228
import Derived.Test.YtkfgplfllddhnaaGreatV229
namespace Go.Proofs.YtkfgplfllddhnaaGreat
open Go.RowKit
theorem trim_ex:TrimEx:=by
 intro O Os lv sv w h hs
 refine(proof_trim 2 _ _ fourC exM w h four_ok.1 (by decide) four_ok.2 hs (by decide) (by decide)).mono ?_
 rintro e w' ⟨ht,hb⟩
 unfold TrimOut at ht
 rw[ex_run,if_neg (fun h=>h rfl),ex_trm,if_neg (fun h=>by cases h)]at ht
 obtain⟨v,K,rfl,hK,hm⟩:=ht
 rw[ex_bk]at hK
 have hl:K.length=2:=by simpa using congrArg List.length hK
 obtain⟨x,y,rfl⟩: ∃x y,K= [x,y]:=by
  rcases K with _|⟨x,_|⟨y,_|⟨z,r⟩⟩⟩
  ·cases hl
  ·cases hl
  ·exact⟨x,y,rfl⟩
  ·simp at hl
 have hx:x.1=⟨false,6,[2],[1,2]⟩:=(List.cons.inj hK).1
 obtain⟨g,c,rfl⟩:=ownsRow_succ hm.row
 obtain⟨-,e1,-,-⟩:=stcell_at [x,y] 0 x rfl
 have:=mx_at hm.row e1
 rw[hx]at this
 exact⟨g,c,rfl,this,hb⟩
theorem awake10_any (w:World):Calls Tryz.prog 8 #[] w fun e w'=>e= .returned (.bool true)∧Below w.heap.size w w':=awake10_core trim_ex w
end Go.Proofs.YtkfgplfllddhnaaGreat
namespace Go.Proofs.YtkfgplfllddhnaaGreat
open Go.RowKit
def TellsS (O:Nat→Prop) (w:World) (F:Nat) (caps:Array Value) (ss:List EStep) (P:EStep→Bool):Prop:= ∀W,Below w.heap.size w W→∀ul uh s,s∈ss→IntsIn O W ul s.lits→IntsIn O W uh s.hints→Calls Tryz.prog F (#[.agg #[.bool s.del,.int .i64 s.id,ul,uh]]++caps) W fun e w'=>e= .returned (.bool (P s))∧Below W.heap.size W w'
theorem made_six (xss:List (List Int)): ∀c∈(xss.take 14).map madeL,Lit6 c:=fun c hc=>by
 obtain⟨xs,_,rfl⟩:=List.mem_map.1 hc
 unfold madeL
 refine⟨?_,fun y hy=>?_⟩
 ·rw[List.length_map,List.length_take]
  omega
 ·obtain⟨x,_,rfl⟩:=List.mem_map.1 hy
  obtain⟨h1,h2⟩:=madeLit_rng x
  have hb:litB (madeLit x)=true:=(litB_iff _).2 (by omega)
  exact⟨hb,by have:=(litV_pos hb).2;omega⟩
theorem lit6_fgo: ∀(cs:List (List Int)) (i:Nat),(∀c∈cs,Lit6 c)→fchkGo 6 i cs=(-1,0)
 | [],_,_=>rfl
 | c::r,i,h=>by
  have hc:=h c List.mem_cons_self
  unfold fchkGo
  rw[if_neg (by rw[hc.clause];decide),if_neg (by
   rw[show c.any (beyB 6)=false from List.any_eq_false.2 fun y hy=>by
    obtain⟨h1,h2⟩:=hc.2 y hy
    unfold beyB
    rw[h1,decide_eq_false (by omega)]
    decide]
   decide)]
  exact lit6_fgo r (i+1) fun d hd=>h d (List.mem_cons_of_mem _ hd)
theorem lit6_fchk {cs:List (List Int)} (h: ∀c∈cs,Lit6 c) (hn:cs.length≤1000):fchk 6 cs=(-1,0):=by
 unfold fchk
 rw[if_neg (by decide),if_neg (by omega)]
 exact lit6_fgo cs 0 h
end Go.Proofs.YtkfgplfllddhnaaGreat
namespace Go.Proofs.YtkfgplfllddhnaaGreat
open Go.RowKit
section
variable {a b c:List Int} {l:Int}
theorem res_few0 (h:ResO a b c l) (hc:clauseB c=true):(chkP c []).2.2=82:=by
 obtain⟨f,hf,hs⟩:=asm_ok hc h.nc
 unfold chkP
 rw[if_neg (by rw[alwL_no h.nc];decide),hf]
 rfl
theorem res_few1 (h:ResO a b c l) (ha:clauseB a=true) (hc:clauseB c=true):(chkP c [a]).2.2=82:=by
 have hlb:=clauseB_lit ha h.la
 obtain⟨f,hf,hs⟩:=asm_ok hc h.nc
 have hneg: ∀y,litB y=true→(ofF f y<0↔y∈c):=fun y hy=>by
  rw[(hs y hy).2]
  show- -y∈c↔_
  rw[Int.neg_neg]
 have hpos: ∀y,litB y=true→(0<ofF f y↔ -y∈c):=fun y hy=>(hs y hy).1
 have hl0:ofF f l=0:=by
  have h1: ¬0<ofF f l:=fun e=>((h.mem _).1 ((hpos l hlb).1 e)).2.2 rfl
  have h2: ¬ofF f l<0:=fun e=>((h.mem _).1 ((hneg l hlb).1 e)).2.1 rfl
  omega
 have h1:lookF f a=(3,l):=by
  refine k_unit h.la hl0 (fun y hy hne=>?_) (fun y hy=>litB_ne (clauseB_lit ha hy))
  refine(hneg y (clauseB_lit ha hy)).2 ((h.mem y).2 ⟨.inl hy,hne,fun e=>?_⟩)
  exact h.na l h.la (e▸hy)
 unfold chkP
 rw[if_neg (by rw[alwL_no h.nc];decide),hf]
 simp only
 have e:folGo f [a] [] 0=([l],1,false,0):=by
  unfold folGo
  rw[h1,if_neg (by show¬(3:Nat)=2;decide),if_pos rfl]
  rfl
 rw[e]
 rfl
end
theorem entsFrom_at: ∀(cs:List (List Int)) (i j:Nat),(entsFrom i cs)[j]? =cs[j]?.map fun c=>(((i+j:Nat):Int)+1,c):=by
 intro cs
 induction cs with
 | nil=>exact fun i j=>rfl
 | cons c r ih=>
  intro i j
  cases j with
  | zero=>rfl
  | succ j=>
   show(entsFrom (i+1) r)[j]? =r[j]?.map _
   rw[ih,show i+1+j=i+(j+1) by omega]
theorem entsFrom_del: ∀(cs:List (List Int)) (i j:Nat),j<cs.length→delA (entsFrom i cs) (((i+j:Nat):Int)+1)=(entsFrom i cs).eraseIdx j:=by
 intro cs
 induction cs with
 | nil=>exact fun _ _ h=>absurd h (Nat.not_lt_zero _)
 | cons c r ih=>
  intro i j hj
  cases j with
  | zero=>
   show List.filter _ (((i:Int)+1,c)::entsFrom (i+1) r)=entsFrom (i+1) r
   rw[List.filter_cons_of_neg (by simp)]
   refine delA_none fun p hp=>?_
   obtain⟨q,h1,h2⟩:=entsFrom_mem.1 hp
   omega
  | succ j=>
   have hj':j<r.length:=by rw[List.length_cons]at hj;omega
   have:=ih (i+1) j hj'
   rw[show i+1+j=i+(j+1) by omega]at this
   show List.filter _ (((i:Int)+1,c)::entsFrom (i+1) r)=((i:Int)+1,c)::(entsFrom (i+1) r).eraseIdx j
   rw[List.filter_cons_of_pos (by simp;omega)]
   exact congrArg _ this
def ckDelOf (cs:List (List Int)) (m:Nat):Ckr:=⟨(entsFrom 0 cs).eraseIdx m,cs.length,false,0,1,0,cs.length⟩
def delS (n:Int) (id:Int):EStep:=⟨true,n,[],[id]⟩
section
variable {cs:List (List Int)} {m:Nat}
theorem delS_right (hm:m<cs.length) (hn:cs.length≤1000):stepB (delS cs.length ((m:Int)+1))=true:=by
 unfold stepB delS
 simp only[clauseB,List.length_nil,List.length_cons,List.all_nil,List.any_cons,List.any_nil,Bool.true_and,Bool.and_true,Bool.or_false,Bool.not_true,Bool.false_and]
 simp only[Bool.and_eq_true,Bool.not_eq_true',Bool.or_eq_false_iff,decide_eq_false_iff_not,decide_eq_true_eq]
 refine⟨⟨⟨by omega,by omega⟩,by omega⟩,⟨by omega,by omega⟩,⟨⟨by omega,by omega⟩,by omega⟩,by omega⟩
theorem del_one (hm:m<cs.length) (hn:cs.length≤1000) (he:cs.any List.isEmpty=false):(ckrOf cs 0).do_ (delS cs.length ((m:Int)+1))=(ckDelOf cs m,0,0,0):=by
 have hg:getA (entsFrom 0 cs) ((m:Int)+1)=some cs[m]:=entsFrom_get (List.getElem?_eq_getElem hm)
 have hd:=entsFrom_del cs 0 m hm
 rw[Nat.zero_add]at hd
 have hc:ckDel (entsFrom 0 cs) [(m:Int)+1]=((entsFrom 0 cs).eraseIdx m,0,0):=by
  unfold ckDel
  rw[hg,if_neg (by simp),hd]
  rfl
 unfold Ckr.do_
 rw[if_neg (by show¬cs.any List.isEmpty=true;rw[he];decide),if_neg (by rw[delS_right hm hn];decide),if_neg (by
  show¬((cs.length:Int)<(cs.length:Int)∨(cs.length:Int)=(cs.length:Int)∧true=false)
  simp),if_pos (show(delS (cs.length:Int) ((m:Int)+1)).del=true from rfl)]
 show(if(ckDel (entsFrom 0 cs) [(m:Int)+1]).2.2=0 then _ else _)=_
 rw[if_pos (by rw[hc])]
 have e3:ckDel (ckrOf cs 0).ents (delS cs.length ((m:Int)+1)).hints=((entsFrom 0 cs).eraseIdx m,0,0):=hc
 rw[e3]
 unfold ckrOf ckDelOf delS
 simp only[he]
 rfl
theorem left_none (hm:m<cs.length):getA ((entsFrom 0 cs).eraseIdx m) ((m:Int)+1)=none:=by
 have hd:=entsFrom_del cs 0 m hm
 rw[Nat.zero_add]at hd
 rw[←hd,getA_del (entsFrom_rise cs 0),if_pos rfl]
theorem left_some (hm:m<cs.length) {j:Nat} {c:List Int} (hj:cs[j]? =some c) (hne:j≠m):getA ((entsFrom 0 cs).eraseIdx m) ((j:Int)+1)=some c:=by
 have hd:=entsFrom_del cs 0 m hm
 rw[Nat.zero_add]at hd
 rw[←hd,getA_del (entsFrom_rise cs 0),if_neg (by omega),entsFrom_get hj]
theorem del_two (hm:m<cs.length) (hn:cs.length≤1000):(ckDelOf cs m).do_ (delS cs.length ((m:Int)+1))=(ckDelOf cs m,0,(m:Int)+1,91):=by
 have hc:ckDel ((entsFrom 0 cs).eraseIdx m) [(m:Int)+1]=((entsFrom 0 cs).eraseIdx m,(m:Int)+1,91):=by
  unfold ckDel
  rw[left_none hm,if_pos (show(none:Option (List Int)).isNone=true from rfl)]
 unfold Ckr.do_
 rw[if_neg (by show¬false=true;decide),if_neg (by rw[delS_right hm hn];decide),if_neg (by
  show¬((cs.length:Int)<(cs.length:Int)∨(cs.length:Int)=(cs.length:Int)∧true=false)
  simp),if_pos (show(delS (cs.length:Int) ((m:Int)+1)).del=true from rfl)]
 show(if(ckDel ((entsFrom 0 cs).eraseIdx m) [(m:Int)+1]).2.2=0 then _ else _)=_
 rw[if_neg (by rw[hc];show¬(91:Nat)=0;decide)]
 show(ckDelOf cs m,0,(ckDel ((entsFrom 0 cs).eraseIdx m) [(m:Int)+1]).2)=_
 rw[hc]
theorem ckDelOf_ok (hm:m<cs.length) (hn:cs.length≤999) (he:cs.any List.isEmpty=false) (hc: ∀c∈cs,clauseB c=true):(ckDelOf cs m).Ok 1001:=by
 have:=do_ok (s:=delS cs.length ((m:Int)+1)) (ckrOf_ok (j:=0) hc (by omega) (by omega))
 rw[del_one hm (by omega) he]at this
 exact this
theorem left_at (i:Nat):((entsFrom 0 cs).eraseIdx m)[i]? =(cs[if m≤i then i+1 else i]?).map fun c=>((((if m≤i then i+1 else i):Nat):Int)+1,c):=by
 rw[List.getElem?_eraseIdx]
 by_cases h:i<m
 ·rw[if_pos h,if_neg (by omega),entsFrom_at,Nat.zero_add]
 ·rw[if_neg h,if_pos (by omega),entsFrom_at,Nat.zero_add]
theorem left_len (hm:m<cs.length):((entsFrom 0 cs).eraseIdx m).length=cs.length-1:=by
 rw[List.length_eraseIdx_of_lt (by rw[entsFrom_len];exact hm),entsFrom_len]
theorem del_step (hm:m<cs.length) (hn:cs.length≤999) (h6: ∀c∈cs,Lit6 c) {s:EStep} (hs:ResSteps cs [s]):
  ∃i k:Nat,s.hints= [(i:Int)+1,(k:Int)+1]∧i<cs.length∧k<cs.length∧
   (i≠m→k≠m→((ckDelOf cs m).do_ s).2=(1,0,0))∧
   (i=m→((ckDelOf cs m).do_ s).2=(0,(m:Int)+1,91))∧
   (i≠m→k=m→((ckDelOf cs m).do_ s).2=(0,(m:Int)+1,91)):=by
 obtain⟨i,k,a,b,x,h1,h2,h3,h4,h5,h7,h8,h9,_,h11⟩:=hs 0 s rfl
 rw[Nat.add_zero]at h2 h4 h5
 have hi:cs[i]? =some a:=by rwa [List.getElem?_append_left h4]at h7
 have hk:cs[k]? =some b:=by rwa [List.getElem?_append_left h5]at h8
 have ha:=(h6 a (List.mem_of_getElem? hi)).clause
 have hb:=(h6 b (List.mem_of_getElem? hk)).clause
 have hc:=h11.clause
 have hsb:stepB s=true:=by
  unfold stepB
  rw[h1,h2,h3,hc]
  simp only[List.length_cons,List.length_nil,List.any_cons,List.any_nil,Bool.false_and,Bool.or_false,Bool.not_false,Bool.true_and]
  simp only[Bool.and_eq_true,Bool.not_eq_true',Bool.or_eq_false_iff,decide_eq_false_iff_not,decide_eq_true_eq]
  refine⟨⟨⟨by omega,by omega⟩,by omega⟩,by omega,⟨⟨by omega,by omega⟩,by omega⟩,⟨by omega,by omega⟩,by omega⟩
 have hsp:splitL s.hints=([(i:Int)+1,(k:Int)+1],[]):=by
  rw[h3]
  exact split_pos (fun x hx=>by
   rcases List.mem_cons.1 hx with e|hx
   ·omega
   ·have:=List.mem_singleton.1 hx
    omega)
 have hdo:((ckDelOf cs m).do_ s).2=if(ckAdd ((entsFrom 0 cs).eraseIdx m) s.lits s.hints).2.2≠0 then(0,(ckAdd ((entsFrom 0 cs).eraseIdx m) s.lits s.hints).2)else((ckAdd ((entsFrom 0 cs).eraseIdx m) s.lits s.hints).1,0,0):=by
  unfold Ckr.do_
  rw[if_neg (by show¬false=true;decide),if_neg (by rw[hsb];decide),if_neg (by
   rw[h1,h2]
   show¬((cs.length:Int)+1<(cs.length:Int)∨(cs.length:Int)+1=(cs.length:Int)∧false=false)
   omega),if_neg (by rw[h1];decide)]
  show(if(ckAdd ((entsFrom 0 cs).eraseIdx m) s.lits s.hints).2.2≠0 then _ else _:Ckr×Nat×Int×Nat).2=_
  split <;> rfl
 have hbad: ∀x:List (List Int),ckNamed ((entsFrom 0 cs).eraseIdx m) [(i:Int)+1,(k:Int)+1]=x→(chkP s.lits x).2.2=82→x.length<2→([(i:Int)+1,(k:Int)+1].getD x.length 0)=(m:Int)+1→((ckDelOf cs m).do_ s).2=(0,(m:Int)+1,91):=fun x hx h82 hl hg=>by
  have:ckAdd ((entsFrom 0 cs).eraseIdx m) s.lits s.hints=(0,(m:Int)+1,91):=by
   unfold ckAdd
   rw[hsp]
   simp only
   have hf:ckFol ((entsFrom 0 cs).eraseIdx m) s.lits [(i:Int)+1,(k:Int)+1]=(false,(m:Int)+1,91):=by
    unfold ckFol
    rw[hx,h82,if_neg (by decide),if_neg (by decide),if_pos (show x.length< [(i:Int)+1,(k:Int)+1].length from hl),hg]
   rw[hf,if_pos (show(91:Nat)≠0 by decide)]
  rw[hdo,this,if_pos (show(91:Nat)≠0 by decide)]
 refine⟨i,k,h3,h4,h5,fun e1 e2=>?_,fun e1=>?_,fun e1 e2=>?_⟩
 ·have hnm:ckNamed ((entsFrom 0 cs).eraseIdx m) [(i:Int)+1,(k:Int)+1]= [a,b]:=by
   simp only[ckNamed,left_some hm hi e1,left_some hm hk e2]
  have:ckAdd ((entsFrom 0 cs).eraseIdx m) s.lits s.hints=(1,0,0):=by
   unfold ckAdd
   rw[hsp]
   simp only
   have hf:ckFol ((entsFrom 0 cs).eraseIdx m) s.lits [(i:Int)+1,(k:Int)+1]=(true,0,0):=by
    unfold ckFol
    rw[hnm,res_chk h9 ha hb hc,if_pos rfl]
   rw[hf]
   rfl
  rw[hdo,this]
  rfl
 ·subst e1
  refine hbad [] ?_ (res_few0 h9 hc) (by decide) rfl
  unfold ckNamed
  rw[left_none hm]
 ·subst e2
  refine hbad [a] ?_ (res_few1 h9 ha hc) (Nat.lt_succ_self 1) rfl
  simp only[ckNamed,left_some hm hi e1,left_none hm]
end
end Go.Proofs.YtkfgplfllddhnaaGreat
namespace Go.Proofs.YtkfgplfllddhnaaGreat
open Go.RowKit
end Go.Proofs.YtkfgplfllddhnaaGreat
